/- The abstract machine Am, part X1: regions whose operations may be whole calls: what is written is a list; what is kept (Ext) is told. -/
import Derived.Test.YtnjommobapmgbaaAmQ
namespace Go.Am
open Go.RowKit
variable [Base]

/-- What an operation leaves: its value, the blocks that it looked into, the blocks that it wrote; all: it may have looked into every block. -/
structure Ef where
  val : AV
  rd : List Nat
  wr : List (Nat × ABlk)
  all : Bool

def updl (h : Nat → Option ABlk) : List (Nat × ABlk) → Nat → Option ABlk
  | [] => h
  | (b, k) :: l => updl (upd h b (some k)) l
def hsetl (H : List (Option ABlk)) : List (Nat × ABlk) → List (Option ABlk)
  | [] => H
  | (b, k) :: l => hsetl (hset H b k) l
def wrote (b : Nat) : List (Nat × ABlk) → Bool
  | [] => false
  | (c, _) :: l => Nat.beq c b || wrote b l

omit [Base] in
theorem hget_setl : ∀ (wr : List (Nat × ABlk)) (H : List (Option ABlk)), hget (hsetl H wr) = updl (hget H) wr
  | [], _ => rfl
  | (b, k) :: l, H => by
    simp only [hsetl, updl, hget_setl l]
    congr 1
    funext i; simp only [upd, hget_set]
omit [Base] in
theorem updl_not : ∀ (wr : List (Nat × ABlk)) (f : Nat → Option ABlk) (b : Nat), wrote b wr = false → updl f wr b = f b
  | [], _, _, _ => rfl
  | (c, k) :: l, f, b, h => by
    simp only [wrote, Bool.or_eq_false_iff] at h
    simp only [updl]
    rw [updl_not l _ b h.2]
    exact upd_ne _ _ (fun e => by subst e; simp at h)
omit [Base] in
theorem updl_is : ∀ (wr : List (Nat × ABlk)) (f g : Nat → Option ABlk) (b : Nat), wrote b wr = true → updl f wr b = updl g wr b
  | [], _, _, _, h => by simp [wrote] at h
  | (c, k) :: l, f, g, b, h => by
    simp only [updl]
    by_cases hl : wrote b l = true
    · exact updl_is l _ _ b hl
    · simp only [Bool.not_eq_true] at hl
      simp only [wrote, hl, Bool.or_false] at h
      have : c = b := Nat.eq_of_beq_eq_true h
      subst this
      rw [updl_not l _ c hl, updl_not l _ c hl, upd_same, upd_same]

def OpOK2 (P : Program) (w0 : World) (r : Option Nat) (o : Oper) (ρ : Operand → AV) (h : Nat → Option ABlk) (e : Ef) : Prop :=
  ∀ (h' : Nat → Option ABlk) (m : Nat → Option Loc) (w : World) (a : Act) (next : Act → World → Prop) (Q : Exit → Act → World → Prop),
    (∀ b, b ∈ e.rd → h' b = h b) → (∀ b, wrote b e.wr = true → h' b = h b) → (e.all = true → h' = h) → Good w0 h' m w → (∀ x, x ∈ o.op.operands → Rep h' m w (ρ x) (a.eval x)) →
    (∀ v w' m', Good w0 (updl h' e.wr) m' w' → Ext h' m w (updl h' e.wr) m' w' → Rep (updl h' e.wr) m' w' e.val v → next (a.put o.dst v) w') → o.wpIn (FW r) 0 P a w next Q

/-- An operation of the elder kind. -/
def lift (e : E) : Ef := ⟨e.val, e.rd, (match e.wr with | none => [] | some p => [p]), false⟩
theorem OpOK.lift {P : Program} {w0 : World} {r : Option Nat} {o : Oper} {ρ : Operand → AV} {h : Nat → Option ABlk} {e : E} (k : OpOK P w0 r o ρ h e) : OpOK2 P w0 r o ρ h (lift e) := by
  obtain ⟨val, rd, wr⟩ := e
  intro h' m w a next Q h1 h2 _ hg hop hn
  refine k h' m w a next Q h1 (fun b blk hb => h2 b ?_) hg hop ?_
  · simp only at hb; subst hb; simp [Am.lift, wrote]
  · cases wr with
    | none => exact hn
    | some p => exact hn

/-- A state, its blocks as a function. -/
structure Sf where
  T : List AV
  h : Nat → Option ABlk
  D : List Nat
def St.f (s : St) : Sf := ⟨s.T, hget s.H, s.D⟩

/-- The trace of a region. -/
inductive Trace2 (P : Program) (w0 : World) (r : Option Nat) (all : Array Oper) : Nat → Sf → List Ef → Sf → Prop
  | nil (i : Nat) (s : Sf) : Trace2 P w0 r all i s [] s
  | run {i : Nat} {s s' : Sf} {o : Oper} {e : Ef} {es : List Ef} (ho : all[i]? = some o) (hg : guardOf all s.T o = some true) (hok : OpOK2 P w0 r o (aev s.T) (s.h) e)
      (rest : Trace2 P w0 r all (i + 1) ⟨lseto s.T o.dst e.val, updl s.h e.wr, s.D⟩ es s') : Trace2 P w0 r all i s (e :: es) s'
  | skip {i : Nat} {s s' : Sf} {o : Oper} {es : List Ef} (ho : all[i]? = some o) (hg : guardOf all s.T o = some false)
      (rest : Trace2 P w0 r all (i + 1) ⟨lseto s.T o.dst (.tup []), s.h, s.D⟩ es s') : Trace2 P w0 r all i s (⟨.tup [], [], [], false⟩ :: es) s'

/-- What holds of a state, and that nothing of a former one (Z, mz, wz) is lost. -/
def SatG (w0 : World) (Z : Nat → Option ABlk) (mz : Nat → Option Loc) (wz : World) (Tf : Nat → AV) (len : Nat) (h : Nat → Option ABlk) (D : List Nat) (a : Act) (w : World) : Prop :=
  ∃ m, SatM w0 [] Tf len h D m a w ∧ Ext Z mz wz h m w
def SatX (w0 : World) (Z : Nat → Option ABlk) (mz : Nat → Option Loc) (wz : World) (s : Sf) (a : Act) (w : World) : Prop := SatG w0 Z mz wz (lget s.T) s.T.length (s.h) s.D a w

/-- Two operations of which one writes a block that the other looks at, or writes too. -/
def heapConf2 (e f : Ef) : Bool :=
  (e.wr.any fun p => f.rd.contains p.1 || wrote p.1 f.wr) || (f.wr.any fun p => e.rd.contains p.1) || (e.all && !f.wr.isEmpty) || (f.all && !e.wr.isEmpty)

def heapOK2 (all : Array Oper) (es : List Ef) : Bool :=
  (List.range all.size).all fun j => (List.range j).all fun i => match es[i]?, es[j]? with
    | some e, some f => !heapConf2 e f || depB all 3 j i
    | _, _ => true

section
variable {P : Program} {w0 : World} {r : Option Nat} {all : Array Oper}

/-- The states on the way, in the order of the text. -/
def sAt2 (all : Array Oper) : Nat → Sf → List Ef → Nat → Sf
  | _, s, [], _ => s
  | _, s, _ :: _, 0 => s
  | i, s, e :: es, k + 1 => sAt2 all (i + 1) ⟨lseto s.T (dsts all i) e.val, updl s.h e.wr, s.D⟩ es k

omit [Base] in
theorem sAt_zero2 (all : Array Oper) (i : Nat) (s : Sf) (es : List Ef) : sAt2 all i s es 0 = s := by cases es <;> rfl

omit [Base] in
theorem sAt_succ2 : ∀ (es : List Ef) (i : Nat) (s : Sf) (k : Nat) (e : Ef), es[k]? = some e →
    sAt2 all i s es (k + 1) = ⟨lseto (sAt2 all i s es k).T (dsts all (i + k)) e.val, updl (sAt2 all i s es k).h e.wr, (sAt2 all i s es k).D⟩
  | [], _, _, _, _, h => by simp at h
  | e0 :: es, i, s, 0, e, h => by simp at h; subst h; simp [sAt2, sAt_zero2]
  | e0 :: es, i, s, k + 1, e, h => by
    have ih := sAt_succ2 es (i + 1) ⟨lseto s.T (dsts all i) e0.val, updl s.h e0.wr, s.D⟩ k e (by simpa using h)
    rw [show i + 1 + k = i + (k + 1) by omega] at ih
    exact ih

theorem trace_at2 : ∀ {i : Nat} {s s' : Sf} {es : List Ef}, Trace2 P w0 r all i s es s' → s' = sAt2 all i s es es.length ∧ ∀ k e, es[k]? = some e → ∃ o, all[i + k]? = some o ∧
    ((guardOf all (sAt2 all i s es k).T o = some true ∧ OpOK2 P w0 r o (aev (sAt2 all i s es k).T) ((sAt2 all i s es k).h) e) ∨ (guardOf all (sAt2 all i s es k).T o = some false ∧ e = ⟨.tup [], [], [], false⟩)) := by
  intro i s s' es ht
  induction ht with
  | nil i s => exact ⟨rfl, fun k e h => by simp at h⟩
  | run ho hg hok rest ih =>
    rename_i i s s' o e es
    have hd : dsts all i = o.dst := by simp [dsts, ho]
    refine ⟨by simp only [List.length_cons, sAt2]; rw [hd]; exact ih.1, fun k e' h => ?_⟩
    cases k with
    | zero => simp at h; subst h; exact ⟨o, by simpa using ho, .inl ⟨by simpa [sAt2] using hg, by simpa [sAt2] using hok⟩⟩
    | succ k =>
      obtain ⟨o', ho', h'⟩ := ih.2 k e' (by simpa using h)
      refine ⟨o', by rw [← ho']; congr 1; omega, ?_⟩
      simp only [sAt2]; rw [hd]; exact h'
  | skip ho hg rest ih =>
    rename_i i s s' o es
    have hd : dsts all i = o.dst := by simp [dsts, ho]
    refine ⟨by simp only [List.length_cons, sAt2]; rw [hd]; exact ih.1, fun k e' h => ?_⟩
    cases k with
    | zero => simp at h; subst h; exact ⟨o, by simpa using ho, .inr ⟨by simpa [sAt2] using hg, rfl⟩⟩
    | succ k =>
      obtain ⟨o', ho', h'⟩ := ih.2 k e' (by simpa using h)
      refine ⟨o', by rw [← ho']; congr 1; omega, ?_⟩
      simp only [sAt2]; rw [hd]; exact h'

/-- The temporaries when the operations of L have been carried out. -/
def tD2 (all : Array Oper) (s : Sf) (es : List Ef) (L : Nat → Bool) : Nat → Nat → AV
  | 0, t => lget s.T t
  | k + 1, t => match es[k]? with
    | some e => if L k = true ∧ dsts all k = some t then e.val else tD2 all s es L k t
    | none => tD2 all s es L k t
def hD2 (s : Sf) (es : List Ef) (L : Nat → Bool) : Nat → Nat → Option ABlk
  | 0, b => s.h b
  | k + 1, b => match es[k]? with
    | some e => if L k = true then updl (hD2 s es L k) e.wr b else hD2 s es L k b
    | none => hD2 s es L k b

omit [Base] in
theorem tD_text2 (s : Sf) (es : List Ef) : ∀ k, k ≤ es.length → (sAt2 all 0 s es k).T.length = s.T.length ∧ ∀ t, t < s.T.length → lget (sAt2 all 0 s es k).T t = tD2 all s es (fun _ => true) k t
  | 0, _ => by simp [sAt_zero2, tD2]
  | k + 1, hk => by
    obtain ⟨h1, h2⟩ := tD_text2 s es k (by omega)
    have he : es[k]? = some es[k] := List.getElem?_eq_getElem (by omega)
    rw [sAt_succ2 es 0 s k _ he]
    refine ⟨by simp [lseto_length, h1], fun t ht => ?_⟩
    simp only [Nat.zero_add, tD2, he, true_and]
    cases hd : dsts all k with
    | none => simp [lseto, h2 t ht]
    | some d =>
      simp only [lseto, lget_set, Option.some.injEq]
      by_cases hdt : d = t
      · subst hdt; rw [if_pos ⟨rfl, by omega⟩, if_pos rfl]
      · rw [if_neg (fun h => hdt h.1), if_neg hdt]; exact h2 t ht

omit [Base] in
theorem hD_text2 (s : Sf) (es : List Ef) : ∀ k, k ≤ es.length → ∀ b, (sAt2 all 0 s es k).h b = hD2 s es (fun _ => true) k b
  | 0, _, b => by simp [sAt_zero2, hD2]
  | k + 1, hk, b => by
    have ih := hD_text2 s es k (by omega)
    have he : es[k]? = some es[k] := List.getElem?_eq_getElem (by omega)
    rw [sAt_succ2 es 0 s k _ he]
    simp only [hD2, he, if_true]
    rw [show (sAt2 all 0 s es k).h = hD2 s es (fun _ => true) k from funext ih]

omit [Base] in
/-- A temporary that operation i looks at: the others that write it have come before, or have not come. -/
theorem tD_at2 (s : Sf) (es : List Ef) (L : Nat → Bool) (t i : Nat) (h1 : ∀ k, k < i → dsts all k = some t → L k = true) (h2 : ∀ k, i ≤ k → dsts all k = some t → L k = false) :
    ∀ n, i ≤ n → tD2 all s es L n t = tD2 all s es (fun _ => true) i t := by
  have below : ∀ k, k ≤ i → tD2 all s es L k t = tD2 all s es (fun _ => true) k t := by
    intro k
    induction k with
    | zero => intro _; rfl
    | succ k ih =>
      intro hk
      simp only [tD2, true_and]
      cases he : es[k]? with
      | none => exact ih (by omega)
      | some e =>
        by_cases hd : dsts all k = some t
        · simp only [hd, and_true]
          rw [if_pos (h1 k (by omega) hd), if_pos trivial]
        · simp only [hd, and_false, if_false]; exact ih (by omega)
  intro n
  induction n with
  | zero => intro h; have : i = 0 := by omega
            subst this; rfl
  | succ n ih =>
    intro h
    by_cases hi : i = n + 1
    · rw [← hi]; exact below i (Nat.le_refl _)
    · simp only [tD2]
      cases he : es[n]? with
      | none => exact ih (by omega)
      | some e =>
        have : ¬ (L n = true ∧ dsts all n = some t) := by
          rintro ⟨ha, hb⟩
          rw [h2 n (by omega) hb] at ha; cases ha
        simp only [this, if_false]
        exact ih (by omega)

omit [Base] in
theorem hD_at2 (s : Sf) (es : List Ef) (L : Nat → Bool) (b i : Nat) (h1 : ∀ k e, k < i → es[k]? = some e → wrote b e.wr = true → L k = true) (h2 : ∀ k e, i ≤ k → es[k]? = some e → wrote b e.wr = true → L k = false) :
    ∀ n, i ≤ n → hD2 s es L n b = hD2 s es (fun _ => true) i b := by
  have below : ∀ k, k ≤ i → hD2 s es L k b = hD2 s es (fun _ => true) k b := by
    intro k
    induction k with
    | zero => intro _; rfl
    | succ k ih =>
      intro hk
      simp only [hD2, if_true]
      cases he : es[k]? with
      | none => exact ih (by omega)
      | some e =>
        simp only
        cases hw : wrote b e.wr with
        | true => rw [if_pos (h1 k e (by omega) he hw)]; exact updl_is _ _ _ _ hw
        | false =>
          rw [updl_not _ _ _ hw, updl_not _ _ _ hw]
          split <;> exact ih (by omega)
  intro n
  induction n with
  | zero => intro h; have : i = 0 := by omega
            subst this; rfl
  | succ n ih =>
    intro h
    by_cases hi : i = n + 1
    · rw [← hi]; exact below i (Nat.le_refl _)
    · simp only [hD2]
      cases he : es[n]? with
      | none => exact ih (by omega)
      | some e =>
        simp only
        cases hw : wrote b e.wr with
        | true => rw [if_neg (by rw [h2 n e (by omega) he hw]; simp)]; exact ih (by omega)
        | false =>
          rw [updl_not _ _ _ hw]
          split <;> exact ih (by omega)

omit [Base] in
/-- One operation more. -/
theorem tD_add2 (s : Sf) (es : List Ef) (L L' : Nat → Bool) (i : Nat) (e : Ef) (he : es[i]? = some e) (hL : ∀ k, k ≠ i → L' k = L k) (hLi : L' i = true) (h0 : L i = false) (t : Nat)
    (h2 : dsts all i = some t → ∀ k, i < k → dsts all k = some t → L k = false) : ∀ n, tD2 all s es L' n t = if i < n ∧ dsts all i = some t then e.val else tD2 all s es L n t
  | 0 => by simp [tD2]
  | n + 1 => by
    have ih := tD_add2 s es L L' i e he hL hLi h0 t h2 n
    simp only [tD2]
    by_cases hni : n = i
    · subst hni
      simp only [he, hLi, true_and, h0, Bool.false_eq_true, false_and, if_false, Nat.lt_succ_self]
      rw [ih]
      by_cases hd : dsts all n = some t
      · simp [hd]
      · simp [hd]
    · cases hen : es[n]? with
      | none =>
        simp only
        rw [ih]
        by_cases hd : i < n
        · simp [hd, show i < n + 1 by omega]
        · have : ¬ i < n + 1 := by omega
          simp [hd, this]
      | some e' =>
        simp only [hL n hni]
        rw [ih]
        by_cases hc : L n = true ∧ dsts all n = some t
        · simp only [hc]
          by_cases hd : i < n + 1 ∧ dsts all i = some t
          · have := h2 hd.2 n (by omega) hc.2
            rw [hc.1] at this; cases this
          · simp [hd]
        · simp only [hc, if_false]
          by_cases hd : i < n
          · simp [hd, show i < n + 1 by omega]
          · have : ¬ i < n + 1 := by omega
            simp [hd, this]

omit [Base] in
theorem updl_comm (f : Nat → Option ABlk) (u v : List (Nat × ABlk)) (hd : ∀ b, wrote b u = true → wrote b v = false) : updl (updl f u) v = updl (updl f v) u := by
  funext b
  cases hu : wrote b u with
  | true =>
    have hv := hd b hu
    rw [updl_not v _ b hv]
    exact updl_is u _ _ b hu
  | false =>
    rw [updl_not u _ b hu]
    cases hv : wrote b v with
    | true => exact updl_is v _ _ b hv
    | false => rw [updl_not v _ b hv, updl_not v _ b hv, updl_not u _ b hu]
omit [Base] in
theorem hD_add2 (s : Sf) (es : List Ef) (L L' : Nat → Bool) (i : Nat) (e : Ef) (he : es[i]? = some e) (hL : ∀ k, k ≠ i → L' k = L k) (hLi : L' i = true) (h0 : L i = false)
    (h2 : ∀ b, wrote b e.wr = true → ∀ k f, i < k → es[k]? = some f → wrote b f.wr = true → L k = false) : ∀ n, i < n → hD2 s es L' n = updl (hD2 s es L n) e.wr := by
  have below : ∀ n, n ≤ i → hD2 s es L' n = hD2 s es L n := by
    intro n
    induction n with
    | zero => intro _; rfl
    | succ n ih =>
      intro hn
      funext b
      simp only [hD2, hL n (by omega), ih (by omega)]
  intro n
  induction n with
  | zero => intro h; omega
  | succ n ih =>
    intro hn
    by_cases hni : n = i
    · subst hni
      have hx : hD2 s es L (n + 1) = hD2 s es L n := by funext b'; simp only [hD2, he, h0, Bool.false_eq_true, if_false]
      rw [hx]
      funext b
      simp only [hD2, he, hLi, if_true, below n (Nat.le_refl _)]
    · have ih := ih (by omega)
      cases hen : es[n]? with
      | none =>
        have hx : hD2 s es L (n + 1) = hD2 s es L n := by funext b'; simp only [hD2, hen]
        rw [hx]
        funext b
        simp only [hD2, hen, ih]
      | some f =>
        by_cases hLn : L n = true
        · have hx : hD2 s es L (n + 1) = updl (hD2 s es L n) f.wr := by funext b'; simp only [hD2, hen, hLn, if_true]
          have hx' : hD2 s es L' (n + 1) = updl (hD2 s es L' n) f.wr := by funext b'; simp only [hD2, hen, hL n hni, hLn, if_true]
          rw [hx, hx', ih]
          refine updl_comm _ _ _ fun b hb => ?_
          cases hf : wrote b f.wr with
          | false => rfl
          | true => have := h2 b hb n f (by omega) hen hf; rw [hLn] at this; cases this
        · have hx : hD2 s es L (n + 1) = hD2 s es L n := by funext b'; simp [hD2, hen, hLn]
          have hx' : hD2 s es L' (n + 1) = hD2 s es L' n := by funext b'; simp [hD2, hen, hL n hni, hLn]
          rw [hx, hx', ih]

omit [Base] in
theorem tD_congr2 (s : Sf) (es : List Ef) (L L' : Nat → Bool) (t : Nat) : ∀ n, (∀ k, k < n → L k = L' k) → tD2 all s es L n t = tD2 all s es L' n t
  | 0, _ => rfl
  | n + 1, h => by simp only [tD2, h n (by omega), tD_congr2 s es L L' t n (fun k hk => h k (by omega))]
omit [Base] in
theorem hD_congr2 (s : Sf) (es : List Ef) (L L' : Nat → Bool) : ∀ n, (∀ k, k < n → L k = L' k) → hD2 s es L n = hD2 s es L' n
  | 0, _ => rfl
  | n + 1, h => by funext b; simp only [hD2, h n (by omega), hD_congr2 s es L L' n (fun k hk => h k (by omega))]
omit [Base] in
theorem tD_none2 (s : Sf) (es : List Ef) (t : Nat) : ∀ n, tD2 all s es (fun _ => false) n t = lget s.T t
  | 0 => rfl
  | n + 1 => by simp only [tD2, Bool.false_eq_true, false_and, if_false]; split <;> exact tD_none2 s es t n
omit [Base] in
theorem hD_none2 (s : Sf) (es : List Ef) : ∀ n, hD2 s es (fun _ => false) n = s.h
  | 0 => rfl
  | n + 1 => by funext b; simp only [hD2, Bool.false_eq_true, if_false]; split <;> rw [hD_none2 s es n]
omit [Base] in
theorem sAt_D2 : ∀ (es : List Ef) (i : Nat) (s : Sf) (k : Nat), (sAt2 all i s es k).D = s.D
  | [], _, _, _ => by simp [sAt2]
  | _ :: _, _, _, 0 => rfl
  | _ :: es, i, s, k + 1 => by simp only [sAt2]; exact sAt_D2 es (i + 1) _ k

omit [Base] in
theorem wrote_mem : ∀ {l : List (Nat × ABlk)} {b : Nat}, wrote b l = true → ∃ k, (b, k) ∈ l
  | [], _, h => by simp [wrote] at h
  | (c, k) :: l, b, h => by
    simp only [wrote, Bool.or_eq_true] at h
    rcases h with h | h
    · have : c = b := Nat.eq_of_beq_eq_true h
      subst this; exact ⟨k, by simp⟩
    · obtain ⟨k', hk⟩ := wrote_mem h; exact ⟨k', by simp [hk]⟩
omit [Base] in
theorem conf_of {e f : Ef} {b : Nat} (hw : wrote b f.wr = true) (hb : b ∈ e.rd ∨ wrote b e.wr = true ∨ e.all = true) : heapConf2 f e = true := by
  obtain ⟨k, hk⟩ := wrote_mem hw
  simp only [heapConf2, Bool.or_eq_true, List.any_eq_true, Bool.and_eq_true, Bool.not_eq_true']
  rcases hb with hb | hb | hb
  · exact .inl (.inl (.inl ⟨_, hk, .inl (by simpa using hb)⟩))
  · exact .inl (.inl (.inl ⟨_, hk, .inr hb⟩))
  · refine .inr ⟨hb, ?_⟩
    cases hf : f.wr with
    | nil => rw [hf] at hk; cases hk
    | cons x l => rfl
omit [Base] in
theorem conf_of' {e f : Ef} {b : Nat} (hw : wrote b f.wr = true) (hb : b ∈ e.rd ∨ wrote b e.wr = true ∨ e.all = true) : heapConf2 e f = true := by
  obtain ⟨k, hk⟩ := wrote_mem hw
  simp only [heapConf2, Bool.or_eq_true, List.any_eq_true, Bool.and_eq_true, Bool.not_eq_true']
  rcases hb with hb | hb | hb
  · exact .inl (.inl (.inr ⟨_, hk, by simpa using hb⟩))
  · obtain ⟨k', hk'⟩ := wrote_mem hb
    exact .inl (.inl (.inl ⟨_, hk', .inr hw⟩))
  · refine .inl (.inr ⟨hb, ?_⟩)
    cases hf : f.wr with
    | nil => rw [hf] at hk; cases hk
    | cons x l => rfl
/-- WHATEVER ORDER IS DRAWN. -/
theorem draw_sound2 {Z : Nat → Option ABlk} {mz : Nat → Option Loc} {wz : World} {Q : Exit → Act → World → Prop} {s s' : Sf} {es : List Ef} {id : Nat} (hm : P.follows .mixedOrders = true) (tr : Trace2 P w0 r all 0 s es s') (hl : es.length = all.size)
    (hc : regOK all = true) (hh : heapOK2 all es = true) (hQ : ∀ a w, SatX w0 Z mz wz s' a w → Q .normal a w) (a : Act) (w : World) (hs : SatX w0 Z mz wz s a w) : (Code.region id all true).wpIn (FW r) 0 P Q a w := by
  obtain ⟨hs', hat⟩ := trace_at2 tr
  simp only [Nat.zero_add] at hat
  -- the closed facts
  simp only [regOK, List.all_eq_true, List.mem_range, Bool.and_eq_true] at hc
  have hdown : ∀ j o, all[j]? = some o → ∀ e ∈ o.after, Region.binds .any e = true → e.on < j := by
    intro j o ho e he hb
    have hj : j < all.size := (Array.getElem?_eq_some_iff.1 ho).1
    have := (hc j hj).1
    simp only [ho, Array.all_eq_true_iff_forall_mem, Bool.or_eq_true, Bool.not_eq_true', decide_eq_true_eq] at this
    exact (this e he).resolve_left (by simp [hb])
  have hslot : ∀ i j, i < j → j < all.size → slotConf all i j = true → depB all 3 j i = true := by
    intro i j hij hj hcf
    have := (hc j hj).2 i hij
    simpa [hcf] using this
  have hheap : ∀ i j e f, i < j → j < all.size → es[i]? = some e → es[j]? = some f → heapConf2 e f = true → depB all 3 j i = true := by
    intro i j e f hij hj hi hj' hcf
    simp only [heapOK2, List.all_eq_true, List.mem_range] at hh
    have := hh j hj i hij
    simpa [hi, hj', hcf] using this
  refine wpIn_region_any hm ?_
  have hdst : ∀ k t, dsts all k = some t → k < all.size := by
    intro k t hk
    cases ho : all[k]? with
    | none => simp [dsts, ho] at hk
    | some o => exact (Array.getElem?_eq_some_iff.1 ho).1
  -- all have come: the state behind the region
  have done : ∀ (listed : Array Bool) (a : Act) (w : World), (∀ j, j < all.size → listed.getD j false = true) →
      SatG w0 Z mz wz (tD2 all s es (fun j => listed.getD j false) all.size) s.T.length (hD2 s es (fun j => listed.getD j false) all.size) s.D a w → Q .normal a w := by
    intro listed a w hall ⟨m, hsat, hext⟩
    refine hQ a w ⟨m, ?_⟩
    have hlen := (tD_text2 (all := all) s es es.length (Nat.le_refl _)).1
    have hD' : s'.h = hD2 s es (fun j => listed.getD j false) all.size := by
      funext b
      rw [hs', hD_text2 s es es.length (Nat.le_refl _) b, hl]
      rw [hD_congr2 s es (fun j => listed.getD j false) (fun _ => true) all.size (fun k hk => hall k hk)]
    have hTl : s'.T.length = s.T.length := by rw [hs']; exact hlen
    refine ⟨⟨by rw [hD']; exact hsat.good, by rw [hTl]; exact hsat.size, fun j hj => ?_, fun p hp => by rw [hD']; exact hsat.roots p hp, by rw [hD', hs', sAt_D2]; exact hsat.marks⟩, by rw [hD']; exact hext⟩
    rw [hTl] at hj
    obtain ⟨v, hv, hr⟩ := hsat.tmps j hj
    refine ⟨v, hv, ?_⟩
    rw [hD', hs', (tD_text2 (all := all) s es es.length (Nat.le_refl _)).2 j hj, hl]
    rw [tD_congr2 s es (fun _ => true) (fun j => listed.getD j false) j all.size (fun k hk => (hall k hk).symm)]
    exact hr
  -- the walk over every order
  have key : ∀ (fuel : Nat) (listed : Array Bool) (a : Act) (w : World), listed.size = all.size → (∀ j o, all[j]? = some o → listed.getD j false = true → ∀ e ∈ o.after, Region.binds .any e = true → listed.getD e.on false = true) →
      (List.range all.size).countP (fun j => !listed.getD j true) ≤ fuel →
      SatG w0 Z mz wz (tD2 all s es (fun j => listed.getD j false) all.size) s.T.length (hD2 s es (fun j => listed.getD j false) all.size) s.D a w →
      wpAnyIn (FW r) 0 P .any all Q fuel listed a w := by
    intro fuel
    induction fuel with
    | zero =>
      intro listed a w hsz hcl hcnt hsat
      have hall : ∀ j, j < all.size → listed.getD j true = true := by
        intro j hj
        cases hg : listed.getD j true with
        | true => rfl
        | false =>
          have : 0 < (List.range all.size).countP (fun j => !listed.getD j true) := List.countP_pos_iff.2 ⟨j, List.mem_range.2 hj, by simp only [hg]; rfl⟩
          omega
      refine ⟨?_, done listed a w (fun j hj => ?_) hsat⟩
      · apply List.eq_nil_iff_forall_not_mem.2
        intro j hj
        obtain ⟨h1, o, ho, _⟩ := mem_ready.1 hj
        rw [hall j (Array.getElem?_eq_some_iff.1 ho).1] at h1; cases h1
      · have := hall j hj
        have hjs : j < listed.size := by omega
        simp [hjs] at this ⊢; exact this
    | succ fuel ih =>
      intro listed a w hsz hcl hcnt hsat
      refine ⟨fun hnil => done listed a w (fun j hj => ?_) hsat, fun i hi => ?_⟩
      · induction j using Nat.strongRecOn with
        | _ j ihj =>
          cases hg : listed.getD j false with
          | true => rfl
          | false =>
            obtain ⟨o, ho⟩ : ∃ o, all[j]? = some o := ⟨all[j], Array.getElem?_eq_getElem hj⟩
            have : j ∈ Region.ready .any all listed := mem_ready.2 ⟨getD_in (by omega) hg, o, ho, fun e he hb => ihj e.on (hdown j o ho e he hb) (by have := hdown j o ho e he hb; omega)⟩
            rw [hnil] at this; cases this
      · obtain ⟨hun, o, ho, hed⟩ := mem_ready.1 hi
        have hin : i < all.size := (Array.getElem?_eq_some_iff.1 ho).1
        have hi0 : listed.getD i false = false := getD_both hun
        obtain ⟨e, he⟩ : ∃ e, es[i]? = some e := ⟨es[i]'(by omega), List.getElem?_eq_getElem (by omega)⟩
        obtain ⟨o', ho', hcase⟩ := hat i e he
        rw [ho] at ho'; cases ho'
        have hafter : ∀ k, depB all 3 i k = true → listed.getD k false = true := fun k hk => depB_spec (L := fun j => listed.getD j false) hcl 3 i k o ho hed hk
        have hlate : ∀ k, i < k → k < all.size → depB all 3 k i = true → listed.getD k false = false := by
          intro k hik hk hd
          cases hg : listed.getD k false with
          | false => rfl
          | true =>
            obtain ⟨ok, hok⟩ : ∃ o, all[k]? = some o := ⟨all[k], Array.getElem?_eq_getElem hk⟩
            have := depB_spec (L := fun j => listed.getD j false) hcl 3 k i ok hok (hcl k ok hok hg) hd
            simp only [hi0, Bool.false_eq_true] at this
        have hdi : dsts all i = o.dst := by simp [dsts, ho]
        have hli : looks all i = o.looksAt all := by simp [looks, ho]
        have hTlen := (tD_text2 (all := all) s es i (by omega)).1
        have hslotT : ∀ t, t ∈ o.looksAt all → t < s.T.length → tD2 all s es (fun j => listed.getD j false) all.size t = lget (sAt2 all 0 s es i).T t := by
          intro t ht htl
          rw [(tD_text2 (all := all) s es i (by omega)).2 t htl]
          refine tD_at2 s es _ t i (fun k hk hd => hafter k (hslot k i hk hin ?_)) (fun k hk hd => ?_) all.size (by omega)
          · simp [slotConf, hd, hli, ht]
          · rcases Nat.eq_or_lt_of_le hk with rfl | hk
            · exact hi0
            · refine hlate k hk (hdst k t hd) (hslot i k hk (hdst k t hd) ?_)
              simp [slotConf, hd, hli, ht]
        have his : i < listed.size := by omega
        have hset : (listed.setIfInBounds i true).getD i false = true := by simp [his]
        have hset2 : (listed.setIfInBounds i true).getD i true = true := by simp [his]
        have hheapB : ∀ b, (b ∈ e.rd ∨ wrote b e.wr = true ∨ e.all = true) → hD2 s es (fun j => listed.getD j false) all.size b = (sAt2 all 0 s es i).h b := by
          intro b hb
          rw [hD_text2 s es i (by omega) b]
          refine hD_at2 s es _ b i (fun k f hk hf hw => hafter k (hheap k i f e hk hin hf he ?_)) (fun k f hk hf hw => ?_) all.size (by omega)
          · exact conf_of hw hb
          · have hkn : k < all.size := by have := (List.getElem?_eq_some_iff.1 hf).1; omega
            rcases Nat.eq_or_lt_of_le hk with rfl | hk
            · exact hi0
            · exact hlate k hk hkn (hheap i k e f hk hkn he hf (conf_of' hw hb))
        obtain ⟨m, hsat, hext⟩ := hsat
        have hnextT : ∀ t, t < s.T.length → tD2 all s es (fun j => (listed.setIfInBounds i true).getD j false) all.size t = if o.dst = some t then e.val else tD2 all s es (fun j => listed.getD j false) all.size t := by
          intro t _
          have hadd := tD_add2 (all := all) s es (fun j => listed.getD j false) (fun j => (listed.setIfInBounds i true).getD j false) i e he (fun k hk => getD_set_ne false (Ne.symm hk)) hset hi0 t (fun hd k hk hdk => hlate k hk (hdst k t hdk) (hslot i k hk (hdst k t hdk) (by simp [slotConf, hd, hdk]))) all.size
          rw [hadd, hdi]
          simp [hin]
        have hnextH : hD2 s es (fun j => (listed.setIfInBounds i true).getD j false) all.size = updl (hD2 s es (fun j => listed.getD j false) all.size) e.wr := by
          refine hD_add2 s es (fun j => listed.getD j false) _ i e he (fun k hk => getD_set_ne false (Ne.symm hk)) hset hi0 (fun b hb k f hk hf hw => ?_) all.size hin
          have hkn : k < all.size := by have := (List.getElem?_eq_some_iff.1 hf).1; omega
          exact hlate k hk hkn (hheap i k e f hk hkn he hf (conf_of' hw (.inr (.inl hb))))
        have hgo : ∀ (v : Value) (w' : World) (m' : Nat → Option Loc), Good w0 (updl (hD2 s es (fun j => listed.getD j false) all.size) e.wr) m' w' → Ext (hD2 s es (fun j => listed.getD j false) all.size) m w (updl (hD2 s es (fun j => listed.getD j false) all.size) e.wr) m' w' →
            Rep (updl (hD2 s es (fun j => listed.getD j false) all.size) e.wr) m' w' e.val v → wpAnyIn (FW r) 0 P .any all Q fuel (listed.setIfInBounds i true) (a.put o.dst v) w' := by
          intro v w' m' g1 e1 r1
          refine ih _ _ _ (by simp [hsz]) (fun j oj hj hlj e' he' hb' => ?_) ?_ ⟨m', ?_, by rw [hnextH]; exact hext.trans e1⟩
          · by_cases hij : i = j
            · subst hij
              rw [ho] at hj; cases hj
              exact getD_set_true (hed e' he' hb')
            · rw [getD_set_ne false hij] at hlj
              exact getD_set_true (hcl j oj hj hlj e' he' hb')
          · have := countP_lt (p := fun j => !listed.getD j true) (q := fun j => !(listed.setIfInBounds i true).getD j true) (i := i) (List.range all.size) (List.mem_range.2 hin) (fun j hj => ?_) (by simp only [hun]; rfl) (by simp only [hset2]; rfl)
            · omega
            · by_cases hij : i = j
              · subst hij; simp only [hun]; rfl
              · rw [getD_set_ne true hij] at hj; exact hj
          · rw [hnextH]
            exact hsat.put g1 e1 r1 (fun j hj => hnextT j hj)
        unfold wpOpIn
        simp only [ho]
        have hwant : ∀ b, guardOf all (sAt2 all 0 s es i).T o = some b → Region.wanted o (yielded all a.tmps) = b := fun b hb =>
          guard_wanted hsat hTlen hb (fun j want d hgd hd hdl => hslotT d (by simp [Oper.looksAt, hgd, hd]) hdl)
        rcases hcase with ⟨hgd, hok⟩ | ⟨hgd, rfl⟩
        · rw [hwant true hgd, if_pos rfl]
          refine hok _ m w a _ Q (fun b hb => hheapB b (.inl hb)) (fun b hb => hheapB b (.inr (.inl hb))) (fun hb => funext fun b => hheapB b (.inr (.inr hb))) hsat.good (fun x hx => hsat.eval _ hTlen x (fun t ht htl => hslotT t ?_ htl)) hgo
          subst ht
          simp only [Oper.looksAt, List.mem_append, List.mem_filterMap]
          exact .inl ⟨.tmp t, by simpa using hx, rfl⟩
        · rw [hwant false hgd, if_neg (by simp)]
          exact ⟨fun _ _ => trivial, hgo undef w m hsat.good (Ext.refl _ _ _) rep_undef⟩
  obtain ⟨m, hs, hext⟩ := hs
  refine key all.size _ a _ (by simp) (fun j o _ hj => by rw [getD_replicate_false] at hj; cases hj) ?_ ⟨m, ?_⟩
  · exact Nat.le_trans List.countP_le_length (by simp)
  · have hf : (fun j => (Array.replicate all.size false).getD j false) = fun _ => false := funext fun j => getD_replicate_false _ _
    rw [hf, hD_none2]
    have ht : tD2 all s es (fun _ => false) all.size = lget s.T := funext fun t => tD_none2 s es t _
    rw [ht]
    obtain ⟨g1, e1⟩ := hs.good.garbage (below_drew w)
    exact ⟨⟨g1, hs.size, fun j hj => let ⟨v, hv, hr⟩ := hs.tmps j hj; ⟨v, hv, hr.ext e1⟩, fun p hp => (hs.roots p hp).ext e1, hs.marks⟩, hext.trans e1⟩

end
end Go.Am
