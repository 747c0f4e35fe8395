/- Parts X1, AmN, AmO, AmP, AmQ, Rd, AmR, AmS, AmT, AmU, AmV, X8, X2 of the proof, one behind the other. No statement is proved here. -/
import Derived.Test.YtaofjkcenmnldaaK1
import Derived.ProofKit
import Derived.Carry
import Derived.Deep.Slices
set_option linter.unusedVariables false -- all
set_option linter.unusedSimpArgs false
/- The abstract machine Am, part X1: regions whose operations may be whole calls: what is written is a list; what is kept (Ext) is told. -/
namespace Go.Am
open Go.RowKit
variable [Base]
/-- What an operation leaves: its value, the blocks that it looked into, the blocks that it wrote; all: it may have looked into every block. -/
structure Ef where
  val : AV
  rd : List Nat
  wr : List (Nat × ABlk)
  all : Bool
def updl (h : Nat → Option ABlk) : List (Nat × ABlk) → Nat → Option ABlk
  | [] => h
  | (b, k) :: l => updl (upd h b (some k)) l
def wrote (b : Nat) : List (Nat × ABlk) → Bool
  | [] => false
  | (c, _) :: l => Nat.beq c b || wrote b l
omit [Base] in
theorem updl_not : ∀ (wr : List (Nat × ABlk)) (f : Nat → Option ABlk) (b : Nat), wrote b wr = false → updl f wr b = f b
  | [], _, _, _ => rfl
  | (c, k) :: l, f, b, h => by
    simp only [wrote, Bool.or_eq_false_iff] at h
    simp only [updl]
    rw [updl_not l _ b h.2]
    exact upd_ne _ _ (fun e => by subst e; simp at h)
omit [Base] in
theorem updl_is : ∀ (wr : List (Nat × ABlk)) (f g : Nat → Option ABlk) (b : Nat), wrote b wr = true → updl f wr b = updl g wr b
  | [], _, _, _, h => by simp [wrote] at h
  | (c, k) :: l, f, g, b, h => by
    simp only [updl]
    by_cases hl : wrote b l = true
    · exact updl_is l _ _ b hl
    · simp only [Bool.not_eq_true] at hl
      simp only [wrote, hl, Bool.or_false] at h
      have : c = b := Nat.eq_of_beq_eq_true h
      subst this
      rw [updl_not l _ c hl, updl_not l _ c hl, upd_same, upd_same]
def OpOK2 (P : Program) (w0 : World) (r : Option Nat) (o : Oper) (ρ : Operand → AV) (h : Nat → Option ABlk) (e : Ef) : Prop :=
  ∀ (h' : Nat → Option ABlk) (m : Nat → Option Loc) (w : World) (a : Act) (next : Act → World → Prop) (Q : Exit → Act → World → Prop),
    (∀ b, b ∈ e.rd → h' b = h b) → (∀ b, wrote b e.wr = true → h' b = h b) → (e.all = true → h' = h) → Good w0 h' m w → (∀ x, x ∈ o.op.operands → Rep h' m w (ρ x) (a.eval x)) →
    (∀ v w' m', Good w0 (updl h' e.wr) m' w' → Ext h' m w (updl h' e.wr) m' w' → Rep (updl h' e.wr) m' w' e.val v → next (a.put o.dst v) w') → o.wpIn (FW r) 0 P a w next Q
/-- An operation of the elder kind. -/
def lift (e : E) : Ef := ⟨e.val, e.rd, (match e.wr with | none => [] | some p => [p]), false⟩
theorem OpOK.lift {P : Program} {w0 : World} {r : Option Nat} {o : Oper} {ρ : Operand → AV} {h : Nat → Option ABlk} {e : E} (k : OpOK P w0 r o ρ h e) : OpOK2 P w0 r o ρ h (lift e) := by
  obtain ⟨val, rd, wr⟩ := e
  intro h' m w a next Q h1 h2 _ hg hop hn
  refine k h' m w a next Q h1 (fun b blk hb => h2 b ?_) hg hop ?_
  · simp only at hb; subst hb; simp [Am.lift, wrote]
  · cases wr with
    | none => exact hn
    | some p => exact hn
/-- A state, its blocks as a function. -/
structure Sf where
  T : List AV
  h : Nat → Option ABlk
  D : List Nat
def St.f (s : St) : Sf := ⟨s.T, hget s.H, s.D⟩
/-- The trace of a region. -/
inductive Trace2 (P : Program) (w0 : World) (r : Option Nat) (all : Array Oper) : Nat → Sf → List Ef → Sf → Prop
  | nil (i : Nat) (s : Sf) : Trace2 P w0 r all i s [] s
  | run {i : Nat} {s s' : Sf} {o : Oper} {e : Ef} {es : List Ef} (ho : all[i]? = some o) (hg : guardOf all s.T o = some true) (hok : OpOK2 P w0 r o (aev s.T) (s.h) e)
      (rest : Trace2 P w0 r all (i + 1) ⟨lseto s.T o.dst e.val, updl s.h e.wr, s.D⟩ es s') : Trace2 P w0 r all i s (e :: es) s'
  | skip {i : Nat} {s s' : Sf} {o : Oper} {es : List Ef} (ho : all[i]? = some o) (hg : guardOf all s.T o = some false)
      (rest : Trace2 P w0 r all (i + 1) ⟨lseto s.T o.dst (.tup []), s.h, s.D⟩ es s') : Trace2 P w0 r all i s (⟨.tup [], [], [], false⟩ :: es) s'
/-- What holds of a state, and that nothing of a former one (Z, mz, wz) is lost. -/
def SatG (w0 : World) (ex : List Nat) (Z : Nat → Option ABlk) (mz : Nat → Option Loc) (wz : World) (Tf : Nat → AV) (len : Nat) (h : Nat → Option ABlk) (D : List Nat) (a : Act) (w : World) : Prop :=
  ∃ m, SatM w0 ex Tf len h D m a w ∧ Ext Z mz wz h m w
def SatX (w0 : World) (ex : List Nat) (Z : Nat → Option ABlk) (mz : Nat → Option Loc) (wz : World) (s : Sf) (a : Act) (w : World) : Prop := SatG w0 ex Z mz wz (lget s.T) s.T.length (s.h) s.D a w
/-- Two operations of which one writes a block that the other looks at, or writes too. -/
def heapConf2 (e f : Ef) : Bool :=
  (e.wr.any fun p => f.rd.contains p.1 || wrote p.1 f.wr) || (f.wr.any fun p => e.rd.contains p.1) || (e.all && !f.wr.isEmpty) || (f.all && !e.wr.isEmpty)
def heapOK2 (all : Array Oper) (es : List Ef) : Bool :=
  (List.range all.size).all fun j => (List.range j).all fun i => match es[i]?, es[j]? with
    | some e, some f => !heapConf2 e f || depB all 3 j i
    | _, _ => true
section
variable {P : Program} {w0 : World} {r : Option Nat} {all : Array Oper}
/-- The states on the way, in the order of the text. -/
def sAt2 (all : Array Oper) : Nat → Sf → List Ef → Nat → Sf
  | _, s, [], _ => s
  | _, s, _ :: _, 0 => s
  | i, s, e :: es, k + 1 => sAt2 all (i + 1) ⟨lseto s.T (dsts all i) e.val, updl s.h e.wr, s.D⟩ es k
omit [Base] in
theorem sAt_zero2 (all : Array Oper) (i : Nat) (s : Sf) (es : List Ef) : sAt2 all i s es 0 = s := by cases es <;> rfl
omit [Base] in
theorem sAt_succ2 : ∀ (es : List Ef) (i : Nat) (s : Sf) (k : Nat) (e : Ef), es[k]? = some e →
    sAt2 all i s es (k + 1) = ⟨lseto (sAt2 all i s es k).T (dsts all (i + k)) e.val, updl (sAt2 all i s es k).h e.wr, (sAt2 all i s es k).D⟩
  | [], _, _, _, _, h => by simp at h
  | e0 :: es, i, s, 0, e, h => by simp at h; subst h; simp [sAt2, sAt_zero2]
  | e0 :: es, i, s, k + 1, e, h => by
    have ih := sAt_succ2 es (i + 1) ⟨lseto s.T (dsts all i) e0.val, updl s.h e0.wr, s.D⟩ k e (by simpa using h)
    rw [show i + 1 + k = i + (k + 1) by omega] at ih
    exact ih
theorem trace_at2 : ∀ {i : Nat} {s s' : Sf} {es : List Ef}, Trace2 P w0 r all i s es s' → s' = sAt2 all i s es es.length ∧ ∀ k e, es[k]? = some e → ∃ o, all[i + k]? = some o ∧
    ((guardOf all (sAt2 all i s es k).T o = some true ∧ OpOK2 P w0 r o (aev (sAt2 all i s es k).T) ((sAt2 all i s es k).h) e) ∨ (guardOf all (sAt2 all i s es k).T o = some false ∧ e = ⟨.tup [], [], [], false⟩)) := by
  intro i s s' es ht
  induction ht with
  | nil i s => exact ⟨rfl, fun k e h => by simp at h⟩
  | run ho hg hok rest ih =>
    rename_i i s s' o e es
    have hd : dsts all i = o.dst := by simp [dsts, ho]
    refine ⟨by simp only [List.length_cons, sAt2]; rw [hd]; exact ih.1, fun k e' h => ?_⟩
    cases k with
    | zero => simp at h; subst h; exact ⟨o, by simpa using ho, .inl ⟨by simpa [sAt2] using hg, by simpa [sAt2] using hok⟩⟩
    | succ k =>
      obtain ⟨o', ho', h'⟩ := ih.2 k e' (by simpa using h)
      refine ⟨o', by rw [← ho']; congr 1; omega, ?_⟩
      simp only [sAt2]; rw [hd]; exact h'
  | skip ho hg rest ih =>
    rename_i i s s' o es
    have hd : dsts all i = o.dst := by simp [dsts, ho]
    refine ⟨by simp only [List.length_cons, sAt2]; rw [hd]; exact ih.1, fun k e' h => ?_⟩
    cases k with
    | zero => simp at h; subst h; exact ⟨o, by simpa using ho, .inr ⟨by simpa [sAt2] using hg, rfl⟩⟩
    | succ k =>
      obtain ⟨o', ho', h'⟩ := ih.2 k e' (by simpa using h)
      refine ⟨o', by rw [← ho']; congr 1; omega, ?_⟩
      simp only [sAt2]; rw [hd]; exact h'
/-- The temporaries when the operations of L have been carried out. -/
def tD2 (all : Array Oper) (s : Sf) (es : List Ef) (L : Nat → Bool) : Nat → Nat → AV
  | 0, t => lget s.T t
  | k + 1, t => match es[k]? with
    | some e => if L k = true ∧ dsts all k = some t then e.val else tD2 all s es L k t
    | none => tD2 all s es L k t
def hD2 (s : Sf) (es : List Ef) (L : Nat → Bool) : Nat → Nat → Option ABlk
  | 0, b => s.h b
  | k + 1, b => match es[k]? with
    | some e => if L k = true then updl (hD2 s es L k) e.wr b else hD2 s es L k b
    | none => hD2 s es L k b
omit [Base] in
theorem tD_text2 (s : Sf) (es : List Ef) : ∀ k, k ≤ es.length → (sAt2 all 0 s es k).T.length = s.T.length ∧ ∀ t, t < s.T.length → lget (sAt2 all 0 s es k).T t = tD2 all s es (fun _ => true) k t
  | 0, _ => by simp [sAt_zero2, tD2]
  | k + 1, hk => by
    obtain ⟨h1, h2⟩ := tD_text2 s es k (by omega)
    have he : es[k]? = some es[k] := List.getElem?_eq_getElem (by omega)
    rw [sAt_succ2 es 0 s k _ he]
    refine ⟨by simp [lseto_length, h1], fun t ht => ?_⟩
    simp only [Nat.zero_add, tD2, he, true_and]
    cases hd : dsts all k with
    | none => simp [lseto, h2 t ht]
    | some d =>
      simp only [lseto, lget_set, Option.some.injEq]
      by_cases hdt : d = t
      · subst hdt; rw [if_pos ⟨rfl, by omega⟩, if_pos rfl]
      · rw [if_neg (fun h => hdt h.1), if_neg hdt]; exact h2 t ht
omit [Base] in
theorem hD_text2 (s : Sf) (es : List Ef) : ∀ k, k ≤ es.length → ∀ b, (sAt2 all 0 s es k).h b = hD2 s es (fun _ => true) k b
  | 0, _, b => by simp [sAt_zero2, hD2]
  | k + 1, hk, b => by
    have ih := hD_text2 s es k (by omega)
    have he : es[k]? = some es[k] := List.getElem?_eq_getElem (by omega)
    rw [sAt_succ2 es 0 s k _ he]
    simp only [hD2, he, if_true]
    rw [show (sAt2 all 0 s es k).h = hD2 s es (fun _ => true) k from funext ih]
omit [Base] in
/-- A temporary that operation i looks at: the others that write it have come before, or have not come. -/
theorem tD_at2 (s : Sf) (es : List Ef) (L : Nat → Bool) (t i : Nat) (h1 : ∀ k, k < i → dsts all k = some t → L k = true) (h2 : ∀ k, i ≤ k → dsts all k = some t → L k = false) :
    ∀ n, i ≤ n → tD2 all s es L n t = tD2 all s es (fun _ => true) i t := by
  have below : ∀ k, k ≤ i → tD2 all s es L k t = tD2 all s es (fun _ => true) k t := by
    intro k
    induction k with
    | zero => intro _; rfl
    | succ k ih =>
      intro hk
      simp only [tD2, true_and]
      cases he : es[k]? with
      | none => exact ih (by omega)
      | some e =>
        by_cases hd : dsts all k = some t
        · simp only [hd, and_true]
          rw [if_pos (h1 k (by omega) hd), if_pos trivial]
        · simp only [hd, and_false, if_false]; exact ih (by omega)
  intro n
  induction n with
  | zero => intro h; have : i = 0 := by omega
            subst this; rfl
  | succ n ih =>
    intro h
    by_cases hi : i = n + 1
    · rw [← hi]; exact below i (Nat.le_refl _)
    · simp only [tD2]
      cases he : es[n]? with
      | none => exact ih (by omega)
      | some e =>
        have : ¬ (L n = true ∧ dsts all n = some t) := by
          rintro ⟨ha, hb⟩
          rw [h2 n (by omega) hb] at ha; cases ha
        simp only [this, if_false]
        exact ih (by omega)
omit [Base] in
theorem hD_at2 (s : Sf) (es : List Ef) (L : Nat → Bool) (b i : Nat) (h1 : ∀ k e, k < i → es[k]? = some e → wrote b e.wr = true → L k = true) (h2 : ∀ k e, i ≤ k → es[k]? = some e → wrote b e.wr = true → L k = false) :
    ∀ n, i ≤ n → hD2 s es L n b = hD2 s es (fun _ => true) i b := by
  have below : ∀ k, k ≤ i → hD2 s es L k b = hD2 s es (fun _ => true) k b := by
    intro k
    induction k with
    | zero => intro _; rfl
    | succ k ih =>
      intro hk
      simp only [hD2, if_true]
      cases he : es[k]? with
      | none => exact ih (by omega)
      | some e =>
        simp only
        cases hw : wrote b e.wr with
        | true => rw [if_pos (h1 k e (by omega) he hw)]; exact updl_is _ _ _ _ hw
        | false =>
          rw [updl_not _ _ _ hw, updl_not _ _ _ hw]
          split <;> exact ih (by omega)
  intro n
  induction n with
  | zero => intro h; have : i = 0 := by omega
            subst this; rfl
  | succ n ih =>
    intro h
    by_cases hi : i = n + 1
    · rw [← hi]; exact below i (Nat.le_refl _)
    · simp only [hD2]
      cases he : es[n]? with
      | none => exact ih (by omega)
      | some e =>
        simp only
        cases hw : wrote b e.wr with
        | true => rw [if_neg (by rw [h2 n e (by omega) he hw]; simp)]; exact ih (by omega)
        | false =>
          rw [updl_not _ _ _ hw]
          split <;> exact ih (by omega)
omit [Base] in
/-- One operation more. -/
theorem tD_add2 (s : Sf) (es : List Ef) (L L' : Nat → Bool) (i : Nat) (e : Ef) (he : es[i]? = some e) (hL : ∀ k, k ≠ i → L' k = L k) (hLi : L' i = true) (h0 : L i = false) (t : Nat)
    (h2 : dsts all i = some t → ∀ k, i < k → dsts all k = some t → L k = false) : ∀ n, tD2 all s es L' n t = if i < n ∧ dsts all i = some t then e.val else tD2 all s es L n t
  | 0 => by simp [tD2]
  | n + 1 => by
    have ih := tD_add2 s es L L' i e he hL hLi h0 t h2 n
    simp only [tD2]
    by_cases hni : n = i
    · subst hni
      simp only [he, hLi, true_and, h0, Bool.false_eq_true, false_and, if_false, Nat.lt_succ_self]
      rw [ih]
      by_cases hd : dsts all n = some t
      · simp [hd]
      · simp [hd]
    · cases hen : es[n]? with
      | none =>
        simp only
        rw [ih]
        by_cases hd : i < n
        · simp [hd, show i < n + 1 by omega]
        · have : ¬ i < n + 1 := by omega
          simp [hd, this]
      | some e' =>
        simp only [hL n hni]
        rw [ih]
        by_cases hc : L n = true ∧ dsts all n = some t
        · simp only [hc]
          by_cases hd : i < n + 1 ∧ dsts all i = some t
          · have := h2 hd.2 n (by omega) hc.2
            rw [hc.1] at this; cases this
          · simp [hd]
        · simp only [hc, if_false]
          by_cases hd : i < n
          · simp [hd, show i < n + 1 by omega]
          · have : ¬ i < n + 1 := by omega
            simp [hd, this]
omit [Base] in
theorem updl_comm (f : Nat → Option ABlk) (u v : List (Nat × ABlk)) (hd : ∀ b, wrote b u = true → wrote b v = false) : updl (updl f u) v = updl (updl f v) u := by
  funext b
  cases hu : wrote b u with
  | true =>
    have hv := hd b hu
    rw [updl_not v _ b hv]
    exact updl_is u _ _ b hu
  | false =>
    rw [updl_not u _ b hu]
    cases hv : wrote b v with
    | true => exact updl_is v _ _ b hv
    | false => rw [updl_not v _ b hv, updl_not v _ b hv, updl_not u _ b hu]
omit [Base] in
theorem hD_add2 (s : Sf) (es : List Ef) (L L' : Nat → Bool) (i : Nat) (e : Ef) (he : es[i]? = some e) (hL : ∀ k, k ≠ i → L' k = L k) (hLi : L' i = true) (h0 : L i = false)
    (h2 : ∀ b, wrote b e.wr = true → ∀ k f, i < k → es[k]? = some f → wrote b f.wr = true → L k = false) : ∀ n, i < n → hD2 s es L' n = updl (hD2 s es L n) e.wr := by
  have below : ∀ n, n ≤ i → hD2 s es L' n = hD2 s es L n := by
    intro n
    induction n with
    | zero => intro _; rfl
    | succ n ih =>
      intro hn
      funext b
      simp only [hD2, hL n (by omega), ih (by omega)]
  intro n
  induction n with
  | zero => intro h; omega
  | succ n ih =>
    intro hn
    by_cases hni : n = i
    · subst hni
      have hx : hD2 s es L (n + 1) = hD2 s es L n := by funext b'; simp only [hD2, he, h0, Bool.false_eq_true, if_false]
      rw [hx]
      funext b
      simp only [hD2, he, hLi, if_true, below n (Nat.le_refl _)]
    · have ih := ih (by omega)
      cases hen : es[n]? with
      | none =>
        have hx : hD2 s es L (n + 1) = hD2 s es L n := by funext b'; simp only [hD2, hen]
        rw [hx]
        funext b
        simp only [hD2, hen, ih]
      | some f =>
        by_cases hLn : L n = true
        · have hx : hD2 s es L (n + 1) = updl (hD2 s es L n) f.wr := by funext b'; simp only [hD2, hen, hLn, if_true]
          have hx' : hD2 s es L' (n + 1) = updl (hD2 s es L' n) f.wr := by funext b'; simp only [hD2, hen, hL n hni, hLn, if_true]
          rw [hx, hx', ih]
          refine updl_comm _ _ _ fun b hb => ?_
          cases hf : wrote b f.wr with
          | false => rfl
          | true => have := h2 b hb n f (by omega) hen hf; rw [hLn] at this; cases this
        · have hx : hD2 s es L (n + 1) = hD2 s es L n := by funext b'; simp [hD2, hen, hLn]
          have hx' : hD2 s es L' (n + 1) = hD2 s es L' n := by funext b'; simp [hD2, hen, hL n hni, hLn]
          rw [hx, hx', ih]
omit [Base] in
theorem tD_congr2 (s : Sf) (es : List Ef) (L L' : Nat → Bool) (t : Nat) : ∀ n, (∀ k, k < n → L k = L' k) → tD2 all s es L n t = tD2 all s es L' n t
  | 0, _ => rfl
  | n + 1, h => by simp only [tD2, h n (by omega), tD_congr2 s es L L' t n (fun k hk => h k (by omega))]
omit [Base] in
theorem hD_congr2 (s : Sf) (es : List Ef) (L L' : Nat → Bool) : ∀ n, (∀ k, k < n → L k = L' k) → hD2 s es L n = hD2 s es L' n
  | 0, _ => rfl
  | n + 1, h => by funext b; simp only [hD2, h n (by omega), hD_congr2 s es L L' n (fun k hk => h k (by omega))]
omit [Base] in
theorem tD_none2 (s : Sf) (es : List Ef) (t : Nat) : ∀ n, tD2 all s es (fun _ => false) n t = lget s.T t
  | 0 => rfl
  | n + 1 => by simp only [tD2, Bool.false_eq_true, false_and, if_false]; split <;> exact tD_none2 s es t n
omit [Base] in
theorem hD_none2 (s : Sf) (es : List Ef) : ∀ n, hD2 s es (fun _ => false) n = s.h
  | 0 => rfl
  | n + 1 => by funext b; simp only [hD2, Bool.false_eq_true, if_false]; split <;> rw [hD_none2 s es n]
omit [Base] in
theorem sAt_D2 : ∀ (es : List Ef) (i : Nat) (s : Sf) (k : Nat), (sAt2 all i s es k).D = s.D
  | [], _, _, _ => by simp [sAt2]
  | _ :: _, _, _, 0 => rfl
  | _ :: es, i, s, k + 1 => by simp only [sAt2]; exact sAt_D2 es (i + 1) _ k
omit [Base] in
theorem wrote_mem : ∀ {l : List (Nat × ABlk)} {b : Nat}, wrote b l = true → ∃ k, (b, k) ∈ l
  | [], _, h => by simp [wrote] at h
  | (c, k) :: l, b, h => by
    simp only [wrote, Bool.or_eq_true] at h
    rcases h with h | h
    · have : c = b := Nat.eq_of_beq_eq_true h
      subst this; exact ⟨k, by simp⟩
    · obtain ⟨k', hk⟩ := wrote_mem h; exact ⟨k', by simp [hk]⟩
omit [Base] in
theorem conf_of {e f : Ef} {b : Nat} (hw : wrote b f.wr = true) (hb : b ∈ e.rd ∨ wrote b e.wr = true ∨ e.all = true) : heapConf2 f e = true := by
  obtain ⟨k, hk⟩ := wrote_mem hw
  simp only [heapConf2, Bool.or_eq_true, List.any_eq_true, Bool.and_eq_true, Bool.not_eq_true']
  rcases hb with hb | hb | hb
  · exact .inl (.inl (.inl ⟨_, hk, .inl (by simpa using hb)⟩))
  · exact .inl (.inl (.inl ⟨_, hk, .inr hb⟩))
  · refine .inr ⟨hb, ?_⟩
    cases hf : f.wr with
    | nil => rw [hf] at hk; cases hk
    | cons x l => rfl
omit [Base] in
theorem conf_of' {e f : Ef} {b : Nat} (hw : wrote b f.wr = true) (hb : b ∈ e.rd ∨ wrote b e.wr = true ∨ e.all = true) : heapConf2 e f = true := by
  obtain ⟨k, hk⟩ := wrote_mem hw
  simp only [heapConf2, Bool.or_eq_true, List.any_eq_true, Bool.and_eq_true, Bool.not_eq_true']
  rcases hb with hb | hb | hb
  · exact .inl (.inl (.inr ⟨_, hk, by simpa using hb⟩))
  · obtain ⟨k', hk'⟩ := wrote_mem hb
    exact .inl (.inl (.inl ⟨_, hk', .inr hw⟩))
  · refine .inl (.inr ⟨hb, ?_⟩)
    cases hf : f.wr with
    | nil => rw [hf] at hk; cases hk
    | cons x l => rfl
/-- WHATEVER ORDER IS DRAWN. -/
theorem draw_sound2 {ex : List Nat} {Z : Nat → Option ABlk} {mz : Nat → Option Loc} {wz : World} {Q : Exit → Act → World → Prop} {s s' : Sf} {es : List Ef} {id : Nat} (hm : P.follows .mixedOrders = true) (tr : Trace2 P w0 r all 0 s es s') (hl : es.length = all.size)
    (hc : regOK all = true) (hh : heapOK2 all es = true) (hQ : ∀ a w, SatX w0 ex Z mz wz s' a w → Q .normal a w) (a : Act) (w : World) (hs : SatX w0 ex Z mz wz s a w) : (Code.region id all true).wpIn (FW r) 0 P Q a w := by
  obtain ⟨hs', hat⟩ := trace_at2 tr
  simp only [Nat.zero_add] at hat
  -- the closed facts
  simp only [regOK, List.all_eq_true, List.mem_range, Bool.and_eq_true] at hc
  have hdown : ∀ j o, all[j]? = some o → ∀ e ∈ o.after, Region.binds .any e = true → e.on < j := by
    intro j o ho e he hb
    have hj : j < all.size := (Array.getElem?_eq_some_iff.1 ho).1
    have := (hc j hj).1
    simp only [ho, Array.all_eq_true_iff_forall_mem, Bool.or_eq_true, Bool.not_eq_true', decide_eq_true_eq] at this
    exact (this e he).resolve_left (by simp [hb])
  have hslot : ∀ i j, i < j → j < all.size → slotConf all i j = true → depB all 3 j i = true := by
    intro i j hij hj hcf
    have := (hc j hj).2 i hij
    simpa [hcf] using this
  have hheap : ∀ i j e f, i < j → j < all.size → es[i]? = some e → es[j]? = some f → heapConf2 e f = true → depB all 3 j i = true := by
    intro i j e f hij hj hi hj' hcf
    simp only [heapOK2, List.all_eq_true, List.mem_range] at hh
    have := hh j hj i hij
    simpa [hi, hj', hcf] using this
  refine wpIn_region_any hm ?_
  have hdst : ∀ k t, dsts all k = some t → k < all.size := by
    intro k t hk
    cases ho : all[k]? with
    | none => simp [dsts, ho] at hk
    | some o => exact (Array.getElem?_eq_some_iff.1 ho).1
  -- all have come: the state behind the region
  have done : ∀ (listed : Array Bool) (a : Act) (w : World), (∀ j, j < all.size → listed.getD j false = true) →
      SatG w0 ex Z mz wz (tD2 all s es (fun j => listed.getD j false) all.size) s.T.length (hD2 s es (fun j => listed.getD j false) all.size) s.D a w → Q .normal a w := by
    intro listed a w hall ⟨m, hsat, hext⟩
    refine hQ a w ⟨m, ?_⟩
    have hlen := (tD_text2 (all := all) s es es.length (Nat.le_refl _)).1
    have hD' : s'.h = hD2 s es (fun j => listed.getD j false) all.size := by
      funext b
      rw [hs', hD_text2 s es es.length (Nat.le_refl _) b, hl]
      rw [hD_congr2 s es (fun j => listed.getD j false) (fun _ => true) all.size (fun k hk => hall k hk)]
    have hTl : s'.T.length = s.T.length := by rw [hs']; exact hlen
    refine ⟨⟨by rw [hD']; exact hsat.good, by rw [hTl]; exact hsat.size, fun j hj => ?_, hsat.roots, by rw [hD', hs', sAt_D2]; exact hsat.marks⟩, by rw [hD']; exact hext⟩
    rw [hTl] at hj
    obtain ⟨v, hv, hr⟩ := hsat.tmps j hj
    refine ⟨v, hv, ?_⟩
    rw [hD', hs', (tD_text2 (all := all) s es es.length (Nat.le_refl _)).2 j hj, hl]
    rw [tD_congr2 s es (fun _ => true) (fun j => listed.getD j false) j all.size (fun k hk => (hall k hk).symm)]
    exact hr
  -- the walk over every order
  have key : ∀ (fuel : Nat) (listed : Array Bool) (a : Act) (w : World), listed.size = all.size → (∀ j o, all[j]? = some o → listed.getD j false = true → ∀ e ∈ o.after, Region.binds .any e = true → listed.getD e.on false = true) →
      (List.range all.size).countP (fun j => !listed.getD j true) ≤ fuel →
      SatG w0 ex Z mz wz (tD2 all s es (fun j => listed.getD j false) all.size) s.T.length (hD2 s es (fun j => listed.getD j false) all.size) s.D a w →
      wpAnyIn (FW r) 0 P .any all Q fuel listed a w := by
    intro fuel
    induction fuel with
    | zero =>
      intro listed a w hsz hcl hcnt hsat
      have hall : ∀ j, j < all.size → listed.getD j true = true := by
        intro j hj
        cases hg : listed.getD j true with
        | true => rfl
        | false =>
          have : 0 < (List.range all.size).countP (fun j => !listed.getD j true) := List.countP_pos_iff.2 ⟨j, List.mem_range.2 hj, by simp only [hg]; rfl⟩
          omega
      refine ⟨?_, done listed a w (fun j hj => ?_) hsat⟩
      · apply List.eq_nil_iff_forall_not_mem.2
        intro j hj
        obtain ⟨h1, o, ho, _⟩ := mem_ready.1 hj
        rw [hall j (Array.getElem?_eq_some_iff.1 ho).1] at h1; cases h1
      · have := hall j hj
        have hjs : j < listed.size := by omega
        simp [hjs] at this ⊢; exact this
    | succ fuel ih =>
      intro listed a w hsz hcl hcnt hsat
      refine ⟨fun hnil => done listed a w (fun j hj => ?_) hsat, fun i hi => ?_⟩
      · induction j using Nat.strongRecOn with
        | _ j ihj =>
          cases hg : listed.getD j false with
          | true => rfl
          | false =>
            obtain ⟨o, ho⟩ : ∃ o, all[j]? = some o := ⟨all[j], Array.getElem?_eq_getElem hj⟩
            have : j ∈ Region.ready .any all listed := mem_ready.2 ⟨getD_in (by omega) hg, o, ho, fun e he hb => ihj e.on (hdown j o ho e he hb) (by have := hdown j o ho e he hb; omega)⟩
            rw [hnil] at this; cases this
      · obtain ⟨hun, o, ho, hed⟩ := mem_ready.1 hi
        have hin : i < all.size := (Array.getElem?_eq_some_iff.1 ho).1
        have hi0 : listed.getD i false = false := getD_both hun
        obtain ⟨e, he⟩ : ∃ e, es[i]? = some e := ⟨es[i]'(by omega), List.getElem?_eq_getElem (by omega)⟩
        obtain ⟨o', ho', hcase⟩ := hat i e he
        rw [ho] at ho'; cases ho'
        have hafter : ∀ k, depB all 3 i k = true → listed.getD k false = true := fun k hk => depB_spec (L := fun j => listed.getD j false) hcl 3 i k o ho hed hk
        have hlate : ∀ k, i < k → k < all.size → depB all 3 k i = true → listed.getD k false = false := by
          intro k hik hk hd
          cases hg : listed.getD k false with
          | false => rfl
          | true =>
            obtain ⟨ok, hok⟩ : ∃ o, all[k]? = some o := ⟨all[k], Array.getElem?_eq_getElem hk⟩
            have := depB_spec (L := fun j => listed.getD j false) hcl 3 k i ok hok (hcl k ok hok hg) hd
            simp only [hi0, Bool.false_eq_true] at this
        have hdi : dsts all i = o.dst := by simp [dsts, ho]
        have hli : looks all i = o.looksAt all := by simp [looks, ho]
        have hTlen := (tD_text2 (all := all) s es i (by omega)).1
        have hslotT : ∀ t, t ∈ o.looksAt all → t < s.T.length → tD2 all s es (fun j => listed.getD j false) all.size t = lget (sAt2 all 0 s es i).T t := by
          intro t ht htl
          rw [(tD_text2 (all := all) s es i (by omega)).2 t htl]
          refine tD_at2 s es _ t i (fun k hk hd => hafter k (hslot k i hk hin ?_)) (fun k hk hd => ?_) all.size (by omega)
          · simp [slotConf, hd, hli, ht]
          · rcases Nat.eq_or_lt_of_le hk with rfl | hk
            · exact hi0
            · refine hlate k hk (hdst k t hd) (hslot i k hk (hdst k t hd) ?_)
              simp [slotConf, hd, hli, ht]
        have his : i < listed.size := by omega
        have hset : (listed.setIfInBounds i true).getD i false = true := by simp [his]
        have hset2 : (listed.setIfInBounds i true).getD i true = true := by simp [his]
        have hheapB : ∀ b, (b ∈ e.rd ∨ wrote b e.wr = true ∨ e.all = true) → hD2 s es (fun j => listed.getD j false) all.size b = (sAt2 all 0 s es i).h b := by
          intro b hb
          rw [hD_text2 s es i (by omega) b]
          refine hD_at2 s es _ b i (fun k f hk hf hw => hafter k (hheap k i f e hk hin hf he ?_)) (fun k f hk hf hw => ?_) all.size (by omega)
          · exact conf_of hw hb
          · have hkn : k < all.size := by have := (List.getElem?_eq_some_iff.1 hf).1; omega
            rcases Nat.eq_or_lt_of_le hk with rfl | hk
            · exact hi0
            · exact hlate k hk hkn (hheap i k e f hk hkn he hf (conf_of' hw hb))
        obtain ⟨m, hsat, hext⟩ := hsat
        have hnextT : ∀ t, t < s.T.length → tD2 all s es (fun j => (listed.setIfInBounds i true).getD j false) all.size t = if o.dst = some t then e.val else tD2 all s es (fun j => listed.getD j false) all.size t := by
          intro t _
          have hadd := tD_add2 (all := all) s es (fun j => listed.getD j false) (fun j => (listed.setIfInBounds i true).getD j false) i e he (fun k hk => getD_set_ne false (Ne.symm hk)) hset hi0 t (fun hd k hk hdk => hlate k hk (hdst k t hdk) (hslot i k hk (hdst k t hdk) (by simp [slotConf, hd, hdk]))) all.size
          rw [hadd, hdi]
          simp [hin]
        have hnextH : hD2 s es (fun j => (listed.setIfInBounds i true).getD j false) all.size = updl (hD2 s es (fun j => listed.getD j false) all.size) e.wr := by
          refine hD_add2 s es (fun j => listed.getD j false) _ i e he (fun k hk => getD_set_ne false (Ne.symm hk)) hset hi0 (fun b hb k f hk hf hw => ?_) all.size hin
          have hkn : k < all.size := by have := (List.getElem?_eq_some_iff.1 hf).1; omega
          exact hlate k hk hkn (hheap i k e f hk hkn he hf (conf_of' hw (.inr (.inl hb))))
        have hgo : ∀ (v : Value) (w' : World) (m' : Nat → Option Loc), Good w0 (updl (hD2 s es (fun j => listed.getD j false) all.size) e.wr) m' w' → Ext (hD2 s es (fun j => listed.getD j false) all.size) m w (updl (hD2 s es (fun j => listed.getD j false) all.size) e.wr) m' w' →
            Rep (updl (hD2 s es (fun j => listed.getD j false) all.size) e.wr) m' w' e.val v → wpAnyIn (FW r) 0 P .any all Q fuel (listed.setIfInBounds i true) (a.put o.dst v) w' := by
          intro v w' m' g1 e1 r1
          refine ih _ _ _ (by simp [hsz]) (fun j oj hj hlj e' he' hb' => ?_) ?_ ⟨m', ?_, by rw [hnextH]; exact hext.trans e1⟩
          · by_cases hij : i = j
            · subst hij
              rw [ho] at hj; cases hj
              exact getD_set_true (hed e' he' hb')
            · rw [getD_set_ne false hij] at hlj
              exact getD_set_true (hcl j oj hj hlj e' he' hb')
          · have := countP_lt (p := fun j => !listed.getD j true) (q := fun j => !(listed.setIfInBounds i true).getD j true) (i := i) (List.range all.size) (List.mem_range.2 hin) (fun j hj => ?_) (by simp only [hun]; rfl) (by simp only [hset2]; rfl)
            · omega
            · by_cases hij : i = j
              · subst hij; simp only [hun]; rfl
              · rw [getD_set_ne true hij] at hj; exact hj
          · rw [hnextH]
            exact hsat.put g1 e1 r1 (fun j hj => hnextT j hj)
        unfold wpOpIn
        simp only [ho]
        have hwant : ∀ b, guardOf all (sAt2 all 0 s es i).T o = some b → Region.wanted o (yielded all a.tmps) = b := fun b hb =>
          guard_wanted hsat hTlen hb (fun j want d hgd hd hdl => hslotT d (by simp [Oper.looksAt, hgd, hd]) hdl)
        rcases hcase with ⟨hgd, hok⟩ | ⟨hgd, rfl⟩
        · rw [hwant true hgd, if_pos rfl]
          refine hok _ m w a _ Q (fun b hb => hheapB b (.inl hb)) (fun b hb => hheapB b (.inr (.inl hb))) (fun hb => funext fun b => hheapB b (.inr (.inr hb))) hsat.good (fun x hx => hsat.eval _ hTlen x (fun t ht htl => hslotT t ?_ htl)) hgo
          subst ht
          simp only [Oper.looksAt, List.mem_append, List.mem_filterMap]
          exact .inl ⟨.tmp t, by simpa using hx, rfl⟩
        · rw [hwant false hgd, if_neg (by simp)]
          exact ⟨fun _ _ => trivial, hgo undef w m hsat.good (Ext.refl _ _ _) rep_undef⟩
  obtain ⟨m, hs, hext⟩ := hs
  refine key all.size _ a _ (by simp) (fun j o _ hj => by rw [getD_replicate_false] at hj; cases hj) ?_ ⟨m, ?_⟩
  · exact Nat.le_trans List.countP_le_length (by simp)
  · have hf : (fun j => (Array.replicate all.size false).getD j false) = fun _ => false := funext fun j => getD_replicate_false _ _
    rw [hf, hD_none2]
    have ht : tD2 all s es (fun _ => false) all.size = lget s.T := funext fun t => tD_none2 s es t _
    rw [ht]
    obtain ⟨g1, e1⟩ := hs.good.garbage (below_drew w)
    exact ⟨⟨g1, hs.size, fun j hj => let ⟨v, hv, hr⟩ := hs.tmps j hj; ⟨v, hv, hr.ext e1⟩, hs.roots.ext e1, hs.marks⟩, hext.trans e1⟩
theorem trace_seq2 {ex : List Nat} {Z : Nat → Option ABlk} {mz : Nat → Option Loc} {wz : World} {Q : Exit → Act → World → Prop} : ∀ {i : Nat} {s s' : Sf} {es : List Ef}, Trace2 P w0 r all i s es s' → (∀ a w, SatX w0 ex Z mz wz s' a w → Q .normal a w) → ∀ a w, SatX w0 ex Z mz wz s a w →
    wpOpsIn (FW r) 0 P all Q (List.range' i es.length) a w := by
  intro i s s' es ht hQ
  induction ht with
  | nil i s => intro a w hs; exact hQ a w hs
  | run ho hg hok rest ih =>
    rename_i i s s' o e es
    intro a w ⟨m, hs, hext⟩
    simp only [List.length_cons, List.range'_succ]
    rw [wpOpsIn_cons]
    unfold wpOpIn
    simp only [ho]
    rw [guard_wanted hs rfl hg (fun _ _ _ _ _ _ => rfl), if_pos rfl]
    refine hok _ m w a _ Q (fun _ _ => rfl) (fun _ _ => rfl) (fun _ => rfl) hs.good (fun x _ => hs.eval s.T rfl x (fun _ _ _ => rfl)) (fun v w' m' g1 e1 r1 => ih hQ _ _ ⟨m', ?_, hext.trans e1⟩)
    simp only [lseto_length]
    refine hs.put g1 e1 r1 (fun j hj => ?_)
    cases hd : o.dst with
    | none => simp [lseto]
    | some d => simp only [lseto, lget_set, Option.some.injEq, hj, and_true]
  | skip ho hg rest ih =>
    rename_i i s s' o es
    intro a w ⟨m, hs, hext⟩
    simp only [List.length_cons, List.range'_succ]
    rw [wpOpsIn_cons]
    unfold wpOpIn
    simp only [ho]
    rw [guard_wanted hs rfl hg (fun _ _ _ _ _ _ => rfl), if_neg (by simp)]
    refine ⟨fun _ _ => trivial, ih hQ _ _ ⟨m, ?_, hext⟩⟩
    simp only [lseto_length]
    refine hs.put hs.good (Ext.refl _ _ _) rep_undef (fun j hj => ?_)
    cases hd : o.dst with
    | none => simp [lseto]
    | some d => simp only [lseto, lget_set, Option.some.injEq, hj, and_true]
omit [Base] in
theorem lift_upd (H : List (Option ABlk)) (e : E) : hget (hseto H e.wr) = updl (hget H) (lift e).wr := by
  obtain ⟨v, rd, wr⟩ := e
  rw [hget_seto]
  cases wr with
  | none => rfl
  | some p => rfl
theorem Trace.two : ∀ {i : Nat} {s s' : St} {es : List E}, Trace P w0 r all i s es s' → Trace2 P w0 r all i s.f (es.map lift) s'.f := by
  intro i s s' es ht
  induction ht with
  | nil i s => exact .nil i _
  | run ho hg hok rest ih =>
    refine .run ho hg hok.lift ?_
    simp only [St.f, lift_upd] at ih
    exact ih
  | skip ho hg rest ih => exact .skip ho hg ih
omit [Base] in
theorem conf_lift (e f : E) : heapConf2 (lift e) (lift f) = heapConf e f := by
  obtain ⟨v, rd, wr⟩ := e
  obtain ⟨v', rd', wr'⟩ := f
  cases wr with
  | none => cases wr' <;> simp [heapConf2, heapConf, lift, wrote]
  | some p =>
    cases wr' with
    | none => simp [heapConf2, heapConf, lift, wrote]
    | some q =>
      have : q.1.beq p.1 = (p.1 == q.1) := by rw [Bool.eq_iff_iff, Nat.beq_eq, beq_iff_eq]; exact eq_comm
      simp [heapConf2, heapConf, lift, wrote, this]
omit [Base] in
theorem heapOK_lift {es : List E} (h : heapOK all es = true) : heapOK2 all (es.map lift) = true := by
  unfold heapOK at h
  unfold heapOK2
  simp only [List.all_eq_true] at h ⊢
  intro j hj i hi
  have := h j hj i hi
  simp only [List.getElem?_map]
  cases he : es[i]? with
  | none => simp
  | some e =>
    cases hf : es[j]? with
    | none => simp
    | some f =>
      simp only [he, hf, Option.map_some, conf_lift] at this ⊢
      exact this
end
end Go.Am

/- The abstract machine Am, part N: statements; functions. -/
namespace Go.Am
open Go.RowKit
variable [Base]
/-- What a call found when it began: nothing of that is lost. -/
structure Ctx where
  Z : Nat → Option ABlk
  mz : Nat → Option Loc
  wz : World
def SatC (w0 : World) (X : Ctx) (s : St) (a : Act) (w : World) : Prop := ∃ ex : List Nat, (∀ c ∈ ex, X.wz.heap.size ≤ c) ∧ ∃ m, SatM w0 ex (lget s.T) s.T.length (hget s.H) s.D m a w ∧ Ext X.Z X.mz X.wz (hget s.H) m w
/-- WHAT A STATEMENT COMES TO, SAID OF ABSTRACT STATES. -/
def AWP (P : Program) (w0 : World) (r : Option Nat) (X : Ctx) (c : Code) (s : St) (Q : Exit → St → Prop) : Prop :=
  ∀ a w, SatC w0 X s a w → c.wpIn (FW r) 0 P (fun e a' w' => ∃ s', Q e s' ∧ SatC w0 X s' a' w') a w
section
variable {P : Program} {w0 : World} {r : Option Nat} {X : Ctx} {s : St} {Q : Exit → St → Prop}
theorem AWP.mono {c : Code} {Q' : Exit → St → Prop} (h : AWP P w0 r X c s Q) (hq : ∀ e s, Q e s → Q' e s) : AWP P w0 r X c s Q' :=
  fun a w hs => wpIn_mono (h a w hs) fun _ _ _ ⟨s', h1, h2⟩ => ⟨s', hq _ _ h1, h2⟩
theorem awp_skip (h : Q .normal s) : AWP P w0 r X .skip s Q := fun _ _ hs => wpIn_skip ⟨s, h, hs⟩
theorem awp_exit {id : Nat} (h : Q (.exit id) s) : AWP P w0 r X (.exit id) s Q := fun _ _ hs => wpIn_exit ⟨s, h, hs⟩
theorem awp_ret (h : Q .ret s) : AWP P w0 r X .ret s Q := fun _ _ hs => wpIn_ret ⟨s, h, hs⟩
/-- What follows stands behind K. -/
def thenQ (K : St → Prop) (Q : Exit → St → Prop) : Exit → St → Prop
  | .normal, s => K s
  | e, s => Q e s
theorem awp_seq {a b : Code} (h : ∀ K : St → Prop, (∀ s, AWP P w0 r X b s Q → K s) → AWP P w0 r X a s (thenQ K Q)) : AWP P w0 r X (.seq a b) s Q := by
  intro ac w hs
  refine wpIn_seq (wpIn_mono (h (fun s => AWP P w0 r X b s Q) (fun _ h => h) ac w hs) ?_)
  rintro e a' w' ⟨s', h1, h2⟩
  cases e with
  | normal => exact h1 a' w' h2
  | exit id => exact ⟨s', h1, h2⟩
  | goto l => exact ⟨s', h1, h2⟩
  | ret => exact ⟨s', h1, h2⟩
  | panic c => exact ⟨s', h1, h2⟩
  | outgrown => exact ⟨s', h1, h2⟩
theorem sat_bool {c : Operand} {b : Bool} (hc : aev s.T c = .bool b) {a : Act} {w : World} (hs : SatC w0 X s a w) : a.eval c = .bool b := by
  obtain ⟨_, _, m, hs⟩ := hs
  have := hs.1.eval s.T rfl c (fun _ _ _ => rfl)
  rw [hc] at this
  exact rep_bool this
theorem awp_cond {c : Operand} {x y : Code} {b : Bool} (hc : aev s.T c = .bool b) (h1 : b = true → AWP P w0 r X x s Q) (h2 : b = false → AWP P w0 r X y s Q) : AWP P w0 r X (.cond c x y) s Q :=
  fun a w hs => wpIn_cond_split (sat_bool hc hs) (fun h => h1 h a w hs) (fun h => h2 h a w hs)
theorem awp_cond_true {c : Operand} {x y : Code} (hc : aev s.T c = .bool true) (h1 : AWP P w0 r X x s Q) : AWP P w0 r X (.cond c x y) s Q := awp_cond hc (fun _ => h1) (fun h => by cases h)
theorem awp_cond_false {c : Operand} {x y : Code} (hc : aev s.T c = .bool false) (h2 : AWP P w0 r X y s Q) : AWP P w0 r X (.cond c x y) s Q := awp_cond hc (fun h => by cases h) (fun _ => h2)
def blockQ (id : Nat) (Q : Exit → St → Prop) : Exit → St → Prop
  | .exit i, s => if i = id then Q .normal s else Q (.exit i) s
  | e, s => Q e s
theorem awp_block {id : Nat} {c : Code} (h : AWP P w0 r X c s (blockQ id Q)) : AWP P w0 r X (.block id c) s Q := by
  intro ac w hs
  refine wpIn_block (wpIn_mono (h ac w hs) ?_)
  rintro e a' w' ⟨s', h1, h2⟩
  cases e with
  | exit i =>
    simp only [blockQ] at h1
    simp only [Exit.inBlock]
    split at h1
    · rename_i hi; rw [if_pos hi]; exact ⟨s', h1, h2⟩
    · rename_i hi; rw [if_neg hi]; exact ⟨s', h1, h2⟩
  | normal => exact ⟨s', h1, h2⟩
  | goto l => exact ⟨s', h1, h2⟩
  | ret => exact ⟨s', h1, h2⟩
  | panic c => exact ⟨s', h1, h2⟩
  | outgrown => exact ⟨s', h1, h2⟩
/-- A region whose order is that of the text. -/
theorem awp_region {id : Nat} {ops : List Oper} (h : evOps P ops.toArray ops s [] fun s' _ => Q .normal s') : AWP P w0 r X (.region id ops.toArray false) s Q := by
  intro a w ⟨ex, hex, hs⟩
  obtain ⟨es, s', ht, hl, hk⟩ := ev_trace (w0 := w0) (r := r) ops 0 s [] _ (fun k _ => by simp) h
  refine wpIn_region ?_
  have := trace_seq2 (Z := X.Z) (mz := X.mz) (wz := X.wz) (Q := fun e a' w' => ∃ s', Q e s' ∧ SatC w0 X s' a' w') ht.two (fun a w hs => ⟨s', hk, ex, hex, hs⟩) a w hs
  rw [List.length_map, hl] at this
  simpa [List.range_eq_range'] using this
/-- A region that draws its order. -/
theorem awp_draw {id : Nat} {ops : List Oper} (hm : P.follows .mixedOrders = true) (hc : regOK ops.toArray = true) (h : evOps P ops.toArray ops s [] fun s' es => heapOK ops.toArray es = true ∧ Q .normal s') :
    AWP P w0 r X (.region id ops.toArray true) s Q := by
  intro a w ⟨ex, hex, hs⟩
  obtain ⟨es, s', ht, hl, hk1, hk2⟩ := ev_trace (w0 := w0) (r := r) ops 0 s [] _ (fun k _ => by simp) h
  simp only [List.nil_append] at hk1
  exact draw_sound2 (Z := X.Z) (mz := X.mz) (wz := X.wz) hm ht.two (by simpa using hl) hc (heapOK_lift hk1) (fun a w hs => ⟨s', hk2, ex, hex, hs⟩) a w hs
omit [Base] in
/-- A loop whose measure is a ghost's. -/
theorem wpIn_loop_g {F : Fence} {n : Nat} {c : Code} {γ : Type} {QQ : Exit → Act → World → Prop} {a : Act} {w : World} (I : γ → Act → World → Prop) (μ : γ → Nat) (g0 : γ) (h₀ : I g0 a w)
    (round : ∀ g a w, I g a w → c.wpIn F n P (Exit.then (fun a' w' => ∃ g', μ g' < μ g ∧ I g' a' w') QQ) a w) : (Code.loop c).wpIn F n P QQ a w := by
  intro b k cs hro hb hr
  have key : ∀ j g a w, μ g = j → I g a w →
      ∃ e a' w', QQ e a' w' ∧ ArrivesIn (Machine.fenced P F) P (lone (b.atR a (.code c :: .inLoop c :: k)) cs w) b k cs e a' w' := by
    intro j
    induction j using Nat.strongRecOn with
    | _ j ih =>
      intro g a w hn hI
      obtain ⟨e, a₁, w₁, hq, harr⟩ := round g a w hI b (.inLoop c :: k) cs hro hb hr
      cases e with
      | normal =>
        obtain ⟨g', hlt, hI₁⟩ := hq
        obtain ⟨e₂, a₂, w₂, hq₂, harr₂⟩ := ih (μ g') (hn ▸ hlt) g' a₁ w₁ rfl hI₁
        exact ⟨e₂, a₂, w₂, hq₂, .of_steps (StepsIn.trans harr (.one (fenced_calm hb hr rfl) stepR_inLoop)) harr₂⟩
      | exit id => exact ⟨_, a₁, w₁, hq, .pass (x := .inLoop c) rfl (fun _ _ => .inl (by simp)) harr⟩
      | goto l => exact ⟨_, a₁, w₁, hq, .pass (x := .inLoop c) rfl (fun _ _ => .inl (by simp)) harr⟩
      | ret => exact ⟨_, a₁, w₁, hq, .pass (x := .inLoop c) rfl (fun _ _ => .inl (by simp)) harr⟩
      | panic ch => exact ⟨_, a₁, w₁, hq, .pass (x := .inLoop c) rfl (fun _ _ => .inl (by simp)) harr⟩
      | outgrown => exact ⟨_, a₁, w₁, hq, .pass (x := .inLoop c) rfl (fun _ _ => .inl (by simp)) harr⟩
  obtain ⟨e, a', w', hq, harr⟩ := key _ g0 a w rfl h₀
  exact ⟨e, a', w', hq, .of_steps (.one (fenced_calm hb hr rfl) stepR_loop) harr⟩
end
end Go.Am

/- The abstract machine Am, part O: states that say less; lists that will be changed no more; functions. -/
namespace Go.Am
open Go.RowKit
variable [Base]
/-- Does a value lead to blocks of p alone? -/
def live0 (p : Nat → Bool) : AV → Bool
  | .ptr b _ _ => p b
  | .osl b _ _ _ => p b
  | .oslc b _ _ _ _ => p b
  | .map b => p b
  | .fn (.func _) xs ys => xs.isEmpty && ys.isEmpty
  | .fn _ _ _ => false
  | .agg _ => false
  | .tup _ => false
  | _ => true
def live1 (p : Nat → Bool) : AV → Bool
  | .fn (.func _) xs ys => xs.all (live0 p) && ys.all (live0 p)
  | .fn (.yield b) xs ys => p b && xs.isEmpty && ys.isEmpty
  | .agg xs => xs.all (live0 p)
  | x => live0 p x
def live2 (p : Nat → Bool) : AV → Bool
  | .fn (.func _) xs ys => xs.all (live1 p) && ys.all (live1 p)
  | .agg xs => xs.all (live1 p)
  | .tup xs => xs.all (live1 p)
  | x => live1 p x
def blkLive (p : Nat → Bool) : ABlk → Bool
  | .cells _ _ _ xs => xs.all (live2 p)
  | .map es => es.all fun e => live2 p e.1 && live2 p e.2
  | .dfr _ => true
  | .loop _ _ _ T _ _ _ d => T.all (live2 p) && p d
section kill
variable {h h' : Nat → Option ABlk} {m : Nat → Option Loc} {w : World} {p : Nat → Bool}
def killM (m : Nat → Option Loc) (p : Nat → Bool) : Nat → Option Loc := fun b => if p b then m b else none
theorem ok_kill {c : Nat} (hc : Ok m w c) : Ok (killM m p) w c := by
  refine ⟨hc.1, fun b l hl => ?_, hc.2.2⟩
  unfold killM at hl
  split at hl
  · exact hc.2.1 b l hl
  · cases hl
omit [Base] in
theorem un_kill {c : Nat} (hc : Un m w c) : Un (killM m p) w c := by
  refine ⟨hc.1, fun b l hl => ?_⟩
  unfold killM at hl
  split at hl
  · exact hc.2 b l hl
  · cases hl
theorem rep0_kill {x : AV} {v : Value} (r : Rep h m w x v) (hx : live0 p x = true) (hp : ∀ b, p b = true → h' b = h b) : Rep h' (killM m p) w x v := by
  cases r with
  | pure q => exact .pure (q.mono (fun _ _ => rfl) (fun _ hc => ok_kill hc))
  | ptr hb hg ho hv => exact .ptr ((hp _ hx).trans hb) hg ho (fun e => by simpa [killM, show p _ = true from hx] using hv e)
  | osl hb hg ho hv => exact .osl ((hp _ hx).trans hb) hg ho (fun e => by simpa [killM, show p _ = true from hx] using hv e)
  | oslc hb hg ho hv => exact .oslc ((hp _ hx).trans hb) hg ho (fun e => by simpa [killM, show p _ = true from hx] using hv e)
  | map hb hm => exact .map ((hp _ hx).trans hb) (by simpa [killM, show p _ = true from hx] using hm)
  | yld hb hk hm => simp [live0] at hx
  | fn us vs hf h1 h2 r1 r2 =>
    rename_i f xs ys
    cases f <;> simp only [live0, Bool.false_eq_true, Bool.and_eq_true, List.isEmpty_iff] at hx
    obtain ⟨rfl, rfl⟩ := hx
    exact .fn us vs hf h1 h2 (fun j a => by simp at a) (fun j a => by simp at a)
  | agg us h1 ho r1 => simp [live0] at hx
  | tup us h1 r1 => simp [live0] at hx
  | junk v => exact .junk v
theorem rep1_kill {x : AV} {v : Value} (r : Rep h m w x v) (hx : live1 p x = true) (hp : ∀ b, p b = true → h' b = h b) : Rep h' (killM m p) w x v := by
  cases r with
  | pure q => exact .pure (q.mono (fun _ _ => rfl) (fun _ hc => ok_kill hc))
  | ptr hb hg ho hv => exact rep0_kill (.ptr hb hg ho hv) hx hp
  | osl hb hg ho hv => exact rep0_kill (.osl hb hg ho hv) hx hp
  | oslc hb hg ho hv => exact rep0_kill (.oslc hb hg ho hv) hx hp
  | map hb hm => exact rep0_kill (.map hb hm) hx hp
  | yld hb hk hm =>
    simp only [live1, List.isEmpty_nil, Bool.and_true] at hx
    exact .yld ((hp _ hx).trans hb) hk (by simpa [killM, hx] using hm)
  | fn us vs hf h1 h2 r1 r2 =>
    rename_i f xs ys
    cases f
    case func g =>
      simp only [live1, Bool.and_eq_true, List.all_eq_true] at hx
      exact .fn us vs hf h1 h2 (fun j a b => rep0_kill (r1 j a b) (hx.1 _ (List.getElem_mem _)) hp) (fun j a b => rep0_kill (r2 j a b) (hx.2 _ (List.getElem_mem _)) hp)
    case yield l => exact absurd rfl (hf l)
    all_goals simp [live1, live0] at hx
  | agg us h1 ho r1 =>
    simp only [live1, List.all_eq_true] at hx
    exact .agg us h1 ho (fun j a b => rep0_kill (r1 j a b) (hx _ (List.getElem_mem _)) hp)
  | tup us h1 r1 => simp [live1, live0] at hx
  | junk v => exact .junk v
theorem rep2_kill {x : AV} {v : Value} (r : Rep h m w x v) (hx : live2 p x = true) (hp : ∀ b, p b = true → h' b = h b) : Rep h' (killM m p) w x v := by
  cases r with
  | pure q => exact .pure (q.mono (fun _ _ => rfl) (fun _ hc => ok_kill hc))
  | ptr hb hg ho hv => exact rep1_kill (.ptr hb hg ho hv) hx hp
  | osl hb hg ho hv => exact rep1_kill (.osl hb hg ho hv) hx hp
  | oslc hb hg ho hv => exact rep1_kill (.oslc hb hg ho hv) hx hp
  | map hb hm => exact rep1_kill (.map hb hm) hx hp
  | yld hb hk hm => exact rep1_kill (.yld hb hk hm) hx hp
  | fn us vs hf h1 h2 r1 r2 =>
    rename_i f xs ys
    cases f
    case func g =>
      simp only [live2, Bool.and_eq_true, List.all_eq_true] at hx
      exact .fn us vs hf h1 h2 (fun j a b => rep1_kill (r1 j a b) (hx.1 _ (List.getElem_mem _)) hp) (fun j a b => rep1_kill (r2 j a b) (hx.2 _ (List.getElem_mem _)) hp)
    case yield l => exact absurd rfl (hf l)
    all_goals simp [live2, live1, live0] at hx
  | agg us h1 ho r1 =>
    simp only [live2, List.all_eq_true] at hx
    exact .agg us h1 ho (fun j a b => rep1_kill (r1 j a b) (hx _ (List.getElem_mem _)) hp)
  | tup us h1 r1 =>
    simp only [live2, List.all_eq_true] at hx
    exact .tup us h1 (fun j a b => rep1_kill (r1 j a b) (hx _ (List.getElem_mem _)) hp)
  | junk v => exact .junk v
/-- Blocks that are asked for no more. -/
theorem Good.kill {w0 : World} (g : Good w0 h m w) (hp : ∀ b, p b = true → h' b = h b) (hn : ∀ b, p b = false → h' b = none) (hl : ∀ b k, h' b = some k → blkLive p k = true) : Good w0 h' (killM m p) w := by
  have hpb : ∀ b k, h' b = some k → p b = true := by
    intro b k hk
    cases hb : p b with
    | true => rfl
    | false => rw [hn b hb] at hk; cases hk
  have hmk : ∀ b l, killM m p b = some l → p b = true ∧ m b = some l := by
    intro b l hb
    unfold killM at hb
    split at hb
    · rename_i h1; exact ⟨h1, hb⟩
    · cases hb
  refine ⟨g.below, fun b l hb => g.base b l (hmk b l hb).2, fun b b' l l' hb hb' hc => g.inj b b' l l' (hmk b l hb).2 (hmk b' l' hb').2 hc, fun b l hb => ?_, fun b k hk => ?_, fun b st pend fn T ps asg body d hb => ?_, fun c hc => g.fresh c (hc.imp (fun ⟨b, l, h1, h2⟩ => ⟨b, l, (hmk b l h1).2, h2⟩) id)⟩
  · obtain ⟨h1, h2⟩ := hmk b l hb
    rw [hp b h1]; exact g.supp b l h2
  · have hpp := hpb b k hk
    have hold := g.blk b k (by rw [← hp b hpp]; exact hk)
    have hlv := hl b k hk
    have hmb : killM m p b = m b := by simp [killM, hpp]
    cases k with
    | cells t sz gg xs =>
      simp only [blkLive, List.all_eq_true] at hlv
      rcases hold with ⟨h1, h2⟩ | ⟨l, arr, h1, h2, h3, h4, h5⟩
      · exact .inl ⟨hmb.trans h1, h2⟩
      · refine .inr ⟨l, arr, hmb.trans h1, h2, h3, h4, fun j hj => ?_⟩
        obtain ⟨v, hv, ho, hr⟩ := h5 j hj
        exact ⟨v, hv, ho, rep2_kill hr (hlv _ (List.getElem_mem _)) hp⟩
    | map es =>
      simp only [blkLive, List.all_eq_true, Bool.and_eq_true] at hlv
      obtain ⟨l, arr, clk, h1, h2, h3, h4⟩ := hold
      refine ⟨l, arr, clk, hmb.trans h1, h2, h3, fun j hj => ?_⟩
      obtain ⟨e, he, hk1, hv1⟩ := h4 j hj
      exact ⟨e, he, rep2_kill hk1 (hlv _ (List.getElem_mem _)).1 hp, rep2_kill hv1 (hlv _ (List.getElem_mem _)).2 hp⟩
    | dfr o => obtain ⟨l, h1, h2⟩ := hold; exact ⟨l, hmb.trans h1, h2⟩
    | loop st pend fn T ps asg body d =>
      simp only [blkLive, List.all_eq_true, Bool.and_eq_true] at hlv
      obtain ⟨l, r', ld, h1, h2, a1, a2, a3, a4, a5, a6, a7, a8, a9, a10⟩ := hold
      refine ⟨l, r', ld, hmb.trans h1, h2, a1, a2, a3, a4, a5, a6, by simpa [killM, hlv.2] using a7, a8, a9, fun j hj => ?_⟩
      obtain ⟨v, hv, hr⟩ := a10 j hj
      exact ⟨v, hv, rep2_kill hr (hlv.1 _ (List.getElem_mem _)) hp⟩
  · have hlv := hl b _ hb
    simp only [blkLive, Bool.and_eq_true] at hlv
    have hpp := hpb b _ hb
    obtain ⟨o, ho⟩ := g.dloop b st pend fn T ps asg body d (by rw [← hp b hpp]; exact hb)
    exact ⟨o, by rw [hp d hlv.2]; exact ho⟩
omit [Base] in
theorem ext_kill {Z : Nat → Option ABlk} {mz : Nat → Option Loc} {wz : World} (e : Ext Z mz wz h m w) (hz : ∀ b, Z b ≠ none → p b = true) (hp : ∀ b, p b = true → h' b = h b) : Ext Z mz wz h' (killM m p) w := by
  have km : ∀ b, Z b ≠ none → h' b = h b ∧ killM m p b = m b := fun b hb => ⟨hp b (hz b hb), by simp [killM, hz b hb]⟩
  refine ⟨fun c hc => ⟨(e.ok c hc).1, un_kill (e.ok c hc).2⟩, fun b t sz g xs hb => ?_, fun b es hb => ?_, fun b o hb => ?_, fun b st pend fn T ps asg body d hb => ?_⟩
  · obtain ⟨k1, k2⟩ := km b (by rw [hb]; simp)
    rw [k1, k2]; exact e.cells b t sz g xs hb
  · obtain ⟨k1, k2⟩ := km b (by rw [hb]; simp)
    rw [k1, k2]; exact e.map b es hb
  · obtain ⟨k1, k2⟩ := km b (by rw [hb]; simp)
    rw [k1, k2]; exact e.dfr b o hb
  · obtain ⟨k1, k2⟩ := km b (by rw [hb]; simp)
    rw [k1, k2]; exact e.loop b st pend fn T ps asg body d hb
end kill
/-- The second value says no more than the first. -/
def avSub (x y : AV) : Prop :=
  match y with
  | .junk => True
  | .psl f n ys => x = .psl f n ys ∨ (f = false ∧ x = .psl true n ys) ∨ (n = 0 ∧ ys = [] ∧ x = .nils)
  | y => x = y
def leT (p : Nat → Bool) : List AV → List AV → Prop
  | [], [] => True
  | x :: xs, y :: ys => (avSub x y ∧ live2 p y = true) ∧ leT p xs ys
  | [], _ :: _ => False
  | _ :: _, [] => False
def leH (p : Nat → Bool) : List (Option ABlk) → List (Option ABlk) → Prop
  | _, [] => True
  | x :: xs, y :: ys => (match y with | none => True | some k => x = some k ∧ blkLive p k = true) ∧ leH p xs ys
  | [], y :: ys => y = none ∧ leH p [] ys
def liveIn (H : List (Option ABlk)) (b : Nat) : Bool := (hget H b).isSome
/-- A STATE THAT SAYS LESS: temporaries and blocks are forgotten. -/
def Le2 (X : Ctx) (s s' : St) : Prop :=
  leT (liveIn s'.H) s.T s'.T ∧ leH (liveIn s'.H) s.H s'.H ∧ s'.D = s.D ∧ (∀ d ∈ s.D, liveIn s'.H d = true) ∧ ∀ b, X.Z b ≠ none → liveIn s'.H b = true
omit [Base] in
theorem leT_spec {p : Nat → Bool} : ∀ {xs ys : List AV}, leT p xs ys → ys.length = xs.length ∧ ∀ j, avSub (lget xs j) (lget ys j) ∧ live2 p (lget ys j) = true
  | [], [], _ => ⟨rfl, fun j => ⟨by simp [lget, avSub], by simp [lget, live2, live1, live0]⟩⟩
  | x :: xs, y :: ys, h => by
    obtain ⟨h1, h2⟩ := h
    obtain ⟨h3, h4⟩ := leT_spec h2
    refine ⟨by simp [h3], fun j => ?_⟩
    cases j with
    | zero => exact h1
    | succ j => exact h4 j
  | [], _ :: _, h => h.elim
  | _ :: _, [], h => h.elim
omit [Base] in
theorem leH_spec {p : Nat → Bool} : ∀ {xs ys : List (Option ABlk)}, leH p xs ys → ∀ b k, hget ys b = some k → hget xs b = some k ∧ blkLive p k = true
  | _, [], _, b, k, hk => by simp [hget] at hk
  | x :: xs, y :: ys, h, b, k, hk => by
    obtain ⟨h1, h2⟩ := h
    cases b with
    | zero =>
      simp only [hget] at hk ⊢
      subst hk
      exact h1
    | succ b => exact leH_spec h2 b k hk
  | [], y :: ys, h, b, k, hk => by
    obtain ⟨h1, h2⟩ := h
    cases b with
    | zero => simp only [hget] at hk; rw [h1] at hk; cases hk
    | succ b =>
      have := (leH_spec h2 b k hk).1
      simp [hget] at this
theorem rep_sub {h : Nat → Option ABlk} {m : Nat → Option Loc} {w : World} {x y : AV} {v : Value} (r : Rep h m w x v) (hs : avSub x y) : Rep h m w y v := by
  cases y
  case junk => exact .junk _
  case psl f n ys =>
    rcases hs with rfl | ⟨rfl, rfl⟩ | ⟨rfl, rfl, rfl⟩
    · exact r
    · have := rep_psl r
      cases this with
      | psle h1 h2 h3 => exact .pure (.psle h1 (by simp) h3)
      | psl vs h1 h2 hok hc hr => exact .pure (.psl vs h1 (by simp) hok hc hr)
    · rw [rep_nils r]; exact .pure (.psle (Nat.le_refl _) (fun _ => rfl) (fun _ => rfl))
  all_goals (have hs' : x = _ := hs; rw [← hs']; exact r)
theorem SatC.le2 {w0 : World} {X : Ctx} {s s' : St} {a : Act} {w : World} (hs : SatC w0 X s a w) (hl : Le2 X s s') : SatC w0 X s' a w := by
  obtain ⟨h1, h2, h3, h4, h5⟩ := hl
  obtain ⟨ex, hex, m, hs, hx⟩ := hs
  obtain ⟨hlen, htmp⟩ := leT_spec h1
  have hblk := leH_spec h2
  have hp : ∀ b, liveIn s'.H b = true → hget s'.H b = hget s.H b := by
    intro b hb
    obtain ⟨k, hk⟩ := Option.isSome_iff_exists.1 hb
    rw [hk, (hblk b k hk).1]
  refine ⟨ex, hex, killM m (liveIn s'.H), ?_, ext_kill hx h5 hp⟩
  rw [hlen, h3]
  refine ⟨hs.good.kill hp (fun b hb => ?_) (fun b k hk => (hblk b k hk).2), hs.size, fun j hj => ?_, ?_, ?_⟩
  · simpa [liveIn] using hb
  · obtain ⟨v, hv, hr⟩ := hs.tmps j hj
    exact ⟨v, hv, rep2_kill (rep_sub hr (htmp j).1) (htmp j).2 hp⟩
  · exact ⟨hs.roots.1, fun c hc => let ⟨b1, b2, b3⟩ := hs.roots.2 c hc; ⟨b1, un_kill b2, b3⟩⟩
  · obtain ⟨ls, a1, a2, a3⟩ := hs.marks
    refine ⟨ls, a1, fun j x y => ?_, a3⟩
    have hlv := h4 _ (List.getElem_mem x)
    obtain ⟨b1, o, b2⟩ := a2 j x y
    exact ⟨by simpa [killM, hlv] using b1, o, by rw [hp _ hlv]; exact b2⟩
theorem AWP.le2 {P : Program} {w0 : World} {r : Option Nat} {X : Ctx} {c : Code} {s s' : St} {Q : Exit → St → Prop} (hl : Le2 X s s') (h : AWP P w0 r X c s' Q) : AWP P w0 r X c s Q :=
  fun a w hs => h a w (hs.le2 hl)
end Go.Am

/- The abstract machine Am, part P: functions; lists that are changed no more (freeze), nil that is taken for a list of one's own (adopt). -/
namespace Go.Am
open Go.RowKit
/-- A result, as the caller may read it. -/
def out1 (h : Nat → Option ABlk) (x : AV) (K : AV → Prop) : Prop :=
  match x with
  | .osl b g off len => (match h b with
    | some (.cells _ _ g' xs) => g = g' ∧ off = 0 ∧ (∀ y ∈ xs, cellPure y = true) ∧ K (.psl false len xs)
    | _ => False)
  | x => cellPure x = true ∧ K x
def outL (h : Nat → Option ABlk) : List AV → (List AV → Prop) → Prop
  | [], K => K []
  | x :: xs, K => out1 h x fun y => outL h xs fun ys => K (y :: ys)
def outA (h : Nat → Option ABlk) (x : AV) (K : AV → Prop) : Prop :=
  match x with
  | .agg xs => outL h xs fun ys => K (.agg ys)
  | x => out1 h x K
def outs (h : Nat → Option ABlk) : List AV → (List AV → Prop) → Prop
  | [], K => K []
  | x :: xs, K => outA h x fun y => outs h xs fun ys => K (y :: ys)
def resK (P : Program) (s : St) : List ResultVar → (List AV → Prop) → Prop
  | [], K => K []
  | .tmp t :: rs, K => resK P s rs fun xs => K (lget s.T t :: xs)
  | .cell a t :: rs, K => match lget s.T a with
    | .ptr b g off => (match hget s.H b with
      | some (.cells _ _ g' xs) => g = g' ∧ loadK P t xs off fun v => resK P s rs fun vs => K (v :: vs)
      | _ => False)
    | _ => False
def finAV : List AV → AV
  | [x] => x
  | xs => .tup xs
/-- The marks of loops over functions are shut. -/
def shut (P : Program) : List Nat → St → (St → Prop) → Prop
  | [], s, K => K s
  | d :: ds, s, K => hget s.H d = some (.dfr true) ∧ shut P ds ⟨s.T, hset s.H d (.dfr false), ds⟩ K
/-- WHAT A FUNCTION's BODY COMES TO: the results. -/
def retQ (P : Program) (rs : List ResultVar) (R : AV → Prop) : Exit → St → Prop
  | .normal, s => shut P s.D s fun s => resK P s rs fun xs => outs (hget s.H) xs fun ys => R (finAV ys)
  | .ret, s => shut P s.D s fun s => resK P s rs fun xs => outs (hget s.H) xs fun ys => R (finAV ys)
  | _, _ => False
def resSem (tmps : Array Value) : ResultVar → Sem Value
  | .tmp t => pure (tmps.getD t undef)
  | .cell b t => do loadVar t (← asAddr (tmps.getD b undef))
variable [Base]
section
variable {P : Program} {w0 : World} {h : Nat → Option ABlk} {m : Nat → Option Loc} {w : World}
def OkB (w : World) (c : Nat) : Prop := Base.B c ∧ c < w.heap.size
theorem ok_okB {x : AV} {v : Value} (p : PRep (Ok m w) w x v) : PRep (OkB w) w x v := p.mono (fun _ _ => rfl) (fun _ hc => ⟨hc.2.2, hc.1⟩)
theorem one_of_pure {x : AV} {v : Value} (r : Rep h m w x v) (hx : cellPure x = true) : v.oneCell' = true := by
  have := prep_pure r hx
  cases this <;> first | rfl | simp [cellPure] at hx
/-- A list of one's own, read by whoever may look at it. -/
theorem osl_prep {b g len : Nat} {t : TypeId} {sz : Nat} {xs : List AV} {v : Value} (hg : Good w0 h m w) (hb : h b = some (.cells t sz g xs)) (hp : ∀ y ∈ xs, cellPure y = true) (hr : Rep h m w (.osl b g 0 len) v) {ok : Nat → Prop}
    (hok : ∀ c, Ok m w c → ok c) (hokb : ∀ l, m b = some l → ok l.c) : PRep ok w (.psl false len xs) v ∧ v.oneCell' = true := by
  rcases rep_osl hr hb with ⟨hm, _, rfl, rfl⟩ | ⟨l, cap, hm, rfl, hc1, hc2, hc3⟩
  · rcases hg.blk b _ hb with ⟨_, h2⟩ | ⟨l', arr, h2, _⟩
    · subst h2; exact ⟨.psle (Nat.le_refl _) (by simp) (by simp), rfl⟩
    · rw [hm] at h2; cases h2
  · obtain ⟨arr, hheap, hasz, hlen, vs, hvs, hcell, hrep⟩ := blk_cells hg hb hm
    exact ⟨.psl vs hc1 (by simp) (hokb l hm) hcell (fun j hj => (prep_pure (hrep j hj) (hp _ (List.getElem_mem _))).mono (fun _ _ => rfl) (fun c hc => hok c hc)), rfl⟩
theorem out1_sound {x : AV} {K : AV → Prop} (hk : out1 h x K) : ∃ y, K y ∧ ∀ {m : Nat → Option Loc} {w : World} {v : Value}, Good w0 h m w → Rep h m w x v → PRep (OkB w) w y v ∧ v.oneCell' = true := by
  have pure : cellPure x = true → K x → ∃ y, K y ∧ ∀ {m : Nat → Option Loc} {w : World} {v : Value}, Good w0 h m w → Rep h m w x v → PRep (OkB w) w y v ∧ v.oneCell' = true :=
    fun hc hK => ⟨x, hK, fun _ hr => ⟨ok_okB (prep_pure hr hc), one_of_pure hr hc⟩⟩
  cases x <;> simp only [out1] at hk
  case osl b g off len =>
    cases hb : h b with
    | none => simp [hb] at hk
    | some k =>
      cases k <;> simp only [hb] at hk
      case cells t sz g' xs =>
        obtain ⟨rfl, rfl, hp, hk⟩ := hk
        exact ⟨_, hk, fun hg hr => osl_prep hg hb hp hr (fun c hc => ⟨hc.2.2, hc.1⟩) (fun l hl => ⟨hg.fresh _ (.inl ⟨b, l, hl, rfl⟩), hg.lt hl⟩)⟩
      all_goals exact hk.elim
  all_goals exact pure hk.1 hk.2
theorem outL_sound : ∀ (xs : List AV) {K : List AV → Prop}, outL h xs K → ∃ ys, K ys ∧ ys.length = xs.length ∧ ∀ {m : Nat → Option Loc} {w : World} {us : List Value}, Good w0 h m w →
    xs.length = us.length → (∀ j (a : j < xs.length) (c : j < us.length), Rep h m w xs[j] us[j]) → (∀ u ∈ us, u.oneCell' = true) ∧ ∀ j (a : j < ys.length) (c : j < us.length), PRep (OkB w) w ys[j] us[j]
  | [], K, hk => ⟨[], hk, rfl, fun {m w us} _ hl _ => by
      have : us = [] := List.eq_nil_of_length_eq_zero (by simpa using hl.symm)
      subst this
      exact ⟨by simp, fun j a => by simp at a⟩⟩
  | x :: xs, K, hk => by
    obtain ⟨y, hk, hy⟩ := out1_sound (w0 := w0) hk
    obtain ⟨ys, hk, hyl, hys⟩ := outL_sound xs hk
    refine ⟨y :: ys, hk, by simp [hyl], fun {m w us} hg hl hr => ?_⟩
    cases us with
    | nil => simp at hl
    | cons u us =>
      have h0 := hy hg (hr 0 (by simp) (by simp))
      have h1 := hys hg (by simpa using hl) (fun j a c => hr (j + 1) (by simpa using a) (by simpa using c))
      refine ⟨fun v hv => ?_, fun j a c => ?_⟩
      · rcases List.mem_cons.1 hv with rfl | hv
        · exact h0.2
        · exact h1.1 v hv
      · cases j with
        | zero => exact h0.1
        | succ j => exact h1.2 j (by simpa using a) (by simpa using c)
theorem outA_sound {x : AV} {K : AV → Prop} (hk : outA h x K) : ∃ y, K y ∧ ∀ {m : Nat → Option Loc} {w : World} {v : Value}, Good w0 h m w → Rep h m w x v → PRep (OkB w) w y v := by
  have base : out1 h x K → ∃ y, K y ∧ ∀ {m : Nat → Option Loc} {w : World} {v : Value}, Good w0 h m w → Rep h m w x v → PRep (OkB w) w y v := by
    intro hk
    obtain ⟨y, h1, h2⟩ := out1_sound (w0 := w0) hk
    exact ⟨y, h1, fun hg hr => (h2 hg hr).1⟩
  cases x
  case agg xs =>
    simp only [outA] at hk
    obtain ⟨ys, hk, hyl, hys⟩ := outL_sound (w0 := w0) xs hk
    refine ⟨_, hk, fun hg hr => ?_⟩
    obtain ⟨us, rfl, l1, l2, l3⟩ := rep_agg hr
    obtain ⟨h1, h2⟩ := hys hg l1 l3
    exact .agg us (by omega) h1 h2
  all_goals exact base hk
theorem outs_sound : ∀ (xs : List AV) {K : List AV → Prop}, outs h xs K → ∃ ys, K ys ∧ ys.length = xs.length ∧ ∀ {m : Nat → Option Loc} {w : World} {us : List Value}, Good w0 h m w →
    xs.length = us.length → (∀ j (a : j < xs.length) (c : j < us.length), Rep h m w xs[j] us[j]) → ∀ j (a : j < ys.length) (c : j < us.length), PRep (OkB w) w ys[j] us[j]
  | [], K, hk => ⟨[], hk, rfl, fun _ _ _ j a => by simp at a⟩
  | x :: xs, K, hk => by
    obtain ⟨y, hk, hy⟩ := outA_sound (w0 := w0) hk
    obtain ⟨ys, hk, hyl, hys⟩ := outs_sound xs hk
    refine ⟨y :: ys, hk, by simp [hyl], fun {m w us} hg hl hr j a c => ?_⟩
    cases us with
    | nil => simp at hl
    | cons u us =>
      cases j with
      | zero => exact hy hg (hr 0 (by simp) (by simp))
      | succ j => exact hys hg (by simpa using hl) (fun j a c => hr (j + 1) (by simpa using a) (by simpa using c)) j (by simpa using a) (by simpa using c)
theorem resK_sound {X : List Nat} {s : St} : ∀ (rs : List ResultVar) {K : List AV → Prop}, resK P s rs K → ∃ xs, K xs ∧ xs.length = rs.length ∧ ∀ {m : Nat → Option Loc} {a : Act} {w : World}, SatM w0 X (lget s.T) s.T.length (hget s.H) s.D m a w →
    ∃ us : List Value, us.length = xs.length ∧ (rs.mapM (resSem a.tmps)).run P w = .ok us w ∧ ∀ j (x : j < xs.length) (y : j < us.length), Rep (hget s.H) m w xs[j] us[j]
  | [], K, hk => ⟨[], hk, rfl, fun _ => ⟨[], rfl, by simp, fun j x => by simp at x⟩⟩
  | .tmp t :: rs, K, hk => by
    obtain ⟨xs, h1, h2, h3⟩ := resK_sound rs hk
    refine ⟨_, h1, by simp [h2], fun {m a w} hs => ?_⟩
    obtain ⟨us, h4, h5, h6⟩ := h3 hs
    refine ⟨a.tmps.getD t undef :: us, by simp [h4], by simp only [List.mapM_cons, resSem, Sem.run_bind, Sem.run_pure, Result.andThen_ok, h5], fun j x y => ?_⟩
    cases j with
    | zero => exact hs.eval s.T rfl (.tmp t) (fun _ _ _ => rfl)
    | succ j => exact h6 j (by simpa using x) (by simpa using y)
  | .cell b t :: rs, K, hk => by
    simp only [resK] at hk
    cases hb : lget s.T b <;> simp only [hb] at hk
    case ptr bb g off =>
      cases hh : hget s.H bb with
      | none => simp [hh] at hk
      | some k =>
        cases k <;> simp only [hh] at hk
        case cells t' sz g' xs =>
          obtain ⟨rfl, hk⟩ := hk
          obtain ⟨x, hk, hl⟩ := loadK_is hk
          obtain ⟨ys, h1, h2, h3⟩ := resK_sound rs hk
          refine ⟨_, h1, by simp [h2], fun {m a w} hs => ?_⟩
          obtain ⟨us, h4, h5, h6⟩ := h3 hs
          have hr := hs.eval s.T rfl (.tmp b) (fun _ _ _ => rfl)
          simp only [aev, hb, Act.eval] at hr
          obtain ⟨l, hm, he⟩ := rep_ptr hr hh
          obtain ⟨arr, _, _, _, vs, _, h7, h8⟩ := blk_cells hs.good hh hm
          obtain ⟨v, hv, hrv⟩ := load_run hl h7 h8
          rw [Nat.zero_add] at hv
          refine ⟨v :: us, by simp [h4], ?_, fun j x y => ?_⟩
          · simp only [List.mapM_cons, resSem, Sem.run_bind, he, asAddr, Sem.run_pure, Result.andThen_ok, hv, h5]
          · cases j with
            | zero => exact hrv
            | succ j => exact h6 j (by simpa using x) (by simpa using y)
        all_goals exact hk.elim
    all_goals exact hk.elim
omit [Base] in
theorem run_results {fn : Func} {tmps : Array Value} {us : List Value} {w : World} (h : (fn.results.toList.mapM (resSem tmps)).run P w = .ok us w) : (results fn tmps).run P w = .ok (match us with | [u] => u | us => .tuple us.toArray) w := by
  have e : results fn tmps = (do let vs ← fn.results.mapM (resSem tmps); pure (if h : vs.size = 1 then vs[0] else .tuple vs)) := by
    unfold results
    congr 1
  rw [e, Array.mapM_eq_mapM_toList]
  simp only [Sem.run_bind, Sem.run_map, h, Result.andThen_ok]
  match us with
  | [] => simp
  | [u] => simp
  | u :: v :: us => simp
/-- The value that is returned. -/
def finV : List Value → Value
  | [u] => u
  | us => .tuple us.toArray
/-- A hidden mark is shut. -/
def shutW (w : World) (c : Nat) : World := { w with heap := w.heap.setIfInBounds c (.deferred none) }
omit [Base] in
theorem shutW_other {w : World} {c c' : Nat} (h : c' ≠ c) : (shutW w c).heap[c']? = w.heap[c']? := Array.getElem?_setIfInBounds_ne (Ne.symm h)
omit [Base] in
theorem shutW_size {w : World} {c : Nat} : (shutW w c).heap.size = w.heap.size := by simp [shutW]
omit [Base] in
theorem prep_shut {ok : Nat → Prop} {w : World} {c : Nat} {o : Option (List Deferred)} (hc : w.heap[c]? = some (.deferred o)) {x : AV} {v : Value} (p : PRep ok w x v) : PRep ok (shutW w c) x v := by
  have cell : ∀ {c1 k : Nat} {u : Value}, w.cell? ⟨c1, k, none⟩ = some u → (shutW w c).cell? ⟨c1, k, none⟩ = some u := by
    intro c1 k u h
    have hne : c1 ≠ c := by
      rintro rfl
      simp [World.cell?, hc] at h
    exact (World.cell?_of_block (shutW_other hne)).trans h
  induction p with
  | int k n => exact .int k n
  | bool b => exact .bool b
  | str s => exact .str s
  | nilp => exact .nilp
  | nils => exact .nils
  | nilm => exact .nilm
  | nilf => exact .nilf
  | psle h1 h2 h3 => exact .psle h1 h2 h3
  | psl vs h1 h2 hok hcc hr ih => exact .psl vs h1 h2 hok (fun j hj => ⟨cell (hcc j hj).1, (hcc j hj).2⟩) ih
  | pptr vs hok hcc hr ih => exact .pptr vs hok (fun j hj => ⟨cell (hcc j hj).1, (hcc j hj).2⟩) ih
  | pmap hok hh hs hk hv ihk ihv =>
    refine .pmap hok ((shutW_other ?_).trans hh) hs ihk ihv
    rintro rfl
    rw [hc] at hh; cases hh
  | fn us vs hf h1 h2 r1 r2 ih1 ih2 => exact .fn us vs hf h1 h2 ih1 ih2
  | agg us h1 ho r1 ih1 => exact .agg us h1 ho ih1
  | tup us h1 r1 ih1 => exact .tup us h1 ih1
theorem rep_shut {h : Nat → Option ABlk} {m : Nat → Option Loc} {w : World} {c : Nat} {o : Option (List Deferred)} (hc : w.heap[c]? = some (.deferred o)) {x : AV} {v : Value} (r : Rep h m w x v) : Rep h m (shutW w c) x v := by
  induction r with
  | pure p => exact .pure ((prep_shut hc p).mono (fun _ _ => rfl) (fun c' hc' => ⟨by rw [shutW_size]; exact hc'.1, hc'.2⟩))
  | ptr hb hg ho hv => exact .ptr hb hg ho hv
  | osl hb hg ho hv => exact .osl hb hg ho hv
  | oslc hb hg ho hv => exact .oslc hb hg ho hv
  | map hb hm => exact .map hb hm
  | yld hb hk hm => exact .yld hb hk hm
  | fn us vs hf h1 h2 r1 r2 ih1 ih2 => exact .fn us vs hf h1 h2 ih1 ih2
  | agg us h1 ho r1 ih1 => exact .agg us h1 ho ih1
  | tup us h1 r1 ih1 => exact .tup us h1 ih1
  | junk v => exact .junk v
theorem brep_shut {h : Nat → Option ABlk} {m : Nat → Option Loc} {w : World} {c : Nat} {o : Option (List Deferred)} (hc : w.heap[c]? = some (.deferred o)) {b : Nat} {k : ABlk} (hm : ∀ l, m b = some l → l.c ≠ c) (r : BRep h m w b k) : BRep h m (shutW w c) b k := by
  cases k with
  | cells t sz g xs =>
    rcases r with ⟨h1, h2⟩ | ⟨l, arr, h1, h2, h3, h4, h5⟩
    · exact .inl ⟨h1, h2⟩
    · refine .inr ⟨l, arr, h1, (shutW_other (hm l h1)).trans h2, h3, h4, fun j hj => ?_⟩
      obtain ⟨v, hv, ho, hr⟩ := h5 j hj
      exact ⟨v, hv, ho, rep_shut hc hr⟩
  | map es =>
    obtain ⟨l, arr, clk, h1, h2, h3, h4⟩ := r
    refine ⟨l, arr, clk, h1, (shutW_other (hm l h1)).trans h2, h3, fun j hj => ?_⟩
    obtain ⟨e, he, hk, hv⟩ := h4 j hj
    exact ⟨e, he, rep_shut hc hk, rep_shut hc hv⟩
  | dfr o => obtain ⟨l, h1, h2⟩ := r; exact ⟨l, h1, (shutW_other (hm l h1)).trans h2⟩
  | loop st pend fn T ps asg body d =>
    obtain ⟨l, r', ld, h1, h2, a1, a2, a3, a4, a5, a6, a7, a8, a9, a10⟩ := r
    refine ⟨l, r', ld, h1, (shutW_other (hm l h1)).trans h2, a1, a2, a3, a4, a5, a6, a7, a8, a9, fun j hj => ?_⟩
    obtain ⟨v, hv, hr⟩ := a10 j hj
    exact ⟨v, hv, rep_shut hc hr⟩
omit [Base] in
theorem un_shut {m : Nat → Option Loc} {w : World} {c c' : Nat} (h : Un m w c') : Un m (shutW w c) c' := ⟨by rw [shutW_size]; exact h.1, h.2⟩
theorem good_shut {w0 : World} {h : Nat → Option ABlk} {m : Nat → Option Loc} {w : World} {c : Nat} {o : Option (List Deferred)} (hc : w.heap[c]? = some (.deferred o)) (hu : Un m w c) (h0 : w0.heap.size ≤ c) (g : Good w0 h m w) : Good w0 h m (shutW w c) :=
  ⟨⟨g.below.os, g.below.tape, g.below.output, by rw [shutW_size]; exact g.below.size, fun c' hc' => (shutW_other (by omega)).trans (g.below.block c' hc')⟩, g.base, g.inj, g.supp, fun b k hk => brep_shut hc (hu.2 b) (g.blk b k hk), g.dloop, fun c' hc' => g.fresh c' (by rw [shutW_size] at hc'; exact hc')⟩
omit [Base] in
theorem ext_shut {Z h : Nat → Option ABlk} {mz m : Nat → Option Loc} {wz w : World} {c : Nat} (hz : wz.heap.size ≤ c) (e : Ext Z mz wz h m w) : Ext Z mz wz h m (shutW w c) :=
  ⟨fun c' hc' => ⟨(shutW_other (by have := hc'.1; omega)).trans (e.ok c' hc').1, un_shut (e.ok c' hc').2⟩, e.cells, e.map, e.dfr, e.loop⟩
/-- The hidden marks are shut; then the results are read. -/
theorem leavesH {X : Ctx} {fn : Func} {K : List AV → St → Prop} {RR : Ending → World → Prop}
    (hR : ∀ (xs : List AV) (s' : St) (us : List Value) (m : Nat → Option Loc) (w' : World), K xs s' → Good w0 (hget s'.H) m w' → Ext X.Z X.mz X.wz (hget s'.H) m w' → us.length = xs.length →
      (∀ j (x : j < xs.length) (y : j < us.length), Rep (hget s'.H) m w' xs[j] us[j]) → RR (.returned (finV us)) w') (s : St) (hD : s.D = []) (hk : resK P s fn.results.toList fun xs => K xs s) :
    ∀ (ex : List Nat) (a : Act) (w : World) (m : Nat → Option Loc), (∀ c ∈ ex, X.wz.heap.size ≤ c) → SatM w0 ex (lget s.T) s.T.length (hget s.H) s.D m a w → Ext X.Z X.mz X.wz (hget s.H) m w → LeavesInM (FW none) 0 P fn a.tmps RR a.defers .returning w
  | [], a, w, m, _, hs, hx => by
    obtain ⟨ls, h1, _, h3⟩ := hs.marks
    rw [hD] at h1
    have : ls = [] := List.eq_nil_of_length_eq_zero (by simpa using h1)
    subst this
    rw [h3]
    obtain ⟨xs, hk, hxl, hres⟩ := resK_sound (w0 := w0) (X := []) _ hk
    obtain ⟨us, hul, hrun, hrep⟩ := hres hs
    have h9 := hR xs s us m w hk hs.good hx hul hrep
    refine ⟨_, run_results hrun, ?_⟩
    match us, h9 with
    | [], h9 => exact h9
    | [u], h9 => exact h9
    | _ :: _ :: _, h9 => exact h9
  | c :: ex, a, w, m, hz, hs, hx => by
    obtain ⟨ls, h1, _, h3⟩ := hs.marks
    rw [hD] at h1
    have : ls = [] := List.eq_nil_of_length_eq_zero (by simpa using h1)
    subst this
    obtain ⟨hnd, hall⟩ := hs.roots
    obtain ⟨c1, c2, c3⟩ := hall c (by simp)
    rw [h3]
    simp only [List.map_nil, List.nil_append, List.map_cons]
    have htake : (Instr.takeDeferred c).run P w = .ok [] (shutW w c) := by
      have hgo : (getObj c).run P w = .ok (.deferred (some [])) w := by simp [getObj, Sem.run, c3]
      have hso : (setObj c (.deferred none)).run P w = .ok () (shutW w c) := by simp [setObj, Sem.run, c3, shutW]
      simp only [Instr.takeDeferred, Sem.run_bind, hgo, Result.andThen_ok, hso, Sem.run_pure]
    refine ⟨by simp, .inl ⟨c, _, rfl, htake, ?_⟩⟩
    refine leavesH hR s hD hk ex { a with defers := ex.map fun c => { target := .collected c, args := #[] } } (shutW w c) m (fun c' hc' => hz c' (by simp [hc'])) ?_ (ext_shut (hz c (by simp)) hx)
    refine ⟨good_shut c3 c2 c1 hs.good, hs.size, fun j hj => let ⟨v, hv, hr⟩ := hs.tmps j hj; ⟨v, hv, rep_shut c3 hr⟩, ⟨(List.nodup_cons.1 hnd).2, fun c' hc' => ?_⟩, [], by rw [hD]; rfl, fun j x y => by simp at y, by simp⟩
    obtain ⟨d1, d2, d3⟩ := hall c' (by simp [hc'])
    refine ⟨d1, un_shut d2, (shutW_other ?_).trans d3⟩
    rintro rfl
    exact (List.nodup_cons.1 hnd).1 hc'
/-- The marks are shut, one after the other; then the results are read. -/
theorem leavesC {X : Ctx} {fn : Func} {K : List AV → St → Prop} {RR : Ending → World → Prop}
    (hR : ∀ (xs : List AV) (s' : St) (us : List Value) (m : Nat → Option Loc) (w' : World), K xs s' → Good w0 (hget s'.H) m w' → Ext X.Z X.mz X.wz (hget s'.H) m w' → us.length = xs.length →
      (∀ j (x : j < xs.length) (y : j < us.length), Rep (hget s'.H) m w' xs[j] us[j]) → RR (.returned (finV us)) w') :
    ∀ (D : List Nat) (s : St) (a : Act) (w : World), s.D = D → shut P D s (fun s => resK P s fn.results.toList fun xs => K xs s) → SatC w0 X s a w → LeavesInM (FW none) 0 P fn a.tmps RR a.defers .returning w
  | [], s, a, w, hD, hk, ⟨ex, hex, m, hs, hx⟩ => leavesH hR s hD hk ex a w m hex hs hx
  | d :: ds, s, a, w, hD, hk, ⟨ex, hex, m, hs, hx⟩ => by
    obtain ⟨hd, hk⟩ := hk
    obtain ⟨ls, h1, h2, h3⟩ := hs.marks
    rw [hD] at h1
    cases ls with
    | nil => simp at h1
    | cons l ls =>
      have hm0 : m d = some l := by
        have := (h2 0 (by rw [hD]; simp) (by simp)).1
        simpa [hD] using this
      obtain ⟨l', hl', hheap⟩ := hs.good.blk d _ hd
      rw [hm0] at hl'; cases hl'
      simp only [if_true] at hheap
      rw [h3]
      simp only [List.map_cons, List.cons_append]
      have htake : (Instr.takeDeferred l.c).run P w = .ok [] { w with heap := w.heap.setIfInBounds l.c (.deferred none) } := by
        have hgo : (getObj l.c).run P w = .ok (.deferred (some [])) w := by simp [getObj, Sem.run, hheap]
        have hso : (setObj l.c (.deferred none)).run P w = .ok () { w with heap := w.heap.setIfInBounds l.c (.deferred none) } := by simp [setObj, Sem.run, hheap]
        simp only [Instr.takeDeferred, Sem.run_bind, hgo, Result.andThen_ok, hso, Sem.run_pure]
      have hsize : w.heap.size ≤ ({ w with heap := w.heap.setIfInBounds l.c (.deferred none) } : World).heap.size := by simp
      have hsame : ∀ c, c < w.heap.size → (∀ l0, m d = some l0 → l0.c ≠ c) → ({ w with heap := w.heap.setIfInBounds l.c (.deferred none) } : World).heap[c]? = w.heap[c]? :=
        fun c _ hne => Array.getElem?_setIfInBounds_ne (hne l hm0)
      have hfits : ∀ k0, hget s.H d = some k0 → Fits k0 (.dfr false) (m d ≠ some l) := by intro k0 hk0; rw [hd] at hk0; cases hk0; exact fun hne => hne hm0
      have e1 := ext_put (k := .dfr false) (l' := l) hs.good hsize hsame (.inl hm0) hfits
      have g1 : Good w0 _ _ ({ w with heap := w.heap.setIfInBounds l.c (.deferred none) } : World) := good_put hs.good rfl rfl rfl hsize hsame (.inl hm0) hfits ⟨l, upd_same _ _ _, by simpa using Array.getElem?_setIfInBounds_self_of_lt (lt_of_heap hheap)⟩ (by simp)
      refine ⟨by simp, .inl ⟨l.c, _, rfl, htake, ?_⟩⟩
      refine leavesC hR ds ⟨s.T, hset s.H d (.dfr false), ds⟩ { a with defers := (ls.map fun l => { target := .collected l.c, args := #[] }) ++ ex.map fun c => { target := .collected c, args := #[] } } _ rfl hk ⟨ex, hex, upd m d (some l), ?_, by
        have hhs : hget (hset s.H d (.dfr false)) = upd (hget s.H) d (some (.dfr false)) := hget_seto s.H (some (d, .dfr false))
        show Ext _ _ _ (hget (hset s.H d (.dfr false))) _ _
        rw [hhs]; exact hx.trans e1⟩
      have hhs : hget (hset s.H d (.dfr false)) = upd (hget s.H) d (some (.dfr false)) := hget_seto s.H (some (d, .dfr false))
      rw [hhs]
      refine ⟨g1, hs.size, fun j hj => let ⟨v, hv, hr⟩ := hs.tmps j hj; ⟨v, hv, hr.ext e1⟩, hs.roots.ext e1, ls, by simpa using h1, fun j x y => ?_, rfl⟩
      have := h2 (j + 1) (by rw [hD]; simpa using x) (by simpa using y)
      simp only [hD, List.getElem_cons_succ] at this
      obtain ⟨b1, oo, b2⟩ := this
      obtain ⟨⟨o', b3⟩, b4⟩ := e1.dfr _ _ b2
      exact ⟨b4.trans b1, o', b3⟩
theorem leaves_sound {X : Ctx} {fn : Func} {R : AV → Prop} {RR : Ending → World → Prop} (D : List Nat) (s : St) (a : Act) (w : World) (hD : s.D = D) (hk : shut P D s (fun s => resK P s fn.results.toList fun xs => outs (hget s.H) xs fun ys => R (finAV ys)))
    (hs : SatC w0 X s a w) (hR : ∀ y v w', R y → PRep (OkB w') w' y v → Below w0.heap.size w0 w' → RR (.returned v) w') : LeavesInM (FW none) 0 P fn a.tmps RR a.defers .returning w := by
  refine leavesC (K := fun xs s => outs (hget s.H) xs fun ys => R (finAV ys)) ?_ D s a w hD hk hs
  intro xs s' us m w' hk hg _ hul hrep
  obtain ⟨ys, hk, hyl, hout⟩ := outs_sound (w0 := w0) _ hk
  have hpr := hout hg (by omega) hrep
  refine hR _ _ _ hk ?_ hg.below
  match ys, us, hyl, hul with
  | [], [], _, _ => exact .tup [] rfl (fun j a => by simp at a)
  | [y], [u], _, _ => exact hpr 0 (by simp) (by simp)
  | y :: y' :: ys, u :: u' :: us, hyl, hul => exact .tup (u :: u' :: us) (by simp at hyl hul ⊢; omega) hpr
  | [], _ :: _, hyl, hul => simp at hyl hul; omega
  | _ :: _, [], hyl, hul => simp at hyl hul; omega
  | [_], _ :: _ :: _, hyl, hul => simp at hyl hul; omega
  | _ :: _ :: _, [_], hyl, hul => simp at hyl hul; omega
end
end Go.Am

/- The abstract machine Am, part Q: the contract of a function from its body. -/
namespace Go.Am
open Go.RowKit
def subL : List AV → List AV → Prop
  | [], [] => True
  | x :: xs, y :: ys => avSub x y ∧ y ≠ .junk ∧ subL xs ys
  | [], _ :: _ => False
  | _ :: _, [] => False
/-- The second result says no more than the first. -/
def resSub (x y : AV) : Prop :=
  match x, y with
  | .tup xs, .tup ys => subL xs ys
  | .agg xs, .agg ys => subL xs ys
  | x, y => avSub x y ∧ y ≠ .junk
theorem prep_sub {ok : Nat → Prop} {w : World} {x y : AV} {v : Value} (r : PRep ok w x v) (hs : avSub x y) (hj : y ≠ .junk) : PRep ok w y v := by
  cases y
  case junk => exact absurd rfl hj
  case psl f n ys =>
    rcases hs with rfl | ⟨rfl, rfl⟩ | ⟨rfl, rfl, rfl⟩
    · exact r
    · cases r with
      | psle h1 h2 h3 => exact .psle h1 (by simp) h3
      | psl vs h1 h2 hok hc hr => exact .psl vs h1 (by simp) hok hc hr
    · cases r; exact .psle (Nat.le_refl _) (fun _ => rfl) (fun _ => rfl)
  all_goals (have hs' : x = _ := hs; rw [← hs']; exact r)
theorem subL_spec : ∀ {xs ys : List AV}, subL xs ys → ys.length = xs.length ∧ ∀ j (a : j < xs.length) (b : j < ys.length), avSub xs[j] ys[j] ∧ ys[j] ≠ .junk
  | [], [], _ => ⟨rfl, fun j a => by simp at a⟩
  | x :: xs, y :: ys, h => by
    obtain ⟨h1, h2, h3⟩ := h
    obtain ⟨h4, h5⟩ := subL_spec h3
    refine ⟨by simp [h4], fun j a b => ?_⟩
    cases j with
    | zero => exact ⟨h1, h2⟩
    | succ j => exact h5 j (by simpa using a) (by simpa using b)
  | [], _ :: _, h => h.elim
  | _ :: _, [], h => h.elim
theorem prep_resSub {ok : Nat → Prop} {w : World} {x y : AV} {v : Value} (r : PRep ok w x v) (hs : resSub x y) : PRep ok w y v := by
  cases r
  case tup xs us h1 r1 =>
    cases y <;> simp only [resSub] at hs
    case tup ys =>
      obtain ⟨h2, h3⟩ := subL_spec hs
      exact .tup us (by omega) (fun j a b => prep_sub (r1 j (by omega) b) (h3 j (by omega) a).1 (h3 j (by omega) a).2)
    all_goals exact prep_sub (.tup us h1 r1) hs.1 hs.2
  case agg xs us h1 ho r1 =>
    cases y <;> simp only [resSub] at hs
    case agg ys =>
      obtain ⟨h2, h3⟩ := subL_spec hs
      exact .agg us (by omega) ho (fun j a b => prep_sub (r1 j (by omega) b) (h3 j (by omega) a).1 (h3 j (by omega) a).2)
    all_goals exact prep_sub (.agg us h1 ho r1) hs.1 hs.2
  all_goals (first
    | exact prep_sub (.int _ _) hs.1 hs.2 | exact prep_sub (.bool _) hs.1 hs.2 | exact prep_sub (.str _) hs.1 hs.2
    | exact prep_sub .nilp hs.1 hs.2 | exact prep_sub .nils hs.1 hs.2 | exact prep_sub .nilm hs.1 hs.2 | exact prep_sub .nilf hs.1 hs.2
    | exact prep_sub (.psle ‹_› ‹_› ‹_›) hs.1 hs.2
    | exact prep_sub (.psl _ ‹_› ‹_› ‹_› ‹_› ‹_›) hs.1 hs.2
    | exact prep_sub (.pptr _ ‹_› ‹_› ‹_›) hs.1 hs.2
    | exact prep_sub (.pmap ‹_› ‹_› ‹_› ‹_› ‹_›) hs.1 hs.2
    | exact prep_sub (.fn _ _ ‹_› ‹_› ‹_› ‹_› ‹_›) hs.1 hs.2)
/-- The context of a call that found the blocks H. -/
def Ctx.of (H : List (Option ABlk)) (m : Nat → Option Loc) (w : World) : Ctx := ⟨hget H, m, w⟩
def junks : Nat → List AV
  | 0 => []
  | n + 1 => .junk :: junks n
/-- The state at a function's head. -/
def initT (args : List AV) (n : Nat) : List AV := args ++ junks (n - args.length)
theorem lget_append {xs ys : List AV} (j : Nat) : lget (xs ++ ys) j = if h : j < xs.length then xs[j] else lget ys (j - xs.length) := by
  induction xs generalizing j with
  | nil => simp
  | cons x xs ih =>
    cases j with
    | zero => simp [lget]
    | succ j => simp [lget, ih]
theorem lget_junks (n j : Nat) : lget (junks n) j = .junk := by
  induction n generalizing j with
  | zero => rfl
  | succ n ih => cases j with
    | zero => rfl
    | succ j => exact ih j
theorem junks_length (n : Nat) : (junks n).length = n := by
  induction n with
  | zero => rfl
  | succ n ih => simp [junks, ih]
/-- **A FUNCTION's CONTRACT, FROM ITS BODY.** -/
theorem callS_of_awpZ {P : Program} {f : FuncId} {fn : Func} {c : Code} {args : List AV} {r : AV} (he : Enters P f) (hf : P.funcs[f]? = some fn) (hb : fn.body = some c)
    (h : ∀ [Base] (w0 : World) (w : World), AWP P w0 none (Ctx.of [] (fun _ => none) w) c ⟨initT args fn.ntmps, [], []⟩ (retQ P fn.results.toList (fun y => resSub y r))) : CallS P f args r := by
  refine ⟨he, fun w vs ok hok hlen hrep => ?_⟩
  letI : Base := ⟨fun c => ok c ∨ w.heap.size ≤ c⟩
  refine callsIn_of_wp_marks hf hb trivial ?_
  have hsat : SatC w (Ctx.of [] (fun _ => none) w) ⟨initT args fn.ntmps, [], []⟩ { tmps := vs.toArray ++ Array.replicate (fn.ntmps - vs.toArray.size) undef, defers := [] } w := by
    refine ⟨[], by simp, fun _ => none, ⟨⟨Below.refl _ _, by simp, by simp, by simp, fun b k hk => by simp [hget] at hk, fun b st pend fn T ps asg body d hk => by simp [hget] at hk, fun c hc => .inr (hc.elim (fun ⟨_, _, h1, _⟩ => by cases h1) id)⟩, ?_, fun j hj => ?_, HidR.nil, [], rfl, fun j a => by simp at a, rfl⟩, Ext.refl _ _ _⟩
    · simp [initT, junks_length, hlen]
    · simp only [initT, List.length_append, junks_length] at hj
      rw [initT, lget_append]
      by_cases hj' : j < args.length
      · refine ⟨vs[j], ?_, ?_⟩
        · rw [Array.getElem?_append_left (by simpa using (by omega : j < vs.length))]; simp
        · rw [dif_pos hj']
          exact .pure ((hrep j hj' (by omega)).mono (fun _ _ => rfl) (fun c hc => ⟨hok c hc, by simp, .inl hc⟩))
      · refine ⟨undef, ?_, ?_⟩
        · rw [Array.getElem?_append_right (by simpa using (by omega : vs.length ≤ j))]
          rw [Array.getElem?_replicate, if_pos (by simp; omega)]
        · rw [dif_neg hj', lget_junks]; exact .junk _
  refine wpIn_mono (h w w _ w hsat) ?_
  rintro e a' w' ⟨s', hq, hs'⟩
  have key : shut P s'.D s' (fun s => resK P s fn.results.toList fun xs => outs (hget s.H) xs fun ys => resSub (finAV ys) r) →
      LeavesInM (FW none) 0 P fn a'.tmps (fun e w' => ∃ v, e = .returned v ∧ PRep (fun c => ok c ∨ (w.heap.size ≤ c ∧ c < w'.heap.size)) w' r v ∧ Below w.heap.size w w') a'.defers .returning w' := by
    intro hk
    refine leaves_sound (R := fun y => resSub y r) s'.D s' a' w' rfl hk hs' (fun y v w'' hy hp hbel => ⟨v, rfl, (prep_resSub hp hy).mono (fun _ _ => rfl) (fun c hc => ?_), hbel⟩)
    rcases hc with ⟨h1 | h1, h2⟩
    · exact .inl h1
    · exact .inr ⟨h1, h2⟩
  cases e with
  | normal => exact key hq
  | ret => exact key hq
  | exit id => exact hq.elim
  | goto l => exact hq.elim
  | panic c => exact hq.elim
  | outgrown => exact hq.elim
theorem callS_of_awp {P : Program} {f : FuncId} {fn : Func} {c : Code} {args : List AV} {r : AV} (he : Enters P f) (hf : P.funcs[f]? = some fn) (hb : fn.body = some c)
    (h : ∀ [Base] (w0 : World) (m : Nat → Option Loc) (w : World), AWP P w0 none (Ctx.of [] m w) c ⟨initT args fn.ntmps, [], []⟩ (retQ P fn.results.toList (fun y => resSub y r))) : CallS P f args r := callS_of_awpZ he hf hb (fun w0 w => h w0 _ w)
end Go.Am

/- From the reading of a law's arguments to abstract values; the law from its contract. -/
namespace Go.Am
set_option linter.unusedSimpArgs false
set_option linter.unusedVariables false
open Go.RowKit Go.ChangeShapes Go.WideShapes Go.Deep
/-- Cells that stand for abstract cells. -/
def RL (w : World) (xs : List AV) (cs : List Value) : Prop := xs.length = cs.length ∧ ∀ j (h : j < xs.length) (h' : j < cs.length), PRep (fun c => c < w.heap.size) w xs[j] cs[j] ∧ cs[j].oneCell' = true
theorem RL.nil {w : World} : RL w [] [] := ⟨rfl, fun j h => by simp at h⟩
theorem RL.append {w : World} {xs ys : List AV} {cs ds : List Value} (a : RL w xs cs) (b : RL w ys ds) : RL w (xs ++ ys) (cs ++ ds) := by
  refine ⟨by simp [a.1, b.1], fun j h h' => ?_⟩
  by_cases hj : j < xs.length
  · rw [List.getElem_append_left hj, List.getElem_append_left (by have := a.1; omega)]
    exact a.2 j hj (by have := a.1; omega)
  · simp only [List.length_append] at h
    have e : cs.length = xs.length := a.1.symm
    rw [List.getElem_append_right (by omega), List.getElem_append_right (by omega)]
    simp only [e]
    exact b.2 (j - xs.length) (by omega) (by have := b.1; omega)
theorem RL.one {w : World} {x : AV} {c : Value} (p : PRep (fun c => c < w.heap.size) w x c) (o : c.oneCell' = true) : RL w [x] [c] :=
  ⟨rfl, fun j h h' => by have : j = 0 := by simp at h; omega
                         subst this; exact ⟨p, o⟩⟩
/-- Whatever can be read as data of a type stands for some a. -/
structure Reads (P : Program) (t : TypeId) {α : Type} (sz : Nat) (enc : α → List AV) (ok : α → Prop) : Prop where
  cells : P.cellsOf t = sz
  len : ∀ a, (enc a).length = sz
  read : ∀ {H : Type} {en : TypeId × Value → H} {w : World} {base : Nat} {sp : Nat → Bool} {held : Bool} {fuel : Nat} {cs : List Value} {x : DataW H × List MemPlace},
    DataW.trod en P w base sp held fuel t cs = some x → ∃ a, ok a ∧ RL w (enc a) cs
/-- What an integer of a kind is. -/
def okI (k : IntKind) (n : Int) : Prop := (Lit.int k n).wf = true
theorem reads_int {P : Program} {t : TypeId} {k : IntKind} (hu : P.underlying t = some (.int k)) (hc : P.cellsOf t = 1) : Reads P t 1 (fun n : Int => [.int k n]) (okI k) := by
  refine ⟨hc, fun _ => rfl, fun {H en w base sp held fuel cs x} h => ?_⟩
  obtain ⟨n, rfl, _, hw⟩ := DataW.trod_int hu h
  exact ⟨n, hw, RL.one (.int _ _) rfl⟩
theorem reads_bool {P : Program} {t : TypeId} (hu : P.underlying t = some .bool) (hc : P.cellsOf t = 1) : Reads P t 1 (fun b : Bool => [.bool b]) (fun _ => True) := by
  refine ⟨hc, fun _ => rfl, fun {H en w base sp held fuel cs x} h => ?_⟩
  obtain ⟨b, rfl, _⟩ := DataW.trod_bool hu h
  exact ⟨b, trivial, RL.one (.bool _) rfl⟩
theorem cell_plain {w : World} {a : Addr} {v : Value} (h : w.cell? a = some v) : a.spot = none ∧ a.block < w.heap.size := by
  unfold World.cell? at h
  split at h
  · rename_i c t z hb
    refine ⟨?_, lt_of_heap hb⟩
    split at h
    · cases h
    · rename_i hs; cases hsp : a.spot with
      | none => rfl
      | some q => simp [hsp] at hs
  · cases h
theorem add_add' (a : Addr) (i j : Nat) : (a.add i).add j = a.add (i + j) := by
  unfold Addr.add
  by_cases hi : i = 0
  · subst hi; simp
  · by_cases hj : j = 0
    · subst hj; simp
    · simp [hi, hj, Nat.add_assoc]
theorem add_none (b o j : Nat) : (⟨b, o, none⟩ : Addr).add j = ⟨b, o + j, none⟩ := by
  unfold Addr.add
  by_cases hj : j = 0
  · subst hj; simp
  · simp [hj]
theorem reads_slice {P : Program} {t e : TypeId} {α : Type} {sz : Nat} {enc : α → List AV} {ok : α → Prop} (hu : P.underlying t = some (.slice e)) (hc : P.cellsOf t = 1) (hz : 0 < sz) (r : Reads P e sz enc ok) :
    Reads P t 1 (fun l : List α => [.psl false l.length (l.flatMap enc)]) (fun l => l.length ≤ 9223372036854775807 ∧ ∀ a ∈ l, ok a) := by
  refine ⟨hc, fun _ => rfl, fun {H en w base sp held fuel cs x} h => ?_⟩
  rcases open_slice hu h with ⟨rfl, _⟩ | ⟨a, len, cap, m, n, D, Pl, rfl, hb, hl, hm, hmm, hx, hi⟩
  · exact ⟨[], ⟨by simp, by simp⟩, RL.one (.psle (Nat.le_refl _) (by simp) (by simp)) rfl⟩
  · have hlm : len ≤ m := by rw [hmm]; split <;> omega
    rw [r.cells] at hi
    have key : ∀ k, k ≤ len → ∃ l : List α, l.length = k ∧ (∀ b ∈ l, ok b) ∧ (l.flatMap enc).length = k * sz ∧ ∀ j (hj : j < (l.flatMap enc).length), ∃ v, w.cell? (a.add j) = some v ∧ v.oneCell' = true ∧ PRep (fun c => c < w.heap.size) w (l.flatMap enc)[j] v := by
      intro k
      induction k with
      | zero => intro _; exact ⟨[], rfl, by simp, by simp, fun j hj => by simp at hj⟩
      | succ k ih =>
        intro hk
        obtain ⟨l, l1, l2, l3, l4⟩ := ih (by omega)
        obtain ⟨cs', c1, c2⟩ := hi k (by omega)
        obtain ⟨b, b1, b2⟩ := r.read c2
        obtain ⟨_, d1, d2⟩ := World.cells?_some c1
        have hlen := r.len b
        have hfm : (l ++ [b]).flatMap enc = l.flatMap enc ++ enc b := by simp
        refine ⟨l ++ [b], by simp [l1], ?_, by rw [hfm, List.length_append, l3, hlen, Nat.add_mul, Nat.one_mul], fun j hj => ?_⟩
        · intro x hx
          rcases List.mem_append.1 hx with h | h
          · exact l2 x h
          · simp at h; subst h; exact b1
        · have hj' : j < (l.flatMap enc ++ enc b).length := by rw [← hfm]; exact hj
          have he : ((l ++ [b]).flatMap enc)[j] = (l.flatMap enc ++ enc b)[j] := by simp only [hfm]
          rw [he]
          by_cases hjl : j < (l.flatMap enc).length
          · rw [List.getElem_append_left hjl]
            exact l4 j hjl
          · rw [List.length_append] at hj'
            rw [List.getElem_append_right (by omega)]
            have ho : j - (l.flatMap enc).length < sz := by omega
            have hcell := d2 (j - (l.flatMap enc).length) ho
            rw [add_add', l3, show k * sz + (j - k * sz) = j by omega] at hcell
            have hjc : j - (l.flatMap enc).length < cs'.length := by omega
            refine ⟨cs'[j - (l.flatMap enc).length], ?_, (b2.2 _ (by omega) hjc).2, (b2.2 _ (by omega) hjc).1⟩
            rw [hcell, ← l3]
            exact List.getElem?_eq_getElem hjc
    obtain ⟨l, l1, l2, l3, l4⟩ := key len (Nat.le_refl _)
    refine ⟨l, ⟨by rw [l1]; unfold maxLen at hm; omega, l2⟩, RL.one ?_ rfl⟩
    cases hxs : l.flatMap enc with
    | nil => rw [l1]; exact .psle hl (by simp) (by simp)
    | cons y ys =>
      rw [← hxs, l1]
      have h0 : 0 < (l.flatMap enc).length := by rw [hxs]; simp
      obtain ⟨v0, v1, _, _⟩ := l4 0 h0
      obtain ⟨p1, p2⟩ := cell_plain v1
      obtain ⟨ab, ao, asp⟩ := a
      have p1' : asp = none := by simpa [Addr.add] using p1
      have p2' : ab < w.heap.size := by simpa [Addr.add] using p2
      subst p1'
      refine .psl (fun j => (w.cell? ⟨ab, ao + j, none⟩).getD undef) hl (by simp) p2' (fun j hj => ?_) (fun j hj => ?_)
      · obtain ⟨v, q1, q2, _⟩ := l4 j hj
        rw [add_none] at q1
        rw [q1]; exact ⟨rfl, q2⟩
      · obtain ⟨v, q1, _, q3⟩ := l4 j hj
        rw [add_none] at q1
        rw [q1]; exact q3
/-- The fields of a struct. -/
structure ReadsF (P : Program) (fs : List Field) (off : Nat) {α : Type} (sz : Nat) (enc : α → List AV) (ok : α → Prop) : Prop where
  len : ∀ a, (enc a).length = sz
  read : ∀ {H : Type} {en : TypeId × Value → H} {w : World} {base : Nat} {sp : Nat → Bool} {held : Bool} {n : Nat} {cs : List Value}, off + sz ≤ cs.length →
    (∀ f ∈ fs, ∃ x : DataW H × List MemPlace, DataW.trod en P w base sp held n f.type ((cs.drop f.offset).take (P.cellsOf f.type)) = some x) → ∃ a, ok a ∧ RL w (enc a) ((cs.drop off).take sz)
theorem readsF_nil {P : Program} {off : Nat} : ReadsF P [] off 0 (fun _ : Unit => []) (fun _ => True) := ⟨fun _ => rfl, fun _ _ => ⟨(), trivial, by simpa using RL.nil⟩⟩
theorem readsF_cons {P : Program} {f : Field} {fs : List Field} {off : Nat} {α β : Type} {s1 s2 : Nat} {e1 : α → List AV} {e2 : β → List AV} {k1 : α → Prop} {k2 : β → Prop} (ho : f.offset = off) (r1 : Reads P f.type s1 e1 k1) (r2 : ReadsF P fs (off + s1) s2 e2 k2) :
    ReadsF P (f :: fs) off (s1 + s2) (fun p : α × β => e1 p.1 ++ e2 p.2) (fun p => k1 p.1 ∧ k2 p.2) := by
  refine ⟨fun p => by simp [r1.len, r2.len], fun {H en w base sp held n cs} hl h => ?_⟩
  obtain ⟨x, hx⟩ := h f (by simp)
  rw [ho, r1.cells] at hx
  obtain ⟨a, a1, a2⟩ := r1.read hx
  obtain ⟨b, b1, b2⟩ := r2.read (en := en) (w := w) (base := base) (sp := sp) (held := held) (n := n) (cs := cs) (by omega) (fun g hg => h g (by simp [hg]))
  refine ⟨(a, b), ⟨a1, b1⟩, ?_⟩
  have : (cs.drop off).take (s1 + s2) = (cs.drop off).take s1 ++ (cs.drop (off + s1)).take s2 := by rw [List.take_add, List.drop_drop]
  rw [this]
  exact a2.append b2
theorem reads_struct {P : Program} {t : TypeId} {fs : Array Field} {α : Type} {sz : Nat} {enc : α → List AV} {ok : α → Prop} (hu : P.underlying t = some (.struct fs)) (hc : P.cellsOf t = sz) (r : ReadsF P fs.toList 0 sz enc ok) : Reads P t sz enc ok := by
  refine ⟨hc, r.len, fun {H en w base sp held fuel cs x} h => ?_⟩
  obtain ⟨xs, n, _, _, hl, hxl, hf⟩ := DataW.trod_struct hu h
  obtain ⟨a, a1, a2⟩ := r.read (en := en) (w := w) (base := base) (sp := sp) (held := held) (n := n) (cs := cs) (by rw [hl, hc]; omega) (fun f hf' => by
    obtain ⟨i, hi, rfl⟩ := List.mem_iff_getElem.1 hf'
    have h1 := hf i fs[i] (by simp at hi; simp [hi])
    have hi' : i < xs.length := by rw [hxl]; simpa using hi
    rw [List.getElem?_eq_getElem hi'] at h1
    exact ⟨_, by simpa using h1⟩)
  refine ⟨a, a1, ?_⟩
  rwa [List.drop_zero, List.take_of_length_le (by rw [hl, hc]; omega)] at a2
theorem Reads.conv {P : Program} {t : TypeId} {α β : Type} {sz : Nat} {enc : α → List AV} {ok : α → Prop} (r : Reads P t sz enc ok) (g : α → β) (enc' : β → List AV) (ok' : β → Prop) (hl : ∀ b, (enc' b).length = sz) (he : ∀ a, enc' (g a) = enc a) (hk : ∀ a, ok a → ok' (g a)) : Reads P t sz enc' ok' :=
  ⟨r.cells, hl, fun h => let ⟨a, a1, a2⟩ := r.read h; ⟨g a, hk a a1, by rw [he]; exact a2⟩⟩
section
variable {H : Type} {en : TypeId × Value → H} {P : Program} {w : World} {base : Nat} {sp : Nat → Bool} {held : Bool}
theorem arg_struct {rc : Reach} {b0 : Nat} {t : TypeId} {fs : Array Field} {v : Value} {d : DataW H} {p : List MemPlace} {α : Type} {sz : Nat} {enc : α → List AV} {ok : α → Prop} (hu : P.underlying t = some (.struct fs)) (r : Reads P t sz enc ok)
    (hv : Value.okWide P w rc b0 t v) (h : DataW.Trod en P w base sp held t v d p) : ∃ a, ok a ∧ PRep (fun c => c < w.heap.size) w (.agg (enc a)) v := by
  unfold Value.okWide at hv
  rw [hu] at hv
  obtain ⟨cs, rfl, hcs, _⟩ := hv
  obtain ⟨fuel, hf⟩ := h
  obtain ⟨a, a1, a2⟩ := r.read hf
  refine ⟨a, a1, ?_⟩
  obtain ⟨l⟩ := cs
  simp only [Value.cells] at a2
  exact .agg l a2.1 (fun u hu => by obtain ⟨j, hj, rfl⟩ := List.mem_iff_getElem.1 hu; exact (a2.2 j (by rw [a2.1]; exact hj) hj).2) (fun j h1 h2 => (a2.2 j h1 h2).1)
theorem arg_one {t : TypeId} {v : Value} {d : DataW H} {p : List MemPlace} {α : Type} {x : α → AV} {ok : α → Prop} (r : Reads P t 1 (fun a => [x a]) ok) (hv : v.cells.toList = [v]) (h : DataW.Trod en P w base sp held t v d p) : ∃ a, ok a ∧ PRep (fun c => c < w.heap.size) w (x a) v := by
  obtain ⟨fuel, hf⟩ := h
  rw [hv] at hf
  obtain ⟨a, a1, a2⟩ := r.read hf
  exact ⟨a, a1, (a2.2 0 (by simp) (by simp)).1⟩
end
section
variable {H : Type} {en : TypeId × Value → H} {P : Program}
theorem trodAll_below (hl : laidOutB P = true) {W W' : World} (hb : Below W.heap.size W W') : ∀ {ts : List TypeId} {vs : List Value} {ds : List (DataW H)} {ps : List MemPlace}, (∀ t ∈ ts, P.readableRec t = true ∧ t < P.types.size) →
    DataW.TrodAll en P W 0 (fun _ => true) true ts vs ds ps → (∀ x ∈ ps, x.block < W.heap.size) → DataW.TrodAll en P W' 0 (fun b => decide (b < W.heap.size)) true ts vs ds ps
  | [], [], [], _, _, h, _ => h
  | t :: ts, v :: vs, d :: ds, ps, hr, h, hlt => by
    obtain ⟨p, q, h1, h2, rfl⟩ := h
    exact ⟨p, q, Below.trod hl (hr t (by simp)).1 (hr t (by simp)).2 h1 hb (fun x hx => hlt x (by simp [hx])), trodAll_below hl hb (fun t' ht' => hr t' (by simp [ht'])) h2 (fun x hx => hlt x (by simp [hx])), rfl⟩
  | [], [], _ :: _, _, _, h, _ => h.elim
  | [], _ :: _, _, _, _, h, _ => by cases ‹List (DataW H)› <;> exact h.elim
  | _ :: _, [], _, _, _, h, _ => by cases ‹List (DataW H)› <;> exact h.elim
  | _ :: _, _ :: _, [], _, _, h, _ => h.elim
/-- What a law leaves: true; nothing of what lay there is changed. -/
theorem post_law {f : Func} {s : ChangeSpec} {W W' : World} {args : Array Value} {ds : List (DataW H)} {before : List MemPlace} {tb : TypeId} (hl : laidOutB P = true) (hr : ∀ t ∈ f.params.toList, P.readableRec t = true ∧ t < P.types.size)
    (hW : DataW.Whole en P f.params.toList s.vars false W args.toList ds [] before) (hv : s.vars = []) (hfa : (s.fn H (ds ++ [])).args = ds) (hfr : (s.fn H (ds ++ [])).results = [.lit (.bool true)]) (hfv : (s.fn H (ds ++ [])).vars = [])
    (hrt : f.resultTypes = #[tb]) (htb : P.underlying tb = some .bool) (hb : Below W.heap.size W W') : s.post en P f false true false false W args (.bool true) W' := by
  have hW' := hW
  obtain ⟨p, q, hA, hV, rfl, hz, hn⟩ := hW
  have hq : q = [] := by rw [hv] at hV; exact hV
  subst hq
  have hlt : ∀ x ∈ p ++ [], x.block < W.heap.size := fun x hx => hW'.lt x hx
  refine ⟨ds, [], p ++ [], [], p, [], hW', ?_, ?_, ?_, World.keptBut_mono (fun x hx => ⟨hx, .inr (.inl (by simpa using hx))⟩) (hb.frame (· ∈ p ++ [])), by simp⟩
  · rw [hfr, hrt]
    exact trodAll_mk1 (shut_bool htb true)
  · rw [hfa]
    exact trodAll_below hl hb hr hA (fun x hx => hlt x (by simpa using hx))
  · rw [hfv, hv]; rfl
theorem calls_law {f : FuncId} {xs : List AV} {vs : List Value} {W : World} (h : CallS P f xs (.bool true)) (hl : xs.length = vs.length) (hr : ∀ j (a : j < xs.length) (b : j < vs.length), PRep (fun c => c < W.heap.size) W xs[j] vs[j]) :
    Calls P f vs.toArray W fun e W' => e = .returned (.bool true) ∧ Below W.heap.size W W' := by
  refine (callsIn_wide (n := 0)).1 ((h.2 W vs (fun c => c < W.heap.size) (fun _ hc => hc) hl hr).mono ?_)
  rintro e W' ⟨v, rfl, hv, hb⟩
  cases hv
  exact ⟨rfl, hb⟩
end
end Go.Am

/- The abstract machine Am, part R: the rewriting that walks a region. -/
namespace Go.Am
open Go.RowKit
/-- Not a step by definition: the kernel is not asked to unfold. -/
theorem nrfl {α : Sort _} {a b : α} (h : a = b) : a = b := h
section
variable {P : Program} {all : Array Oper} {os : List Oper} {T : List AV} {H : List (Option ABlk)} {D : List Nat} {tr : List E} {K : St → List E → Prop}
variable {d : Option Tmp} {op : Op} {ty : TypeId} {ps : String} {af : Array Edge} {j : Nat} {wn : Bool} {g : Option (Nat × Bool)}
/-- One operation that has its turn; a shut name, so that what follows is walked later. -/
def stepK (P : Program) (all : Array Oper) (op : Op) (d : Option Tmp) (os : List Oper) (T : List AV) (H : List (Option ABlk)) (D : List Nat) (tr : List E) (K : St → List E → Prop) : Prop :=
  effK P ⟨d, op, 0, "", #[], none⟩ (aev T) (hget H) H.length fun e => splitB e.val fun v => evOps P all os ⟨lseto T d v, hseto H e.wr, D⟩ (tr ++ [⟨v, e.rd, e.wr⟩]) K
def guardK (g : AV) (wn : Bool) (a b : Prop) : Prop :=
  match g with
  | .bool x => if x == wn then a else b
  | .tup _ => b
  | _ => False
/-- The value is there: on. -/
def goK (P : Program) (all : Array Oper) (d : Option Tmp) (os : List Oper) (T : List AV) (H : List (Option ABlk)) (D : List Nat) (tr : List E) (K : St → List E → Prop) (v : AV) (rd : List Nat) : Prop :=
  splitB v fun v => evOps P all os ⟨lseto T d v, H, D⟩ (tr ++ [⟨v, rd, none⟩]) K
theorem ev_nil {s : St} : evOps P all [] s tr K = K s tr := nrfl rfl
theorem ev_free : evOps P all (⟨d, op, ty, ps, af, none⟩ :: os) ⟨T, H, D⟩ tr K = stepK P all op d os T H D tr K := nrfl rfl
def gtmp : List Oper → Nat → Option Tmp
  | [], _ => none
  | o :: _, 0 => o.dst
  | _ :: l, n + 1 => gtmp l n
def gget (T : List AV) : Option Tmp → AV
  | none => .junk
  | some t => lget T t
theorem gtmp_is : ∀ (l : List Oper) (j : Nat), (l.toArray[j]?).bind (·.dst) = gtmp l j
  | [], _ => by simp [gtmp]
  | o :: l, 0 => by simp [gtmp]
  | o :: l, n + 1 => by simpa [gtmp] using gtmp_is l n
theorem ev_guard {l : List Oper} : evOps P l.toArray (⟨d, op, ty, ps, af, some (j, wn)⟩ :: os) ⟨T, H, D⟩ tr K = guardK (gget T (gtmp l j)) wn (stepK P l.toArray op d os T H D tr K) (evOps P l.toArray os ⟨lseto T d (.tup []), H, D⟩ (tr ++ [⟨.tup [], [], none⟩]) K) := by
  simp only [evOps, guardOf, gtmp_is, guardK]
  cases hg : gtmp l j with
  | none => rfl
  | some t =>
    simp only [gget]
    cases hg : lget T t
    case bool b => cases hb : (b == wn) <;> simp [hb] <;> rfl
    all_goals rfl
theorem gt_0 {l : List Oper} : gtmp (⟨d, op, ty, ps, af, g⟩ :: l) 0 = d := nrfl rfl
theorem gt_s {o : Oper} {l : List Oper} {n : Nat} : gtmp (o :: l) (n + 1) = gtmp l n := nrfl rfl
theorem gg_s {t : Tmp} : gget T (some t) = lget T t := nrfl rfl
theorem guardK_tt {x y : Prop} : guardK (.bool true) true x y = x := nrfl rfl
theorem guardK_ff {x y : Prop} : guardK (.bool false) false x y = x := nrfl rfl
theorem guardK_tf {x y : Prop} : guardK (.bool true) false x y = y := nrfl rfl
theorem guardK_ft {x y : Prop} : guardK (.bool false) true x y = y := nrfl rfl
theorem go_int {k : IntKind} {n : Int} {rd : List Nat} : goK P all d os T H D tr K (.int k n) rd = evOps P all os ⟨lseto T d (.int k n), H, D⟩ (tr ++ [⟨.int k n, rd, none⟩]) K := nrfl rfl
theorem go_nils {rd : List Nat} : goK P all d os T H D tr K .nils rd = evOps P all os ⟨lseto T d .nils, H, D⟩ (tr ++ [⟨.nils, rd, none⟩]) K := nrfl rfl
theorem go_nilf {rd : List Nat} : goK P all d os T H D tr K .nilf rd = evOps P all os ⟨lseto T d .nilf, H, D⟩ (tr ++ [⟨.nilf, rd, none⟩]) K := nrfl rfl
theorem go_psl {f : Bool} {n : Nat} {xs : List AV} {rd : List Nat} : goK P all d os T H D tr K (.psl f n xs) rd = evOps P all os ⟨lseto T d (.psl f n xs), H, D⟩ (tr ++ [⟨.psl f n xs, rd, none⟩]) K := nrfl rfl
theorem go_pptr {n : Nat} {xs : List AV} {rd : List Nat} : goK P all d os T H D tr K (.pptr xs n) rd = evOps P all os ⟨lseto T d (.pptr xs n), H, D⟩ (tr ++ [⟨.pptr xs n, rd, none⟩]) K := nrfl rfl
theorem go_fn {f : Fn} {xs ys : List AV} {rd : List Nat} : goK P all d os T H D tr K (.fn f xs ys) rd = evOps P all os ⟨lseto T d (.fn f xs ys), H, D⟩ (tr ++ [⟨.fn f xs ys, rd, none⟩]) K := nrfl rfl
theorem go_agg {xs : List AV} {rd : List Nat} : goK P all d os T H D tr K (.agg xs) rd = evOps P all os ⟨lseto T d (.agg xs), H, D⟩ (tr ++ [⟨.agg xs, rd, none⟩]) K := nrfl rfl
theorem go_tup {xs : List AV} {rd : List Nat} : goK P all d os T H D tr K (.tup xs) rd = evOps P all os ⟨lseto T d (.tup xs), H, D⟩ (tr ++ [⟨.tup xs, rd, none⟩]) K := nrfl rfl
theorem go_ptr {b g o : Nat} {rd : List Nat} : goK P all d os T H D tr K (.ptr b g o) rd = evOps P all os ⟨lseto T d (.ptr b g o), H, D⟩ (tr ++ [⟨.ptr b g o, rd, none⟩]) K := nrfl rfl
theorem go_osl {b g o l : Nat} {rd : List Nat} : goK P all d os T H D tr K (.osl b g o l) rd = evOps P all os ⟨lseto T d (.osl b g o l), H, D⟩ (tr ++ [⟨.osl b g o l, rd, none⟩]) K := nrfl rfl
theorem go_map {b : Nat} {rd : List Nat} : goK P all d os T H D tr K (.map b) rd = evOps P all os ⟨lseto T d (.map b), H, D⟩ (tr ++ [⟨.map b, rd, none⟩]) K := nrfl rfl
theorem go_true {rd : List Nat} : goK P all d os T H D tr K (.bool true) rd = evOps P all os ⟨lseto T d (.bool true), H, D⟩ (tr ++ [⟨.bool true, rd, none⟩]) K := by simp [goK, splitB]
theorem go_false {rd : List Nat} : goK P all d os T H D tr K (.bool false) rd = evOps P all os ⟨lseto T d (.bool false), H, D⟩ (tr ++ [⟨.bool false, rd, none⟩]) K := by simp [goK, splitB]
theorem go_decide {p : Prop} [Decidable p] {rd : List Nat} : goK P all d os T H D tr K (.bool (decide p)) rd = ((p → goK P all d os T H D tr K (.bool true) rd) ∧ (¬ p → goK P all d os T H D tr K (.bool false) rd)) := by
  simp [goK, splitB]
theorem go_ndecide {p : Prop} [Decidable p] {rd : List Nat} : goK P all d os T H D tr K (.bool (!decide p)) rd = ((p → goK P all d os T H D tr K (.bool false) rd) ∧ (¬ p → goK P all d os T H D tr K (.bool true) rd)) := by
  by_cases hp : p <;> simp [goK, splitB, hp]
theorem go_var {b : Bool} {rd : List Nat} : goK P all d os T H D tr K (.bool b) rd = ((b = true → goK P all d os T H D tr K (.bool true) rd) ∧ (b = false → goK P all d os T H D tr K (.bool false) rd)) := by
  cases b <;> simp [goK, splitB]
theorem st_move {x : Operand} : stepK P all (.move x) d os T H D tr K = goK P all d os T H D tr K (aev T x) [] := nrfl rfl
theorem st_assign {x : Operand} : stepK P all (.assign x) d os T H D tr K = goK P all d os T H D tr K (aev T x) [] := nrfl rfl
def pickK (c : AV) (a b : Prop) : Prop := match c with | .bool true => a | .bool false => b | _ => False
theorem pick_t {a b : Prop} : pickK (.bool true) a b = a := nrfl rfl
theorem pick_f {a b : Prop} : pickK (.bool false) a b = b := nrfl rfl
theorem st_pick {c x y : Operand} : stepK P all (.pick c x y) d os T H D tr K = pickK (aev T c) (goK P all d os T H D tr K (aev T x) []) (goK P all d os T H D tr K (aev T y) []) := by
  simp only [stepK, effK, pickK]
  cases aev T c with
  | bool b => cases b <;> rfl
  | _ => rfl
theorem st_bin {o : BinOp} {t u : TypeId} {x y : Operand} : stepK P all (.binOp o t x y u) d os T H D tr K = binK P o t (aev T x) (aev T y) (fun v => goK P all d os T H D tr K v []) := nrfl rfl
theorem st_un {o : UnOp} {t : TypeId} {x : Operand} : stepK P all (.unOp o t x) d os T H D tr K = unK o (aev T x) (fun v => goK P all d os T H D tr K v []) := nrfl rfl
@[congr] theorem goK_congr {v v' : AV} {rd : List Nat} (h : v = v') : goK P all d os T H D tr K v rd = goK P all d os T H D tr K v' rd := by rw [h]
@[congr] theorem pickK_congr {c c' : AV} {a b : Prop} (h : c = c') : pickK c a b = pickK c' a b := by rw [h]
@[congr] theorem guardK_congr {c c' : AV} {a b : Prop} (h : c = c') : guardK c wn a b = guardK c' wn a b := by rw [h]
@[congr] theorem binK_congr {o : BinOp} {t : TypeId} {x x' y y' : AV} {k : AV → Prop} (h : x = x') (h' : y = y') : binK P o t x y k = binK P o t x' y' k := by rw [h, h']
@[congr] theorem unK_congr {o : UnOp} {x x' : AV} {k : AV → Prop} (h : x = x') : unK o x k = unK o x' k := by rw [h]
@[congr] theorem evOps_congr {T T' : List AV} {H H' : List (Option ABlk)} (h : T = T') (h' : H = H') : evOps P all os ⟨T, H, D⟩ tr K = evOps P all os ⟨T', H', D⟩ tr K := by rw [h, h']
variable {k : IntKind} {a b : Int} {t : TypeId} {Kv : AV → Prop}
theorem bin_add : binK P .add t (.int .i64 a) (.int .i64 b) Kv = ((-9223372036854775808 ≤ a + b ∧ a + b ≤ 9223372036854775807) ∧ Kv (.int .i64 (a + b))) := by simp [binK, binInt, arith]
theorem bin_sub : binK P .sub t (.int .i64 a) (.int .i64 b) Kv = ((-9223372036854775808 ≤ a - b ∧ a - b ≤ 9223372036854775807) ∧ Kv (.int .i64 (a - b))) := by simp [binK, binInt, arith]
theorem bin_mul : binK P .mul t (.int .i64 a) (.int .i64 b) Kv = ((-9223372036854775808 ≤ a * b ∧ a * b ≤ 9223372036854775807) ∧ Kv (.int .i64 (a * b))) := by simp [binK, binInt, arith]
theorem bin_quo : binK P .quo t (.int .i64 a) (.int .i64 b) Kv = (b ≠ 0 ∧ (-9223372036854775808 ≤ a.tdiv b ∧ a.tdiv b ≤ 9223372036854775807) ∧ Kv (.int .i64 (a.tdiv b))) := by simp [binK, binInt, arith]
theorem bin_rem : binK P .rem t (.int k a) (.int k b) Kv = (b ≠ 0 ∧ Kv (.int k (a.tmod b))) := by simp [binK, binInt]
theorem bin_eql : binK P .eql t (.int k a) (.int k b) Kv = Kv (.bool (decide (a = b))) := by simp [binK, binInt]
theorem bin_neq : binK P .neq t (.int k a) (.int k b) Kv = Kv (.bool (!decide (a = b))) := by simp [binK, binInt]
theorem bin_lss : binK P .lss t (.int k a) (.int k b) Kv = Kv (.bool (decide (a < b))) := by simp [binK, binInt]
theorem bin_leq : binK P .leq t (.int k a) (.int k b) Kv = Kv (.bool (decide (a ≤ b))) := by simp [binK, binInt]
theorem bin_gtr : binK P .gtr t (.int k a) (.int k b) Kv = Kv (.bool (decide (b < a))) := by simp [binK, binInt]
theorem bin_geq : binK P .geq t (.int k a) (.int k b) Kv = Kv (.bool (decide (b ≤ a))) := by simp [binK, binInt]
theorem un_not {x : Bool} : unK .not (.bool x) Kv = Kv (.bool (!x)) := nrfl rfl
theorem ae_tmp {n : Tmp} : aev T (.tmp n) = lget T n := nrfl rfl
theorem ae_int {n : Int} : aev T (.const (.int k n)) = .int k n := nrfl rfl
theorem ae_bool {n : Bool} : aev T (.const (.bool n)) = .bool n := nrfl rfl
theorem ae_nils : aev T (.const (.slice none 0 0)) = .nils := nrfl rfl
theorem ae_nilf : aev T (.const .nilFunc) = .nilf := nrfl rfl
theorem ae_func {f : FuncId} : aev T (.func f) = .fn (.func f) [] [] := nrfl rfl
theorem lg_0 {x : AV} {l : List AV} : lget (x :: l) 0 = x := nrfl rfl
theorem lg_s {x : AV} {l : List AV} {n : Nat} : lget (x :: l) (n + 1) = lget l n := nrfl rfl
theorem ls_0 {x y : AV} {l : List AV} : lset (x :: l) 0 y = y :: l := nrfl rfl
theorem ls_s {x y : AV} {l : List AV} {n : Nat} : lset (x :: l) (n + 1) y = x :: lset l n y := nrfl rfl
theorem lo_s {v : AV} {n : Tmp} : lseto T (some n) v = lset T n v := nrfl rfl
theorem lo_n {v : AV} : lseto T none v = T := nrfl rfl
attribute [go_sem] ev_nil ev_free guardK_tt guardK_ff guardK_tf guardK_ft go_int go_nils go_nilf go_psl go_pptr go_fn go_agg go_tup go_ptr go_osl go_map go_true go_false go_decide go_ndecide st_move st_assign pick_t pick_f st_pick st_bin st_un bin_add bin_sub bin_mul bin_quo bin_rem bin_eql bin_neq bin_lss bin_leq bin_gtr bin_geq un_not ae_tmp ae_int ae_bool ae_nils ae_nilf ae_func lg_0 lg_s ls_0 ls_s lo_s lo_n ev_guard gt_0 gt_s gg_s
end
end Go.Am

/- The abstract machine Am, part S: the rewriting that walks a region: memory, calls, results. -/
namespace Go.Am
open Go.RowKit
def optK {α : Type} (o : Option α) (k : α → Prop) : Prop := match o with | some x => k x | none => False
@[congr] theorem optK_congr {α : Type} {o o' : Option α} {k : α → Prop} (h : o = o') : optK o k = optK o' k := by rw [h]
theorem opt_s {α : Type} {x : α} {k : α → Prop} : optK (some x) k = k x := nrfl rfl
def orK {α : Type} (o : Option α) (k : α → Prop) (n : Prop) : Prop := match o with | some x => k x | none => n
@[congr] theorem orK_congr {α : Type} {o o' : Option α} {k : α → Prop} {n : Prop} (h : o = o') : orK o k n = orK o' k n := by rw [h]
theorem or_s {α : Type} {x : α} {k : α → Prop} {n : Prop} : orK (some x) k n = k x := nrfl rfl
theorem or_n {α : Type} {k : α → Prop} {n : Prop} : orK none k n = n := nrfl rfl
/-- Cells that lead to nothing of one's own. -/
def pureL (xs : List AV) : Prop := ∀ x ∈ xs, cellPure x = true
theorem pl_n : pureL [] = True := by simp [pureL]
theorem pl_c {x : AV} {xs : List AV} : pureL (x :: xs) = (cellPure x = true ∧ pureL xs) := by simp [pureL]
def cellsK (o : Option ABlk) (g : Nat) (k : List AV → Prop) : Prop := match o with | some (.cells _ _ g' xs) => g = g' ∧ k xs | _ => False
@[congr] theorem cellsK_congr {o o' : Option ABlk} {g : Nat} {k : List AV → Prop} (h : o = o') : cellsK o g k = cellsK o' g k := by rw [h]
theorem cells_s {t : TypeId} {sz g : Nat} {xs : List AV} {k : List AV → Prop} : cellsK (some (.cells t sz g xs)) g k = k xs := by simp [cellsK]
def mapK (o : Option ABlk) (k : List (AV × AV) → Prop) : Prop := match o with | some (.map xs) => k xs | _ => False
@[congr] theorem mapK_congr {o o' : Option ABlk} {k : List (AV × AV) → Prop} (h : o = o') : mapK o k = mapK o' k := by rw [h]
theorem map_s {xs : List (AV × AV)} {k : List (AV × AV) → Prop} : mapK (some (.map xs)) k = k xs := nrfl rfl
def nth : List AV → Nat → Option AV
  | [], _ => none
  | x :: _, 0 => some x
  | _ :: l, n + 1 => nth l n
theorem nth_is : ∀ (l : List AV) (n : Nat), l[n]? = nth l n
  | [], _ => by simp [nth]
  | x :: l, 0 => by simp [nth]
  | x :: l, n + 1 => by simpa [nth] using nth_is l n
theorem nt_0 {x : AV} {l : List AV} : nth (x :: l) 0 = some x := nrfl rfl
theorem nt_s {x : AV} {l : List AV} {n : Nat} : nth (x :: l) (n + 1) = nth l n := nrfl rfl
section
variable {P : Program} {t : TypeId} {xs ys : List AV} {off n : Nat} {K : AV → Prop}
@[congr] theorem loadK_congr {off' : Nat} (h : off = off') : loadK P t xs off K = loadK P t xs off' K := by rw [h]
theorem ld_one (h : tagg P t = some false) (h' : (tsz P t).isSome = true) : loadK P t xs off K = optK (nth xs off) K := by
  simp only [loadK, h]
  cases hs : tsz P t with
  | none => simp [hs] at h'
  | some m =>
    simp only [nth_is]
    cases nth xs off <;> rfl
theorem ld_agg (h : tagg P t = some true) : loadK P t xs off K = optK (tsz P t) fun n => off + n ≤ xs.length ∧ K (.agg (window xs off n)) := by
  simp only [loadK, h]
  cases hs : tsz P t <;> rfl
theorem win_s {x : AV} : window (x :: xs) (off + 1) n = window xs off n := by simp [window]
theorem win_0 {x : AV} : window (x :: xs) 0 (n + 1) = x :: window xs 0 n := by simp [window]
theorem win_z : window xs 0 0 = [] := by simp [window]
theorem spl_s {x : AV} : splice (x :: xs) (off + 1) ys = x :: splice xs off ys := by
  simp [splice, show off + 1 + ys.length = off + ys.length + 1 by omega]
theorem spl_0 : splice xs 0 ys = ys ++ xs.drop ys.length := by simp [splice]
theorem hg_0 {x : Option ABlk} {l : List (Option ABlk)} : hget (x :: l) 0 = x := nrfl rfl
theorem hg_s {x : Option ABlk} {l : List (Option ABlk)} : hget (x :: l) (n + 1) = hget l n := nrfl rfl
theorem hs_0 {x : Option ABlk} {l : List (Option ABlk)} {k : ABlk} : hset (x :: l) 0 k = some k :: l := nrfl rfl
theorem hs_s {x : Option ABlk} {l : List (Option ABlk)} {k : ABlk} : hset (x :: l) (n + 1) k = x :: hset l n k := nrfl rfl
theorem hs_n {k : ABlk} : hset [] 0 k = [some k] := nrfl rfl
theorem co_int {k : IntKind} {n : Int} : cellsOf (.int k n) = some [.int k n] := nrfl rfl
theorem co_bool {b : Bool} : cellsOf (.bool b) = some [.bool b] := nrfl rfl
theorem co_psl {f : Bool} : cellsOf (.psl f n xs) = some [.psl f n xs] := nrfl rfl
theorem co_agg : cellsOf (.agg xs) = some xs := nrfl rfl
theorem co_osl {b g o l : Nat} : cellsOf (.osl b g o l) = some [.osl b g o l] := nrfl rfl
theorem co_map {b : Nat} : cellsOf (.map b) = some [.map b] := nrfl rfl
theorem co_fn {f : Fn} : cellsOf (.fn f xs ys) = some [.fn f xs ys] := nrfl rfl
theorem cp_int {k : IntKind} {n : Int} : cellPure (.int k n) = true := nrfl rfl
theorem cp_bool {b : Bool} : cellPure (.bool b) = true := nrfl rfl
theorem cp_nils : cellPure .nils = true := nrfl rfl
theorem cp_nilm : cellPure .nilm = true := nrfl rfl
theorem cp_nilf : cellPure .nilf = true := nrfl rfl
theorem cp_psl {f : Bool} : cellPure (.psl f n xs) = true := nrfl rfl
theorem cp_pptr : cellPure (.pptr xs n) = true := nrfl rfl
theorem cp_fn {f : FuncId} : cellPure (.fn (.func f) [] []) = true := nrfl rfl
end
section
variable {P : Program} {all : Array Oper} {os : List Oper} {T : List AV} {H : List (Option ABlk)} {D : List Nat} {tr : List E} {K : St → List E → Prop} {d : Option Tmp}
theorem st_alloc {t : TypeId} : stepK P all (.alloc t) d os T H D tr K = optK (tzero P t) fun xs => pureL xs ∧ evOps P all os ⟨lseto T d (.ptr H.length 0 0), hset H H.length (.cells t 1 0 xs), D⟩ (tr ++ [⟨.ptr H.length 0 0, [], some (H.length, .cells t 1 0 xs)⟩]) K := by
  simp only [stepK, effK]
  cases tzero P t <;> rfl
theorem st_box {t : TypeId} {x : Operand} : stepK P all (.box t x) d os T H D tr K = optK (cellsOf (aev T x)) fun xs => evOps P all os ⟨lseto T d (.ptr H.length 0 0), hset H H.length (.cells t 1 0 xs), D⟩ (tr ++ [⟨.ptr H.length 0 0, [], some (H.length, .cells t 1 0 xs)⟩]) K := by
  simp only [stepK, effK]
  cases cellsOf (aev T x) <;> rfl
def fills (P : Program) (t : TypeId) (zs : List AV) (l : List (Nat × AV)) : Option (List AV) :=
  match tarr P t with
  | some (_, e) => (match tsz P e with
    | some sz => afill (fun i => some (i * sz, sz)) zs l
    | none => none)
  | none => (match tplaces P t with
    | some ps => afill (fun i => ps[i]?) zs l
    | none => none)
theorem st_build {t : TypeId} {parts : Array (Nat × Operand)} : stepK P all (.build t parts) d os T H D tr K = optK (tzero P t) fun zs => pureL zs ∧ optK (fills P t zs (parts.toList.map fun p => (p.1, aev T p.2))) fun xs => goK P all d os T H D tr K (.agg xs) [] := by
  simp only [stepK, effK, fills]
  cases tzero P t with
  | none => rfl
  | some zs =>
    simp only [optK, pureL]
    cases tarr P t with
    | none =>
      cases tplaces P t with
      | none => rfl
      | some ps => simp only []; cases afill (fun i => ps[i]?) zs (parts.toList.map fun p => (p.1, aev T p.2)) <;> rfl
    | some p =>
      obtain ⟨n, e⟩ := p
      simp only
      cases tsz P e with
      | none => rfl
      | some sz => simp only []; cases afill (fun i => some (i * sz, sz)) zs (parts.toList.map fun p => (p.1, aev T p.2)) <;> rfl
theorem st_buildSlice {t : TypeId} {len : Nat} {parts : Array (Nat × Operand)} : stepK P all (.buildSlice t len parts) d os T H D tr K = optK (tslice P t) fun e => optK (tsz P e) fun sz => optK (tzero P e) fun zs =>
    zs.length = sz ∧ 0 < sz ∧ len * sz ≤ 16777216 ∧ pureL zs ∧ optK (afill (fun i => some (i * sz, sz)) (List.replicate len zs).flatten (parts.toList.map fun p => (p.1, aev T p.2))) fun xs => pureL xs ∧ goK P all d os T H D tr K (.psl true len xs) [] := by
  simp only [stepK, effK]
  cases tslice P t with
  | none => rfl
  | some e =>
    simp only [optK]
    cases tsz P e with
    | none => rfl
    | some sz =>
      cases tzero P e with
      | none => rfl
      | some zs =>
        simp only [pureL]
        cases afill (fun i => some (i * sz, sz)) (List.replicate len zs).flatten (parts.toList.map fun p => (p.1, aev T p.2)) <;> rfl
def loadA (P : Program) (t : TypeId) (H : List (Option ABlk)) (p : AV) (k : AV → List Nat → Prop) : Prop :=
  match p with
  | .ptr b g off => cellsK (hget H b) g fun xs => loadK P t xs off fun v => k v [b]
  | .pptr xs i => loadK P t xs i fun v => k v []
  | _ => False
@[congr] theorem loadA_congr {t : TypeId} {p p' : AV} {k : AV → List Nat → Prop} (h : p = p') : loadA P t H p k = loadA P t H p' k := by rw [h]
theorem la_ptr {t : TypeId} {b g off : Nat} {k : AV → List Nat → Prop} : loadA P t H (.ptr b g off) k = cellsK (hget H b) g fun xs => loadK P t xs off fun v => k v [b] := nrfl rfl
theorem la_pptr {t : TypeId} {xs : List AV} {i : Nat} {k : AV → List Nat → Prop} : loadA P t H (.pptr xs i) k = loadK P t xs i fun v => k v [] := nrfl rfl
theorem st_load {t : TypeId} {a : Operand} : stepK P all (.load t a) d os T H D tr K = loadA P t H (aev T a) fun v rd => goK P all d os T H D tr K v rd := by
  simp only [stepK, effK]
  cases aev T a <;> try rfl
def storeA (P : Program) (t : TypeId) (H : List (Option ABlk)) (p v : AV) (k : Nat → ABlk → Prop) : Prop :=
  match p with
  | .ptr b g off => (match hget H b, cellsOf v with
    | some (.cells t' sz g' xs), some ys => g = g' ∧ some ys.length = tsz P t ∧ off + ys.length ≤ xs.length ∧ k b (.cells t' sz g' (splice xs off ys))
    | _, _ => False)
  | _ => False
def storeB (P : Program) (t : TypeId) (o : Option ABlk) (v : Option (List AV)) (b g off : Nat) (k : Nat → ABlk → Prop) : Prop :=
  match o, v with
    | some (.cells t' sz g' xs), some ys => g = g' ∧ some ys.length = tsz P t ∧ off + ys.length ≤ xs.length ∧ k b (.cells t' sz g' (splice xs off ys))
    | _, _ => False
@[congr] theorem storeA_congr {t : TypeId} {p p' v v' : AV} {k : Nat → ABlk → Prop} (h : p = p') (h' : v = v') : storeA P t H p v k = storeA P t H p' v' k := by rw [h, h']
@[congr] theorem storeB_congr {t : TypeId} {o o' : Option ABlk} {v v' : Option (List AV)} {b g off : Nat} {k : Nat → ABlk → Prop} (h : o = o') (h' : v = v') : storeB P t o v b g off k = storeB P t o' v' b g off k := by rw [h, h']
theorem sa_ptr {t : TypeId} {b g off : Nat} {v : AV} {k : Nat → ABlk → Prop} : storeA P t H (.ptr b g off) v k = storeB P t (hget H b) (cellsOf v) b g off k := nrfl rfl
theorem sb_s {t t' : TypeId} {b g off sz : Nat} {xs ys : List AV} {k : Nat → ABlk → Prop} : storeB P t (some (.cells t' sz g xs)) (some ys) b g off k = (some ys.length = tsz P t ∧ off + ys.length ≤ xs.length ∧ k b (.cells t' sz g (splice xs off ys))) := by simp [storeB]
theorem st_store {t : TypeId} {a x : Operand} : stepK P all (.store t a x) d os T H D tr K = storeA P t H (aev T a) (aev T x) fun b k => evOps P all os ⟨lseto T d .junk, hset H b k, D⟩ (tr ++ [⟨.junk, [], some (b, k)⟩]) K := by
  simp only [stepK, effK]
  cases aev T a <;> try rfl
def nilA (H : List (Option ABlk)) (p : AV) (k : AV → List Nat → Prop) : Prop :=
  match p with
  | .ptr b g off => cellsK (hget H b) g fun _ => k (.ptr b g off) [b]
  | .pptr xs i => k (.pptr xs i) []
  | _ => False
@[congr] theorem nilA_congr {p p' : AV} {k : AV → List Nat → Prop} (h : p = p') : nilA H p k = nilA H p' k := by rw [h]
theorem na_ptr {b g off : Nat} {k : AV → List Nat → Prop} : nilA H (.ptr b g off) k = cellsK (hget H b) g fun _ => k (.ptr b g off) [b] := nrfl rfl
theorem st_nil {a : Operand} : stepK P all (.nilCheck a) d os T H D tr K = nilA H (aev T a) fun v rd => goK P all d os T H D tr K v rd := by
  simp only [stepK, effK]
  cases aev T a <;> try rfl
def fadr (H : List (Option ABlk)) (p : AV) (off : Nat) (k : AV → List Nat → Prop) : Prop :=
  match p with
  | .ptr b g o => cellsK (hget H b) g fun _ => k (.ptr b g (o + off)) [b]
  | .pptr xs i => k (.pptr xs (i + off)) []
  | _ => False
@[congr] theorem fadr_congr {p p' : AV} {off : Nat} {k : AV → List Nat → Prop} (h : p = p') : fadr H p off k = fadr H p' off k := by rw [h]
theorem fa_ptr {b g o off : Nat} {k : AV → List Nat → Prop} : fadr H (.ptr b g o) off k = cellsK (hget H b) g fun _ => k (.ptr b g (o + off)) [b] := nrfl rfl
theorem fa_pptr {xs : List AV} {i off : Nat} {k : AV → List Nat → Prop} : fadr H (.pptr xs i) off k = k (.pptr xs (i + off)) [] := nrfl rfl
theorem st_fieldAddr {s : TypeId} {x : Operand} {f : Nat} : stepK P all (.fieldAddr s x f) d os T H D tr K = optK (tfld P s f) fun p => optK (tsz P p.2) fun sz => 0 < sz ∧ fadr H (aev T x) p.1 fun v rd => goK P all d os T H D tr K v rd := by
  simp only [stepK, effK]
  cases tfld P s f with
  | none => rfl
  | some p =>
    simp only [optK]
    cases tsz P p.2 with
    | none => rfl
    | some sz =>
      cases aev T x <;> simp only [fadr, and_false] <;> try rfl
def aggK (x : AV) (k : List AV → Prop) : Prop := match x with | .agg xs => k xs | _ => False
@[congr] theorem aggK_congr {p p' : AV} {k : List AV → Prop} (h : p = p') : aggK p k = aggK p' k := by rw [h]
theorem ag_s {xs : List AV} {k : List AV → Prop} : aggK (.agg xs) k = k xs := nrfl rfl
theorem st_field {s : TypeId} {x : Operand} {f : Nat} : stepK P all (.field s x f) d os T H D tr K = optK (tfld P s f) fun p => aggK (aev T x) fun xs => loadK P p.2 xs p.1 fun v => goK P all d os T H D tr K v [] := by
  simp only [stepK, effK]
  cases tfld P s f with
  | none => rfl
  | some p => cases aev T x <;> rfl
def intK (x : AV) (k : Int → Prop) : Prop := match x with | .int _ n => k n | _ => False
@[congr] theorem intK_congr {p p' : AV} {k : Int → Prop} (h : p = p') : intK p k = intK p' k := by rw [h]
theorem in_s {kk : IntKind} {n : Int} {k : Int → Prop} : intK (.int kk n) k = k n := nrfl rfl
def slA (H : List (Option ABlk)) (x : AV) (sz : Nat) (i : Int) (k : AV → List Nat → Prop) : Prop :=
  match x with
  | .psl _ n xs => 0 ≤ i ∧ i < n ∧ 0 < xs.length ∧ k (.pptr xs (i.toNat * sz)) []
  | .osl b g off len => 0 ≤ i ∧ i < len ∧ cellsK (hget H b) g fun _ => k (.ptr b g (off + i.toNat * sz)) [b]
  | _ => False
@[congr] theorem slA_congr {p p' : AV} {sz : Nat} {i : Int} {k : AV → List Nat → Prop} (h : p = p') : slA H p sz i k = slA H p' sz i k := by rw [h]
theorem sl_psl {f : Bool} {n sz : Nat} {xs : List AV} {i : Int} {k : AV → List Nat → Prop} : slA H (.psl f n xs) sz i k = (0 ≤ i ∧ i < n ∧ 0 < xs.length ∧ k (.pptr xs (i.toNat * sz)) []) := nrfl rfl
theorem sl_osl {b g off len sz : Nat} {i : Int} {k : AV → List Nat → Prop} : slA H (.osl b g off len) sz i k = (0 ≤ i ∧ i < len ∧ cellsK (hget H b) g fun _ => k (.ptr b g (off + i.toNat * sz)) [b]) := nrfl rfl
def arA (H : List (Option ABlk)) (x : AV) (n sz : Nat) (i : Int) (k : AV → List Nat → Prop) : Prop :=
  match x with
  | .ptr b g off => 0 ≤ i ∧ i < n ∧ cellsK (hget H b) g fun _ => k (.ptr b g (off + i.toNat * sz)) [b]
  | .pptr xs o => 0 ≤ i ∧ i < n ∧ k (.pptr xs (o + i.toNat * sz)) []
  | _ => False
@[congr] theorem arA_congr {p p' : AV} {n sz : Nat} {i : Int} {k : AV → List Nat → Prop} (h : p = p') : arA H p n sz i k = arA H p' n sz i k := by rw [h]
theorem ar_ptr {b g off n sz : Nat} {i : Int} {k : AV → List Nat → Prop} : arA H (.ptr b g off) n sz i k = (0 ≤ i ∧ i < n ∧ cellsK (hget H b) g fun _ => k (.ptr b g (off + i.toNat * sz)) [b]) := nrfl rfl
theorem st_indexAddr {t : TypeId} {x i : Operand} : stepK P all (.indexAddr t x i) d os T H D tr K = intK (aev T i) fun i => orK (tslice P t) (fun e => optK (tsz P e) fun sz => slA H (aev T x) sz i fun v rd => goK P all d os T H D tr K v rd)
    (optK (tarr P t) fun p => optK (tsz P p.2) fun sz => arA H (aev T x) p.1 sz i fun v rd => goK P all d os T H D tr K v rd) := by
  simp only [stepK, effK]
  cases aev T i <;> try rfl
  case int kk i =>
    simp only [intK]
    cases tslice P t with
    | some e =>
      simp only [orK]
      cases tsz P e with
      | none => rfl
      | some sz =>
        cases aev T x <;> simp only [optK, slA] <;> try rfl
    | none =>
      simp only [orK]
      cases tarr P t with
      | none => rfl
      | some p =>
        obtain ⟨n, e⟩ := p
        simp only [optK]
        cases tsz P e with
        | none => rfl
        | some sz =>
          cases aev T x <;> simp only [arA] <;> try rfl
def strA (x : AV) (k : ByteArray → Prop) : Prop := match x with | .str s => k s | _ => False
theorem st_index {t : TypeId} {x i : Operand} : stepK P all (.index t x i) d os T H D tr K = intK (aev T i) fun i => orK (tarr P t) (fun p => aggK (aev T x) fun xs => optK (tsz P p.2) fun sz => 0 ≤ i ∧ i < p.1 ∧ loadK P p.2 xs (i.toNat * sz) fun v => goK P all d os T H D tr K v [])
    (strA (aev T x) fun s => P.underlying t = some .string ∧ chrK s i fun b => goK P all d os T H D tr K (.int .u8 b.toNat) []) := by
  simp only [stepK, effK]
  cases aev T i <;> try rfl
  case int kk i =>
    simp only [intK]
    cases tarr P t with
    | none => cases aev T x <;> rfl
    | some p =>
      obtain ⟨n, e⟩ := p
      simp only [orK]
      cases aev T x <;> simp only [aggK] <;> try rfl
      cases tsz P e <;> rfl
def tupK (x : AV) (i : Nat) (k : AV → Prop) : Prop := match x with | .tup xs => (match xs[i]? with | some v => k v | none => False) | _ => False
@[congr] theorem tupK_congr {p p' : AV} {i : Nat} {k : AV → Prop} (h : p = p') : tupK p i k = tupK p' i k := by rw [h]
theorem tu_s {xs : List AV} {i : Nat} {k : AV → Prop} : tupK (.tup xs) i k = optK (nth xs i) k := by simp only [tupK, nth_is]; cases nth xs i <;> rfl
theorem st_extract {x : Operand} {i : Nat} : stepK P all (.extract x i) d os T H D tr K = tupK (aev T x) i fun v => goK P all d os T H D tr K v [] := by
  simp only [stepK, effK]
  cases aev T x <;> simp only [tupK] <;> try rfl
theorem st_makeFunc {f : FuncId} {a b : Array Operand} : stepK P all (.makeFunc (.func f) a b) d os T H D tr K = goK P all d os T H D tr K (.fn (.func f) (a.toList.map (aev T)) (b.toList.map (aev T))) [] := by
  have : (∀ l, Fn.func f ≠ .yield l) ↔ True := ⟨fun _ => trivial, fun _ l h => by cases h⟩
  simp only [stepK, effK, this, true_and]
  rfl
theorem st_makeMap {t : TypeId} : stepK P all (.makeMap t none) d os T H D tr K = evOps P all os ⟨lseto T d (.map H.length), hset H H.length (.map []), D⟩ (tr ++ [⟨.map H.length, [], some (H.length, .map [])⟩]) K := nrfl rfl
def makA (l c : AV) (k : Int → Prop) : Prop := match l, c with | .int _ n, .int _ n' => n = n' ∧ 0 ≤ n ∧ k n | _, _ => False
@[congr] theorem makA_congr {l l' c c' : AV} {k : Int → Prop} (h : l = l') (h' : c = c') : makA l c k = makA l' c' k := by rw [h, h']
theorem mk_s {a b : IntKind} {n n' : Int} {k : Int → Prop} : makA (.int a n) (.int b n') k = (n = n' ∧ 0 ≤ n ∧ k n) := nrfl rfl
theorem st_makeSlice {t : TypeId} {l c : Operand} : stepK P all (.makeSlice t l c) d os T H D tr K = optK (tslice P t) fun e => optK (tsz P e) fun sz => optK (tbytes P e) fun by_ => optK (tzero P e) fun zs => zs.length = sz ∧ 0 < sz ∧ pureL zs ∧ makA (aev T l) (aev T c) fun n =>
    by_ * n.toNat ≤ 281474976710656 ∧ n.toNat ≤ 9223372036854775807 ∧ evOps P all os ⟨lseto T d (.osl H.length 0 0 n.toNat), hset H H.length (.cells e sz 0 (List.replicate n.toNat zs).flatten), D⟩ (tr ++ [⟨.osl H.length 0 0 n.toNat, [], some (H.length, .cells e sz 0 (List.replicate n.toNat zs).flatten)⟩]) K := by
  simp only [stepK, effK]
  cases tslice P t with
  | none => rfl
  | some e =>
    simp only [optK]
    cases tsz P e with
    | none => rfl
    | some sz =>
      cases tbytes P e with
      | none => rfl
      | some by_ =>
        cases tzero P e with
        | none => rfl
        | some zs =>
          simp only [makeK, makA, pureL]
          cases aev T l <;> cases aev T c <;> rfl
def cutA (H : List (Option ABlk)) (sz : Nat) (x : AV) (lo hi : Option AV) (k : AV → List Nat → Prop) : Prop :=
  match x with
  | .osl b g off len => (match hget H b with
    | some (.cells _ sz' g' _) => g = g' ∧ sz' = sz ∧ cutO sz b g off len lo hi fun v => k v [b]
    | _ => False)
  | y => sliceK sz y lo hi fun v => k v []
@[congr] theorem cutA_congr {sz : Nat} {x x' : AV} {lo lo' hi hi' : Option AV} {k : AV → List Nat → Prop} (h : x = x') (h1 : lo = lo') (h2 : hi = hi') : cutA H sz x lo hi k = cutA H sz x' lo' hi' k := by rw [h, h1, h2]
theorem cut_nh {sz n : Nat} {f : Bool} {xs : List AV} {a : IntKind} {u : Int} {k : AV → List Nat → Prop} : cutA H sz (.psl f n xs) none (some (.int a u)) k = (0 ≤ u ∧ u ≤ n ∧ xs.length = n * sz ∧ k (.psl false u.toNat (window xs 0 (u.toNat * sz))) []) := by
  simp only [cutA, sliceK, Option.getD, Int.sub_zero, Int.toNat_zero, Nat.zero_mul]
  have : ((0:Int) ≤ 0) = True := by simp
  simp only [this, true_and]
theorem cut_ln {sz n : Nat} {f : Bool} {xs : List AV} {a : IntKind} {l : Int} {k : AV → List Nat → Prop} : cutA H sz (.psl f n xs) (some (.int a l)) none k = (0 ≤ l ∧ l ≤ n ∧ xs.length = n * sz ∧ k (.psl false (n - l).toNat (window xs (l.toNat * sz) ((n - l).toNat * sz))) []) := by
  simp only [cutA, sliceK, Option.getD, Int.le_refl, true_and]
theorem st_slice {t : TypeId} {x : Operand} {lo hi : Option Operand} : stepK P all (.slice t x lo hi none) d os T H D tr K = optK (tslice P t) fun e => optK (tsz P e) fun sz => cutA H sz (aev T x) (lo.map (aev T)) (hi.map (aev T)) fun v rd => goK P all d os T H D tr K v rd := by
  simp only [stepK, effK]
  cases tslice P t with
  | none => rfl
  | some e =>
    simp only [optK]
    cases tsz P e with
    | none => rfl
    | some sz => cases aev T x <;> rfl
def convA (k : IntKind) (x : AV) (K : AV → Prop) : Prop := match x with | .int _ n => arith k n K | _ => False
@[congr] theorem convA_congr {k : IntKind} {x x' : AV} {K : AV → Prop} (h : x = x') : convA k x K = convA k x' K := by rw [h]
theorem cv_i64 {a : IntKind} {n : Int} {K : AV → Prop} : convA .i64 (.int a n) K = ((-9223372036854775808 ≤ n ∧ n ≤ 9223372036854775807) ∧ K (.int .i64 n)) := nrfl rfl
theorem st_convert {s t : TypeId} {x : Operand} : stepK P all (.convert s t x) d os T H D tr K = optK (tint P t) fun k => (P.underlying s).isSome = true ∧ convA k (aev T x) fun v => goK P all d os T H D tr K v [] := by
  simp only [stepK, effK]
  cases tint P t with
  | none => rfl
  | some k =>
    simp only [optK]
    cases aev T x <;> simp only [convA, and_false]
    cases k <;> rfl
def callA (P : Program) (f : AV) (args : List AV) (K : AV → Prop) : Prop :=
  match f with
  | .fn (.func g) first caps => (∀ x ∈ first ++ args ++ caps, pureA x = true) ∧ CallK P g (first ++ args ++ caps) K
  | _ => False
def pureAs (xs : List AV) : Prop := ∀ x ∈ xs, pureA x = true
theorem pas_n : pureAs [] = True := by simp [pureAs]
theorem pas_c {x : AV} {xs : List AV} : pureAs (x :: xs) = (pureA x = true ∧ pureAs xs) := by simp [pureAs]
theorem pa_agg {xs : List AV} : (pureA (.agg xs) = true) = pureL xs := by simp [pureA, pureL]
theorem pa_int {k : IntKind} {n : Int} : pureA (.int k n) = true := nrfl rfl
theorem pa_bool {b : Bool} : pureA (.bool b) = true := nrfl rfl
theorem pa_psl {f : Bool} {n : Nat} {xs : List AV} : pureA (.psl f n xs) = true := nrfl rfl
theorem pa_pptr {n : Nat} {xs : List AV} : pureA (.pptr xs n) = true := nrfl rfl
theorem pa_fn {f : FuncId} : pureA (.fn (.func f) [] []) = true := nrfl rfl
@[congr] theorem callA_congr {f f' : AV} {as as' : List AV} {k : AV → Prop} (h : f = f') (h' : as = as') : callA P f as k = callA P f' as' k := by rw [h, h']
@[congr] theorem CallK_congr {f : FuncId} {as as' : List AV} {k : AV → Prop} (h' : as = as') : CallK P f as k = CallK P f as' k := by rw [h']
theorem ca_fn {f : FuncId} {first caps as : List AV} {k : AV → Prop} : callA P (.fn (.func f) first caps) as k = (pureAs (first ++ as ++ caps) ∧ CallK P f (first ++ as ++ caps) k) := nrfl rfl
theorem st_call {f : Operand} {args : Array Operand} {ts : Array TypeId} : stepK P all (.call ⟨.value f, args, ts⟩) d os T H D tr K = callA P (aev T f) (args.toList.map (aev T)) fun v => goK P all d os T H D tr K v [] := by
  simp only [stepK, effK]
  cases aev T f <;> try rfl
theorem callK_of {f : FuncId} {as : List AV} {r : AV} {k : AV → Prop} (h : CallS P f as r) (hk : k r) : CallK P f as k := ⟨r, h, hk⟩
def lenA (P : Program) (t : TypeId) (H : List (Option ABlk)) (x : AV) (k : AV → List Nat → Prop) : Prop :=
  match x with
    | .psl _ n _ => (tslice P t).isSome = true ∧ k (.int .i64 n) []
    | .nils => (tslice P t).isSome = true ∧ k (.int .i64 0) []
    | .osl b g _ len => (tslice P t).isSome = true ∧ cellsK (hget H b) g fun _ => k (.int .i64 len) [b]
    | .map b => (tmap P t).isSome = true ∧ mapK (hget H b) fun es => k (.int .i64 es.length) [b]
    | _ => False
@[congr] theorem lenA_congr {t : TypeId} {x x' : AV} {k : AV → List Nat → Prop} (h : x = x') : lenA P t H x k = lenA P t H x' k := by rw [h]
theorem le_psl {t : TypeId} {f : Bool} {n : Nat} {xs : List AV} {k : AV → List Nat → Prop} : lenA P t H (.psl f n xs) k = ((tslice P t).isSome = true ∧ k (.int .i64 n) []) := nrfl rfl
theorem le_osl {t : TypeId} {b g off len : Nat} {k : AV → List Nat → Prop} : lenA P t H (.osl b g off len) k = ((tslice P t).isSome = true ∧ cellsK (hget H b) g fun _ => k (.int .i64 len) [b]) := nrfl rfl
theorem st_len {x : Operand} {t : TypeId} : stepK P all (.call ⟨.builtin .len, #[x], #[t]⟩) d os T H D tr K = lenA P t H (aev T x) fun v rd => goK P all d os T H D tr K v rd := by
  simp only [stepK, effK, builtinK, List.map_cons, List.map_nil]
  cases aev T x <;> try rfl
def mmA (b : Bool) (x y : AV) (k : AV → Prop) : Prop := mm b [x, y] k
@[congr] theorem mmA_congr {b : Bool} {x x' y y' : AV} {k : AV → Prop} (h : x = x') (h' : y = y') : mmA b x y k = mmA b x' y' k := by rw [h, h']
theorem mm_max {a b : Int} {k : IntKind} {K : AV → Prop} : mmA true (.int k a) (.int k b) K = K (.int k (max a b)) := by
  have : (if b > a then b else a) = max a b := by omega
  simp [mmA, mm, this]
theorem mm_min {a b : Int} {k : IntKind} {K : AV → Prop} : mmA false (.int k a) (.int k b) K = K (.int k (min a b)) := by
  have : (if b < a then b else a) = min a b := by omega
  simp [mmA, mm, this]
theorem st_max {x y : Operand} {ts : Array TypeId} : stepK P all (.call ⟨.builtin .max, #[x, y], ts⟩) d os T H D tr K = mmA true (aev T x) (aev T y) fun v => goK P all d os T H D tr K v [] := by
  simp only [stepK, effK, builtinK]
  cases ts.toList with
  | nil => rfl
  | cons a l => rfl
theorem st_min {x y : Operand} {ts : Array TypeId} : stepK P all (.call ⟨.builtin .min, #[x, y], ts⟩) d os T H D tr K = mmA false (aev T x) (aev T y) fun v => goK P all d os T H D tr K v [] := by
  simp only [stepK, effK, builtinK]
  cases ts.toList with
  | nil => rfl
  | cons a l => rfl
def appA (H : List (Option ABlk)) (e : TypeId) (sz by_ : Nat) (s x : AV) (k : AV → Nat → ABlk → Prop) : Prop :=
  match x with
  | .psl _ n ys => ys.length = n * sz ∧ (match s with
    | .nils => n * by_ ≤ 140737488355328 ∧ n ≤ 9223372036854775807 ∧ k (.osl H.length 0 0 n) H.length (.cells e sz 0 ys)
    | .osl b g off len => (match hget H b with
      | some (.cells e' sz' g' xs) => g = g' ∧ off = 0 ∧ e' = e ∧ sz' = sz ∧ xs.length = len * sz ∧ (len + n) * by_ ≤ 140737488355328 ∧ len + n ≤ 9223372036854775807 ∧ k (.osl b (g + 1) 0 (len + n)) b (.cells e sz (g + 1) (xs ++ ys))
      | _ => False)
    | .psl true len xs => (0 < len ∧ 0 < n ∧ xs.length = len * sz ∧ (len + n) * by_ ≤ 140737488355328 ∧ len + n ≤ 9223372036854775807 ∧ k (.osl H.length 0 0 (len + n)) H.length (.cells e sz 0 (xs ++ ys))) ∨
        (len = 0 ∧ xs = [] ∧ n * by_ ≤ 140737488355328 ∧ n ≤ 9223372036854775807 ∧ (n = 0 → k (.psl true 0 []) H.length (.cells e sz 0 [])) ∧ (0 < n → k (.osl H.length 0 0 n) H.length (.cells e sz 0 ys)))
    | _ => False)
  | _ => False
theorem ap_psle {e : TypeId} {sz by_ n : Nat} {f : Bool} {ys : List AV} {k : AV → Nat → ABlk → Prop} : appA H e sz by_ (.psl true 0 []) (.psl f n ys) k = (ys.length = n * sz ∧ n * by_ ≤ 140737488355328 ∧ n ≤ 9223372036854775807 ∧ (n = 0 → k (.psl true 0 []) H.length (.cells e sz 0 [])) ∧ (0 < n → k (.osl H.length 0 0 n) H.length (.cells e sz 0 ys))) := by
  simp [appA]
def appB (o : Option ABlk) (e : TypeId) (sz by_ b g len n : Nat) (ys : List AV) (k : AV → Nat → ABlk → Prop) : Prop :=
  match o with
      | some (.cells e' sz' g' xs) => g = g' ∧ e' = e ∧ sz' = sz ∧ xs.length = len * sz ∧ (len + n) * by_ ≤ 140737488355328 ∧ len + n ≤ 9223372036854775807 ∧ k (.osl b (g + 1) 0 (len + n)) b (.cells e sz (g + 1) (xs ++ ys))
      | _ => False
@[congr] theorem appA_congr {e : TypeId} {sz by_ : Nat} {s s' x x' : AV} {k : AV → Nat → ABlk → Prop} (h : s = s') (h' : x = x') : appA H e sz by_ s x k = appA H e sz by_ s' x' k := by rw [h, h']
@[congr] theorem appB_congr {o o' : Option ABlk} {e : TypeId} {sz by_ b g len n : Nat} {ys : List AV} {k : AV → Nat → ABlk → Prop} (h : o = o') : appB o e sz by_ b g len n ys k = appB o' e sz by_ b g len n ys k := by rw [h]
theorem ap_nil {e : TypeId} {sz by_ n : Nat} {f : Bool} {ys : List AV} {k : AV → Nat → ABlk → Prop} : appA H e sz by_ .nils (.psl f n ys) k = (ys.length = n * sz ∧ n * by_ ≤ 140737488355328 ∧ n ≤ 9223372036854775807 ∧ k (.osl H.length 0 0 n) H.length (.cells e sz 0 ys)) := nrfl rfl
theorem ap_osl {e : TypeId} {sz by_ n b g len : Nat} {f : Bool} {ys : List AV} {k : AV → Nat → ABlk → Prop} : appA H e sz by_ (.osl b g 0 len) (.psl f n ys) k = (ys.length = n * sz ∧ appB (hget H b) e sz by_ b g len n ys k) := by
  simp only [appA, appB, true_and]
theorem ab_s {e : TypeId} {sz by_ n b g len : Nat} {xs ys : List AV} {k : AV → Nat → ABlk → Prop} : appB (some (.cells e sz g xs)) e sz by_ b g len n ys k = (xs.length = len * sz ∧ (len + n) * by_ ≤ 140737488355328 ∧ len + n ≤ 9223372036854775807 ∧ k (.osl b (g + 1) 0 (len + n)) b (.cells e sz (g + 1) (xs ++ ys))) := by
  simp [appB]
theorem st_append {s x : Operand} {t : TypeId} : stepK P all (.call ⟨.builtin .append, #[s, x], #[t, t]⟩) d os T H D tr K = optK (tslice P t) fun e => optK (tsz P e) fun sz => optK (tbytes P e) fun by_ => optK (tzero P e) fun zs => zs.length = sz ∧ 0 < sz ∧
    appA H e sz by_ (aev T s) (aev T x) fun v b k => evOps P all os ⟨lseto T d v, hset H b k, D⟩ (tr ++ [⟨v, [], some (b, k)⟩]) K := by
  simp only [stepK, effK, builtinK, List.map_cons, List.map_nil, true_and]
  cases tslice P t with
  | none => rfl
  | some e =>
    simp only [optK]
    cases tsz P e with
    | none => rfl
    | some sz =>
      cases tbytes P e with
      | none => rfl
      | some by_ =>
        cases tzero P e with
        | none => rfl
        | some zs =>
          cases aev T x <;> simp only [appA] <;> try rfl
end
section
variable {P : Program} {s : St} {rs : List ResultVar} {R : AV → Prop} {T : List AV} {H : List (Option ABlk)} {D : List Nat} {k : List AV → Prop}
theorem rq_r : retQ P rs R .ret ⟨T, H, []⟩ = resK P ⟨T, H, []⟩ rs fun xs => outs (hget H) xs fun ys => R (finAV ys) := nrfl rfl
theorem rk_n : resK P s [] k = k [] := nrfl rfl
theorem rk_t {t : Tmp} : resK P ⟨T, H, D⟩ (.tmp t :: rs) k = resK P ⟨T, H, D⟩ rs fun xs => k (lget T t :: xs) := nrfl rfl
def cellA (P : Program) (H : List (Option ABlk)) (t : TypeId) (p : AV) (k : AV → Prop) : Prop :=
  match p with
  | .ptr b g off => cellsK (hget H b) g fun xs => loadK P t xs off k
  | _ => False
@[congr] theorem cellA_congr {t : TypeId} {p p' : AV} {k : AV → Prop} (h : p = p') : cellA P H t p k = cellA P H t p' k := by rw [h]
theorem cl_ptr {t : TypeId} {b g off : Nat} {k : AV → Prop} : cellA P H t (.ptr b g off) k = cellsK (hget H b) g fun xs => loadK P t xs off k := nrfl rfl
theorem rk_c {a : Tmp} {t : TypeId} : resK P ⟨T, H, D⟩ (.cell a t :: rs) k = cellA P H t (lget T a) fun v => resK P ⟨T, H, D⟩ rs fun vs => k (v :: vs) := by
  simp only [resK, cellA]
  cases lget T a <;> try rfl
variable {h : Nat → Option ABlk} {x y : AV} {xs ys : List AV} {kv : AV → Prop}
@[congr] theorem outs_congr {xs' : List AV} (e : xs = xs') : outs h xs k = outs h xs' k := by rw [e]
@[congr] theorem outA_congr {x' : AV} (e : x = x') : outA h x kv = outA h x' kv := by rw [e]
theorem os_n : outs h [] k = k [] := nrfl rfl
theorem os_c : outs h (x :: xs) k = outA h x fun y => outs h xs fun ys => k (y :: ys) := nrfl rfl
theorem ol_n : outL h [] k = k [] := nrfl rfl
theorem ol_c : outL h (x :: xs) k = out1 h x fun y => outL h xs fun ys => k (y :: ys) := nrfl rfl
theorem oa_agg : outA h (.agg xs) kv = outL h xs fun ys => kv (.agg ys) := nrfl rfl
theorem oa_int {kk : IntKind} {n : Int} : outA h (.int kk n) kv = kv (.int kk n) := by simp [outA, out1, cellPure]
theorem oa_bool {b : Bool} : outA h (.bool b) kv = kv (.bool b) := by simp [outA, out1, cellPure]
theorem oa_nils : outA h .nils kv = kv .nils := by simp [outA, out1, cellPure]
theorem oa_psl {f : Bool} {n : Nat} : outA h (.psl f n xs) kv = kv (.psl f n xs) := by simp [outA, out1, cellPure]
theorem o1_int {kk : IntKind} {n : Int} : out1 h (.int kk n) kv = kv (.int kk n) := by simp [out1, cellPure]
theorem o1_psl {f : Bool} {n : Nat} : out1 h (.psl f n xs) kv = kv (.psl f n xs) := by simp [out1, cellPure]
theorem oa_osl {b g off len : Nat} : outA h (.osl b g off len) kv = out1 h (.osl b g off len) kv := nrfl rfl
def oslA (o : Option ABlk) (g len : Nat) (kv : AV → Prop) : Prop := cellsK o g fun xs => pureL xs ∧ kv (.psl false len xs)
@[congr] theorem oslA_congr {o o' : Option ABlk} {g len : Nat} (e : o = o') : oslA o g len kv = oslA o' g len kv := by rw [e]
theorem oslA_s {t : TypeId} {sz g len : Nat} : oslA (some (.cells t sz g xs)) g len kv = (pureL xs ∧ kv (.psl false len xs)) := by simp [oslA, cellsK]
theorem o1_osl {b g len : Nat} : out1 h (.osl b g 0 len) kv = oslA (h b) g len kv := by
  simp only [out1, oslA]
  cases h b with
  | none => rfl
  | some k => cases k <;> simp [cellsK, pureL]
theorem fi_1 : finAV [x] = x := nrfl rfl
theorem fi_2 : finAV (x :: y :: xs) = .tup (x :: y :: xs) := nrfl rfl
variable [Base]
omit [Base] in
theorem then_n {K : St → Prop} {Q : Exit → St → Prop} {s : St} : thenQ K Q .normal s = K s := nrfl rfl
omit [Base] in
theorem then_r {K : St → Prop} {Q : Exit → St → Prop} {s : St} : thenQ K Q .ret s = Q .ret s := nrfl rfl
omit [Base] in
theorem then_e {K : St → Prop} {Q : Exit → St → Prop} {s : St} {i : Nat} : thenQ K Q (.exit i) s = Q (.exit i) s := nrfl rfl
omit [Base] in
theorem block_n {i : Nat} {Q : Exit → St → Prop} {s : St} : blockQ i Q .normal s = Q .normal s := nrfl rfl
omit [Base] in
theorem block_r {i : Nat} {Q : Exit → St → Prop} {s : St} : blockQ i Q .ret s = Q .ret s := nrfl rfl
omit [Base] in
theorem block_e {i j : Nat} {Q : Exit → St → Prop} {s : St} : blockQ i Q (.exit j) s = if j = i then Q .normal s else Q (.exit j) s := nrfl rfl
end
attribute [go_sem] opt_s or_s or_n pl_n pl_c cells_s map_s nt_0 nt_s ld_one ld_agg win_s win_0 win_z spl_s spl_0 hg_0 hg_s hs_0 hs_s hs_n co_int co_bool co_psl co_agg co_osl co_map co_fn cp_int cp_bool cp_nils cp_nilm cp_nilf cp_psl cp_pptr cp_fn st_alloc st_box st_build st_buildSlice la_ptr la_pptr st_load sa_ptr sb_s st_store na_ptr st_nil fa_ptr fa_pptr st_fieldAddr ag_s st_field in_s sl_psl sl_osl ar_ptr st_indexAddr st_index tu_s st_extract st_makeFunc st_makeMap mk_s st_makeSlice cut_nh cut_ln st_slice cv_i64 st_convert pas_n pas_c pa_agg pa_int pa_bool pa_psl pa_pptr pa_fn ca_fn st_call le_psl le_osl st_len mm_max mm_min st_max st_min ap_nil ap_osl ap_psle ab_s st_append rq_r rk_n rk_t cl_ptr rk_c os_n os_c ol_n ol_c oa_agg oa_int oa_bool oa_nils oa_psl o1_int o1_psl oa_osl oslA_s o1_osl fi_1 fi_2 then_n then_r then_e block_n block_r block_e fills afill
end Go.Am

/- The abstract machine Am, part T: a block that is changed no more (freeze); nil as a list of one's own (adopt). -/
namespace Go.Am
open Go.RowKit
/-- What stands for a value when the block b is changed no more. -/
def fz0 (b g : Nat) (xs : List AV) : AV → AV
  | .ptr b' g' off => if b' = b then (if g' = g then .pptr xs off else .junk) else .ptr b' g' off
  | .osl b' g' off len => if b' = b then (if g' = g then (if off = 0 then .psl false len xs else .junk) else .junk) else .osl b' g' off len
  | .fn (.func f) [] [] => .fn (.func f) [] []
  | .fn _ _ _ => .junk
  | .agg _ => .junk
  | .tup _ => .junk
  | .oslc b' g' off len cap => if b' = b then .junk else .oslc b' g' off len cap
  | .map b' => if b' = b then .junk else .map b'
  | x => x
def fzl (f : AV → AV) : List AV → List AV
  | [] => []
  | x :: xs => f x :: fzl f xs
def fz1 (b g : Nat) (xs : List AV) : AV → AV
  | .agg ys => .agg (fzl (fz0 b g xs) ys)
  | .fn (.func f) us vs => .fn (.func f) (fzl (fz0 b g xs) us) (fzl (fz0 b g xs) vs)
  | .fn (.yield c) [] [] => if c = b then .junk else .fn (.yield c) [] []
  | x => fz0 b g xs x
def fz2 (b g : Nat) (xs : List AV) : AV → AV
  | .agg ys => .agg (fzl (fz1 b g xs) ys)
  | .tup ys => .tup (fzl (fz1 b g xs) ys)
  | .fn (.func f) us vs => .fn (.func f) (fzl (fz1 b g xs) us) (fzl (fz1 b g xs) vs)
  | x => fz1 b g xs x
def fzB (b g : Nat) (xs : List AV) : ABlk → ABlk
  | .cells t sz g' ys => .cells t sz g' (fzl (fz2 b g xs) ys)
  | .map es => .map (es.map fun e => (fz2 b g xs e.1, fz2 b g xs e.2))
  | .dfr o => .dfr o
  | .loop st pend fn T ps asg body d => .loop st pend fn (fzl (fz2 b g xs) T) ps asg body d
def fzO (b g : Nat) (xs : List AV) : Option ABlk → Option ABlk
  | none => none
  | some k => some (fzB b g xs k)
def fzHs (b g : Nat) (xs : List AV) : List (Option ABlk) → List (Option ABlk)
  | [] => []
  | k :: l => fzO b g xs k :: fzHs b g xs l
/-- i: how far b still is. -/
def fzH (b g : Nat) (xs : List AV) : Nat → List (Option ABlk) → List (Option ABlk)
  | _, [] => []
  | 0, _ :: l => none :: fzHs b g xs l
  | i + 1, k :: l => fzO b g xs k :: fzH b g xs i l
def frz (b g : Nat) (xs : List AV) (s : St) : St := ⟨fzl (fz2 b g xs) s.T, fzH b g xs b s.H, s.D⟩
theorem fzl_len (f : AV → AV) : ∀ l : List AV, (fzl f l).length = l.length
  | [] => rfl
  | _ :: l => by simp [fzl, fzl_len f l]
theorem fzl_get (f : AV → AV) : ∀ (l : List AV) (j : Nat) (h : j < (fzl f l).length) (h' : j < l.length), (fzl f l)[j] = f l[j]
  | [], _, h, _ => by simp [fzl] at h
  | x :: l, 0, _, _ => rfl
  | x :: l, j + 1, h, h' => by simpa [fzl] using fzl_get f l j (by simpa [fzl] using h) (by simpa using h')
theorem fzl_lget {f : AV → AV} (hf : f .junk = .junk) : ∀ (l : List AV) (j : Nat), lget (fzl f l) j = f (lget l j)
  | [], _ => by simp [fzl, lget, hf]
  | x :: l, 0 => rfl
  | x :: l, j + 1 => by simpa [fzl, lget] using fzl_lget hf l j
theorem fzHs_get (b g : Nat) (xs : List AV) : ∀ (l : List (Option ABlk)) (c : Nat), hget (fzHs b g xs l) c = fzO b g xs (hget l c)
  | [], _ => rfl
  | k :: l, 0 => rfl
  | k :: l, c + 1 => by simpa [fzHs, hget] using fzHs_get b g xs l c
theorem fzH_get (b g : Nat) (xs : List AV) : ∀ (i : Nat) (l : List (Option ABlk)) (c : Nat), hget (fzH b g xs i l) c = if c = i then none else fzO b g xs (hget l c)
  | i, [], c => by simp [fzH, hget, fzO]
  | 0, k :: l, 0 => by simp [fzH, hget]
  | 0, k :: l, c + 1 => by simp [fzH, hget, fzHs_get]
  | i + 1, k :: l, 0 => by simp [fzH, hget]
  | i + 1, k :: l, c + 1 => by simp [fzH, hget, fzH_get b g xs i l c]
variable [Base]
section
variable {w0 : World} {h h' : Nat → Option ABlk} {m : Nat → Option Loc} {w : World} {b g : Nat} {t : TypeId} {sz : Nat} {xs : List AV}
def notb (b : Nat) (c : Nat) : Bool := !(c == b)
omit [Base] in
theorem notb_ne {c : Nat} (hc : c ≠ b) : notb b c = true := by simp [notb, hc]
omit [Base] in
theorem notb_self : notb b b = false := by simp [notb]
theorem ok_frz (hg : Good w0 h m w) {l : Loc} (hl : m b = some l) : Ok (killM m (notb b)) w l.c := by
  refine ⟨hg.lt hl, fun b' l' hb' => ?_, hg.fresh _ (.inl ⟨b, l, hl, rfl⟩)⟩
  unfold killM at hb'
  split at hb'
  · rename_i hn
    intro e
    have := hg.inj b' b l' l hb' hl e
    subst this
    rw [notb_self] at hn; cases hn
  · cases hb'
structure FzH (h h' : Nat → Option ABlk) (b g : Nat) (xs : List AV) : Prop where
  self : h' b = none
  other : ∀ c, c ≠ b → h' c = fzO b g xs (h c)
omit [Base] in
theorem FzH.cells {h h' : Nat → Option ABlk} (z : FzH h h' b g xs) {c : Nat} (hc : c ≠ b) {t' : TypeId} {sz' g' : Nat} {ys : List AV} (hb : h c = some (.cells t' sz' g' ys)) : h' c = some (.cells t' sz' g' (fzl (fz2 b g xs) ys)) := by
  rw [z.other c hc, hb]; rfl
theorem rep_fz0 {x : AV} {v : Value} (hg : Good w0 h m w) (z : FzH h h' b g xs) (hb : h b = some (.cells t sz g xs)) (hp : ∀ y ∈ xs, cellPure y = true) (r : Rep h m w x v) : Rep h' (killM m (notb b)) w (fz0 b g xs x) v := by
  have km : ∀ c, c ≠ b → killM m (notb b) c = m c := fun c hc => by simp [killM, notb_ne hc]
  have pure : PRep (Ok m w) w x v → Rep h' (killM m (notb b)) w x v := fun p => .pure (p.mono (fun _ _ => rfl) (fun _ hc => ok_kill hc))
  cases x
  case ptr b' g' off =>
    simp only [fz0]
    split
    · rename_i e; subst e
      split
      · rename_i e; subst e
        obtain ⟨l, hl, rfl⟩ := rep_ptr r hb
        obtain ⟨arr, h1, h2, h3, vs, h4, h5, h6⟩ := blk_cells hg hb hl
        have := PRep.pptr (ok := Ok (killM m (notb b')) w) (w := w) (xs := xs) (i := off) (c := l.c) (o := 0) vs (ok_frz hg hl) h5 (fun j hj => (prep_pure (h6 j hj) (hp _ (List.getElem_mem _))).mono (fun _ _ => rfl) (fun _ hc => ok_kill hc))
        rw [Nat.zero_add] at this
        exact .pure this
      · exact .junk _
    · rename_i hne
      cases r with
      | pure p => cases p
      | ptr hb' hg' ho hv => exact .ptr (z.cells hne hb') hg' ho (fun e => by rw [km _ hne]; exact hv e)
  case osl b' g' off len =>
    simp only [fz0]
    split
    · rename_i e; subst e
      split
      · rename_i e; subst e
        split
        · rename_i e; subst e
          refine .pure (osl_prep hg hb hp r (ok := Ok (killM m (notb b')) w) (fun c hc => ok_kill hc) (fun l hl => ok_frz (b := b') hg hl)).1
        · exact .junk _
      · exact .junk _
    · rename_i hne
      cases r with
      | pure p => cases p
      | osl hb' hg' ho hv => exact .osl (z.cells hne hb') hg' ho (fun e => by rw [km _ hne]; exact hv e)
  case oslc b' g' off len cap =>
    simp only [fz0]
    split
    · exact .junk _
    · rename_i hne
      cases r with
      | pure p => cases p
      | oslc hb' hg' ho hv => exact .oslc (z.cells hne hb') hg' ho (fun e => by rw [km _ hne]; exact hv e)
  case map b' =>
    simp only [fz0]
    split
    · exact .junk _
    · rename_i hne
      cases r with
      | pure p => cases p
      | map hb' hm => exact .map (by rw [z.other _ hne, hb']; rfl) (by rw [km _ hne]; exact hm)
  case fn f us vs =>
    cases f
    case func f =>
      cases us with
      | cons => exact .junk _
      | nil =>
        cases vs with
        | cons => exact .junk _
        | nil =>
          cases r with
          | pure p => exact .pure (p.mono (fun _ _ => rfl) (fun _ hc => ok_kill hc))
          | fn us' vs' hf h1 h2 r1 r2 => exact .fn us' vs' hf h1 h2 (fun j a => by simp at a) (fun j a => by simp at a)
    all_goals exact .junk _
  case agg => exact .junk _
  case tup => exact .junk _
  case junk => exact .junk _
  all_goals exact pure (by cases r with | pure p => exact p)
theorem rep_fz1 {x : AV} {v : Value} (hg : Good w0 h m w) (z : FzH h h' b g xs) (hb : h b = some (.cells t sz g xs)) (hp : ∀ y ∈ xs, cellPure y = true) (r : Rep h m w x v) : Rep h' (killM m (notb b)) w (fz1 b g xs x) v := by
  have lst : ∀ {ys : List AV} {us : List Value}, (∀ j (a : j < ys.length) (c : j < us.length), Rep h m w ys[j] us[j]) → ∀ j (a : j < (fzl (fz0 b g xs) ys).length) (c : j < us.length), Rep h' (killM m (notb b)) w (fzl (fz0 b g xs) ys)[j] us[j] := by
    intro ys us hr j a c
    rw [fzl_get _ _ _ _ (by rw [fzl_len] at a; exact a)]
    exact rep_fz0 hg z hb hp (hr j _ c)
  cases x
  case agg ys =>
    obtain ⟨us, rfl, h1, ho, r1⟩ := rep_agg r
    exact .agg us (by rw [fzl_len]; exact h1) ho (lst r1)
  case fn f us vs =>
    cases f
    case func f =>
      simp only [fz1]
      cases r with
      | pure p => cases p with | fn us' vs' hf h1 h2 r1 r2 => exact .fn us' vs' hf (by rw [fzl_len]; exact h1) (by rw [fzl_len]; exact h2) (lst fun j a c => .pure (r1 j a c)) (lst fun j a c => .pure (r2 j a c))
      | fn us' vs' hf h1 h2 r1 r2 => exact .fn us' vs' hf (by rw [fzl_len]; exact h1) (by rw [fzl_len]; exact h2) (lst r1) (lst r2)
    case yield c =>
      cases us with
      | cons => exact rep_fz0 hg z hb hp r
      | nil =>
        cases vs with
        | cons => exact rep_fz0 hg z hb hp r
        | nil =>
          simp only [fz1]
          split
          · exact .junk _
          · rename_i hne
            cases r with
            | pure p => cases p with | fn us' vs' hf _ _ _ _ => exact absurd rfl (hf c)
            | yld hb' hk hm => exact .yld (by rw [z.other _ hne, hb']; rfl) (by rename_i k _; cases k <;> first | rfl | cases hk) (by simp [killM, notb_ne hne, hm])
            | fn us' vs' hf _ _ _ _ => exact absurd rfl (hf c)
    all_goals exact rep_fz0 hg z hb hp r
  all_goals exact rep_fz0 hg z hb hp r
theorem rep_fz2 {x : AV} {v : Value} (hg : Good w0 h m w) (z : FzH h h' b g xs) (hb : h b = some (.cells t sz g xs)) (hp : ∀ y ∈ xs, cellPure y = true) (r : Rep h m w x v) : Rep h' (killM m (notb b)) w (fz2 b g xs x) v := by
  have lst : ∀ {ys : List AV} {us : List Value}, (∀ j (a : j < ys.length) (c : j < us.length), Rep h m w ys[j] us[j]) → ∀ j (a : j < (fzl (fz1 b g xs) ys).length) (c : j < us.length), Rep h' (killM m (notb b)) w (fzl (fz1 b g xs) ys)[j] us[j] := by
    intro ys us hr j a c
    rw [fzl_get _ _ _ _ (by rw [fzl_len] at a; exact a)]
    exact rep_fz1 hg z hb hp (hr j _ c)
  cases x
  case agg ys =>
    obtain ⟨us, rfl, h1, ho, r1⟩ := rep_agg r
    exact .agg us (by rw [fzl_len]; exact h1) ho (lst r1)
  case tup ys =>
    simp only [fz2]
    cases r with
    | pure p => cases p with | tup us h1 r1 => exact .tup us (by rw [fzl_len]; exact h1) (lst fun j a c => .pure (r1 j a c))
    | tup us h1 r1 => exact .tup us (by rw [fzl_len]; exact h1) (lst r1)
  case fn f us vs =>
    cases f
    case func f =>
      simp only [fz2]
      cases r with
      | pure p => cases p with | fn us' vs' hf h1 h2 r1 r2 => exact .fn us' vs' hf (by rw [fzl_len]; exact h1) (by rw [fzl_len]; exact h2) (lst fun j a c => .pure (r1 j a c)) (lst fun j a c => .pure (r2 j a c))
      | fn us' vs' hf h1 h2 r1 r2 => exact .fn us' vs' hf (by rw [fzl_len]; exact h1) (by rw [fzl_len]; exact h2) (lst r1) (lst r2)
    all_goals exact rep_fz1 hg z hb hp r
  all_goals exact rep_fz1 hg z hb hp r
theorem good_frz (hg : Good w0 h m w) (z : FzH h h' b g xs) (hb : h b = some (.cells t sz g xs)) (hp : ∀ y ∈ xs, cellPure y = true) : Good w0 h' (killM m (notb b)) w := by
  have hmk : ∀ c l, killM m (notb b) c = some l → c ≠ b ∧ m c = some l := by
    intro c l hc
    unfold killM at hc
    split at hc
    · rename_i hn
      refine ⟨fun e => ?_, hc⟩
      subst e; rw [notb_self] at hn; cases hn
    · cases hc
  have km : ∀ c, c ≠ b → killM m (notb b) c = m c := fun c hc => by simp [killM, notb_ne hc]
  refine ⟨hg.below, fun c l hc => hg.base c l (hmk c l hc).2, fun c c' l l' hc hc' e => hg.inj c c' l l' (hmk c l hc).2 (hmk c' l' hc').2 e, fun c l hc => ?_, fun c k hk => ?_, fun c st pend fn T ps asg body d hk => ?_, fun c hc => hg.fresh c (hc.imp (fun ⟨b, l, h1, h2⟩ => ⟨b, l, (hmk b l h1).2, h2⟩) id)⟩
  · obtain ⟨h1, h2⟩ := hmk c l hc
    obtain ⟨k, hk⟩ := hg.supp c l h2
    exact ⟨_, by rw [z.other c h1, hk]; rfl⟩
  · have hne : c ≠ b := by rintro rfl; rw [z.self] at hk; cases hk
    rw [z.other c hne] at hk
    cases hc : h c with
    | none => rw [hc] at hk; cases hk
    | some k0 =>
      rw [hc] at hk
      simp only [fzO, Option.some.injEq] at hk
      subst hk
      have old := hg.blk c k0 hc
      cases k0 with
      | cells t' sz' g' ys =>
        rcases old with ⟨h1, h2⟩ | ⟨l, arr, h1, h2, h3, h4, h5⟩
        · subst h2; exact .inl ⟨(km c hne).trans h1, rfl⟩
        · refine .inr ⟨l, arr, (km c hne).trans h1, h2, h3, by rw [fzl_len]; exact h4, fun j hj => ?_⟩
          have hj' : j < ys.length := by rw [fzl_len] at hj; exact hj
          obtain ⟨v, hv, ho, hr⟩ := h5 j hj'
          exact ⟨v, hv, ho, by rw [fzl_get _ _ _ _ hj']; exact rep_fz2 hg z hb hp hr⟩
      | map es =>
        obtain ⟨l, arr, clk, h1, h2, h3, h4⟩ := old
        refine ⟨l, arr, clk, (km c hne).trans h1, h2, by simpa using h3, fun j hj => ?_⟩
        obtain ⟨e, he, hk1, hv1⟩ := h4 j (by simpa using hj)
        exact ⟨e, he, by simpa using rep_fz2 hg z hb hp hk1, by simpa using rep_fz2 hg z hb hp hv1⟩
      | dfr o => obtain ⟨l, h1, h2⟩ := old; exact ⟨l, (km c hne).trans h1, h2⟩
      | loop st pend fn T ps asg body d =>
        obtain ⟨l, r', ld, h1, h2, a1, a2, a3, a4, a5, a6, a7, a8, a9, a10⟩ := old
        obtain ⟨o, hd⟩ := hg.dloop c _ _ _ _ _ _ _ _ hc
        have hdne : d ≠ b := by rintro rfl; rw [hb] at hd; cases hd
        refine ⟨l, r', ld, (km c hne).trans h1, h2, a1, a2, a3, a4, a5, a6, (km d hdne).trans a7, a8, by rw [fzl_len]; exact a9, fun j hj => ?_⟩
        have hj' : j < T.length := by rw [fzl_len] at hj; exact hj
        obtain ⟨v, hv, hr⟩ := a10 j hj'
        exact ⟨v, hv, by rw [fzl_get _ _ _ _ hj']; exact rep_fz2 hg z hb hp hr⟩
  · have hne : c ≠ b := by rintro rfl; rw [z.self] at hk; cases hk
    rw [z.other c hne] at hk
    cases hc : h c with
    | none => rw [hc] at hk; cases hk
    | some k0 =>
      rw [hc] at hk
      simp only [fzO, Option.some.injEq] at hk
      cases k0 <;> simp only [fzB] at hk <;> cases hk
      obtain ⟨o, hd⟩ := hg.dloop c _ _ _ _ _ _ _ _ hc
      have hdne : d ≠ b := by rintro rfl; rw [hb] at hd; cases hd
      exact ⟨o, by rw [z.other d hdne, hd]; rfl⟩
theorem SatC.frz {X : Ctx} {s : St} {a : Act} (hs : SatC w0 X s a w) (hb : hget s.H b = some (.cells t sz g xs)) (hp : ∀ y ∈ xs, cellPure y = true) (hX : ∀ c, X.Z c = none) : SatC w0 X (frz b g xs s) a w := by
  obtain ⟨ex, hex, m, hs, hx⟩ := hs
  have z : FzH (hget s.H) (hget (fzH b g xs b s.H)) b g xs := ⟨by rw [fzH_get]; simp, fun c hc => by rw [fzH_get]; simp [hc]⟩
  refine ⟨ex, hex, killM m (notb b), ⟨good_frz hs.good z hb hp, by rw [hs.size]; exact (fzl_len _ _).symm, fun j hj => ?_, ⟨hs.roots.1, fun c hc => let ⟨b1, b2, b3⟩ := hs.roots.2 c hc; ⟨b1, un_kill b2, b3⟩⟩, ?_⟩, fun c hc => ⟨(hx.ok c hc).1, un_kill (hx.ok c hc).2⟩, ?_, ?_, ?_, ?_⟩
  · obtain ⟨v, hv, hr⟩ := hs.tmps j (by simpa [Go.Am.frz, fzl_len] using hj)
    refine ⟨v, hv, ?_⟩
    simp only [Go.Am.frz]
    rw [fzl_lget rfl]
    exact rep_fz2 hs.good z hb hp hr
  · obtain ⟨ls, a1, a2, a3⟩ := hs.marks
    refine ⟨ls, a1, fun j x y => ?_, a3⟩
    obtain ⟨b1, o, b2⟩ := a2 j x y
    have hne : s.D[j] ≠ b := by intro e; rw [e, hb] at b2; cases b2
    refine ⟨?_, o, ?_⟩
    · show killM m (notb b) s.D[j] = _
      unfold killM
      rw [notb_ne hne]; exact b1
    · show hget (fzH b g xs b s.H) s.D[j] = _
      rw [z.other _ hne, b2]; rfl
  · intro c t sz g xs hc; rw [hX c] at hc; cases hc
  · intro c es hc; rw [hX c] at hc; cases hc
  · intro c o hc; rw [hX c] at hc; cases hc
  · intro c st pend fn T ps asg body d hc; rw [hX c] at hc; cases hc
/-- FREEZE: from here on the block b is changed no more. -/
theorem awp_frz {P : Program} {r : Option Nat} {X : Ctx} {c : Code} {s : St} {Q : Exit → St → Prop} (b : Nat) {t : TypeId} {sz g : Nat} {xs : List AV} (hb : hget s.H b = some (.cells t sz g xs)) (hp : pureL xs) (hX : ∀ c, X.Z c = none)
    (h : AWP P w0 r X c (frz b g xs s) Q) : AWP P w0 r X c s Q :=
  fun a w hs => h a w (hs.frz hb hp hX)
end
end Go.Am

/- The abstract machine Am, part U: nil as a list of one's own (adopt); statements joined. -/
namespace Go.Am
open Go.RowKit
variable [Base]
section
variable {w0 : World} {h : Nat → Option ABlk} {m : Nat → Option Loc} {w : World} {n : Nat} {e : TypeId} {sz : Nat}
omit [Base] in
theorem ext_virt (hn : h n = none) : Ext h m w (upd h n (some (.cells e sz 0 []))) m w := by
  have keep : ∀ c k, h c = some k → upd h n (some (.cells e sz 0 [])) c = some k := by
    intro c k hc
    rw [upd_ne]
    · exact hc
    · rintro rfl; rw [hn] at hc; cases hc
  exact ⟨fun c hc => ⟨rfl, hc⟩, fun b t s g xs hb => ⟨g, xs, keep _ _ hb, Nat.le_refl _, fun _ => rfl⟩, fun b es hb => ⟨⟨es, keep _ _ hb⟩, rfl⟩, fun b o hb => ⟨⟨o, keep _ _ hb⟩, rfl⟩,
    fun b st pend fn T ps asg body d hb => ⟨⟨st, pend, keep _ _ hb⟩, rfl⟩⟩
theorem none_virt (hg : Good w0 h m w) (hn : h n = none) : m n = none := by
  cases hm : m n with
  | none => rfl
  | some l => obtain ⟨k, hk⟩ := hg.supp n l hm; rw [hn] at hk; cases hk
theorem good_virt2 (hg : Good w0 h m w) (hn : h n = none) : Good w0 (upd h n (some (.cells e sz 0 []))) m w := by
  have ex : Ext h m w (upd h n (some (.cells e sz 0 []))) m w := ext_virt hn
  refine ⟨hg.below, hg.base, hg.inj, fun b l hb => ?_, fun b k hk => ?_, fun b st pend fn T ps asg body d hb => ?_, hg.fresh⟩
  · obtain ⟨k, hk⟩ := hg.supp b l hb
    by_cases e : b = n
    · subst e; exact ⟨_, upd_same _ _ _⟩
    · exact ⟨k, by rw [upd_ne _ _ e]; exact hk⟩
  · by_cases e : b = n
    · subst e
      rw [upd_same] at hk; cases hk
      exact .inl ⟨none_virt hg hn, rfl⟩
    · rw [upd_ne _ _ e] at hk
      have old := hg.blk b k hk
      cases k with
      | cells t' sz' g' ys =>
        rcases old with h1 | ⟨l, arr, h1, h2, h3, h4, h5⟩
        · exact .inl h1
        · exact .inr ⟨l, arr, h1, h2, h3, h4, fun j hj => let ⟨v, hv, ho, hr⟩ := h5 j hj; ⟨v, hv, ho, hr.ext ex⟩⟩
      | map es =>
        obtain ⟨l, arr, clk, h1, h2, h3, h4⟩ := old
        exact ⟨l, arr, clk, h1, h2, h3, fun j hj => let ⟨e, he, hk1, hv1⟩ := h4 j hj; ⟨e, he, hk1.ext ex, hv1.ext ex⟩⟩
      | dfr o => exact old
      | loop st pend fn T ps asg body d =>
        obtain ⟨l, r', ld, h1, h2, a1, a2, a3, a4, a5, a6, a7, a8, a9, a10⟩ := old
        exact ⟨l, r', ld, h1, h2, a1, a2, a3, a4, a5, a6, a7, a8, a9, fun j hj => let ⟨v, hv, hr⟩ := a10 j hj; ⟨v, hv, hr.ext ex⟩⟩
  · by_cases e : b = n
    · subst e; rw [upd_same] at hb; cases hb
    · rw [upd_ne _ _ e] at hb
      obtain ⟨o, ho⟩ := hg.dloop _ _ _ _ _ _ _ _ _ hb
      refine ⟨o, ?_⟩
      rw [upd_ne]
      · exact ho
      · rintro rfl; rw [hn] at ho; cases ho
omit [Base] in
theorem lget_lset : ∀ (T : List AV) (i : Nat) (v : AV) (j : Nat), lget (lset T i v) j = if j = i ∧ i < T.length then v else lget T j
  | [], i, v, j => by simp [lset, lget]
  | x :: T, 0, v, 0 => by simp [lset, lget]
  | x :: T, 0, v, j + 1 => by simp [lset, lget]
  | x :: T, i + 1, v, 0 => by simp [lset, lget]
  | x :: T, i + 1, v, j + 1 => by simp [lset, lget, lget_lset T i v j]
omit [Base] in
theorem getElem_lget : ∀ (l : List AV) (j : Nat) (h : j < l.length), l[j] = lget l j
  | [], _, h => by simp at h
  | x :: l, 0, _ => rfl
  | x :: l, j + 1, h => by simpa [lget] using getElem_lget l j (by simpa using h)
/-- nil, where a list of one's own will grow. -/
def adT (j : Nat) (e : TypeId) (sz : Nat) (s : St) : St := ⟨lset s.T j (.osl s.H.length 0 0 0), hset s.H s.H.length (.cells e sz 0 []), s.D⟩
omit [Base] in
theorem hget_ge : ∀ (H : List (Option ABlk)) (c : Nat), H.length ≤ c → hget H c = none
  | [], _, _ => rfl
  | _ :: H, 0, h => by simp at h
  | _ :: H, c + 1, h => by simpa [hget] using hget_ge H c (by simpa using h)
theorem SatC.adT {X : Ctx} {s : St} {a : Act} (j : Nat) (e : TypeId) (sz : Nat) (hs : SatC w0 X s a w) (hj : lget s.T j = .nils) : SatC w0 X (adT j e sz s) a w := by
  obtain ⟨hid, hhid, m, hs, hx⟩ := hs
  have hn := hget_ge s.H s.H.length (Nat.le_refl _)
  have ex : Ext (hget s.H) m w (upd (hget s.H) s.H.length (some (.cells e sz 0 []))) m w := ext_virt hn
  have hh : hget (hset s.H s.H.length (.cells e sz 0 [])) = upd (hget s.H) s.H.length (some (.cells e sz 0 [])) := hget_seto s.H (some (s.H.length, .cells e sz 0 []))
  refine ⟨hid, hhid, m, ?_⟩
  simp only [Go.Am.adT]
  rw [hh]
  refine ⟨⟨good_virt2 hs.good hn, by rw [hs.size, lset_length], fun i hi => ?_, hs.roots.ext ex, ?_⟩, hx.trans ex⟩
  · rw [lset_length] at hi
    obtain ⟨v, hv, hr⟩ := hs.tmps i hi
    refine ⟨v, hv, ?_⟩
    rw [lget_lset]
    split
    · rename_i hij
      obtain ⟨rfl, _⟩ := hij
      rw [hj] at hr
      rw [rep_nils hr]
      exact .osl (upd_same _ _ _) (Nat.le_refl _) rfl (fun _ => .inl ⟨none_virt hs.good hn, rfl, rfl, rfl⟩)
    · exact hr.ext ex
  · obtain ⟨ls, a1, a2, a3⟩ := hs.marks
    refine ⟨ls, a1, fun j x y => ?_, a3⟩
    obtain ⟨b1, o, b2⟩ := a2 j x y
    obtain ⟨⟨o', b3⟩, b4⟩ := ex.dfr _ _ b2
    exact ⟨b1, o', b3⟩
theorem awp_adT {P : Program} {r : Option Nat} {X : Ctx} {c : Code} {s : St} {Q : Exit → St → Prop} (j : Nat) (e : TypeId) (sz : Nat) (hj : lget s.T j = .nils) (h : AWP P w0 r X c (adT j e sz s) Q) : AWP P w0 r X c s Q :=
  fun a w hs => h a w (hs.adT j e sz hj)
/-- Likewise in a cell of a block. -/
def adH (b i : Nat) (e : TypeId) (sz : Nat) (s : St) : St :=
  match hget s.H b with
  | some (.cells t z g xs) => ⟨s.T, hset (hset s.H s.H.length (.cells e sz 0 [])) b (.cells t z g (lset xs i (.osl s.H.length 0 0 0))), s.D⟩
  | _ => s
theorem SatC.adH {X : Ctx} {s : St} {a : Act} (b i : Nat) (e : TypeId) (sz : Nat) (hs : SatC w0 X s a w) {t : TypeId} {z g : Nat} {xs : List AV} (hb : hget s.H b = some (.cells t z g xs)) (hi : nth xs i = some .nils) : SatC w0 X (adH b i e sz s) a w := by
  obtain ⟨hid, hhid, m, hs, hx⟩ := hs
  have hn := hget_ge s.H s.H.length (Nat.le_refl _)
  have ex1 : Ext (hget s.H) m w (upd (hget s.H) s.H.length (some (.cells e sz 0 []))) m w := ext_virt hn
  have g1 : Good w0 (upd (hget s.H) s.H.length (some (.cells e sz 0 []))) m w := good_virt2 hs.good hn
  have hbn : b ≠ s.H.length := by rintro rfl; rw [hn] at hb; cases hb
  have hh : hget (hset (hset s.H s.H.length (.cells e sz 0 [])) b (.cells t z g (lset xs i (.osl s.H.length 0 0 0)))) = upd (upd (hget s.H) s.H.length (some (.cells e sz 0 []))) b (some (.cells t z g (lset xs i (.osl s.H.length 0 0 0)))) := by
    have h1 : hget (hset s.H s.H.length (.cells e sz 0 [])) = upd (hget s.H) s.H.length (some (.cells e sz 0 [])) := hget_seto s.H (some (s.H.length, .cells e sz 0 []))
    have h2 := hget_seto (hset s.H s.H.length (.cells e sz 0 [])) (some (b, .cells t z g (lset xs i (.osl s.H.length 0 0 0))))
    rw [show hget (hset (hset s.H s.H.length (.cells e sz 0 [])) b (.cells t z g (lset xs i (.osl s.H.length 0 0 0)))) = _ from h2, h1]
    rfl
  have hb1 : upd (hget s.H) s.H.length (some (.cells e sz 0 [])) b = some (.cells t z g xs) := by rw [upd_ne _ _ hbn]; exact hb
  have ex2 : Ext (upd (hget s.H) s.H.length (some (.cells e sz 0 []))) m w (upd (upd (hget s.H) s.H.length (some (.cells e sz 0 []))) b (some (.cells t z g (lset xs i (.osl s.H.length 0 0 0))))) m w := by
    have keep : ∀ c k, c ≠ b → upd (hget s.H) s.H.length (some (.cells e sz 0 [])) c = some k → upd (upd (hget s.H) s.H.length (some (.cells e sz 0 []))) b (some (.cells t z g (lset xs i (.osl s.H.length 0 0 0)))) c = some k := fun c k hc hk => by rw [upd_ne _ _ hc]; exact hk
    refine ⟨fun c hc => ⟨rfl, hc⟩, fun c t' z' g' ys hc => ?_, fun c es hc => ⟨⟨es, keep c _ (by rintro rfl; rw [hb1] at hc; cases hc) hc⟩, rfl⟩, fun c o hc => ⟨⟨o, keep c _ (by rintro rfl; rw [hb1] at hc; cases hc) hc⟩, rfl⟩,
      fun c st pend fn T ps asg body d hc => ⟨⟨st, pend, keep c _ (by rintro rfl; rw [hb1] at hc; cases hc) hc⟩, rfl⟩⟩
    by_cases hcb : c = b
    · subst hcb
      rw [hb1] at hc; cases hc
      exact ⟨_, _, upd_same _ _ _, Nat.le_refl _, fun _ => rfl⟩
    · exact ⟨g', ys, keep c _ hcb hc, Nat.le_refl _, fun _ => rfl⟩
  have ex := ex1.trans ex2
  have hxi : i < xs.length ∧ lget xs i = .nils := by
    rw [← nth_is] at hi
    obtain ⟨h1, h2⟩ := List.getElem?_eq_some_iff.1 hi
    refine ⟨h1, ?_⟩
    rw [← getElem_lget _ _ h1, h2]
  have e0 : Go.Am.adH b i e sz s = ⟨s.T, hset (hset s.H s.H.length (.cells e sz 0 [])) b (.cells t z g (lset xs i (.osl s.H.length 0 0 0))), s.D⟩ := by simp only [Go.Am.adH, hb]
  rw [e0]
  refine ⟨hid, hhid, m, ?_⟩
  simp only
  rw [hh]
  refine ⟨⟨?_, hs.size, fun j hj => let ⟨v, hv, hr⟩ := hs.tmps j hj; ⟨v, hv, hr.ext ex⟩, hs.roots.ext ex, ?_⟩, hx.trans ex⟩
  · refine ⟨g1.below, g1.base, g1.inj, fun c l hc => ?_, fun c k hk => ?_, fun c st pend fn T ps asg body d hc => ?_, g1.fresh⟩
    · by_cases hcb : c = b
      · subst hcb; exact ⟨_, upd_same _ _ _⟩
      · rw [upd_ne _ _ hcb]; exact g1.supp c l hc
    · by_cases hcb : c = b
      · subst hcb
        rw [upd_same] at hk; cases hk
        rcases g1.blk c _ hb1 with ⟨h1, h2⟩ | ⟨l, arr, h1, h2, h3, h4, h5⟩
        · rw [h2] at hxi; simp at hxi
        · refine .inr ⟨l, arr, h1, h2, h3, by rw [lset_length]; exact h4, fun j hj => ?_⟩
          rw [lset_length] at hj
          obtain ⟨v, hv, ho, hr⟩ := h5 j hj
          refine ⟨v, hv, ho, ?_⟩
          have hgj : (lset xs i (.osl s.H.length 0 0 0))[j]'(by rw [lset_length]; exact hj) = lget (lset xs i (.osl s.H.length 0 0 0)) j := by
            exact getElem_lget _ _ _
          rw [hgj, lget_lset]
          split
          · rename_i hij
            obtain ⟨rfl, _⟩ := hij
            have hxj : xs[j] = .nils := (getElem_lget _ _ _).trans hxi.2
            rw [hxj] at hr
            rw [rep_nils hr]
            exact .osl (by rw [upd_ne _ _ (Ne.symm hbn)]; exact upd_same _ _ _) (Nat.le_refl _) rfl (fun _ => .inl ⟨none_virt hs.good hn, rfl, rfl, rfl⟩)
          · rw [← getElem_lget _ _ hj]
            exact hr.ext ex2
      · rw [upd_ne _ _ hcb] at hk
        have old := g1.blk c k hk
        cases k with
        | cells t' sz' g' ys =>
          rcases old with h1 | ⟨l, arr, h1, h2, h3, h4, h5⟩
          · exact .inl h1
          · exact .inr ⟨l, arr, h1, h2, h3, h4, fun j hj => let ⟨v, hv, ho, hr⟩ := h5 j hj; ⟨v, hv, ho, hr.ext ex2⟩⟩
        | map es =>
          obtain ⟨l, arr, clk, h1, h2, h3, h4⟩ := old
          exact ⟨l, arr, clk, h1, h2, h3, fun j hj => let ⟨e, he, hk1, hv1⟩ := h4 j hj; ⟨e, he, hk1.ext ex2, hv1.ext ex2⟩⟩
        | dfr o => exact old
        | loop st pend fn T ps asg body d =>
          obtain ⟨l, r', ld, h1, h2, a1, a2, a3, a4, a5, a6, a7, a8, a9, a10⟩ := old
          exact ⟨l, r', ld, h1, h2, a1, a2, a3, a4, a5, a6, a7, a8, a9, fun j hj => let ⟨v, hv, hr⟩ := a10 j hj; ⟨v, hv, hr.ext ex2⟩⟩
    · have hcb : c ≠ b := by rintro rfl; rw [upd_same] at hc; cases hc
      rw [upd_ne _ _ hcb] at hc
      obtain ⟨o, ho⟩ := g1.dloop _ _ _ _ _ _ _ _ _ hc
      obtain ⟨⟨o', h1⟩, _⟩ := ex2.dfr _ _ ho
      exact ⟨o', h1⟩
  · obtain ⟨ls, a1, a2, a3⟩ := hs.marks
    refine ⟨ls, a1, fun j x y => ?_, a3⟩
    obtain ⟨b1, o, b2⟩ := a2 j x y
    obtain ⟨⟨o', b3⟩, b4⟩ := ex.dfr _ _ b2
    exact ⟨b1, o', b3⟩
theorem awp_adH {P : Program} {r : Option Nat} {X : Ctx} {c : Code} {s : St} {Q : Exit → St → Prop} (b i : Nat) (e : TypeId) (sz : Nat) {t : TypeId} {z g : Nat} {xs : List AV} (hb : hget s.H b = some (.cells t z g xs)) (hi : nth xs i = some .nils) (h : AWP P w0 r X c (adH b i e sz s) Q) : AWP P w0 r X c s Q :=
  fun a w hs => h a w (hs.adH b i e sz hb hi)
end
end Go.Am

/- The abstract machine Am, part V: the rewriting of results; lists of numbers. -/
namespace Go.Am
open Go.RowKit
def sub1 (x y : AV) : Prop := avSub x y ∧ y ≠ .junk
section
variable {x y : AV} {xs ys : List AV} {a b : Int} {k : IntKind} {n n' : Nat} {f f' : Bool}
theorem sL_n : subL [] [] = True := nrfl rfl
theorem sL_c : subL (x :: xs) (y :: ys) = (sub1 x y ∧ subL xs ys) := by simp [subL, sub1, and_assoc]
theorem s1_int : sub1 (.int k a) (.int k b) = (a = b) := by simp [sub1, avSub]
theorem s1_tt {b : Bool} : sub1 (.bool true) (.bool b) = (b = true) := by simp [sub1, avSub, eq_comm]
theorem s1_ff {b : Bool} : sub1 (.bool false) (.bool b) = (b = false) := by simp [sub1, avSub, eq_comm]
theorem s1_psl : sub1 (.psl f n xs) (.psl false n' ys) = (n = n' ∧ xs = ys) := by
  cases f <;> simp [sub1, avSub]
theorem s1_ns : sub1 .nils (.psl f n ys) = (n = 0 ∧ ys = []) := by simp [sub1, avSub]
theorem rS_tup : resSub (.tup xs) (.tup ys) = subL xs ys := nrfl rfl
theorem rS_agg : resSub (.agg xs) (.agg ys) = subL xs ys := nrfl rfl
theorem rS_int : resSub (.int k a) (.int k b) = (a = b) := s1_int
theorem rS_tt {b : Bool} : resSub (.bool true) (.bool b) = (b = true) := s1_tt
theorem rS_ff {b : Bool} : resSub (.bool false) (.bool b) = (b = false) := s1_ff
theorem rS_psl : resSub (.psl f n xs) (.psl false n' ys) = (n = n' ∧ xs = ys) := s1_psl
theorem rS_ns : resSub .nils (.psl f n ys) = (n = 0 ∧ ys = []) := s1_ns
theorem pa_fnc {g : FuncId} : (pureA (.fn (.func g) xs ys) = true) = (pureL xs ∧ pureL ys) := by simp [pureA, pureL]
theorem decide_t {p : Prop} [Decidable p] : (decide p = true) = p := by simp
theorem decide_f {p : Prop} [Decidable p] : (decide p = false) = ¬ p := by simp
/-- A list of numbers, as cells. -/
def ints (l : List Int) : List AV := l.map (.int .i64)
theorem ints_length {l : List Int} : (ints l).length = l.length := by simp [ints]
theorem ints_nil : ints [] = [] := nrfl rfl
theorem ints_cons {l : List Int} : ints (a :: l) = .int .i64 a :: ints l := nrfl rfl
theorem pl_ints {l : List Int} : pureL (ints l) = True := by
  simp only [pureL, ints, List.mem_map, eq_iff_iff, iff_true]
  rintro _ ⟨a, _, rfl⟩; rfl
theorem nth_ints {l : List Int} {j : Nat} {K : AV → Prop} : optK (nth (ints l) j) K = (j < l.length ∧ K (.int .i64 (l.getD j 0))) := by
  rw [← nth_is]
  simp only [ints, List.getElem?_map]
  by_cases h : j < l.length
  · simp [h, optK, List.getD_eq_getElem?_getD]
  · simp [h, optK]
/-- A list of numbers. -/
def sl (l : List Int) : AV := .psl false l.length (ints l)
attribute [go_sem] sL_n sL_c s1_int s1_tt s1_ff s1_psl s1_ns rS_tup rS_agg rS_int rS_tt rS_ff rS_psl rS_ns pa_fnc decide_t decide_f ints_length ints_nil ints_cons pl_ints nth_ints sl
def condK (x : AV) (a b : Prop) : Prop := match x with | .bool true => a | .bool false => b | _ => False
@[congr] theorem condK_congr {x x' : AV} {a b : Prop} (h : x = x') : condK x a b = condK x' a b := by rw [h]
theorem cd_t {a b : Prop} : condK (.bool true) a b = a := nrfl rfl
theorem cd_f {a b : Prop} : condK (.bool false) a b = b := nrfl rfl
theorem awp_cd [Base] {P : Program} {w0 : World} {r : Option Nat} {X : Ctx} {s : St} {Q : Exit → St → Prop} {c : Operand} {x y : Code} (h : condK (aev s.T c) (AWP P w0 r X x s Q) (AWP P w0 r X y s Q)) : AWP P w0 r X (.cond c x y) s Q := by
  unfold condK at h
  split at h
  · rename_i e; exact awp_cond_true e h
  · rename_i e; exact awp_cond_false e h
  · exact h.elim
/-- What one state says, the other says too. -/
def Imp [Base] (w0 : World) (X : Ctx) (s s' : St) : Prop := ∀ a w, SatC w0 X s a w → SatC w0 X s' a w
section
variable [Base] {P : Program} {w0 : World} {r : Option Nat} {X : Ctx} {s s' s'' : St} {Q : Exit → St → Prop} {c : Code}
theorem Imp.refl : Imp w0 X s s := fun _ _ h => h
theorem Imp.trans (h : Imp w0 X s s') (h' : Imp w0 X s' s'') : Imp w0 X s s'' := fun a w hs => h' a w (h a w hs)
theorem Imp.le2 (h : Le2 X s s') : Imp w0 X s s' := fun _ _ hs => hs.le2 h
theorem Imp.frz (b : Nat) {t : TypeId} {sz g : Nat} {xs : List AV} (hb : hget s.H b = some (.cells t sz g xs)) (hp : pureL xs) (hX : ∀ c, X.Z c = none) : Imp w0 X s (frz b g xs s) := fun _ _ hs => hs.frz hb hp hX
theorem Imp.adT (j : Nat) (e : TypeId) (sz : Nat) (hj : lget s.T j = .nils) : Imp w0 X s (adT j e sz s) := fun _ _ hs => hs.adT j e sz hj
/-- A LOOP. -/
theorem awp_loopI {γ : Type} (I : γ → St) (μ : γ → Nat) (g0 : γ) (h0 : Imp w0 X s (I g0))
    (round : ∀ g, AWP P w0 r X c (I g) (thenQ (fun s' => ∃ g', μ g' < μ g ∧ Imp w0 X s' (I g')) Q)) : AWP P w0 r X (.loop c) s Q := by
  intro a w hs
  refine wpIn_loop_g (fun g a w => SatC w0 X (I g) a w) μ g0 (h0 a w hs) (fun g a w hI => wpIn_mono (round g a w hI) ?_)
  rintro e a' w' ⟨s', h1, h2⟩
  cases e with
  | normal => obtain ⟨g', hlt, hle⟩ := h1; exact ⟨g', hlt, hle _ _ h2⟩
  | exit id => exact ⟨s', h1, h2⟩
  | goto l => exact ⟨s', h1, h2⟩
  | ret => exact ⟨s', h1, h2⟩
  | panic c => exact ⟨s', h1, h2⟩
  | outgrown => exact ⟨s', h1, h2⟩
/-- So many rounds at most. -/
def ARounds (P : Program) (w0 : World) (r : Option Nat) (X : Ctx) (c : Code) (Q : Exit → St → Prop) : Nat → St → Prop
  | 0, _ => False
  | n + 1, s => AWP P w0 r X c s (thenQ (ARounds P w0 r X c Q n) Q)
theorem awp_rounds (n : Nat) (h : ARounds P w0 r X c Q n s) : AWP P w0 r X (.loop c) s Q := by
  refine awp_loopI (γ := { p : Nat × St // ARounds P w0 r X c Q p.1 p.2 }) (fun g => g.1.2) (fun g => g.1.1) ⟨(n, s), h⟩ .refl ?_
  rintro ⟨⟨n, s⟩, h⟩
  cases n with
  | zero => exact h.elim
  | succ n =>
    refine AWP.mono h fun e s' hq => ?_
    cases e with
    | normal => exact ⟨⟨(n, s'), hq⟩, Nat.lt_succ_self _, .refl⟩
    | exit id => exact hq
    | goto l => exact hq
    | ret => exact hq
    | panic c => exact hq
    | outgrown => exact hq
theorem ar_s {n : Nat} : ARounds P w0 r X c Q (n + 1) s = AWP P w0 r X c s (thenQ (ARounds P w0 r X c Q n) Q) := nrfl rfl
end
attribute [go_sem] cd_t cd_f Int.cast_ofNat_Int
attribute [go_sem] List.toList_toArray List.map_cons List.map_nil List.cons_append List.nil_append List.length_cons List.length_nil List.drop_succ_cons List.drop_zero List.drop_nil List.replicate_succ List.replicate_zero List.flatten_cons List.flatten_nil List.append_nil Nat.zero_add Nat.add_zero Nat.mul_one Nat.zero_mul Nat.one_mul Nat.le_refl Nat.zero_lt_one List.getElem?_cons_zero List.getElem?_cons_succ Int.toNat_natCast true_and and_true and_self if_true Bool.not_true Bool.not_false true_implies false_implies implies_true not_true_eq_false not_false_eq_true
end
end Go.Am

/- The abstract machine Am, part X8: regions that draw their order, of which some operations look at the place of a block alone, and not at its cells. -/
namespace Go.Am
open Go.RowKit
set_option linter.unusedSimpArgs false
set_option linter.unusedVariables false
variable [Base]
section
variable {P : Program} {w0 : World} {r : Option Nat} {o : Oper} {ρ : Operand → AV} {h : Nat → Option ABlk} {nx : Nat} {K : E → Prop}
theorem OpOK.at {e : E} {h' : Nat → Option ABlk} {m : Nat → Option Loc} {w : World} {a : Act} {next : Act → World → Prop} {Q : Exit → Act → World → Prop} (k : OpOK P w0 r o ρ h' e) (hg : Good w0 h' m w) (hop : ∀ x, x ∈ o.op.operands → Rep h' m w (ρ x) (a.eval x))
    (hn : ∀ v w' m', Good w0 (updl h' (Am.lift e).wr) m' w' → Ext h' m w (updl h' (Am.lift e).wr) m' w' → Rep (updl h' (Am.lift e).wr) m' w' e.val v → next (a.put o.dst v) w') : o.wpIn (FW r) 0 P a w next Q :=
  k.lift h' m w a next Q (fun _ _ => rfl) (fun _ _ => rfl) (fun _ => rfl) hg hop hn
end
end Go.Am

/- The abstract machine Am, part X2: the machine that runs: what each operation does, as a function (effX); statements, calls, rounds (xcode, xcall). -/
namespace Go.Am
set_option linter.unusedSimpArgs false
set_option linter.unusedVariables false
open Go.RowKit
def mmX (isMax : Bool) : List AV → Option AV
  | [.int k a] => some (.int k a)
  | [.int k a, .int k' b] => if k = k' then some (.int k (if isMax then (if b > a then b else a) else (if b < a then b else a))) else none
  | _ => none
/-- What calls a function's value: the value, the arguments, the blocks; it leaves the result, the blocks, the numbers of those that were written. -/
abbrev Cv := AV → List AV → List (Option ABlk) → Option (AV × List (Option ABlk) × List Nat)
/-- Blocks, as they were written. -/
def wlog (H : List (Option ABlk)) : List Nat → List (Nat × ABlk)
  | [] => []
  | b :: l => match hget H b with
    | some k => (b, k) :: wlog H l
    | none => wlog H l
/-- The jump that a round has left. -/
def jumpX : Option Code → Option Exit
  | none => some .normal
  | some .ret => some .ret
  | some (.exit id) => some (.exit id)
  | _ => none
def putArgs : List Tmp → List AV → List AV → Option (List AV)
  | [], [], T => some T
  | p :: ps, x :: xs, T => putArgs ps xs (lset T p x)
  | _, _, _ => none
end Go.Am
