/- The abstract machine Am, part C: each operation does to the world what effK says. -/
import Derived.Test.YtnjommobapmgbaaAmB
namespace Go.Am
open Go.RowKit
variable [Base]

section inv
variable {h : Nat → Option ABlk} {m : Nat → Option Loc} {w : World} {v : Value}

theorem rep_int {k : IntKind} {n : Int} (r : Rep h m w (.int k n) v) : v = .int k n := by cases r with | pure p => cases p; rfl
theorem rep_bool {b : Bool} (r : Rep h m w (.bool b) v) : v = .bool b := by cases r with | pure p => cases p; rfl
theorem rep_nils (r : Rep h m w .nils v) : v = .slice none 0 0 := by cases r with | pure p => cases p; rfl
theorem rep_psl {f : Bool} {n : Nat} {xs : List AV} (r : Rep h m w (.psl f n xs) v) : PRep (Ok m w) w (.psl f n xs) v := by cases r with | pure p => exact p
theorem rep_pptr {xs : List AV} {i : Nat} (r : Rep h m w (.pptr xs i) v) : PRep (Ok m w) w (.pptr xs i) v := by cases r with | pure p => exact p
theorem rep_agg {xs : List AV} (r : Rep h m w (.agg xs) v) : ∃ us : List Value, v = .agg us.toArray ∧ xs.length = us.length ∧ (∀ u ∈ us, u.oneCell' = true) ∧ ∀ j (h' : j < xs.length) (h'' : j < us.length), Rep h m w xs[j] us[j] := by
  cases r with
  | pure p => cases p with | agg us h1 ho r1 => exact ⟨us, rfl, h1, ho, fun j a b => .pure (r1 j a b)⟩
  | agg us h1 ho r1 => exact ⟨us, rfl, h1, ho, r1⟩
theorem rep_tup {xs : List AV} (r : Rep h m w (.tup xs) v) : ∃ us : List Value, v = .tuple us.toArray ∧ xs.length = us.length ∧ ∀ j (h' : j < xs.length) (h'' : j < us.length), Rep h m w xs[j] us[j] := by
  cases r with
  | pure p => cases p with | tup us h1 r1 => exact ⟨us, rfl, h1, fun j a b => .pure (r1 j a b)⟩
  | tup us h1 r1 => exact ⟨us, rfl, h1, r1⟩
theorem rep_fn {f : FuncId} {xs ys : List AV} (r : Rep h m w (.fn (.func f) xs ys) v) : ∃ us vs : List Value, v = .func (.func f) us.toArray vs.toArray ∧ xs.length = us.length ∧ ys.length = vs.length ∧
    (∀ j (h' : j < xs.length) (h'' : j < us.length), Rep h m w xs[j] us[j]) ∧ ∀ j (h' : j < ys.length) (h'' : j < vs.length), Rep h m w ys[j] vs[j] := by
  cases r with
  | pure p => cases p with | fn us vs hf h1 h2 r1 r2 => exact ⟨us, vs, rfl, h1, h2, fun j a b => .pure (r1 j a b), fun j a b => .pure (r2 j a b)⟩
  | fn us vs hf h1 h2 r1 r2 => exact ⟨us, vs, rfl, h1, h2, r1, r2⟩
theorem rep_map {b : Nat} (r : Rep h m w (.map b) v) : ∃ l, m b = some l ∧ v = .map (some l.c) := by
  cases r with
  | pure p => cases p
  | map hb hm => exact ⟨_, hm, rfl⟩
theorem rep_ptr {b g off : Nat} (r : Rep h m w (.ptr b g off) v) {t : TypeId} {sz : Nat} {xs : List AV} (hb : h b = some (.cells t sz g xs)) : ∃ l, m b = some l ∧ v = .pointer (some ⟨l.c, off, none⟩) := by
  cases r with
  | pure p => cases p
  | ptr hb' hg ho hv => rw [hb] at hb'; cases hb'; exact hv rfl
theorem rep_osl {b g off len : Nat} (r : Rep h m w (.osl b g off len) v) {t : TypeId} {sz : Nat} {xs : List AV} (hb : h b = some (.cells t sz g xs)) :
    (m b = none ∧ off = 0 ∧ len = 0 ∧ v = .slice none 0 0) ∨ ∃ l cap, m b = some l ∧ v = .slice (some ⟨l.c, off, none⟩) len cap ∧ len ≤ cap ∧ off + cap * sz = l.n ∧ cap ≤ maxLen := by
  cases r with
  | pure p => cases p
  | osl hb' hg ho hv => rw [hb] at hb'; cases hb'; exact hv rfl

/-- The cells of a value. -/
theorem rep_cells {x : AV} {xs : List AV} (r : Rep h m w x v) (hx : cellsOf x = some xs) : ∃ us : List Value, v.cells = us.toArray ∧ xs.length = us.length ∧ (∀ u ∈ us, u.oneCell' = true) ∧ ∀ j (h' : j < xs.length) (h'' : j < us.length), Rep h m w xs[j] us[j] := by
  have one : ∀ {x : AV} {v : Value}, Rep h m w x v → v.oneCell' = true → ∃ us : List Value, v.cells = us.toArray ∧ [x].length = us.length ∧ (∀ u ∈ us, u.oneCell' = true) ∧ ∀ j (h' : j < [x].length) (h'' : j < us.length), Rep h m w [x][j] us[j] := by
    intro x v r ho
    refine ⟨[v], by cases v <;> first | rfl | simp [Value.oneCell'] at ho, rfl, by simp [ho], fun j h' h'' => ?_⟩
    have : j = 0 := by simp at h'; omega
    subst this
    exact r
  cases x <;> simp only [cellsOf, Option.some.injEq, reduceCtorEq] at hx
  case agg ys =>
    subst hx
    obtain ⟨us, rfl, h1, h2, h3⟩ := rep_agg r
    exact ⟨us, rfl, h1, h2, h3⟩
  all_goals subst hx
  case int => exact one r (by rw [rep_int r]; rfl)
  case bool => exact one r (by rw [rep_bool r]; rfl)
  case psl => exact one r (by cases rep_psl r <;> rfl)
  case pptr => exact one r (by cases rep_pptr r <;> rfl)
  case map => obtain ⟨l, _, rfl⟩ := rep_map r; exact one r rfl
  case ptr => exact one r (by cases r with | pure p => cases p | ptr hb' hg ho hv => exact ho)
  case osl => exact one r (by cases r with | pure p => cases p | osl hb' hg ho hv => exact ho)
  case fn => exact one r (by cases r with | pure p => cases p; rfl | yld => rfl | fn => rfl)
  all_goals exact one r (by cases r with | pure p => cases p; rfl)

theorem prep_pure {x : AV} (r : Rep h m w x v) (hx : cellPure x = true) : PRep (Ok m w) w x v := by
  cases r with
  | pure p => exact p
  | ptr => simp [cellPure] at hx
  | osl => simp [cellPure] at hx
  | map => simp [cellPure] at hx
  | yld hb hk hm => exact absurd hx (by simp [cellPure])
  | fn us vs hf h1 h2 r1 r2 =>
    rename_i f _ _
    cases f <;> simp only [cellPure, Bool.and_eq_true, List.isEmpty_iff, Bool.false_eq_true] at hx
    obtain ⟨rfl, rfl⟩ := hx
    exact .fn us vs hf h1 h2 (fun j h' => by simp at h') (fun j h' => by simp at h')
  | agg => simp [cellPure] at hx
  | tup => simp [cellPure] at hx
  | junk => simp [cellPure] at hx

omit [Base] in
theorem const_rep {ok : Nat → Prop} {u : Value} (hu : cellPure (constAV u) = true) : PRep ok w (constAV u) u ∧ u.oneCell' = true := by
  unfold constAV at hu ⊢
  split <;> first | exact ⟨.bool _, rfl⟩ | exact ⟨.int _ _, rfl⟩ | exact ⟨.str _, rfl⟩ | exact ⟨.nilp, rfl⟩ | exact ⟨.nils, rfl⟩ | exact ⟨.nilm, rfl⟩ | exact ⟨.nilf, rfl⟩ | (simp [cellPure] at hu)

end inv

def OpOK (P : Program) (w0 : World) (r : Option Nat) (o : Oper) (ρ : Operand → AV) (h : Nat → Option ABlk) (e : E) : Prop :=
  ∀ (h' : Nat → Option ABlk) (m : Nat → Option Loc) (w : World) (a : Act) (next : Act → World → Prop) (Q : Exit → Act → World → Prop),
    (∀ b, b ∈ e.rd → h' b = h b) → (∀ b k, e.wr = some (b, k) → h' b = h b) → Good w0 h' m w → (∀ x, x ∈ o.op.operands → Rep h' m w (ρ x) (a.eval x)) →
    (∀ v w' m', Good w0 (updo h' e.wr) m' w' → Ext h' m w (updo h' e.wr) m' w' → Rep (updo h' e.wr) m' w' e.val v → next (a.put o.dst v) w') → o.wpIn (FW r) 0 P a w next Q

section ops
variable {P : Program} {w0 : World} {r : Option Nat} {o : Oper} {ρ : Operand → AV} {h : Nat → Option ABlk} {nx : Nat} {K : E → Prop}

omit [Base] in
theorem wp_val {a : Act} {w w' : World} {v : Value} {next : Act → World → Prop} {Q : Exit → Act → World → Prop} (hnd : ∀ c, o.op ≠ .defer c)
    (hrun : (execOp a.eval o).run P w = .ok (.value v) w') (hn : next (a.put o.dst v) w') : o.wpIn (FW r) 0 P a w next Q :=
  ⟨fun _ _ => trivial, by rw [Oper.semAt_eq _ _ _ hnd, hrun]; exact hn⟩
omit [Base] in
theorem wp_skip {a : Act} {w w' : World} {next : Act → World → Prop} {Q : Exit → Act → World → Prop} (hnd : ∀ c, o.op ≠ .defer c)
    (hrun : (execOp a.eval o).run P w = .ok .skip w') (hn : next (a.put o.dst undef) w') : o.wpIn (FW r) 0 P a w next Q :=
  ⟨fun _ _ => trivial, by rw [Oper.semAt_eq _ _ _ hnd, hrun]; exact hn⟩

/-- An operation that only computes, or looks at blocks. -/
theorem ok_pure {x : AV} {rd : List Nat} (hnd : ∀ c, o.op ≠ .defer c)
    (hr : ∀ (h' : Nat → Option ABlk) (m : Nat → Option Loc) (w : World) (a : Act), (∀ b, b ∈ rd → h' b = h b) → Good w0 h' m w → (∀ x, x ∈ o.op.operands → Rep h' m w (ρ x) (a.eval x)) →
      ∃ v, (execOp a.eval o).run P w = .ok (.value v) w ∧ Rep h' m w x v) : OpOK P w0 r o ρ h ⟨x, rd, none⟩ := by
  intro h' m w a next Q hrd _ hg hop hnext
  obtain ⟨v, hrun, hv⟩ := hr h' m w a hrd hg hop
  exact wp_val hnd hrun (hnext v w m hg (Ext.refl _ _ _) hv)

theorem sound_move {x : Operand} (ho : o.op = .move x) : OpOK P w0 r o ρ h ⟨ρ x, [], none⟩ :=
  ok_pure (by simp [ho]) fun h' m w a _ _ hop => ⟨a.eval x, by simp [execOp, ho], hop x (by simp [ho, Op.operands])⟩
theorem sound_assign {x : Operand} (ho : o.op = .assign x) : OpOK P w0 r o ρ h ⟨ρ x, [], none⟩ :=
  ok_pure (by simp [ho]) fun h' m w a _ _ hop => ⟨a.eval x, by simp [execOp, ho], hop x (by simp [ho, Op.operands])⟩
theorem sound_pick {c x y : Operand} {b : Bool} (ho : o.op = .pick c x y) (hc : ρ c = .bool b) : OpOK P w0 r o ρ h ⟨if b then ρ x else ρ y, [], none⟩ :=
  ok_pure (by simp [ho]) fun h' m w a _ _ hop => by
    have h1 := hop c (by simp [ho, Op.operands])
    rw [hc] at h1
    have h2 := rep_bool h1
    refine ⟨if b then a.eval x else a.eval y, by simp [execOp, ho, h2, asBool], ?_⟩
    cases b
    · exact hop y (by simp [ho, Op.operands])
    · exact hop x (by simp [ho, Op.operands])

theorem sound_extract {x : Operand} {i : Nat} {xs : List AV} {y : AV} (ho : o.op = .extract x i) (hx : ρ x = .tup xs) (hy : xs[i]? = some y) : OpOK P w0 r o ρ h ⟨y, [], none⟩ :=
  ok_pure (by simp [ho]) fun h' m w a _ _ hop => by
    have h1 := hop x (by simp [ho, Op.operands])
    rw [hx] at h1
    obtain ⟨us, h2, h3, h4⟩ := rep_tup h1
    obtain ⟨hi, hxi⟩ := List.getElem?_eq_some_iff.1 hy
    have hi' : i < us.length := by omega
    refine ⟨us[i], by simp [execOp, ho, h2, Instr.extract, hi'], ?_⟩
    rw [← hxi]
    exact h4 i hi hi'

end ops

end Go.Am
