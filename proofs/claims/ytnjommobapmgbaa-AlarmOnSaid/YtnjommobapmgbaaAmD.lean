/- The abstract machine Am, part D: operations that only compute. -/
import Derived.Test.YtnjommobapmgbaaAmC
namespace Go.Am
open Go.RowKit
variable [Base]

section
variable {P : Program} {w0 : World} {r : Option Nat} {o : Oper} {ρ : Operand → AV} {h : Nat → Option ABlk}

omit [Base] in
theorem wrap_i64 {n : Int} (h1 : -9223372036854775808 ≤ n) (h2 : n ≤ 9223372036854775807) : IntKind.i64.wrap n = n := by
  simp only [IntKind.wrap, IntKind.bits, IntKind.signed, Bool.true_and]
  split <;> rename_i hh <;> simp at hh <;> omega

omit [Base] in
theorem arith_sound {k : IntKind} {n : Int} {K : AV → Prop} (hk : arith k n K) : K (.int k (k.wrap n)) := by
  cases k <;> simp only [arith] at hk <;> first | exact hk | (rw [wrap_i64 hk.1.1 hk.1.2]; exact hk.2)

omit [Base] in
theorem bits_sound {op : BinOp} {k : IntKind} {a b : Int} {K : AV → Prop} (hk : bits op k a b K) : ∃ n, K (.int k n) ∧ ∀ w : World, (Op.intBits op k a b).run P w = .ok (.int k n) w := by
  cases op <;> simp only [bits] at hk <;> first | exact hk.elim | exact ⟨_, hk, fun w => rfl⟩

omit [Base] in
theorem binInt_sound {op : BinOp} {t : TypeId} {k k' : IntKind} {a b : Int} {K : AV → Prop} (hk : binInt op k k' a b K) :
    ∃ x v, K x ∧ (∀ w : World, (binOp op t (.int k a) (.int k' b)).run P w = .ok v w) ∧ ∀ ok w, PRep ok w x v := by
  cases op <;> simp only [binInt] at hk
  case add => obtain ⟨rfl, hk⟩ := hk; exact ⟨_, _, arith_sound hk, fun w => by first | (simp [binOp, Op.intArith]; done) | (simp [binOp, Op.intArith]; rfl), fun ok w => .int _ _⟩
  case sub => obtain ⟨rfl, hk⟩ := hk; exact ⟨_, _, arith_sound hk, fun w => by first | (simp [binOp, Op.intArith]; done) | (simp [binOp, Op.intArith]; rfl), fun ok w => .int _ _⟩
  case mul => obtain ⟨rfl, hk⟩ := hk; exact ⟨_, _, arith_sound hk, fun w => by first | (simp [binOp, Op.intArith]; done) | (simp [binOp, Op.intArith]; rfl), fun ok w => .int _ _⟩
  case quo => obtain ⟨rfl, hb, hk⟩ := hk; exact ⟨_, _, arith_sound hk, fun w => by first | (simp [binOp, Op.intDiv, hb]; done) | (simp [binOp, Op.intDiv, hb]; rfl), fun ok w => .int _ _⟩
  case rem => obtain ⟨rfl, hb, hk⟩ := hk; exact ⟨_, _, hk, fun w => by first | (simp [binOp, Op.intDiv, hb]; done) | (simp [binOp, Op.intDiv, hb]; rfl), fun ok w => .int _ _⟩
  case shl => obtain ⟨hb, hk⟩ := hk; exact ⟨_, _, hk, fun w => by first | (simp [binOp, Op.shift, show ¬ b < 0 by omega]; done) | (simp [binOp, Op.shift, show ¬ b < 0 by omega]; rfl), fun ok w => .int _ _⟩
  case shr => obtain ⟨hb, hk⟩ := hk; exact ⟨_, _, hk, fun w => by first | (simp [binOp, Op.shift, show ¬ b < 0 by omega]; done) | (simp [binOp, Op.shift, show ¬ b < 0 by omega]; rfl), fun ok w => .int _ _⟩
  case eql => obtain ⟨rfl, hk⟩ := hk; exact ⟨_, _, hk, fun w => by first | (simp [binOp, Op.intCmp]; done) | (simp [binOp, Op.intCmp]; rfl), fun ok w => .bool _⟩
  case neq => obtain ⟨rfl, hk⟩ := hk; exact ⟨_, _, hk, fun w => by first | (simp [binOp, Op.intCmp]; done) | (simp [binOp, Op.intCmp]; rfl), fun ok w => .bool _⟩
  case lss => obtain ⟨rfl, hk⟩ := hk; exact ⟨_, _, hk, fun w => by first | (simp [binOp, Op.intCmp]; done) | (simp [binOp, Op.intCmp]; rfl), fun ok w => .bool _⟩
  case leq => obtain ⟨rfl, hk⟩ := hk; exact ⟨_, _, hk, fun w => by first | (simp [binOp, Op.intCmp]; done) | (simp [binOp, Op.intCmp]; rfl), fun ok w => .bool _⟩
  case gtr => obtain ⟨rfl, hk⟩ := hk; exact ⟨_, _, hk, fun w => by first | (simp [binOp, Op.intCmp]; done) | (simp [binOp, Op.intCmp]; rfl), fun ok w => .bool _⟩
  case geq => obtain ⟨rfl, hk⟩ := hk; exact ⟨_, _, hk, fun w => by first | (simp [binOp, Op.intCmp]; done) | (simp [binOp, Op.intCmp]; rfl), fun ok w => .bool _⟩
  all_goals
    obtain ⟨rfl, hk⟩ := hk
    obtain ⟨n, h1, h2⟩ := bits_sound (P := P) hk
    exact ⟨_, _, h1, fun w => by simpa [binOp] using h2 w, fun ok w => .int _ _⟩

theorem scalVal_rep {h' : Nat → Option ABlk} {m : Nat → Option Loc} {w : World} : ∀ (xs : List AV) (us : List Value), xs.length = us.length → (∀ j (h1 : j < xs.length) (h2 : j < us.length), Rep h' m w xs[j] us[j]) →
    (∀ x ∈ xs, (scalVal x).isSome = true) → xs.mapM scalVal = some us
  | [], [], _, _, _ => rfl
  | x :: xs, u :: us, hl, hr, hs => by
    have h0 := hr 0 (by simp) (by simp)
    simp only [List.getElem_cons_zero] at h0
    have ih := scalVal_rep xs us (by simpa using hl) (fun j h1 h2 => by have := hr (j + 1) (by simpa using h1) (by simpa using h2); simpa using this) (fun y hy => hs y (by simp [hy]))
    have hx := hs x (by simp)
    cases x <;> simp [scalVal] at hx
    · rw [rep_int h0]; simp [List.mapM_cons, scalVal, ih]
    · rw [rep_bool h0]; simp [List.mapM_cons, scalVal, ih]

omit [Base] in
theorem scalEq_isSome : ∀ (xs ys : List AV) (b : Bool), scalEq xs ys = some b → (∀ x ∈ xs, (scalVal x).isSome = true) ∧ ∀ y ∈ ys, (scalVal y).isSome = true
  | [], [], _, _ => by simp
  | [], y :: ys, _, h => by cases y <;> simp [scalEq] at h
  | x :: xs, [], _, h => by cases x <;> simp [scalEq] at h
  | x :: xs, y :: ys, b, h => by
    cases x <;> cases y <;> simp only [scalEq, reduceCtorEq] at h
    · split at h
      · cases hr : scalEq xs ys with
        | none => simp [hr] at h
        | some b' =>
          obtain ⟨h1, h2⟩ := scalEq_isSome xs ys b' hr
          exact ⟨fun x hx => by rcases List.mem_cons.1 hx with rfl | hx; (· rfl); exact h1 x hx, fun x hx => by rcases List.mem_cons.1 hx with rfl | hx; (· rfl); exact h2 x hx⟩
      · cases h
    · cases hr : scalEq xs ys with
      | none => simp [hr] at h
      | some b' =>
        obtain ⟨h1, h2⟩ := scalEq_isSome xs ys b' hr
        exact ⟨fun x hx => by rcases List.mem_cons.1 hx with rfl | hx; (· rfl); exact h1 x hx, fun x hx => by rcases List.mem_cons.1 hx with rfl | hx; (· rfl); exact h2 x hx⟩

omit [Base] in
theorem run_eqGuard_ints (op : BinOp) (t : TypeId) (x y : Operand) (k k' : IntKind) (a b : Int) (w : World) : (eqGuard op t x y (.int k a) (.int k' b)).run P w = .ok () w := by
  cases op <;> simp [eqGuard]
omit [Base] in
theorem run_eqGuard_bools (op : BinOp) (t : TypeId) (x y : Operand) (a b : Bool) (w : World) : (eqGuard op t x y (.bool a) (.bool b)).run P w = .ok () w := by
  cases op <;> simp [eqGuard]

theorem sound_bin {op : BinOp} {t t' : TypeId} {x y : Operand} {K : E → Prop} (ho : o.op = .binOp op t x y t') (hk : binK P op t (ρ x) (ρ y) fun v => K ⟨v, [], none⟩) :
    ∃ e, K e ∧ OpOK P w0 r o ρ h e := by
  cases hx : ρ x <;> cases hy : ρ y <;> simp only [hx, hy, binK] at hk
  case int.int k a k' b =>
    obtain ⟨z, v, hz, hrun, hp⟩ := binInt_sound (P := P) (t := t) hk
    refine ⟨_, hz, ok_pure (by simp [ho]) fun h' m w ac _ _ hop => ⟨v, ?_, .pure (hp _ _)⟩⟩
    have h1 := hop x (by simp [ho, Op.operands]); rw [hx] at h1
    have h2 := hop y (by simp [ho, Op.operands]); rw [hy] at h2
    simp [execOp, ho, rep_int h1, rep_int h2, run_eqGuard_ints, hrun]
  case bool.bool a b =>
    cases op <;> simp only at hk
    case eql =>
      refine ⟨_, hk.2, ok_pure (by simp [ho]) fun h' m w ac _ _ hop => ⟨.bool (a == b), ?_, .pure (.bool _)⟩⟩
      have h1 := hop x (by simp [ho, Op.operands]); rw [hx] at h1
      have h2 := hop y (by simp [ho, Op.operands]); rw [hy] at h2
      simp [execOp, ho, rep_bool h1, rep_bool h2, run_eqGuard_bools, binOp, Op.equal, Op.maxDepth, run_equalIn_bool' w 9999 t a b hk.1]
    case neq =>
      refine ⟨_, hk.2, ok_pure (by simp [ho]) fun h' m w ac _ _ hop => ⟨.bool (!(a == b)), ?_, .pure (.bool _)⟩⟩
      have h1 := hop x (by simp [ho, Op.operands]); rw [hx] at h1
      have h2 := hop y (by simp [ho, Op.operands]); rw [hy] at h2
      simp [execOp, ho, rep_bool h1, rep_bool h2, run_eqGuard_bools, binOp, Op.equal, Op.maxDepth, run_equalIn_bool' w 9999 t a b hk.1]
    all_goals exact hk.elim
  case agg.agg xs ys =>
    obtain ⟨⟨hq, heq⟩, hlx, hly, hk⟩ := hk
    cases hs : scalEq xs ys with
    | none => simp only [hs] at hk
    | some b =>
      simp only [hs] at hk
      obtain ⟨hsx, hsy⟩ := scalEq_isSome xs ys b hs
      have key : ∀ (h' : Nat → Option ABlk) (m : Nat → Option Loc) (w : World) (ac : Act), (∀ x, x ∈ o.op.operands → Rep h' m w (ρ x) (ac.eval x)) →
          ∃ us vs : Array Value, ac.eval x = .agg us ∧ ac.eval y = .agg vs ∧ (Op.equalIn 10000 t (.agg us) (.agg vs)).run P w = .ok b w := by
        intro h' m w ac hop
        have h1 := hop x (by simp [ho, Op.operands]); rw [hx] at h1
        have h2 := hop y (by simp [ho, Op.operands]); rw [hy] at h2
        obtain ⟨us, e1, l1, _, r1⟩ := rep_agg h1
        obtain ⟨vs, e2, l2, _, r2⟩ := rep_agg h2
        exact ⟨_, _, e1, e2, heq xs ys us vs b w (scalVal_rep xs us l1 r1 hsx) (scalVal_rep ys vs l2 r2 hsy) hlx hly hs⟩
      cases op <;> simp only at hk
      case eql =>
        refine ⟨_, hk, ok_pure (by simp [ho]) fun h' m w ac _ _ hop => ⟨.bool b, ?_, .pure (.bool _)⟩⟩
        obtain ⟨us, vs, e1, e2, hrun⟩ := key h' m w ac hop
        simp [execOp, ho, e1, e2, run_eqGuard_agg w _ t x y us vs (hq _ hlx), run_eql_struct, hrun]
      case neq =>
        refine ⟨_, hk, ok_pure (by simp [ho]) fun h' m w ac _ _ hop => ⟨.bool (!b), ?_, .pure (.bool _)⟩⟩
        obtain ⟨us, vs, e1, e2, hrun⟩ := key h' m w ac hop
        simp [execOp, ho, e1, e2, run_eqGuard_agg w _ t x y us vs (hq _ hlx), run_neq_struct, hrun]
      all_goals exact hk.elim
  all_goals exact hk.elim

theorem sound_un {op : UnOp} {t : TypeId} {x : Operand} {K : E → Prop} (ho : o.op = .unOp op t x) (hk : unK op (ρ x) fun v => K ⟨v, [], none⟩) :
    ∃ e, K e ∧ OpOK P w0 r o ρ h e := by
  cases hx : ρ x <;> cases op <;> simp only [hx, unK] at hk
  case int.neg k n =>
    refine ⟨_, arith_sound hk, ok_pure (by simp [ho]) fun h' m w ac _ _ hop => ⟨.int k (k.wrap (0 - n)), ?_, .pure (.int _ _)⟩⟩
    have h1 := hop x (by simp [ho, Op.operands]); rw [hx] at h1
    simp [execOp, ho, rep_int h1, Op.unary, Op.intArith]
  case bool.not b =>
    refine ⟨_, hk, ok_pure (by simp [ho]) fun h' m w ac _ _ hop => ⟨.bool (!b), ?_, .pure (.bool _)⟩⟩
    have h1 := hop x (by simp [ho, Op.operands]); rw [hx] at h1
    simp [execOp, ho, rep_bool h1, Op.unary]
  all_goals exact hk.elim

omit [Base] in
theorem tint_spec {t : TypeId} {k : IntKind} (h : tint P t = some k) : P.underlying t = some (.int k) := by
  unfold tint at h
  cases hu : P.underlying t with
  | none => simp [hu] at h
  | some d => cases d <;> simp [hu] at h; rw [h]
omit [Base] in
theorem tslice_spec {t e : TypeId} (h : tslice P t = some e) : P.underlying t = some (.slice e) := by
  unfold tslice at h
  cases hu : P.underlying t with
  | none => simp [hu] at h
  | some d => cases d <;> simp [hu] at h; rw [h]
omit [Base] in
theorem tarr_spec {t e : TypeId} {n : Nat} (h : tarr P t = some (n, e)) : P.underlying t = some (.array n e) := by
  unfold tarr at h
  cases hu : P.underlying t with
  | none => simp [hu] at h
  | some d => cases d <;> simp [hu] at h; rw [h.1, h.2]
omit [Base] in
theorem tmap_spec {t k e : TypeId} (h : tmap P t = some (k, e)) : P.underlying t = some (.map k e) := by
  unfold tmap at h
  cases hu : P.underlying t with
  | none => simp [hu] at h
  | some d => cases d <;> simp [hu] at h; rw [h.1, h.2]
omit [Base] in
theorem tfld_spec {t ft : TypeId} {f off : Nat} (h : tfld P t f = some (off, ft)) : ∃ fs x, P.underlying t = some (.struct fs) ∧ fs[f]? = some x ∧ x.offset = off ∧ x.type = ft := by
  unfold tfld at h
  cases hu : P.underlying t with
  | none => simp [hu] at h
  | some d =>
    cases d <;> simp [hu] at h
    obtain ⟨x, hx, h1, h2⟩ := h
    exact ⟨_, x, rfl, hx, h1, h2⟩
omit [Base] in
theorem tsz_spec {t : TypeId} {n : Nat} (h : tsz P t = some n) (w : World) : (sizeOf t).run P w = .ok n w := by
  unfold tsz at h
  cases hi : P.info? t with
  | none => simp [hi] at h
  | some i => simp [hi] at h; simp [sizeOf, typeInfo, hi, h]
omit [Base] in
theorem tagg_spec {t : TypeId} {b : Bool} (h : tagg P t = some b) (w : World) : (isAgg t).run P w = .ok b w := by
  unfold tagg at h
  cases hu : P.underlying t with
  | none => simp [hu] at h
  | some d =>
    simp only [hu, Option.map_some, Option.some.injEq] at h
    cases d <;> simp at h <;> subst h <;> simp [isAgg, run_underlying hu]

theorem sound_convert {s d : TypeId} {x : Operand} {k k0 : IntKind} {n : Int} {K : AV → Prop} (ho : o.op = .convert s d x) (hs : (P.underlying s).isSome = true) (hd : tint P d = some k) (hx : ρ x = .int k0 n) (hk : arith k n K) :
    K (.int k (k.wrap n)) ∧ OpOK P w0 r o ρ h ⟨.int k (k.wrap n), [], none⟩ := by
  refine ⟨arith_sound hk, ok_pure (by simp [ho]) fun h' m w ac _ _ hop => ⟨.int k (k.wrap n), ?_, .pure (.int _ _)⟩⟩
  have h1 := hop x (by simp [ho, Op.operands]); rw [hx] at h1
  obtain ⟨ds, hds⟩ := Option.isSome_iff_exists.1 hs
  simp [execOp, ho, rep_int h1, convert, run_underlying hds, run_underlying (tint_spec hd), Conv.intToInt]

theorem sound_makeFunc {f : Fn} {first caps : Array Operand} (ho : o.op = .makeFunc f first caps) (hf : ∀ l, f ≠ .yield l) : OpOK P w0 r o ρ h ⟨.fn f (first.toList.map ρ) (caps.toList.map ρ), [], none⟩ :=
  ok_pure (by simp [ho]) fun h' m w ac _ _ hop => by
    refine ⟨.func f (first.toList.map ac.eval).toArray (caps.toList.map ac.eval).toArray, by simp [execOp, ho, Instr.makeFunc]; constructor <;> rw [← Array.toList_map, Array.toArray_toList], ?_⟩
    refine .fn _ _ hf (by simp) (by simp) (fun j a b => ?_) (fun j a b => ?_)
    · simp only [List.getElem_map]; exact hop _ (by simp [ho, Op.operands])
    · simp only [List.getElem_map]; exact hop _ (by simp [ho, Op.operands])

end
end Go.Am
