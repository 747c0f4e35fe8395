/- The abstract machine Am, part E: operations on memory. -/
import Derived.Test.YtnjommobapmgbaaAmD
namespace Go.Am
open Go.RowKit
variable [Base]

section
variable {P : Program} {w0 : World} {r : Option Nat} {o : Oper} {ρ : Operand → AV} {h : Nat → Option ABlk}

omit [Base] in
theorem addr_add (c o n : Nat) : (⟨c, o, none⟩ : Addr).add n = ⟨c, o + n, none⟩ := by
  unfold Addr.add; split <;> simp_all

/-- What a load of type t hands back, of cells xs from off on. -/
def LoadIs (P : Program) (t : TypeId) (xs : List AV) (off : Nat) (x : AV) : Prop :=
  (∃ n, tagg P t = some true ∧ tsz P t = some n ∧ off + n ≤ xs.length ∧ x = .agg (window xs off n)) ∨ (tagg P t = some false ∧ xs[off]? = some x)

omit [Base] in
theorem loadK_is {t : TypeId} {xs : List AV} {off : Nat} {K : AV → Prop} (hk : loadK P t xs off K) : ∃ x, K x ∧ LoadIs P t xs off x := by
  unfold loadK at hk
  cases ha : tagg P t with
  | none => simp [ha] at hk
  | some b =>
    cases hs : tsz P t with
    | none => cases b <;> simp [ha, hs] at hk
    | some n =>
      cases b
      · simp only [ha, hs] at hk
        cases hx : xs[off]? with
        | none => simp [hx] at hk
        | some x => simp only [hx] at hk; exact ⟨x, hk, .inr ⟨ha, hx⟩⟩
      · simp only [ha, hs] at hk
        exact ⟨_, hk.2, .inl ⟨n, ha, hs, hk.1, rfl⟩⟩

omit [Base] in
theorem window_get (xs : List AV) (off n j : Nat) (hj : j < (window xs off n).length) : (window xs off n)[j] = xs[off + j]'(by simp [window] at hj; omega) := by
  simp [window]
omit [Base] in
theorem window_length (xs : List AV) (off n : Nat) (h : off + n ≤ xs.length) : (window xs off n).length = n := by
  simp [window]; omega

section mem
variable {h' : Nat → Option ABlk} {m : Nat → Option Loc} {w : World}

theorem load_run {t : TypeId} {xs : List AV} {off : Nat} {x : AV} {c o : Nat} {vs : Nat → Value} (hl : LoadIs P t xs off x)
    (hc : ∀ j, j < xs.length → w.cell? ⟨c, o + j, none⟩ = some (vs j) ∧ (vs j).oneCell' = true) (hr : ∀ j (hj : j < xs.length), Rep h' m w xs[j] (vs j)) :
    ∃ v, (loadVar t ⟨c, o + off, none⟩).run P w = .ok v w ∧ Rep h' m w x v := by
  rcases hl with ⟨n, ha, hs, hn, rfl⟩ | ⟨ha, hx⟩
  · refine ⟨.agg ((List.range n).map fun j => vs (off + j)).toArray, ?_, ?_⟩
    · simp only [loadVar, Sem.run_bind, tagg_spec ha, Result.andThen_ok, if_true, tsz_spec hs]
      rw [run_loadCells w ⟨c, o + off, none⟩ n (fun j => vs (off + j)) (fun j hj => by rw [addr_add, Nat.add_assoc]; exact (hc (off + j) (by omega)).1)]
      simp
    · refine .agg _ (by simp [window_length xs off n hn]) (fun u hu => ?_) (fun j h1 h2 => ?_)
      · simp only [List.mem_map, List.mem_range] at hu
        obtain ⟨j, hj, rfl⟩ := hu
        exact (hc (off + j) (by omega)).2
      · rw [window_get]
        simp only [List.getElem_map, List.getElem_range]
        exact hr _ _
  · obtain ⟨hi, hxi⟩ := List.getElem?_eq_some_iff.1 hx
    refine ⟨vs off, ?_, ?_⟩
    · simp only [loadVar, Sem.run_bind, tagg_spec ha, Result.andThen_ok, Bool.false_eq_true, if_false]
      simp [run_load, (hc off hi).1]
    · rw [← hxi]; exact hr off hi

theorem part_run {t : TypeId} {xs : List AV} {off : Nat} {x : AV} {us : List Value} (hl : LoadIs P t xs off x) (h1 : xs.length = us.length) (h2 : ∀ u ∈ us, u.oneCell' = true)
    (hr : ∀ j (a : j < xs.length) (b : j < us.length), Rep h' m w xs[j] us[j]) : ∃ v, (part t us.toArray off).run P w = .ok v w ∧ Rep h' m w x v := by
  rcases hl with ⟨n, ha, hs, hn, rfl⟩ | ⟨ha, hx⟩
  · refine ⟨.agg ((us.drop off).take n).toArray, ?_, ?_⟩
    · simp only [part, Sem.run_bind, tagg_spec ha, Result.andThen_ok, if_true, tsz_spec hs]
      simp [List.extract_eq_take_drop]
    · refine .agg _ (by simp [window]; omega) (fun u hu => h2 u (List.mem_of_mem_drop (List.mem_of_mem_take hu))) (fun j a b => ?_)
      rw [window_get]
      simp only [List.getElem_take, List.getElem_drop]
      exact hr _ _ _
  · obtain ⟨hi, hxi⟩ := List.getElem?_eq_some_iff.1 hx
    have hi' : off < us.length := by omega
    refine ⟨us[off], ?_, ?_⟩
    · simp only [part, Sem.run_bind, tagg_spec ha, Result.andThen_ok, Bool.false_eq_true, if_false]
      simp [hi']
    · rw [← hxi]; exact hr off hi hi'

/-- The cells of an abstract block, in the world. -/
theorem blk_cells {b : Nat} {t : TypeId} {sz g : Nat} {xs : List AV} {l : Loc} (hg : Good w0 h' m w) (hb : h' b = some (.cells t sz g xs)) (hl : m b = some l) :
    ∃ arr, w.heap[l.c]? = some (.cells arr t (0, 0)) ∧ arr.size = l.n ∧ xs.length ≤ l.n ∧ ∃ vs : Nat → Value, (∀ j, j < xs.length → arr[j]? = some (vs j)) ∧
      (∀ j, j < xs.length → w.cell? ⟨l.c, 0 + j, none⟩ = some (vs j) ∧ (vs j).oneCell' = true) ∧ ∀ j (hj : j < xs.length), Rep h' m w xs[j] (vs j) := by
  rcases hg.blk b _ hb with ⟨h1, _⟩ | ⟨l', arr, h1, h2, h3, h4, h5⟩
  · rw [h1] at hl; cases hl
  · rw [h1] at hl; cases hl
    refine ⟨arr, h2, h3, h4, fun j => (arr[j]?).getD undef, fun j hj => ?_, fun j hj => ?_, fun j hj => ?_⟩
    · obtain ⟨v, hv, _, _⟩ := h5 j hj; simp [hv]
    · obtain ⟨v, hv, ho, _⟩ := h5 j hj; simp [World.cell?, h2, hv, ho]
    · obtain ⟨v, hv, _, hr⟩ := h5 j hj; simpa [hv] using hr
end mem

theorem sound_load {t : TypeId} {a : Operand} {K : E → Prop} (ho : o.op = .load t a) (hk : effK P o ρ h 0 K) : ∃ e, K e ∧ OpOK P w0 r o ρ h e := by
  simp only [effK, ho] at hk
  cases ha : ρ a <;> simp only [ha] at hk
  case ptr b g off =>
    cases hb : h b with
    | none => simp [hb] at hk
    | some k =>
      cases k <;> simp only [hb] at hk
      case cells t' sz g' xs =>
        obtain ⟨rfl, hk⟩ := hk
        obtain ⟨x, hx, hl⟩ := loadK_is hk
        refine ⟨_, hx, ok_pure (by simp [ho]) fun h' m w ac hrd hg hop => ?_⟩
        have hb' : h' b = some (.cells t' sz g xs) := (hrd b (by simp)).trans hb
        have h1 := hop a (by simp [ho, Op.operands]); rw [ha] at h1
        obtain ⟨l, hm, he⟩ := rep_ptr h1 hb'
        obtain ⟨arr, _, _, _, vs, _, h3, h4⟩ := blk_cells hg hb' hm
        obtain ⟨v, hv, hr⟩ := load_run hl h3 h4
        rw [Nat.zero_add] at hv
        exact ⟨v, by simp [execOp, ho, he, Instr.loadAt, Instr.sureAddr, hv], hr⟩
      all_goals exact hk.elim
  case pptr xs i =>
    obtain ⟨x, hx, hl⟩ := loadK_is hk
    refine ⟨_, hx, ok_pure (by simp [ho]) fun h' m w ac hrd hg hop => ?_⟩
    have h1 := hop a (by simp [ho, Op.operands]); rw [ha] at h1
    have hp := rep_pptr h1
    generalize hv : ac.eval a = va at hp
    cases hp with
    | pptr vs hok hc hr =>
      obtain ⟨v, hv', hr'⟩ := load_run (h' := h') (m := m) hl hc (fun j hj => .pure (hr j hj))
      exact ⟨v, by simp [execOp, ho, hv, Instr.loadAt, Instr.sureAddr, hv'], hr'⟩
  all_goals exact hk.elim

theorem sound_nilCheck {x : Operand} {K : E → Prop} (ho : o.op = .nilCheck x) (hk : effK P o ρ h 0 K) : ∃ e, K e ∧ OpOK P w0 r o ρ h e := by
  simp only [effK, ho] at hk
  cases ha : ρ x <;> simp only [ha] at hk
  case ptr b g off =>
    cases hb : h b with
    | none => simp [hb] at hk
    | some k =>
      cases k <;> simp only [hb] at hk
      case cells t' sz g' xs =>
        obtain ⟨rfl, hk⟩ := hk
        refine ⟨_, hk, ok_pure (by simp [ho]) fun h' m w ac hrd hg hop => ?_⟩
        have hb' : h' b = some (.cells t' sz g xs) := (hrd b (by simp)).trans hb
        have h1 := hop x (by simp [ho, Op.operands]); rw [ha] at h1
        obtain ⟨l, hm, he⟩ := rep_ptr h1 hb'
        exact ⟨_, by simp only [execOp, ho, he]; try rfl, by rw [← he]; exact h1⟩
      all_goals exact hk.elim
  case pptr xs i =>
    refine ⟨_, hk, ok_pure (by simp [ho]) fun h' m w ac hrd hg hop => ?_⟩
    have h1 := hop x (by simp [ho, Op.operands]); rw [ha] at h1
    have hp := rep_pptr h1
    generalize hv : ac.eval x = va at hp h1
    cases hp with
    | pptr vs hok hc hr => exact ⟨_, by simp only [execOp, ho, hv]; try rfl, h1⟩
  all_goals exact hk.elim

theorem sound_field {t : TypeId} {x : Operand} {f : Nat} {K : E → Prop} (ho : o.op = .field t x f) (hk : effK P o ρ h 0 K) : ∃ e, K e ∧ OpOK P w0 r o ρ h e := by
  simp only [effK, ho] at hk
  cases hf : tfld P t f with
  | none => simp [hf] at hk
  | some p =>
    obtain ⟨off, ft⟩ := p
    cases ha : ρ x <;> simp only [hf, ha] at hk
    case agg xs =>
      obtain ⟨y, hy, hl⟩ := loadK_is hk
      refine ⟨_, hy, ok_pure (by simp [ho]) fun h' m w ac hrd hg hop => ?_⟩
      have h1 := hop x (by simp [ho, Op.operands]); rw [ha] at h1
      obtain ⟨us, he, l1, l2, l3⟩ := rep_agg h1
      obtain ⟨v, hv, hr⟩ := part_run hl l1 l2 l3
      obtain ⟨fs, fx, hu, hfx, rfl, rfl⟩ := tfld_spec hf
      exact ⟨v, by simp [execOp, ho, he, Instr.field, run_underlying hu, hfx, asAgg, hv], hr⟩
    all_goals exact hk.elim

theorem sound_index {t : TypeId} {x i : Operand} {K : E → Prop} (ho : o.op = .index t x i) (hk : effK P o ρ h 0 K) : ∃ e, K e ∧ OpOK P w0 r o ρ h e := by
  simp only [effK, ho] at hk
  cases hi : ρ i <;> simp only [hi] at hk
  case int ki n =>
    cases hf : tarr P t with
    | none => simp [hf] at hk
    | some p =>
      obtain ⟨len, e⟩ := p
      cases ha : ρ x <;> simp only [hf, ha] at hk
      case agg xs =>
        cases hs : tsz P e with
        | none => simp [hs] at hk
        | some sz =>
          simp only [hs] at hk
          obtain ⟨h0, hlt, hk⟩ := hk
          obtain ⟨y, hy, hl⟩ := loadK_is hk
          refine ⟨_, hy, ok_pure (by simp [ho]) fun h' m w ac hrd hg hop => ?_⟩
          have h1 := hop x (by simp [ho, Op.operands]); rw [ha] at h1
          have h2 := hop i (by simp [ho, Op.operands]); rw [hi] at h2
          obtain ⟨us, he, l1, l2, l3⟩ := rep_agg h1
          obtain ⟨v, hv, hr⟩ := part_run hl l1 l2 l3
          exact ⟨v, by simp [execOp, ho, he, rep_int h2, Instr.index, asIntOf, run_underlying (tarr_spec hf), h0, hlt, tsz_spec hs, hv], hr⟩
      all_goals exact hk.elim
  all_goals exact hk.elim

omit [Base] in
theorem fieldPlace_run {x : Field} {sz : Nat} (hs : tsz P x.type = some sz) (h0 : 0 < sz) (c o : Nat) (w : World) : (fieldPlace ⟨c, o, none⟩ x).run P w = .ok ⟨c, o + x.offset, none⟩ w := by
  simp only [fieldPlace, Sem.run_bind, tsz_spec hs, Result.andThen_ok, show ¬ sz = 0 by omega, if_false, addr_add]
  rfl

theorem sound_fieldAddr {t : TypeId} {x : Operand} {f : Nat} {K : E → Prop} (ho : o.op = .fieldAddr t x f) (hk : effK P o ρ h 0 K) : ∃ e, K e ∧ OpOK P w0 r o ρ h e := by
  simp only [effK, ho] at hk
  cases hf : tfld P t f with
  | none => simp [hf] at hk
  | some p =>
    obtain ⟨off, ft⟩ := p
    simp only [hf] at hk
    cases hs : tsz P ft with
    | none => simp [hs] at hk
    | some sz =>
      cases ha : ρ x <;> simp only [hs, ha] at hk
      case ptr b g oo =>
        obtain ⟨h0, hk⟩ := hk
        cases hb : h b with
        | none => simp [hb] at hk
        | some k =>
          cases k <;> simp only [hb] at hk
          case cells t' sz' g' xs =>
            obtain ⟨rfl, hk⟩ := hk
            refine ⟨_, hk, ok_pure (by simp [ho]) fun h' m w ac hrd hg hop => ?_⟩
            have hb' : h' b = some (.cells t' sz' g xs) := (hrd b (by simp)).trans hb
            have h1 := hop x (by simp [ho, Op.operands]); rw [ha] at h1
            obtain ⟨l, hm, he⟩ := rep_ptr h1 hb'
            obtain ⟨fs, fx, hu, hfx, rfl, rfl⟩ := tfld_spec hf
            exact ⟨_, by simp [execOp, ho, he, Instr.fieldAt, run_underlying hu, hfx, Instr.sureAddr, fieldPlace_run hs h0]; try rfl, .ptr hb' (Nat.le_refl _) rfl (fun _ => ⟨l, hm, rfl⟩)⟩
          all_goals exact hk.elim
      case pptr xs i =>
        obtain ⟨h0, hk⟩ := hk
        refine ⟨_, hk, ok_pure (by simp [ho]) fun h' m w ac hrd hg hop => ?_⟩
        have h1 := hop x (by simp [ho, Op.operands]); rw [ha] at h1
        have hp := rep_pptr h1
        obtain ⟨fs, fx, hu, hfx, rfl, rfl⟩ := tfld_spec hf
        generalize hv : ac.eval x = va at hp
        cases hp with
        | pptr vs hok hc hr =>
          refine ⟨_, by simp [execOp, ho, hv, Instr.fieldAt, run_underlying hu, hfx, Instr.sureAddr, fieldPlace_run hs h0]; try rfl, ?_⟩
          rw [Nat.add_assoc]
          exact .pure (.pptr vs hok hc hr)
      all_goals exact hk.elim

theorem sound_indexAddr {t : TypeId} {x i : Operand} {K : E → Prop} (ho : o.op = .indexAddr t x i) (hk : effK P o ρ h 0 K) : ∃ e, K e ∧ OpOK P w0 r o ρ h e := by
  simp only [effK, ho] at hk
  cases hi : ρ i <;> simp only [hi] at hk
  case int ki n =>
    cases hsl : tslice P t with
    | some e =>
      simp only [hsl] at hk
      have hu := tslice_spec hsl
      cases hs : tsz P e with
      | none => simp [hs] at hk
      | some sz =>
        cases ha : ρ x <;> simp only [hs, ha] at hk
        case psl full len xs =>
          obtain ⟨h0, hlt, hpos, hk⟩ := hk
          refine ⟨_, hk, ok_pure (by simp [ho]) fun h' m w ac hrd hg hop => ?_⟩
          have h1 := hop x (by simp [ho, Op.operands]); rw [ha] at h1
          have h2 := hop i (by simp [ho, Op.operands]); rw [hi] at h2
          have hp := rep_psl h1
          generalize hv : ac.eval x = va at hp
          cases hp with
          | psle => simp at hpos
          | psl vs _ _ hok hc hr =>
            refine ⟨_, by simp [execOp, ho, hv, rep_int h2, Instr.indexAt, asIntOf, run_underlying hu, h0, hlt, tsz_spec hs, addr_add]; try rfl, .pure (.pptr vs hok hc hr)⟩
        case osl b g off len =>
          obtain ⟨h0, hlt, hk⟩ := hk
          cases hb : h b with
          | none => simp [hb] at hk
          | some k =>
            cases k <;> simp only [hb] at hk
            case cells t' sz' g' xs =>
              obtain ⟨rfl, hk⟩ := hk
              refine ⟨_, hk, ok_pure (by simp [ho]) fun h' m w ac hrd hg hop => ?_⟩
              have hb' : h' b = some (.cells t' sz' g xs) := (hrd b (by simp)).trans hb
              have h1 := hop x (by simp [ho, Op.operands]); rw [ha] at h1
              have h2 := hop i (by simp [ho, Op.operands]); rw [hi] at h2
              rcases rep_osl h1 hb' with ⟨_, _, rfl, _⟩ | ⟨l, cap, hm, he, _⟩
              · simp at hlt; omega
              · exact ⟨_, by simp [execOp, ho, he, rep_int h2, Instr.indexAt, asIntOf, run_underlying hu, h0, hlt, tsz_spec hs, addr_add]; try rfl, .ptr hb' (Nat.le_refl _) rfl (fun _ => ⟨l, hm, rfl⟩)⟩
            all_goals exact hk.elim
        all_goals exact hk.elim
    | none =>
      simp only [hsl] at hk
      cases hf : tarr P t with
      | none => simp [hf] at hk
      | some p =>
        obtain ⟨len, e⟩ := p
        have hu := tarr_spec hf
        simp only [hf] at hk
        cases hs : tsz P e with
        | none => simp [hs] at hk
        | some sz =>
          cases ha : ρ x <;> simp only [hs, ha] at hk
          case ptr b g off =>
            obtain ⟨h0, hlt, hk⟩ := hk
            cases hb : h b with
            | none => simp [hb] at hk
            | some k =>
              cases k <;> simp only [hb] at hk
              case cells t' sz' g' xs =>
                obtain ⟨rfl, hk⟩ := hk
                refine ⟨_, hk, ok_pure (by simp [ho]) fun h' m w ac hrd hg hop => ?_⟩
                have hb' : h' b = some (.cells t' sz' g xs) := (hrd b (by simp)).trans hb
                have h1 := hop x (by simp [ho, Op.operands]); rw [ha] at h1
                have h2 := hop i (by simp [ho, Op.operands]); rw [hi] at h2
                obtain ⟨l, hm, he⟩ := rep_ptr h1 hb'
                exact ⟨_, by simp [execOp, ho, he, rep_int h2, Instr.indexAt, asIntOf, run_underlying hu, Instr.sureAddr, h0, hlt, tsz_spec hs, addr_add]; try rfl, .ptr hb' (Nat.le_refl _) rfl (fun _ => ⟨l, hm, rfl⟩)⟩
              all_goals exact hk.elim
          case pptr xs oo =>
            obtain ⟨h0, hlt, hk⟩ := hk
            refine ⟨_, hk, ok_pure (by simp [ho]) fun h' m w ac hrd hg hop => ?_⟩
            have h1 := hop x (by simp [ho, Op.operands]); rw [ha] at h1
            have h2 := hop i (by simp [ho, Op.operands]); rw [hi] at h2
            have hp := rep_pptr h1
            generalize hv : ac.eval x = va at hp
            cases hp with
            | pptr vs hok hc hr =>
              refine ⟨_, by simp [execOp, ho, hv, rep_int h2, Instr.indexAt, asIntOf, run_underlying hu, Instr.sureAddr, h0, hlt, tsz_spec hs, addr_add]; try rfl, ?_⟩
              rw [Nat.add_assoc]
              exact .pure (.pptr vs hok hc hr)
          all_goals exact hk.elim
  all_goals exact hk.elim

end
end Go.Am
