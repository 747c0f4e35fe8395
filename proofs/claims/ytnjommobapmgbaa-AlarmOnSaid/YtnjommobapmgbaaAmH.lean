/- The abstract machine Am, part H: slices, append, make, len, min, max. -/
import Derived.Test.YtnjommobapmgbaaAmG
namespace Go.Am
open Go.RowKit
variable [Base]

section
variable {P : Program} {w0 : World} {r : Option Nat} {o : Oper} {ρ : Operand → AV} {h : Nat → Option ABlk}

omit [Base] in
/-- The form of a slice that stays as it is. -/
theorem psl_val {ok : Nat → Prop} {w : World} {full : Bool} {n : Nat} {xs : List AV} {v : Value} (p : PRep ok w (.psl full n xs) v) : ∃ a cap, v = .slice a n cap ∧ n ≤ cap := by
  cases p with
  | psle h1 _ _ => exact ⟨_, _, rfl, h1⟩
  | psl _ h1 _ _ _ _ => exact ⟨_, _, rfl, h1⟩

omit [Base] in
theorem psl_window {ok : Nat → Prop} {w : World} {full : Bool} {n sz l u : Nat} {xs : List AV} {a : Option Addr} {cap : Nat} (p : PRep ok w (.psl full n xs) (.slice a n cap)) (hl : xs.length = n * sz) (h1 : l ≤ u) (h2 : u ≤ n) :
    PRep ok w (.psl false (u - l) (window xs (l * sz) ((u - l) * sz))) (.slice (if cap = l then a else a.map (·.add (l * sz))) (u - l) (cap - l)) := by
  obtain ⟨_, _, hv, hcap⟩ := psl_val p
  cases hv
  by_cases hw : window xs (l * sz) ((u - l) * sz) = []
  · rw [hw]
    refine .psle (by omega) (by simp) (fun ha => ?_)
    cases p with
    | psle _ _ h3 => split at ha; (· have := h3 ha; omega); (· rw [Option.map_eq_none_iff] at ha; have := h3 ha; omega)
    | psl => split at ha <;> simp at ha
  · have hne : 0 < (u - l) * sz := by
      rcases Nat.eq_zero_or_pos ((u - l) * sz) with h0 | h0
      · exact absurd (by simp [window, h0]) hw
      · exact h0
    have hul : l < u := by
      rcases Nat.lt_or_ge l u with h3 | h3
      · exact h3
      · rw [show u - l = 0 by omega] at hne; simp at hne
    have hcl : cap ≠ l := by omega
    have hlen : l * sz + (u - l) * sz ≤ xs.length := by
      rw [hl, ← Nat.add_mul]
      exact Nat.mul_le_mul_right _ (by omega)
    rw [if_neg hcl]
    cases p with
    | psle => simp [window] at hw
    | psl vs _ _ hok hc hr =>
      simp only [Option.map_some, addr_add]
      refine .psl (fun j => vs (l * sz + j)) (by omega) (by simp) hok (fun j hj => ?_) (fun j hj => ?_)
      · rw [window_length _ _ _ hlen] at hj
        rw [Nat.add_assoc]
        exact hc _ (by omega)
      · rw [window_get]
        exact hr _ _

theorem sound_slice {t : TypeId} {x : Operand} {lo hi : Option Operand} {K : E → Prop} (ho : o.op = .slice t x lo hi none) (hk : effK P o ρ h 0 K) : ∃ e, K e ∧ OpOK P w0 r o ρ h e := by
  simp only [effK, ho] at hk
  cases ht : tslice P t with
  | none => simp [ht] at hk
  | some e =>
    simp only [ht] at hk
    cases hs : tsz P e with
    | none => simp [hs] at hk
    | some sz =>
      simp only [hs] at hk
      cases hx : ρ x <;> simp only [hx, sliceK] at hk
      case psl full n xs =>
        generalize hlo : (lo.map ρ).getD (.int .i64 0) = lv at hk
        generalize hhi : (hi.map ρ).getD (.int .i64 n) = uv at hk
        cases lv <;> simp only at hk
        case int kl l =>
          cases uv <;> simp only at hk
          case int ku u =>
            obtain ⟨h0, h1, h2, hlen, hk⟩ := hk
            refine ⟨_, hk, ok_pure (by simp [ho]) fun h' m w ac _ hg hop => ?_⟩
            have hxr := hop x (by simp [ho, Op.operands]); rw [hx] at hxr
            have hp := rep_psl hxr
            obtain ⟨a, cap, hv, hcap⟩ := psl_val hp
            rw [hv] at hp
            obtain ⟨l', rfl⟩ := Int.eq_ofNat_of_zero_le h0
            obtain ⟨u', rfl⟩ := Int.eq_ofNat_of_zero_le (show 0 ≤ u by omega)
            have h1' : l' ≤ u' := by omega
            have h2' : u' ≤ n := by omega
            have hres := psl_window (sz := sz) hp hlen h1' h2'
            have he1 : ((u' : Int) - (l' : Int)).toNat = u' - l' := by omega
            have he2 : ((l' : Nat) : Int).toNat = l' := by omega
            rw [he1, he2]
            refine ⟨_, ?_, .pure hres⟩
            have hloV : ∀ (q : Operand), lo = some q → ac.eval q = .int kl l' := by
              intro q hq; subst hq
              have := hop q (by simp [ho, Op.operands]); simp only [Option.map_some, Option.getD_some] at hlo; rw [hlo] at this; exact rep_int this
            have hhiV : ∀ (q : Operand), hi = some q → ac.eval q = .int ku u' := by
              intro q hq; subst hq
              have := hop q (by simp [ho, Op.operands]); simp only [Option.map_some, Option.getD_some] at hhi; rw [hhi] at this; exact rep_int this
            have hb : (Instr.sliceBounds true n cap (lo.map ac.eval) (hi.map ac.eval) none).run P w = .ok (l', u', cap) w := by
              cases hi with
              | none =>
                simp only [Option.map_none, Option.getD_none] at hhi; injection hhi with e1 e2; subst e1
                have hu : u' = n := by omega
                subst hu
                cases lo with
                | none => simp only [Option.map_none, Option.getD_none] at hlo; injection hlo with e3 e4; subst e3; simp [Instr.sliceBounds]; omega
                | some q => simp [Instr.sliceBounds, hloV q rfl, Instr.sliceBound, asIntOf, h1']
              | some p =>
                have hu2 : (u' : Int) ≤ cap := by omega
                cases lo with
                | none => simp only [Option.map_none, Option.getD_none] at hlo; injection hlo with e3 e4; subst e3; simp [Instr.sliceBounds, hhiV p rfl, Instr.sliceBound, asIntOf, show u' ≤ cap by omega]; omega
                | some q => simp [Instr.sliceBounds, hhiV p rfl, hloV q rfl, Instr.sliceBound, asIntOf, h1', show u' ≤ cap by omega]
            simp only [execOp, ho, hv, Instr.sliceAt, Sem.run_bind, run_underlying (tslice_spec ht), Result.andThen_ok, Instr.slice, Option.map_none, hb, tsz_spec hs, Sem.run_pure]
          all_goals exact hk.elim
        all_goals exact hk.elim
      all_goals exact hk.elim

end
end Go.Am
