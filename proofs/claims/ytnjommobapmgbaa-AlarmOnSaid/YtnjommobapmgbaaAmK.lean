/- The abstract machine Am, part K: calls; every operation. -/
import Derived.Test.YtnjommobapmgbaaAmJ
namespace Go.Am
open Go.RowKit
variable [Base]

section
variable {P : Program} {w0 : World} {r : Option Nat} {o : Oper} {ρ : Operand → AV} {h : Nat → Option ABlk}

theorem pure_prep {h' : Nat → Option ABlk} {m : Nat → Option Loc} {w : World} {x : AV} {v : Value} (r : Rep h' m w x v) (hx : pureA x = true) : PRep (Ok m w) w x v := by
  cases x
  case agg xs =>
    simp only [pureA, List.all_eq_true] at hx
    obtain ⟨us, rfl, l1, l2, l3⟩ := rep_agg r
    exact .agg us l1 l2 (fun j a b => prep_pure (l3 j a b) (hx _ (List.getElem_mem _)))
  case fn f xs ys =>
    cases f
    case func g =>
      simp only [pureA, Bool.and_eq_true, List.all_eq_true] at hx
      cases r with
      | pure p => exact p
      | fn us vs hf h1 h2 r1 r2 => exact .fn us vs hf h1 h2 (fun j a b => prep_pure (r1 j a b) (hx.1 _ (List.getElem_mem _))) (fun j a b => prep_pure (r2 j a b) (hx.2 _ (List.getElem_mem _)))
    all_goals exact prep_pure r hx
  all_goals exact prep_pure r hx

omit [Base] in
theorem wp_call {a : Act} {w : World} {f : FuncId} {args : Array Value} {next : Act → World → Prop} {Q : Exit → Act → World → Prop} {R : Ending → World → Prop} (hnd : ∀ c, o.op ≠ .defer c)
    (hrun : (execOp a.eval o).run P w = .ok (.enter f args) w) (hc : CallsIn (FW none) 0 P f args w R) (hR : ∀ e w', R e w' → ∃ v, e = .returned v ∧ next (a.put o.dst v) w') : o.wpIn (FW r) 0 P a w next Q := by
  refine ⟨fun _ _ => trivial, ?_⟩
  rw [Oper.semAt_eq _ _ _ hnd, hrun]
  refine ⟨fun hh => by simp [FW] at hh, ?_⟩
  have hc' : CallsIn (FW r) 0 P f args w R := hc
  refine hc'.mono fun e w' he => ?_
  obtain ⟨v, rfl, hv⟩ := hR e w' he
  exact hv

omit [Base] in
theorem getElem_append3 {α : Type} {β : Type} {R : α → β → Prop} {xs ys zs : List α} {us vs ws : List β} (h1 : xs.length = us.length) (h2 : ys.length = vs.length)
    (r1 : ∀ j (a : j < xs.length) (b : j < us.length), R xs[j] us[j]) (r2 : ∀ j (a : j < ys.length) (b : j < vs.length), R ys[j] vs[j]) (r3 : ∀ j (a : j < zs.length) (b : j < ws.length), R zs[j] ws[j]) :
    ∀ j (a : j < (xs ++ ys ++ zs).length) (b : j < (us ++ vs ++ ws).length), R (xs ++ ys ++ zs)[j] (us ++ vs ++ ws)[j] := by
  intro j a b
  have key : ∀ x u, (xs ++ ys ++ zs)[j]? = some x → (us ++ vs ++ ws)[j]? = some u → R x u := by
    intro x u hx hu
    rw [List.append_assoc] at hx hu
    by_cases hj : j < xs.length
    · rw [List.getElem?_append_left hj] at hx
      rw [List.getElem?_append_left (by omega)] at hu
      obtain ⟨a1, rfl⟩ := List.getElem?_eq_some_iff.1 hx
      obtain ⟨b1, rfl⟩ := List.getElem?_eq_some_iff.1 hu
      exact r1 _ _ _
    · rw [List.getElem?_append_right (by omega)] at hx
      rw [List.getElem?_append_right (by omega), ← h1] at hu
      by_cases hj2 : j - xs.length < ys.length
      · rw [List.getElem?_append_left hj2] at hx
        rw [List.getElem?_append_left (by omega)] at hu
        obtain ⟨a1, rfl⟩ := List.getElem?_eq_some_iff.1 hx
        obtain ⟨b1, rfl⟩ := List.getElem?_eq_some_iff.1 hu
        exact r2 _ _ _
      · rw [List.getElem?_append_right (by omega)] at hx
        rw [List.getElem?_append_right (by omega), ← h2] at hu
        obtain ⟨a1, rfl⟩ := List.getElem?_eq_some_iff.1 hx
        obtain ⟨b1, rfl⟩ := List.getElem?_eq_some_iff.1 hu
        exact r3 _ _ _
  exact key _ _ (List.getElem?_eq_getElem _) (List.getElem?_eq_getElem _)

theorem sound_call {f : Operand} {args : Array Operand} {ts : Array TypeId} {K : E → Prop} {nx : Nat} (ho : o.op = .call ⟨.value f, args, ts⟩) (hk : effK P o ρ h nx K) : ∃ e, K e ∧ OpOK P w0 r o ρ h e := by
  simp only [effK, ho] at hk
  cases hf : ρ f <;> simp only [hf] at hk
  case fn fnn first caps =>
    cases fnn <;> simp only at hk
    case func g =>
      obtain ⟨hp, res, ⟨hent, hcall⟩, hK⟩ := hk
      refine ⟨_, hK, fun h' m w ac next Q hrd _ hg hop hnext => ?_⟩
      have h1 := hop f (by simp [ho, Op.operands, Call.operands]); rw [hf] at h1
      obtain ⟨us, vs, he, l1, l2, r1, r2⟩ := rep_fn h1
      have hargs : ∀ j (a : j < (args.toList.map ρ).length) (c : j < (args.toList.map ac.eval).length), Rep h' m w (args.toList.map ρ)[j] (args.toList.map ac.eval)[j] := by
        intro j a c
        simp only [List.getElem_map]
        exact hop _ (by simp [ho, Op.operands, Call.operands])
      have hlen : (first ++ args.toList.map ρ ++ caps).length = (us ++ args.toList.map ac.eval ++ vs).length := by simp [l1, l2]
      have hreps := getElem_append3 l1 (by simp) r1 hargs r2
      have hc := hcall w (us ++ args.toList.map ac.eval ++ vs) (Ok m w) (fun c hc => hc.1) hlen (fun j a b => pure_prep (hreps j a b) (hp _ (List.getElem_mem _)))
      have hrun : (execOp ac.eval o).run P w = .ok (.enter g (us ++ args.toList.map ac.eval ++ vs).toArray) w := by
        have e1 : us.toArray ++ args.map ac.eval ++ vs.toArray = (us ++ args.toList.map ac.eval ++ vs).toArray := by
          apply Array.toList_inj.1; simp
        simp only [execOp, ho, resolve, he, Deferred.ofValue, Sem.run_bind, Sem.run_pure, Result.andThen_ok, invoke]
        rw [e1]
        exact hent w _
      refine wp_call (by simp [ho]) hrun hc (fun e w' hR => ?_)
      obtain ⟨v, rfl, hv, hb⟩ := hR
      obtain ⟨g1, e1⟩ := hg.garbage hb
      refine ⟨v, rfl, hnext v w' m g1 e1 (.pure (hv.mono (fun _ _ => rfl) (fun c hc => ?_)))⟩
      rcases hc with hc | hc
      · exact ⟨Nat.lt_of_lt_of_le hc.1 hb.size, hc.2⟩
      · refine ⟨hc.2, fun b l hl he => ?_, hg.fresh _ (Nat.le_trans hg.below.size hc.1)⟩
        have := hg.lt hl
        omega
    all_goals exact hk.elim
  all_goals exact hk.elim

/-- EVERY OPERATION. -/
theorem effK_sound {nx : Nat} {K : E → Prop} (hn : h nx = none) (hk : effK P o ρ h nx K) : ∃ e, K e ∧ OpOK P w0 r o ρ h e := by
  cases ho : o.op
  case move x => simp only [effK, ho] at hk; exact ⟨_, hk, sound_move ho⟩
  case assign x => simp only [effK, ho] at hk; exact ⟨_, hk, sound_assign ho⟩
  case pick c a b =>
    simp only [effK, ho] at hk
    cases hc : ρ c <;> simp only [hc] at hk
    case bool q =>
      have := sound_pick (P := P) (w0 := w0) (r := r) (h := h) ho hc
      cases q
      · exact ⟨_, hk, by simpa using this⟩
      · exact ⟨_, hk, by simpa using this⟩
    all_goals exact hk.elim
  case alloc t => exact sound_alloc ho hn hk
  case box t x => exact sound_box ho hn hk
  case build t ps => exact sound_build ho (by simp only [effK, ho] at hk ⊢; exact hk)
  case buildSlice t n ps => exact sound_buildSlice ho (by simp only [effK, ho] at hk ⊢; exact hk)
  case load t a => exact sound_load ho (by simp only [effK, ho] at hk ⊢; exact hk)
  case store t a x => exact sound_store ho (by simp only [effK, ho] at hk ⊢; exact hk)
  case nilCheck x => exact sound_nilCheck ho (by simp only [effK, ho] at hk ⊢; exact hk)
  case binOp op t x y t' => simp only [effK, ho] at hk; exact sound_bin ho hk
  case unOp op t x => simp only [effK, ho] at hk; exact sound_un ho hk
  case convert s d x =>
    simp only [effK, ho] at hk
    cases hd : tint P d with
    | none => simp [hd] at hk
    | some k =>
      cases hx : ρ x <;> simp only [hd, hx] at hk
      case int k0 n =>
        obtain ⟨hs, hk⟩ := hk
        obtain ⟨h1, h2⟩ := sound_convert (w0 := w0) (r := r) (h := h) (K := fun v => K ⟨v, [], none⟩) ho hs hd hx hk
        exact ⟨_, h1, h2⟩
      all_goals exact hk.elim
  case makeFunc f a b => simp only [effK, ho] at hk; exact ⟨_, hk.2, sound_makeFunc ho hk.1⟩
  case makeMap t q =>
    cases q with
    | none => exact sound_makeMap ho hn hk
    | some q => simp only [effK, ho] at hk
  case makeSlice t l c => exact sound_makeSlice ho hn hk
  case slice t x lo hi mx =>
    cases mx with
    | none => exact sound_slice ho (by simp only [effK, ho] at hk ⊢; exact hk)
    | some q => simp only [effK, ho] at hk
  case fieldAddr s x f => exact sound_fieldAddr ho (by simp only [effK, ho] at hk ⊢; exact hk)
  case field t x f => exact sound_field ho (by simp only [effK, ho] at hk ⊢; exact hk)
  case indexAddr t x i => exact sound_indexAddr ho (by simp only [effK, ho] at hk ⊢; exact hk)
  case index t x i => exact sound_index ho (by simp only [effK, ho] at hk ⊢; exact hk)
  case lookup t x k ok => exact sound_lookup ho (by simp only [effK, ho] at hk ⊢; exact hk)
  case mapUpdate t x k v => exact sound_mapUpdate ho (by simp only [effK, ho] at hk ⊢; exact hk)
  case extract x i =>
    simp only [effK, ho] at hk
    cases hx : ρ x <;> simp only [hx] at hk
    case tup xs =>
      cases hy : xs[i]? with
      | none => simp [hy] at hk
      | some y => simp only [hy] at hk; exact ⟨_, hk, sound_extract ho hx hy⟩
    all_goals exact hk.elim
  case call c =>
    obtain ⟨callee, args, ts⟩ := c
    cases callee
    case value f => exact sound_call ho hk
    case invoke a b => simp only [effK, ho] at hk
    case builtin b =>
      simp only [effK, ho] at hk
      obtain ⟨tl⟩ := ts
      obtain ⟨al⟩ := args
      cases b
      case max => simp only [builtinK] at hk; exact sound_mm (isMax := true) ho hk
      case min => simp only [builtinK] at hk; exact sound_mm (isMax := false) ho hk
      case len =>
        match tl, al with
        | [t], [x] => exact sound_len (nx := nx) ho hk
        | [], _ => simp only [builtinK] at hk
        | [_], [] => simp only [builtinK, List.map_nil] at hk
        | [_], _ :: _ :: _ => simp only [builtinK, List.map_cons] at hk
        | _ :: _ :: _, _ => simp only [builtinK] at hk
      case append =>
        match tl, al with
        | [t, t'], [x, y] => exact sound_append ho hn hk
        | [], _ => simp only [builtinK] at hk
        | [_], _ => simp only [builtinK] at hk
        | [_, _], [] => simp only [builtinK, List.map_nil] at hk
        | [_, _], [_] => simp only [builtinK, List.map_cons, List.map_nil] at hk
        | [_, _], _ :: _ :: _ :: _ => simp only [builtinK, List.map_cons] at hk
        | _ :: _ :: _ :: _, _ => simp only [builtinK] at hk
      case delete =>
        match tl, al with
        | [t, t'], [x, y] => exact sound_delete (nx := nx) ho hk
        | [], _ => simp only [builtinK] at hk
        | [_], _ => simp only [builtinK] at hk
        | [_, _], [] => simp only [builtinK, List.map_nil] at hk
        | [_, _], [_] => simp only [builtinK, List.map_cons, List.map_nil] at hk
        | [_, _], _ :: _ :: _ :: _ => simp only [builtinK, List.map_cons] at hk
        | _ :: _ :: _ :: _, _ => simp only [builtinK] at hk
      all_goals (simp only [builtinK] at hk)
  all_goals (simp only [effK, ho] at hk)

end
end Go.Am
