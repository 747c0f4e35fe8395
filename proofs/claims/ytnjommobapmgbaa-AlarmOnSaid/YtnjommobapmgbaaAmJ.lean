/- The abstract machine Am, part J: maps, calls; every operation. -/
import Derived.Test.YtnjommobapmgbaaAmI
namespace Go.Am
open Go.RowKit
variable [Base]

section
variable {P : Program} {w0 : World} {r : Option Nat} {o : Oper} {ρ : Operand → AV} {h : Nat → Option ABlk}

theorem sound_append {t t' : TypeId} {s x : Operand} {nx : Nat} {K : E → Prop} (ho : o.op = .call ⟨.builtin .append, #[s, x], #[t, t']⟩) (hn : h nx = none) (hk : builtinK P .append #[t, t'] [ρ s, ρ x] h nx K) : ∃ e, K e ∧ OpOK P w0 r o ρ h e := by
  simp only [builtinK] at hk
  obtain ⟨rfl, hk⟩ := hk
  cases ht : tslice P t with
  | none => simp [ht] at hk
  | some e =>
    simp only [ht] at hk
    cases hs : tsz P e with
    | none => simp [hs] at hk
    | some sz =>
      cases hby : tbytes P e with
      | none => simp [hs, hby] at hk
      | some bys =>
        cases hz : tzero P e with
        | none => simp [hs, hby, hz] at hk
        | some zs =>
          simp only [hs, hby, hz] at hk
          obtain ⟨hzl, hpos, hk⟩ := hk
          have hrunE : ∀ (ac : Act) (w w' : World) (v : Value), (Builtin.append_ #[t, t] o.type #[ac.eval s, ac.eval x]).run P w = .ok v w' → (execOp ac.eval o).run P w = .ok (.value v) w' := by
            intro ac w w' v hr
            rw [run_call_builtin ho]
            simp only [builtin, Sem.run_bind]
            have : (#[s, x].map ac.eval) = #[ac.eval s, ac.eval x] := by simp
            rw [this, hr]
            rfl
          cases hx : ρ x <;> simp only [hx] at hk
          case psl full n ys =>
            obtain ⟨hyl, hk⟩ := hk
            cases hsv : ρ s <;> simp only [hsv] at hk
            case nils =>
              obtain ⟨hb, h63, hk⟩ := hk
              refine ⟨_, hk, fun h' m w ac next Q _ hwr hg hop hnext => ?_⟩
              have hb' : h' nx = none := (hwr nx _ rfl).trans hn
              have h1 := hop s (by simp [ho, Op.operands, Call.operands]); rw [hsv] at h1
              have h2 := hop x (by simp [ho, Op.operands, Call.operands]); rw [hx] at h2
              obtain ⟨v, w', m', hrun, g1, e1, r1⟩ := append_core (ty := o.type) (b := nx) (g := 0) (len := 0) (xs := []) (sv := ac.eval s) ht hs hby hz hzl hpos hyl (by simp) (by simpa using hb) (by simpa using h63) hg (rep_psl h2) (.inl ⟨hb', rep_nils h1, rfl, rfl⟩)
              simp only [List.nil_append, Nat.zero_add] at g1 e1 r1
              exact wp_val (by simp [ho]) (hrunE ac w w' v hrun) (hnext _ _ _ g1 e1 r1)
            case osl b g off len =>
              cases hb : h b with
              | none => simp [hb] at hk
              | some k =>
                cases k <;> simp only [hb] at hk
                case cells e' sz' g' xs =>
                  obtain ⟨rfl, rfl, rfl, rfl, hxl, hbb, h63, hk⟩ := hk
                  refine ⟨_, hk, fun h' m w ac next Q _ hwr hg hop hnext => ?_⟩
                  have hb' : h' b = some (.cells e' sz' g xs) := (hwr b _ rfl).trans hb
                  have h1 := hop s (by simp [ho, Op.operands, Call.operands]); rw [hsv] at h1
                  have h2 := hop x (by simp [ho, Op.operands, Call.operands]); rw [hx] at h2
                  obtain ⟨v, w', m', hrun, g1, e1, r1⟩ := append_core (ty := o.type) (g := g + 1) (sv := ac.eval s) ht hs hby hz hzl hpos hyl hxl hbb h63 hg (rep_psl h2) (.inr ⟨g, hb', rfl, h1⟩)
                  exact wp_val (by simp [ho]) (hrunE ac w w' v hrun) (hnext _ _ _ g1 e1 r1)
                all_goals exact hk.elim
            all_goals exact hk.elim
          all_goals exact hk.elim

/-- The entry of an integer key. -/
theorem mapFind_run {h' : Nat → Option ABlk} {m : Nat → Option Loc} {w : World} {kt : TypeId} {kk kk' : IntKind} {n : Int} (hu : P.underlying kt = some (.int kk')) : ∀ (es : List (AV × AV)) (arr : List MapEntry) (f : Option (Nat × AV)) (i0 : Nat),
    mapFind es (.int kk n) = some f → es.length = arr.length → (∀ j (a : j < es.length) (b : j < arr.length), Rep h' m w (es[j]).1 (arr[j]).key ∧ Rep h' m w (es[j]).2 (arr[j]).val) →
    (f = none → Instr.findNow (.int kk') (.int kk n) arr i0 = some none) ∧
    (∀ i v, f = some (i, v) → i < es.length ∧ ∃ u, Instr.findNow (.int kk') (.int kk n) arr i0 = some (some (i0 + i, u)) ∧ Rep h' m w v u ∧ ∃ e, arr[i]? = some e ∧ e.key = .int kk n)
  | [], [], f, i0, hf, _, _ => by
    simp only [mapFind, Option.some.injEq] at hf
    subst hf
    exact ⟨fun _ => rfl, fun i v hv => by cases hv⟩
  | (k0, v0) :: es, e0 :: arr, f, i0, hf, hl, hr => by
    have h0 := hr 0 (by simp) (by simp)
    simp only [List.getElem_cons_zero] at h0
    cases k0 <;> simp only [mapFind, reduceCtorEq] at hf
    case int kx a =>
      split at hf
      · rename_i hkk; subst hkk
        have hke := rep_int h0.1
        split at hf
        · rename_i han; subst han
          simp only [Option.some.injEq] at hf; subst hf
          refine ⟨(fun hh => by cases hh), fun i v hv => ?_⟩
          simp only [Option.some.injEq, Prod.mk.injEq] at hv
          obtain ⟨rfl, rfl⟩ := hv
          refine ⟨by simp, e0.val, ?_, h0.2, e0, by simp, hke⟩
          simp [Instr.findNow, hke, Instr.sameNow]
        · rename_i han
          cases hrec : mapFind es (.int kx n) with
          | none => simp [hrec] at hf
          | some f' =>
            simp only [hrec, Option.map_some, Option.some.injEq] at hf
            obtain ⟨ih1, ih2⟩ := mapFind_run hu es arr f' (i0 + 1) hrec (by simpa using hl) (fun j a b => by have := hr (j + 1) (by simpa using a) (by simpa using b); simpa using this)
            have hstep : Instr.findNow (.int kk') (.int kx n) (e0 :: arr) i0 = Instr.findNow (.int kk') (.int kx n) arr (i0 + 1) := by
              have : (n == a) = false := by simp; exact fun h => han h.symm
              simp [Instr.findNow, hke, Instr.sameNow, this]
            refine ⟨fun hh => ?_, fun i v hv => ?_⟩
            · rw [hstep]; apply ih1
              cases f' with
              | none => rfl
              | some q => rw [hh] at hf; simp at hf
            · cases f' with
              | none => rw [hv] at hf; simp at hf
              | some q =>
                obtain ⟨q1, q2⟩ := q
                rw [hv] at hf
                simp only [Option.map_some, Option.some.injEq, Prod.mk.injEq] at hf
                obtain ⟨rfl, rfl⟩ := hf
                obtain ⟨hi, u, h1, h2, e, h3, h4⟩ := ih2 q1 q2 rfl
                exact ⟨by simp; omega, u, by rw [hstep, h1]; congr 2; congr 1; omega, h2, e, by simpa using h3, h4⟩
      · cases hf

omit [Base] in
theorem run_getMap {w : World} {c clk : Nat} {arr : Array MapEntry} (hh : w.heap[c]? = some (.map arr clk)) : (getObj c).run P w = .ok (.map arr clk) w := by simp [getObj, Sem.run, hh]
omit [Base] in
theorem run_checkKey_int {kt : TypeId} {kk kk' : IntKind} {n : Int} (hu : P.underlying kt = some (.int kk')) (em : Bool) (w : World) : (Instr.checkKey em 10000 kt (.int kk n)).run P w = .ok () w := by
  rw [show (10000 : Nat) = 9999 + 1 from rfl, Instr.checkKey]
  simp [run_underlying hu]
omit [Base] in
theorem run_findKey_int {kt : TypeId} {kk kk' : IntKind} {n : Int} (hu : P.underlying kt = some (.int kk')) {arr : List MapEntry} {f : Option (Nat × Value)} (hf : Instr.findNow (.int kk') (.int kk n) arr 0 = some f) (w : World) :
    (Instr.findKey kt (.int kk n) arr).run P w = .ok f w := by
  simp [Instr.findKey, run_underlying hu, hf]

theorem blk_map {h' : Nat → Option ABlk} {m : Nat → Option Loc} {w : World} {b : Nat} {es : List (AV × AV)} {l : Loc} (hg : Good w0 h' m w) (hb : h' b = some (.map es)) (hl : m b = some l) :
    ∃ arr clk, w.heap[l.c]? = some (.map arr clk) ∧ arr.size = es.length ∧ ∀ j (a : j < es.length) (c : j < arr.toList.length), Rep h' m w (es[j]).1 (arr.toList[j]).key ∧ Rep h' m w (es[j]).2 (arr.toList[j]).val := by
  obtain ⟨l', arr, clk, h1, h2, h3, h4⟩ := hg.blk b _ hb
  rw [h1] at hl; cases hl
  refine ⟨arr, clk, h2, h3, fun j a c => ?_⟩
  obtain ⟨e, he, hk, hv⟩ := h4 j a
  have : arr.toList[j] = e := by
    have h5 : arr.toList[j]? = some e := by simpa using he
    exact (List.getElem?_eq_some_iff.1 h5).2
  rw [this]; exact ⟨hk, hv⟩

theorem tzv_spec {t : TypeId} {z : AV} (h : tzv P t = some z) (hz : zeroOK z = true) : ∃ v, (∀ w : World, (zeroValue t).run P w = .ok v w) ∧ ∀ (h' : Nat → Option ABlk) (m : Nat → Option Loc) (w : World), Rep h' m w z v := by
  unfold tzv at h
  cases hi : P.info? t with
  | none => simp [hi] at h
  | some i =>
    cases hzz : i.zero with
    | none => simp [hi, hzz] at h
    | some v =>
      simp only [hi, hzz, Option.bind_some, Option.map_some, Option.some.injEq] at h
      refine ⟨v, fun w => by simp [zeroValue, typeInfo, hi, hzz], fun h' m w => ?_⟩
      have hc : ∀ u, zeroAV u = constAV u → zeroAV u = z → Rep h' m w z u := by
        intro u hu1 hu2
        rw [hu1] at hu2
        subst hu2
        refine .pure (const_rep ?_).1
        cases hca : constAV u <;> rw [hca] at hz <;> simp_all [zeroOK, cellPure]
        unfold constAV at hca; split at hca <;> cases hca
      cases v
      case agg cs =>
        simp only [zeroAV] at h
        subst h
        simp only [zeroOK, List.all_eq_true] at hz
        have := zero_rep (h' := h') (m := m) (w := w) (us := cs.toList) hz
        exact .agg cs.toList this.1 this.2.1 this.2.2
      all_goals exact hc _ rfl h

theorem sound_lookup {t : TypeId} {x k : Operand} {ok : Bool} {K : E → Prop} (ho : o.op = .lookup t x k ok) (hk : effK P o ρ h 0 K) : ∃ e, K e ∧ OpOK P w0 r o ρ h e := by
  simp only [effK, ho] at hk
  cases ht : tmap P t with
  | none => simp [ht] at hk
  | some q =>
    obtain ⟨kt, vt⟩ := q
    cases hx : ρ x <;> cases hkk : ρ k <;> simp only [ht, hx, hkk] at hk
    case map.int b kk n =>
      obtain ⟨hki, hk⟩ := hk
      obtain ⟨kk', hki⟩ := Option.isSome_iff_exists.1 hki
      have hu := tint_spec hki
      cases hb : h b with
      | none => simp [hb] at hk
      | some blk =>
        cases hz : tzv P vt with
        | none => cases blk <;> simp [hb, hz] at hk
        | some z =>
          cases blk <;> simp only [hb, hz] at hk
          case map es =>
            obtain ⟨hzok, hk⟩ := hk
            cases hf : mapFind es (.int kk n) with
            | none => simp [hf] at hk
            | some f =>
              obtain ⟨zv, hzv, hzr⟩ := tzv_spec hz hzok
              have main : ∀ {x' : AV}, K ⟨if ok then .tup [x', .bool f.isSome] else x', [b], none⟩ → (f = none → x' = z) → (∀ i v, f = some (i, v) → x' = v) → ∃ e, K e ∧ OpOK P w0 r o ρ h e := by
                intro x' hK hno hyes
                refine ⟨_, hK, ok_pure (by simp [ho]) fun h' m w ac hrd hg hop => ?_⟩
                have hb' : h' b = some (.map es) := (hrd b (by simp)).trans hb
                have h1 := hop x (by simp [ho, Op.operands]); rw [hx] at h1
                have h2 := hop k (by simp [ho, Op.operands]); rw [hkk] at h2
                obtain ⟨l, hm, hv⟩ := rep_map h1
                obtain ⟨arr, clk, hheap, hsz, hrep⟩ := blk_map hg hb' hm
                obtain ⟨f1, f2⟩ := mapFind_run hu es arr.toList f 0 hf (by simpa using hsz.symm) hrep
                have hfin : ∀ u, Rep h' m w x' u → Rep h' m w (if ok then .tup [x', .bool f.isSome] else x') (if ok then .tuple #[u, .bool f.isSome] else u) := by
                  intro u hu'
                  cases ok
                  · exact hu'
                  · refine .tup [u, .bool f.isSome] rfl (fun j a b => ?_)
                    match j, a with
                    | 0, _ => exact hu'
                    | 1, _ => exact .pure (.bool _)
                cases f with
                | none =>
                  refine ⟨_, ?_, hfin zv (by rw [hno rfl]; exact hzr _ _ _)⟩
                  simp only [execOp, ho, hv, rep_int h2, Instr.lookup, Sem.run_bind, run_underlying (tmap_spec ht), Result.andThen_ok, run_getMap hheap, Sem.run_pure, run_checkKey_int hu, run_findKey_int hu (f1 rfl), hzv]
                  rfl
                | some q =>
                  obtain ⟨i, v⟩ := q
                  obtain ⟨_, u, hfu, hru, _⟩ := f2 i v rfl
                  rw [hyes i v rfl] at hfin ⊢
                  refine ⟨_, ?_, hfin u hru⟩
                  simp only [execOp, ho, hv, rep_int h2, Instr.lookup, Sem.run_bind, run_underlying (tmap_spec ht), Result.andThen_ok, run_getMap hheap, Sem.run_pure, run_checkKey_int hu, run_findKey_int hu hfu]
                  rfl
              cases f with
              | some q =>
                obtain ⟨i, v⟩ := q
                simp only [hf] at hk
                exact main (x' := v) hk (by simp) (by simp)
              | none =>
                simp only [hf] at hk
                exact main (x' := z) hk (fun _ => rfl) (by simp)
          all_goals exact hk.elim
    all_goals exact hk.elim

omit [Base] in
theorem run_setMap {w : World} {c clk : Nat} {arr : Array MapEntry} (ob : Obj) (hh : w.heap[c]? = some (.map arr clk)) : (setObj c ob).run P w = .ok () { w with heap := w.heap.setIfInBounds c ob } := by simp [setObj, Sem.run, hh]

/-- A map is written anew. -/
theorem good_setMap {h' : Nat → Option ABlk} {m : Nat → Option Loc} {w : World} {b clk clk' : Nat} {es es' : List (AV × AV)} {l : Loc} {arr arr' : Array MapEntry} (hg : Good w0 h' m w) (hb : h' b = some (.map es)) (hm : m b = some l)
    (hheap : w.heap[l.c]? = some (.map arr clk)) (hsz : arr'.size = es'.length)
    (hr : ∀ j (hj : j < es'.length), ∃ e, arr'[j]? = some e ∧ Rep h' m w (es'[j]).1 e.key ∧ Rep h' m w (es'[j]).2 e.val) :
    Good w0 (upd h' b (some (.map es'))) (upd m b (some l)) { w with heap := w.heap.setIfInBounds l.c (.map arr' clk') } ∧ Ext h' m w (upd h' b (some (.map es'))) (upd m b (some l)) { w with heap := w.heap.setIfInBounds l.c (.map arr' clk') } := by
  have hsize : w.heap.size ≤ ({ w with heap := w.heap.setIfInBounds l.c (.map arr' clk') } : World).heap.size := by simp
  have hsame : ∀ c, c < w.heap.size → (∀ l0, m b = some l0 → l0.c ≠ c) → ({ w with heap := w.heap.setIfInBounds l.c (.map arr' clk') } : World).heap[c]? = w.heap[c]? :=
    fun c _ hne => Array.getElem?_setIfInBounds_ne (hne l hm)
  have hfits : ∀ k0, h' b = some k0 → Fits k0 (.map es') (m b ≠ some l) := by intro k0 hk0; rw [hb] at hk0; cases hk0; exact fun hne => hne hm
  have e1 := ext_put (k := .map es') (l' := l) hg hsize hsame (.inl hm) hfits
  refine ⟨good_put hg rfl rfl rfl hsize hsame (.inl hm) hfits ?_ (by simp), e1⟩
  refine ⟨l, arr', clk', upd_same _ _ _, Array.getElem?_setIfInBounds_self_of_lt (lt_of_heap hheap), hsz, fun j hj => ?_⟩
  obtain ⟨e, h1, h2, h3⟩ := hr j hj
  exact ⟨e, h1, h2.ext e1, h3.ext e1⟩

theorem sound_mapUpdate {t : TypeId} {x k v : Operand} {K : E → Prop} (ho : o.op = .mapUpdate t x k v) (hk : effK P o ρ h 0 K) : ∃ e, K e ∧ OpOK P w0 r o ρ h e := by
  simp only [effK, ho] at hk
  cases ht : tmap P t with
  | none => simp [ht] at hk
  | some q =>
    obtain ⟨kt, vt⟩ := q
    cases hx : ρ x <;> cases hkk : ρ k <;> simp only [ht, hx, hkk] at hk
    case map.int b kk n =>
      obtain ⟨hki, hk⟩ := hk
      obtain ⟨kk', hki⟩ := Option.isSome_iff_exists.1 hki
      have hu := tint_spec hki
      cases hb : h b with
      | none => simp [hb] at hk
      | some blk =>
        cases blk <;> simp only [hb] at hk
        case map es =>
          cases hf : mapFind es (.int kk n) with
          | none => simp [hf] at hk
          | some f =>
            cases f with
            | none =>
              simp only [hf] at hk
              refine ⟨_, hk, fun h' m w ac next Q _ hwr hg hop hnext => ?_⟩
              have hb' : h' b = some (.map es) := (hwr b _ rfl).trans hb
              have h1 := hop x (by simp [ho, Op.operands]); rw [hx] at h1
              have h2 := hop k (by simp [ho, Op.operands]); rw [hkk] at h2
              have h3 := hop v (by simp [ho, Op.operands])
              obtain ⟨l, hm, hv⟩ := rep_map h1
              obtain ⟨arr, clk, hheap, hsz, hrep⟩ := blk_map hg hb' hm
              obtain ⟨f1, _⟩ := mapFind_run hu es arr.toList none 0 hf (by simpa using hsz.symm) hrep
              obtain ⟨g1, e1⟩ := good_setMap (es' := es ++ [(.int kk n, ρ v)]) (arr' := arr.push { key := .int kk n, val := ac.eval v, born := clk }) (clk' := clk + 1) hg hb' hm hheap (by simp [hsz]) (fun j hj => by
                by_cases hj1 : j < es.length
                · have hj2 : j < arr.toList.length := by simpa [hsz] using hj1
                  refine ⟨arr.toList[j], ?_, ?_⟩
                  · rw [Array.getElem?_push, if_neg (by omega)]; simp
                  · rw [List.getElem_append_left hj1]; exact hrep j hj1 hj2
                · have hj3 : j = es.length := by simp at hj; omega
                  subst hj3
                  refine ⟨_, by rw [Array.getElem?_push, if_pos (by omega)], ?_⟩
                  simp only [List.getElem_append_right (Nat.le_refl _), Nat.sub_self, List.getElem_cons_zero]
                  exact ⟨.pure (.int _ _), h3⟩)
              refine wp_skip (by simp [ho]) ?_ (hnext _ _ _ g1 e1 (.junk _))
              simp only [execOp, ho, hv, rep_int h2, Instr.mapUpdate, Sem.run_bind, run_underlying (tmap_spec ht), Result.andThen_ok, run_getMap hheap, run_checkKey_int hu, run_findKey_int hu (f1 rfl), run_setMap _ hheap, Sem.run_pure]
            | some q =>
              obtain ⟨i, v0⟩ := q
              simp only [hf] at hk
              refine ⟨_, hk, fun h' m w ac next Q _ hwr hg hop hnext => ?_⟩
              have hb' : h' b = some (.map es) := (hwr b _ rfl).trans hb
              have h1 := hop x (by simp [ho, Op.operands]); rw [hx] at h1
              have h2 := hop k (by simp [ho, Op.operands]); rw [hkk] at h2
              have h3 := hop v (by simp [ho, Op.operands])
              obtain ⟨l, hm, hv⟩ := rep_map h1
              obtain ⟨arr, clk, hheap, hsz, hrep⟩ := blk_map hg hb' hm
              obtain ⟨_, f2⟩ := mapFind_run hu es arr.toList _ 0 hf (by simpa using hsz.symm) hrep
              obtain ⟨hi, u, hfu, _, en, hen, hek⟩ := f2 i v0 rfl
              have hen' : arr[i]? = some en := by simpa using hen
              obtain ⟨g1, e1⟩ := good_setMap (es' := es.set i (.int kk n, ρ v)) (arr' := arr.modify i fun e => { e with key := .int kk n, val := ac.eval v }) (clk' := clk) hg hb' hm hheap (by simp [hsz]) (fun j hj => by
                have hj1 : j < es.length := by simpa using hj
                have hj2 : j < arr.toList.length := by simpa [hsz] using hj1
                have hj3 : j < arr.size := by simpa using hj2
                by_cases hji : j = i
                · subst hji
                  refine ⟨{ en with key := .int kk n, val := ac.eval v }, ?_, ?_⟩
                  · rw [Array.getElem?_modify, if_pos rfl, hen']; rfl
                  · simp only [List.getElem_set_self]
                    exact ⟨.pure (.int _ _), h3⟩
                · refine ⟨arr.toList[j], ?_, ?_⟩
                  · rw [Array.getElem?_modify, if_neg (fun h => hji h.symm)]; simp
                  · rw [List.getElem_set_ne (fun h => hji h.symm)]; exact hrep j hj1 hj2)
              refine wp_skip (by simp [ho]) ?_ (hnext _ _ _ g1 e1 (.junk _))
              have hkeep : (Instr.keyThatStays (((arr[i]?).map (·.key)).getD (.int kk n)) (.int kk n)).run P w = .ok (.int kk n) w := by
                rw [hen']
                simp [Instr.keyThatStays, hek, Instr.sameBits]
              simp only [Nat.zero_add] at hfu
              simp only [execOp, ho, hv, rep_int h2, Instr.mapUpdate, Sem.run_bind, run_underlying (tmap_spec ht), Result.andThen_ok, run_getMap hheap, run_checkKey_int hu, run_findKey_int hu hfu, hkeep, run_setMap _ hheap, Sem.run_pure]
        all_goals exact hk.elim
    all_goals exact hk.elim

theorem sound_delete {t t' : TypeId} {x k : Operand} {nx : Nat} {K : E → Prop} (ho : o.op = .call ⟨.builtin .delete, #[x, k], #[t, t']⟩) (hk : builtinK P .delete #[t, t'] [ρ x, ρ k] h nx K) : ∃ e, K e ∧ OpOK P w0 r o ρ h e := by
  cases hx : ρ x <;> simp only [builtinK, hx] at hk
  case map b =>
    cases ht : tmap P t with
    | none => simp [ht] at hk
    | some q =>
      obtain ⟨kt, vt⟩ := q
      cases hb : h b with
      | none => simp [ht, hb] at hk
      | some blk =>
        cases blk <;> simp only [ht, hb] at hk
        case map es =>
          obtain ⟨hki, hk⟩ := hk
          obtain ⟨kk', hki⟩ := Option.isSome_iff_exists.1 hki
          have hu := tint_spec hki
          cases hkk : ρ k <;> simp only [hkk] at hk
          case int kk n =>
            cases hf : mapFind es (.int kk n) with
            | none => simp [hf] at hk
            | some f =>
              have hrunE : ∀ (ac : Act) (w w' : World), (Builtin.delete_ #[t, t'] o.type #[ac.eval x, ac.eval k]).run P w = .ok (.tuple #[]) w' → (execOp ac.eval o).run P w = .ok (.value (.tuple #[])) w' := by
                intro ac w w' hr
                rw [run_call_builtin ho]
                simp only [builtin, Sem.run_bind]
                have : (#[x, k].map ac.eval) = #[ac.eval x, ac.eval k] := by simp
                rw [this, hr]
                rfl
              cases f with
              | none =>
                simp only [hf] at hk
                refine ⟨_, hk, fun h' m w ac next Q _ hwr hg hop hnext => ?_⟩
                have hb' : h' b = some (.map es) := (hwr b _ rfl).trans hb
                have h1 := hop x (by simp [ho, Op.operands, Call.operands]); rw [hx] at h1
                have h2 := hop k (by simp [ho, Op.operands, Call.operands]); rw [hkk] at h2
                obtain ⟨l, hm, hv⟩ := rep_map h1
                obtain ⟨arr, clk, hheap, hsz, hrep⟩ := blk_map hg hb' hm
                obtain ⟨f1, _⟩ := mapFind_run hu es arr.toList none 0 hf (by simpa using hsz.symm) hrep
                obtain ⟨g1, e1⟩ := good_setMap (es' := es) (arr' := arr) (clk' := clk) hg hb' hm hheap hsz (fun j hj => by
                  have hj2 : j < arr.toList.length := by simpa [hsz] using hj
                  exact ⟨arr.toList[j], by simp, hrep j hj hj2⟩)
                refine wp_val (by simp [ho]) (hrunE ac w _ ?_) (hnext _ _ _ g1 e1 (.junk _))
                simp only [Builtin.delete_, List.getElem?_toArray, List.getElem?_cons_zero, List.getElem?_cons_succ, hv, rep_int h2, Sem.run_bind, run_underlying (tmap_spec ht), Result.andThen_ok, run_getMap hheap, run_checkKey_int hu, run_findKey_int hu (f1 rfl), run_setMap _ hheap, Sem.run_pure]
              | some q =>
                obtain ⟨i, v0⟩ := q
                simp only [hf] at hk
                refine ⟨_, hk, fun h' m w ac next Q _ hwr hg hop hnext => ?_⟩
                have hb' : h' b = some (.map es) := (hwr b _ rfl).trans hb
                have h1 := hop x (by simp [ho, Op.operands, Call.operands]); rw [hx] at h1
                have h2 := hop k (by simp [ho, Op.operands, Call.operands]); rw [hkk] at h2
                obtain ⟨l, hm, hv⟩ := rep_map h1
                obtain ⟨arr, clk, hheap, hsz, hrep⟩ := blk_map hg hb' hm
                obtain ⟨_, f2⟩ := mapFind_run hu es arr.toList _ 0 hf (by simpa using hsz.symm) hrep
                obtain ⟨hi, u, hfu, _, _⟩ := f2 i v0 rfl
                have hi' : i < arr.size := by omega
                obtain ⟨g1, e1⟩ := good_setMap (es' := es.eraseIdx i) (arr' := arr.eraseIdxIfInBounds i) (clk' := clk) hg hb' hm hheap (by rw [← Array.length_toList, Array.toList_eraseIdxIfInBounds]; simp [List.length_eraseIdx, hsz]) (fun j hj => by
                  have hjl : j < (es.eraseIdx i).length := hj
                  rw [List.length_eraseIdx, if_pos hi] at hjl
                  have hget : (arr.eraseIdxIfInBounds i)[j]? = if j < i then arr[j]? else arr[j + 1]? := by
                    rw [← Array.getElem?_toList, Array.toList_eraseIdxIfInBounds, List.getElem?_eraseIdx]
                    simp
                  have hxs : ∀ y, (es.eraseIdx i)[j]? = some y → ∃ e, (arr.eraseIdxIfInBounds i)[j]? = some e ∧ Rep h' m w y.1 e.key ∧ Rep h' m w y.2 e.val := by
                    intro y hy
                    rw [List.getElem?_eraseIdx] at hy
                    rw [hget]
                    by_cases hji : j < i
                    · simp only [hji, if_true] at hy ⊢
                      obtain ⟨a1, rfl⟩ := List.getElem?_eq_some_iff.1 hy
                      have a2 : j < arr.toList.length := by simp; omega
                      exact ⟨arr.toList[j], by simp, hrep j a1 a2⟩
                    · simp only [hji, if_false] at hy ⊢
                      obtain ⟨a1, rfl⟩ := List.getElem?_eq_some_iff.1 hy
                      have a2 : j + 1 < arr.toList.length := by simp; omega
                      exact ⟨arr.toList[j + 1], by simp, hrep (j + 1) a1 a2⟩
                  exact hxs _ (List.getElem?_eq_getElem _))
                refine wp_val (by simp [ho]) (hrunE ac w _ ?_) (hnext _ _ _ g1 e1 (.junk _))
                simp only [Nat.zero_add] at hfu
                simp only [Builtin.delete_, List.getElem?_toArray, List.getElem?_cons_zero, List.getElem?_cons_succ, hv, rep_int h2, Sem.run_bind, run_underlying (tmap_spec ht), Result.andThen_ok, run_getMap hheap, run_checkKey_int hu, run_findKey_int hu hfu, run_setMap _ hheap, Sem.run_pure]
          all_goals exact hk.elim
        all_goals exact hk.elim
  all_goals exact hk.elim

end
end Go.Am
