/- The abstract machine Am, part I: make, len, min, max, append. -/
import Derived.Test.YtnjommobapmgbaaAmH
import Derived.Laws.MakeOwn
namespace Go.Am
open Go.RowKit
variable [Base]

section
variable {P : Program} {w0 : World} {r : Option Nat} {o : Oper} {ρ : Operand → AV} {h : Nat → Option ABlk}

theorem good_map {h' : Nat → Option ABlk} {m : Nat → Option Loc} {w : World} {b : Nat} (hg : Good w0 h' m w) (hb : h' b = none) :
    Good w0 (upd h' b (some (.map []))) (upd m b (some ⟨w.heap.size, 0⟩)) (w.alloc (.map #[] 0)) ∧ Ext h' m w (upd h' b (some (.map []))) (upd m b (some ⟨w.heap.size, 0⟩)) (w.alloc (.map #[] 0)) := by
  have hsize : w.heap.size ≤ (w.alloc (.map #[] 0)).heap.size := by simp
  have hsame : ∀ c, c < w.heap.size → (∀ l, m b = some l → l.c ≠ c) → (w.alloc (.map #[] 0)).heap[c]? = w.heap[c]? := fun c hc _ => Below.heap_alloc w _ c hc
  have hfits : ∀ k0, h' b = some k0 → Fits k0 (.map []) (m b ≠ some ⟨w.heap.size, 0⟩) := by intro k0 hk0; rw [hb] at hk0; cases hk0
  refine ⟨good_put hg rfl rfl rfl hsize hsame (.inr (Nat.le_refl _)) hfits ?_ (by simp), ext_put hg hsize hsame (.inr (Nat.le_refl _)) hfits⟩
  exact ⟨_, _, _, upd_same _ _ _, Go.heap_alloc_new w _, rfl, fun j hj => by simp at hj⟩

theorem sound_makeMap {t : TypeId} {nx : Nat} {K : E → Prop} (ho : o.op = .makeMap t none) (hn : h nx = none) (hk : effK P o ρ h nx K) : ∃ e, K e ∧ OpOK P w0 r o ρ h e := by
  simp only [effK, ho] at hk
  refine ⟨_, hk, fun h' m w ac next Q _ hwr hg hop hnext => ?_⟩
  have hb' : h' nx = none := (hwr nx _ rfl).trans hn
  obtain ⟨g1, e1⟩ := good_map hg hb'
  refine wp_val (v := .map (some w.heap.size)) (w' := w.alloc (.map #[] 0)) (by simp [ho]) ?_ (hnext _ _ _ g1 e1 (.map (upd_same _ _ _) (upd_same _ _ _)))
  simp [execOp, ho, Instr.makeMap]

omit [Base] in
theorem tbytes_spec {t : TypeId} {n : Nat} {i : TypeInfo} (h : tbytes P t = some n) (hi : P.info? t = some i) : i.bytes = n := by
  simpa [tbytes, hi] using h
omit [Base] in
theorem tsz_info {t : TypeId} {n : Nat} {i : TypeInfo} (h : tsz P t = some n) (hi : P.info? t = some i) : i.size = n := by
  simpa [tsz, hi] using h

theorem sound_makeSlice {t : TypeId} {l c : Operand} {nx : Nat} {K : E → Prop} (ho : o.op = .makeSlice t l c) (hn : h nx = none) (hk : effK P o ρ h nx K) : ∃ e, K e ∧ OpOK P w0 r o ρ h e := by
  simp only [effK, ho] at hk
  cases ht : tslice P t with
  | none => simp [ht] at hk
  | some e =>
    simp only [ht] at hk
    cases hs : tsz P e with
    | none => simp [hs] at hk
    | some sz =>
      cases hby : tbytes P e with
      | none => simp [hs, hby] at hk
      | some bys =>
        cases hz : tzero P e with
        | none => simp [hs, hby, hz] at hk
        | some zs =>
          simp only [hs, hby, hz] at hk
          obtain ⟨hzl, hpos, hp, hk⟩ := hk
          cases hl : ρ l <;> cases hc : ρ c <;> simp only [hl, hc, makeK] at hk
          case int.int kl n kc n' =>
            obtain ⟨rfl, h0, hb48, hb63, hk⟩ := hk
            refine ⟨_, hk, fun h' m w ac next Q _ hwr hg hop hnext => ?_⟩
            have hb' : h' nx = none := (hwr nx _ rfl).trans hn
            obtain ⟨zv, hzv, rfl, it, hit, hitz⟩ := tzero_spec hz
            have hzsz : zv.cells.size = sz := by simpa using hzl
            have h1 := hop l (by simp [ho, Op.operands]); rw [hl] at h1
            have h2 := hop c (by simp [ho, Op.operands]); rw [hc] at h2
            obtain ⟨g1, e1⟩ := good_new (t := e) (sz := sz) (rest := []) hg hb' (Below.refl _ w) ((zero_rep (h' := h') (m := m) (w := w) hp).flatten n.toNat)
            simp only [List.append_nil] at g1 e1
            have hbi := tbytes_spec hby hit
            have hsi := tsz_info hs hit
            have hbig : (it.bytes : Int) * n ≤ 281474976710656 := by
              rw [hbi, ← Int.toNat_of_nonneg h0]
              have h : ((bys * n.toNat : Nat) : Int) ≤ 281474976710656 := by omega
              rwa [Int.natCast_mul] at h
            have hrun := run_make (P := P) w t e it zv (tslice_spec ht) hit hitz kl kc n n h0 (Int.le_refl _) hbig (by omega)
            have hz2 : madeCells zv.cells (n.toNat * it.size) = (List.replicate n.toNat zv.cells.toList).flatten.toArray := by
              apply Array.toList_inj.1
              rw [hsi, ← hzsz]
              exact zeros_toList zv.cells n.toNat (by omega)
            rw [hz2] at hrun
            refine wp_val (by simp [ho]) ?_ (hnext _ _ _ g1 e1 (.osl (v := .slice (some ⟨w.heap.size, 0, none⟩) n.toNat n.toNat) (upd_same _ _ _) (Nat.le_refl _) rfl (fun _ => .inr ⟨_, n.toNat, upd_same _ _ _, rfl, Nat.le_refl _, by simp [hzsz], by simp only [maxLen]; omega⟩)))
            simp only [execOp, ho, rep_int h1, rep_int h2, Sem.run_bind, hrun, Result.andThen_ok, Sem.run_pure]
          all_goals exact hk.elim

omit [Base] in
theorem run_call_builtin {b : Builtin} {args : Array Operand} {ts : Array TypeId} (ho : o.op = .call ⟨.builtin b, args, ts⟩) (ac : Act) (w : World) :
    (execOp ac.eval o).run P w = (builtin b ts o.type (args.map fun | .const _ => true | _ => false) (args.map ac.eval)).run P w := by
  simp [execOp, ho, resolve, invoke]
  rfl

theorem sound_len {t : TypeId} {x : Operand} {nx : Nat} {K : E → Prop} (ho : o.op = .call ⟨.builtin .len, #[x], #[t]⟩) (hk : builtinK P .len #[t] [ρ x] h nx K) : ∃ e, K e ∧ OpOK P w0 r o ρ h e := by
  have fin : ∀ (ac : Act) (w : World) (n : Nat), (Builtin.len_ #[t] o.type #[ac.eval x]).run P w = .ok (goInt n) w → (execOp ac.eval o).run P w = .ok (.value (.int .i64 n)) w := by
    intro ac w n hr
    rw [run_call_builtin ho]
    simp [builtin, hr, goInt]
  cases hx : ρ x <;> simp only [builtinK, hx] at hk
  case psl full n xs =>
    obtain ⟨ht, hk⟩ := hk
    obtain ⟨e, ht⟩ := Option.isSome_iff_exists.1 ht
    refine ⟨_, hk, ok_pure (by simp [ho]) fun h' m w ac hrd hg hop => ⟨_, fin ac w n ?_, .pure (.int _ _)⟩⟩
    have h1 := hop x (by simp [ho, Op.operands, Call.operands]); rw [hx] at h1
    obtain ⟨a, cap, hv, _⟩ := psl_val (rep_psl h1)
    simp [Builtin.len_, run_underlying (tslice_spec ht), hv]
  case nils =>
    obtain ⟨ht, hk⟩ := hk
    obtain ⟨e, ht⟩ := Option.isSome_iff_exists.1 ht
    refine ⟨_, hk, ok_pure (by simp [ho]) fun h' m w ac hrd hg hop => ⟨_, fin ac w 0 ?_, .pure (.int _ _)⟩⟩
    have h1 := hop x (by simp [ho, Op.operands, Call.operands]); rw [hx] at h1
    simp [Builtin.len_, run_underlying (tslice_spec ht), rep_nils h1]
  case osl b g off len =>
    obtain ⟨ht, hk⟩ := hk
    obtain ⟨e, ht⟩ := Option.isSome_iff_exists.1 ht
    cases hb : h b with
    | none => simp [hb] at hk
    | some k =>
      cases k <;> simp only [hb] at hk
      case cells t' sz g' xs =>
        obtain ⟨rfl, hk⟩ := hk
        refine ⟨_, hk, ok_pure (by simp [ho]) fun h' m w ac hrd hg hop => ⟨_, fin ac w len ?_, .pure (.int _ _)⟩⟩
        have hb' : h' b = some (.cells t' sz g xs) := (hrd b (by simp)).trans hb
        have h1 := hop x (by simp [ho, Op.operands, Call.operands]); rw [hx] at h1
        rcases rep_osl h1 hb' with ⟨_, _, rfl, hv⟩ | ⟨l, cap, _, hv, _⟩
        · simp [Builtin.len_, run_underlying (tslice_spec ht), hv]
        · simp [Builtin.len_, run_underlying (tslice_spec ht), hv]
      all_goals exact hk.elim
  case map b =>
    obtain ⟨ht, hk⟩ := hk
    obtain ⟨⟨kt, vt⟩, ht⟩ := Option.isSome_iff_exists.1 ht
    cases hb : h b with
    | none => simp [hb] at hk
    | some k =>
      cases k <;> simp only [hb] at hk
      case map es =>
        refine ⟨_, hk, ok_pure (by simp [ho]) fun h' m w ac hrd hg hop => ⟨_, fin ac w es.length ?_, .pure (.int _ _)⟩⟩
        have hb' : h' b = some (.map es) := (hrd b (by simp)).trans hb
        have h1 := hop x (by simp [ho, Op.operands, Call.operands]); rw [hx] at h1
        obtain ⟨l, hm, hv⟩ := rep_map h1
        obtain ⟨l', arr, clk, hm', hheap, hsz, _⟩ := hg.blk b _ hb'
        rw [hm] at hm'; cases hm'
        have hgo : (getObj l.c).run P w = .ok (.map arr clk) w := by simp [getObj, Sem.run, hheap]
        simp only [Builtin.len_, List.getElem?_toArray, List.getElem?_cons_zero, Sem.run_bind, run_underlying (tmap_spec ht), Result.andThen_ok, hv, hgo, Sem.run_pure, hsz]
      all_goals exact hk.elim
  all_goals exact hk.elim

theorem mm_sound {isMax : Bool} {xs : List AV} {K : AV → Prop} (hk : mm isMax xs K) : ∃ k n, K (.int k n) ∧ ∀ (h' : Nat → Option ABlk) (m : Nat → Option Loc) (w : World) (us : List Value), xs.length = us.length →
    (∀ j (a : j < xs.length) (b : j < us.length), Rep h' m w xs[j] us[j]) → (if isMax then Builtin.max_ #[] 0 us.toArray else Builtin.min_ #[] 0 us.toArray).run P w = .ok (.int k n) w := by
  match xs, hk with
  | [.int k a], hk =>
    refine ⟨k, a, hk, fun h' m w us hl hr => ?_⟩
    match us, hl with
    | [u], _ =>
      have h0 := rep_int (hr 0 (by simp) (by simp))
      simp only [List.getElem_cons_zero] at h0
      subst h0
      cases isMax <;> simp [Builtin.max_, Builtin.min_]
  | [.int k a, .int k' b], hk =>
    obtain ⟨rfl, hk⟩ := hk
    refine ⟨k, _, hk, fun h' m w us hl hr => ?_⟩
    match us, hl with
    | [u, v], _ =>
      have h0 := rep_int (hr 0 (by simp) (by simp))
      have h1 := rep_int (hr 1 (by simp) (by simp))
      simp only [List.getElem_cons_zero, List.getElem_cons_succ] at h0 h1
      subst h0 h1
      cases isMax <;> simp [Builtin.max_, Builtin.min_, Builtin.max2, Builtin.min2]

theorem sound_mm {isMax : Bool} {args : Array Operand} {ts : Array TypeId} {K : E → Prop} (ho : o.op = .call ⟨.builtin (if isMax then .max else .min), args, ts⟩) (hk : mm isMax (args.toList.map ρ) fun v => K ⟨v, [], none⟩) :
    ∃ e, K e ∧ OpOK P w0 r o ρ h e := by
  obtain ⟨k, n, hK, hrun⟩ := mm_sound (P := P) hk
  refine ⟨_, hK, ok_pure (by simp [ho]) fun h' m w ac hrd hg hop => ⟨.int k n, ?_, .pure (.int _ _)⟩⟩
  have := hrun h' m w (args.toList.map ac.eval) (by simp) (fun j a b => by
    simp only [List.getElem_map]
    exact hop _ (by simp [ho, Op.operands, Call.operands]))
  rw [run_call_builtin ho]
  have e1 : (args.map ac.eval) = (args.toList.map ac.eval).toArray := by rw [← Array.toList_map, Array.toArray_toList]
  cases isMax
  · simp only [Bool.false_eq_true, if_false] at this ⊢
    simp only [builtin, e1, Sem.run_bind]
    rw [show Builtin.min_ ts o.type (List.map ac.eval args.toList).toArray = Builtin.min_ #[] 0 (List.map ac.eval args.toList).toArray from rfl, this]
    rfl
  · simp only [if_true] at this ⊢
    simp only [builtin, e1, Sem.run_bind]
    rw [show Builtin.max_ ts o.type (List.map ac.eval args.toList).toArray = Builtin.max_ #[] 0 (List.map ac.eval args.toList).toArray from rfl, this]
    rfl

omit [Base] in
/-- Nothing is appended. -/
theorem run_append_zero {t ty e : TypeId} {sz : Nat} (ht : P.underlying t = some (.slice e)) (hs : tsz P e = some sz) (base a : Option Addr) (len cap c : Nat) (hcap : len ≤ cap) (w : World) (hb : ∀ x, base = some x → True) :
    (Builtin.append_ #[t, t] ty #[.slice base len cap, .slice a 0 c]).run P w = .ok (.slice base len cap) w := by
  cases base with
  | none => cases a <;> simp [Builtin.append_, run_underlying ht, tsz_spec hs, Builtin.lenOf, hcap, Builtin.firstCells, loadCells, loadCellsFrom]
  | some x => cases a <;> simp [Builtin.append_, run_underlying ht, tsz_spec hs, Builtin.lenOf, hcap, Builtin.firstCells, loadCells, loadCellsFrom, storeCells]

omit [Base] in
/-- The cells of a slice that stays as it is. -/
theorem psl_news {ok : Nat → Prop} {w : World} {full : Bool} {n : Nat} {xs : List AV} {v : Value} (p : PRep ok w (.psl full n xs) v) (hne : xs ≠ []) :
    ∃ c o cap, ∃ us : List Value, v = .slice (some ⟨c, o, none⟩) n cap ∧ ok c ∧ xs.length = us.length ∧ (∀ j u, us[j]? = some u → w.cell? ((⟨c, o, none⟩ : Addr).add j) = some u) ∧ (∀ u ∈ us, u.oneCell' = true) ∧
      ∀ j (a : j < xs.length) (b : j < us.length), PRep ok w xs[j] us[j] := by
  cases p with
  | psle => exact absurd rfl hne
  | psl vs _ _ hok hc hr =>
    refine ⟨_, _, _, (List.range xs.length).map vs, rfl, hok, by simp, fun j u hu => ?_, fun u hu => ?_, fun j a b => ?_⟩
    · rw [addr_add]
      simp only [List.getElem?_map, Option.map_eq_some_iff] at hu
      obtain ⟨k, hk, rfl⟩ := hu
      obtain ⟨h1, h2⟩ := List.getElem?_eq_some_iff.1 hk
      simp at h1 h2; subst h2
      exact (hc _ h1).1
    · simp only [List.mem_map, List.mem_range] at hu
      obtain ⟨j, hj, rfl⟩ := hu
      exact (hc j hj).2
    · simp only [List.getElem_map, List.getElem_range]
      exact hr j a

theorem RepL.append {h : Nat → Option ABlk} {m : Nat → Option Loc} {w : World} {xs ys : List AV} {us vs : List Value} (a : RepL h m w xs us) (b : RepL h m w ys vs) : RepL h m w (xs ++ ys) (us ++ vs) := by
  refine ⟨by simp [a.1, b.1], fun u hu => ?_, fun j h1 h2 => ?_⟩
  · rcases List.mem_append.1 hu with hu | hu
    · exact a.2.1 u hu
    · exact b.2.1 u hu
  · have key : ∀ x u, (xs ++ ys)[j]? = some x → (us ++ vs)[j]? = some u → Rep h m w x u := by
      intro x u hx hu
      have hl := a.1
      by_cases hj : j < xs.length
      · rw [List.getElem?_append_left hj] at hx
        rw [List.getElem?_append_left (by omega)] at hu
        obtain ⟨u', h3, _, h5⟩ := a.at hx
        rw [h3] at hu; cases hu; exact h5
      · rw [List.getElem?_append_right (by omega)] at hx
        rw [List.getElem?_append_right (by omega), ← hl] at hu
        obtain ⟨u', h3, _, h5⟩ := b.at hx
        rw [h3] at hu; cases hu; exact h5
    exact key _ _ (List.getElem?_eq_getElem _) (List.getElem?_eq_getElem _)

omit [Base] in
theorem grown_size (z : Array Value) (sz n k : Nat) (hz : z.size = sz) (us : List Value) (hu : us.length = n * sz) (hk : n ≤ k) : (us ++ (Builtin.zeroCells z (k - n)).toList).length = k * sz := by
  have : (Builtin.zeroCells z (k - n)).size = (k - n) * sz := by rw [size_zeroCells, hz]
  simp only [List.length_append, hu, Array.length_toList, this, ← Nat.add_mul]
  congr 1; omega

omit [Base] in
theorem below_drew (w : World) : Below w.heap.size w w.drew := (Below.refl _ w).drew

/-- 'append' to a list that the call itself has made, or to nil. -/
theorem append_core {t e : TypeId} {ty : TypeId} {sz bys : Nat} {zs : List AV} {b g n len : Nat} {xs ys : List AV} {full : Bool} {h' : Nat → Option ABlk} {m : Nat → Option Loc} {w : World} {sv xv : Value}
    (ht : tslice P t = some e) (hs : tsz P e = some sz) (hby : tbytes P e = some bys) (hz : tzero P e = some zs) (hzl : zs.length = sz) (hpos : 0 < sz)
    (hyl : ys.length = n * sz) (hxl : xs.length = len * sz) (hbytes : (len + n) * bys ≤ 140737488355328) (h63 : len + n ≤ 9223372036854775807)
    (hg : Good w0 h' m w) (hx : PRep (Ok m w) w (.psl full n ys) xv)
    (hb : (h' b = none ∧ sv = .slice none 0 0 ∧ len = 0 ∧ g = 0) ∨ (∃ g0, h' b = some (.cells e sz g0 xs) ∧ g = g0 + 1 ∧ Rep h' m w (.osl b g0 0 len) sv)) :
    ∃ v w' m', (Builtin.append_ #[t, t] ty #[sv, xv]).run P w = .ok v w' ∧ Good w0 (upd h' b (some (.cells e sz g (xs ++ ys)))) m' w' ∧ Ext h' m w (upd h' b (some (.cells e sz g (xs ++ ys)))) m' w' ∧
      Rep (upd h' b (some (.cells e sz g (xs ++ ys)))) m' w' (.osl b g 0 (len + n)) v := by
  obtain ⟨zv, hzv, rfl, it, hit, hitz⟩ := tzero_spec hz
  have hzsz : zv.cells.size = sz := by simpa using hzl
  have hbi := tbytes_spec hby hit
  have hsi := tsz_info hs hit
  have hu := tslice_spec ht
  have hb0 : ∀ k0, h' b = some k0 → ∃ g0 xs0, k0 = .cells e sz g0 xs0 ∧ g0 < g := by
    intro k0 hk0
    rcases hb with ⟨h1, _⟩ | ⟨g0, h1, h2, _⟩
    · rw [h1] at hk0; cases hk0
    · rw [h1] at hk0; cases hk0; exact ⟨g0, xs, rfl, by omega⟩
  have hb1 : ∀ k0, h' b = some k0 → ∃ g0 xs0, k0 = .cells e sz g0 xs0 ∧ g0 ≤ g := fun k0 hk0 => let ⟨g0, xs0, a, c⟩ := hb0 k0 hk0; ⟨g0, xs0, a, Nat.le_of_lt c⟩
  have hsv : (m b = none ∧ len = 0 ∧ sv = .slice none 0 0 ∧ xs = []) ∨ ∃ l cap, m b = some l ∧ sv = .slice (some ⟨l.c, 0, none⟩) len cap ∧ len ≤ cap ∧ 0 + cap * sz = l.n ∧ cap ≤ maxLen ∧ h' b = some (.cells e sz (g - 1) xs) ∧ 0 < g := by
    rcases hb with ⟨h1, h2, h3, h4⟩ | ⟨g0, h1, h2, h3⟩
    · left
      refine ⟨?_, h3, h2, List.eq_nil_of_length_eq_zero (by rw [hxl, h3]; simp)⟩
      cases hm : m b with
      | none => rfl
      | some l => obtain ⟨k, hk⟩ := hg.supp b l hm; rw [h1] at hk; cases hk
    · rcases rep_osl h3 h1 with ⟨a1, a2, a3, a4⟩ | ⟨l, cap, a1, a2, a3, a4, a5⟩
      · exact .inl ⟨a1, a3, a4, List.eq_nil_of_length_eq_zero (by rw [hxl, a3]; simp)⟩
      · exact .inr ⟨l, cap, a1, a2, a3, a4, a5, by rw [h1, h2]; rfl, by omega⟩
  by_cases hn : n = 0
  · -- nothing comes to it
    subst hn
    have hys : ys = [] := List.eq_nil_of_length_eq_zero (by rw [hyl]; simp)
    subst hys
    obtain ⟨a, cx, hxv, _⟩ := psl_val hx
    subst hxv
    simp only [List.append_nil, Nat.add_zero]
    rcases hsv with ⟨hm, rfl, rfl, rfl⟩ | ⟨l, cap, hm, rfl, hc1, hc2, hc3, hbb, hgp⟩
    · obtain ⟨g1, e1⟩ := good_virt (t := e) (sz := sz) (g' := g) hg hm hb1
      exact ⟨_, w, m, run_append_zero hu hs none a 0 0 cx (Nat.le_refl _) w (fun _ _ => trivial), g1, e1, .osl (upd_same _ _ _) (Nat.le_refl _) rfl (fun _ => .inl ⟨hm, rfl, rfl, rfl⟩)⟩
    · obtain ⟨arr, hheap, hasz, hlen, vs, hvs, hcell, hrep⟩ := blk_cells hg hbb hm
      have hsame : ∀ c, c < w.heap.size → (∀ l, m b = some l → l.c ≠ c) → w.heap[c]? = w.heap[c]? := fun _ _ _ => rfl
      have hfits : ∀ k0, h' b = some k0 → Fits k0 (.cells e sz g xs) (m b ≠ some l) := by
        intro k0 hk0; obtain ⟨g0, xs0, rfl, hlt⟩ := hb0 k0 hk0
        exact ⟨rfl, rfl, Nat.le_of_lt hlt, fun he => by omega⟩
      have e1 := ext_put (k := .cells e sz g xs) (w' := w) (l' := l) hg (Nat.le_refl _) hsame (.inl hm) hfits
      refine ⟨_, w, _, run_append_zero hu hs _ a len cap cx hc1 w (fun _ _ => trivial), good_put hg rfl rfl rfl (Nat.le_refl _) hsame (.inl hm) hfits ?_ (by simp), e1, .osl (upd_same _ _ _) (Nat.le_refl _) rfl (fun _ => .inr ⟨l, cap, upd_same _ _ _, rfl, hc1, hc2, hc3⟩)⟩
      exact .inr ⟨l, arr, upd_same _ _ _, hheap, hasz, hlen, fun j hj => ⟨vs j, hvs j hj, (hcell j hj).2, (hrep j hj).ext e1⟩⟩
  · have hyne : ys ≠ [] := by
      intro he; rw [he] at hyl
      have h0 : n * sz = 0 := hyl.symm
      rcases Nat.mul_eq_zero.1 h0 with h1 | h1 <;> omega
    obtain ⟨c, oo, cx, news, rfl, hok, hnl, hncell, hnone, hnrep⟩ := psl_news hx hyne
    have hnews : RepL h' m w ys news := ⟨hnl, hnone, fun j a b => .pure (hnrep j a b)⟩
    have hnl2 : news.length = n * it.size := by rw [← hnl, hyl, hsi]
    have hbnd : (len + n) * it.bytes ≤ 140737488355328 := by rw [hbi]; exact hbytes
    rcases hsv with ⟨hm, rfl, rfl, rfl⟩ | ⟨l, cap, hm, rfl, hc1, hc2, hc3, hbb, hgp⟩
    · -- nil: a new block
      have hrun := run_append_nil (P := P) w t ty e it zv hu hit hitz ⟨c, oo, none⟩ n cx news hnl2 hncell (by omega) (by omega) (by simp only [Nat.zero_add] at hbnd; omega)
      obtain ⟨g1, e1⟩ := good_move (t := e) (sz := sz) (g' := g) (rest := (Builtin.zeroCells zv.cells (grownCap w n 0 e - n)).toList) hg hb0 (below_drew w) hnews
      have harr : news.toArray ++ Builtin.zeroCells zv.cells (grownCap w n 0 e - n) = (news ++ (Builtin.zeroCells zv.cells (grownCap w n 0 e - n)).toList).toArray := by
        apply Array.toList_inj.1; simp
      rw [harr] at hrun
      have hgc := grownCap_ge w n 0 e
      have hgm := grownCap_le_maxLen w n 0 e (by simp only [maxLen]; omega)
      simp only [List.nil_append, Nat.zero_add]
      refine ⟨_, _, _, hrun, g1, e1, ?_⟩
      refine .osl (upd_same _ _ _) (Nat.le_refl _) rfl (fun _ => .inr ⟨_, grownCap w n 0 e, upd_same _ _ _, rfl, hgc, ?_, hgm⟩)
      rw [Nat.zero_add]
      exact (grown_size zv.cells sz n _ hzsz news (by rw [← hnl, hyl]) hgc).symm
    · obtain ⟨arr, hheap, hasz, hlen, vs, hvs, hcell, hrep⟩ := blk_cells hg hbb hm
      have hcur : RepL h' m w xs ((List.range xs.length).map vs) := by
        refine ⟨by simp, fun u hu => ?_, fun j a b => ?_⟩
        · simp only [List.mem_map, List.mem_range] at hu
          obtain ⟨j, hj, rfl⟩ := hu
          exact (hcell j hj).2
        · simp only [List.getElem_map, List.getElem_range]; exact hrep j a
      by_cases hroom : len + n ≤ cap
      · -- there is room
        have hfit : len * it.size + news.length ≤ arr.size := by
          rw [hnl2, hsi, ← Nat.add_mul, hasz, ← hc2, Nat.zero_add]
          exact Nat.mul_le_mul_right _ hroom
        have hrun := run_append_room (P := P) w t ty e it hu hit l.c len cap arr hheap ⟨c, oo, none⟩ n cx news hnl2 hncell hnone hroom hfit
        rw [hsi, ← hxl] at hrun
        rw [hsi, ← hxl] at hfit
        have hsame : ∀ c', c' < w.heap.size → (∀ l0, m b = some l0 → l0.c ≠ c') → (w.setRow l.c (arr.toList.take xs.length ++ news ++ arr.toList.drop (xs.length + news.length)).toArray).heap[c']? = w.heap[c']? :=
          fun c' _ hne => setRow_other w l.c c' _ (fun he => hne l hm he.symm)
        have hfits : ∀ k0, h' b = some k0 → Fits k0 (.cells e sz g (xs ++ ys)) (m b ≠ some l) := by
          intro k0 hk0; obtain ⟨g0, xs0, rfl, hlt⟩ := hb0 k0 hk0
          exact ⟨rfl, rfl, Nat.le_of_lt hlt, fun he => by omega⟩
        have e1 := ext_put (k := .cells e sz g (xs ++ ys)) (l' := l) hg (Nat.le_of_eq (setRow_size w l.c _).symm) hsame (.inl hm) hfits
        refine ⟨_, _, _, hrun, good_put hg rfl rfl rfl (Nat.le_of_eq (setRow_size w l.c _).symm) hsame (.inl hm) hfits ?_ (by simp), e1, .osl (upd_same _ _ _) (Nat.le_refl _) rfl (fun _ => .inr ⟨l, cap, upd_same _ _ _, rfl, hroom, hc2, hc3⟩)⟩
        refine .inr ⟨l, _, upd_same _ _ _, setRow_heap w l.c arr _ e _ hheap, by simp; omega, by simp [hnl]; omega, fun j hj => ?_⟩
        have hxx : (xs ++ ys)[j]? = some ((xs ++ ys)[j]'hj) := List.getElem?_eq_getElem hj
        have hget := spl_get arr.toList news xs.length j (by simpa using hfit)
        have hga : (arr.toList.take xs.length ++ news ++ arr.toList.drop (xs.length + news.length)).toArray[j]? = if j < xs.length then arr[j]? else if j < xs.length + news.length then news[j - xs.length]? else arr[j]? := by simpa using hget
        rw [hga]
        by_cases hj1 : j < xs.length
        · simp only [hj1, if_true]
          rw [List.getElem?_append_left hj1] at hxx
          obtain ⟨_, hxi⟩ := List.getElem?_eq_some_iff.1 hxx
          rw [← hxi]
          exact ⟨vs j, hvs j hj1, (hcell j hj1).2, (hrep j hj1).ext e1⟩
        · have hj2 : j < xs.length + news.length := by simp at hj; omega
          simp only [hj1, hj2, if_true, if_false]
          rw [List.getElem?_append_right (by omega)] at hxx
          obtain ⟨u, h3, h4, h5⟩ := hnews.at hxx
          exact ⟨u, h3, h4, h5.ext e1⟩
      · -- it grows
        have holds : ∀ j u, ((List.range xs.length).map vs)[j]? = some u → w.cell? ((⟨l.c, 0, none⟩ : Addr).add j) = some u := by
          intro j u hu
          rw [addr_add]
          simp only [List.getElem?_map, Option.map_eq_some_iff] at hu
          obtain ⟨k, hk, rfl⟩ := hu
          obtain ⟨h1, h2⟩ := List.getElem?_eq_some_iff.1 hk
          simp at h1 h2; subst h2
          exact (hcell _ h1).1
        have hrun := run_append_grow (P := P) w t ty e it zv hu hit hitz ⟨l.c, 0, none⟩ len cap ((List.range xs.length).map vs) (by simp [hxl, hsi]) holds ⟨c, oo, none⟩ n cx news hnl2 hncell (by omega) (by omega) (growslice_fits (by omega) hbnd)
        obtain ⟨g1, e1⟩ := good_move (t := e) (sz := sz) (g' := g) (rest := (Builtin.zeroCells zv.cells (grownCap w (len + n) cap e - (len + n))).toList) hg hb0 (below_drew w) (hcur.append hnews)
        have harr : ((List.range xs.length).map vs).toArray ++ news.toArray ++ Builtin.zeroCells zv.cells (grownCap w (len + n) cap e - (len + n)) = ((List.range xs.length).map vs ++ news ++ (Builtin.zeroCells zv.cells (grownCap w (len + n) cap e - (len + n))).toList).toArray := by
          apply Array.toList_inj.1; simp
        rw [harr] at hrun
        have hgc := grownCap_ge w (len + n) cap e
        have hgm := grownCap_le_maxLen w (len + n) cap e (by simp only [maxLen]; omega)
        refine ⟨_, _, _, hrun, g1, e1, ?_⟩
        refine .osl (upd_same _ _ _) (Nat.le_refl _) rfl (fun _ => .inr ⟨_, grownCap w (len + n) cap e, upd_same _ _ _, rfl, hgc, ?_, hgm⟩)
        rw [Nat.zero_add]
        exact (grown_size zv.cells sz (len + n) _ hzsz _ (by simp [hxl, hnl2, hsi, Nat.add_mul]) hgc).symm

end
end Go.Am
