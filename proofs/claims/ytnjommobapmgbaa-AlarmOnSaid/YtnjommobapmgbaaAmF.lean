/- The abstract machine Am, part F: operations that write or make memory. -/
import Derived.Test.YtnjommobapmgbaaAmE
namespace Go.Am
open Go.RowKit
variable [Base]

omit [Base] in
theorem spl_get {α : Type} (xs ys : List α) (off j : Nat) (h : off + ys.length ≤ xs.length) :
    (xs.take off ++ ys ++ xs.drop (off + ys.length))[j]? = if j < off then xs[j]? else if j < off + ys.length then ys[j - off]? else xs[j]? := by
  have hl : (xs.take off).length = off := by simp; omega
  split
  · rename_i hj
    rw [List.append_assoc, List.getElem?_append_left (by omega), List.getElem?_take, if_pos hj]
  · rename_i hj
    split
    · rename_i hj2
      rw [List.append_assoc, List.getElem?_append_right (by omega), hl, List.getElem?_append_left (by omega)]
    · rename_i hj2
      rw [List.getElem?_append_right (by simp; omega), List.getElem?_drop]
      congr 1
      simp only [List.length_append, hl]
      omega

omit [Base] in
theorem splice_length (xs ys : List AV) (off : Nat) (h : off + ys.length ≤ xs.length) : (splice xs off ys).length = xs.length := by
  simp [splice]; omega

section
variable {P : Program} {w0 : World} {r : Option Nat} {o : Oper} {ρ : Operand → AV} {h : Nat → Option ABlk}

/-- A list of abstract values stands for a list of values, each of one cell. -/
def RepL (h : Nat → Option ABlk) (m : Nat → Option Loc) (w : World) (xs : List AV) (us : List Value) : Prop :=
  xs.length = us.length ∧ (∀ u ∈ us, u.oneCell' = true) ∧ ∀ j (a : j < xs.length) (b : j < us.length), Rep h m w xs[j] us[j]

theorem RepL.ext {h h' : Nat → Option ABlk} {m m' : Nat → Option Loc} {w w' : World} {xs : List AV} {us : List Value} (a : RepL h m w xs us) (e : Ext h m w h' m' w') : RepL h' m' w' xs us :=
  ⟨a.1, a.2.1, fun j x y => (a.2.2 j x y).ext e⟩

theorem RepL.at {h : Nat → Option ABlk} {m : Nat → Option Loc} {w : World} {xs : List AV} {us : List Value} (a : RepL h m w xs us) {j : Nat} {x : AV} (hj : xs[j]? = some x) :
    ∃ u, us[j]? = some u ∧ u.oneCell' = true ∧ Rep h m w x u := by
  obtain ⟨hi, rfl⟩ := List.getElem?_eq_some_iff.1 hj
  have hi' : j < us.length := by have := a.1; omega
  exact ⟨us[j], by simp [hi'], a.2.1 _ (List.getElem_mem _), a.2.2 j hi hi'⟩

theorem sound_store {t : TypeId} {a x : Operand} {K : E → Prop} (ho : o.op = .store t a x) (hk : effK P o ρ h 0 K) : ∃ e, K e ∧ OpOK P w0 r o ρ h e := by
  simp only [effK, ho] at hk
  cases ha : ρ a <;> simp only [ha] at hk
  case ptr b g off =>
    cases hb : h b with
    | none => simp [hb] at hk
    | some k =>
      cases hx : cellsOf (ρ x) with
      | none => cases k <;> simp [hb, hx] at hk
      | some ys =>
        cases k <;> simp only [hb, hx] at hk
        case cells t' sz g' xs =>
          obtain ⟨rfl, hs, hfit, hk⟩ := hk
          refine ⟨_, hk, fun h' m w ac next Q _ hwr hg hop hnext => ?_⟩
          have hb' : h' b = some (.cells t' sz g xs) := (hwr b _ rfl).trans hb
          have h1 := hop a (by simp [ho, Op.operands]); rw [ha] at h1
          have h2 := hop x (by simp [ho, Op.operands])
          obtain ⟨l, hm, he⟩ := rep_ptr h1 hb'
          obtain ⟨us, hcells, hu⟩ := rep_cells h2 hx
          obtain ⟨arr, hheap, hsize, hlen, vs, hvs, hcell, hrep⟩ := blk_cells hg hb' hm
          have hul : ys.length = us.length := hu.1
          have hrunS := run_storeCells_at P l.c off t' us 0 arr w hheap (by simp; omega) hu.2.1
          simp only [Nat.add_zero] at hrunS
          have hrun : (execOp ac.eval o).run P w = .ok .skip (w.setRow l.c (arr.toList.take off ++ us ++ arr.toList.drop (off + us.length)).toArray) := by
            simp only [execOp, ho, he, Instr.storeAt, Instr.sureAddr, storeVar, Sem.run_bind, Sem.run_pure, Result.andThen_ok, tsz_spec hs.symm, hcells, List.size_toArray, hul, ne_eq, not_true_eq_false, if_false, hrunS]
          have hsame : ∀ c, c < w.heap.size → (∀ l0, m b = some l0 → l0.c ≠ c) → (w.setRow l.c (arr.toList.take off ++ us ++ arr.toList.drop (off + us.length)).toArray).heap[c]? = w.heap[c]? :=
            fun c _ hne => setRow_other w l.c c _ (fun e => hne l hm e.symm)
          have hfits : ∀ k0, h' b = some k0 → Fits k0 (.cells t' sz g (splice xs off ys)) (m b ≠ some l) := by
            intro k0 hk0; rw [hb'] at hk0; cases hk0
            exact ⟨rfl, rfl, Nat.le_refl _, fun _ hne => hne hm⟩
          have e := ext_put (k := .cells t' sz g (splice xs off ys)) (l' := l) hg (Nat.le_of_eq (setRow_size w l.c _).symm) hsame (.inl hm) hfits
          refine wp_skip (by simp [ho]) hrun (hnext _ _ (upd m b (some l)) (good_put hg rfl rfl rfl (Nat.le_of_eq (setRow_size w l.c _).symm) hsame (.inl hm) hfits ?_ (by simp)) e (.junk _))
          refine .inr ⟨l, _, upd_same _ _ _, setRow_heap w l.c arr _ t' _ hheap, by simp; omega, by rw [splice_length _ _ _ hfit]; exact hlen, fun j hj => ?_⟩
          rw [splice_length _ _ _ hfit] at hj
          have key : ∀ x', (splice xs off ys)[j]? = some x' → ∃ v, (arr.toList.take off ++ us ++ arr.toList.drop (off + us.length)).toArray[j]? = some v ∧ v.oneCell' = true ∧
              Rep (upd h' b (some (.cells t' sz g (splice xs off ys)))) (upd m b (some l)) (w.setRow l.c (arr.toList.take off ++ us ++ arr.toList.drop (off + us.length)).toArray) x' v := by
            intro x' hx?
            have hget : (splice xs off ys)[j]? = _ := spl_get xs ys off j hfit
            have hget2 := spl_get arr.toList us off j (by simp; omega)
            rw [hget] at hx?
            have : (arr.toList.take off ++ us ++ arr.toList.drop (off + us.length)).toArray[j]? = if j < off then arr[j]? else if j < off + us.length then us[j - off]? else arr[j]? := by
              simpa using hget2
            rw [this]
            by_cases hj1 : j < off
            · simp only [hj1, if_true] at hx? ⊢
              obtain ⟨hi, hxi⟩ := List.getElem?_eq_some_iff.1 hx?
              rw [← hxi]
              exact ⟨vs j, hvs j hj, (hcell j hj).2, (hrep j hj).ext e⟩
            · simp only [hj1, if_false] at hx? ⊢
              by_cases hj2 : j < off + ys.length
              · have hj2' : j < off + us.length := by omega
                simp only [hj2, hj2', if_true] at hx? ⊢
                obtain ⟨u, h3, h4, h5⟩ := RepL.at hu hx?
                exact ⟨u, h3, h4, h5.ext e⟩
              · have hj2' : ¬ j < off + us.length := by omega
                simp only [hj2, hj2', if_false] at hx? ⊢
                obtain ⟨hi, hxi⟩ := List.getElem?_eq_some_iff.1 hx?
                rw [← hxi]
                exact ⟨vs j, hvs j hj, (hcell j hj).2, (hrep j hj).ext e⟩
          exact key _ (List.getElem?_eq_getElem _)
        all_goals exact hk.elim
  all_goals exact hk.elim

/-- A block of cells in new memory: made, or moved there. -/
theorem good_move {h' : Nat → Option ABlk} {m : Nat → Option Loc} {w w1 : World} {b : Nat} {t : TypeId} {sz g' : Nat} {xs : List AV} {us rest : List Value} (hg : Good w0 h' m w)
    (hb : ∀ k0, h' b = some k0 → ∃ g0 xs0, k0 = .cells t sz g0 xs0 ∧ g0 < g')
    (hw : Below w.heap.size w w1) (hr : RepL h' m w xs us) :
    Good w0 (upd h' b (some (.cells t sz g' xs))) (upd m b (some ⟨w1.heap.size, (us ++ rest).length⟩)) (w1.alloc (.cells (us ++ rest).toArray t)) ∧
    Ext h' m w (upd h' b (some (.cells t sz g' xs))) (upd m b (some ⟨w1.heap.size, (us ++ rest).length⟩)) (w1.alloc (.cells (us ++ rest).toArray t)) := by
  obtain ⟨hg1, e1⟩ := hg.garbage hw
  have hsize : w1.heap.size ≤ (w1.alloc (.cells (us ++ rest).toArray t)).heap.size := by simp
  have hsame : ∀ c, c < w1.heap.size → (∀ l, m b = some l → l.c ≠ c) → (w1.alloc (.cells (us ++ rest).toArray t)).heap[c]? = w1.heap[c]? := fun c hc _ => Below.heap_alloc w1 _ c hc
  have hfits : ∀ k0, h' b = some k0 → Fits k0 (.cells t sz g' xs) (m b ≠ some ⟨w1.heap.size, (us ++ rest).length⟩) := by
    intro k0 hk0
    obtain ⟨g0, xs0, rfl, hlt⟩ := hb k0 hk0
    exact ⟨rfl, rfl, Nat.le_of_lt hlt, fun e => by omega⟩
  have e2 := ext_put (k := .cells t sz g' xs) (l' := ⟨w1.heap.size, (us ++ rest).length⟩) hg1 hsize hsame (.inr (Nat.le_refl _)) hfits
  refine ⟨good_put hg1 rfl rfl rfl hsize hsame (.inr (Nat.le_refl _)) hfits ?_ (by simp), e1.trans e2⟩
  have hr2 := (hr.ext e1).ext e2
  refine .inr ⟨_, _, upd_same _ _ _, Go.heap_alloc_new w1 _, by simp, by have := hr.1; simp; omega, fun j hj => ?_⟩
  obtain ⟨u, h3, h4, h5⟩ := hr2.at (j := j) (x := xs[j]) (by simp [hj])
  refine ⟨u, ?_, h4, h5⟩
  obtain ⟨hi, hu⟩ := List.getElem?_eq_some_iff.1 h3
  simp [List.getElem?_append_left hi, h3]

theorem good_new {h' : Nat → Option ABlk} {m : Nat → Option Loc} {w w1 : World} {b : Nat} {t : TypeId} {sz : Nat} {xs : List AV} {us rest : List Value} (hg : Good w0 h' m w) (hb : h' b = none)
    (hw : Below w.heap.size w w1) (hr : RepL h' m w xs us) :
    Good w0 (upd h' b (some (.cells t sz 0 xs))) (upd m b (some ⟨w1.heap.size, (us ++ rest).length⟩)) (w1.alloc (.cells (us ++ rest).toArray t)) ∧
    Ext h' m w (upd h' b (some (.cells t sz 0 xs))) (upd m b (some ⟨w1.heap.size, (us ++ rest).length⟩)) (w1.alloc (.cells (us ++ rest).toArray t)) :=
  good_move hg (fun k0 hk0 => by rw [hb] at hk0; cases hk0) hw hr

/-- An empty list that lies nowhere (nil). -/
theorem good_virt {h' : Nat → Option ABlk} {m : Nat → Option Loc} {w : World} {b : Nat} {t : TypeId} {sz g' : Nat} (hg : Good w0 h' m w) (hm : m b = none)
    (hb : ∀ k0, h' b = some k0 → ∃ g0 xs0, k0 = .cells t sz g0 xs0 ∧ g0 ≤ g') :
    Good w0 (upd h' b (some (.cells t sz g' []))) m w ∧ Ext h' m w (upd h' b (some (.cells t sz g' []))) m w := by
  have e : Ext h' m w (upd h' b (some (.cells t sz g' []))) m w := by
    refine ⟨fun c hc => ⟨rfl, hc⟩, fun b' t1 sz1 g1 xs1 hb' => ?_, fun b' es hb' => ?_, fun b' o hb' => ?_, fun b' st pend fn T ps asg body d hb' => ?_⟩
    · by_cases hbb : b' = b
      · subst hbb
        obtain ⟨g0, xs0, h1, h2⟩ := hb _ hb'
        cases h1
        exact ⟨g', [], upd_same _ _ _, h2, fun _ => rfl⟩
      · exact ⟨g1, xs1, by rw [upd_ne _ _ hbb]; exact hb', Nat.le_refl _, fun _ => rfl⟩
    · have hbb : b' ≠ b := by rintro rfl; obtain ⟨g0, xs0, h1, _⟩ := hb _ hb'; cases h1
      exact ⟨⟨es, by rw [upd_ne _ _ hbb]; exact hb'⟩, rfl⟩
    · have hbb : b' ≠ b := by rintro rfl; obtain ⟨g0, xs0, h1, _⟩ := hb _ hb'; cases h1
      exact ⟨⟨o, by rw [upd_ne _ _ hbb]; exact hb'⟩, rfl⟩
    · have hbb : b' ≠ b := by rintro rfl; obtain ⟨g0, xs0, h1, _⟩ := hb _ hb'; cases h1
      exact ⟨⟨st, pend, by rw [upd_ne _ _ hbb]; exact hb'⟩, rfl⟩
  refine ⟨⟨hg.below, hg.base, hg.inj, fun b' l hl => ?_, fun b' k hk => ?_, fun b' st pend fn T ps asg body d hb' => ?_, hg.fresh⟩, e⟩
  · have hbb : b' ≠ b := by rintro rfl; rw [hm] at hl; cases hl
    rw [upd_ne _ _ hbb]; exact hg.supp b' l hl
  · by_cases hbb : b' = b
    · subst hbb
      rw [upd_same] at hk; cases hk
      exact .inl ⟨hm, rfl⟩
    · rw [upd_ne _ _ hbb] at hk
      exact (hg.blk b' k hk).ext e rfl (fun _ _ => rfl) (fun _ _ _ _ _ _ _ _ _ => rfl)
  · by_cases hbb : b' = b
    · subst hbb; rw [upd_same] at hb'; cases hb'
    · rw [upd_ne _ _ hbb] at hb'
      obtain ⟨o, ho⟩ := hg.dloop _ _ _ _ _ _ _ _ _ hb'
      obtain ⟨⟨o', ho'⟩, _⟩ := e.dfr _ _ ho
      exact ⟨o', ho'⟩

omit [Base] in
theorem tzero_spec {t : TypeId} {zs : List AV} (h : tzero P t = some zs) : ∃ v, (∀ w : World, (zeroValue t).run P w = .ok v w) ∧ zs = v.cells.toList.map constAV ∧ ∃ i, P.info? t = some i ∧ i.zero = some v := by
  unfold tzero at h
  cases hi : P.info? t with
  | none => simp [hi] at h
  | some i =>
    cases hz : i.zero with
    | none => simp [hi, hz] at h
    | some v =>
      simp [hi, hz] at h
      exact ⟨v, fun w => by simp [zeroValue, typeInfo, hi, hz], h.symm, i, rfl, hz⟩

theorem zero_rep {h' : Nat → Option ABlk} {m : Nat → Option Loc} {w : World} {us : List Value} (hp : ∀ x ∈ us.map constAV, cellPure x = true) : RepL h' m w (us.map constAV) us := by
  refine ⟨by simp, fun u hu => ?_, fun j a b => ?_⟩
  · exact (const_rep (w := w) (ok := fun _ => True) (hp _ (List.mem_map_of_mem hu))).2
  · rw [List.getElem_map]
    exact .pure (const_rep (hp _ (List.mem_map_of_mem (List.getElem_mem _)))).1

theorem sound_alloc {t : TypeId} {nx : Nat} {K : E → Prop} (ho : o.op = .alloc t) (hn : h nx = none) (hk : effK P o ρ h nx K) : ∃ e, K e ∧ OpOK P w0 r o ρ h e := by
  simp only [effK, ho] at hk
  cases hz : tzero P t with
  | none => simp [hz] at hk
  | some zs =>
    simp only [hz] at hk
    obtain ⟨hp, hk⟩ := hk
    refine ⟨_, hk, fun h' m w ac next Q _ hwr hg hop hnext => ?_⟩
    obtain ⟨v, hv, rfl, _⟩ := tzero_spec hz
    have hb' : h' nx = none := (hwr nx _ rfl).trans hn
    obtain ⟨g1, e1⟩ := good_new (t := t) (sz := 1) (rest := []) hg hb' (Below.refl _ w) (zero_rep (h' := h') (m := m) (w := w) hp)
    simp only [List.append_nil] at g1 e1
    refine wp_val (v := .pointer (some ⟨w.heap.size, 0, none⟩)) (w' := w.alloc (.cells v.cells.toList.toArray t)) (by simp [ho]) ?_ (hnext _ _ _ g1 e1 (.ptr (upd_same _ _ _) (Nat.le_refl _) rfl (fun _ => ⟨_, upd_same _ _ _, rfl⟩)))
    simp [execOp, ho, Instr.alloc, hv, newVar, newRow]

theorem sound_box {t : TypeId} {x : Operand} {nx : Nat} {K : E → Prop} (ho : o.op = .box t x) (hn : h nx = none) (hk : effK P o ρ h nx K) : ∃ e, K e ∧ OpOK P w0 r o ρ h e := by
  simp only [effK, ho] at hk
  cases hx : cellsOf (ρ x) with
  | none => simp [hx] at hk
  | some xs =>
    simp only [hx] at hk
    refine ⟨_, hk, fun h' m w ac next Q _ hwr hg hop hnext => ?_⟩
    have hb' : h' nx = none := (hwr nx _ rfl).trans hn
    obtain ⟨us, hcells, hu⟩ := rep_cells (hop x (by simp [ho, Op.operands])) hx
    obtain ⟨g1, e1⟩ := good_new (t := t) (sz := 1) (rest := []) hg hb' (Below.refl _ w) hu
    simp only [List.append_nil] at g1 e1
    refine wp_val (v := .pointer (some ⟨w.heap.size, 0, none⟩)) (w' := w.alloc (.cells us.toArray t)) (by simp [ho]) ?_ (hnext _ _ _ g1 e1 (.ptr (upd_same _ _ _) (Nat.le_refl _) rfl (fun _ => ⟨_, upd_same _ _ _, rfl⟩)))
    simp [execOp, ho, Instr.box, newVar, newRow, hcells]

end
end Go.Am
