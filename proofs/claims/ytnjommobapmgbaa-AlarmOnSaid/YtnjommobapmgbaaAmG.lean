/- The abstract machine Am, part G: literals, slices, append. -/
import Derived.Test.YtnjommobapmgbaaAmF
namespace Go.Am
open Go.RowKit
variable [Base]

omit [Base] in
theorem foldl_set_get {α : Type} (us : List α) : ∀ (off k : Nat) (arr : Array α) (j : Nat), off + k + us.length ≤ arr.size →
    ((us.zipIdx k).foldl (fun cs (p : α × Nat) => cs.setIfInBounds (off + p.2) p.1) arr)[j]? = if j < off + k then arr[j]? else if j < off + k + us.length then us[j - (off + k)]? else arr[j]? := by
  induction us with
  | nil => intro off k arr j _; simp; intro a b; omega
  | cons u us ih =>
    intro off k arr j h
    simp only [List.length_cons] at h
    simp only [List.zipIdx_cons, List.foldl_cons, List.length_cons]
    rw [ih off (k + 1) _ j (by simp; omega)]
    by_cases h1 : j < off + k
    · rw [if_pos (by omega), if_pos h1, Array.getElem?_setIfInBounds_ne (by omega)]
    · rw [if_neg h1]
      by_cases h2 : j = off + k
      · subst h2
        rw [if_pos (by omega), if_pos (by omega), Array.getElem?_setIfInBounds_self_of_lt (by omega)]
        simp
      · by_cases h3 : j < off + k + (us.length + 1)
        · rw [if_neg (by omega), if_pos (by omega), if_pos h3, show j - (off + k) = (j - (off + (k + 1))) + 1 by omega]
          simp
        · rw [if_neg (by omega), if_neg (by omega), if_neg h3, Array.getElem?_setIfInBounds_ne (by omega)]

omit [Base] in
theorem zipIdx_foldl_toList (us : List Value) (off : Nat) (arr : Array Value) (h : off + us.length ≤ arr.size) :
    (us.toArray.zipIdx.foldl (fun cs (p : Value × Nat) => cs.setIfInBounds (off + p.2) p.1) arr).toList = arr.toList.take off ++ us ++ arr.toList.drop (off + us.length) := by
  apply List.ext_getElem?
  intro j
  rw [spl_get arr.toList us off j (by simpa using h)]
  have := foldl_set_get us off 0 arr j (by simpa using h)
  simp only [Nat.add_zero] at this
  simpa using this

section
variable {P : Program} {w0 : World} {r : Option Nat} {o : Oper} {ρ : Operand → AV} {h : Nat → Option ABlk}

theorem RepL.splice {h : Nat → Option ABlk} {m : Nat → Option Loc} {w : World} {xs ys : List AV} {us vs : List Value} (a : RepL h m w xs us) (b : RepL h m w ys vs) {off : Nat} (hf : off + ys.length ≤ xs.length) :
    RepL h m w (splice xs off ys) (us.take off ++ vs ++ us.drop (off + vs.length)) := by
  have h1 := a.1
  have h2 := b.1
  refine ⟨by rw [splice_length _ _ _ hf]; simp; omega, fun u hu => ?_, fun j ha hb => ?_⟩
  · simp only [List.mem_append] at hu
    rcases hu with (hu | hu) | hu
    · exact a.2.1 u (List.mem_of_mem_take hu)
    · exact b.2.1 u hu
    · exact a.2.1 u (List.mem_of_mem_drop hu)
  · rw [splice_length _ _ _ hf] at ha
    have key : ∀ x u, (Am.splice xs off ys)[j]? = some x → (us.take off ++ vs ++ us.drop (off + vs.length))[j]? = some u → Rep h m w x u := by
      intro x u hx hu
      have hx' : (Am.splice xs off ys)[j]? = _ := spl_get xs ys off j hf
      rw [hx'] at hx
      rw [spl_get us vs off j (by omega)] at hu
      have hat : ∀ {zs : List AV} {ws : List Value} {i : Nat}, RepL h m w zs ws → zs[i]? = some x → ws[i]? = some u → Rep h m w x u := by
        intro zs ws i hr hz hw
        obtain ⟨u', h3, _, h5⟩ := hr.at hz
        rw [h3] at hw; cases hw; exact h5
      by_cases hj1 : j < off
      · simp only [hj1, if_true] at hx hu; exact hat a hx hu
      · simp only [hj1, if_false] at hx hu
        by_cases hj2 : j < off + ys.length
        · have hj2' : j < off + vs.length := by omega
          simp only [hj2, hj2', if_true] at hx hu; exact hat b hx hu
        · have hj2' : ¬ j < off + vs.length := by omega
          simp only [hj2, hj2', if_false] at hx hu; exact hat a hx hu
    exact key _ _ (List.getElem?_eq_getElem _) (List.getElem?_eq_getElem _)

/-- A literal's parts, filled in. -/
theorem fill_sound {h' : Nat → Option ABlk} {m : Nat → Option Loc} {w : World} {place place' : Nat → Option (Nat × Nat)} (hpl : ∀ i, place' i = place i) (ev : Operand → Value) : ∀ (parts : List (Nat × Operand)) (cells xs : List AV) (us : List Value),
    afill place cells (parts.map fun p => (p.1, ρ p.2)) = some xs → RepL h' m w cells us → (∀ p ∈ parts, Rep h' m w (ρ p.2) (ev p.2)) →
    ∃ vs : List Value, Instr.fill place' us.toArray (parts.map fun p => (p.1, ev p.2)) = some vs.toArray ∧ RepL h' m w xs vs
  | [], cells, xs, us, hf, hr, _ => by
    simp only [List.map_nil, afill, Option.some.injEq] at hf
    subst hf
    exact ⟨us, rfl, hr⟩
  | (i, x) :: rest, cells, xs, us, hf, hr, hp => by
    simp only [List.map_cons, afill] at hf
    cases hpi : place i with
    | none => simp [hpi] at hf
    | some q =>
      obtain ⟨off, size⟩ := q
      cases hx : cellsOf (ρ x) with
      | none => simp [hpi, hx] at hf
      | some ys =>
        simp only [hpi, hx] at hf
        split at hf
        · rename_i hc
          obtain ⟨vs, hcells, hv⟩ := rep_cells (hp (i, x) (by simp)) hx
          have hv' : RepL h' m w ys vs := hv
          have hl := hv'.1
          have hl2 := hr.1
          obtain ⟨zs, hz, hrz⟩ := fill_sound hpl ev rest _ xs _ hf (hr.splice hv' (off := off) (by omega)) (fun p hpm => hp p (by simp [hpm]))
          refine ⟨zs, ?_, hrz⟩
          simp only [List.map_cons, Instr.fill, hpl, hpi, hcells, List.size_toArray]
          have hc1 : (decide (vs.length ≠ size) || decide (off + vs.length > us.length)) = false := by simp; omega
          simp only [hc1, Bool.false_eq_true, if_false]
          have hfold := zipIdx_foldl_toList vs off us.toArray (by simp; omega)
          simp only at hfold
          rw [← hz]
          congr 1
          apply Array.toList_inj.1
          rw [hfold]
        · cases hf

theorem sound_build {t : TypeId} {parts : Array (Nat × Operand)} {K : E → Prop} (ho : o.op = .build t parts) (hk : effK P o ρ h 0 K) : ∃ e, K e ∧ OpOK P w0 r o ρ h e := by
  simp only [effK, ho] at hk
  cases hz : tzero P t with
  | none => simp [hz] at hk
  | some zs =>
    simp only [hz] at hk
    obtain ⟨hp, hk⟩ := hk
    obtain ⟨zv, hzv, rfl, it, hit, hitz⟩ := tzero_spec hz
    have fin : ∀ {place place' : Nat → Option (Nat × Nat)} {xs : List AV}, (∀ i, place' i = place i) → afill place (zv.cells.toList.map constAV) (parts.toList.map fun p => (p.1, ρ p.2)) = some xs →
        (∀ q, P.built t q = Instr.fill place' zv.cells q) → OpOK P w0 r o ρ h ⟨.agg xs, [], none⟩ := by
      intro place place' xs hpl hf hb
      refine ok_pure (by simp [ho]) fun h' m w ac hrd hg hop => ?_
      obtain ⟨vs, hfill, hr⟩ := fill_sound (h' := h') (m := m) (w := w) hpl ac.eval parts.toList _ xs zv.cells.toList hf (zero_rep hp) (fun p hpm => hop p.2 (by
        simp only [ho, Op.operands, List.mem_toArray, List.mem_map]
        exact ⟨p, hpm, rfl⟩))
      refine ⟨.agg vs.toArray, ?_, .agg vs hr.1 hr.2.1 hr.2.2⟩
      have hrb := run_build (P := P) w t (parts.map fun (i, x) => (i, ac.eval x)) vs.toArray (by rw [hb]; simpa using hfill)
      simp only [execOp, ho, Sem.run_bind, hrb, Result.andThen_ok]
      rfl
    cases ha : tarr P t with
    | some q =>
      obtain ⟨n, e⟩ := q
      simp only [ha] at hk
      cases hs : tsz P e with
      | none => simp [hs] at hk
      | some sz =>
        simp only [hs] at hk
        cases hf : afill (fun i => some (i * sz, sz)) (zv.cells.toList.map constAV) (parts.toList.map fun p => (p.1, ρ p.2)) with
        | none => simp [hf] at hk
        | some xs =>
          simp only [hf] at hk
          refine ⟨_, hk, fin (fun _ => rfl) hf (fun q => ?_)⟩
          unfold tsz at hs
          cases hie : P.info? e with
          | none => simp [hie] at hs
          | some ie =>
            simp only [hie, Option.map_some, Option.some.injEq] at hs
            subst hs
            simp [Program.built, hit, tarr_spec ha, hitz, hie]
    | none =>
      simp only [ha] at hk
      cases hpl : tplaces P t with
      | none => simp [hpl] at hk
      | some ps =>
        simp only [hpl] at hk
        cases hf : afill (fun i => ps[i]?) (zv.cells.toList.map constAV) (parts.toList.map fun p => (p.1, ρ p.2)) with
        | none => simp [hf] at hk
        | some xs =>
          simp only [hf] at hk
          refine ⟨_, hk, fin (place' := fun i => ps.toArray[i]?) (fun i => by simp) hf (fun q => ?_)⟩
          unfold tplaces at hpl
          cases hu : P.underlying t with
          | none => simp [hu] at hpl
          | some d =>
            cases d <;> simp [hu] at hpl
            simp [Program.built, hit, hu, hitz, hpl]

omit [Base] in
theorem flatten_replicate_get {α : Type} (l : List α) : ∀ (n j : Nat), j < n * l.length → (List.replicate n l).flatten[j]? = l[j % l.length]?
  | 0, j, h => by simp at h
  | n + 1, j, h => by
    have hpos : 0 < l.length := by
      rcases Nat.eq_zero_or_pos l.length with h0 | h0
      · rw [h0] at h; simp at h
      · exact h0
    rw [List.replicate_succ, List.flatten_cons]
    by_cases hj : j < l.length
    · rw [List.getElem?_append_left hj, Nat.mod_eq_of_lt hj]
    · rw [List.getElem?_append_right (by omega), flatten_replicate_get l n (j - l.length) (by rw [Nat.add_mul] at h; omega)]
      rw [← Nat.mod_eq_sub_mod (by omega)]

omit [Base] in
theorem flatten_replicate_length {α : Type} (l : List α) (n : Nat) : (List.replicate n l).flatten.length = n * l.length := by simp

omit [Base] in
theorem zeros_toList (z : Array Value) (n : Nat) (hz : 0 < z.size) : ((Array.range (n * z.size)).map (fun i => z[i % z.size]!)).toList = (List.replicate n z.toList).flatten := by
  apply List.ext_getElem?
  intro j
  by_cases hj : j < n * z.size
  · rw [flatten_replicate_get z.toList n j (by simpa using hj)]
    have hlt : j % z.size < z.size := Nat.mod_lt _ hz
    simp [hj, hlt]
  · rw [List.getElem?_eq_none (by simp; omega), List.getElem?_eq_none (by simp; omega)]

theorem RepL.flatten {h : Nat → Option ABlk} {m : Nat → Option Loc} {w : World} {xs : List AV} {us : List Value} (a : RepL h m w xs us) (n : Nat) : RepL h m w (List.replicate n xs).flatten (List.replicate n us).flatten := by
  refine ⟨by simp [a.1], fun u hu => ?_, fun j h1 h2 => ?_⟩
  · simp only [List.mem_flatten, List.mem_replicate] at hu
    obtain ⟨l, ⟨_, rfl⟩, hu⟩ := hu
    exact a.2.1 u hu
  · have h1' := h1
    simp only [flatten_replicate_length] at h1 h2
    have key : ∀ x u, (List.replicate n xs).flatten[j]? = some x → (List.replicate n us).flatten[j]? = some u → Rep h m w x u := by
      intro x u hx hu
      rw [flatten_replicate_get xs n j h1] at hx
      rw [flatten_replicate_get us n j h2, ← a.1] at hu
      obtain ⟨u', h3, _, h5⟩ := a.at hx
      rw [h3] at hu; cases hu; exact h5
    exact key _ _ (List.getElem?_eq_getElem _) (List.getElem?_eq_getElem _)

theorem lit_rep {h' : Nat → Option ABlk} {m : Nat → Option Loc} {w : World} {n : Nat} {xs : List AV} {us : List Value} {t : TypeId} (hg : Good w0 h' m w) (hr : RepL h' m w xs us) (hp : ∀ x ∈ xs, cellPure x = true) :
    Good w0 h' m (w.alloc (.cells us.toArray t)) ∧ Ext h' m w h' m (w.alloc (.cells us.toArray t)) ∧ Rep h' m (w.alloc (.cells us.toArray t)) (.psl true n xs) (.slice (some ⟨w.heap.size, 0, none⟩) n n) := by
  obtain ⟨g1, e1⟩ := hg.garbage ((Below.refl w.heap.size w).alloc (Nat.le_refl _) (.cells us.toArray t))
  refine ⟨g1, e1, .pure (.psl (fun j => us.getD j undef) (Nat.le_refl _) (fun _ => rfl) ⟨by simp, fun b l hl he => ?_, hg.fresh _ hg.below.size⟩ (fun j hj => ?_) (fun j hj => ?_))⟩
  · have := hg.lt hl; omega
  · have hj' : j < us.length := by have := hr.1; omega
    refine ⟨?_, ?_⟩
    · have := Go.heap_alloc_new w (.cells us.toArray t)
      simp only [World.cell?]
      rw [this]
      simp [hj']
    · simp [hj']; exact hr.2.1 _ (List.getElem_mem _)
  · have hj' : j < us.length := by have := hr.1; omega
    have hx := prep_pure ((hr.ext e1).2.2 j hj hj') (hp _ (List.getElem_mem _))
    simpa [hj'] using hx

theorem sound_buildSlice {t : TypeId} {len : Nat} {parts : Array (Nat × Operand)} {K : E → Prop} (ho : o.op = .buildSlice t len parts) (hk : effK P o ρ h 0 K) : ∃ e, K e ∧ OpOK P w0 r o ρ h e := by
  simp only [effK, ho] at hk
  cases ht : tslice P t with
  | none => simp [ht] at hk
  | some e =>
    simp only [ht] at hk
    cases hs : tsz P e with
    | none => simp [hs] at hk
    | some sz =>
      cases hz : tzero P e with
      | none => simp [hs, hz] at hk
      | some zs =>
        simp only [hs, hz] at hk
        obtain ⟨hzl, hpos, hbig, hp, hk⟩ := hk
        cases hf : afill (fun i => some (i * sz, sz)) (List.replicate len zs).flatten (parts.toList.map fun p => (p.1, ρ p.2)) with
        | none => simp [hf] at hk
        | some xs =>
          simp only [hf] at hk
          obtain ⟨hpx, hk⟩ := hk
          refine ⟨_, hk, fun h' m w ac next Q _ _ hg hop hnext => ?_⟩
          obtain ⟨zv, hzv, rfl, it, hit, hitz⟩ := tzero_spec hz
          have hzsz : zv.cells.size = sz := by simpa using hzl
          obtain ⟨vs, hfill, hr⟩ := fill_sound (h' := h') (m := m) (w := w) (place' := fun i => some (i * sz, sz)) (fun _ => rfl) ac.eval parts.toList _ xs _ hf ((zero_rep hp).flatten len) (fun p hpm => hop p.2 (by
            simp only [ho, Op.operands, List.mem_toArray, List.mem_map]
            exact ⟨p, hpm, rfl⟩))
          obtain ⟨g1, e1, r1⟩ := lit_rep (n := len) (t := e) hg hr hpx
          refine wp_val (by simp [ho]) ?_ (hnext _ _ _ g1 e1 r1)
          have hz2 : ((Array.range (len * sz)).map (fun i => zv.cells[i % zv.cells.size]!)) = (List.replicate len zv.cells.toList).flatten.toArray := by
            apply Array.toList_inj.1
            rw [← hzsz, zeros_toList zv.cells len (by omega)]
          have hn0 : ∀ (q : Sem (Array Value)), (if len * sz = 0 then (pure #[] : Sem (Array Value)) else q).run P w = if len * sz = 0 then .ok #[] w else q.run P w := fun q => by split <;> rfl
          by_cases hl0 : len * sz = 0
          · have hlen : len = 0 := by
              rcases Nat.mul_eq_zero.1 hl0 with h1 | h1
              · exact h1
              · omega
            subst hlen
            simp only [List.replicate_zero, List.flatten_nil] at hfill
            have hr0 : Array.map (fun (_ : Nat) => (default : Value)) (Array.range 0) = #[] := by simp
            have hfill' : Instr.fill (fun i => some (i * sz, sz)) #[] (List.map (fun x => (x.fst, ac.eval x.snd)) parts.toList) = some vs.toArray := hfill
            simp [execOp, ho, Instr.buildSlice, run_underlying (tslice_spec ht), tsz_spec hs, newRow]
            rw [hr0, hfill']
            simp
          · have hnb : ¬ (len * sz > 2 ^ 24) := by omega
            simp only [execOp, ho, Instr.buildSlice, Sem.run_bind, run_underlying (tslice_spec ht), Result.andThen_ok, tsz_spec hs, hnb, if_false, hl0, hzv, Sem.run_pure, hz2]
            have hf2 : Instr.fill (fun i => some (i * sz, sz)) (List.replicate len zv.cells.toList).flatten.toArray (parts.map fun (i, x) => (i, ac.eval x)).toList = some vs.toArray := by simpa using hfill
            simp only [hf2, newRow, Sem.run_bind, run_newObj, Result.andThen_ok, Sem.run_pure]
            rfl

end
end Go.Am
