/- The abstract machine Am, part X6: the machine that runs is sound: calls of functions and of yield; the contract of a function that is run. -/
import Derived.Test.YtnjommobapmgbaaX5
namespace Go.Am
open Go.RowKit

section
variable {P : Program} {eqt : TypeId → Bool} {pm ent : FuncId → Bool} {lf : Nat}

theorem resX_K {s : St} : ∀ (rs : List ResultVar) {xs : List AV} {K : List AV → Prop}, resX P s rs = some xs → K xs → resK P s rs K
  | [], xs, K, h, hk => by simp [resX] at h; subst h; exact hk
  | .tmp t :: rs, xs, K, h, hk => by
    simp only [resX] at h
    obtain ⟨ys, hy, rfl⟩ := map_some h
    exact resX_K rs hy hk
  | .cell a t :: rs, xs, K, h, hk => by
    simp only [resX] at h
    split at h
    · rename_i hp
      split at h
      · rename_i hb
        split at h
        · rename_i hg
          split at h
          · rename_i v hv
            obtain ⟨ys, hy, rfl⟩ := map_some h
            simp only [resK, hp, hb]
            exact ⟨hg, loadX_sound hv (resX_K rs hy hk)⟩
          · cases h
        · cases h
      · cases h
    · cases h

theorem shutX_frm : ∀ (D : List Nat) {H H2 : List (Option ABlk)}, shutX D H = some H2 → Frm H H2 D
  | [], H, H2, h => by simp [shutX] at h; subst h; exact Frm.refl _
  | d :: ds, H, H2, h => by
    simp only [shutX] at h
    split at h
    · exact ((Frm.set H d _).trans (shutX_frm ds h)).congr (fun b => by simp)
    · cases h

theorem leavesX [Base] {w0 : World} {fn : Func} {T : List AV} {H2 : List (Option ABlk)} {vs : List AV} (hres : resX P ⟨T, H2, []⟩ fn.results.toList = some vs) {RR : Ending → World → Prop} {Z : Nat → Option ABlk} {mz : Nat → Option Loc} {wz : World}
    (hR : ∀ v w' m', Good w0 (hget H2) m' w' → Ext Z mz wz (hget H2) m' w' → Rep (hget H2) m' w' (finAV vs) v → RR (.returned v) w') :
    ∀ (D : List Nat) (H : List (Option ABlk)) (a : Act) (w : World) (m : Nat → Option Loc), shutX D H = some H2 → SatM w0 [] (lget T) T.length (hget H) D m a w → Ext Z mz wz (hget H) m w →
      LeavesInM (FW none) 0 P fn a.tmps RR a.defers .returning w
  | [], H, a, w, m, hk, hs, ex => by
    simp only [shutX, Option.some.injEq] at hk
    subst hk
    obtain ⟨ls, h1, _, h3⟩ := hs.marks
    have : ls = [] := List.eq_nil_of_length_eq_zero (by simpa using h1)
    subst this
    rw [h3]
    obtain ⟨xs, rfl, hxl, hrs⟩ := resK_sound (w0 := w0) (X := []) fn.results.toList (resX_K (K := fun xs => xs = vs) fn.results.toList hres rfl)
    obtain ⟨us, hul, hrun, hrep⟩ := hrs hs
    refine ⟨_, run_results hrun, hR _ _ m hs.good ex ?_⟩
    match xs, us, hul with
    | [], [], _ => exact .tup [] rfl (fun j a => by simp at a)
    | [y], [u], _ => exact hrep 0 (by simp) (by simp)
    | y :: y' :: ys, u :: u' :: us, hul => exact .tup (u :: u' :: us) (by simp at hul ⊢; omega) hrep
    | [], _ :: _, hul => simp at hul
    | _ :: _, [], hul => simp at hul
    | [_], _ :: _ :: _, hul => simp at hul
    | _ :: _ :: _, [_], hul => simp at hul
  | d :: ds, H, a, w, m, hk, hs, ex => by
    simp only [shutX] at hk
    split at hk
    · rename_i hd
      obtain ⟨ls, h1, h2, h3⟩ := hs.marks
      cases ls with
      | nil => simp at h1
      | cons l ls =>
        have hm0 : m d = some l := (h2 0 (by simp) (by simp)).1
        obtain ⟨l', hl', hheap⟩ := hs.good.blk d _ hd
        rw [hm0] at hl'; cases hl'
        simp only [if_true] at hheap
        rw [h3]
        simp only [List.map_cons]
        have htake := run_takeDeferred (P := P) hheap
        obtain ⟨g1, e1⟩ := good_same hs.good hd hm0 (.deferred none) (k := .dfr false) (fun h => h) ⟨l, upd_same _ _ _, by simpa using World.putObj_heap_same (lt_of_heap hheap)⟩ (by simp)
        rw [← hget_upd] at g1 e1
        refine ⟨by simp, .inl ⟨l.c, _, rfl, htake, ?_⟩⟩
        refine leavesX hres hR ds (hset H d (.dfr false)) { a with defers := ls.map fun l => { target := .collected l.c, args := #[] } } _ _ hk ?_ (ex.trans e1)
        have hmv := hs.move g1 e1
        refine ⟨hmv.good, hmv.size, hmv.tmps, hmv.roots, ls, by simpa using h1, fun j x y => ?_, rfl⟩
        have := h2 (j + 1) (by simpa using x) (by simpa using y)
        simp only [List.getElem_cons_succ] at this
        obtain ⟨b1, oo, b2⟩ := this
        obtain ⟨⟨o', b3⟩, b4⟩ := e1.dfr _ _ b2
        exact ⟨b4.trans b1, o', b3⟩
    · cases hk

theorem putArgs_sound [Base] {h : Nat → Option ABlk} {m : Nat → Option Loc} {w : World} : ∀ (ps : List Tmp) (xs : List AV) (T T1 : List AV) (us : List Value) (tm : Array Value), putArgs ps xs T = some T1 → xs.length = us.length → (∀ j (a : j < xs.length) (b : j < us.length), Rep h m w xs[j] us[j]) →
    tm.size = T.length → (∀ j, j < T.length → ∃ v, tm[j]? = some v ∧ Rep h m w (lget T j) v) →
    ps.length = us.length ∧ T1.length = T.length ∧ ((ps.zip us).foldl (fun t p => t.setIfInBounds p.1 p.2) tm).size = T.length ∧ ∀ j, j < T.length → ∃ v, ((ps.zip us).foldl (fun t p => t.setIfInBounds p.1 p.2) tm)[j]? = some v ∧ Rep h m w (lget T1 j) v
  | [], [], T, T1, us, tm, hp, hl, hr, hs, ht => by
    simp only [putArgs, Option.some.injEq] at hp
    subst hp
    have : us = [] := List.eq_nil_of_length_eq_zero (by simpa using hl.symm)
    subst this
    exact ⟨rfl, rfl, hs, ht⟩
  | p :: ps, x :: xs, T, T1, us, tm, hp, hl, hr, hs, ht => by
    simp only [putArgs] at hp
    cases us with
    | nil => simp at hl
    | cons u us =>
      have h0 := hr 0 (by simp) (by simp)
      simp only [List.getElem_cons_zero] at h0
      obtain ⟨i1, i2, i3, i4⟩ := putArgs_sound ps xs (lset T p x) T1 us (tm.setIfInBounds p u) hp (by simpa using hl) (fun j a b => hr (j + 1) (by simpa using a) (by simpa using b)) (by simp [hs, lset_length]) (fun j hj => by
        rw [lset_length] at hj
        obtain ⟨v, hv, hrv⟩ := ht j hj
        rw [lget_set]
        by_cases hpj : p = j
        · subst hpj
          refine ⟨u, Array.getElem?_setIfInBounds_self_of_lt (by rw [hs]; exact hj), ?_⟩
          rw [if_pos ⟨rfl, hj⟩]; exact h0
        · refine ⟨v, by rw [Array.getElem?_setIfInBounds_ne hpj]; exact hv, ?_⟩
          rw [if_neg (fun h => hpj h.1)]; exact hrv)
      rw [lset_length] at i2 i3 i4
      exact ⟨by simp [i1], i2, by simpa using i3, by simpa using i4⟩
  | [], _ :: _, _, _, _, _, hp, _, _, _, _ => by simp [putArgs] at hp
  | _ :: _, [], _, _, _, _, hp, _, _, _, _ => by simp [putArgs] at hp

/-- One round's end. -/
theorem round_end [Base] {w0 : World} {Z : Nat → Option ABlk} {mz : Nat → Option Loc} {wz : World} {H : List (Option ABlk)} {m : Nat → Option Loc} {w : World} (g : Good w0 (hget H) m w) (ex : Ext Z mz wz (hget H) m w) {b : Nat} {l : Loc} (hm : m b = some l)
    {fn : FuncId} {T : List AV} {ps : Array Tmp} {asg body : Code} {d : Nat} (hb : hget H b = some (.loop .busy none fn T ps asg body d)) (jump : Option Code) (st : LoopState) (hst : st = if jump.isNone then .ready else .done) :
    ∃ v w', (Instr.endRound l.c jump).run P w = .ok v w' ∧ ∃ v' m', Ending.returned v = .returned v' ∧ Good w0 (hget (hset H b (.loop st jump fn T ps asg body d))) m' w' ∧ Ext Z mz wz (hget (hset H b (.loop st jump fn T ps asg body d))) m' w' ∧
      Rep (hget (hset H b (.loop st jump fn T ps asg body d))) m' w' (.bool jump.isNone) v' := by
  subst hst
  obtain ⟨rec, k1, _, _, _, _, _, _, _, g4, e4⟩ := rec_same g hb hm (if jump.isNone then .ready else .done) jump
  rw [← hget_upd] at g4 e4
  exact ⟨_, _, run_endRound jump k1, _, _, rfl, g4, ex.trans e4, .pure (.bool _)⟩

/-- CALLS. -/
theorem xcall_sound (he : ∀ t, eqt t = true → EqOK P t) (hen : ∀ g, ent g = true → Enters P g) (hmx : P.follows .mixedOrders = true) : ∀ n, CvOK P (xcall P eqt pm ent lf n) := by
  intro n
  induction n with
  | zero => intro fv as H r H' W hx; simp [xcall] at hx
  | succ n ih =>
    have hcode := fun rd => xcode_sound (rd := rd) (lf := lf) (pm := pm) he hmx ih
    intro fv as H r H' W hx
    simp only [xcall] at hx
    split at hx
    · rename_i g first caps
      split at hx
      · rename_i hent
        split at hx
        · rename_i fn hfn
          split at hx
          · rename_i c hbody
            have key : ∀ (ex : Exit) (s' : St) (W' : List Nat), (ex = .normal ∨ ex = .ret) → xcode P eqt pm (xcall P eqt pm ent lf n) lf false c ⟨initT (first ++ as ++ caps) fn.ntmps, H, []⟩ = some (ex, s', W') →
                (match shutX s'.D s'.H with
                  | some H2 => (match resX P ⟨s'.T, H2, []⟩ fn.results.toList with
                    | some vs => some (finAV vs, H2, s'.D ++ W')
                    | none => none)
                  | none => none) = some (r, H', W) → Frm H H' W ∧ Sem P (.fn (.func g) first caps) as H r H' := by
              intro exx s' W' hex hc hx
              split at hx
              · rename_i H2 hsh
                split at hx
                · rename_i vs hvs
                  cases hx
                  obtain ⟨f1, x1⟩ := hcode false c _ _ _ _ hc
                  refine ⟨(f1.trans (shutX_frm _ hsh)).congr (fun b => by simp [or_comm]), hen g hent, fun w0 m w us hg hlen hrep => ?_⟩
                  refine callsIn_of_wp_marks hfn hbody trivial ?_
                  have hsat : SatM w0 [] (lget (initT (first ++ as ++ caps) fn.ntmps)) (initT (first ++ as ++ caps) fn.ntmps).length (hget H) [] m { tmps := us.toArray ++ Array.replicate (fn.ntmps - us.toArray.size) undef, defers := [] } w := by
                    refine ⟨hg, ?_, fun j hj => ?_, by simp, [], rfl, fun j a => by simp at a, rfl⟩
                    · simp only [initT, List.length_append, junks_length, Array.size_append, List.size_toArray, Array.size_replicate] at hlen ⊢
                      omega
                    · simp only [initT, List.length_append, junks_length] at hj
                      rw [initT, lget_append]
                      by_cases hj' : j < (first ++ as ++ caps).length
                      · refine ⟨us[j], ?_, ?_⟩
                        · rw [Array.getElem?_append_left (by simpa using (by omega : j < us.length))]; simp
                        · rw [dif_pos hj']
                          exact hrep j hj' (by omega)
                      · refine ⟨undef, ?_, ?_⟩
                        · rw [Array.getElem?_append_right (by simpa using (by omega : us.length ≤ j))]
                          rw [Array.getElem?_replicate, if_pos (by simp only [List.length_append] at hj' hlen; simp; omega)]
                        · rw [dif_neg hj', lget_junks]; exact .junk _
                  refine wpIn_mono (x1 w0 none m _ w (fun _ => rfl) hsat) ?_
                  rintro e' a' w' ⟨rfl, m', hs', ex'⟩
                  have := leavesX (P := P) (w0 := w0) (fn := fn) hvs (RR := fun e w' => ∃ v m', e = .returned v ∧ Good w0 (hget H') m' w' ∧ Ext (hget H) m w (hget H') m' w' ∧ Rep (hget H') m' w' (finAV vs) v) (fun v w' m' a b c => ⟨v, m', rfl, a, b, c⟩) s'.D s'.H a' w' m' hsh hs' ex'
                  rcases hex with rfl | rfl
                  · exact this
                  · exact this
                · cases hx
              · cases hx
            split at hx
            · rename_i s' W' hc; exact key _ s' W' (.inl rfl) hc hx
            · rename_i s' W' hc; exact key _ s' W' (.inr rfl) hc hx
            · cases hx
          · cases hx
        · cases hx
      · cases hx
    · rename_i b
      split at hx
      · rename_i fn T ps asg body d hb
        split at hx
        · rename_i T1 hT1
          split at hx
          · rename_i s1 W1 hc1
            obtain ⟨f1, x1⟩ := hcode true asg _ _ _ _ hc1
            split at hx
            · rename_i fn' T' ps' asg' body' d' hb1
              have key : ∀ (e2 : Exit) (s2 : St) (W2 : List Nat) (jump : Option Code) (fn2 : FuncId) (T2 : List AV) (ps2 : Array Tmp) (asg2 body2 : Code) (d2 : Nat), xcode P eqt pm (xcall P eqt pm ent lf n) lf true body' ⟨s1.T, hset s1.H b (.loop .busy none fn' T' ps' asg' body' d'), s1.D⟩ = some (e2, s2, W2) →
                  hget s2.H b = some (.loop .busy none fn2 T2 ps2 asg2 body2 d2) → (∀ l R a w, (∃ v w', (Instr.endRound l jump).run P w = .ok v w' ∧ R (.returned v) w') → roundPost P l R e2 a w) →
                  Frm H (hset s2.H b (.loop (if jump.isNone then .ready else .done) jump fn2 T2 ps2 asg2 body2 d2)) (b :: (W1 ++ W2)) ∧ SemY P b as H (.bool jump.isNone) (hset s2.H b (.loop (if jump.isNone then .ready else .done) jump fn2 T2 ps2 asg2 body2 d2)) := by
                intro e2 s2 W2 jump fn2 T2 ps2 asg2 body2 d2 hc2 hb2 hpost
                obtain ⟨f2, x2⟩ := hcode true body' _ _ _ _ hc2
                refine ⟨(((f1.trans (Frm.set _ b _)).trans f2).trans (Frm.set _ b _)).congr (fun c => ?_), ?_⟩
                · simp only [List.mem_append, List.mem_cons, List.not_mem_nil, or_false]
                  constructor
                  · rintro (((h | h) | h) | h) <;> simp [h]
                  · rintro (h | h | h) <;> simp [h]
                · intro _ w0 m w us l hg hl hlen hrep
                  obtain ⟨rec, k1, k2, k3, k4, k5, k6, k7, k8, _, _⟩ := rec_same hg hb hl .ready none
                  obtain ⟨p1, p2, p3, p4⟩ := putArgs_sound ps.toList as T T1 us rec.tmps hT1 hlen hrep k7 (fun j hj => by
                    obtain ⟨v, hv, hr⟩ := k8 j hj
                    refine ⟨v, hv, ?_⟩
                    rw [lget_get, List.getElem?_eq_getElem hj]; exact hr)
                  have hy := run_yield (P := P) (args := us.toArray) k1 (by rw [k4]; simpa using p1.symm)
                  have hfold : (rec.params.zip us.toArray).foldl (fun tmps (t, a) => tmps.setIfInBounds t a) rec.tmps = (ps.toList.zip us).foldl (fun t p => t.setIfInBounds p.1 p.2) rec.tmps := by
                    rw [k4, ← Array.foldl_toList, Array.toList_zip]
                  refine ⟨_, _, _, _, hy, roundIn_of_wpIn trivial ?_⟩
                  rw [hfold, k5]
                  have hsat : SatM w0 [] (lget T1) T1.length (hget H) [] m { tmps := (ps.toList.zip us).foldl (fun t p => t.setIfInBounds p.1 p.2) rec.tmps, defers := [] } w :=
                    ⟨hg, by rw [p2]; exact p3, fun j hj => p4 j (by rw [← p2]; exact hj), by simp, [], rfl, fun j a => by simp at a, rfl⟩
                  refine wpIn_mono (x1 w0 (some l.c) m _ w (by simp) hsat) ?_
                  rintro e' a1 w1 ⟨rfl, m1, hs1, ex1⟩
                  have hl1 : m1 b = some l := by rw [(ex1.loop _ _ _ _ _ _ _ _ _ hb).2]; exact hl
                  obtain ⟨rec1, q1, q2, q3, _, _, q6, _, _, g2, e2x⟩ := rec_same hs1.good hb1 hl1 .busy none
                  rw [← hget_upd] at g2 e2x
                  have hbr := run_beginRound (P := P) q1 q2
                  rw [q3] at hbr
                  have hbody : rec.body = body' := by
                    have h5 : ∃ st' pend', hget s1.H b = some (.loop st' pend' fn T ps asg body d) := (ex1.loop _ _ _ _ _ _ _ _ _ hb).1
                    obtain ⟨st', pend', h5⟩ := h5
                    rw [hb1] at h5
                    cases h5
                    exact k6
                  refine ⟨_, hbr, ?_⟩
                  rw [hbody]
                  have hs2 : SatM w0 [] (lget s1.T) s1.T.length (hget (hset s1.H b (.loop .busy none fn' T' ps' asg' body' d'))) s1.D _ a1 _ := hs1.move g2 e2x
                  refine wpIn_mono (x2 w0 (some l.c) _ a1 _ (by simp) hs2) ?_
                  rintro e3 a3 w3 ⟨rfl, m3, hs3, ex3⟩
                  have hl3 : m3 b = some l := by
                    rw [(ex3.loop _ _ _ _ _ _ _ _ _ (by rw [hget_upd, upd_same])).2, upd_same]
                  obtain ⟨v, w4, r1, v', m4, r2, r3, r4, r5⟩ := round_end (P := P) hs3.good ((ex1.trans e2x).trans ex3) hl3 hb2 jump _ rfl
                  exact hpost _ _ _ _ ⟨v, w4, r1, v', m4, r2, r3, r4, r5⟩
              split at hx
              · rename_i s2 W2 hc2
                split at hx
                · rename_i hb2
                  cases hx
                  exact key _ _ _ none _ _ _ _ _ _ hc2 hb2 (fun l R a w h => h)
                · cases hx
              · rename_i s2 W2 hc2
                split at hx
                · rename_i hb2
                  cases hx
                  exact key _ _ _ (some .ret) _ _ _ _ _ _ hc2 hb2 (fun l R a w h => h)
                · cases hx
              · rename_i id s2 W2 hc2
                split at hx
                · rename_i hb2
                  cases hx
                  exact key _ _ _ (some (.exit id)) _ _ _ _ _ _ hc2 hb2 (fun l R a w h => h)
                · cases hx
              · cases hx
            · cases hx
          · cases hx
        · cases hx
      · cases hx
    · cases hx

/-- The contract of a function that is run. -/
theorem callS_run (he : ∀ t, eqt t = true → EqOK P t) (hen : ∀ g, ent g = true → Enters P g) (hmx : P.follows .mixedOrders = true) {n : Nat} {g : FuncId} {as : List AV} {y : AV} (h : pcallX (xcall P eqt pm ent lf n) g as = some y) : CallS P g as y := by
  unfold pcallX at h
  split at h
  · rename_i r H' W hc
    obtain ⟨_, hs⟩ := xcall_sound he hen hmx n _ _ _ _ _ _ hc
    exact callS_of_semF (by simpa [Sem] using hs) h
  · cases h
end
end Go.Am
