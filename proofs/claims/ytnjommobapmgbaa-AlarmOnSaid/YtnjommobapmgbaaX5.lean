/- The abstract machine Am, part X5: the machine that runs is sound: statements, calls, rounds. -/
import Derived.Test.YtnjommobapmgbaaX4
namespace Go.Am
open Go.RowKit

section
variable {F : Fence} {n : Nat} {P : Program} {Q : Exit → Act → World → Prop} {a : Act} {w : World}
theorem stepR_scope' {b : Frame} {c : Code} {k : List Item} {cs : List Frame} : step P (lone (b.atR a (.code (.scope c) :: k)) cs w) = .next (lone (b.atR a (.code c :: .inScope c :: k)) cs w) :=
  step_lone_go (by simp [stepG, stepG.exec, Frame.atR])
theorem stepR_inScope' {b : Frame} {c : Code} {k : List Item} {cs : List Frame} : step P (lone (b.atR a (.inScope c :: k)) cs w) = .next (lone (b.atR a k) cs w) :=
  step_lone_go (by simp [stepG, stepG.exec, Frame.atR])
theorem wpIn_scope {c : Code} (h : c.wpIn F n P (fun e a w => (∀ l, e ≠ .goto l) ∧ Q e a w) a w) : (Code.scope c).wpIn F n P Q a w := by
  intro b k cs hro hb hr
  have h0 : (lone (b.atR a (.code (.scope c) :: k)) cs w).fenced P F := fenced_calm hb hr rfl
  obtain ⟨e, a₁, w₁, ⟨hne, hq⟩, harr⟩ := h b (.inScope c :: k) cs hro hb hr
  cases e with
  | normal => exact ⟨.normal, a₁, w₁, hq, .head h0 stepR_scope' (StepsIn.trans harr (.one (fenced_calm hb hr rfl) stepR_inScope'))⟩
  | exit id =>
    have hx : exitTo id (.inScope c :: k) = exitTo id k := by simp [exitTo]
    exact ⟨_, a₁, w₁, hq, fun k' hk => .head h0 stepR_scope' (harr.1 k' (by rw [hx]; exact hk)),
      fun hr' hk => let ⟨k₁, h1, h2⟩ := harr.2 hr' (by rw [hx]; exact hk); ⟨k₁, h1, .head h0 stepR_scope' h2⟩⟩
  | goto l => exact absurd rfl (hne l)
  | ret => exact ⟨_, a₁, w₁, hq, .of_steps (.one h0 stepR_scope') harr⟩
  | panic ch => exact ⟨_, a₁, w₁, hq, .of_steps (.one h0 stepR_scope') harr⟩
  | outgrown => exact ⟨_, a₁, w₁, hq, .of_steps (.one h0 stepR_scope') harr⟩
end

/-- WHAT A STATEMENT COMES TO. -/
def XSem (P : Program) (rd : Bool) (c : Code) (s : St) (e : Exit) (s' : St) : Prop :=
  ∀ [Base] (w0 : World) (r : Option Nat) (m : Nat → Option Loc) (a : Act) (w : World), (rd = false → r = none) → SatM w0 [] (lget s.T) s.T.length (hget s.H) s.D m a w →
    c.wpIn (FW r) 0 P (fun e' a' w' => e' = e ∧ ∃ m', SatM w0 [] (lget s'.T) s'.T.length (hget s'.H) s'.D m' a' w' ∧ Ext (hget s.H) m w (hget s'.H) m' w') a w

section
variable {P : Program} {eqt : TypeId → Bool} {pm : FuncId → Bool} {cv : Cv} {lf : Nat} {rd : Bool}

theorem satM_bool [Base] {w0 : World} {s : St} {m : Nat → Option Loc} {a : Act} {w : World} (hs : SatM w0 [] (lget s.T) s.T.length (hget s.H) s.D m a w) {c : Operand} {b : Bool} (hc : aev s.T c = .bool b) : a.eval c = .bool b := by
  have := hs.eval s.T rfl c (fun _ _ _ => rfl)
  rw [hc] at this
  exact rep_bool this

theorem xloop_sound {c : Code} (f : St → Option (Exit × St × List Nat)) (hf : ∀ s e s' W, f s = some (e, s', W) → Frm s.H s'.H W ∧ XSem P rd c s e s') :
    ∀ n s e s' W, xloop f n s = some (e, s', W) → Frm s.H s'.H W ∧ XSem P rd (.loop c) s e s' := by
  intro n s e s' W hx
  constructor
  · induction n generalizing s W with
    | zero => simp [xloop] at hx
    | succ n ih =>
      simp only [xloop] at hx
      split at hx
      · rename_i s1 W1 h1
        split at hx
        · rename_i e2 s2 W2 h2
          cases hx
          exact (hf _ _ _ _ h1).1.trans (ih _ _ h2)
        · cases hx
      · exact (hf _ _ _ _ hx).1
  · intro _ w0 r m a w hr hs
    refine wpIn_loop_g (γ := { p : Nat × St // ∃ W, xloop f p.1 p.2 = some (e, s', W) }) (fun g a' w' => ∃ m1, SatM w0 [] (lget g.1.2.T) g.1.2.T.length (hget g.1.2.H) g.1.2.D m1 a' w' ∧ Ext (hget s.H) m w (hget g.1.2.H) m1 w') (fun g => g.1.1) ⟨(n, s), W, hx⟩ ⟨m, hs, Ext.refl _ _ _⟩ ?_
    rintro ⟨⟨k, s1⟩, W1, hk⟩ a1 w1 ⟨m1, hs1, ex1⟩
    simp only at hk hs1 ex1 ⊢
    cases k with
    | zero => simp [xloop] at hk
    | succ k =>
      simp only [xloop] at hk
      split at hk
      · rename_i s2 W2 h1
        split at hk
        · rename_i e3 s3 W3 h2
          simp only [Option.some.injEq, Prod.mk.injEq] at hk
          obtain ⟨rfl, rfl, _⟩ := hk
          refine wpIn_mono ((hf _ _ _ _ h1).2 w0 r m1 a1 w1 hr hs1) ?_
          rintro e' a' w' ⟨rfl, m', hs', ex'⟩
          exact ⟨⟨(k, s2), W3, h2⟩, Nat.lt_succ_self _, m', hs', ex1.trans ex'⟩
        · cases hk
      · rename_i hne
        refine wpIn_mono ((hf _ _ _ _ hk).2 w0 r m1 a1 w1 hr hs1) ?_
        rintro e' a' w' ⟨rfl, m', hs', ex'⟩
        have hfin : e' = e' ∧ ∃ m', SatM w0 [] (lget s'.T) s'.T.length (hget s'.H) s'.D m' a' w' ∧ Ext (hget s.H) m w (hget s'.H) m' w' := ⟨rfl, m', hs', ex1.trans ex'⟩
        cases e' with
        | normal => exact absurd hk (hne _ _)
        | exit id => exact hfin
        | goto l => exact hfin
        | ret => exact hfin
        | panic ch => exact hfin
        | outgrown => exact hfin

/-- A new block. -/
theorem good_fresh [Base] {w0 : World} {h : Nat → Option ABlk} {m : Nat → Option Loc} {w : World} (g : Good w0 h m w) {b : Nat} (hb : h b = none) (o : Obj) (k : ABlk)
    (hk : BRep (upd h b (some k)) (upd m b (some ⟨w.heap.size, 0⟩)) (w.alloc o) b k) (hd : ∀ st pend fn T ps asg body d, k = .loop st pend fn T ps asg body d → ∃ o, h d = some (.dfr o)) :
    Good w0 (upd h b (some k)) (upd m b (some ⟨w.heap.size, 0⟩)) (w.alloc o) ∧ Ext h m w (upd h b (some k)) (upd m b (some ⟨w.heap.size, 0⟩)) (w.alloc o) := by
  have hm : m b = none := by
    cases hm : m b with
    | none => rfl
    | some l => obtain ⟨k', hk'⟩ := g.supp b l hm; rw [hb] at hk'; cases hk'
  have hsize : w.heap.size ≤ (w.alloc o).heap.size := by simp
  have hsame : ∀ c, c < w.heap.size → (∀ l, m b = some l → l.c ≠ c) → (w.alloc o).heap[c]? = w.heap[c]? := fun c hc _ => Below.heap_alloc _ _ _ hc
  have hfits : ∀ k0, h b = some k0 → Fits k0 k (m b ≠ some ⟨w.heap.size, 0⟩) := fun k0 hk0 => by rw [hb] at hk0; cases hk0
  exact ⟨good_put g rfl rfl rfl hsize hsame (.inr (Nat.le_refl _)) hfits hk hd, ext_put g hsize hsame (.inr (Nat.le_refl _)) hfits⟩

/-- A block that is written anew where it lies. -/
theorem good_same [Base] {w0 : World} {h : Nat → Option ABlk} {m : Nat → Option Loc} {w : World} (g : Good w0 h m w) {b : Nat} {k0 k : ABlk} {l : Loc} (hb : h b = some k0) (hm : m b = some l) (o : Obj) (hf : Fits k0 k False)
    (hk : BRep (upd h b (some k)) (upd m b (some l)) (w.putObj l.c o) b k) (hd : ∀ st pend fn T ps asg body d, k = .loop st pend fn T ps asg body d → ∃ o, h d = some (.dfr o)) :
    Good w0 (upd h b (some k)) (upd m b (some l)) (w.putObj l.c o) ∧ Ext h m w (upd h b (some k)) (upd m b (some l)) (w.putObj l.c o) := by
  have hsize : w.heap.size ≤ (w.putObj l.c o).heap.size := by simp
  have hsame : ∀ c, c < w.heap.size → (∀ l, m b = some l → l.c ≠ c) → (w.putObj l.c o).heap[c]? = w.heap[c]? := fun c _ hne => World.putObj_heap_other (fun e => hne l hm e.symm)
  have hfits : ∀ k1, h b = some k1 → Fits k1 k (m b ≠ some l) := fun k1 hk1 => by
    rw [hb] at hk1; cases hk1
    have : (m b ≠ some l) = False := by simp [hm]
    rw [this]; exact hf
  exact ⟨good_put g rfl rfl rfl hsize hsame (.inl hm) hfits hk hd, ext_put g hsize hsame (.inl hm) hfits⟩

/-- The record of a loop is written anew. -/
theorem rec_same [Base] {w0 : World} {h : Nat → Option ABlk} {m : Nat → Option Loc} {w : World} (g : Good w0 h m w) {b : Nat} {st : LoopState} {pend : Option Code} {fn : FuncId} {T : List AV} {ps : Array Tmp} {asg body : Code} {d : Nat} {l : Loc}
    (hb : h b = some (.loop st pend fn T ps asg body d)) (hm : m b = some l) (st' : LoopState) (pend' : Option Code) :
    ∃ rec : Loop, w.heap[l.c]? = some (.loop rec) ∧ rec.state = st ∧ rec.pending = pend ∧ rec.params = ps ∧ rec.assign = asg ∧ rec.body = body ∧ rec.tmps.size = T.length ∧ (∀ j (hj : j < T.length), ∃ v, rec.tmps[j]? = some v ∧ Rep h m w T[j] v) ∧
      Good w0 (upd h b (some (.loop st' pend' fn T ps asg body d))) (upd m b (some l)) (w.putObj l.c (.loop { rec with state := st', pending := pend' })) ∧
      Ext h m w (upd h b (some (.loop st' pend' fn T ps asg body d))) (upd m b (some l)) (w.putObj l.c (.loop { rec with state := st', pending := pend' })) := by
  obtain ⟨l', rec, ld, h1, h2, a1, a2, a3, a4, a5, a6, a7, a8, a9, a10⟩ := g.blk b _ hb
  rw [hm] at h1; cases h1
  obtain ⟨od, hod⟩ := g.dloop _ _ _ _ _ _ _ _ _ hb
  have hdb : d ≠ b := fun e => by rw [e, hb] at hod; cases hod
  have hsize : w.heap.size ≤ (w.putObj l.c (.loop { rec with state := st', pending := pend' })).heap.size := by simp
  have hsame : ∀ c, c < w.heap.size → (∀ l, m b = some l → l.c ≠ c) → (w.putObj l.c (.loop { rec with state := st', pending := pend' })).heap[c]? = w.heap[c]? := fun c _ hne => World.putObj_heap_other (fun e => hne l hm e.symm)
  have hfits : ∀ k1, h b = some k1 → Fits k1 (.loop st' pend' fn T ps asg body d) (m b ≠ some l) := fun k1 hk1 => by
    rw [hb] at hk1; cases hk1; exact ⟨rfl, rfl, rfl, rfl, rfl, rfl, fun hne => hne hm⟩
  have ex := ext_put g hsize hsame (.inl hm) hfits
  refine ⟨rec, h2, a1, a2, a4, a5, a6, a9, a10, good_put g rfl rfl rfl hsize hsame (.inl hm) hfits ?_ (fun _ _ _ _ _ _ _ _ e => by cases e; exact ⟨od, hod⟩), ex⟩
  refine ⟨l, _, ld, upd_same _ _ _, World.putObj_heap_same (lt_of_heap h2), rfl, rfl, rfl, a4, a5, a6, (upd_ne _ _ hdb).trans a7, a8, a9, fun j hj => ?_⟩
  obtain ⟨v, hv, hr⟩ := a10 j hj
  exact ⟨v, hv, hr.ext ex⟩

theorem hget_upd (H : List (Option ABlk)) (b : Nat) (k : ABlk) : hget (hset H b k) = upd (hget H) b (some k) := hget_seto H (some (b, k))

theorem SatM.move [Base] {w0 : World} {T : List AV} {h h' : Nat → Option ABlk} {D : List Nat} {m m' : Nat → Option Loc} {a : Act} {w w' : World} (s : SatM w0 [] (lget T) T.length h D m a w) (g : Good w0 h' m' w') (e : Ext h m w h' m' w') : SatM w0 [] (lget T) T.length h' D m' a w' := by
  have := s.put (d := none) (x := .junk) (v := undef) (Tf' := lget T) g e (.junk _) (fun j hj => by simp)
  simpa [Act.put] using this

theorem SatM.mark [Base] {w0 : World} {T : List AV} {h : Nat → Option ABlk} {D : List Nat} {m : Nat → Option Loc} {a : Act} {w : World} (s : SatM w0 [] (lget T) T.length h D m a w) {d : Nat} {l : Loc} (hd : m d = some l) (ho : ∃ o, h d = some (.dfr o)) :
    SatM w0 [] (lget T) T.length h (d :: D) m { a with defers := [{ target := .collected l.c, args := #[] }] ++ a.defers } w := by
  obtain ⟨ls, b1, b2, b3⟩ := s.marks
  refine ⟨s.good, s.size, s.tmps, s.roots, l :: ls, by simp [b1], fun j x z => ?_, by simp [b3]⟩
  cases j with
  | zero => exact ⟨hd, ho⟩
  | succ j => exact b2 j (by simpa using x) (by simpa using z)

/-- A range over a function. -/
theorem rangeX_sound (hcv : CvOK P cv) {g : Operand} {ps : Array Tmp} {asg body : Code} {s : St} {gf : FuncId} {first caps : List AV} (hg : aev s.T g = .fn (.func gf) first caps) {y : AV} {H' : List (Option ABlk)} {W : List Nat}
    (hc : cv (.fn (.func gf) first caps) [.fn (.yield (s.H.length + 1)) [] []] (hset (hset s.H s.H.length (.dfr true)) (s.H.length + 1) (.loop .ready none 0 s.T ps asg body s.H.length)) = some (y, H', W))
    {st : LoopState} (hst : st ≠ .busy) {pend : Option Code} {fn : FuncId} {T : List AV} {ps' : Array Tmp} {asg' body' : Code} {d : Nat} (hb : hget H' (s.H.length + 1) = some (.loop st pend fn T ps' asg' body' d)) {e : Exit} (he : jumpX pend = some e) :
    Frm s.H (hset H' (s.H.length + 1) (.loop .exhausted pend fn T ps' asg' body' d)) (s.H.length :: (s.H.length + 1) :: W) ∧
      XSem P false (.rangeFunc g ps asg body) s e ⟨s.T, hset H' (s.H.length + 1) (.loop .exhausted pend fn T ps' asg' body' d), s.H.length :: s.D⟩ := by
  obtain ⟨hf, hs⟩ := hcv _ _ _ _ _ _ hc
  constructor
  · refine ((((Frm.set s.H s.H.length (.dfr true)).trans (Frm.set _ (s.H.length + 1) _)).trans hf).trans (Frm.set _ (s.H.length + 1) _)).congr (fun b => ?_)
    simp only [List.mem_append, List.mem_cons, List.not_mem_nil, or_false]
    constructor
    · rintro (((h | h) | h) | h) <;> simp [h]
    · rintro (h | h | h) <;> simp [h]
  · intro _ w0 r m a w hr hsat
    cases hr rfl
    refine wpIn_rangeFunc fun fn0 _ => ?_
    have hn0 : hget s.H s.H.length = none := hget_length _ _ (Nat.le_refl _)
    have hn1 : upd (hget s.H) s.H.length (some (.dfr true)) (s.H.length + 1) = none := by rw [upd_ne _ _ (by omega)]; exact hget_length _ _ (by omega)
    obtain ⟨g1, e1⟩ := good_fresh hsat.good hn0 (.deferred (some [])) (.dfr true) ⟨_, upd_same _ _ _, by simpa using World.alloc_heap_new w _⟩ (by simp)
    have hsz : (w.alloc (.deferred (some []))).heap.size = w.heap.size + 1 := by simp
    have hbk : BRep (upd (upd (hget s.H) s.H.length (some (.dfr true))) (s.H.length + 1) (some (.loop .ready none 0 s.T ps asg body s.H.length))) (upd (upd m s.H.length (some ⟨w.heap.size, 0⟩)) (s.H.length + 1) (some ⟨(w.alloc (.deferred (some []))).heap.size, 0⟩))
        ((w.alloc (.deferred (some []))).alloc (.loop { state := .ready, pending := none, fn := fn0, tmps := a.tmps, params := ps, assign := asg, body := body, defers := w.heap.size })) (s.H.length + 1) (.loop .ready none 0 s.T ps asg body s.H.length) := by
      refine ⟨_, _, ⟨w.heap.size, 0⟩, upd_same _ _ _, World.alloc_heap_new _ _, rfl, rfl, rfl, rfl, rfl, rfl, by rw [upd_ne _ _ (by omega), upd_same], rfl, hsat.size, fun j hj => ?_⟩
      obtain ⟨v, hv, hrep⟩ := hsat.tmps j hj
      refine ⟨v, hv, ?_⟩
      have hTj : lget s.T j = s.T[j] := by rw [lget_get, List.getElem?_eq_getElem hj]; rfl
      rw [hTj] at hrep
      refine (hrep.ext e1).ext (ext_put (l' := ⟨(w.alloc (.deferred (some []))).heap.size, 0⟩) g1 (by simp) (fun c hc _ => Below.heap_alloc _ _ _ hc) (.inr (Nat.le_refl _)) (fun k0 hk0 => by rw [hn1] at hk0; cases hk0))
    obtain ⟨g2, e2⟩ := good_fresh g1 hn1 (.loop { state := .ready, pending := none, fn := fn0, tmps := a.tmps, params := ps, assign := asg, body := body, defers := w.heap.size }) (.loop .ready none 0 s.T ps asg body s.H.length) hbk
      (fun _ _ _ _ _ _ _ _ e => by cases e; exact ⟨true, upd_same _ _ _⟩)
    have e12 := e1.trans e2
    rw [hsz] at g2 e12
    rw [← hget_upd, ← hget_upd] at g2 e12
    have hgv := hsat.eval s.T rfl g (fun _ _ _ => rfl)
    rw [hg] at hgv
    obtain ⟨us, vs, hev, l1, l2, r1, r2⟩ := rep_fn hgv
    have hyld : Rep (hget (hset (hset s.H s.H.length (.dfr true)) (s.H.length + 1) (.loop .ready none 0 s.T ps asg body s.H.length))) (upd (upd m s.H.length (some ⟨w.heap.size, 0⟩)) (s.H.length + 1) (some ⟨w.heap.size + 1, 0⟩))
        ((w.alloc (.deferred (some []))).alloc (.loop { state := .ready, pending := none, fn := fn0, tmps := a.tmps, params := ps, assign := asg, body := body, defers := w.heap.size })) (.fn (.yield (s.H.length + 1)) [] []) (.func (.yield (w.heap.size + 1)) #[] #[]) :=
      .yld (l := ⟨w.heap.size + 1, 0⟩) (by rw [hget_upd, upd_same]) rfl (upd_same _ _ _)
    have hreps := getElem_append3 (R := Rep (hget (hset (hset s.H s.H.length (.dfr true)) (s.H.length + 1) (.loop .ready none 0 s.T ps asg body s.H.length))) (upd (upd m s.H.length (some ⟨w.heap.size, 0⟩)) (s.H.length + 1) (some ⟨w.heap.size + 1, 0⟩))
        ((w.alloc (.deferred (some []))).alloc (.loop { state := .ready, pending := none, fn := fn0, tmps := a.tmps, params := ps, assign := asg, body := body, defers := w.heap.size })))
      (xs := first) (ys := [.fn (.yield (s.H.length + 1)) [] []]) (zs := caps) (us := us) (vs := [.func (.yield (w.heap.size + 1)) #[] #[]]) (ws := vs) l1 rfl (fun j x z => (r1 j x z).ext e12)
      (fun j x z => by
        have : j = 0 := by simp at x; omega
        subst this; exact hyld) (fun j x z => (r2 j x z).ext e12)
    have hcall := hs.2 w0 _ _ (us ++ [.func (.yield (w.heap.size + 1)) #[] #[]] ++ vs) g2 (by simp [l1, l2]) hreps
    refine ⟨w.heap.size + 1, [{ target := .collected w.heap.size, args := #[] }], _, { target := .fn (.func gf) vs.toArray, args := us.toArray ++ #[Value.func (.yield (w.heap.size + 1)) #[] #[]] }, ((w.alloc (.deferred (some []))).alloc (.loop { state := .ready, pending := none, fn := fn0, tmps := a.tmps, params := ps, assign := asg, body := body, defers := w.heap.size })), gf, (us ++ [Value.func (.yield (w.heap.size + 1)) #[] #[]] ++ vs).toArray, ((w.alloc (.deferred (some []))).alloc (.loop { state := .ready, pending := none, fn := fn0, tmps := a.tmps, params := ps, assign := asg, body := body, defers := w.heap.size })),
      run_enterLoop_outer _ _ _ _ _, ?_, fun _ _ => trivial, ?_, fun hh => by simp [FW] at hh, ?_⟩
    · have hev' : a.eval g = .func (.func gf) us.toArray vs.toArray := hev
      simp only [resolve, hev', Deferred.ofValue, Sem.run_pure]
      simp [Act.eval]
    · have e3 : us.toArray ++ #[Value.func (.yield (w.heap.size + 1)) #[] #[]] ++ vs.toArray = (us ++ [Value.func (.yield (w.heap.size + 1)) #[] #[]] ++ vs).toArray := by apply Array.toList_inj.1; simp
      simp only [invoke]
      rw [e3]
      exact hs.1 _ _
    · refine hcall.mono ?_
      rintro e' w3 ⟨v, m3, rfl, g3, e3, _⟩
      have hm3 : m3 (s.H.length + 1) = some ⟨w.heap.size + 1, 0⟩ := by
        have := (e3.loop (s.H.length + 1) .ready none 0 s.T ps asg body s.H.length (by rw [hget_upd, upd_same])).2
        rw [this, upd_same]
      obtain ⟨rec, k1, k2, k3, _, _, _, _, _, g4, e4⟩ := rec_same g3 hb hm3 .exhausted pend
      have hend := run_endLoop (P := P) k1 (by rw [k2]; exact hst)
      rw [k3] at hend
      refine ⟨pend, _, hend, ?_⟩
      rw [← hget_upd] at g4 e4
      have etot := (e12.trans e3).trans e4
      have d0 : hget (hset (hset s.H s.H.length (.dfr true)) (s.H.length + 1) (.loop .ready none 0 s.T ps asg body s.H.length)) s.H.length = some (.dfr true) := by
        rw [hget_upd, hget_upd, upd_ne _ _ (by omega), upd_same]
      obtain ⟨q1, q2⟩ := (e3.trans e4).dfr _ _ d0
      have hsat4 := (hsat.move g4 etot).mark (l := ⟨w.heap.size, 0⟩) (q2.trans (by rw [upd_ne _ _ (by omega), upd_same])) q1
      cases pend with
      | none => simp only [jumpX, Option.some.injEq] at he; subst he; exact ⟨rfl, _, hsat4, etot⟩
      | some cc =>
        cases cc <;> simp only [jumpX, reduceCtorEq, Option.some.injEq] at he
        · subst he; exact wpIn_exit ⟨rfl, _, hsat4, etot⟩
        · subst he; exact wpIn_ret ⟨rfl, _, hsat4, etot⟩

/-- EVERY STATEMENT. -/
theorem xcode_sound (he : ∀ t, eqt t = true → EqOK P t) (hm : P.follows .mixedOrders = true) (hcv : CvOK P cv) :
    ∀ (c : Code) (s : St) (e : Exit) (s' : St) (W : List Nat), xcode P eqt pm cv lf rd c s = some (e, s', W) → Frm s.H s'.H W ∧ XSem P rd c s e s' := by
  intro c
  induction c with
  | skip =>
    intro s e s' W hx
    simp only [xcode, Option.some.injEq, Prod.mk.injEq] at hx
    obtain ⟨rfl, rfl, rfl⟩ := hx
    exact ⟨Frm.refl _, fun w0 r m a w _ hs => wpIn_skip ⟨rfl, m, hs, Ext.refl _ _ _⟩⟩
  | region id ops draw =>
    intro s e s' W hx
    simp only [xcode] at hx
    split at hx
    · rename_i s1 es hops
      have hsnd := fun [Base] (w0 : World) (r : Option Nat) => xops_sound (w0 := w0) (r := r) he hcv (all := ops) ops.toList 0 s s1 es (fun k => by simp) hops
      have key : Frm s.H s1.H (wall es) := by
        letI : Base := ⟨fun _ => True⟩
        exact (hsnd default none).2.2.1
      split at hx
      · rename_i hd
        subst hd
        split at hx
        · rename_i hok
          simp only [Option.some.injEq, Prod.mk.injEq] at hx
          obtain ⟨rfl, rfl, rfl⟩ := hx
          refine ⟨key, fun w0 r m a w _ hs => ?_⟩
          obtain ⟨t1, t2, t3, t4, t5⟩ := hsnd w0 r
          refine draw_sound2 (Z := hget s.H) (mz := m) (wz := w) hm t1 (by simpa using t2) hok.1 hok.2 ?_ a w ⟨m, hs, Ext.refl _ _ _⟩
          rintro a' w' ⟨m', hs', ex'⟩
          exact ⟨rfl, m', hs', ex'⟩
        · cases hx
      · rename_i hd
        have hd : draw = false := by simpa using hd
        subst hd
        simp only [Option.some.injEq, Prod.mk.injEq] at hx
        obtain ⟨rfl, rfl, rfl⟩ := hx
        refine ⟨key, fun w0 r m a w _ hs => ?_⟩
        obtain ⟨t1, t2, t3, t4, t5⟩ := hsnd w0 r
        refine wpIn_region ?_
        have := trace_seq2 (Z := hget s.H) (mz := m) (wz := w) (Q := fun e' a' w' => e' = .normal ∧ ∃ m', SatM w0 [] (lget s1.T) s1.T.length (hget s1.H) s1.D m' a' w' ∧ Ext (hget s.H) m w (hget s1.H) m' w') t1
          (fun a' w' ⟨m', hs', ex'⟩ => ⟨rfl, m', hs', ex'⟩) a w ⟨m, hs, Ext.refl _ _ _⟩
        rw [t2] at this
        simpa [List.range_eq_range'] using this
    · cases hx
  | seq x y ihx ihy =>
    intro s e s' W hx
    simp only [xcode] at hx
    split at hx
    · rename_i s1 W1 h1
      split at hx
      · rename_i e2 s2 W2 h2
        simp only [Option.some.injEq, Prod.mk.injEq] at hx
        obtain ⟨rfl, rfl, rfl⟩ := hx
        obtain ⟨f1, x1⟩ := ihx _ _ _ _ h1
        obtain ⟨f2, x2⟩ := ihy _ _ _ _ h2
        refine ⟨f1.trans f2, fun w0 r m a w hr hs => wpIn_seq (wpIn_mono (x1 w0 r m a w hr hs) ?_)⟩
        rintro e' a' w' ⟨rfl, m', hs', ex'⟩
        refine wpIn_mono (x2 w0 r m' a' w' hr hs') ?_
        rintro e'' a'' w'' ⟨rfl, m'', hs'', ex''⟩
        exact ⟨rfl, m'', hs'', ex'.trans ex''⟩
      · cases hx
    · rename_i hne
      obtain ⟨f1, x1⟩ := ihx _ _ _ _ hx
      refine ⟨f1, fun w0 r m a w hr hs => wpIn_seq (wpIn_mono (x1 w0 r m a w hr hs) ?_)⟩
      rintro e' a' w' ⟨rfl, hq⟩
      cases e' with
      | normal => exact absurd hx (hne _ _)
      | exit id => exact ⟨rfl, hq⟩
      | goto l => exact ⟨rfl, hq⟩
      | ret => exact ⟨rfl, hq⟩
      | panic ch => exact ⟨rfl, hq⟩
      | outgrown => exact ⟨rfl, hq⟩
  | cond c x y ihx ihy =>
    intro s e s' W hx
    simp only [xcode] at hx
    split at hx
    · rename_i hc
      obtain ⟨f1, x1⟩ := ihx _ _ _ _ hx
      exact ⟨f1, fun w0 r m a w hr hs => wpIn_cond_true (satM_bool hs hc) (x1 w0 r m a w hr hs)⟩
    · rename_i hc
      obtain ⟨f1, x1⟩ := ihy _ _ _ _ hx
      exact ⟨f1, fun w0 r m a w hr hs => wpIn_cond_false (satM_bool hs hc) (x1 w0 r m a w hr hs)⟩
    · cases hx
  | block id c ih =>
    intro s e s' W hx
    simp only [xcode] at hx
    split at hx
    · rename_i i s1 W1 h1
      obtain ⟨f1, x1⟩ := ih _ _ _ _ h1
      split at hx
      · rename_i hi
        simp only [Option.some.injEq, Prod.mk.injEq] at hx
        obtain ⟨rfl, rfl, rfl⟩ := hx
        refine ⟨f1, fun w0 r m a w hr hs => wpIn_block (wpIn_mono (x1 w0 r m a w hr hs) ?_)⟩
        rintro e' a' w' ⟨rfl, hq⟩
        simp only [Exit.inBlock, hi, if_true]
        exact ⟨trivial, hq⟩
      · rename_i hi
        simp only [Option.some.injEq, Prod.mk.injEq] at hx
        obtain ⟨rfl, rfl, rfl⟩ := hx
        refine ⟨f1, fun w0 r m a w hr hs => wpIn_block (wpIn_mono (x1 w0 r m a w hr hs) ?_)⟩
        rintro e' a' w' ⟨rfl, hq⟩
        simp only [Exit.inBlock, hi, if_false]
        exact ⟨trivial, hq⟩
    · rename_i hne
      obtain ⟨f1, x1⟩ := ih _ _ _ _ hx
      refine ⟨f1, fun w0 r m a w hr hs => wpIn_block (wpIn_mono (x1 w0 r m a w hr hs) ?_)⟩
      rintro e' a' w' ⟨rfl, hq⟩
      cases e' with
      | normal => exact ⟨rfl, hq⟩
      | exit id => exact absurd hx (hne _ _ _)
      | goto l => exact ⟨rfl, hq⟩
      | ret => exact ⟨rfl, hq⟩
      | panic ch => exact ⟨rfl, hq⟩
      | outgrown => exact ⟨rfl, hq⟩
  | loop c ih =>
    intro s e s' W hx
    simp only [xcode] at hx
    exact xloop_sound _ ih _ _ _ _ _ hx
  | rangeFunc g ps asg body _ _ =>
    intro s e s' W hx
    simp only [xcode] at hx
    split at hx
    · cases hx
    · rename_i hrd
      have hrd : rd = false := by simpa using hrd
      subst hrd
      split at hx
      · rename_i gf first caps hg
        split at hx
        · rename_i y H' W' hc
          split at hx
          · rename_i pend fn T ps' asg' body' d hb
            split at hx
            · rename_i e1 he1
              simp only [Option.some.injEq, Prod.mk.injEq] at hx
              obtain ⟨rfl, rfl, rfl⟩ := hx
              exact rangeX_sound hcv hg hc (by simp) hb he1
            · cases hx
          · rename_i pend fn T ps' asg' body' d hb
            split at hx
            · rename_i e1 he1
              simp only [Option.some.injEq, Prod.mk.injEq] at hx
              obtain ⟨rfl, rfl, rfl⟩ := hx
              exact rangeX_sound hcv hg hc (by simp) hb he1
            · cases hx
          · cases hx
        · cases hx
      · cases hx
  | exit id =>
    intro s e s' W hx
    simp only [xcode, Option.some.injEq, Prod.mk.injEq] at hx
    obtain ⟨rfl, rfl, rfl⟩ := hx
    exact ⟨Frm.refl _, fun w0 r m a w _ hs => wpIn_exit ⟨rfl, m, hs, Ext.refl _ _ _⟩⟩
  | scope c ih =>
    intro s e s' W hx
    simp only [xcode] at hx
    split at hx
    · cases hx
    · rename_i hne
      obtain ⟨f1, x1⟩ := ih _ _ _ _ hx
      refine ⟨f1, fun w0 r m a w hr hs => wpIn_scope (wpIn_mono (x1 w0 r m a w hr hs) ?_)⟩
      rintro e' a' w' ⟨rfl, hq⟩
      exact ⟨fun l hl => by subst hl; exact absurd hx (hne _ _ _), rfl, hq⟩
  | label l =>
    intro s e s' W hx
    simp only [xcode, Option.some.injEq, Prod.mk.injEq] at hx
    obtain ⟨rfl, rfl, rfl⟩ := hx
    exact ⟨Frm.refl _, fun w0 r m a w _ hs => wpIn_label ⟨rfl, m, hs, Ext.refl _ _ _⟩⟩
  | goto l => intro s e s' W hx; simp [xcode] at hx
  | ret =>
    intro s e s' W hx
    simp only [xcode, Option.some.injEq, Prod.mk.injEq] at hx
    obtain ⟨rfl, rfl, rfl⟩ := hx
    exact ⟨Frm.refl _, fun w0 r m a w _ hs => wpIn_ret ⟨rfl, m, hs, Ext.refl _ _ _⟩⟩
  | refuse why => intro s e s' W hx; simp [xcode] at hx
end
end Go.Am
