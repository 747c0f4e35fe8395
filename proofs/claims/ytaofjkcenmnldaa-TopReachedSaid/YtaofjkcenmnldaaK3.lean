/- Parts X3, X4, X5, AmW, Yk, X6, X7, Y1, Y2, Y3, Y4, Y5, Y6, Y7, Y8 of the proof, one behind the other. No statement is proved here. -/
import Derived.Test.YtaofjkcenmnldaaK2
import Derived.RangeFuncRecord
import Derived.ChangeKeysEq
set_option linter.unusedVariables false -- all
set_option linter.unusedSimpArgs false
/- The abstract machine Am, part X3: what effX says, effK says. -/
namespace Go.Am
open Go.RowKit
theorem map_some {α β : Type} {f : α → β} {o : Option α} {b : β} (h : o.map f = some b) : ∃ a, o = some a ∧ b = f a := by
  cases o with
  | none => cases h
  | some a => exact ⟨a, rfl, by simpa using h.symm⟩
end Go.Am

/- The abstract machine Am, part X4: the machine that runs is sound: operations and regions. -/
namespace Go.Am
open Go.RowKit
structure Frm (H H' : List (Option ABlk)) (W : List Nat) : Prop where
  same : ∀ b, b ∉ W → hget H' b = hget H b
  some : ∀ b, b ∈ W → ∃ k, hget H' b = some k
theorem Frm.refl (H : List (Option ABlk)) : Frm H H [] := ⟨fun _ _ => rfl, fun b hb => by simp at hb⟩
theorem Frm.trans {H H' H'' : List (Option ABlk)} {W W' : List Nat} (a : Frm H H' W) (b : Frm H' H'' W') : Frm H H'' (W ++ W') := by
  refine ⟨fun c hc => ?_, fun c hc => ?_⟩
  · simp only [List.mem_append, not_or] at hc
    exact (b.same c hc.2).trans (a.same c hc.1)
  · by_cases h : c ∈ W'
    · exact b.some c h
    · rw [b.same c h]
      rcases List.mem_append.1 hc with h1 | h1
      · exact a.some c h1
      · exact absurd h1 h
theorem Frm.set (H : List (Option ABlk)) (b : Nat) (k : ABlk) : Frm H (hset H b k) [b] := by
  refine ⟨fun c hc => ?_, fun c hc => ?_⟩
  · rw [hget_set, if_neg (by simpa using hc)]
  · rw [hget_set, if_pos (by simpa using hc)]; exact ⟨k, rfl⟩
theorem wlog_at (H' : List (Option ABlk)) : ∀ (W : List Nat) (f : Nat → Option ABlk) (b : Nat), (∀ c, c ∈ W → ∃ k, hget H' c = some k) → updl f (wlog H' W) b = if b ∈ W then hget H' b else f b
  | [], f, b, _ => by simp [wlog, updl]
  | c :: W, f, b, h => by
    obtain ⟨k, hk⟩ := h c (by simp)
    simp only [wlog, hk, updl]
    rw [wlog_at H' W _ b (fun d hd => h d (by simp [hd]))]
    by_cases hb : b ∈ W
    · simp [hb]
    · by_cases hc : b = c
      · subst hc; simp [hb, upd_same, hk]
      · simp [hb, hc, upd_ne]
theorem wlog_upd {H H' : List (Option ABlk)} {W : List Nat} (f : Frm H H' W) : hget H' = updl (hget H) (wlog H' W) := by
  funext b
  rw [wlog_at H' W _ b f.some]
  split
  · rfl
  · exact f.same b ‹_›
/-- What a function does, with all blocks. -/
def SemF (P : Program) (g : FuncId) (as : List AV) (H : List (Option ABlk)) (r : AV) (H' : List (Option ABlk)) : Prop :=
  Enters P g ∧ ∀ [Base] (w0 : World) (m : Nat → Option Loc) (w : World) (vs : List Value), Good w0 (hget H) m w → as.length = vs.length → (∀ j (a : j < as.length) (b : j < vs.length), Rep (hget H) m w as[j] vs[j]) →
    CallsIn (FW none) 0 P g vs.toArray w fun e w' => ∃ v m', e = .returned v ∧ Good w0 (hget H') m' w' ∧ Ext (hget H) m w (hget H') m' w' ∧ Rep (hget H') m' w' r v
/-- What a round does. -/
def SemY (P : Program) (b : Nat) (as : List AV) (H : List (Option ABlk)) (r : AV) (H' : List (Option ABlk)) : Prop :=
  ∀ [Base] (w0 : World) (m : Nat → Option Loc) (w : World) (vs : List Value) (l : Loc), Good w0 (hget H) m w → m b = some l → as.length = vs.length → (∀ j (a : j < as.length) (b : j < vs.length), Rep (hget H) m w as[j] vs[j]) →
    ∃ fn tm asg body, (Instr.yield l.c vs.toArray).run P w = .ok (.round l.c fn tm asg body) w ∧ RoundIn (FW none) 0 P l.c fn tm asg body w fun e w' => ∃ v m', e = .returned v ∧ Good w0 (hget H') m' w' ∧ Ext (hget H) m w (hget H') m' w' ∧ Rep (hget H') m' w' r v
def Sem (P : Program) (fv : AV) (as : List AV) (H : List (Option ABlk)) (r : AV) (H' : List (Option ABlk)) : Prop :=
  match fv with
  | .fn (.func g) first caps => SemF P g (first ++ as ++ caps) H r H'
  | .fn (.yield b) [] [] => SemY P b as H r H'
  | _ => False
section
variable [Base] {P : Program} {w0 : World} {h : Nat → Option ABlk} {m : Nat → Option Loc} {w : World}
theorem rep_yld {b : Nat} {xs ys : List AV} {v : Value} (r : Rep h m w (.fn (.yield b) xs ys) v) : xs = [] ∧ ys = [] ∧ ∃ l, m b = some l ∧ v = .func (.yield l.c) #[] #[] := by
  cases r with
  | pure p => cases p with | fn us vs hf => exact absurd rfl (hf b)
  | yld hb hk hm => exact ⟨rfl, rfl, _, hm, rfl⟩
  | fn us vs hf => exact absurd rfl (hf b)
omit [Base] in
theorem wp_round {r : Option Nat} {o : Oper} {a : Act} {l : Nat} {fn : FuncId} {tm : Array Value} {asg body : Code} {next : Act → World → Prop} {Q : Exit → Act → World → Prop} {R : Ending → World → Prop} (hnd : ∀ c, o.op ≠ .defer c)
    (hrun : (execOp a.eval o).run P w = .ok (.round l fn tm asg body) w) (hc : RoundIn (FW none) 0 P l fn tm asg body w R) (hR : ∀ e w', R e w' → ∃ v, e = .returned v ∧ next (a.put o.dst v) w') : o.wpIn (FW r) 0 P a w next Q := by
  refine ⟨fun _ _ => trivial, ?_⟩
  rw [Oper.semAt_eq _ _ _ hnd, hrun, Oper.uponIn_round]
  refine ⟨fun hh => by simp [FW] at hh, ?_⟩
  have hc' : RoundIn (FW r) 0 P l fn tm asg body w R := hc
  refine hc'.mono fun e w' he => ?_
  obtain ⟨v, rfl, hv⟩ := hR e w' he
  exact hv
/-- A call as an operation. -/
theorem call_ok {r : Option Nat} {o : Oper} {f : Operand} {args : Array Operand} {ts : Array TypeId} {T : List AV} {H H' : List (Option ABlk)} {W : List Nat} {y : AV} (ho : o.op = .call ⟨.value f, args, ts⟩)
    (hf : Frm H H' W) (hs : Sem P (aev T f) (args.toList.map (aev T)) H y H') : OpOK2 P w0 r o (aev T) (hget H) ⟨y, [], wlog H' W, true⟩ := by
  intro h' m w ac next Q _ _ hall hg hop hnext
  have hh := hall rfl
  subst hh
  simp only at hnext
  rw [← wlog_upd hf] at hnext
  have h1 := hop f (by simp [ho, Op.operands, Call.operands])
  have hargs : ∀ j (a : j < (args.toList.map (aev T)).length) (c : j < (args.toList.map ac.eval).length), Rep (hget H) m w (args.toList.map (aev T))[j] (args.toList.map ac.eval)[j] := by
    intro j a c
    simp only [List.getElem_map]
    exact hop _ (by simp [ho, Op.operands, Call.operands])
  generalize hfv : aev T f = fv at *
  match fv, hs with
  | .fn (.func g) first caps, hs =>
    obtain ⟨us, vs, he, l1, l2, r1, r2⟩ := rep_fn h1
    have hlen : (first ++ args.toList.map (aev T) ++ caps).length = (us ++ args.toList.map ac.eval ++ vs).length := by simp [l1, l2]
    have hreps := getElem_append3 l1 (by simp) r1 hargs r2
    have hc := hs.2 w0 m w (us ++ args.toList.map ac.eval ++ vs) hg hlen hreps
    have hrun : (execOp ac.eval o).run P w = .ok (.enter g (us ++ args.toList.map ac.eval ++ vs).toArray) w := by
      have e1 : us.toArray ++ args.map ac.eval ++ vs.toArray = (us ++ args.toList.map ac.eval ++ vs).toArray := by
        apply Array.toList_inj.1; simp
      simp only [execOp, ho, resolve, he, Deferred.ofValue, Sem.run_bind, Sem.run_pure, Result.andThen_ok, invoke]
      rw [e1]
      exact hs.1 w _
    refine wp_call (by simp [ho]) hrun hc (fun e w' hR => ?_)
    obtain ⟨v, m', rfl, g1, e1, rr⟩ := hR
    exact ⟨v, rfl, hnext v w' m' g1 e1 rr⟩
  | .fn (.yield b) [] [], hs =>
    obtain ⟨_, _, l, hl, he⟩ := rep_yld h1
    obtain ⟨fn, tm, asg, body, hy, hr⟩ := hs w0 m w (args.toList.map ac.eval) l hg hl (by simp) hargs
    have hrun : (execOp ac.eval o).run P w = .ok (.round l.c fn tm asg body) w := by
      have e1 : (#[] : Array Value) ++ args.map ac.eval = (args.toList.map ac.eval).toArray := by
        apply Array.toList_inj.1; simp
      simp only [execOp, ho, resolve, he, Deferred.ofValue, Sem.run_bind, Sem.run_pure, Result.andThen_ok, invoke]
      rw [e1]
      exact hy
    refine wp_round (by simp [ho]) hrun hr (fun e w' hR => ?_)
    obtain ⟨v, m', rfl, g1, e1, rr⟩ := hR
    exact ⟨v, rfl, hnext v w' m' g1 e1 rr⟩
end
end Go.Am

/- The abstract machine Am, part X5: the machine that runs is sound: statements, calls, rounds. -/
namespace Go.Am
open Go.RowKit
section
variable {F : Fence} {n : Nat} {P : Program} {Q : Exit → Act → World → Prop} {a : Act} {w : World}
theorem stepR_scope' {b : Frame} {c : Code} {k : List Item} {cs : List Frame} : step P (lone (b.atR a (.code (.scope c) :: k)) cs w) = .next (lone (b.atR a (.code c :: .inScope c :: k)) cs w) :=
  step_lone_go (by simp [stepG, stepG.exec, Frame.atR])
theorem stepR_inScope' {b : Frame} {c : Code} {k : List Item} {cs : List Frame} : step P (lone (b.atR a (.inScope c :: k)) cs w) = .next (lone (b.atR a k) cs w) :=
  step_lone_go (by simp [stepG, stepG.exec, Frame.atR])
theorem wpIn_scope {c : Code} (h : c.wpIn F n P (fun e a w => (∀ l, e ≠ .goto l) ∧ Q e a w) a w) : (Code.scope c).wpIn F n P Q a w := by
  intro b k cs hro hb hr
  have h0 : (lone (b.atR a (.code (.scope c) :: k)) cs w).fenced P F := fenced_calm hb hr rfl
  obtain ⟨e, a₁, w₁, ⟨hne, hq⟩, harr⟩ := h b (.inScope c :: k) cs hro hb hr
  cases e with
  | normal => exact ⟨.normal, a₁, w₁, hq, .head h0 stepR_scope' (StepsIn.trans harr (.one (fenced_calm hb hr rfl) stepR_inScope'))⟩
  | exit id =>
    have hx : exitTo id (.inScope c :: k) = exitTo id k := by simp [exitTo]
    exact ⟨_, a₁, w₁, hq, fun k' hk => .head h0 stepR_scope' (harr.1 k' (by rw [hx]; exact hk)),
      fun hr' hk => let ⟨k₁, h1, h2⟩ := harr.2 hr' (by rw [hx]; exact hk); ⟨k₁, h1, .head h0 stepR_scope' h2⟩⟩
  | goto l => exact absurd rfl (hne l)
  | ret => exact ⟨_, a₁, w₁, hq, .of_steps (.one h0 stepR_scope') harr⟩
  | panic ch => exact ⟨_, a₁, w₁, hq, .of_steps (.one h0 stepR_scope') harr⟩
  | outgrown => exact ⟨_, a₁, w₁, hq, .of_steps (.one h0 stepR_scope') harr⟩
end
/-- WHAT A STATEMENT COMES TO. -/
def XSem (P : Program) (rd : Bool) (c : Code) (s : St) (e : Exit) (s' : St) : Prop :=
  ∀ [Base] (w0 : World) (r : Option Nat) (hid : List Nat) (m : Nat → Option Loc) (a : Act) (w : World), (rd = false → r = none) → SatM w0 hid (lget s.T) s.T.length (hget s.H) s.D m a w →
    c.wpIn (FW r) 0 P (fun e' a' w' => e' = e ∧ ∃ m', SatM w0 hid (lget s'.T) s'.T.length (hget s'.H) s'.D m' a' w' ∧ Ext (hget s.H) m w (hget s'.H) m' w') a w
section
variable {P : Program} {eqt : TypeId → Bool} {pm : FuncId → Bool} {cv : Cv} {lf : Nat} {rd : Bool}
/-- A new block. -/
theorem good_fresh [Base] {w0 : World} {h : Nat → Option ABlk} {m : Nat → Option Loc} {w : World} (g : Good w0 h m w) {b : Nat} (hb : h b = none) (o : Obj) (k : ABlk)
    (hk : BRep (upd h b (some k)) (upd m b (some ⟨w.heap.size, 0⟩)) (w.alloc o) b k) (hd : ∀ st pend fn T ps asg body d, k = .loop st pend fn T ps asg body d → ∃ o, h d = some (.dfr o)) :
    Good w0 (upd h b (some k)) (upd m b (some ⟨w.heap.size, 0⟩)) (w.alloc o) ∧ Ext h m w (upd h b (some k)) (upd m b (some ⟨w.heap.size, 0⟩)) (w.alloc o) := by
  have hm : m b = none := by
    cases hm : m b with
    | none => rfl
    | some l => obtain ⟨k', hk'⟩ := g.supp b l hm; rw [hb] at hk'; cases hk'
  have hsize : w.heap.size ≤ (w.alloc o).heap.size := by simp
  have hsame : ∀ c, c < w.heap.size → (∀ l, m b = some l → l.c ≠ c) → (w.alloc o).heap[c]? = w.heap[c]? := fun c hc _ => Below.heap_alloc _ _ _ hc
  have hfits : ∀ k0, h b = some k0 → Fits k0 k (m b ≠ some ⟨w.heap.size, 0⟩) := fun k0 hk0 => by rw [hb] at hk0; cases hk0
  exact ⟨good_put g rfl rfl rfl hsize hsame (.inr (Nat.le_refl _)) hfits hk hd, ext_put g hsize hsame (.inr (Nat.le_refl _)) hfits⟩
/-- The record of a loop is written anew. -/
theorem rec_same [Base] {w0 : World} {h : Nat → Option ABlk} {m : Nat → Option Loc} {w : World} (g : Good w0 h m w) {b : Nat} {st : LoopState} {pend : Option Code} {fn : FuncId} {T : List AV} {ps : Array Tmp} {asg body : Code} {d : Nat} {l : Loc}
    (hb : h b = some (.loop st pend fn T ps asg body d)) (hm : m b = some l) (st' : LoopState) (pend' : Option Code) :
    ∃ rec : Loop, w.heap[l.c]? = some (.loop rec) ∧ rec.state = st ∧ rec.pending = pend ∧ rec.params = ps ∧ rec.assign = asg ∧ rec.body = body ∧ rec.tmps.size = T.length ∧ (∀ j (hj : j < T.length), ∃ v, rec.tmps[j]? = some v ∧ Rep h m w T[j] v) ∧
      Good w0 (upd h b (some (.loop st' pend' fn T ps asg body d))) (upd m b (some l)) (w.putObj l.c (.loop { rec with state := st', pending := pend' })) ∧
      Ext h m w (upd h b (some (.loop st' pend' fn T ps asg body d))) (upd m b (some l)) (w.putObj l.c (.loop { rec with state := st', pending := pend' })) := by
  obtain ⟨l', rec, ld, h1, h2, a1, a2, a3, a4, a5, a6, a7, a8, a9, a10⟩ := g.blk b _ hb
  rw [hm] at h1; cases h1
  obtain ⟨od, hod⟩ := g.dloop _ _ _ _ _ _ _ _ _ hb
  have hdb : d ≠ b := fun e => by rw [e, hb] at hod; cases hod
  have hsize : w.heap.size ≤ (w.putObj l.c (.loop { rec with state := st', pending := pend' })).heap.size := by simp
  have hsame : ∀ c, c < w.heap.size → (∀ l, m b = some l → l.c ≠ c) → (w.putObj l.c (.loop { rec with state := st', pending := pend' })).heap[c]? = w.heap[c]? := fun c _ hne => World.putObj_heap_other (fun e => hne l hm e.symm)
  have hfits : ∀ k1, h b = some k1 → Fits k1 (.loop st' pend' fn T ps asg body d) (m b ≠ some l) := fun k1 hk1 => by
    rw [hb] at hk1; cases hk1; exact ⟨rfl, rfl, rfl, rfl, rfl, rfl, fun hne => hne hm⟩
  have ex := ext_put g hsize hsame (.inl hm) hfits
  refine ⟨rec, h2, a1, a2, a4, a5, a6, a9, a10, good_put g rfl rfl rfl hsize hsame (.inl hm) hfits ?_ (fun _ _ _ _ _ _ _ _ e => by cases e; exact ⟨od, hod⟩), ex⟩
  refine ⟨l, _, ld, upd_same _ _ _, World.putObj_heap_same (lt_of_heap h2), rfl, rfl, rfl, a4, a5, a6, (upd_ne _ _ hdb).trans a7, a8, a9, fun j hj => ?_⟩
  obtain ⟨v, hv, hr⟩ := a10 j hj
  exact ⟨v, hv, hr.ext ex⟩
theorem hget_upd (H : List (Option ABlk)) (b : Nat) (k : ABlk) : hget (hset H b k) = upd (hget H) b (some k) := hget_seto H (some (b, k))
theorem SatM.move [Base] {w0 : World} {hid : List Nat} {T : List AV} {h h' : Nat → Option ABlk} {D : List Nat} {m m' : Nat → Option Loc} {a : Act} {w w' : World} (s : SatM w0 hid (lget T) T.length h D m a w) (g : Good w0 h' m' w') (e : Ext h m w h' m' w') : SatM w0 hid (lget T) T.length h' D m' a w' := by
  have := s.put (d := none) (x := .junk) (v := undef) (Tf' := lget T) g e (.junk _) (fun j hj => by simp)
  simpa [Act.put] using this
theorem SatM.mark [Base] {w0 : World} {hid : List Nat} {T : List AV} {h : Nat → Option ABlk} {D : List Nat} {m : Nat → Option Loc} {a : Act} {w : World} (s : SatM w0 hid (lget T) T.length h D m a w) {d : Nat} {l : Loc} (hd : m d = some l) (ho : ∃ o, h d = some (.dfr o)) :
    SatM w0 hid (lget T) T.length h (d :: D) m { a with defers := [{ target := .collected l.c, args := #[] }] ++ a.defers } w := by
  obtain ⟨ls, b1, b2, b3⟩ := s.marks
  refine ⟨s.good, s.size, s.tmps, s.roots, l :: ls, by simp [b1], fun j x z => ?_, by simp [b3]⟩
  cases j with
  | zero => exact ⟨hd, ho⟩
  | succ j => exact b2 j (by simpa using x) (by simpa using z)
/-- A range over a function. -/
theorem range_core {g : Operand} {ps : Array Tmp} {asg body : Code} {s : St} {gf : FuncId} {first caps : List AV} (hg : aev s.T g = .fn (.func gf) first caps) {y : AV} {H' : List (Option ABlk)}
    (hs : SemF P gf (first ++ [.fn (.yield (s.H.length + 1)) [] []] ++ caps) (hset (hset s.H s.H.length (.dfr true)) (s.H.length + 1) (.loop .ready none 0 s.T ps asg body s.H.length)) y H')
    {st : LoopState} (hst : st ≠ .busy) {pend : Option Code} {fn : FuncId} {T : List AV} {ps' : Array Tmp} {asg' body' : Code} {d : Nat} (hb : hget H' (s.H.length + 1) = some (.loop st pend fn T ps' asg' body' d)) {e : Exit} (he : jumpX pend = some e) :
    XSem P false (.rangeFunc g ps asg body) s e ⟨s.T, hset H' (s.H.length + 1) (.loop .exhausted pend fn T ps' asg' body' d), s.H.length :: s.D⟩ := by
  intro _ w0 r hid m a w hr hsat
  cases hr rfl
  refine wpIn_rangeFunc fun fn0 _ => ?_
  have hn0 : hget s.H s.H.length = none := hget_length _ _ (Nat.le_refl _)
  have hn1 : upd (hget s.H) s.H.length (some (.dfr true)) (s.H.length + 1) = none := by rw [upd_ne _ _ (by omega)]; exact hget_length _ _ (by omega)
  obtain ⟨g1, e1⟩ := good_fresh hsat.good hn0 (.deferred (some [])) (.dfr true) ⟨_, upd_same _ _ _, by simpa using World.alloc_heap_new w _⟩ (by simp)
  have hsz : (w.alloc (.deferred (some []))).heap.size = w.heap.size + 1 := by simp
  have hbk : BRep (upd (upd (hget s.H) s.H.length (some (.dfr true))) (s.H.length + 1) (some (.loop .ready none 0 s.T ps asg body s.H.length))) (upd (upd m s.H.length (some ⟨w.heap.size, 0⟩)) (s.H.length + 1) (some ⟨(w.alloc (.deferred (some []))).heap.size, 0⟩))
      ((w.alloc (.deferred (some []))).alloc (.loop { state := .ready, pending := none, fn := fn0, tmps := a.tmps, params := ps, assign := asg, body := body, defers := w.heap.size })) (s.H.length + 1) (.loop .ready none 0 s.T ps asg body s.H.length) := by
    refine ⟨_, _, ⟨w.heap.size, 0⟩, upd_same _ _ _, World.alloc_heap_new _ _, rfl, rfl, rfl, rfl, rfl, rfl, by rw [upd_ne _ _ (by omega), upd_same], rfl, hsat.size, fun j hj => ?_⟩
    obtain ⟨v, hv, hrep⟩ := hsat.tmps j hj
    refine ⟨v, hv, ?_⟩
    have hTj : lget s.T j = s.T[j] := by rw [lget_get, List.getElem?_eq_getElem hj]; rfl
    rw [hTj] at hrep
    refine (hrep.ext e1).ext (ext_put (l' := ⟨(w.alloc (.deferred (some []))).heap.size, 0⟩) g1 (by simp) (fun c hc _ => Below.heap_alloc _ _ _ hc) (.inr (Nat.le_refl _)) (fun k0 hk0 => by rw [hn1] at hk0; cases hk0))
  obtain ⟨g2, e2⟩ := good_fresh g1 hn1 (.loop { state := .ready, pending := none, fn := fn0, tmps := a.tmps, params := ps, assign := asg, body := body, defers := w.heap.size }) (.loop .ready none 0 s.T ps asg body s.H.length) hbk
    (fun _ _ _ _ _ _ _ _ e => by cases e; exact ⟨true, upd_same _ _ _⟩)
  have e12 := e1.trans e2
  rw [hsz] at g2 e12
  rw [← hget_upd, ← hget_upd] at g2 e12
  have hgv := hsat.eval s.T rfl g (fun _ _ _ => rfl)
  rw [hg] at hgv
  obtain ⟨us, vs, hev, l1, l2, r1, r2⟩ := rep_fn hgv
  have hyld : Rep (hget (hset (hset s.H s.H.length (.dfr true)) (s.H.length + 1) (.loop .ready none 0 s.T ps asg body s.H.length))) (upd (upd m s.H.length (some ⟨w.heap.size, 0⟩)) (s.H.length + 1) (some ⟨w.heap.size + 1, 0⟩))
      ((w.alloc (.deferred (some []))).alloc (.loop { state := .ready, pending := none, fn := fn0, tmps := a.tmps, params := ps, assign := asg, body := body, defers := w.heap.size })) (.fn (.yield (s.H.length + 1)) [] []) (.func (.yield (w.heap.size + 1)) #[] #[]) :=
    .yld (l := ⟨w.heap.size + 1, 0⟩) (by rw [hget_upd, upd_same]) rfl (upd_same _ _ _)
  have hreps := getElem_append3 (R := Rep (hget (hset (hset s.H s.H.length (.dfr true)) (s.H.length + 1) (.loop .ready none 0 s.T ps asg body s.H.length))) (upd (upd m s.H.length (some ⟨w.heap.size, 0⟩)) (s.H.length + 1) (some ⟨w.heap.size + 1, 0⟩))
      ((w.alloc (.deferred (some []))).alloc (.loop { state := .ready, pending := none, fn := fn0, tmps := a.tmps, params := ps, assign := asg, body := body, defers := w.heap.size })))
    (xs := first) (ys := [.fn (.yield (s.H.length + 1)) [] []]) (zs := caps) (us := us) (vs := [.func (.yield (w.heap.size + 1)) #[] #[]]) (ws := vs) l1 rfl (fun j x z => (r1 j x z).ext e12)
    (fun j x z => by
      have : j = 0 := by simp at x; omega
      subst this; exact hyld) (fun j x z => (r2 j x z).ext e12)
  have hcall := hs.2 w0 _ _ (us ++ [.func (.yield (w.heap.size + 1)) #[] #[]] ++ vs) g2 (by simp [l1, l2]) hreps
  refine ⟨w.heap.size + 1, [{ target := .collected w.heap.size, args := #[] }], _, { target := .fn (.func gf) vs.toArray, args := us.toArray ++ #[Value.func (.yield (w.heap.size + 1)) #[] #[]] }, ((w.alloc (.deferred (some []))).alloc (.loop { state := .ready, pending := none, fn := fn0, tmps := a.tmps, params := ps, assign := asg, body := body, defers := w.heap.size })), gf, (us ++ [Value.func (.yield (w.heap.size + 1)) #[] #[]] ++ vs).toArray, ((w.alloc (.deferred (some []))).alloc (.loop { state := .ready, pending := none, fn := fn0, tmps := a.tmps, params := ps, assign := asg, body := body, defers := w.heap.size })),
    run_enterLoop_outer _ _ _ _ _, ?_, fun _ _ => trivial, ?_, fun hh => by simp [FW] at hh, ?_⟩
  · have hev' : a.eval g = .func (.func gf) us.toArray vs.toArray := hev
    simp only [resolve, hev', Deferred.ofValue, Sem.run_pure]
    simp [Act.eval]
  · have e3 : us.toArray ++ #[Value.func (.yield (w.heap.size + 1)) #[] #[]] ++ vs.toArray = (us ++ [Value.func (.yield (w.heap.size + 1)) #[] #[]] ++ vs).toArray := by apply Array.toList_inj.1; simp
    simp only [invoke]
    rw [e3]
    exact hs.1 _ _
  · refine hcall.mono ?_
    rintro e' w3 ⟨v, m3, rfl, g3, e3, _⟩
    have hm3 : m3 (s.H.length + 1) = some ⟨w.heap.size + 1, 0⟩ := by
      have := (e3.loop (s.H.length + 1) .ready none 0 s.T ps asg body s.H.length (by rw [hget_upd, upd_same])).2
      rw [this, upd_same]
    obtain ⟨rec, k1, k2, k3, _, _, _, _, _, g4, e4⟩ := rec_same g3 hb hm3 .exhausted pend
    have hend := run_endLoop (P := P) k1 (by rw [k2]; exact hst)
    rw [k3] at hend
    refine ⟨pend, _, hend, ?_⟩
    rw [← hget_upd] at g4 e4
    have etot := (e12.trans e3).trans e4
    have d0 : hget (hset (hset s.H s.H.length (.dfr true)) (s.H.length + 1) (.loop .ready none 0 s.T ps asg body s.H.length)) s.H.length = some (.dfr true) := by
      rw [hget_upd, hget_upd, upd_ne _ _ (by omega), upd_same]
    obtain ⟨q1, q2⟩ := (e3.trans e4).dfr _ _ d0
    have hsat4 := (hsat.move g4 etot).mark (l := ⟨w.heap.size, 0⟩) (q2.trans (by rw [upd_ne _ _ (by omega), upd_same])) q1
    cases pend with
    | none => simp only [jumpX, Option.some.injEq] at he; subst he; exact ⟨rfl, _, hsat4, etot⟩
    | some cc =>
      cases cc <;> simp only [jumpX, reduceCtorEq, Option.some.injEq] at he
      · subst he; exact wpIn_exit ⟨rfl, _, hsat4, etot⟩
      · subst he; exact wpIn_ret ⟨rfl, _, hsat4, etot⟩
end
end Go.Am

/- The abstract machine Am, part W: the rewriting of 'this state says less'; loops that count. -/
namespace Go.Am
set_option linter.unusedSimpArgs false
set_option linter.unusedVariables false
open Go.RowKit
/-- A list of temporaries, of which some are told. -/
def putT : List AV → List (Nat × AV) → List AV
  | T, [] => T
  | T, (j, x) :: l => putT (lset T j x) l
def mkT (n : Nat) (l : List (Nat × AV)) : List AV := putT (junks n) l
theorem mkT_def {n : Nat} {l : List (Nat × AV)} : mkT n l = putT (junks n) l := nrfl rfl
section
variable {p : Nat → Bool} {x y : AV} {xs ys : List AV} {a b : Int} {k : IntKind} {n n' : Nat} {f f' : Bool}
theorem av_j : avSub x .junk = True := nrfl rfl
theorem av_int : avSub (.int k a) (.int k b) = (a = b) := by simp [avSub]
theorem av_bool : avSub (.bool f) (.bool f') = (f = f') := by simp [avSub]
theorem av_nils : avSub .nils .nils = True := by simp [avSub]
theorem av_ptr {c g o c' g' o' : Nat} : avSub (.ptr c g o) (.ptr c' g' o') = (c = c' ∧ g = g' ∧ o = o') := by simp [avSub]
theorem av_osl {c g o l c' g' o' l' : Nat} : avSub (.osl c g o l) (.osl c' g' o' l') = (c = c' ∧ g = g' ∧ o = o' ∧ l = l') := by simp [avSub]
theorem av_psl : avSub (.psl f n xs) (.psl false n' ys) = (n = n' ∧ xs = ys) := by cases f <;> simp [avSub]
theorem av_agg : avSub (.agg xs) (.agg ys) = (xs = ys) := by simp [avSub]
theorem av_fn {g g' : Fn} {us vs : List AV} : avSub (.fn g xs ys) (.fn g' us vs) = (g = g' ∧ xs = us ∧ ys = vs) := by simp [avSub]
theorem lv_j : live2 p .junk = true := nrfl rfl
theorem lv_int : live2 p (.int k a) = true := nrfl rfl
theorem lv_bool : live2 p (.bool f) = true := nrfl rfl
theorem lv_nils : live2 p .nils = true := nrfl rfl
theorem lv_psl : live2 p (.psl f n xs) = true := nrfl rfl
theorem lv_ptr {c g o : Nat} : live2 p (.ptr c g o) = p c := nrfl rfl
theorem lv_osl {c g o l : Nat} : live2 p (.osl c g o l) = p c := nrfl rfl
theorem lv_map {c : Nat} : live2 p (.map c) = p c := nrfl rfl
theorem lv_agg : live2 p (.agg xs) = xs.all (live1 p) := nrfl rfl
theorem lv_fn {g : FuncId} : live2 p (.fn (.func g) xs ys) = (xs.all (live1 p) && ys.all (live1 p)) := nrfl rfl
theorem l1_int : live1 p (.int k a) = true := nrfl rfl
theorem l1_pptr : live1 p (.pptr xs n) = true := nrfl rfl
theorem l1_ptr {c g o : Nat} : live1 p (.ptr c g o) = p c := nrfl rfl
theorem l1_osl {c g o l : Nat} : live1 p (.osl c g o l) = p c := nrfl rfl
theorem l1_agg : live1 p (.agg xs) = xs.all (live0 p) := nrfl rfl
theorem l0_int : live0 p (.int k a) = true := nrfl rfl
theorem l0_psl : live0 p (.psl f n xs) = true := nrfl rfl
theorem li_s {H : List (Option ABlk)} {c : Nat} : liveIn H c = (hget H c).isSome := nrfl rfl
theorem lt_n : leT p [] [] = True := nrfl rfl
theorem lt_c : leT p (x :: xs) (y :: ys) = ((avSub x y ∧ live2 p y = true) ∧ leT p xs ys) := nrfl rfl
theorem lh_n {H : List (Option ABlk)} : leH p H [] = True := by cases H <;> rfl
theorem lh_0 {o : Option ABlk} {H H' : List (Option ABlk)} : leH p (o :: H) (none :: H') = leH p H H' := by simp [leH]
theorem lh_s {o : Option ABlk} {K : ABlk} {H H' : List (Option ABlk)} : leH p (o :: H) (some K :: H') = ((o = some K ∧ blkLive p K = true) ∧ leH p H H') := by simp [leH]
theorem bl_c {t : TypeId} {sz g : Nat} : blkLive p (.cells t sz g xs) = xs.all (live2 p) := nrfl rfl
theorem bl_m {es : List (AV × AV)} : blkLive p (.map es) = es.all (fun e => live2 p e.1 && live2 p e.2) := nrfl rfl
theorem bl_d : blkLive p (.dfr f) = true := nrfl rfl
theorem al_ints {l : List Int} : (ints l).all (live2 p) = true := by
  simp only [ints, List.all_map, List.all_eq_true]
  intro z _; rfl
/-- All blocks of the first list are still there. -/
def keepH : List (Option ABlk) → List (Option ABlk) → Prop
  | [], _ => True
  | none :: l, _ :: H => keepH l H
  | none :: l, [] => keepH l []
  | some _ :: l, some _ :: H => keepH l H
  | some _ :: _, none :: _ => False
  | some _ :: _, [] => False
theorem keepH_spec : ∀ {l H : List (Option ABlk)}, keepH l H ↔ ∀ b, hget l b ≠ none → liveIn H b = true
  | [], H => by simp [keepH, hget]
  | none :: l, x :: H => by
    simp only [keepH]
    rw [keepH_spec (l := l) (H := H)]
    constructor
    · intro h b hb
      cases b with
      | zero => simp [hget] at hb
      | succ b => exact h b hb
    · intro h b hb; exact h (b + 1) hb
  | none :: l, [] => by
    simp only [keepH]
    rw [keepH_spec (l := l) (H := [])]
    constructor
    · intro h b hb
      cases b with
      | zero => simp [hget] at hb
      | succ b => simpa [liveIn, hget] using h b hb
    · intro h b hb; simpa [liveIn, hget] using h (b + 1) hb
  | some k :: l, some k' :: H => by
    simp only [keepH]
    rw [keepH_spec (l := l) (H := H)]
    constructor
    · intro h b hb
      cases b with
      | zero => simp [liveIn, hget]
      | succ b => exact h b hb
    · intro h b hb; exact h (b + 1) hb
  | some k :: l, none :: H => by
    simp only [keepH, false_iff]
    intro h
    have := h 0 (by simp [hget])
    simp [liveIn, hget] at this
  | some k :: l, [] => by
    simp only [keepH, false_iff]
    intro h
    have := h 0 (by simp [hget])
    simp [liveIn, hget] at this
theorem kh_0 {H : List (Option ABlk)} : keepH [] H = True := by simp [keepH]
theorem kh_s {k k' : ABlk} {l H : List (Option ABlk)} : keepH (some k :: l) (some k' :: H) = keepH l H := nrfl rfl
theorem le2_s {H0 : List (Option ABlk)} {m : Nat → Option Loc} {w : World} {T T' : List AV} {H H' : List (Option ABlk)} {D : List Nat} : Le2 (Ctx.of H0 m w) ⟨T, H, D⟩ ⟨T', H', D⟩ = (leT (liveIn H') T T' ∧ leH (liveIn H') H H' ∧ (∀ d ∈ D, liveIn H' d = true) ∧ keepH H0 H') := by
  rw [eq_iff_iff]
  constructor
  · rintro ⟨h1, h2, _, h3, h4⟩; exact ⟨h1, h2, h3, keepH_spec.2 h4⟩
  · rintro ⟨h1, h2, h3, h4⟩; exact ⟨h1, h2, rfl, h3, keepH_spec.1 h4⟩
theorem fd_n {P : Nat → Prop} : (∀ d ∈ ([] : List Nat), P d) = True := by simp
theorem mk_n {T : List AV} : putT T [] = T := nrfl rfl
theorem mk_c {T : List AV} {j : Nat} {l : List (Nat × AV)} : putT T ((j, x) :: l) = putT (lset T j x) l := nrfl rfl
theorem ju_s : junks (n + 1) = .junk :: junks n := nrfl rfl
theorem ju_0 : junks 0 = [] := nrfl rfl
theorem and_t {c d : Bool} : ((c && d) = true) = (c = true ∧ d = true) := by simp
attribute [go_sem] kh_0 kh_s av_j av_int av_bool av_nils av_ptr av_osl av_psl av_agg av_fn lv_j lv_int lv_bool lv_nils lv_psl lv_ptr lv_osl lv_map lv_agg lv_fn l1_int l1_pptr l1_ptr l1_osl l1_agg l0_int l0_psl li_s lt_n lt_c lh_n lh_0 lh_s bl_c bl_m bl_d al_ints le2_s fd_n mkT_def mk_n mk_c ju_s ju_0 and_t List.all_cons List.all_nil Option.isSome_some Option.some.injEq ABlk.cells.injEq ABlk.map.injEq
end
theorem CallS.sub {P : Program} {f : FuncId} {xs ys : List AV} {r : AV} (h : CallS P f ys r) (hs : subL xs ys) : CallS P f xs r := by
  obtain ⟨hl, hj⟩ := subL_spec hs
  refine ⟨h.1, fun w vs ok hok hlen hrep => h.2 w vs ok hok (by omega) (fun j a b => prep_sub (hrep j (by omega) b) (hj j (by omega) a).1 (hj j (by omega) a).2)⟩
theorem go_split {P : Program} {all : Array Oper} {d : Option Tmp} {os : List Oper} {T : List AV} {H : List (Option ABlk)} {D : List Nat} {tr : List E} {K : St → List E → Prop} {b : Bool} {rd : List Nat}
    (h1 : b = true → goK P all d os T H D tr K (.bool true) rd) (h2 : b = false → goK P all d os T H D tr K (.bool false) rd) : goK P all d os T H D tr K (.bool b) rd := by
  rw [go_var]; exact ⟨h1, h2⟩
section
variable [Base] {P : Program} {w0 : World} {r : Option Nat} {X : Ctx} {s : St} {Q : Exit → St → Prop} {c : Code}
theorem awp_label {l : Nat} (h : Q .normal s) : AWP P w0 r X (.label l) s Q := fun _ _ hs => wpIn_label ⟨s, h, hs⟩
def scopeQ (Q : Exit → St → Prop) : Exit → St → Prop
  | .goto _, _ => False
  | e, s => Q e s
theorem awp_scope {c : Code} (h : AWP P w0 r X c s (scopeQ Q)) : AWP P w0 r X (.scope c) s Q := by
  intro ac w hs
  refine wpIn_scope (wpIn_mono (h ac w hs) ?_)
  rintro e a' w' ⟨s', h1, h2⟩
  cases e with
  | goto l => exact h1.elim
  | normal => exact ⟨by simp, s', h1, h2⟩
  | exit i => exact ⟨by simp, s', h1, h2⟩
  | ret => exact ⟨by simp, s', h1, h2⟩
  | panic c => exact ⟨by simp, s', h1, h2⟩
  | outgrown => exact ⟨by simp, s', h1, h2⟩
/-- What is still to be walked, under a shut name. -/
def Kt (P : Program) (w0 : World) (r : Option Nat) (X : Ctx) (c : Code) (Q : Exit → St → Prop) (s : St) : Prop := AWP P w0 r X c s Q
theorem kt (h : AWP P w0 r X c s Q) : Kt P w0 r X c Q s := h
theorem awp_seqK {a b : Code} (h : AWP P w0 r X a s (thenQ (Kt P w0 r X b Q) Q)) : AWP P w0 r X (.seq a b) s Q := awp_seq fun _ hK => AWP.mono h fun e s' hq => by
  cases e with
  | normal => exact hK _ hq
  | exit id => exact hq
  | goto l => exact hq
  | ret => exact hq
  | panic c => exact hq
  | outgrown => exact hq
/-- A loop that counts up to n. -/
theorem awp_loopN (n : Nat) (I : Nat → St) (h0 : Imp w0 X s (I 0))
    (round : ∀ i, i ≤ n → AWP P w0 r X c (I i) (thenQ (fun s' => i < n ∧ Imp w0 X s' (I (i + 1))) Q)) : AWP P w0 r X (.loop c) s Q := by
  refine awp_loopI (γ := { i : Nat // i ≤ n }) (fun g => I g.1) (fun g => n - g.1) ⟨0, Nat.zero_le _⟩ h0 ?_
  rintro ⟨i, hi⟩
  refine AWP.mono (round i hi) fun e s' hq => ?_
  cases e with
  | normal => exact ⟨⟨i + 1, hq.1⟩, by have := hq.1; simp only; omega, hq.2⟩
  | exit id => exact hq
  | goto l => exact hq
  | ret => exact hq
  | panic c => exact hq
  | outgrown => exact hq
/-- A loop whose heads are told by a ghost that is fit. -/
theorem awp_loopJ {γ : Type} (J : γ → Prop) (I : γ → St) (μ : γ → Nat) (g0 : γ) (hJ : J g0) (h0 : Imp w0 X s (I g0))
    (round : ∀ g, J g → AWP P w0 r X c (I g) (thenQ (fun s' => ∃ g', J g' ∧ μ g' < μ g ∧ Imp w0 X s' (I g')) Q)) : AWP P w0 r X (.loop c) s Q := by
  refine awp_loopI (γ := { g : γ // J g }) (fun g => I g.1) (fun g => μ g.1) ⟨g0, hJ⟩ h0 ?_
  rintro ⟨g, hg⟩
  refine AWP.mono (round g hg) fun e s' hq => ?_
  cases e with
  | normal => obtain ⟨g', h1, h2, h3⟩ := hq; exact ⟨⟨g', h1⟩, h2, h3⟩
  | exit id => exact hq
  | goto l => exact hq
  | ret => exact hq
  | panic c => exact hq
  | outgrown => exact hq
end
/-- The cells of a list of records. -/
def recs {α : Type} (enc : α → List AV) (l : List α) : List AV := l.flatMap enc
section
variable {α : Type} {enc : α → List AV} {sz : Nat} {l : List α} {d : α}
theorem recs_length (he : ∀ a, (enc a).length = sz) : (recs enc l).length = l.length * sz := by
  induction l with
  | nil => simp [recs]
  | cons a l ih => simp only [recs, List.flatMap_cons, List.length_append, he, List.length_cons] at ih ⊢; rw [ih, Nat.add_mul]; omega
theorem recs_drop (he : ∀ a, (enc a).length = sz) : ∀ (i : Nat), (recs enc l).drop (i * sz) = recs enc (l.drop i) := by
  intro i
  induction i generalizing l with
  | zero => simp
  | succ i ih =>
    cases l with
    | nil => simp [recs]
    | cons a l =>
      have : (i + 1) * sz = (enc a).length + i * sz := by rw [he, Nat.add_mul]; omega
      rw [this]
      simp only [recs, List.flatMap_cons, List.drop_succ_cons]
      rw [← List.drop_drop, List.drop_left]
      exact ih (l := l)
theorem recs_at (he : ∀ a, (enc a).length = sz) {i : Nat} (hi : i < l.length) : (recs enc l).drop (i * sz) = enc (l.getD i d) ++ recs enc (l.drop (i + 1)) := by
  rw [recs_drop he, List.drop_eq_getElem_cons hi]
  simp only [recs, List.flatMap_cons]
  have : l.getD i d = l[i] := by simp [List.getD_eq_getElem?_getD, hi]
  rw [this]
theorem recs_window (he : ∀ a, (enc a).length = sz) {i : Nat} (hi : i < l.length) : window (recs enc l) (i * sz) sz = enc (l.getD i d) := by
  unfold window
  rw [recs_at (d := d) he hi, List.take_left' (he _)]
theorem recs_nth (he : ∀ a, (enc a).length = sz) {i o : Nat} (hi : i < l.length) (ho : o < sz) : nth (recs enc l) (i * sz + o) = nth (enc (l.getD i d)) o := by
  rw [← nth_is, ← nth_is]
  have : (recs enc l)[i * sz + o]? = ((recs enc l).drop (i * sz))[o]? := by rw [List.getElem?_drop]
  rw [this, recs_at (d := d) he hi, List.getElem?_append_left (by rw [he]; exact ho)]
theorem recs_pure (h : ∀ a, pureL (enc a)) : pureL (recs enc l) := by
  intro x hx
  obtain ⟨a, _, ha⟩ := List.mem_flatMap.1 hx
  exact h a x ha
theorem recs_live {p : Nat → Bool} (h : ∀ a, pureL (enc a)) : (recs enc l).all (live2 p) = true := by
  rw [List.all_eq_true]
  intro x hx
  have := recs_pure (l := l) h x hx
  cases x <;> simp only [cellPure, Bool.false_eq_true] at this <;> try rfl
  rename_i f xs ys
  cases f <;> simp only [cellPure, Bool.false_eq_true, Bool.and_eq_true, List.isEmpty_iff] at this
  obtain ⟨rfl, rfl⟩ := this
  rfl
theorem recs_snoc {a : α} : recs enc (l ++ [a]) = recs enc l ++ enc a := by simp [recs]
end
end Go.Am

/- The abstract machine Am, part Yk: one rule for the codes of which the next state is plain. -/
namespace Go.Am
open Go.RowKit
def isStp : Code → Bool
  | .region _ _ d => !d
  | .label _ => true
  | .skip => true
  | .exit _ => true
  | .cond _ _ _ => true
  | .ret => true
  | _ => false
section
variable [Base] {P : Program} {w0 : World} {r : Option Nat} {X : Ctx} {s : St} {Q : Exit → St → Prop} {c : Code}
def stp (P : Program) (w0 : World) (r : Option Nat) (X : Ctx) (s : St) (Q : Exit → St → Prop) : Code → Prop
  | .region _ ops _ => evOps P ops ops.toList s [] fun s' _ => Q .normal s'
  | .label _ => Q .normal s
  | .skip => Q .normal s
  | .exit id => Q (.exit id) s
  | .cond c x y => condK (aev s.T c) (AWP P w0 r X x s Q) (AWP P w0 r X y s Q)
  | .ret => Q .ret s
  | _ => False
theorem awp_stp (hc : isStp c = true) (h : stp P w0 r X s Q c) : AWP P w0 r X c s Q := by
  unfold isStp at hc
  split at hc
  · rename_i id ops d
    cases d with
    | true => cases hc
    | false =>
      have e : ops = ops.toList.toArray := by simp
      rw [e]
      refine awp_region ?_
      rw [← e]; exact h
  · exact awp_label h
  · exact awp_skip h
  · exact awp_exit h
  · exact awp_cd h
  · exact awp_ret h
  · cases hc
theorem st_rg {id : Nat} {ops : List Oper} {d : Bool} : stp P w0 r X s Q (.region id ops.toArray d) = evOps P ops.toArray ops s [] fun s' _ => Q .normal s' := nrfl rfl
theorem st_sk : stp P w0 r X s Q .skip = Q .normal s := nrfl rfl
theorem st_ex {id : Nat} : stp P w0 r X s Q (.exit id) = Q (.exit id) s := nrfl rfl
theorem st_cd {c : Operand} {x y : Code} : stp P w0 r X s Q (.cond c x y) = condK (aev s.T c) (AWP P w0 r X x s Q) (AWP P w0 r X y s Q) := nrfl rfl
theorem st_rt : stp P w0 r X s Q .ret = Q .ret s := nrfl rfl
attribute [go_sem] st_rg st_sk st_ex st_cd st_rt
end
/-- Arguments that say more: lists, and structs with lists, that are told to be full. -/
def subD : List AV → List AV → Prop
  | [], [] => True
  | x :: xs, y :: ys => ((avSub x y ∧ y ≠ .junk) ∨ ∃ us vs, x = .agg us ∧ y = .agg vs ∧ subL us vs) ∧ subD xs ys
  | [], _ :: _ => False
  | _ :: _, [] => False
theorem subD_spec {ok : Nat → Prop} {w : World} : ∀ {xs ys : List AV}, subD xs ys → ys.length = xs.length ∧ ∀ j (a : j < xs.length) (b : j < ys.length) (v : Value), PRep ok w xs[j] v → PRep ok w ys[j] v
  | [], [], _ => ⟨rfl, fun j a => by simp at a⟩
  | x :: xs, y :: ys, h => by
    obtain ⟨h1, h2⟩ := h
    obtain ⟨l, hj⟩ := subD_spec (ok := ok) (w := w) h2
    refine ⟨by simp [l], fun j a b v p => ?_⟩
    cases j with
    | succ j => exact hj j (by simpa using a) (by simpa using b) v (by simpa using p)
    | zero =>
      simp only [List.getElem_cons_zero] at p ⊢
      rcases h1 with ⟨h3, h4⟩ | ⟨us, vs, rfl, rfl, h3⟩
      · exact prep_sub p h3 h4
      · obtain ⟨hl, hk⟩ := subL_spec h3
        cases p with
        | agg ws e1 ho r1 => exact .agg ws (by omega) ho (fun j a b => prep_sub (r1 j (by omega) b) (hk j (by omega) a).1 (hk j (by omega) a).2)
theorem CallS.subD {P : Program} {f : FuncId} {xs ys : List AV} {r : AV} (h : CallS P f ys r) (hs : Go.Am.subD xs ys) : CallS P f xs r :=
  ⟨h.1, fun w vs ok hok hlen hrep => h.2 w vs ok hok (by rw [(subD_spec (ok := ok) (w := w) hs).1]; exact hlen) (fun j a b => by
    have hl := (subD_spec (ok := ok) (w := w) hs).1
    exact (subD_spec hs).2 j (by omega) a vs[j] (hrep j (by omega) b))⟩
end Go.Am

/- The abstract machine Am, part X6: the machine that runs is sound: calls of functions and of yield; the contract of a function that is run. -/
namespace Go.Am
open Go.RowKit
section
variable {P : Program} {eqt : TypeId → Bool} {pm ent : FuncId → Bool} {lf : Nat}
theorem putArgs_sound [Base] {h : Nat → Option ABlk} {m : Nat → Option Loc} {w : World} : ∀ (ps : List Tmp) (xs : List AV) (T T1 : List AV) (us : List Value) (tm : Array Value), putArgs ps xs T = some T1 → xs.length = us.length → (∀ j (a : j < xs.length) (b : j < us.length), Rep h m w xs[j] us[j]) →
    tm.size = T.length → (∀ j, j < T.length → ∃ v, tm[j]? = some v ∧ Rep h m w (lget T j) v) →
    ps.length = us.length ∧ T1.length = T.length ∧ ((ps.zip us).foldl (fun t p => t.setIfInBounds p.1 p.2) tm).size = T.length ∧ ∀ j, j < T.length → ∃ v, ((ps.zip us).foldl (fun t p => t.setIfInBounds p.1 p.2) tm)[j]? = some v ∧ Rep h m w (lget T1 j) v
  | [], [], T, T1, us, tm, hp, hl, hr, hs, ht => by
    simp only [putArgs, Option.some.injEq] at hp
    subst hp
    have : us = [] := List.eq_nil_of_length_eq_zero (by simpa using hl.symm)
    subst this
    exact ⟨rfl, rfl, hs, ht⟩
  | p :: ps, x :: xs, T, T1, us, tm, hp, hl, hr, hs, ht => by
    simp only [putArgs] at hp
    cases us with
    | nil => simp at hl
    | cons u us =>
      have h0 := hr 0 (by simp) (by simp)
      simp only [List.getElem_cons_zero] at h0
      obtain ⟨i1, i2, i3, i4⟩ := putArgs_sound ps xs (lset T p x) T1 us (tm.setIfInBounds p u) hp (by simpa using hl) (fun j a b => hr (j + 1) (by simpa using a) (by simpa using b)) (by simp [hs, lset_length]) (fun j hj => by
        rw [lset_length] at hj
        obtain ⟨v, hv, hrv⟩ := ht j hj
        rw [lget_set]
        by_cases hpj : p = j
        · subst hpj
          refine ⟨u, Array.getElem?_setIfInBounds_self_of_lt (by rw [hs]; exact hj), ?_⟩
          rw [if_pos ⟨rfl, hj⟩]; exact h0
        · refine ⟨v, by rw [Array.getElem?_setIfInBounds_ne hpj]; exact hv, ?_⟩
          rw [if_neg (fun h => hpj h.1)]; exact hrv)
      rw [lset_length] at i2 i3 i4
      exact ⟨by simp [i1], i2, by simpa using i3, by simpa using i4⟩
  | [], _ :: _, _, _, _, _, hp, _, _, _, _ => by simp [putArgs] at hp
  | _ :: _, [], _, _, _, _, hp, _, _, _, _ => by simp [putArgs] at hp
/-- One round's end. -/
theorem round_end [Base] {w0 : World} {Z : Nat → Option ABlk} {mz : Nat → Option Loc} {wz : World} {H : List (Option ABlk)} {m : Nat → Option Loc} {w : World} (g : Good w0 (hget H) m w) (ex : Ext Z mz wz (hget H) m w) {b : Nat} {l : Loc} (hm : m b = some l)
    {fn : FuncId} {T : List AV} {ps : Array Tmp} {asg body : Code} {d : Nat} (hb : hget H b = some (.loop .busy none fn T ps asg body d)) (jump : Option Code) (st : LoopState) (hst : st = if jump.isNone then .ready else .done) :
    ∃ v w', (Instr.endRound l.c jump).run P w = .ok v w' ∧ ∃ v' m', Ending.returned v = .returned v' ∧ Good w0 (hget (hset H b (.loop st jump fn T ps asg body d))) m' w' ∧ Ext Z mz wz (hget (hset H b (.loop st jump fn T ps asg body d))) m' w' ∧
      Rep (hget (hset H b (.loop st jump fn T ps asg body d))) m' w' (.bool jump.isNone) v' := by
  subst hst
  obtain ⟨rec, k1, _, _, _, _, _, _, _, g4, e4⟩ := rec_same g hb hm (if jump.isNone then .ready else .done) jump
  rw [← hget_upd] at g4 e4
  exact ⟨_, _, run_endRound jump k1, _, _, rfl, g4, ex.trans e4, .pure (.bool _)⟩
end
end Go.Am

/- The abstract machine Am, part X7: types that are compared cell by cell; functions that are entered. -/
namespace Go.Am
open Go.RowKit
/-- Cells that are numbers and bools. -/
def SV (xs : List AV) (us : List Value) : Prop := xs.mapM scalVal = some us
theorem sv_nil {us : List Value} : SV [] us ↔ us = [] := by simp [SV, eq_comm]
theorem sv_cons {x : AV} {xs : List AV} {us : List Value} : SV (x :: xs) us ↔ ∃ u vs, scalVal x = some u ∧ SV xs vs ∧ us = u :: vs := by
  simp only [SV, List.mapM_cons, Option.bind_eq_bind, Option.bind_eq_some_iff, Option.pure_def, Option.some.injEq]
  constructor
  · rintro ⟨u, hu, vs, hv, rfl⟩; exact ⟨u, vs, hu, hv, rfl⟩
  · rintro ⟨u, vs, hu, hv, rfl⟩; exact ⟨u, hu, vs, hv, rfl⟩
theorem SV.length : ∀ {xs : List AV} {us : List Value}, SV xs us → us.length = xs.length
  | [], us, h => by rw [sv_nil.1 h]; rfl
  | x :: xs, us, h => by obtain ⟨u, vs, _, hv, rfl⟩ := sv_cons.1 h; simp [hv.length]
theorem SV.drop : ∀ (n : Nat) {xs : List AV} {us : List Value}, SV xs us → SV (xs.drop n) (us.drop n)
  | 0, xs, us, h => by simpa using h
  | n + 1, [], us, h => by rw [sv_nil.1 h]; simpa using sv_nil.2 rfl
  | n + 1, x :: xs, us, h => by
    obtain ⟨u, vs, _, hv, rfl⟩ := sv_cons.1 h
    simpa using hv.drop n
theorem SV.take : ∀ (n : Nat) {xs : List AV} {us : List Value}, SV xs us → SV (xs.take n) (us.take n)
  | 0, xs, us, h => by simpa using sv_nil.2 rfl
  | n + 1, [], us, h => by rw [sv_nil.1 h]; simpa using sv_nil.2 rfl
  | n + 1, x :: xs, us, h => by
    obtain ⟨u, vs, hu, hv, rfl⟩ := sv_cons.1 h
    simp only [List.take_succ_cons]
    exact sv_cons.2 ⟨u, _, hu, hv.take n, rfl⟩
theorem scalEq_split : ∀ (n : Nat) {xs ys : List AV} {b : Bool}, scalEq xs ys = some b → ∃ b1 b2, scalEq (xs.take n) (ys.take n) = some b1 ∧ scalEq (xs.drop n) (ys.drop n) = some b2 ∧ b = (b1 && b2)
  | 0, xs, ys, b, h => ⟨true, b, by simp [scalEq], by simpa using h, by simp⟩
  | n + 1, xs, ys, b, h => by
    match xs, ys with
    | [], [] => simp only [scalEq, Option.some.injEq] at h; subst h; exact ⟨true, true, by simp [scalEq], by simp [scalEq], rfl⟩
    | x :: xs, [] => cases x <;> simp [scalEq] at h
    | [], y :: ys => simp [scalEq] at h
    | x :: xs, y :: ys =>
      cases x <;> cases y <;> simp only [scalEq, reduceCtorEq] at h
      case int.int k a k' a' =>
        split at h
        · rename_i hk
          obtain ⟨c, hc, rfl⟩ := map_some h
          obtain ⟨b1, b2, h1, h2, rfl⟩ := scalEq_split n hc
          exact ⟨decide (a = a') && b1, b2, by simp [scalEq, hk, h1], by simpa using h2, by simp [Bool.and_assoc]⟩
        · cases h
      case bool.bool a a' =>
        obtain ⟨c, hc, rfl⟩ := map_some h
        obtain ⟨b1, b2, h1, h2, rfl⟩ := scalEq_split n hc
        exact ⟨(a == a') && b1, b2, by simp [scalEq, h1], by simpa using h2, by simp [Bool.and_assoc]⟩
section
variable {P : Program}
/-- What a type of numbers and bools says of two values. -/
def EqVal (P : Program) (d : Nat) (t : TypeId) (bs : List Bool) : Prop := ∀ (k : Nat) (xs ys : List AV) (us vs : List Value) (u v : Value) (b : Bool) (w : World), xs.map kindB = bs → ys.map kindB = bs → SV xs us → SV ys vs → Val P t us u → Val P t vs v → scalEq xs ys = some b →
  (Op.equalIn (d + k) t u v).run P w = .ok b w
theorem eqFields_flat {d : Nat} (ih : ∀ t bs, flatT P d t = some bs → EqVal P d t bs) (k : Nat) (xs ys : List AV) (us vs : List Value) (hx : SV xs us) (hy : SV ys vs) (w : World) : ∀ (fs : List Field) (off : Nat) (bs : List Bool) (b : Bool),
    flatF (flatT P d) fs off = some bs → (xs.drop off).map kindB = bs → (ys.drop off).map kindB = bs → off ≤ xs.length → off ≤ ys.length → scalEq (xs.drop off) (ys.drop off) = some b → (Op.eqFields (d + k) us.toArray vs.toArray fs).run P w = .ok b w
  | [], off, bs, b, hf, h1, h2, _, _, hb => by
    simp only [flatF, Option.some.injEq] at hf
    subst hf
    rw [List.map_eq_nil_iff.1 h1, List.map_eq_nil_iff.1 h2] at hb
    simp only [scalEq, Option.some.injEq] at hb
    subst hb
    simp [Op.eqFields]
  | f :: fs, off, bs, b, hf, hbx, hby, ox, oy, hb => by
    simp only [flatF] at hf
    split at hf
    · rename_i hc
      obtain ⟨hname, rfl⟩ := hc
      split at hf
      · rename_i l hcf
        obtain ⟨bs', hfs, rfl⟩ := map_some hf
        obtain ⟨b1, b2, h1, h2, rfl⟩ := scalEq_split l.length hb
        rw [List.drop_drop, List.drop_drop] at h2
        have lenx := congrArg List.length hbx
        have leny := congrArg List.length hby
        simp only [List.length_map, List.length_drop, List.length_append] at lenx leny
        have kx : ((xs.drop f.offset).take l.length).map kindB = l := by rw [List.map_take, hbx, List.take_left]
        have ky : ((ys.drop f.offset).take l.length).map kindB = l := by rw [List.map_take, hby, List.take_left]
        have dx : (xs.drop (f.offset + l.length)).map kindB = bs' := by rw [← List.drop_drop, List.map_drop, hbx, List.drop_left]
        have dy : (ys.drop (f.offset + l.length)).map kindB = bs' := by rw [← List.drop_drop, List.map_drop, hby, List.drop_left]
        have hr := eqFields_flat ih k xs ys us vs hx hy w fs (f.offset + l.length) bs' b2 hfs dx dy (by omega) (by omega) h2
        obtain ⟨bb, g1, g2, g3⟩ := flat_info hcf
        have lx := hx.length
        have ly := hy.length
        obtain ⟨u, p1, p2⟩ := part_val (us := us) (off := f.offset) g1 g2 g3 (by omega) w
        obtain ⟨v, q1, q2⟩ := part_val (us := vs) (off := f.offset) g1 g2 g3 (by omega) w
        have he := ih f.type l hcf k _ _ _ _ u v b1 w kx ky ((hx.drop _).take _) ((hy.drop _).take _) p2 q2 h1
        have hname' : f.name ≠ "_" := by simpa using hname
        simp only [Op.eqFields, hname', ne_eq, not_false_eq_true, if_true, Sem.run_bind, p1, q1, he, Result.andThen_ok]
        cases b1
        · simp
        · simpa using hr
      · cases hf
    · cases hf
theorem eqItems_flat {d : Nat} {e : TypeId} {l : List Bool} (he : flatT P d e = some l) (ih : EqVal P d e l) (k : Nat) (xs ys : List AV) (us vs : List Value) (hx : SV xs us) (hy : SV ys vs) (w : World) : ∀ (n i : Nat) (b : Bool),
    (xs.drop (i * l.length)).map kindB = (List.replicate n l).flatten → (ys.drop (i * l.length)).map kindB = (List.replicate n l).flatten → i * l.length ≤ xs.length → i * l.length ≤ ys.length → scalEq (xs.drop (i * l.length)) (ys.drop (i * l.length)) = some b → (Op.eqItems (d + k) e (P.cellsOf e) us.toArray vs.toArray (List.range' i n)).run P w = .ok b w
  | 0, i, b, h1, h2, _, _, hb => by
    simp only [List.replicate_zero, List.flatten_nil, List.map_eq_nil_iff] at h1 h2
    rw [h1, h2] at hb
    simp only [scalEq, Option.some.injEq] at hb
    subst hb
    simp [Op.eqItems]
  | n + 1, i, b, hbx, hby, ox, oy, hb => by
    obtain ⟨b1, b2, h1, h2, rfl⟩ := scalEq_split l.length hb
    have hi1 : i * l.length + l.length = (i + 1) * l.length := by rw [Nat.add_mul, Nat.one_mul]
    rw [List.drop_drop, List.drop_drop, hi1] at h2
    rw [List.replicate_succ, List.flatten_cons] at hbx hby
    have lenx := congrArg List.length hbx
    have leny := congrArg List.length hby
    simp only [List.length_map, List.length_drop, List.length_append] at lenx leny
    have kx : ((xs.drop (i * l.length)).take l.length).map kindB = l := by rw [List.map_take, hbx, List.take_left]
    have ky : ((ys.drop (i * l.length)).take l.length).map kindB = l := by rw [List.map_take, hby, List.take_left]
    have dx : (xs.drop ((i + 1) * l.length)).map kindB = (List.replicate n l).flatten := by rw [← hi1, ← List.drop_drop, List.map_drop, hbx, List.drop_left]
    have dy : (ys.drop ((i + 1) * l.length)).map kindB = (List.replicate n l).flatten := by rw [← hi1, ← List.drop_drop, List.map_drop, hby, List.drop_left]
    have hr := eqItems_flat he ih k xs ys us vs hx hy w n (i + 1) b2 dx dy (by omega) (by omega) h2
    obtain ⟨bb, g1, g2, g3⟩ := flat_info he
    have hcell : P.cellsOf e = l.length := by
      unfold tsz at g2
      obtain ⟨ii, hi, hin⟩ := Option.map_eq_some_iff.1 g2
      simp [Program.cellsOf, hi, hin]
    have lx := hx.length
    have ly := hy.length
    obtain ⟨u, p1, p2⟩ := part_val (us := us) g1 g2 g3 (off := i * l.length) (by omega) w
    obtain ⟨v, q1, q2⟩ := part_val (us := vs) g1 g2 g3 (off := i * l.length) (by omega) w
    have hq := ih k _ _ _ _ u v b1 w kx ky ((hx.drop _).take _) ((hy.drop _).take _) p2 q2 h1
    rw [hcell] at hr ⊢
    simp only [List.range'_succ, Op.eqItems, Sem.run_bind, p1, q1, hq, Result.andThen_ok]
    cases b1
    · simp
    · simpa using hr
theorem flat_eq : ∀ (d : Nat) (t : TypeId) (bs : List Bool), flatT P d t = some bs → EqVal P d t bs := by
  intro d
  induction d with
  | zero => intro t n h; simp [flatT] at h
  | succ d ih =>
    intro t bs h k xs ys us vs u v b w hxl hyl hx hy hu hv hb
    rw [show d + 1 + k = (d + k) + 1 by omega]
    have scal : ∀ z, tagg P t = some false → bs = [z] → ∃ x y, xs = [x] ∧ ys = [y] ∧ kindB x = z ∧ kindB y = z ∧ scalVal x = some u ∧ scalVal y = some v := by
      intro z ht hn
      subst hn
      have lx : xs.length = 1 := by have := congrArg List.length hxl; simpa using this
      have ly : ys.length = 1 := by have := congrArg List.length hyl; simpa using this
      match xs, ys, lx, ly with
      | [x], [y], _, _ =>
        obtain ⟨u', _, hu1, hu2, rfl⟩ := sv_cons.1 hx
        obtain ⟨v', _, hv1, hv2, rfl⟩ := sv_cons.1 hy
        rw [sv_nil.1 hu2] at hu
        rw [sv_nil.1 hv2] at hv
        rcases hu with ⟨h1, _⟩ | ⟨_, h1⟩
        · rw [ht] at h1; cases h1
        · rcases hv with ⟨h2, _⟩ | ⟨_, h2⟩
          · rw [ht] at h2; cases h2
          · cases h1; cases h2; exact ⟨x, y, rfl, rfl, by simpa using hxl, by simpa using hyl, hu1, hv1⟩
    simp only [flatT] at h
    split at h
    · rename_i q hq
      split at h
      · rename_i hc; cases h
        obtain ⟨x, y, rfl, rfl, k1, k2, h1, h2⟩ := scal _ hc.1 rfl
        cases x <;> cases y <;> simp only [scalEq, reduceCtorEq] at hb <;> simp only [scalVal, Option.some.injEq] at h1 h2 <;> subst h1 <;> subst h2
        · split at hb
          · rename_i hkk
            subst hkk
            simp only [Option.map_some, Bool.and_true, Option.some.injEq] at hb
            subst hb
            rw [run_equalIn_int w (d + k) t _ q _ _ hq]
            rfl
          · cases hb
        · simp [kindB] at k1
      · cases h
    · rename_i hq
      split at h
      · rename_i hc; cases h
        obtain ⟨x, y, rfl, rfl, k1, k2, h1, h2⟩ := scal _ hc.1 rfl
        cases x <;> cases y <;> simp only [scalEq, reduceCtorEq] at hb <;> simp only [scalVal, Option.some.injEq] at h1 h2 <;> subst h1 <;> subst h2
        · simp [kindB] at k1
        · simp only [Option.map_some, Bool.and_true, Option.some.injEq] at hb
          subst hb
          rw [run_equalIn_bool' w (d + k) t _ _ hq]
      · cases h
    · rename_i fs hfs
      split at h
      · rename_i hc
        split at h
        · rename_i l hn'
          split at h
          · rename_i hs; cases h
            rcases hu with ⟨_, rfl⟩ | ⟨h1, _⟩
            · rcases hv with ⟨_, rfl⟩ | ⟨h2, _⟩
              · have hfo : P.fieldsOf t = fs := by simp [Program.fieldsOf, hfs]
                rw [run_equalIn_struct w (d + k) t _ _ (by rw [hfo]; exact hfs) hc.1, hfo]
                exact eqFields_flat ih k xs ys us vs hx hy w fs.toList 0 bs b hn' (by simpa using hxl) (by simpa using hyl) (by omega) (by omega) (by simpa using hb)
              · rw [hc.2] at h2; cases h2
            · rw [hc.2] at h1; cases h1
          · cases h
        · cases h
      · cases h
    · rename_i m e hm
      split at h
      · rename_i hc
        split at h
        · rename_i l hce
          split at h
          · rename_i hs; cases h
            rcases hu with ⟨_, rfl⟩ | ⟨h1, _⟩
            · rcases hv with ⟨_, rfl⟩ | ⟨h2, _⟩
              · obtain ⟨_, _, g2, _⟩ := flat_info hce
                unfold tsz at g2
                obtain ⟨ii, hi, hin⟩ := Option.map_eq_some_iff.1 g2
                rw [run_equalIn_array w (d + k) _ _ hm hi]
                have := eqItems_flat hce (ih e l hce) k xs ys us vs hx hy w m 0 b (by simpa using hxl) (by simpa using hyl) (by omega) (by omega) (by simpa using hb)
                rwa [List.range_eq_range']
              · rw [hc] at h2; cases h2
            · rw [hc] at h1; cases h1
          · cases h
        · cases h
      · cases h
    · cases h
/-- EVERY TYPE. -/
theorem eqOK (t : TypeId) : EqOK P t := by
  refine ⟨fun bs h => ?_, fun xs ys us vs b w hx hy kx ky hb => ?_⟩
  · unfold tkb at h
    split at h
    · rename_i hg; exact hg.1
    · cases h
  · unfold tkb at kx ky
    split at kx
    · rename_i hg
      have ky' : flatT P 8 t = some (ys.map kindB) := by simpa [hg] using ky
      exact flat_eq 8 t _ kx 9992 xs ys us vs (.agg us.toArray) (.agg vs.toArray) b w rfl (by rw [kx] at ky'; exact (Option.some.inj ky').symm) hx hy (.inl ⟨hg.2, rfl⟩) (.inl ⟨hg.2, rfl⟩) hb
    · cases kx
end
end Go.Am

/- The abstract machine Am, part Y1: blocks renamed. -/
namespace Go.Am
open Go.RowKit
def renF (σ : Nat → Nat) : Fn → Fn
  | .yield b => .yield (σ b)
  | f => f
mutual
/-- A value, its blocks renamed. -/
def ren (σ : Nat → Nat) : AV → AV
  | .ptr b g off => .ptr (σ b) g off
  | .osl b g off len => .osl (σ b) g off len
  | .oslc b g off len cap => .oslc (σ b) g off len cap
  | .map b => .map (σ b)
  | .fn f xs ys => .fn (renF σ f) (renL σ xs) (renL σ ys)
  | .agg xs => .agg (renL σ xs)
  | .tup xs => .tup (renL σ xs)
  | .int k n => .int k n
  | .bool b => .bool b
  | .str s => .str s
  | .nilp => .nilp
  | .nils => .nils
  | .nilm => .nilm
  | .nilf => .nilf
  | .psl f n xs => .psl f n xs
  | .pptr xs i => .pptr xs i
  | .pmap es => .pmap es
  | .junk => .junk
def renL (σ : Nat → Nat) : List AV → List AV
  | [] => []
  | x :: xs => ren σ x :: renL σ xs
end
def renB (σ : Nat → Nat) : ABlk → ABlk
  | .cells t sz g xs => .cells t sz g (renL σ xs)
  | .map es => .map (es.map fun e => (ren σ e.1, ren σ e.2))
  | .dfr o => .dfr o
  | .loop st pend fn T ps asg body d => .loop st pend fn (renL σ T) ps asg body (σ d)
theorem renL_length (σ : Nat → Nat) : ∀ xs : List AV, (renL σ xs).length = xs.length
  | [] => rfl
  | x :: xs => by simp [renL, renL_length σ xs]
theorem renL_get (σ : Nat → Nat) : ∀ (xs : List AV) (j : Nat) (h : j < (renL σ xs).length), (renL σ xs)[j] = ren σ (xs[j]'(by rw [renL_length] at h; exact h))
  | [], j, h => by simp [renL] at h
  | x :: xs, 0, h => by simp [renL]
  | x :: xs, j + 1, h => by simp only [renL, List.getElem_cons_succ]; exact renL_get σ xs j (by simpa [renL] using h)
theorem renL_map (σ : Nat → Nat) : ∀ xs : List AV, renL σ xs = xs.map (ren σ)
  | [] => rfl
  | x :: xs => by simp [renL, renL_map σ xs]
mutual
/-- Which blocks a value leads to. -/
def refs (p : Nat → Prop) : AV → Prop
  | .ptr b _ _ => p b
  | .osl b _ _ _ => p b
  | .oslc b _ _ _ _ => p b
  | .map b => p b
  | .fn (.yield b) xs ys => p b ∧ refsL p xs ∧ refsL p ys
  | .fn _ xs ys => refsL p xs ∧ refsL p ys
  | .agg xs => refsL p xs
  | .tup xs => refsL p xs
  | _ => True
def refsL (p : Nat → Prop) : List AV → Prop
  | [] => True
  | x :: xs => refs p x ∧ refsL p xs
end
theorem refsL_get {p : Nat → Prop} : ∀ {xs : List AV}, refsL p xs → ∀ (j : Nat) (h : j < xs.length), refs p xs[j]
  | [], _, j, h => by simp at h
  | x :: xs, hr, 0, h => by simp only [refsL] at hr; exact hr.1
  | x :: xs, hr, j + 1, h => by simp only [refsL] at hr; exact refsL_get hr.2 j (by simpa using h)
def refsB (p : Nat → Prop) : ABlk → Prop
  | .cells _ _ _ xs => refsL p xs
  | .map es => ∀ e ∈ es, refs p e.1 ∧ refs p e.2
  | .dfr _ => True
  | .loop _ _ _ T _ _ _ d => refsL p T ∧ p d
/-- Pure values have no blocks. -/
theorem prep_ren {ok ok' : Nat → Prop} {w w' : World} {x : AV} {v : Value} (σ : Nat → Nat) (h : PRep ok w x v) (hw : ∀ c, ok c → w'.heap[c]? = w.heap[c]?) (ho : ∀ c, ok c → ok' c) : PRep ok' w' (ren σ x) v := by
  induction h with
  | int k n => exact .int k n
  | bool b => exact .bool b
  | str s => exact .str s
  | nilp => exact .nilp
  | nils => exact .nils
  | nilm => exact .nilm
  | nilf => exact .nilf
  | psle h1 h2 h3 => exact .psle h1 h2 h3
  | psl vs h1 h2 hok hc hr ih => exact PRep.mono (.psl vs h1 h2 hok hc hr) hw ho
  | pptr vs hok hc hr ih => exact PRep.mono (.pptr vs hok hc hr) hw ho
  | pmap a1 a2 a3 a4 a5 => exact PRep.mono (.pmap a1 a2 a3 a4 a5) hw ho
  | fn us vs hf h1 h2 r1 r2 ih1 ih2 =>
    rename_i f xs ys
    have e : renF σ f = f := by cases f <;> first | rfl | exact absurd rfl (hf _)
    simp only [ren, e]
    exact .fn us vs hf (by rw [renL_length]; exact h1) (by rw [renL_length]; exact h2) (fun j a b => by rw [renL_get]; exact ih1 j _ b) (fun j a b => by rw [renL_get]; exact ih2 j _ b)
  | agg us h1 ho r1 ih1 => simp only [ren]; exact .agg us (by rw [renL_length]; exact h1) ho (fun j a b => by rw [renL_get]; exact ih1 j _ b)
  | tup us h1 r1 ih1 => simp only [ren]; exact .tup us (by rw [renL_length]; exact h1) (fun j a b => by rw [renL_get]; exact ih1 j _ b)
theorem prep_unren {ok ok' : Nat → Prop} {w w' : World} {y : AV} {v : Value} (σ : Nat → Nat) (h : PRep ok w y v) (hw : ∀ c, ok c → w'.heap[c]? = w.heap[c]?) (ho : ∀ c, ok c → ok' c) : ∀ x, y = ren σ x → PRep ok' w' x v := by
  induction h with
  | int k n => intro x e; cases x <;> simp only [ren, reduceCtorEq, AV.int.injEq] at e; obtain ⟨rfl, rfl⟩ := e; exact .int _ _
  | bool b => intro x e; cases x <;> simp only [ren, reduceCtorEq, AV.bool.injEq] at e; subst e; exact .bool _
  | str s => intro x e; cases x <;> simp only [ren, reduceCtorEq, AV.str.injEq] at e; subst e; exact .str _
  | nilp => intro x e; cases x <;> simp only [ren, reduceCtorEq] at e; exact .nilp
  | nils => intro x e; cases x <;> simp only [ren, reduceCtorEq] at e; exact .nils
  | nilm => intro x e; cases x <;> simp only [ren, reduceCtorEq] at e; exact .nilm
  | nilf => intro x e; cases x <;> simp only [ren, reduceCtorEq] at e; exact .nilf
  | psle h1 h2 h3 => intro x e; cases x <;> simp only [ren, reduceCtorEq, AV.psl.injEq] at e; obtain ⟨rfl, rfl, rfl⟩ := e; exact .psle h1 h2 h3
  | psl vs h1 h2 hok hc hr ih => intro x e; cases x <;> simp only [ren, reduceCtorEq, AV.psl.injEq] at e; obtain ⟨rfl, rfl, rfl⟩ := e; exact PRep.mono (.psl vs h1 h2 hok hc hr) hw ho
  | pptr vs hok hc hr ih => intro x e; cases x <;> simp only [ren, reduceCtorEq, AV.pptr.injEq] at e; obtain ⟨rfl, rfl⟩ := e; exact PRep.mono (.pptr vs hok hc hr) hw ho
  | pmap a1 a2 a3 a4 a5 => intro x e; cases x <;> simp only [ren, reduceCtorEq, AV.pmap.injEq] at e; subst e; exact PRep.mono (.pmap a1 a2 a3 a4 a5) hw ho
  | fn us vs hf h1 h2 r1 r2 ih1 ih2 =>
    intro x e
    cases x <;> simp only [ren, reduceCtorEq, AV.fn.injEq] at e
    rename_i f xs ys
    obtain ⟨e1, rfl, rfl⟩ := e
    have e2 : f = renF σ f := by
      cases f <;> first | rfl | (rw [e1] at hf; exact absurd rfl (hf _))
    rw [e1, ← e2]
    rw [e1, ← e2] at hf
    exact .fn us vs hf (by rw [renL_length] at h1; exact h1) (by rw [renL_length] at h2; exact h2) (fun j a b => ih1 j (by rw [renL_length]; exact a) b _ (renL_get _ _ _ _)) (fun j a b => ih2 j (by rw [renL_length]; exact a) b _ (renL_get _ _ _ _))
  | agg us h1 ho r1 ih1 =>
    intro x e
    cases x <;> simp only [ren, reduceCtorEq, AV.agg.injEq] at e
    subst e
    exact .agg us (by rw [renL_length] at h1; exact h1) ho (fun j a b => ih1 j (by rw [renL_length]; exact a) b _ (renL_get _ _ _ _))
  | tup us h1 r1 ih1 =>
    intro x e
    cases x <;> simp only [ren, reduceCtorEq, AV.tup.injEq] at e
    subst e
    exact .tup us (by rw [renL_length] at h1; exact h1) (fun j a b => ih1 j (by rw [renL_length]; exact a) b _ (renL_get _ _ _ _))
/-- What becomes of the blocks, as a value sees it. -/
structure Moves (h : Nat → Option ABlk) (m : Nat → Option Loc) (h' : Nat → Option ABlk) (m' : Nat → Option Loc) (b b' : Nat) : Prop where
  cells : ∀ t sz g xs, h b = some (.cells t sz g xs) → ∃ xs', h' b' = some (.cells t sz g xs') ∧ m' b' = m b
  map : ∀ es, h b = some (.map es) → (∃ es', h' b' = some (.map es')) ∧ m' b' = m b
  recd : ∀ k, h b = some k → isRec k = true → (∃ k', h' b' = some k' ∧ isRec k' = true) ∧ m' b' = m b
theorem rep_ren (B1 B2 : Base) {h h' : Nat → Option ABlk} {m m' : Nat → Option Loc} {w w' : World} {x : AV} {v : Value} (σ : Nat → Nat) (r : @Rep B1 h m w x v)
    (hw : ∀ c, @Ok B1 m w c → w'.heap[c]? = w.heap[c]?) (ho : ∀ c, @Ok B1 m w c → @Ok B2 m' w' c) (hb : ∀ b k, h b = some k → Moves h m h' m' b (σ b)) : @Rep B2 h' m' w' (ren σ x) v := by
  induction r with
  | pure p => exact @Rep.pure B2 _ _ _ _ _ (prep_ren σ p hw ho)
  | ptr hb' hg ho' hv =>
    obtain ⟨xs', h1, h2⟩ := (hb _ _ hb').cells _ _ _ _ hb'
    simp only [ren]
    exact @Rep.ptr B2 _ _ _ _ _ _ _ _ _ _ _ h1 hg ho' (fun e => by rw [h2]; exact hv e)
  | osl hb' hg ho' hv =>
    obtain ⟨xs', h1, h2⟩ := (hb _ _ hb').cells _ _ _ _ hb'
    simp only [ren]
    exact @Rep.osl B2 _ _ _ _ _ _ _ _ _ _ _ _ h1 hg ho' (fun e => by rw [h2]; exact hv e)
  | oslc hb' hg ho' hv =>
    obtain ⟨xs', h1, h2⟩ := (hb _ _ hb').cells _ _ _ _ hb'
    simp only [ren]
    exact @Rep.oslc B2 _ _ _ _ _ _ _ _ _ _ _ _ _ h1 hg ho' (fun e => by rw [h2]; exact hv e)
  | map hb' hm =>
    obtain ⟨⟨es', h1⟩, h2⟩ := (hb _ _ hb').map _ hb'
    simp only [ren]
    exact @Rep.map B2 _ _ _ _ _ _ h1 (h2.trans hm)
  | yld hb' hk hm =>
    obtain ⟨⟨k', h1, h3⟩, h2⟩ := (hb _ _ hb').recd _ hb' hk
    simp only [ren, renF, renL]
    exact @Rep.yld B2 _ _ _ _ _ _ h1 h3 (h2.trans hm)
  | fn us vs hf h1 h2 r1 r2 ih1 ih2 =>
    rename_i f xs ys
    have e : renF σ f = f := by cases f <;> first | rfl | exact absurd rfl (hf _)
    simp only [ren, e]
    exact @Rep.fn B2 _ _ _ _ _ _ us vs hf (by rw [renL_length]; exact h1) (by rw [renL_length]; exact h2) (fun j a b => by rw [renL_get]; exact ih1 j _ b) (fun j a b => by rw [renL_get]; exact ih2 j _ b)
  | agg us h1 ho' r1 ih1 => simp only [ren]; exact @Rep.agg B2 _ _ _ _ us (by rw [renL_length]; exact h1) ho' (fun j a b => by rw [renL_get]; exact ih1 j _ b)
  | tup us h1 r1 ih1 => simp only [ren]; exact @Rep.tup B2 _ _ _ _ us (by rw [renL_length]; exact h1) (fun j a b => by rw [renL_get]; exact ih1 j _ b)
  | junk v => simp only [ren]; exact @Rep.junk B2 _ _ _ v
theorem rep_unren (B1 B2 : Base) {h h' : Nat → Option ABlk} {m m' : Nat → Option Loc} {w w' : World} {p : Nat → Prop} {y : AV} {v : Value} (σ : Nat → Nat) (r : @Rep B1 h m w y v)
    (hw : ∀ c, @Ok B1 m w c → w'.heap[c]? = w.heap[c]?) (ho : ∀ c, @Ok B1 m w c → @Ok B2 m' w' c) (hb : ∀ b, p b → Moves h m h' m' (σ b) b) : ∀ x, y = ren σ x → refs p x → @Rep B2 h' m' w' x v := by
  induction r with
  | pure q => intro x e _; exact @Rep.pure B2 _ _ _ _ _ (prep_unren σ q hw ho x e)
  | ptr hb' hg ho' hv =>
    intro x e hr
    cases x <;> simp only [ren, reduceCtorEq, AV.ptr.injEq] at e
    obtain ⟨rfl, rfl, rfl⟩ := e
    obtain ⟨xs', h1, h2⟩ := (hb _ (by simpa [refs] using hr)).cells _ _ _ _ hb'
    exact @Rep.ptr B2 _ _ _ _ _ _ _ _ _ _ _ h1 hg ho' (fun e => by rw [h2]; exact hv e)
  | osl hb' hg ho' hv =>
    intro x e hr
    cases x <;> simp only [ren, reduceCtorEq, AV.osl.injEq] at e
    obtain ⟨rfl, rfl, rfl, rfl⟩ := e
    obtain ⟨xs', h1, h2⟩ := (hb _ (by simpa [refs] using hr)).cells _ _ _ _ hb'
    exact @Rep.osl B2 _ _ _ _ _ _ _ _ _ _ _ _ h1 hg ho' (fun e => by rw [h2]; exact hv e)
  | oslc hb' hg ho' hv =>
    intro x e hr
    cases x <;> simp only [ren, reduceCtorEq, AV.oslc.injEq] at e
    obtain ⟨rfl, rfl, rfl, rfl, rfl⟩ := e
    obtain ⟨xs', h1, h2⟩ := (hb _ (by simpa [refs] using hr)).cells _ _ _ _ hb'
    exact @Rep.oslc B2 _ _ _ _ _ _ _ _ _ _ _ _ _ h1 hg ho' (fun e => by rw [h2]; exact hv e)
  | map hb' hm =>
    intro x e hr
    cases x <;> simp only [ren, reduceCtorEq, AV.map.injEq] at e
    subst e
    obtain ⟨⟨es', h1⟩, h2⟩ := (hb _ (by simpa [refs] using hr)).map _ hb'
    exact @Rep.map B2 _ _ _ _ _ _ h1 (h2.trans hm)
  | yld hb' hk hm =>
    intro x e hr
    cases x <;> simp only [ren, reduceCtorEq, AV.fn.injEq] at e
    rename_i f xs ys
    obtain ⟨e1, e2, e3⟩ := e
    cases f <;> simp only [renF, reduceCtorEq, Fn.yield.injEq] at e1
    subst e1
    cases xs with
    | cons => simp [renL] at e2
    | nil =>
      cases ys with
      | cons => simp [renL] at e3
      | nil =>
        simp only [refs] at hr
        obtain ⟨⟨k', h1, h3⟩, h2⟩ := (hb _ hr.1).recd _ hb' hk
        exact @Rep.yld B2 _ _ _ _ _ _ h1 h3 (h2.trans hm)
  | fn us vs hf h1 h2 r1 r2 ih1 ih2 =>
    intro x e hr
    cases x <;> simp only [ren, reduceCtorEq, AV.fn.injEq] at e
    rename_i f xs ys
    obtain ⟨e1, rfl, rfl⟩ := e
    have e2 : f = renF σ f := by cases f <;> first | rfl | (rw [e1] at hf; exact absurd rfl (hf _))
    have hr' : refsL p xs ∧ refsL p ys := by
      cases f <;> first | (simpa [refs] using hr) | (rw [e1] at hf; exact absurd rfl (hf _))
    rw [e1, ← e2]
    rw [e1, ← e2] at hf
    exact @Rep.fn B2 _ _ _ _ _ _ us vs hf (by rw [renL_length] at h1; exact h1) (by rw [renL_length] at h2; exact h2) (fun j a b => ih1 j (by rw [renL_length]; exact a) b _ (renL_get _ _ _ _) (refsL_get hr'.1 j a)) (fun j a b => ih2 j (by rw [renL_length]; exact a) b _ (renL_get _ _ _ _) (refsL_get hr'.2 j a))
  | agg us h1 ho' r1 ih1 =>
    intro x e hr
    cases x <;> simp only [ren, reduceCtorEq, AV.agg.injEq] at e
    subst e
    simp only [refs] at hr
    exact @Rep.agg B2 _ _ _ _ us (by rw [renL_length] at h1; exact h1) ho' (fun j a b => ih1 j (by rw [renL_length]; exact a) b _ (renL_get _ _ _ _) (refsL_get hr j a))
  | tup us h1 r1 ih1 =>
    intro x e hr
    cases x <;> simp only [ren, reduceCtorEq, AV.tup.injEq] at e
    subst e
    simp only [refs] at hr
    exact @Rep.tup B2 _ _ _ _ us (by rw [renL_length] at h1; exact h1) (fun j a b => ih1 j (by rw [renL_length]; exact a) b _ (renL_get _ _ _ _) (refsL_get hr j a))
  | junk v =>
    intro x e hr
    cases x <;> simp only [ren, reduceCtorEq] at e
    exact @Rep.junk B2 _ _ _ v
end Go.Am

/- The abstract machine Am, part Y2: a contract told of few blocks, used where there are more (frame), under other numbers. -/
namespace Go.Am
open Go.RowKit
theorem renB_rec {σ : Nat → Nat} {k : ABlk} : isRec (renB σ k) = isRec k := by cases k <;> rfl
theorem brep_ren (B1 B2 : Base) {h h' : Nat → Option ABlk} {m m' : Nat → Option Loc} {w : World} {b : Nat} {k : ABlk} (σ : Nat → Nat) (r : @BRep B1 h m w b k)
    (ho : ∀ c, @Ok B1 m w c → @Ok B2 m' w c) (hb : ∀ b k, h b = some k → Moves h m h' m' b (σ b)) (hm : ∀ b, m' (σ b) = m b) : @BRep B2 h' m' w (σ b) (renB σ k) := by
  have one : ∀ {x : AV} {v : Value}, @Rep B1 h m w x v → @Rep B2 h' m' w (ren σ x) v := fun r => rep_ren B1 B2 σ r (fun _ _ => rfl) ho hb
  cases k with
  | cells t sz g xs =>
    rcases r with ⟨h1, h2⟩ | ⟨l, arr, h1, h2, h3, h4, h5⟩
    · subst h2; exact .inl ⟨(hm b).trans h1, rfl⟩
    · refine .inr ⟨l, arr, (hm b).trans h1, h2, h3, by rw [renL_length]; exact h4, fun j hj => ?_⟩
      obtain ⟨v, a1, a2, a3⟩ := h5 j (by rw [renL_length] at hj; exact hj)
      exact ⟨v, a1, a2, by rw [renL_get]; exact one a3⟩
  | map es =>
    obtain ⟨l, arr, clk, h1, h2, h3, h4⟩ := r
    refine ⟨l, arr, clk, (hm b).trans h1, h2, by simpa using h3, fun j hj => ?_⟩
    obtain ⟨e, a1, a2, a3⟩ := h4 j (by simpa using hj)
    exact ⟨e, a1, by simpa using one a2, by simpa using one a3⟩
  | dfr o => obtain ⟨l, h1, h2⟩ := r; exact ⟨l, (hm b).trans h1, h2⟩
  | loop st pend fn T ps asg body d =>
    obtain ⟨l, r', ld, h1, h2, a1, a2, a3, a4, a5, a6, a7, a8, a9, a10⟩ := r
    refine ⟨l, r', ld, (hm b).trans h1, h2, a1, a2, a3, a4, a5, a6, (hm d).trans a7, a8, by rw [renL_length]; exact a9, fun j hj => ?_⟩
    obtain ⟨v, c1, c2⟩ := a10 j (by rw [renL_length] at hj; exact hj)
    exact ⟨v, c1, by rw [renL_get]; exact one c2⟩
theorem brep_unren (B1 B2 : Base) {h h' : Nat → Option ABlk} {m m' : Nat → Option Loc} {w : World} {p : Nat → Prop} {b : Nat} {k : ABlk} (σ : Nat → Nat) (r : @BRep B1 h m w (σ b) (renB σ k)) (hp : refsB p k)
    (ho : ∀ c, @Ok B1 m w c → @Ok B2 m' w c) (hb : ∀ b, p b → Moves h m h' m' (σ b) b) (hm : ∀ b, m' b = m (σ b)) : @BRep B2 h' m' w b k := by
  have one : ∀ {x : AV} {v : Value}, @Rep B1 h m w (ren σ x) v → refs p x → @Rep B2 h' m' w x v := fun r hr => rep_unren B1 B2 σ r (fun _ _ => rfl) ho hb _ rfl hr
  cases k with
  | cells t sz g xs =>
    rcases r with ⟨h1, h2⟩ | ⟨l, arr, h1, h2, h3, h4, h5⟩
    · refine .inl ⟨(hm b).trans h1, ?_⟩
      have := congrArg List.length h2
      rw [renL_length] at this
      exact List.eq_nil_of_length_eq_zero this
    · rw [renL_length] at h4
      refine .inr ⟨l, arr, (hm b).trans h1, h2, h3, h4, fun j hj => ?_⟩
      obtain ⟨v, a1, a2, a3⟩ := h5 j (by rw [renL_length]; exact hj)
      rw [renL_get] at a3
      exact ⟨v, a1, a2, one a3 (refsL_get hp j hj)⟩
  | map es =>
    obtain ⟨l, arr, clk, h1, h2, h3, h4⟩ := r
    refine ⟨l, arr, clk, (hm b).trans h1, h2, by simpa using h3, fun j hj => ?_⟩
    obtain ⟨e, a1, a2, a3⟩ := h4 j (by simpa using hj)
    have := hp _ (List.getElem_mem hj)
    exact ⟨e, a1, one (by simpa using a2) this.1, one (by simpa using a3) this.2⟩
  | dfr o => obtain ⟨l, h1, h2⟩ := r; exact ⟨l, (hm b).trans h1, h2⟩
  | loop st pend fn T ps asg body d =>
    obtain ⟨l, r', ld, h1, h2, a1, a2, a3, a4, a5, a6, a7, a8, a9, a10⟩ := r
    refine ⟨l, r', ld, (hm b).trans h1, h2, a1, a2, a3, a4, a5, a6, (hm d).trans a7, a8, by rw [renL_length] at a9; exact a9, fun j hj => ?_⟩
    obtain ⟨v, c1, c2⟩ := a10 j (by rw [renL_length]; exact hj)
    rw [renL_get] at c2
    exact ⟨v, c1, one c2 (refsL_get hp.1 j hj)⟩
set_option maxHeartbeats 1000000 in
/-- **THE FRAME**: a contract that is told of the blocks H alone holds where they lie, under other numbers (σ), among others (K). -/
theorem semF_frame {P : Program} {g : FuncId} {as : List AV} {H H' : List (Option ABlk)} {r : AV} (hs : SemF P g as H r H') {K K' : List (Option ABlk)} (σ : Nat → Nat) (inv : Nat → Option Nat)
    (hH : ∀ b, b < H.length → hget H b ≠ none) (i1 : ∀ b, inv (σ b) = some b) (i2 : ∀ i b, inv i = some b → σ b = i) (hnew : ∀ b, H.length ≤ b → K.length ≤ σ b)
    (hK : ∀ b k, hget H b = some k → hget K (σ b) = some (renB σ k) ∧ refsB (· < H.length) k) (har : ∀ j (h : j < as.length), refs (· < H.length) as[j])
    (hK' : ∀ i, hget K' i = match inv i with | some b => (hget H' b).map (renB σ) | none => hget K i) : SemF P g (as.map (ren σ)) K (ren σ r) K' := by
  refine ⟨hs.1, fun {B} w0 mK w vs gK hlen hrep => ?_⟩
  have sinj : ∀ b b', σ b = σ b' → b = b' := fun b b' e => by
    have := i1 b
    rw [e, i1 b'] at this
    cases this; rfl
  have hKnew : ∀ b, H.length ≤ b → hget K (σ b) = none := fun b hb => hget_length K _ (hnew b hb)
  have hlow : ∀ b k, hget H b = some k → b < H.length := fun b k hk => by
    rcases Nat.lt_or_ge b H.length with h | h
    · exact h
    · rw [hget_length H b h] at hk; cases hk
  let b0 : Nat → Prop := fun c => B.B c ∧ ∀ i l, inv i = none → mK i = some l → l.c ≠ c
  let m : Nat → Option Loc := fun b => mK (σ b)
  have mnew : ∀ b, H.length ≤ b → m b = none := fun b hb => by
    cases hm : m b with
    | none => rfl
    | some l => obtain ⟨k, hk⟩ := gK.supp _ l hm; rw [hKnew b hb] at hk; cases hk
  have mv : ∀ b, b < H.length → Moves (hget K) mK (hget H) m (σ b) b := by
    intro b hb
    cases hk : hget H b with
    | none => exact absurd hk (hH b hb)
    | some k =>
      obtain ⟨k1, _⟩ := hK b k hk
      refine ⟨fun t sz gg xs e => ?_, fun es e => ?_, fun k' e hr => ?_⟩
      · rw [k1] at e
        cases k <;> simp only [renB, Option.some.injEq, reduceCtorEq, ABlk.cells.injEq] at e
        obtain ⟨rfl, rfl, rfl, _⟩ := e
        exact ⟨_, hk, rfl⟩
      · rw [k1] at e
        cases k <;> simp only [renB, Option.some.injEq, reduceCtorEq, ABlk.map.injEq] at e
        exact ⟨⟨_, hk⟩, rfl⟩
      · rw [k1] at e
        refine ⟨⟨k, hk, ?_⟩, rfl⟩
        simp only [Option.some.injEq] at e
        subst e
        rw [renB_rec] at hr; exact hr
  have okc : ∀ c, @Ok B mK w c → @Ok (Base.mk b0) m w c := fun c hc => ⟨hc.1, fun b l hl => hc.2.1 _ l hl, hc.2.2, fun i l _ hl => hc.2.1 i l hl⟩
  have g0 : @Good (Base.mk b0) w0 (hget H) m w := by
    refine @Good.mk (Base.mk b0) _ _ _ _ gK.below (fun b l hl => gK.base _ l hl) (fun b b' l l' h1 h2 e => sinj _ _ (gK.inj _ _ _ _ h1 h2 e)) (fun b l hl => ?_) (fun b k hk => ?_) (fun b st pend fn T ps asg body d hb => ?_) (fun c hc => ?_)
    · rcases Nat.lt_or_ge b H.length with h | h
      · exact Option.ne_none_iff_exists'.1 (hH b h)
      · rw [mnew b h] at hl; cases hl
    · obtain ⟨k1, k2⟩ := hK b k hk
      exact brep_unren B (Base.mk b0) σ (gK.blk _ _ k1) k2 okc mv (fun _ => rfl)
    · obtain ⟨k1, k2⟩ := hK b _ hb
      obtain ⟨o, ho⟩ := gK.dloop _ _ _ _ _ _ _ _ _ k1
      have hd : d < H.length := k2.2
      cases hkd : hget H d with
      | none => exact absurd hkd (hH d hd)
      | some kd =>
        have := (hK d kd hkd).1
        rw [ho] at this
        cases kd <;> simp only [renB, Option.some.injEq, reduceCtorEq, ABlk.dfr.injEq] at this
        exact ⟨_, rfl⟩
    · rcases hc with ⟨b, l, hl, rfl⟩ | hc
      · refine ⟨gK.fresh _ (.inl ⟨_, l, hl, rfl⟩), fun i l' hi hl' e => ?_⟩
        have := gK.inj _ _ _ _ hl' hl e
        rw [this, i1] at hi; cases hi
      · exact ⟨gK.fresh _ (.inr hc), fun i l' _ hl' e => by have := gK.lt hl'; omega⟩
  have hcall := @hs.2 (Base.mk b0) w0 m w vs g0 (by simpa using hlen) (fun j a b => by
    have := hrep j (by simpa using a) b
    simp only [List.getElem_map] at this
    exact rep_unren B (Base.mk b0) σ this (fun _ _ => rfl) okc mv _ rfl (har j a))
  refine hcall.mono ?_
  rintro e w' ⟨v, m', rfl, ⟨gbel, gbase, ginj, gsupp, gblk, gdl, gfr⟩, ex, rr⟩
  let mK' : Nat → Option Loc := fun i => match inv i with | some b => m' b | none => mK i
  have q1 : ∀ i b, inv i = some b → mK' i = m' b := fun i b hi => by simp only [mK', hi]
  have q2 : ∀ i, inv i = none → mK' i = mK i := fun i hi => by simp only [mK', hi]
  have q3 : ∀ i b, inv i = some b → hget K' i = (hget H' b).map (renB σ) := fun i b hi => by rw [hK' i, hi]
  have q4 : ∀ i, inv i = none → hget K' i = hget K i := fun i hi => by rw [hK' i, hi]
  have fun1 : ∀ i l, inv i = none → mK i = some l → Un m w l.c := fun i l hi hl => ⟨gK.lt hl, fun b l' hl' e => by
    have := gK.inj _ _ _ _ hl' hl e
    rw [← this, i1] at hi; cases hi⟩
  have old : ∀ i b k, inv i = some b → hget K i = some k → ∃ k0, hget H b = some k0 ∧ k = renB σ k0 := by
    intro i b k hi hk
    have hib := i2 i b hi
    subst hib
    rcases Nat.lt_or_ge b H.length with h | h
    · obtain ⟨k0, hk0⟩ := Option.ne_none_iff_exists'.1 (hH b h)
      have := (hK b k0 hk0).1
      rw [this] at hk; cases hk
      exact ⟨k0, hk0, rfl⟩
    · rw [hKnew b h] at hk; cases hk
  have exK : Ext (hget K) mK w (hget K') mK' w' := by
    refine ⟨fun c hc => ?_, fun i t sz gg xs hi => ?_, fun i es hi => ?_, fun i o hi => ?_, fun i st pend fn T ps asg body d hi => ?_⟩
    · have h1 := ex.ok c ⟨hc.1, fun b l hl => hc.2 _ l hl⟩
      refine ⟨h1.1, h1.2.1, fun i l hl => ?_⟩
      cases hv : inv i with
      | some b => rw [q1 i b hv] at hl; exact h1.2.2 b l hl
      | none => rw [q2 i hv] at hl; exact hc.2 i l hl
    · cases hv : inv i with
      | none => exact ⟨gg, xs, by rw [q4 i hv]; exact hi, Nat.le_refl _, fun _ => q2 i hv⟩
      | some b =>
        obtain ⟨k0, hk0, e⟩ := old i b _ hv hi
        cases k0 <;> simp only [renB, reduceCtorEq, ABlk.cells.injEq] at e
        obtain ⟨rfl, rfl, rfl, rfl⟩ := e
        obtain ⟨g1, xs1, h1, h2, h3⟩ := ex.cells _ _ _ _ _ hk0
        refine ⟨g1, renL σ xs1, by rw [q3 i b hv, h1]; rfl, h2, fun e => ?_⟩
        rw [q1 i b hv, h3 e, ← i2 i b hv]
    · cases hv : inv i with
      | none => exact ⟨⟨es, by rw [q4 i hv]; exact hi⟩, q2 i hv⟩
      | some b =>
        obtain ⟨k0, hk0, e⟩ := old i b _ hv hi
        cases k0 <;> simp only [renB, reduceCtorEq] at e
        obtain ⟨⟨es1, h1⟩, h3⟩ := ex.map _ _ hk0
        exact ⟨⟨_, by rw [q3 i b hv, h1]; rfl⟩, by rw [q1 i b hv, h3, ← i2 i b hv]⟩
    · cases hv : inv i with
      | none => exact ⟨⟨o, by rw [q4 i hv]; exact hi⟩, q2 i hv⟩
      | some b =>
        obtain ⟨k0, hk0, e⟩ := old i b _ hv hi
        cases k0 <;> simp only [renB, reduceCtorEq] at e
        obtain ⟨⟨o1, h1⟩, h3⟩ := ex.dfr _ _ hk0
        exact ⟨⟨_, by rw [q3 i b hv, h1]; rfl⟩, by rw [q1 i b hv, h3, ← i2 i b hv]⟩
    · cases hv : inv i with
      | none => exact ⟨⟨st, pend, by rw [q4 i hv]; exact hi⟩, q2 i hv⟩
      | some b =>
        obtain ⟨k0, hk0, e⟩ := old i b _ hv hi
        cases k0 <;> simp only [renB, reduceCtorEq, ABlk.loop.injEq] at e
        obtain ⟨rfl, rfl, rfl, rfl, rfl, rfl, rfl, rfl⟩ := e
        obtain ⟨⟨st1, pend1, h1⟩, h3⟩ := ex.loop _ _ _ _ _ _ _ _ _ hk0
        exact ⟨⟨st1, pend1, by rw [q3 i b hv, h1]; rfl⟩, by rw [q1 i b hv, h3, ← i2 i b hv]⟩
  have mv' : ∀ b k, hget H' b = some k → Moves (hget H') m' (hget K') mK' b (σ b) := by
    intro b k hk
    have e1 := q3 _ b (i1 b)
    have e2 := q1 _ b (i1 b)
    refine ⟨fun t sz gg xs e => ?_, fun es e => ?_, fun k' e hr => ?_⟩
    · rw [e] at e1; exact ⟨_, e1, e2⟩
    · rw [e] at e1; exact ⟨⟨_, e1⟩, e2⟩
    · rw [e] at e1
      refine ⟨⟨_, e1, ?_⟩, e2⟩
      rw [renB_rec]; exact hr
  have okc' : ∀ c, @Ok (Base.mk b0) m' w' c → @Ok B mK' w' c := by
    intro c hc
    obtain ⟨h1, h2, h3, h4⟩ := hc
    refine ⟨h1, fun i l hl => ?_, h3⟩
    cases hv : inv i with
    | some b => rw [q1 i b hv] at hl; exact h2 b l hl
    | none => rw [q2 i hv] at hl; exact h4 i l hv hl
  refine ⟨v, mK', rfl, ?_, exK, rep_ren (Base.mk b0) B σ rr (fun _ _ => rfl) okc' mv'⟩
  refine ⟨gbel, fun i l hl => ?_, fun i i' l l' hl hl' e => ?_, fun i l hl => ?_, fun i k hk => ?_, fun i st pend fn T ps asg body d hi => ?_, fun c hc => ?_⟩
  · cases hv : inv i with
    | some b => rw [q1 i b hv] at hl; exact gbase b l hl
    | none => rw [q2 i hv] at hl; exact gK.base i l hl
  · cases hv : inv i with
    | some b =>
      rw [q1 i b hv] at hl
      cases hv' : inv i' with
      | some b' =>
        rw [q1 i' b' hv'] at hl'
        have := ginj _ _ _ _ hl hl' e
        subst this
        rw [← i2 i b hv, ← i2 i' b hv']
      | none =>
        rw [q2 i' hv'] at hl'
        exact absurd e (fun e => (ex.ok _ (fun1 i' l' hv' hl')).2.2 b l hl e)
    | none =>
      rw [q2 i hv] at hl
      cases hv' : inv i' with
      | some b' =>
        rw [q1 i' b' hv'] at hl'
        exact absurd e.symm (fun e => (ex.ok _ (fun1 i l hv hl)).2.2 b' l' hl' e)
      | none =>
        rw [q2 i' hv'] at hl'
        exact gK.inj _ _ _ _ hl hl' e
  · cases hv : inv i with
    | some b =>
      rw [q1 i b hv] at hl
      obtain ⟨k, hk⟩ := gsupp b l hl
      exact ⟨_, by rw [q3 i b hv, hk]; rfl⟩
    | none =>
      rw [q2 i hv] at hl
      rw [q4 i hv]; exact gK.supp i l hl
  · cases hv : inv i with
    | some b =>
      rw [q3 i b hv] at hk
      cases hb : hget H' b with
      | none => rw [hb] at hk; cases hk
      | some k0 =>
        rw [hb] at hk
        simp only [Option.map_some, Option.some.injEq] at hk
        subst hk
        have := brep_ren (Base.mk b0) B σ (gblk b k0 hb) okc' mv' (fun b => q1 _ b (i1 b))
        rw [i2 i b hv] at this
        exact this
    | none =>
      rw [q4 i hv] at hk
      refine (gK.blk i k hk).ext exK (q2 i hv) (fun l hl => (ex.ok _ (fun1 i l hv hl)).1) (fun st pend fn T ps asg body d e => ?_)
      subst e
      obtain ⟨o, ho⟩ := gK.dloop _ _ _ _ _ _ _ _ _ hk
      exact (exK.dfr _ _ ho).2
  · cases hv : inv i with
    | some b =>
      rw [q3 i b hv] at hi
      cases hb : hget H' b with
      | none => rw [hb] at hi; cases hi
      | some k0 =>
        rw [hb] at hi
        cases k0 <;> simp only [renB, Option.map_some, Option.some.injEq, reduceCtorEq, ABlk.loop.injEq] at hi
        obtain ⟨rfl, rfl, rfl, rfl, rfl, rfl, rfl, rfl⟩ := hi
        obtain ⟨o, ho⟩ := gdl _ _ _ _ _ _ _ _ _ hb
        exact ⟨o, by rw [q3 _ _ (i1 _), ho]; rfl⟩
    | none =>
      rw [q4 i hv] at hi
      obtain ⟨o, ho⟩ := gK.dloop _ _ _ _ _ _ _ _ _ hi
      exact (exK.dfr _ _ ho).1
  · rcases hc with ⟨i, l, hl, rfl⟩ | hc
    · cases hv : inv i with
      | some b => rw [q1 i b hv] at hl; exact (gfr _ (.inl ⟨b, l, hl, rfl⟩)).1
      | none => rw [q2 i hv] at hl; exact gK.fresh _ (.inl ⟨i, l, hl, rfl⟩)
    · exact (gfr _ (.inr hc)).1
end Go.Am

/- The abstract machine Am, part Y3: contracts of functions that are handed blocks of the caller's; rounds; calls of both. -/
namespace Go.Am
open Go.RowKit
/-- The results, and the blocks behind the call. -/
def retH (P : Program) (X : Ctx) (rs : List ResultVar) (ys : List AV) (H' : List (Option ABlk)) : Exit → St → Prop
  | .normal, s => shut P s.D s fun s => resK P s rs fun xs => Le2 X ⟨xs, s.H, []⟩ ⟨ys, H', []⟩
  | .ret, s => shut P s.D s fun s => resK P s rs fun xs => Le2 X ⟨xs, s.H, []⟩ ⟨ys, H', []⟩
  | _, _ => False
theorem fin_rep [Base] {h : Nat → Option ABlk} {m : Nat → Option Loc} {w : World} : ∀ {ys : List AV} {us : List Value}, ys.length = us.length → (∀ j (a : j < ys.length) (b : j < us.length), Rep h m w ys[j] us[j]) → Rep h m w (finAV ys) (finV us)
  | [], [], _, _ => .tup [] rfl (fun j a => by simp at a)
  | [y], [u], _, hr => hr 0 (by simp) (by simp)
  | y :: y' :: ys, u :: u' :: us, hl, hr => .tup (u :: u' :: us) hl hr
  | [], _ :: _, hl, _ => by simp at hl
  | _ :: _, [], hl, _ => by simp at hl
  | [_], _ :: _ :: _, hl, _ => by simp at hl
  | _ :: _ :: _, [_], hl, _ => by simp at hl
/-- Values and blocks that say less. -/
theorem vals_le2 [Base] {w0 : World} {X : Ctx} {xs ys : List AV} {H H' : List (Option ABlk)} {m : Nat → Option Loc} {w : World} {us : List Value} (hl : Le2 X ⟨xs, H, []⟩ ⟨ys, H', []⟩) (hg : Good w0 (hget H) m w) (hx : Ext X.Z X.mz X.wz (hget H) m w)
    (hul : us.length = xs.length) (hr : ∀ j (x : j < xs.length) (y : j < us.length), Rep (hget H) m w xs[j] us[j]) :
    ∃ m', Good w0 (hget H') m' w ∧ Ext X.Z X.mz X.wz (hget H') m' w ∧ ys.length = us.length ∧ ∀ j (a : j < ys.length) (b : j < us.length), Rep (hget H') m' w ys[j] us[j] := by
  have hs : SatC w0 X ⟨xs, H, []⟩ { tmps := us.toArray, defers := [] } w := by
    refine ⟨[], by simp, m, ⟨hg, by simpa using hul, fun j hj => ?_, HidR.nil, [], rfl, fun j a => by simp at a, rfl⟩, hx⟩
    simp only at hj
    refine ⟨us[j], by simp [show j < us.length by omega], ?_⟩
    rw [lget_get, List.getElem?_eq_getElem hj]
    exact hr j hj (by omega)
  obtain ⟨_, _, m', hs', hx'⟩ := hs.le2 hl
  have hlen : ys.length = us.length := by have := hs'.size; simp at this; omega
  refine ⟨m', hs'.good, hx', hlen, fun j a b => ?_⟩
  obtain ⟨v, hv, hrv⟩ := hs'.tmps j a
  have e1 : v = us[j] := by
    have : us[j]? = some v := by simpa using hv
    rw [List.getElem?_eq_getElem b] at this
    cases this; rfl
  simp only at hrv
  rw [lget_get, List.getElem?_eq_getElem a] at hrv
  rw [← e1]
  exact hrv
/-- **A CONTRACT FROM THE BODY**, of a function that is handed blocks. -/
theorem semF_of_awp {P : Program} {f : FuncId} {fn : Func} {c : Code} {args : List AV} {H H' : List (Option ABlk)} {ys : List AV} (he : Enters P f) (hf : P.funcs[f]? = some fn) (hb : fn.body = some c)
    (h : ∀ [Base] (w0 : World) (m : Nat → Option Loc) (w : World), AWP P w0 none (Ctx.of H m w) c ⟨initT args fn.ntmps, H, []⟩ (retH P (Ctx.of H m w) fn.results.toList ys H')) : SemF P f args H (finAV ys) H' := by
  refine ⟨he, fun w0 m w us hg hlen hrep => ?_⟩
  refine callsIn_of_wp_marks hf hb trivial ?_
  have hsat : SatC w0 (Ctx.of H m w) ⟨initT args fn.ntmps, H, []⟩ { tmps := us.toArray ++ Array.replicate (fn.ntmps - us.toArray.size) undef, defers := [] } w := by
    refine ⟨[], by simp, m, ⟨hg, ?_, fun j hj => ?_, HidR.nil, [], rfl, fun j a => by simp at a, rfl⟩, Ext.refl _ _ _⟩
    · simp only [initT, List.length_append, junks_length, Array.size_append, List.size_toArray, Array.size_replicate] at hlen ⊢
      omega
    · simp only [initT, List.length_append, junks_length] at hj
      rw [initT, lget_append]
      by_cases hj' : j < args.length
      · refine ⟨us[j], ?_, ?_⟩
        · rw [Array.getElem?_append_left (by simpa using (by omega : j < us.length))]; simp
        · rw [dif_pos hj']; exact hrep j hj' (by omega)
      · refine ⟨undef, ?_, ?_⟩
        · rw [Array.getElem?_append_right (by simpa using (by omega : us.length ≤ j))]
          rw [Array.getElem?_replicate, if_pos (by simp; omega)]
        · rw [dif_neg hj', lget_junks]; exact .junk _
  refine wpIn_mono (h w0 m w _ w hsat) ?_
  rintro e a' w' ⟨s', hq, hs'⟩
  have key : shut P s'.D s' (fun s => resK P s fn.results.toList fun xs => Le2 (Ctx.of H m w) ⟨xs, s.H, []⟩ ⟨ys, H', []⟩) →
      LeavesInM (FW none) 0 P fn a'.tmps (fun e w' => ∃ v m', e = .returned v ∧ Good w0 (hget H') m' w' ∧ Ext (hget H) m w (hget H') m' w' ∧ Rep (hget H') m' w' (finAV ys) v) a'.defers .returning w' := by
    intro hk
    refine leavesC (K := fun xs s => Le2 (Ctx.of H m w) ⟨xs, s.H, []⟩ ⟨ys, H', []⟩) ?_ s'.D s' a' w' rfl hk hs'
    intro xs s2 us2 m2 w2 hk2 hg2 hx2 hul2 hr2
    obtain ⟨m3, g3, x3, l3, r3⟩ := vals_le2 hk2 hg2 hx2 hul2 hr2
    exact ⟨_, m3, rfl, g3, x3, fin_rep l3 r3⟩
  cases e with
  | normal => exact key hq
  | ret => exact key hq
  | exit id => exact hq.elim
  | goto l => exact hq.elim
  | panic c => exact hq.elim
  | outgrown => exact hq.elim
/-- The record of a loop, as it stands. -/
def recK (st : LoopState) (k : Option ABlk) (f : FuncId → List AV → Array Tmp → Code → Code → Nat → Prop) : Prop :=
  match k with
  | some (.loop st' none fn T ps asg body d) => st' = st ∧ f fn T ps asg body d
  | _ => False
/-- The end of a round. -/
def endY (X : Ctx) (b : Nat) (y : Bool) (H' : List (Option ABlk)) : Exit → St → Prop
  | .normal, s => recK .busy (hget s.H b) fun fn T ps asg body d => y = true ∧ Le2 X ⟨[], hset s.H b (.loop .ready none fn T ps asg body d), []⟩ ⟨[], H', []⟩
  | .ret, s => recK .busy (hget s.H b) fun fn T ps asg body d => y = false ∧ Le2 X ⟨[], hset s.H b (.loop .done (some .ret) fn T ps asg body d), []⟩ ⟨[], H', []⟩
  | .exit id, s => recK .busy (hget s.H b) fun fn T ps asg body d => y = false ∧ Le2 X ⟨[], hset s.H b (.loop .done (some (.exit id)) fn T ps asg body d), []⟩ ⟨[], H', []⟩
  | _, _ => False
/-- Between the assignments and the body. -/
def midY (P : Program) [Base] (w0 : World) (l : Option Nat) (X : Ctx) (b : Nat) (body : Code) (y : Bool) (H' : List (Option ABlk)) : Exit → St → Prop
  | .normal, s => recK .ready (hget s.H b) fun fn T ps asg body' d => AWP P w0 l X body ⟨s.T, hset s.H b (.loop .busy none fn T ps asg body' d), s.D⟩ (endY X b y H')
  | _, _ => False
theorem recK_is {st : LoopState} {k : Option ABlk} {f : FuncId → List AV → Array Tmp → Code → Code → Nat → Prop} (h : recK st k f) : ∃ fn T ps asg body d, k = some (.loop st none fn T ps asg body d) ∧ f fn T ps asg body d := by
  unfold recK at h
  split at h
  · obtain ⟨rfl, h⟩ := h; exact ⟨_, _, _, _, _, _, rfl, h⟩
  · exact h.elim
/-- **A ROUND, FROM ITS BODY.** -/
theorem semY_of_awp {P : Program} {b : Nat} {as : List AV} {H H' : List (Option ABlk)} {y : Bool} {fn : FuncId} {T T1 : List AV} {ps : Array Tmp} {asg body : Code} {d : Nat}
    (hb : hget H b = some (.loop .ready none fn T ps asg body d)) (hT1 : putArgs ps.toList as T = some T1)
    (h : ∀ [Base] (w0 : World) (l : Nat) (m : Nat → Option Loc) (w : World), AWP P w0 (some l) (Ctx.of H m w) asg ⟨T1, H, []⟩ (midY P w0 (some l) (Ctx.of H m w) b body y H')) : SemY P b as H (.bool y) H' := by
  intro _ w0 m w us l hg hl hlen hrep
  obtain ⟨rec, k1, k2, k3, k4, k5, k6, k7, k8, _, _⟩ := rec_same hg hb hl .ready none
  obtain ⟨p1, p2, p3, p4⟩ := putArgs_sound ps.toList as T T1 us rec.tmps hT1 hlen hrep k7 (fun j hj => by
    obtain ⟨v, hv, hr⟩ := k8 j hj
    refine ⟨v, hv, ?_⟩
    rw [lget_get, List.getElem?_eq_getElem hj]; exact hr)
  have hy := run_yield (P := P) (args := us.toArray) k1 (by rw [k4]; simpa using p1.symm)
  have hfold : (rec.params.zip us.toArray).foldl (fun tmps (t, a) => tmps.setIfInBounds t a) rec.tmps = (ps.toList.zip us).foldl (fun t p => t.setIfInBounds p.1 p.2) rec.tmps := by
    rw [k4, ← Array.foldl_toList, Array.toList_zip]
  refine ⟨_, _, _, _, hy, roundIn_of_wpIn trivial ?_⟩
  rw [hfold, k5]
  have hsat : SatC w0 (Ctx.of H m w) ⟨T1, H, []⟩ { tmps := (ps.toList.zip us).foldl (fun t p => t.setIfInBounds p.1 p.2) rec.tmps, defers := [] } w :=
    ⟨[], by simp, m, ⟨hg, by simp only; rw [p2]; exact p3, fun j hj => p4 j (by rw [← p2]; exact hj), HidR.nil, [], rfl, fun j a => by simp at a, rfl⟩, Ext.refl _ _ _⟩
  refine wpIn_mono (h w0 l.c m w _ w hsat) ?_
  rintro e a1 w1 ⟨s1, hq, hid, hhid, m1, hs1, ex1⟩
  cases e with
  | normal =>
    obtain ⟨fn', T', ps', asg', body', d', hb1, hbody⟩ := recK_is hq
    have hl1 : m1 b = some l := by rw [(ex1.loop _ _ _ _ _ _ _ _ _ hb).2]; exact hl
    obtain ⟨rec1, q1, q2, q3, _, _, q6, _, _, g2, e2x⟩ := rec_same hs1.good hb1 hl1 .busy none
    rw [← hget_upd] at g2 e2x
    have hbr := run_beginRound (P := P) q1 q2
    rw [q3] at hbr
    refine ⟨_, hbr, ?_⟩
    rw [k6]
    have hs2 : SatC w0 (Ctx.of H m w) ⟨s1.T, hset s1.H b (.loop .busy none fn' T' ps' asg' body' d'), s1.D⟩ a1 _ := ⟨hid, hhid, _, hs1.move g2 e2x, ex1.trans e2x⟩
    refine wpIn_mono (hbody a1 _ hs2) ?_
    rintro e3 a3 w3 ⟨s3, hq3, _, _, m3, hs3, ex3⟩
    have fin : ∀ (jump : Option Code) (fn2 : FuncId) (T2 : List AV) (ps2 : Array Tmp) (asg2 body2 : Code) (d2 : Nat), hget s3.H b = some (.loop .busy none fn2 T2 ps2 asg2 body2 d2) → y = jump.isNone →
        Le2 (Ctx.of H m w) ⟨[], hset s3.H b (.loop (if jump.isNone then .ready else .done) jump fn2 T2 ps2 asg2 body2 d2), []⟩ ⟨[], H', []⟩ →
        ∃ v w', (Instr.endRound l.c jump).run P w3 = .ok v w' ∧ ∃ v' m', Ending.returned v = .returned v' ∧ Good w0 (hget H') m' w' ∧ Ext (hget H) m w (hget H') m' w' ∧ Rep (hget H') m' w' (.bool y) v' := by
      intro jump fn2 T2 ps2 asg2 body2 d2 hb3 hy hle
      have hl3 : m3 b = some l := by
        rw [(ex3.loop _ _ _ _ _ _ _ _ _ hb).2]; exact hl
      obtain ⟨v, w4, r1, v', m4, r2, r3, r4, r5⟩ := round_end (P := P) hs3.good ex3 hl3 hb3 jump _ rfl
      obtain ⟨m5, g5, x5, _, _⟩ := vals_le2 (us := []) hle r3 r4 rfl (fun j x => by simp at x)
      refine ⟨v, w4, r1, v', m5, r2, g5, x5, ?_⟩
      rw [hy]
      rw [rep_bool r5]
      exact .pure (.bool _)
    cases e3 with
    | normal =>
      obtain ⟨fn2, T2, ps2, asg2, body2, d2, hb3, hy3, hle⟩ := recK_is hq3
      exact fin none _ _ _ _ _ _ hb3 hy3 hle
    | ret =>
      obtain ⟨fn2, T2, ps2, asg2, body2, d2, hb3, hy3, hle⟩ := recK_is hq3
      exact fin (some .ret) _ _ _ _ _ _ hb3 hy3 hle
    | exit id =>
      obtain ⟨fn2, T2, ps2, asg2, body2, d2, hb3, hy3, hle⟩ := recK_is hq3
      exact fin (some (.exit id)) _ _ _ _ _ _ hb3 hy3 hle
    | goto l => exact hq3.elim
    | panic c => exact hq3.elim
    | outgrown => exact hq3.elim
  | ret => exact hq.elim
  | exit id => exact hq.elim
  | goto l => exact hq.elim
  | panic c => exact hq.elim
  | outgrown => exact hq.elim
/-- A call that may be handed blocks. -/
def CallH (P : Program) (fv : AV) (as : List AV) (H : List (Option ABlk)) (K : AV → List (Option ABlk) → Prop) : Prop := ∃ r H', Sem P fv as H r H' ∧ K r H'
theorem callH_of {P : Program} {fv : AV} {as : List AV} {H : List (Option ABlk)} {K : AV → List (Option ABlk) → Prop} {r : AV} {H' : List (Option ABlk)} (h : Sem P fv as H r H') (hk : K r H') : CallH P fv as H K := ⟨r, H', h, hk⟩
def ownK (P : Program) (all : Array Oper) (o : Oper) (s : St) (K : St → Prop) : Prop :=
  match guardOf all s.T o with
  | some true => (match o.op with
    | .call ⟨.value f, args, _⟩ => CallH P (aev s.T f) (args.toList.map (aev s.T)) s.H fun r H' => K ⟨lseto s.T o.dst r, H', s.D⟩
    | _ => False)
  | some false => K ⟨lseto s.T o.dst (.tup []), s.H, s.D⟩
  | none => False
section
variable [Base] {P : Program} {w0 : World} {r : Option Nat} {X : Ctx} {s : St} {Q : Exit → St → Prop}
theorem call_go {o : Oper} {f : Operand} {args : Array Operand} {ts : Array TypeId} {T : List AV} {H H' : List (Option ABlk)} {y : AV} (ho : o.op = .call ⟨.value f, args, ts⟩) (hs : Sem P (aev T f) (args.toList.map (aev T)) H y H')
    {m : Nat → Option Loc} {w : World} {ac : Act} {next : Act → World → Prop} {QQ : Exit → Act → World → Prop} (hg : Good w0 (hget H) m w) (hop : ∀ x, x ∈ o.op.operands → Rep (hget H) m w (aev T x) (ac.eval x))
    (hnext : ∀ v w' m', Good w0 (hget H') m' w' → Ext (hget H) m w (hget H') m' w' → Rep (hget H') m' w' y v → next (ac.put o.dst v) w') : o.wpIn (FW r) 0 P ac w next QQ := by
  have h1 := hop f (by simp [ho, Op.operands, Call.operands])
  have hargs : ∀ j (a : j < (args.toList.map (aev T)).length) (c : j < (args.toList.map ac.eval).length), Rep (hget H) m w (args.toList.map (aev T))[j] (args.toList.map ac.eval)[j] := by
    intro j a c
    simp only [List.getElem_map]
    exact hop _ (by simp [ho, Op.operands, Call.operands])
  generalize hfv : aev T f = fv at *
  match fv, hs with
  | .fn (.func g) first caps, hs =>
    obtain ⟨us, vs, he, l1, l2, r1, r2⟩ := rep_fn h1
    have hlen : (first ++ args.toList.map (aev T) ++ caps).length = (us ++ args.toList.map ac.eval ++ vs).length := by simp [l1, l2]
    have hreps := getElem_append3 l1 (by simp) r1 hargs r2
    have hc := hs.2 w0 m w (us ++ args.toList.map ac.eval ++ vs) hg hlen hreps
    have hrun : (execOp ac.eval o).run P w = .ok (.enter g (us ++ args.toList.map ac.eval ++ vs).toArray) w := by
      have e1 : us.toArray ++ args.map ac.eval ++ vs.toArray = (us ++ args.toList.map ac.eval ++ vs).toArray := by
        apply Array.toList_inj.1; simp
      simp only [execOp, ho, resolve, he, Deferred.ofValue, Sem.run_bind, Sem.run_pure, Result.andThen_ok, invoke]
      rw [e1]
      exact hs.1 w _
    refine wp_call (by simp [ho]) hrun hc (fun e w' hR => ?_)
    obtain ⟨v, m', rfl, g1, e1, rr⟩ := hR
    exact ⟨v, rfl, hnext v w' m' g1 e1 rr⟩
  | .fn (.yield b) [] [], hs =>
    obtain ⟨_, _, l, hl, he⟩ := rep_yld h1
    obtain ⟨fn, tm, asg, body, hy, hr⟩ := hs w0 m w (args.toList.map ac.eval) l hg hl (by simp) hargs
    have hrun : (execOp ac.eval o).run P w = .ok (.round l.c fn tm asg body) w := by
      have e1 : (#[] : Array Value) ++ args.map ac.eval = (args.toList.map ac.eval).toArray := by
        apply Array.toList_inj.1; simp
      simp only [execOp, ho, resolve, he, Deferred.ofValue, Sem.run_bind, Sem.run_pure, Result.andThen_ok, invoke]
      rw [e1]
      exact hy
    refine wp_round (by simp [ho]) hrun hr (fun e w' hR => ?_)
    obtain ⟨v, m', rfl, g1, e1, rr⟩ := hR
    exact ⟨v, rfl, hnext v w' m' g1 e1 rr⟩
/-- In the order of the text, with more behind. -/
theorem trace_seq3 {all : Array Oper} {ex : List Nat} {Z : Nat → Option ABlk} {mz : Nat → Option Loc} {wz : World} {QQ : Exit → Act → World → Prop} {rest : List Nat} : ∀ {i : Nat} {s s' : Sf} {es : List Ef}, Trace2 P w0 r all i s es s' → (∀ a w, SatX w0 ex Z mz wz s' a w → wpOpsIn (FW r) 0 P all QQ rest a w) → ∀ a w, SatX w0 ex Z mz wz s a w →
    wpOpsIn (FW r) 0 P all QQ (List.range' i es.length ++ rest) a w := by
  intro i s s' es ht hQ
  induction ht with
  | nil i s => intro a w hs; exact hQ a w hs
  | run ho hg hok rest ih =>
    rename_i i s s' o e es
    intro a w ⟨m, hs, hext⟩
    simp only [List.length_cons, List.range'_succ, List.cons_append]
    rw [wpOpsIn_cons]
    unfold wpOpIn
    simp only [ho]
    rw [guard_wanted hs rfl hg (fun _ _ _ _ _ _ => rfl), if_pos rfl]
    refine hok _ m w a _ QQ (fun _ _ => rfl) (fun _ _ => rfl) (fun _ => rfl) hs.good (fun x _ => hs.eval s.T rfl x (fun _ _ _ => rfl)) (fun v w' m' g1 e1 r1 => ih hQ _ _ ⟨m', ?_, hext.trans e1⟩)
    simp only [lseto_length]
    refine hs.put g1 e1 r1 (fun j hj => ?_)
    cases hd : o.dst with
    | none => simp [lseto]
    | some d => simp only [lseto, lget_set, Option.some.injEq, hj, and_true]
  | skip ho hg rest ih =>
    rename_i i s s' o es
    intro a w ⟨m, hs, hext⟩
    simp only [List.length_cons, List.range'_succ, List.cons_append]
    rw [wpOpsIn_cons]
    unfold wpOpIn
    simp only [ho]
    rw [guard_wanted hs rfl hg (fun _ _ _ _ _ _ => rfl), if_neg (by simp)]
    refine ⟨fun _ _ => trivial, ih hQ _ _ ⟨m, ?_, hext⟩⟩
    simp only [lseto_length]
    refine hs.put hs.good (Ext.refl _ _ _) rep_undef (fun j hj => ?_)
    cases hd : o.dst with
    | none => simp [lseto]
    | some d => simp only [lseto, lget_set, Option.some.injEq, hj, and_true]
/-- **A REGION WITH A CALL THAT IS HANDED BLOCKS**: what stands before it, the call, what stands behind it. -/
theorem awp_own {id : Nat} {ops pre post : List Oper} {o : Oper} (e : ops = pre ++ o :: post)
    (h : evOps P ops.toArray pre s [] fun s1 _ => ownK P ops.toArray o s1 fun s2 => evOps P ops.toArray post s2 [] fun s3 _ => Q .normal s3) : AWP P w0 r X (.region id ops.toArray false) s Q := by
  intro a w ⟨ex, hex, hs⟩
  have hpre : ∀ k, pre[k]? = ops.toArray[0 + k]? ∨ pre.length ≤ k := fun k => by
    rcases Nat.lt_or_ge k pre.length with h | h
    · left; simp [e, List.getElem?_append_left h]
    · exact .inr h
  have hat : ops.toArray[pre.length]? = some o := by simp [e]
  refine wpIn_region ?_
  have hrange : List.range ops.toArray.size = List.range' 0 pre.length ++ (pre.length :: List.range' (pre.length + 1) post.length) := by
    rw [List.range_eq_range', show ops.toArray.size = pre.length + (post.length + 1) by simp [e], ← List.range'_append_1, List.range'_succ]
    simp
  rw [hrange]
  obtain ⟨es, s1, ht, hl, hk⟩ := ev_trace (w0 := w0) (r := r) (all := ops.toArray) pre 0 s [] _ (fun k hk => (hpre k).resolve_right (by omega)) h
  have e1 : es.length = (es.map lift).length := by simp
  rw [← hl, e1]
  refine trace_seq3 (Z := X.Z) (mz := X.mz) (wz := X.wz) ht.two ?_ a w hs
  rintro a1 w1 ⟨m1, hs1, hx1⟩
  rw [List.length_map, hl, wpOpsIn_cons]
  unfold wpOpIn
  simp only [hat]
  have tail : ∀ (s2 : St) (a2 : Act) (w2 : World), evOps P ops.toArray post s2 [] (fun s3 _ => Q .normal s3) → SatX w0 ex X.Z X.mz X.wz s2.f a2 w2 → wpOpsIn (FW r) 0 P ops.toArray (fun e a' w' => ∃ s', Q e s' ∧ SatC w0 X s' a' w') (List.range' (pre.length + 1) post.length) a2 w2 := by
    intro s2 a2 w2 hev hs2
    obtain ⟨es2, s3, ht2, hl2, hk2⟩ := ev_trace (w0 := w0) (r := r) (all := ops.toArray) post (pre.length + 1) s2 [] _ (fun k _ => by simp [e, List.getElem?_append_right (show pre.length ≤ pre.length + 1 + k by omega), show pre.length + 1 + k - pre.length = k + 1 by omega]) hev
    have := trace_seq2 (Z := X.Z) (mz := X.mz) (wz := X.wz) (Q := fun e a' w' => ∃ s', Q e s' ∧ SatC w0 X s' a' w') ht2.two (fun a w hs => ⟨s3, hk2, ex, hex, hs⟩) a2 w2 hs2
    rw [List.length_map, hl2] at this
    exact this
  unfold ownK at hk
  have hs1' : SatM w0 ex (lget s1.T) s1.T.length (hget s1.H) s1.D m1 a1 w1 := hs1
  split at hk
  · rename_i hg
    rw [guard_wanted hs1' rfl hg (fun _ _ _ _ _ _ => rfl), if_pos rfl]
    split at hk
    · rename_i f args ts ho
      obtain ⟨y, H', hsem, hk⟩ := hk
      refine call_go ho hsem hs1'.good (fun x _ => hs1'.eval s1.T rfl x (fun _ _ _ => rfl)) (fun v w' m' g1 e1 r1 => tail _ _ _ hk ⟨m', ?_, hx1.trans e1⟩)
      simp only [St.f, lseto_length]
      refine hs1'.put g1 e1 r1 (fun j hj => ?_)
      cases hd : o.dst with
      | none => simp [lseto]
      | some d => simp only [lseto, lget_set, Option.some.injEq, hj, and_true]
    · exact hk.elim
  · rename_i hg
    rw [guard_wanted hs1' rfl hg (fun _ _ _ _ _ _ => rfl), if_neg (by simp)]
    refine ⟨fun _ _ => trivial, tail _ _ _ hk ⟨m1, ?_, hx1⟩⟩
    simp only [St.f, lseto_length]
    refine hs1'.put hs1'.good (Ext.refl _ _ _) rep_undef (fun j hj => ?_)
    cases hd : o.dst with
    | none => simp [lseto]
    | some d => simp only [lseto, lget_set, Option.some.injEq, hj, and_true]
  · exact hk.elim
/-- A range over a function. -/
theorem awp_range {g : Operand} {ps : Array Tmp} {asg body : Code} {gf : FuncId} {first caps : List AV} (hg : aev s.T g = .fn (.func gf) first caps) {y : AV} {H' : List (Option ABlk)}
    (hs : SemF P gf (first ++ [.fn (.yield (s.H.length + 1)) [] []] ++ caps) (hset (hset s.H s.H.length (.dfr true)) (s.H.length + 1) (.loop .ready none 0 s.T ps asg body s.H.length)) y H')
    {st : LoopState} (hst : st ≠ .busy) {pend : Option Code} {fn : FuncId} {T : List AV} {ps' : Array Tmp} {asg' body' : Code} {d : Nat} (hb : hget H' (s.H.length + 1) = some (.loop st pend fn T ps' asg' body' d)) {e : Exit} (he : jumpX pend = some e)
    (hQ : Q e ⟨s.T, hset H' (s.H.length + 1) (.loop .exhausted pend fn T ps' asg' body' d), s.H.length :: s.D⟩) : AWP P w0 none X (.rangeFunc g ps asg body) s Q := by
  rintro a w ⟨ex, hex, m, hsat, hx⟩
  refine wpIn_mono (range_core hg hs hst hb he w0 none ex m a w (fun _ => rfl) hsat) ?_
  rintro e' a' w' ⟨rfl, m', hs', ex'⟩
  exact ⟨_, hQ, ex, hex, m', hs', hx.trans ex'⟩
end
end Go.Am

/- The abstract machine Am, part Y4: the frame with lists of numbers; rewriting of calls that are handed blocks. -/
namespace Go.Am
open Go.RowKit
/-- Where the blocks lie: the first ones by a list, new ones behind n others. -/
def sg : List Nat → Nat → Nat → Nat
  | [], n, b => n + b
  | i :: _, _, 0 => i
  | _ :: l, n, b + 1 => sg l n b
def iv : List Nat → Nat → Nat → Option Nat
  | [], n, i => if n ≤ i then some (i - n) else none
  | j :: l, n, i => if i = j then some 0 else (iv l n i).map (· + 1)
def apartB : List Nat → Nat → Bool
  | [], _ => true
  | i :: l, n => decide (i < n) && (!l.contains i && apartB l n)
def hput : List (Option ABlk) → Nat → Option ABlk → List (Option ABlk)
  | [], _, _ => []
  | _ :: K, 0, k => k :: K
  | x :: K, i + 1, k => x :: hput K i k
/-- The blocks behind a call: those of the callee in their places. -/
def mg (σ : Nat → Nat) : List Nat → List (Option ABlk) → List (Option ABlk) → List (Option ABlk)
  | [], H', K => K ++ H'.map (Option.map (renB σ))
  | i :: l, [], K => mg σ l [] (hput K i none)
  | i :: l, k :: H', K => mg σ l H' (hput K i (k.map (renB σ)))
def mt (σ : Nat → Nat) (n : Nat) : List Nat → List (Option ABlk) → List (Option ABlk) → Prop
  | [], [], _ => True
  | i :: l, some k :: H, K => hget K i = some (renB σ k) ∧ refsB (· < n) k ∧ mt σ n l H K
  | _, _, _ => False
theorem apartB_cons {i n : Nat} {l : List Nat} (h : apartB (i :: l) n = true) : i < n ∧ i ∉ l ∧ apartB l n = true := by
  simp only [apartB, Bool.and_eq_true, decide_eq_true_eq, Bool.not_eq_true', List.contains_eq_mem, decide_eq_false_iff_not] at h
  exact ⟨h.1, h.2.1, h.2.2⟩
theorem sg_mem : ∀ {l : List Nat} {n : Nat} (b : Nat), sg l n b ∈ l ∨ n ≤ sg l n b
  | [], n, b => .inr (by simp [sg])
  | i :: l, n, 0 => .inl (by simp [sg])
  | i :: l, n, b + 1 => by
    simp only [sg]
    rcases sg_mem (l := l) (n := n) b with h | h
    · exact .inl (by simp [h])
    · exact .inr h
theorem iv_sg : ∀ {l : List Nat} {n : Nat}, apartB l n = true → ∀ b, iv l n (sg l n b) = some b
  | [], n, _, b => by simp [iv, sg]
  | i :: l, n, h, 0 => by simp [iv, sg]
  | i :: l, n, h, b + 1 => by
    obtain ⟨h1, h2, h3⟩ := apartB_cons h
    have hne : sg l n b ≠ i := by
      intro e
      rcases sg_mem (l := l) (n := n) b with h4 | h4
      · rw [e] at h4; exact h2 h4
      · omega
    have e0 : sg (i :: l) n (b + 1) = sg l n b := rfl
    rw [e0]
    simp only [iv, hne, if_false]
    rw [iv_sg h3 b]
    rfl
theorem sg_iv : ∀ {l : List Nat} {n i b : Nat}, iv l n i = some b → sg l n b = i
  | [], n, i, b, h => by
    simp only [iv] at h
    split at h
    · cases h; simp only [sg]; omega
    · cases h
  | j :: l, n, i, b, h => by
    simp only [iv] at h
    split at h
    · cases h; rename_i e; simp [sg, e]
    · cases hv : iv l n i with
      | none => rw [hv] at h; cases h
      | some b' =>
        rw [hv] at h
        cases h
        simp only [sg]
        exact sg_iv hv
theorem sg_new : ∀ {l : List Nat} {n b : Nat}, l.length ≤ b → n ≤ sg l n b
  | [], n, b, _ => by simp [sg]
  | i :: l, n, 0, h => by simp at h
  | i :: l, n, b + 1, h => by simp only [sg]; exact sg_new (by simpa using h)
theorem iv_none : ∀ {l : List Nat} {n i : Nat}, i ∉ l → i < n → iv l n i = none
  | [], n, i, _, h => by simp only [iv]; rw [if_neg (by omega)]
  | j :: l, n, i, hn, h => by
    simp only [List.mem_cons, not_or] at hn
    simp only [iv]
    rw [if_neg hn.1, iv_none hn.2 h]; rfl
theorem hput_length : ∀ (K : List (Option ABlk)) (i : Nat) (k : Option ABlk), (hput K i k).length = K.length
  | [], _, _ => rfl
  | x :: K, 0, k => rfl
  | x :: K, i + 1, k => by simp [hput, hput_length K i k]
theorem hget_hput : ∀ (K : List (Option ABlk)) (i j : Nat) (k : Option ABlk), i < K.length → hget (hput K i k) j = if j = i then k else hget K j
  | [], i, j, k, h => by simp at h
  | x :: K, 0, 0, k, h => by simp [hput, hget]
  | x :: K, 0, j + 1, k, h => by simp [hput, hget]
  | x :: K, i + 1, 0, k, h => by simp [hput, hget]
  | x :: K, i + 1, j + 1, k, h => by
    simp only [hput, hget]
    rw [hget_hput K i j k (by simpa using h)]
    simp
theorem hget_app : ∀ (K L : List (Option ABlk)) (i : Nat), hget (K ++ L) i = if K.length ≤ i then hget L (i - K.length) else hget K i
  | [], L, i => by simp
  | x :: K, L, 0 => by simp [hget]
  | x :: K, L, i + 1 => by
    simp only [List.cons_append, hget, List.length_cons, Nat.add_le_add_iff_right, Nat.add_sub_add_right]
    exact hget_app K L i
theorem hget_map (f : ABlk → ABlk) : ∀ (H : List (Option ABlk)) (i : Nat), hget (H.map (Option.map f)) i = (hget H i).map f
  | [], i => by simp [hget]
  | x :: H, 0 => by simp [hget]
  | x :: H, i + 1 => by simp only [List.map_cons, hget]; exact hget_map f H i
theorem mg_get (σ : Nat → Nat) : ∀ (l : List Nat) (H' K : List (Option ABlk)), apartB l K.length = true → ∀ i, hget (mg σ l H' K) i = match iv l K.length i with | some b => (hget H' b).map (renB σ) | none => hget K i
  | [], H', K, _, i => by
    simp only [mg, iv, hget_app]
    split
    · rw [hget_map]
    · rfl
  | j :: l, H', K, h, i => by
    obtain ⟨h1, h2, h3⟩ := apartB_cons h
    have step : ∀ (k : Option ABlk) (H2 : List (Option ABlk)), (hget H' 0).map (renB σ) = k → (∀ b, hget H' (b + 1) = hget H2 b) → hget (mg σ l H2 (hput K j k)) i = match iv (j :: l) K.length i with | some b => (hget H' b).map (renB σ) | none => hget K i := by
      intro k H2 hk hH2
      have ih := mg_get σ l H2 (hput K j k) (by rw [hput_length]; exact h3) i
      rw [hput_length] at ih
      rw [ih]
      simp only [iv]
      by_cases e : i = j
      · subst e
        rw [if_pos rfl, iv_none h2 h1]
        simp only
        rw [hget_hput K i i k h1, if_pos rfl, hk]
      · rw [if_neg e]
        cases hv : iv l K.length i with
        | none => simp only [Option.map_none]; rw [hget_hput K j i k h1, if_neg e]
        | some b => simp only [Option.map_some]; rw [hH2]
    cases H' with
    | nil => exact step none [] (by simp [hget]) (fun b => by simp [hget])
    | cons k H2 => exact step _ H2 (by simp [hget]) (fun b => by simp [hget])
theorem mt_spec {σ : Nat → Nat} {n : Nat} : ∀ {l : List Nat} {H K : List (Option ABlk)} (N : Nat), mt σ n l H K → H.length = l.length ∧ (∀ b, b < H.length → hget H b ≠ none) ∧ ∀ b k, hget H b = some k → hget K (sg l N b) = some (renB σ k) ∧ refsB (· < n) k
  | [], [], K, N, _ => ⟨rfl, fun b h => by simp at h, fun b k hk => by simp [hget] at hk⟩
  | i :: l, some k :: H, K, N, h => by
    obtain ⟨h1, h2, h3⟩ := h
    obtain ⟨a1, a2, a3⟩ := mt_spec N h3
    refine ⟨by simp [a1], fun b hb => ?_, fun b k' hk => ?_⟩
    · cases b with
      | zero => simp [hget]
      | succ b => exact a2 b (by simpa using hb)
    · cases b with
      | zero => simp only [hget, Option.some.injEq] at hk; subst hk; exact ⟨h1, h2⟩
      | succ b => exact a3 b k' hk
  | [], _ :: _, K, N, h => by simp [mt] at h
  | _ :: _, [], K, N, h => by simp [mt] at h
  | _ :: _, none :: _, K, N, h => by simp [mt] at h
/-- **A CONTRACT WITH BLOCKS IS USED.** -/
theorem own_use {P : Program} {g : FuncId} {as : List AV} {H H' : List (Option ABlk)} {r : AV} (hs : SemF P g as H r H') {K : List (Option ABlk)} (l : List Nat) (ha : apartB l K.length = true) (hm : mt (sg l K.length) H.length l H K) (har : refsL (· < H.length) as) :
    SemF P g (as.map (ren (sg l K.length))) K (ren (sg l K.length) r) (mg (sg l K.length) l H' K) := by
  obtain ⟨m1, m2, m3⟩ := mt_spec K.length hm
  exact semF_frame hs (sg l K.length) (iv l K.length) m2 (iv_sg ha) (fun i b h => sg_iv h) (fun b hb => sg_new (by omega)) m3 (fun j h => refsL_get har j h) (mg_get _ l H' K ha)
theorem own_go {P : Program} {g : FuncId} {as : List AV} {H H' : List (Option ABlk)} {r : AV} (hs : SemF P g as H r H') {K : List (Option ABlk)} (l : List Nat) (ha : apartB l K.length = true) (hm : mt (sg l K.length) H.length l H K) (har : refsL (· < H.length) as)
    {first caps args : List AV} (he : first ++ args ++ caps = as.map (ren (sg l K.length))) {Kc : AV → List (Option ABlk) → Prop} (hk : Kc (ren (sg l K.length) r) (mg (sg l K.length) l H' K)) : CallH P (.fn (.func g) first caps) args K Kc :=
  callH_of (by simp only [Sem]; rw [he]; exact own_use hs l ha hm har) hk
section
variable {P : Program} {all : Array Oper} {d : Option Tmp} {ty : TypeId} {ps : String} {af : Array Edge} {T : List AV} {H : List (Option ABlk)} {D : List Nat} {K : St → Prop}
theorem own_free {f : Operand} {args : Array Operand} {ts : Array TypeId} : ownK P all ⟨d, .call ⟨.value f, args, ts⟩, ty, ps, af, none⟩ ⟨T, H, D⟩ K = CallH P (aev T f) (args.toList.map (aev T)) H fun r H' => K ⟨lseto T d r, H', D⟩ := nrfl rfl
theorem own_guard {l : List Oper} {j : Nat} {wn : Bool} {f : Operand} {args : Array Operand} {ts : Array TypeId} : ownK P l.toArray ⟨d, .call ⟨.value f, args, ts⟩, ty, ps, af, some (j, wn)⟩ ⟨T, H, D⟩ K =
    guardK (gget T (gtmp l j)) wn (CallH P (aev T f) (args.toList.map (aev T)) H fun r H' => K ⟨lseto T d r, H', D⟩) (K ⟨lseto T d (.tup []), H, D⟩) := by
  simp only [ownK, guardOf, gtmp_is, guardK]
  cases hg : gtmp l j with
  | none => rfl
  | some t =>
    simp only [gget]
    cases hg : lget T t
    case bool b => cases hb : (b == wn) <;> simp [hb] <;> rfl
    all_goals rfl
@[congr] theorem CallH_congr {fv fv' : AV} {as as' : List AV} {k : AV → List (Option ABlk) → Prop} (h1 : fv = fv') (h2 : as = as') : CallH P fv as H k = CallH P fv' as' H k := by rw [h1, h2]
end
section
variable {σ : Nat → Nat}
theorem rn_int {k : IntKind} {n : Int} : ren σ (.int k n) = .int k n := by simp [ren]
theorem rn_bool {b : Bool} : ren σ (.bool b) = .bool b := by simp [ren]
theorem rn_psl {f : Bool} {n : Nat} {xs : List AV} : ren σ (.psl f n xs) = .psl f n xs := by simp [ren]
theorem rn_ptr {b g off : Nat} : ren σ (.ptr b g off) = .ptr (σ b) g off := by simp [ren]
theorem rn_osl {b g off len : Nat} : ren σ (.osl b g off len) = .osl (σ b) g off len := by simp [ren]
theorem rn_map {b : Nat} : ren σ (.map b) = .map (σ b) := by simp [ren]
theorem rn_fn {f : FuncId} {xs ys : List AV} : ren σ (.fn (.func f) xs ys) = .fn (.func f) (renL σ xs) (renL σ ys) := by simp [ren, renF]
theorem rn_agg {xs : List AV} : ren σ (.agg xs) = .agg (renL σ xs) := by simp [ren]
theorem rl_n : renL σ [] = [] := by simp [renL]
theorem rl_c {x : AV} {xs : List AV} : renL σ (x :: xs) = ren σ x :: renL σ xs := by simp [renL]
theorem rl_ints {l : List Int} : renL σ (ints l) = ints l := by
  rw [renL_map]; simp only [ints, List.map_map]; apply List.map_congr_left; intro a _; simp [ren]
theorem rb_cells {t : TypeId} {sz g : Nat} {xs : List AV} : renB σ (.cells t sz g xs) = .cells t sz g (renL σ xs) := nrfl rfl
theorem sg_n {n b : Nat} : sg [] n b = n + b := nrfl rfl
theorem sg_z {i n : Nat} {l : List Nat} : sg (i :: l) n 0 = i := nrfl rfl
theorem sg_s {i n b : Nat} {l : List Nat} : sg (i :: l) n (b + 1) = sg l n b := nrfl rfl
theorem hp_z {x k : Option ABlk} {K : List (Option ABlk)} : hput (x :: K) 0 k = k :: K := nrfl rfl
theorem hp_s {x k : Option ABlk} {i : Nat} {K : List (Option ABlk)} : hput (x :: K) (i + 1) k = x :: hput K i k := nrfl rfl
theorem mg_n {H' K : List (Option ABlk)} : mg σ [] H' K = K ++ H'.map (Option.map (renB σ)) := by simp [mg]
theorem mg_c {i : Nat} {l : List Nat} {k : Option ABlk} {H' K : List (Option ABlk)} : mg σ (i :: l) (k :: H') K = mg σ l H' (hput K i (k.map (renB σ))) := by simp [mg]
theorem mt_n {n : Nat} {K : List (Option ABlk)} : mt σ n [] [] K = True := by simp [mt]
theorem mt_c {n i : Nat} {l : List Nat} {k : ABlk} {H K : List (Option ABlk)} : mt σ n (i :: l) (some k :: H) K = (hget K i = some (renB σ k) ∧ refsB (· < n) k ∧ mt σ n l H K) := by simp [mt]
variable {p : Nat → Prop}
theorem rf_int {k : IntKind} {n : Int} : refs p (.int k n) = True := by simp [refs]
theorem rf_bool {b : Bool} : refs p (.bool b) = True := by simp [refs]
theorem rf_psl {f : Bool} {n : Nat} {xs : List AV} : refs p (.psl f n xs) = True := by simp [refs]
theorem rf_ptr {b g off : Nat} : refs p (.ptr b g off) = p b := by simp [refs]
theorem rf_osl {b g off len : Nat} : refs p (.osl b g off len) = p b := by simp [refs]
theorem rf_map {b : Nat} : refs p (.map b) = p b := by simp [refs]
theorem rf_agg {xs : List AV} : refs p (.agg xs) = refsL p xs := by simp [refs]
theorem rf_fn {f : FuncId} {xs ys : List AV} : refs p (.fn (.func f) xs ys) = (refsL p xs ∧ refsL p ys) := by simp [refs]
theorem rfl_n : refsL p [] = True := by simp [refsL]
theorem rfl_c {x : AV} {xs : List AV} : refsL p (x :: xs) = (refs p x ∧ refsL p xs) := by simp [refsL]
theorem rfl_ints {l : List Int} : refsL p (ints l) = True := by
  rw [eq_iff_iff, iff_true]
  induction l with
  | nil => simp [ints, refsL]
  | cons a l ih => rw [ints_cons, rfl_c]; exact ⟨by simp [refs], ih⟩
theorem rfb_cells {t : TypeId} {sz g : Nat} {xs : List AV} : refsB p (.cells t sz g xs) = refsL p xs := nrfl rfl
end
attribute [go_sem] own_free own_guard rn_int rn_bool rn_psl rn_ptr rn_osl rn_map rn_fn rn_agg rl_n rl_c rl_ints rb_cells sg_n sg_z sg_s hp_z hp_s mg_n mg_c mt_n mt_c rf_int rf_bool rf_psl rf_ptr rf_osl rf_map rf_agg rf_fn rfl_n rfl_c rfl_ints rfb_cells Option.map_some Option.map_none List.map_cons List.map_nil
end Go.Am

/- The abstract machine Am, part Y5: rewriting of the ends of calls and rounds; maps from numbers to pairs. -/
namespace Go.Am
open Go.RowKit
section
variable {P : Program} {X : Ctx} {rs : List ResultVar} {ys : List AV} {T : List AV} {H H' : List (Option ABlk)} {D : List Nat}
theorem rh_n : retH P X rs ys H' .normal ⟨T, H, D⟩ = shut P D ⟨T, H, D⟩ fun s => resK P s rs fun xs => Le2 X ⟨xs, s.H, []⟩ ⟨ys, H', []⟩ := nrfl rfl
theorem rh_r : retH P X rs ys H' .ret ⟨T, H, D⟩ = shut P D ⟨T, H, D⟩ fun s => resK P s rs fun xs => Le2 X ⟨xs, s.H, []⟩ ⟨ys, H', []⟩ := nrfl rfl
theorem sh_n {s : St} {K : St → Prop} : shut P [] s K = K s := nrfl rfl
theorem sh_c {d : Nat} {ds : List Nat} {K : St → Prop} : shut P (d :: ds) ⟨T, H, D⟩ K = (hget H d = some (.dfr true) ∧ shut P ds ⟨T, hset H d (.dfr false), ds⟩ K) := nrfl rfl
theorem rc_s {st : LoopState} {fn : FuncId} {ps : Array Tmp} {asg body : Code} {d : Nat} {f : FuncId → List AV → Array Tmp → Code → Code → Nat → Prop} : recK st (some (.loop st none fn T ps asg body d)) f = f fn T ps asg body d := by simp [recK]
theorem ey_n {b : Nat} {y : Bool} {s : St} : endY X b y H' .normal s = recK .busy (hget s.H b) fun fn T ps asg body d => y = true ∧ Le2 X ⟨[], hset s.H b (.loop .ready none fn T ps asg body d), []⟩ ⟨[], H', []⟩ := nrfl rfl
theorem my_n [Base] {w0 : World} {l : Option Nat} {b : Nat} {body : Code} {y : Bool} {s : St} : midY P w0 l X b body y H' .normal s = recK .ready (hget s.H b) fun fn T ps asg body' d => AWP P w0 l X body ⟨s.T, hset s.H b (.loop .busy none fn T ps asg body' d), s.D⟩ (endY X b y H') := nrfl rfl
end
def mpC (m : List (Int × Int × Int)) : List (AV × AV) := m.map fun e => (.int .i64 e.1, .agg [.int .i64 e.2.1, .int .i64 e.2.2])
attribute [go_sem] rh_n rh_r sh_n sh_c rc_s ey_n my_n ABlk.dfr.injEq
end Go.Am

/- The abstract machine Am, part Y6: rewriting of what is done to maps. -/
namespace Go.Am
open Go.RowKit
def mapX (a : AV) (k : Nat → Prop) : Prop := match a with | .map b => k b | _ => False
@[congr] theorem mapX_congr {a a' : AV} {k : Nat → Prop} (h : a = a') : mapX a k = mapX a' k := by rw [h]
theorem mx_s {b : Nat} {k : Nat → Prop} : mapX (.map b) k = k b := nrfl rfl
def keyA (a : AV) (k : IntKind → Int → Prop) : Prop := match a with | .int kk n => k kk n | _ => False
def mupK (es : List (AV × AV)) (k v : AV) (f : List (AV × AV) → Prop) : Prop := match mapFind es k with | some (some (i, _)) => f (es.set i (k, v)) | some none => f (es ++ [(k, v)]) | none => False
@[congr] theorem mupK_congr {es : List (AV × AV)} {k k' v v' : AV} {f : List (AV × AV) → Prop} (h : k = k') (h' : v = v') : mupK es k v f = mupK es k' v' f := by rw [h, h']
def mgetK (es : List (AV × AV)) (k z : AV) (f : AV → Bool → Prop) : Prop := match mapFind es k with | some (some (_, v)) => f v true | some none => f z false | none => False
@[congr] theorem mgetK_congr {es : List (AV × AV)} {k k' z : AV} {f : AV → Bool → Prop} (h : k = k') : mgetK es k z f = mgetK es k' z f := by rw [h]
def mdelK (es : List (AV × AV)) (k : AV) (f : List (AV × AV) → Prop) : Prop := match mapFind es k with | some (some (i, _)) => f (es.eraseIdx i) | some none => f es | none => False
/-- The entries of a map, wherever it lies. -/
def mapY (H : List (Option ABlk)) (x : AV) (f : List (AV × AV) → List Nat → Prop) : Prop := mapOf x (hget H) f
@[congr] theorem mapY_congr {H : List (Option ABlk)} {x x' : AV} {f : List (AV × AV) → List Nat → Prop} (h : x = x') : mapY H x f = mapY H x' f := by rw [h]
theorem my_m {H : List (Option ABlk)} {b : Nat} {f : List (AV × AV) → List Nat → Prop} : mapY H (.map b) f = mapK (hget H b) fun es => f es [b] := by
  simp only [mapY, mapOf]
  cases hget H b with
  | none => rfl
  | some k => cases k <;> rfl
@[congr] theorem keyOK_congr {P : Program} {kt : TypeId} {k k' : AV} (h : k = k') : keyOK P kt k = keyOK P kt k' := by rw [h]
theorem ko_agg {P : Program} {kt : TypeId} {xs : List AV} : keyOK P kt (.agg xs) = (EqOK P kt ∧ tkb P kt = some (xs.map kindB)) := nrfl rfl
section
variable {P : Program} {all : Array Oper} {d : Option Tmp} {os : List Oper} {T : List AV} {H : List (Option ABlk)} {D : List Nat} {tr : List E} {K : St → List E → Prop}
theorem st_mapUp {t : TypeId} {x k v : Operand} : stepK P all (.mapUpdate t x k v) d os T H D tr K = optK (tmap P t) fun kv => mapX (aev T x) fun b => keyOK P kv.1 (aev T k) ∧ mapK (hget H b) fun es => mupK es (aev T k) (aev T v) fun es' =>
    evOps P all os ⟨lseto T d .junk, hset H b (.map es'), D⟩ (tr ++ [⟨.junk, [], some (b, .map es')⟩]) K := by
  simp only [stepK, effK]
  cases tmap P t with
  | none => rfl
  | some kv =>
    simp only [optK]
    cases aev T x <;> try rfl
theorem st_lookup {t : TypeId} {x k : Operand} {ok : Bool} : stepK P all (.lookup t x k ok) d os T H D tr K = optK (tmap P t) fun kv => optK (tzv P kv.2) fun z => keyOK P kv.1 (aev T k) ∧ zeroOK z = true ∧ mapY H (aev T x) fun es rd => mgetK es (aev T k) z fun v is =>
    goK P all d os T H D tr K (if ok then .tup [v, .bool is] else v) rd := by
  simp only [stepK, effK]
  cases tmap P t with
  | none => rfl
  | some kv =>
    simp only [optK]
    cases tzv P kv.2 with
    | none => rfl
    | some z => rfl
theorem st_delete {x k : Operand} {t t' : TypeId} : stepK P all (.call ⟨.builtin .delete, #[x, k], #[t, t']⟩) d os T H D tr K = mapX (aev T x) fun b => optK (tmap P t) fun kv => mapK (hget H b) fun es => (tint P kv.1).isSome = true ∧ keyA (aev T k) fun kk n => mdelK es (.int kk n) fun es' =>
    evOps P all os ⟨lseto T d .junk, hset H b (.map es'), D⟩ (tr ++ [⟨.junk, [], some (b, .map es')⟩]) K := by
  simp only [stepK, effK, builtinK, List.map_cons, List.map_nil]
  cases aev T x <;> try rfl
  simp only [mapX]
  cases tmap P t with
  | none => rfl
  | some kv =>
    simp only [optK]
    rename_i b
    cases hget H b with
    | none => rfl
    | some blk =>
      cases blk <;> try rfl
end
attribute [go_sem] mx_s my_m ko_agg st_mapUp st_lookup st_delete
end Go.Am

/- The abstract machine Am, part Y7: regions with calls that are handed blocks, by the place of the call; the rules of a range, laid for rewriting. -/
namespace Go.Am
open Go.RowKit
section
variable [Base] {P : Program} {w0 : World} {r : Option Nat} {X : Ctx} {s : St} {Q : Exit → St → Prop}
/-- A region, drawn or not, whose call at place n is handed blocks. -/
theorem awp_ownN (n : Nat) {id : Nat} {ops post : List Oper} {o : Oper} (e : ops.drop n = o :: post)
    (h : evOps P ops.toArray (ops.take n) s [] fun s1 _ => ownK P ops.toArray o s1 fun s2 => evOps P ops.toArray post s2 [] fun s3 _ => Q .normal s3) : AWP P w0 r X (.region id ops.toArray false) s Q :=
  awp_own (pre := ops.take n) (by rw [← e, List.take_append_drop]) h
/-- A range over a function: the code of the round is told under names alone. -/
theorem awp_rangeZ {g : Operand} {ps : Array Tmp} {asg body : Code} {gf : FuncId} {first caps : List AV} (hg : aev s.T g = .fn (.func gf) first caps) (n : Nat) (hn : s.H.length = n)
    (hs : ∀ a b, a = asg → b = body → ∃ y H' st pend e, SemF P gf (first ++ [.fn (.yield (n + 1)) [] []] ++ caps) (hset (hset s.H n (.dfr true)) (n + 1) (.loop .ready none 0 s.T ps a b n)) y H' ∧
      hget H' (n + 1) = some (.loop st pend 0 s.T ps a b n) ∧ st ≠ .busy ∧ jumpX pend = some e ∧ Q e ⟨s.T, hset H' (n + 1) (.loop .exhausted pend 0 s.T ps a b n), n :: s.D⟩) : AWP P w0 none X (.rangeFunc g ps asg body) s Q := by
  subst hn
  obtain ⟨y, H', st, pend, e, h1, h2, h3, h4, h5⟩ := hs asg body rfl rfl
  exact awp_range hg h1 h3 h2 h4 h5
end
theorem awp_code [Base] {P : Program} {w0 : World} {r : Option Nat} {X : Ctx} {s : St} {Q : Exit → St → Prop} {a c : Code} (e : a = c) (h : AWP P w0 r X c s Q) : AWP P w0 r X a s Q := e ▸ h
/-- A round, as a call. -/
theorem callH_yield {P : Program} {b : Nat} {as : List AV} {H : List (Option ABlk)} {K : AV → List (Option ABlk) → Prop} (y : Bool) (H' : List (Option ABlk)) (h : SemY P b as H (.bool y) H') (hk : K (.bool y) H') : CallH P (.fn (.yield b) [] []) as H K := ⟨.bool y, H', h, hk⟩
/-- A round's contract, its code told under names. -/
theorem semY_of_awpZ {P : Program} {b : Nat} {as : List AV} {H H' : List (Option ABlk)} {y : Bool} {fn : FuncId} {T : List AV} {ps : Array Tmp} {asg body : Code} {d : Nat}
    (hb : hget H b = some (.loop .ready none fn T ps asg body d)) {T1 : List AV} (hT1 : putArgs ps.toList as T = some T1)
    (h : ∀ [Base] (w0 : World) (l : Nat) (m : Nat → Option Loc) (w : World), AWP P w0 (some l) (Ctx.of H m w) asg ⟨T1, H, []⟩ (midY P w0 (some l) (Ctx.of H m w) b body y H')) : SemY P b as H (.bool y) H' := semY_of_awp hb hT1 h
theorem bl_l {q : Nat → Bool} {st : LoopState} {pend : Option Code} {fn : FuncId} {T : List AV} {ps : Array Tmp} {asg body : Code} {d : Nat} : blkLive q (.loop st pend fn T ps asg body d) = (T.all (live2 q) && q d) := nrfl rfl
theorem lv_y {q : Nat → Bool} {b : Nat} : live2 q (.fn (.yield b) [] []) = q b := by simp [live2, live1]
theorem rq_rd {P : Program} {rs : List ResultVar} {R : AV → Prop} {T : List AV} {H : List (Option ABlk)} {d : Nat} {ds : List Nat} : retQ P rs R .ret ⟨T, H, d :: ds⟩ = shut P (d :: ds) ⟨T, H, d :: ds⟩ fun s => resK P s rs fun xs => outs (hget s.H) xs fun ys => R (finAV ys) := nrfl rfl
attribute [go_sem] bl_l lv_y rq_rd
end Go.Am

/- The abstract machine Am, part Y8: a cut behind a loop that is left by an exit. -/
namespace Go.Am
open Go.RowKit
end Go.Am
