/- The abstract machine Am, part X4: the machine that runs is sound: operations and regions. -/
import Derived.Test.YtnjommobapmgbaaX3
import Derived.RangeFuncRecord
namespace Go.Am
open Go.RowKit

/-! ### What is written -/
structure Frm (H H' : List (Option ABlk)) (W : List Nat) : Prop where
  same : ∀ b, b ∉ W → hget H' b = hget H b
  some : ∀ b, b ∈ W → ∃ k, hget H' b = some k

theorem Frm.refl (H : List (Option ABlk)) : Frm H H [] := ⟨fun _ _ => rfl, fun b hb => by simp at hb⟩
theorem Frm.trans {H H' H'' : List (Option ABlk)} {W W' : List Nat} (a : Frm H H' W) (b : Frm H' H'' W') : Frm H H'' (W ++ W') := by
  refine ⟨fun c hc => ?_, fun c hc => ?_⟩
  · simp only [List.mem_append, not_or] at hc
    exact (b.same c hc.2).trans (a.same c hc.1)
  · by_cases h : c ∈ W'
    · exact b.some c h
    · rw [b.same c h]
      rcases List.mem_append.1 hc with h1 | h1
      · exact a.some c h1
      · exact absurd h1 h
theorem Frm.set (H : List (Option ABlk)) (b : Nat) (k : ABlk) : Frm H (hset H b k) [b] := by
  refine ⟨fun c hc => ?_, fun c hc => ?_⟩
  · rw [hget_set, if_neg (by simpa using hc)]
  · rw [hget_set, if_pos (by simpa using hc)]; exact ⟨k, rfl⟩
theorem Frm.congr {H H' : List (Option ABlk)} {W W' : List Nat} (a : Frm H H' W) (h : ∀ b, b ∈ W ↔ b ∈ W') : Frm H H' W' :=
  ⟨fun b hb => a.same b (fun h' => hb ((h b).1 h')), fun b hb => a.some b ((h b).2 hb)⟩

theorem wrote_keys : ∀ (l : List (Nat × ABlk)) (b : Nat), wrote b l = true ↔ b ∈ wkeys l
  | [], b => by simp [wrote, wkeys]
  | (c, k) :: l, b => by
    simp only [wrote, wkeys, Bool.or_eq_true, wrote_keys l b, List.mem_cons]
    constructor
    · rintro (h | h)
      · exact .inl (Nat.eq_of_beq_eq_true h).symm
      · exact .inr h
    · rintro (h | h)
      · subst h; exact .inl (by simp)
      · exact .inr h
theorem wlog_at (H' : List (Option ABlk)) : ∀ (W : List Nat) (f : Nat → Option ABlk) (b : Nat), (∀ c, c ∈ W → ∃ k, hget H' c = some k) → updl f (wlog H' W) b = if b ∈ W then hget H' b else f b
  | [], f, b, _ => by simp [wlog, updl]
  | c :: W, f, b, h => by
    obtain ⟨k, hk⟩ := h c (by simp)
    simp only [wlog, hk, updl]
    rw [wlog_at H' W _ b (fun d hd => h d (by simp [hd]))]
    by_cases hb : b ∈ W
    · simp [hb]
    · by_cases hc : b = c
      · subst hc; simp [hb, upd_same, hk]
      · simp [hb, hc, upd_ne]
theorem wlog_upd {H H' : List (Option ABlk)} {W : List Nat} (f : Frm H H' W) : hget H' = updl (hget H) (wlog H' W) := by
  funext b
  rw [wlog_at H' W _ b f.some]
  split
  · rfl
  · exact f.same b ‹_›
theorem wlog_keys {H' : List (Option ABlk)} : ∀ {W : List Nat}, (∀ c, c ∈ W → ∃ k, hget H' c = some k) → wkeys (wlog H' W) = W
  | [], _ => rfl
  | c :: W, h => by
    obtain ⟨k, hk⟩ := h c (by simp)
    simp only [wlog, hk, wkeys]
    rw [wlog_keys (fun d hd => h d (by simp [hd]))]

/-! ### Calls -/
/-- What a function does, with all blocks. -/
def SemF (P : Program) (g : FuncId) (as : List AV) (H : List (Option ABlk)) (r : AV) (H' : List (Option ABlk)) : Prop :=
  Enters P g ∧ ∀ [Base] (w0 : World) (m : Nat → Option Loc) (w : World) (vs : List Value), Good w0 (hget H) m w → as.length = vs.length → (∀ j (a : j < as.length) (b : j < vs.length), Rep (hget H) m w as[j] vs[j]) →
    CallsIn (FW none) 0 P g vs.toArray w fun e w' => ∃ v m', e = .returned v ∧ Good w0 (hget H') m' w' ∧ Ext (hget H) m w (hget H') m' w' ∧ Rep (hget H') m' w' r v
/-- What a round does. -/
def SemY (P : Program) (b : Nat) (as : List AV) (H : List (Option ABlk)) (r : AV) (H' : List (Option ABlk)) : Prop :=
  ∀ [Base] (w0 : World) (m : Nat → Option Loc) (w : World) (vs : List Value) (l : Loc), Good w0 (hget H) m w → m b = some l → as.length = vs.length → (∀ j (a : j < as.length) (b : j < vs.length), Rep (hget H) m w as[j] vs[j]) →
    ∃ fn tm asg body, (Instr.yield l.c vs.toArray).run P w = .ok (.round l.c fn tm asg body) w ∧ RoundIn (FW none) 0 P l.c fn tm asg body w fun e w' => ∃ v m', e = .returned v ∧ Good w0 (hget H') m' w' ∧ Ext (hget H) m w (hget H') m' w' ∧ Rep (hget H') m' w' r v
def Sem (P : Program) (fv : AV) (as : List AV) (H : List (Option ABlk)) (r : AV) (H' : List (Option ABlk)) : Prop :=
  match fv with
  | .fn (.func g) first caps => SemF P g (first ++ as ++ caps) H r H'
  | .fn (.yield b) [] [] => SemY P b as H r H'
  | _ => False
def CvOK (P : Program) (cv : Cv) : Prop := ∀ fv as H r H' W, cv fv as H = some (r, H', W) → Frm H H' W ∧ Sem P fv as H r H'

section
variable [Base] {P : Program} {w0 : World} {h : Nat → Option ABlk} {m : Nat → Option Loc} {w : World}

theorem rep_yld {b : Nat} {xs ys : List AV} {v : Value} (r : Rep h m w (.fn (.yield b) xs ys) v) : xs = [] ∧ ys = [] ∧ ∃ l, m b = some l ∧ v = .func (.yield l.c) #[] #[] := by
  cases r with
  | pure p => cases p with | fn us vs hf => exact absurd rfl (hf b)
  | yld hb hk hm => exact ⟨rfl, rfl, _, hm, rfl⟩
  | fn us vs hf => exact absurd rfl (hf b)

omit [Base] in
theorem wp_round {r : Option Nat} {o : Oper} {a : Act} {l : Nat} {fn : FuncId} {tm : Array Value} {asg body : Code} {next : Act → World → Prop} {Q : Exit → Act → World → Prop} {R : Ending → World → Prop} (hnd : ∀ c, o.op ≠ .defer c)
    (hrun : (execOp a.eval o).run P w = .ok (.round l fn tm asg body) w) (hc : RoundIn (FW none) 0 P l fn tm asg body w R) (hR : ∀ e w', R e w' → ∃ v, e = .returned v ∧ next (a.put o.dst v) w') : o.wpIn (FW r) 0 P a w next Q := by
  refine ⟨fun _ _ => trivial, ?_⟩
  rw [Oper.semAt_eq _ _ _ hnd, hrun, Oper.uponIn_round]
  refine ⟨fun hh => by simp [FW] at hh, ?_⟩
  have hc' : RoundIn (FW r) 0 P l fn tm asg body w R := hc
  refine hc'.mono fun e w' he => ?_
  obtain ⟨v, rfl, hv⟩ := hR e w' he
  exact hv

/-- A call as an operation. -/
theorem call_ok {r : Option Nat} {o : Oper} {f : Operand} {args : Array Operand} {ts : Array TypeId} {T : List AV} {H H' : List (Option ABlk)} {W : List Nat} {y : AV} (ho : o.op = .call ⟨.value f, args, ts⟩)
    (hf : Frm H H' W) (hs : Sem P (aev T f) (args.toList.map (aev T)) H y H') : OpOK2 P w0 r o (aev T) (hget H) ⟨y, [], wlog H' W, true⟩ := by
  intro h' m w ac next Q _ _ hall hg hop hnext
  have hh := hall rfl
  subst hh
  simp only at hnext
  rw [← wlog_upd hf] at hnext
  have h1 := hop f (by simp [ho, Op.operands, Call.operands])
  have hargs : ∀ j (a : j < (args.toList.map (aev T)).length) (c : j < (args.toList.map ac.eval).length), Rep (hget H) m w (args.toList.map (aev T))[j] (args.toList.map ac.eval)[j] := by
    intro j a c
    simp only [List.getElem_map]
    exact hop _ (by simp [ho, Op.operands, Call.operands])
  generalize hfv : aev T f = fv at *
  match fv, hs with
  | .fn (.func g) first caps, hs =>
    obtain ⟨us, vs, he, l1, l2, r1, r2⟩ := rep_fn h1
    have hlen : (first ++ args.toList.map (aev T) ++ caps).length = (us ++ args.toList.map ac.eval ++ vs).length := by simp [l1, l2]
    have hreps := getElem_append3 l1 (by simp) r1 hargs r2
    have hc := hs.2 w0 m w (us ++ args.toList.map ac.eval ++ vs) hg hlen hreps
    have hrun : (execOp ac.eval o).run P w = .ok (.enter g (us ++ args.toList.map ac.eval ++ vs).toArray) w := by
      have e1 : us.toArray ++ args.map ac.eval ++ vs.toArray = (us ++ args.toList.map ac.eval ++ vs).toArray := by
        apply Array.toList_inj.1; simp
      simp only [execOp, ho, resolve, he, Deferred.ofValue, Sem.run_bind, Sem.run_pure, Result.andThen_ok, invoke]
      rw [e1]
      exact hs.1 w _
    refine wp_call (by simp [ho]) hrun hc (fun e w' hR => ?_)
    obtain ⟨v, m', rfl, g1, e1, rr⟩ := hR
    exact ⟨v, rfl, hnext v w' m' g1 e1 rr⟩
  | .fn (.yield b) [] [], hs =>
    obtain ⟨_, _, l, hl, he⟩ := rep_yld h1
    obtain ⟨fn, tm, asg, body, hy, hr⟩ := hs w0 m w (args.toList.map ac.eval) l hg hl (by simp) hargs
    have hrun : (execOp ac.eval o).run P w = .ok (.round l.c fn tm asg body) w := by
      have e1 : (#[] : Array Value) ++ args.map ac.eval = (args.toList.map ac.eval).toArray := by
        apply Array.toList_inj.1; simp
      simp only [execOp, ho, resolve, he, Deferred.ofValue, Sem.run_bind, Sem.run_pure, Result.andThen_ok, invoke]
      rw [e1]
      exact hy
    refine wp_round (by simp [ho]) hrun hr (fun e w' hR => ?_)
    obtain ⟨v, m', rfl, g1, e1, rr⟩ := hR
    exact ⟨v, rfl, hnext v w' m' g1 e1 rr⟩

/-! ### Results -/
omit [Base] in
theorem mapO_some {f : AV → Option AV} : ∀ {xs ys : List AV}, mapO f xs = some ys → ys.length = xs.length ∧ ∀ j (a : j < xs.length) (b : j < ys.length), f xs[j] = some ys[j]
  | [], ys, h => by simp [mapO] at h; subst h; exact ⟨rfl, fun j a => by simp at a⟩
  | x :: xs, ys, h => by
    simp only [mapO] at h
    split at h
    · rename_i y hy
      split at h
      · rename_i zs hz
        cases h
        obtain ⟨h1, h2⟩ := mapO_some hz
        refine ⟨by simp [h1], fun j a b => ?_⟩
        cases j with
        | zero => exact hy
        | succ j => exact h2 j (by simpa using a) (by simpa using b)
      · cases h
    · cases h

theorem outX_sound : ∀ (n : Nat) {x y : AV} {v : Value}, outX h n x = some y → Good w0 h m w → Rep h m w x v → PRep (OkB w) w y v ∧ v.oneCell' = true := by
  intro n
  induction n with
  | zero =>
    intro x y v hx hg hr
    simp only [outX] at hx
    split at hx
    · rename_i hp; cases hx; exact ⟨ok_okB (prep_pure hr hp), one_of_pure hr hp⟩
    · cases hx
  | succ n ih =>
    intro x y v hx hg hr
    simp only [outX] at hx
    split at hx
    · rename_i b g off len
      split at hx
      · rename_i t sz g' xs hb
        split at hx
        · rename_i hc
          obtain ⟨rfl, rfl⟩ := hc
          split at hx
          · rename_i ys hys
            cases hx
            obtain ⟨h1, h2⟩ := mapO_some hys
            rcases rep_osl hr hb with ⟨hm, _, rfl, rfl⟩ | ⟨l, cap, hm, rfl, hc1, hc2, hc3⟩
            · rcases hg.blk b _ hb with ⟨_, h2⟩ | ⟨l', arr, h2, _⟩
              · subst h2
                have : ys = [] := List.eq_nil_of_length_eq_zero (by simpa using h1)
                subst this
                exact ⟨.psle (Nat.le_refl _) (by simp) (by simp), rfl⟩
              · rw [hm] at h2; cases h2
            · obtain ⟨arr, hheap, hasz, hlen, vs, hvs, hcell, hrep⟩ := blk_cells hg hb hm
              refine ⟨.psl vs hc1 (by simp) ⟨hg.fresh _ (hg.base b l hm), hg.lt hm⟩ (fun j hj => hcell j (by omega)) (fun j hj => ?_), rfl⟩
              exact (ih (h2 j (by omega) hj) hg (hrep j (by omega))).1
          · cases hx
        · cases hx
      · cases hx
    · split at hx
      · rename_i hp; cases hx; exact ⟨ok_okB (prep_pure hr hp), one_of_pure hr hp⟩
      · cases hx

theorem outAX_sound {x y : AV} {v : Value} (hx : outAX h x = some y) (hg : Good w0 h m w) (hr : Rep h m w x v) : PRep (OkB w) w y v := by
  unfold outAX at hx
  split at hx
  · obtain ⟨ys, hys, rfl⟩ := map_some hx
    obtain ⟨us, rfl, l1, l2, l3⟩ := rep_agg hr
    obtain ⟨h1, h2⟩ := mapO_some hys
    exact .agg us (by omega) l2 (fun j a b => (outX_sound 3 (h2 j (by omega) a) hg (l3 j (by omega) b)).1)
  · exact (outX_sound 3 hx hg hr).1
theorem outRX_sound {x y : AV} {v : Value} (hx : outRX h x = some y) (hg : Good w0 h m w) (hr : Rep h m w x v) : PRep (OkB w) w y v := by
  unfold outRX at hx
  split at hx
  · obtain ⟨ys, hys, rfl⟩ := map_some hx
    obtain ⟨us, rfl, l1, l3⟩ := rep_tup hr
    obtain ⟨h1, h2⟩ := mapO_some hys
    exact .tup us (by omega) (fun j a b => outAX_sound (h2 j (by omega) a) hg (l3 j (by omega) b))
  · exact outAX_sound hx hg hr
end

/-- A call with no blocks is a pure one. -/
theorem callS_of_semF {P : Program} {g : FuncId} {as : List AV} {r y : AV} {H' : List (Option ABlk)} (hs : SemF P g as [] r H') (ho : outRX (hget H') r = some y) : CallS P g as y := by
  refine ⟨hs.1, fun w vs ok hok hlen hrep => ?_⟩
  letI : Base := ⟨fun c => ok c ∨ w.heap.size ≤ c⟩
  have hg : Good w (hget []) (fun _ => none) w := ⟨Below.refl _ _, by simp, by simp, by simp, fun b k hk => by simp [hget] at hk, fun b st pend fn T ps asg body d hk => by simp [hget] at hk, fun c hc => .inr hc⟩
  refine (hs.2 w (fun _ => none) w vs hg hlen (fun j a b => .pure ((hrep j a b).mono (fun _ _ => rfl) (fun c hc => ⟨hok c hc, by simp, .inl hc⟩)))).mono ?_
  rintro e w' ⟨v, m', rfl, g1, e1, rr⟩
  refine ⟨v, rfl, (outRX_sound ho g1 rr).mono (fun _ _ => rfl) (fun c hc => ?_), g1.below⟩
  rcases hc with ⟨h1 | h1, h2⟩
  · exact .inl h1
  · exact .inr ⟨h1, h2⟩

section
variable [Base] {P : Program} {w0 : World} {r : Option Nat} {eqt : TypeId → Bool} {pm : FuncId → Bool} {cv : Cv}

/-- ONE OPERATION. -/
theorem opX_sound (he : ∀ t, eqt t = true → EqOK P t) (hcv : CvOK P cv) {o : Oper} {s : St} {e : Ef} {H' : List (Option ABlk)} (hx : opX P eqt pm cv o s = some (e, H')) :
    OpOK2 P w0 r o (aev s.T) (hget s.H) e ∧ hget H' = updl (hget s.H) e.wr ∧ ∀ b, b ∈ wkeys e.wr → ∃ k, hget H' b = some k := by
  have call : ∀ {f : Operand} {args : Array Operand} {ts : Array TypeId}, o.op = .call ⟨.value f, args, ts⟩ → callX cv (aev s.T f) (args.toList.map (aev s.T)) s.H = some (e, H') →
      OpOK2 P w0 r o (aev s.T) (hget s.H) e ∧ hget H' = updl (hget s.H) e.wr ∧ ∀ b, b ∈ wkeys e.wr → ∃ k, hget H' b = some k := by
    intro f args ts ho hx
    unfold callX at hx
    split at hx
    · rename_i y H1 W hc
      cases hx
      obtain ⟨hf, hs⟩ := hcv _ _ _ _ _ _ hc
      refine ⟨call_ok ho hf hs, wlog_upd hf, fun b hb => ?_⟩
      simp only [wlog_keys hf.some] at hb
      exact hf.some b hb
    · cases hx
  have plain : (match effX P eqt o (aev s.T) (hget s.H) s.H.length with
      | some e => some (lift e, hseto s.H e.wr)
      | none => none) = some (e, H') → OpOK2 P w0 r o (aev s.T) (hget s.H) e ∧ hget H' = updl (hget s.H) e.wr ∧ ∀ b, b ∈ wkeys e.wr → ∃ k, hget H' b = some k := by
    intro hx
    split at hx
    · rename_i e0 he0
      cases hx
      obtain ⟨e1, rfl, hok⟩ := effK_sound (w0 := w0) (r := r) (K := fun e => e = e0) (hget_length s.H _ (Nat.le_refl _)) (effX_sound he he0 rfl)
      refine ⟨hok.lift, ?_, ?_⟩
      · obtain ⟨val, rd, wr⟩ := e1
        cases wr with
        | none => rfl
        | some p => obtain ⟨b, k⟩ := p; funext i; simp only [lift, hseto, updl, upd, hget_set]
      · obtain ⟨val, rd, wr⟩ := e1
        intro b hb
        cases wr with
        | none => simp [lift, wkeys] at hb
        | some p =>
          obtain ⟨c, k⟩ := p
          simp only [lift, wkeys, List.mem_cons, List.not_mem_nil, or_false] at hb
          subst hb
          exact ⟨k, by simp [hseto, hget_set]⟩
    · cases hx
  unfold opX at hx
  split at hx
  · rename_i f args ts ho
    split at hx
    · rename_i g first caps hfv
      split at hx
      · rename_i hp
        split at hx
        · rename_i y hy
          cases hx
          refine ⟨?_, rfl, fun b hb => by simp [wkeys] at hb⟩
          unfold pcallX at hy
          split at hy
          · rename_i y0 H1 W hc
            obtain ⟨_, hs⟩ := hcv _ _ _ _ _ _ hc
            have hs' : SemF P g (first ++ args.toList.map (aev s.T) ++ caps) [] y0 H1 := by simpa [Sem] using hs
            have hcall := callS_of_semF hs' hy
            obtain ⟨e1, rfl, hok⟩ := sound_call (w0 := w0) (r := r) (ρ := aev s.T) (h := hget s.H) (nx := 0) (K := fun e => e = ⟨y, [], none⟩) ho (by
              simp only [effK, ho, hfv]
              exact ⟨List.all_eq_true.1 hp.2, y, hcall, rfl⟩)
            exact hok.lift
          · cases hy
        · cases hx
      · rw [← hfv] at hx; exact call ho hx
    · exact call ho hx
  · exact plain hx

omit [Base] in
theorem updl_keys {f : Nat → Option ABlk} {l : List (Nat × ABlk)} {b : Nat} (hb : b ∉ wkeys l) : updl f l b = f b :=
  updl_not l f b (by cases hw : wrote b l with | false => rfl | true => exact absurd ((wrote_keys l b).1 hw) hb)

theorem xops_sound (he : ∀ t, eqt t = true → EqOK P t) (hcv : CvOK P cv) {all : Array Oper} : ∀ (os : List Oper) (i : Nat) (s s' : St) (es : List Ef), (∀ k, os[k]? = all[i + k]?) → xops P eqt pm cv all os s = some (s', es) →
    Trace2 P w0 r all i s.f es s'.f ∧ es.length = os.length ∧ Frm s.H s'.H (wall es) ∧ s'.D = s.D ∧ s'.T.length = s.T.length
  | [], i, s, s', es, _, hx => by
    simp only [xops, Option.some.injEq, Prod.mk.injEq] at hx
    obtain ⟨rfl, rfl⟩ := hx
    exact ⟨.nil i _, rfl, Frm.refl _, rfl, rfl⟩
  | o :: os, i, s, s', es, hos, hx => by
    have ho : all[i]? = some o := by have := hos 0; simpa using this.symm
    have hos' : ∀ k, os[k]? = all[i + 1 + k]? := fun k => by have := hos (k + 1); simp at this; rw [this]; congr 1; omega
    simp only [xops] at hx
    split at hx
    · rename_i hg
      split at hx
      · rename_i e H' hop
        obtain ⟨h1, h2, h3⟩ := opX_sound (w0 := w0) (r := r) he hcv hop
        split at hx
        · rename_i s1 es1 hrest
          simp only [Option.some.injEq, Prod.mk.injEq] at hx
          obtain ⟨rfl, rfl⟩ := hx
          obtain ⟨t1, t2, t3, t4, t5⟩ := xops_sound he hcv os (i + 1) _ _ _ hos' hrest
          refine ⟨.run (s := s.f) ho hg h1 ?_, by simp [t2], ?_, t4, by rw [t5]; exact lseto_length _ _ _⟩
          · have : (⟨lseto s.T o.dst e.val, H', s.D⟩ : St).f = ⟨lseto s.f.T o.dst e.val, updl s.f.h e.wr, s.f.D⟩ := by
              simp only [St.f]; rw [h2]
            rw [← this]; exact t1
          · refine Frm.trans (H' := H') ⟨fun b hb => ?_, h3⟩ t3
            rw [h2]; exact updl_keys hb
        · cases hx
      · cases hx
    · rename_i hg
      split at hx
      · rename_i s1 es1 hrest
        simp only [Option.some.injEq, Prod.mk.injEq] at hx
        obtain ⟨rfl, rfl⟩ := hx
        obtain ⟨t1, t2, t3, t4, t5⟩ := xops_sound he hcv os (i + 1) _ _ _ hos' hrest
        exact ⟨.skip (s := s.f) ho hg t1, by simp [t2], by simpa [wall, wkeys] using t3, t4, by rw [t5]; exact lseto_length _ _ _⟩
      · cases hx
    · cases hx

/-- In the order of the text. -/
theorem trace_seq2 {all : Array Oper} {Z : Nat → Option ABlk} {mz : Nat → Option Loc} {wz : World} {Q : Exit → Act → World → Prop} : ∀ {i : Nat} {s s' : Sf} {es : List Ef}, Trace2 P w0 r all i s es s' → (∀ a w, SatX w0 Z mz wz s' a w → Q .normal a w) → ∀ a w, SatX w0 Z mz wz s a w →
    wpOpsIn (FW r) 0 P all Q (List.range' i es.length) a w := by
  intro i s s' es ht hQ
  induction ht with
  | nil i s => intro a w hs; exact hQ a w hs
  | run ho hg hok rest ih =>
    rename_i i s s' o e es
    intro a w ⟨m, hs, hext⟩
    simp only [List.length_cons, List.range'_succ]
    rw [wpOpsIn_cons]
    unfold wpOpIn
    simp only [ho]
    rw [guard_wanted hs rfl hg (fun _ _ _ _ _ _ => rfl), if_pos rfl]
    refine hok _ m w a _ Q (fun _ _ => rfl) (fun _ _ => rfl) (fun _ => rfl) hs.good (fun x _ => hs.eval s.T rfl x (fun _ _ _ => rfl)) (fun v w' m' g1 e1 r1 => ih hQ _ _ ⟨m', ?_, hext.trans e1⟩)
    simp only [lseto_length]
    refine hs.put g1 e1 r1 (fun j hj => ?_)
    cases hd : o.dst with
    | none => simp [lseto]
    | some d => simp only [lseto, lget_set, Option.some.injEq, hj, and_true]
  | skip ho hg rest ih =>
    rename_i i s s' o es
    intro a w ⟨m, hs, hext⟩
    simp only [List.length_cons, List.range'_succ]
    rw [wpOpsIn_cons]
    unfold wpOpIn
    simp only [ho]
    rw [guard_wanted hs rfl hg (fun _ _ _ _ _ _ => rfl), if_neg (by simp)]
    refine ⟨fun _ _ => trivial, ih hQ _ _ ⟨m, ?_, hext⟩⟩
    simp only [lseto_length]
    refine hs.put hs.good (Ext.refl _ _ _) rep_undef (fun j hj => ?_)
    cases hd : o.dst with
    | none => simp [lseto]
    | some d => simp only [lseto, lget_set, Option.some.injEq, hj, and_true]
end
end Go.Am
