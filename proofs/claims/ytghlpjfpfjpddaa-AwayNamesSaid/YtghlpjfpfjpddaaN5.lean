/- Parts Yd of the proof, one behind the other. No statement is proved here. -/
import Derived.Test.YtghlpjfpfjpddaaN4
/- The abstract machine Am, part Yd: literals as lists of their own. -/
namespace Go.Am
open Go.RowKit
set_option linter.unusedSimpArgs false
set_option linter.unusedVariables false

/-- A literal as a list of its own. -/
def litK (P : Program) (op : Op) (ρ : Operand → AV) (nx : Nat) (K : E → Prop) : Prop := match op with
  | .buildSlice t len parts => (match tslice P t with
    | some e => (match tsz P e, tzero P e with
      | some sz, some zs => zs.length = sz ∧ 0 < sz ∧ 0 < len ∧ len * sz ≤ 16777216 ∧ (∀ x ∈ zs, cellPure x = true) ∧ (match afill (fun i => some (i * sz, sz)) (List.replicate len zs).flatten (parts.toList.map fun p => (p.1, ρ p.2)) with
        | some xs => xs.length = len * sz ∧ K ⟨.osl nx 0 0 len, [], some (nx, .cells e sz 0 xs)⟩
        | none => False)
      | _, _ => False)
    | none => False)
  | _ => False
section
variable [Base] {P : Program} {w0 : World} {r : Option Nat} {o : Oper} {ρ : Operand → AV} {h : Nat → Option ABlk} {nx : Nat} {K : E → Prop}
theorem sound_lit (hn : h nx = none) (hk : litK P o.op ρ nx K) : ∃ e, K e ∧ OpOK P w0 r o ρ h e := by
  unfold litK at hk
  split at hk
  · rename_i t len parts ho
    cases ht : tslice P t with
    | none => simp [ht] at hk
    | some e =>
      simp only [ht] at hk
      cases hs : tsz P e with
      | none => simp [hs] at hk
      | some sz =>
        cases hz : tzero P e with
        | none => simp [hs, hz] at hk
        | some zs =>
          simp only [hs, hz] at hk
          obtain ⟨hzl, hpos, hlen, hbig, hp, hk⟩ := hk
          cases hf : afill (fun i => some (i * sz, sz)) (List.replicate len zs).flatten (parts.toList.map fun p => (p.1, ρ p.2)) with
          | none => simp [hf] at hk
          | some xs =>
            simp only [hf] at hk
            obtain ⟨hxl, hk⟩ := hk
            refine ⟨_, hk, fun h' m w ac next Q _ hwr hg hop hnext => ?_⟩
            have hb' : h' nx = none := (hwr nx _ rfl).trans hn
            obtain ⟨zv, hzv, rfl, it, hit, hitz⟩ := tzero_spec hz
            have hzsz : zv.cells.size = sz := by simpa using hzl
            obtain ⟨vs, hfill, hr⟩ := fill_sound (h' := h') (m := m) (w := w) (place' := fun i => some (i * sz, sz)) (fun _ => rfl) ac.eval parts.toList _ xs _ hf ((zero_rep hp).flatten len) (fun p hpm => hop p.2 (by
              simp only [ho, Op.operands, List.mem_toArray, List.mem_map]
              exact ⟨p, hpm, rfl⟩))
            obtain ⟨g1, e1⟩ := good_new (t := e) (sz := sz) (rest := []) hg hb' (Below.refl _ w) hr
            simp only [List.append_nil] at g1 e1
            have hvl : vs.length = len * sz := by rw [← hxl]; exact hr.1.symm
            have hlm : len ≤ maxLen := by
              have : len * 1 ≤ len * sz := Nat.mul_le_mul_left _ hpos
              simp only [maxLen]; omega
            refine wp_val (by simp [ho]) ?_ (hnext _ _ _ g1 e1 (.osl (v := .slice (some ⟨w.heap.size, 0, none⟩) len len) (upd_same _ _ _) (Nat.le_refl _) rfl (fun _ => .inr ⟨_, len, upd_same _ _ _, rfl, Nat.le_refl _, by simp only; omega, hlm⟩)))
            have hz2 : ((Array.range (len * sz)).map (fun i => zv.cells[i % zv.cells.size]!)) = (List.replicate len zv.cells.toList).flatten.toArray := by
              apply Array.toList_inj.1
              rw [← hzsz, zeros_toList zv.cells len (by omega)]
            have hl0 : ¬ len * sz = 0 := by have := Nat.mul_pos hlen hpos; omega
            have hnb : ¬ (len * sz > 2 ^ 24) := by omega
            simp only [execOp, ho, Instr.buildSlice, Sem.run_bind, run_underlying (tslice_spec ht), Result.andThen_ok, tsz_spec hs, hnb, if_false, hl0, hzv, Sem.run_pure, hz2]
            have hf2 : Instr.fill (fun i => some (i * sz, sz)) (List.replicate len zv.cells.toList).flatten.toArray (parts.map fun (i, x) => (i, ac.eval x)).toList = some vs.toArray := by simpa using hfill
            simp only [hf2, newRow, Sem.run_bind, run_newObj, Result.andThen_ok, Sem.run_pure]
            rfl
  · exact hk.elim
end
/-- A region of which some operations (told by flags) are literals that become lists of their own. -/
def evOpsL (P : Program) (all : Array Oper) : List Bool → List Oper → St → List E → (St → List E → Prop) → Prop
  | true :: fs, o :: os, s, tr, K => guardOf all s.T o = some true ∧ litK P o.op (aev s.T) s.H.length fun e => evOpsL P all fs os ⟨lseto s.T o.dst e.val, hseto s.H e.wr, s.D⟩ (tr ++ [⟨e.val, e.rd, e.wr⟩]) K
  | false :: fs, o :: os, s, tr, K => evOps P all [o] s tr fun s' tr' => evOpsL P all fs os s' tr' K
  | _, os, s, tr, K => evOps P all os s tr K
section
variable [Base] {P : Program} {w0 : World} {r : Option Nat} {all : Array Oper}
theorem trace_app {i : Nat} {s s' s'' : St} {es fs : List E} (h : Trace P w0 r all i s es s') : Trace P w0 r all (i + es.length) s' fs s'' → Trace P w0 r all i s (es ++ fs) s'' := by
  induction h with
  | nil i s => intro h2; simpa using h2
  | run ho hg hok rest ih => intro h2; exact .run ho hg hok (ih (by rw [List.length_cons] at h2; rw [show ∀ a b : Nat, a + 1 + b = a + (b + 1) from fun a b => by omega]; exact h2))
  | skip ho hg rest ih => intro h2; exact .skip ho hg (ih (by rw [List.length_cons] at h2; rw [show ∀ a b : Nat, a + 1 + b = a + (b + 1) from fun a b => by omega]; exact h2))
theorem evL_trace : ∀ (fs : List Bool) (os : List Oper) (i : Nat) (s : St) (tr : List E) (K : St → List E → Prop), (∀ k, k < os.length → os[k]? = all[i + k]?) → evOpsL P all fs os s tr K →
    ∃ es s', Trace P w0 r all i s es s' ∧ es.length = os.length ∧ K s' (tr ++ es)
  | [], os, i, s, tr, K, hos, hk => ev_trace os i s tr K hos (by simpa [evOpsL] using hk)
  | true :: fs, [], i, s, tr, K, hos, hk => ev_trace [] i s tr K hos (by simpa [evOpsL] using hk)
  | false :: fs, [], i, s, tr, K, hos, hk => ev_trace [] i s tr K hos (by simpa [evOpsL] using hk)
  | true :: fs, o :: os, i, s, tr, K, hos, hk => by
    have ho : all[i]? = some o := by have := hos 0 (by simp); simpa using this.symm
    have hos' : ∀ k, k < os.length → os[k]? = all[i + 1 + k]? := fun k hk => by have := hos (k + 1) (by simpa using hk); simp only [List.getElem?_cons_succ] at this; rw [this]; congr 1; omega
    simp only [evOpsL] at hk
    obtain ⟨hg, hk⟩ := hk
    obtain ⟨e, hk, hok⟩ := sound_lit (w0 := w0) (r := r) (hget_length s.H _ (Nat.le_refl _)) hk
    obtain ⟨es, s', h1, h2, h3⟩ := evL_trace fs os (i + 1) _ _ K hos' hk
    exact ⟨e :: es, s', .run ho hg hok h1, by simp [h2], by simpa using h3⟩
  | false :: fs, o :: os, i, s, tr, K, hos, hk => by
    have ho : all[i]? = some o := by have := hos 0 (by simp); simpa using this.symm
    have hos' : ∀ k, k < os.length → os[k]? = all[i + 1 + k]? := fun k hk => by have := hos (k + 1) (by simpa using hk); simp only [List.getElem?_cons_succ] at this; rw [this]; congr 1; omega
    simp only [evOpsL] at hk
    obtain ⟨e1, s1, t1, l1, hk⟩ := ev_trace (w0 := w0) (r := r) [o] i s tr _ (fun k hk1 => by
      simp only [List.length_singleton] at hk1
      have : k = 0 := by omega
      subst this; simpa using ho.symm) hk
    obtain ⟨es, s', h1, h2, h3⟩ := evL_trace fs os (i + 1) _ _ K hos' hk
    refine ⟨e1 ++ es, s', trace_app t1 (by rw [l1]; exact h1), by rw [List.length_append, l1, h2]; simp; omega, by rw [List.append_assoc] at h3; exact h3⟩
variable {X : Ctx} {s : St} {Q : Exit → St → Prop}
theorem awp_regionL (fs : List Bool) {id : Nat} {ops : List Oper} (h : evOpsL P ops.toArray fs ops s [] fun s' _ => Q .normal s') : AWP P w0 r X (.region id ops.toArray false) s Q := by
  intro a w ⟨ex, hex, hs⟩
  obtain ⟨es, s', ht, hl, hk⟩ := evL_trace (w0 := w0) (r := r) fs ops 0 s [] _ (fun k _ => by simp) h
  refine wpIn_region ?_
  have := trace_seq2 (Z := X.Z) (mz := X.mz) (wz := X.wz) (Q := fun e a' w' => ∃ s', Q e s' ∧ SatC w0 X s' a' w') ht.two (fun a w hs => ⟨s', hk, ex, hex, hs⟩) a w hs
  rw [List.length_map, hl] at this
  simpa [List.range_eq_range'] using this
end
section
variable {P : Program} {all : Array Oper} {fs : List Bool} {os : List Oper} {T : List AV} {H : List (Option ABlk)} {D : List Nat} {s : St} {tr : List E} {K : St → List E → Prop} {d : Option Tmp} {ty : TypeId} {ps : String} {af : Array Edge}
theorem eL_n : evOpsL P all [] os s tr K = evOps P all os s tr K := by cases os <;> rfl
theorem eL_f {o : Oper} : evOpsL P all (false :: fs) (o :: os) s tr K = evOps P all [o] s tr fun s' tr' => evOpsL P all fs os s' tr' K := nrfl rfl
theorem eL_t {t : TypeId} {len : Nat} {parts : Array (Nat × Operand)} : evOpsL P all (true :: fs) (⟨d, .buildSlice t len parts, ty, ps, af, none⟩ :: os) ⟨T, H, D⟩ tr K = optK (tslice P t) fun e => optK (tsz P e) fun sz => optK (tzero P e) fun zs =>
    zs.length = sz ∧ 0 < sz ∧ 0 < len ∧ len * sz ≤ 16777216 ∧ pureL zs ∧ optK (afill (fun i => some (i * sz, sz)) (List.replicate len zs).flatten (parts.toList.map fun p => (p.1, aev T p.2))) fun xs => xs.length = len * sz ∧
      evOpsL P all fs os ⟨lseto T d (.osl H.length 0 0 len), hset H H.length (.cells e sz 0 xs), D⟩ (tr ++ [⟨.osl H.length 0 0 len, [], some (H.length, .cells e sz 0 xs)⟩]) K := by
  simp only [evOpsL, litK]
  have hg : (guardOf all T ⟨d, .buildSlice t len parts, ty, ps, af, none⟩ = some true) = True := by simp [guardOf]
  rw [hg, true_and]
  cases tslice P t with
  | none => rfl
  | some e =>
    simp only [optK]
    cases tsz P e with
    | none => rfl
    | some sz =>
      cases tzero P e with
      | none => rfl
      | some zs =>
        simp only [pureL]
        cases afill (fun i => some (i * sz, sz)) (List.replicate len zs).flatten (parts.toList.map fun p => (p.1, aev T p.2)) <;> rfl
end
end Go.Am
