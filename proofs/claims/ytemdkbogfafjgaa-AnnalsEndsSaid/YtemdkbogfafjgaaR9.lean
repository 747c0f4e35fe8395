/- Parts Yg, UeJ, UfN, UgN, UhN of the proof, one behind the other. No statement is proved here. -/
import Derived.Test.YtemdkbogfafjgaaR3
import Derived.Test.YtemdkbogfafjgaaR6
import Derived.Test.YtemdkbogfafjgaaR8
import Derived.Test.YtemdkbogfafjgaaR4
/- The abstract machine Am, part Yg: operations of some regions that are told one by one: an array's slice by its pointer, an own list against nil, an own list behind an empty literal. -/
namespace Go.Am
open Go.RowKit
set_option linter.unusedSimpArgs false
set_option linter.unusedVariables false
variable [Base]
section
variable {P : Program} {w0 : World} {r : Option Nat} {o : Oper} {ρ : Operand → AV} {h : Nat → Option ABlk}
/-- The first elements of an array that ends within its block. -/
theorem sound_arr {t : TypeId} {x hi : Operand} (ho : o.op = .slice t x none (some hi) none) {n : Nat} {e : TypeId} (ht : tarr P t = some (n, e)) {sz : Nat} (hs : tsz P e = some sz) {b g off : Nat} (hx : ρ x = .ptr b g off) {t' : TypeId} {xs : List AV}
    (hb : h b = some (.cells t' sz g xs)) (hl : off + n * sz ≤ xs.length) {k : IntKind} {u : Nat} (hu : ρ hi = .int k u) (hun : u ≤ n) (hn : n ≤ maxLen) : OpOK P w0 r o ρ h ⟨.osl b g off u, [b], none⟩ := by
  refine ok_pure (by simp [ho]) fun h' m w ac hrd hg hop => ?_
  have hb' : h' b = some (.cells t' sz g xs) := (hrd b (by simp)).trans hb
  have h1 := hop x (by simp [ho, Op.operands]); rw [hx] at h1
  have h2 := hop hi (by simp [ho, Op.operands]); rw [hu] at h2
  obtain ⟨l, hm, hv⟩ := rep_ptr h1 hb'
  obtain ⟨arr, _, hasz, hlen, _⟩ := blk_cells hg hb' hm
  have hv2 := rep_int h2
  have hbb : (Instr.sliceBounds false n n none (some (ac.eval hi)) none).run P w = .ok (0, u, n) w := by
    simp [Instr.sliceBounds, hv2, Instr.sliceBound, asIntOf, hun]
  have ha : (⟨l.c, off, none⟩ : Addr).add (0 * sz) = ⟨l.c, off, none⟩ := by rw [addr_add, Nat.zero_mul, Nat.add_zero]
  refine ⟨.slice (some ⟨l.c, off, none⟩) u n, ?_, .osl hb' (Nat.le_refl _) rfl (fun _ => .inr ⟨l, n, hm, rfl, hun, by omega, hn⟩)⟩
  have hif : (if n = 0 then (⟨l.c, off, none⟩ : Addr) else (⟨l.c, off, none⟩ : Addr).add (0 * sz)) = ⟨l.c, off, none⟩ := by
    split
    · rfl
    · exact ha
  simp only [execOp, ho, hv, Instr.sliceAt, Sem.run_bind, run_underlying (tarr_spec ht), Result.andThen_ok, Instr.sureAddr, Option.map_some, Option.map_none, hbb, tsz_spec hs, Sem.run_pure, hif, Nat.sub_zero]
/-- A list that is not nil against nil. -/
theorem sound_nil {t t2 : TypeId} {x y : Operand} (ho : o.op = .binOp .eql t x y t2) {e : TypeId} (ht : tslice P t = some e) {b g off len : Nat} (hx : ρ x = .osl b g off len) (hy : ρ y = .nils) {t' : TypeId} {sz : Nat} {xs : List AV}
    (hb : h b = some (.cells t' sz g xs)) (hl : 0 < len) : OpOK P w0 r o ρ h ⟨.bool false, [b], none⟩ := by
  refine ok_pure (by simp [ho]) fun h' m w ac hrd hg hop => ⟨.bool false, ?_, .pure (.bool _)⟩
  have hb' : h' b = some (.cells t' sz g xs) := (hrd b (by simp)).trans hb
  have h1 := hop x (by simp [ho, Op.operands]); rw [hx] at h1
  have h2 := hop y (by simp [ho, Op.operands]); rw [hy] at h2
  have hv2 := rep_nils h2
  rcases rep_osl h1 hb' with ⟨_, _, h3, _⟩ | ⟨l, cap, hm, hv, _, _, _⟩
  · omega
  · have hq : ∀ d, (Op.equalIn (d + 1) t (.slice (some ⟨l.c, off, none⟩) len cap) (.slice none 0 0)).run P w = .ok false w := fun d => by
      simp [Op.equalIn, run_underlying (tslice_spec ht)]
    have hq2 := hq 9999
    simp [execOp, ho, hv, hv2, eqGuard, binOp, Op.equal, Op.maxDepth, hq2]
/-- A constant struct or array, stored. -/
theorem sound_storeC {t : TypeId} {j : Tmp} {us : List Value} (ho : o.op = .store t (.tmp j) (.const (.agg us.toArray))) {b g off : Nat} (ha : ρ (.tmp j) = .ptr b g off) {t' : TypeId} {sz : Nat} {xs : List AV} (hb : h b = some (.cells t' sz g xs))
    (hu : us.all (fun u => cellPure (constAV u)) = true) (hs : tsz P t = some us.length) (hl : off + us.length ≤ xs.length) {zs : List AV} (hz : splice xs off (us.map constAV) = zs) : OpOK P w0 r o ρ h ⟨.junk, [], some (b, .cells t' sz g zs)⟩ := by
  subst hz
  have hu : ∀ u ∈ us, cellPure (constAV u) = true := List.all_eq_true.1 hu
  obtain ⟨e, rfl, hok⟩ := sound_store (P := P) (w0 := w0) (r := r) (ρ := fun x => match x with | .const (.agg _) => .agg (us.map constAV) | y => ρ y) (h := h) (K := fun e => e = ⟨.junk, [], some (b, .cells t' sz g (splice xs off (us.map constAV)))⟩) ho (by
    simp only [effK, ho, ha, hb, cellsOf, List.length_map]
    exact ⟨trivial, hs.symm, hl, trivial⟩)
  intro h' m w a next Q h1 h2 hg hop hnext
  refine hok h' m w a next Q h1 h2 hg (fun x hx => ?_) hnext
  have hx2 : x = .tmp j ∨ x = .const (.agg us.toArray) := by simpa [ho, Op.operands] using hx
  rcases hx2 with rfl | rfl
  · exact hop _ hx
  · show Rep h' m w (.agg (us.map constAV)) (.agg us.toArray)
    refine .agg us (by simp) (fun u hm => (const_rep (ok := Ok m w) (w := w) (hu u hm)).2) (fun j x y => ?_)
    simp only [List.getElem_map]
    exact .pure (const_rep (hu _ (List.getElem_mem _))).1
/-- Append onto an empty literal, of cells that lie somewhere. -/
theorem append_src {t e : TypeId} {ty : TypeId} {sz bys : Nat} {zs : List AV} {b n : Nat} {ys : List AV} {h' : Nat → Option ABlk} {m : Nat → Option Loc} {w : World} {sv : Value} {c oo cx : Nat} {news : List Value}
    (ht : tslice P t = some e) (hs : tsz P e = some sz) (hby : tbytes P e = some bys) (hz : tzero P e = some zs) (hzl : zs.length = sz) (hpos : 0 < sz)
    (hyl : ys.length = n * sz) (hbytes : n * bys ≤ 140737488355328) (h63 : n ≤ 9223372036854775807) (hn0 : 0 < n)
    (hg : Good w0 h' m w) (hsv : PRep (Ok m w) w (.psl true 0 []) sv) (hnews : RepL h' m w ys news) (hncell : ∀ (j : Nat) (u : Value), news[j]? = some u → w.cell? ((⟨c, oo, none⟩ : Addr).add j) = some u) (hb : h' b = none) :
    ∃ v w' m', (Builtin.append_ #[t, t] ty #[sv, .slice (some ⟨c, oo, none⟩) n cx]).run P w = .ok v w' ∧ Good w0 (upd h' b (some (.cells e sz 0 ys))) m' w' ∧ Ext h' m w (upd h' b (some (.cells e sz 0 ys))) m' w' ∧
      Rep (upd h' b (some (.cells e sz 0 ys))) m' w' (.osl b 0 0 n) v := by
  obtain ⟨zv, hzv, rfl, it, hit, hitz⟩ := tzero_spec hz
  have hzsz : zv.cells.size = sz := by simpa using hzl
  have hbi := tbytes_spec hby hit
  have hsi := tsz_info hs hit
  have hu := tslice_spec ht
  have hb0 : ∀ k0, h' b = some k0 → ∃ g0 xs0, k0 = .cells e sz g0 xs0 ∧ g0 < 0 := fun k0 hk0 => by rw [hb] at hk0; cases hk0
  have hnl := hnews.1
  have hnl2 : news.length = n * it.size := by rw [← hnl, hyl, hsi]
  have hbnd : n * it.bytes ≤ 140737488355328 := by rw [hbi]; exact hbytes
  have hform : ∃ a, sv = .slice a 0 0 := by
    cases hsv with
    | psle _ h2 _ => exact ⟨_, by rw [h2 rfl]⟩
    | psl _ _ h2 _ _ _ => exact ⟨_, by rw [h2 rfl]⟩
  obtain ⟨a, rfl⟩ := hform
  obtain ⟨g1, e1⟩ := good_move (t := e) (sz := sz) (g' := 0) (rest := (Builtin.zeroCells zv.cells (grownCap w n 0 e - n)).toList) hg hb0 (below_drew w) hnews
  have harr : news.toArray ++ Builtin.zeroCells zv.cells (grownCap w n 0 e - n) = (news ++ (Builtin.zeroCells zv.cells (grownCap w n 0 e - n)).toList).toArray := by
    apply Array.toList_inj.1; simp
  have hgc := grownCap_ge w n 0 e
  have hgm := grownCap_le_maxLen w n 0 e (by simp only [maxLen]; omega)
  have hrun : (Builtin.append_ #[t, t] ty #[.slice a 0 0, .slice (some ⟨c, oo, none⟩) n cx]).run P w = .ok (.slice (some ⟨w.heap.size, 0, none⟩) n (grownCap w n 0 e)) (w.drew.alloc (.cells (news ++ (Builtin.zeroCells zv.cells (grownCap w n 0 e - n)).toList).toArray e)) := by
    rw [← harr]
    cases a with
    | none => exact run_append_nil (P := P) w t ty e it zv hu hit hitz ⟨c, oo, none⟩ n cx news hnl2 hncell (by omega) (by omega) (by omega)
    | some x =>
      have := run_append_grow (P := P) w t ty e it zv hu hit hitz x 0 0 [] (by simp) (fun j v hj => by simp at hj) ⟨c, oo, none⟩ n cx news hnl2 hncell (by omega) (by omega) (growslice_fits (by omega) (by rw [Nat.zero_add]; exact hbnd))
      simpa only [Nat.zero_add, List.append_nil, List.nil_append, Array.empty_append] using this
  refine ⟨_, _, _, hrun, g1, e1, ?_⟩
  refine .osl (upd_same _ _ _) (Nat.le_refl _) rfl (fun _ => .inr ⟨_, grownCap w n 0 e, upd_same _ _ _, rfl, hgc, ?_, hgm⟩)
  rw [Nat.zero_add]
  refine Nat.le_of_eq ?_
  exact (grown_size zv.cells sz n _ hzsz _ (by rw [hnl2, hsi]) hgc).symm
/-- An own list, behind an empty literal. -/
theorem sound_appo {t : TypeId} {s x : Operand} (ho : o.op = .call ⟨.builtin .append, #[s, x], #[t, t]⟩) {nx : Nat} (hn : h nx = none) {e : TypeId} (ht : tslice P t = some e) {sz bys : Nat} {zs : List AV} (hs : tsz P e = some sz) (hby : tbytes P e = some bys) (hz : tzero P e = some zs)
    (hzl : zs.length = sz) (hpos : 0 < sz) (hsv : ρ s = .psl true 0 []) {b g off n : Nat} (hx : ρ x = .osl b g off n) {t' : TypeId} {xs : List AV} (hb : h b = some (.cells t' sz g xs)) (hl : off + n * sz ≤ xs.length) (hn0 : 0 < n) (hbytes : n * bys ≤ 140737488355328) (h63 : n ≤ 9223372036854775807) {ys : List AV} (hys : window xs off (n * sz) = ys) :
    OpOK P w0 r o ρ h ⟨.osl nx 0 0 n, [b], some (nx, .cells e sz 0 ys)⟩ := by
  subst hys
  intro h' m w ac next Q hrd hwr hg hop hnext
  have hb' : h' b = some (.cells t' sz g xs) := (hrd b (by simp)).trans hb
  have hnx : h' nx = none := (hwr nx _ rfl).trans hn
  have h1 := hop s (by simp [ho, Op.operands, Call.operands]); rw [hsv] at h1
  have h2 := hop x (by simp [ho, Op.operands, Call.operands]); rw [hx] at h2
  have hrunE : ∀ (w' : World) (v : Value), (Builtin.append_ #[t, t] o.type #[ac.eval s, ac.eval x]).run P w = .ok v w' → (execOp ac.eval o).run P w = .ok (.value v) w' := by
    intro w' v hr
    rw [run_call_builtin ho]
    simp only [builtin, Sem.run_bind]
    have : (#[s, x].map ac.eval) = #[ac.eval s, ac.eval x] := by simp
    rw [this, hr]
    rfl
  rcases rep_osl h2 hb' with ⟨_, _, h3, _⟩ | ⟨l, cap, hm, hv, _, _, _⟩
  · omega
  · obtain ⟨arr, _, hasz, hlen, vs, hvs, hcell, hrep⟩ := blk_cells hg hb' hm
    have hwl : (window xs off (n * sz)).length = n * sz := window_length _ _ _ hl
    have hnews : RepL h' m w (window xs off (n * sz)) ((List.range (n * sz)).map fun j => vs (off + j)) := by
      refine ⟨by rw [hwl]; simp, fun u hu => ?_, fun j a c => ?_⟩
      · simp only [List.mem_map, List.mem_range] at hu
        obtain ⟨j, hj, rfl⟩ := hu
        exact (hcell (off + j) (by omega)).2
      · rw [window_get]
        simp only [List.getElem_map, List.getElem_range]
        exact hrep _ _
    obtain ⟨v, w', m', hrun, g1, e1, r1⟩ := append_src (ty := o.type) (cx := cap) ht hs hby hz hzl hpos hwl hbytes h63 hn0 hg (rep_psl h1) hnews (c := l.c) (oo := off) (fun j u hu => by
      rw [addr_add]
      simp only [List.getElem?_map, Option.map_eq_some_iff] at hu
      obtain ⟨k, hk, rfl⟩ := hu
      obtain ⟨h1, h2⟩ := List.getElem?_eq_some_iff.1 hk
      simp at h1 h2; subst h2
      have := (hcell (off + j) (by omega)).1
      rw [Nat.zero_add] at this
      exact this) hnx
    rw [← hv] at hrun
    exact wp_val (by simp [ho]) (hrunE w' v hrun) (hnext _ _ _ g1 e1 r1)
end
/-! ### A region with such an operation -/
section
variable {P : Program} {w0 : World} {r : Option Nat} {X : Ctx} {s : St} {Q : Exit → St → Prop}
theorem awp_opN (n : Nat) {id : Nat} {ops post : List Oper} {o : Oper} (e' : ops.drop n = o :: post) (eff : E)
    (h : evOps P ops.toArray (ops.take n) s [] fun s1 _ => guardOf ops.toArray s1.T o = some true ∧ OpOK P w0 r o (aev s1.T) (hget s1.H) eff ∧ evOps P ops.toArray post ⟨lseto s1.T o.dst eff.val, hseto s1.H eff.wr, s1.D⟩ [] fun s3 _ => Q .normal s3) : AWP P w0 r X (.region id ops.toArray false) s Q := by
  intro a w ⟨ex, hex, hs⟩
  have e : ops = ops.take n ++ o :: post := by rw [← e', List.take_append_drop]
  generalize ops.take n = pre at *
  have hpre : ∀ k, pre[k]? = ops.toArray[0 + k]? ∨ pre.length ≤ k := fun k => by
    rcases Nat.lt_or_ge k pre.length with h | h
    · left; simp [e, List.getElem?_append_left h]
    · exact .inr h
  have hat : ops.toArray[pre.length]? = some o := by simp [e]
  refine wpIn_region ?_
  have hrange : List.range ops.toArray.size = List.range' 0 pre.length ++ (pre.length :: List.range' (pre.length + 1) post.length) := by
    rw [List.range_eq_range', show ops.toArray.size = pre.length + (post.length + 1) by simp [e], ← List.range'_append_1, List.range'_succ]
    simp
  rw [hrange]
  obtain ⟨es, s1, ht, hl, hk⟩ := ev_trace (w0 := w0) (r := r) (all := ops.toArray) pre 0 s [] _ (fun k hk => (hpre k).resolve_right (by omega)) h
  have e1 : es.length = (es.map lift).length := by simp
  rw [← hl, e1]
  obtain ⟨hg, hok, hev⟩ := hk
  obtain ⟨es2, s3, ht2, hl2, hk2⟩ := ev_trace (w0 := w0) (r := r) (all := ops.toArray) post (pre.length + 1) _ [] _ (fun k _ => by simp [e, List.getElem?_append_right (show pre.length ≤ pre.length + 1 + k by omega), show pre.length + 1 + k - pre.length = k + 1 by omega]) hev
  have tr : Trace2 P w0 r ops.toArray pre.length s1.f (lift eff :: es2.map lift) s3.f := by
    refine .run hat hg hok.lift ?_
    have h9 := ht2.two
    have e9 : (⟨lseto s1.T o.dst eff.val, hseto s1.H eff.wr, s1.D⟩ : St).f = ⟨lseto s1.T o.dst (lift eff).val, updl (hget s1.H) (lift eff).wr, s1.D⟩ := by
      simp only [St.f, lift_upd]
      rfl
    rw [e9] at h9
    exact h9
  refine trace_seq3 (Z := X.Z) (mz := X.mz) (wz := X.wz) ht.two ?_ a w hs
  rintro a1 w1 hs1
  have := trace_seq2 (Z := X.Z) (mz := X.mz) (wz := X.wz) (Q := fun e a' w' => ∃ s', Q e s' ∧ SatC w0 X s' a' w') tr (fun a w hs => ⟨s3, hk2, ex, hex, hs⟩) a1 w1 hs1
  rw [List.length_map, hl]
  simpa [hl2, List.range'_succ] using this
/-- A region in parts, some of which are told. -/
def segE (P : Program) (w0 : World) (r : Option Nat) (all : Array Oper) : List (Nat × Option E × List Nat) → List Oper → St → List Ef → (St → List Ef → Prop) → Prop
  | [], ops, s, tr, K => evOps P all ops s [] fun s' es => K s' (tr ++ es.map lift)
  | (n, none, W) :: l, ops, s, tr, K => evOps P all (ops.take n) s [] fun s1 es => (match ops.drop n with
    | o :: post => ownD P all o W s1 fun s2 ef => segE P w0 r all l post s2 (tr ++ es.map lift ++ [ef]) K
    | [] => False)
  | (n, some eff, _) :: l, ops, s, tr, K => evOps P all (ops.take n) s [] fun s1 es => (match ops.drop n with
    | o :: post => guardOf all s1.T o = some true ∧ OpOK P w0 r o (aev s1.T) (hget s1.H) eff ∧ segE P w0 r all l post ⟨lseto s1.T o.dst eff.val, hseto s1.H eff.wr, s1.D⟩ (tr ++ es.map lift ++ [lift eff]) K
    | [] => False)
theorem segE_trace {all : Array Oper} : ∀ (l : List (Nat × Option E × List Nat)) (ops : List Oper) (i : Nat) (s : St) (tr : List Ef) (K : St → List Ef → Prop), (∀ k, k < ops.length → ops[k]? = all[i + k]?) → segE P w0 r all l ops s tr K →
    ∃ es s', Trace2 P w0 r all i s.f es s'.f ∧ es.length = ops.length ∧ K s' (tr ++ es)
  | [], ops, i, s, tr, K, hos, h => by
    obtain ⟨es, s', h1, h2, h3⟩ := ev_trace (w0 := w0) (r := r) ops i s [] _ hos h
    exact ⟨es.map lift, s', h1.two, by simpa using h2, by simpa using h3⟩
  | (n, x, W) :: l, ops, i, s, tr, K, hos, h => by
    have h0 : evOps P all (ops.take n) s [] fun s1 es => (match ops.drop n with
        | o :: post => (match x with
          | none => ownD P all o W s1 fun s2 ef => segE P w0 r all l post s2 (tr ++ es.map lift ++ [ef]) K
          | some eff => guardOf all s1.T o = some true ∧ OpOK P w0 r o (aev s1.T) (hget s1.H) eff ∧ segE P w0 r all l post ⟨lseto s1.T o.dst eff.val, hseto s1.H eff.wr, s1.D⟩ (tr ++ es.map lift ++ [lift eff]) K)
        | [] => False) := by
      cases x <;> exact h
    obtain ⟨es, s1, h1, h2, h3⟩ := ev_trace (w0 := w0) (r := r) (ops.take n) i s [] _ (fun k hk => by
      have hk' : k < n ∧ k < ops.length := by simpa [Nat.lt_min] using hk
      rw [List.getElem?_take_of_lt hk'.1]; exact hos k hk'.2) h0
    simp only [List.nil_append] at h3
    cases hd : ops.drop n with
    | nil => rw [hd] at h3; exact h3.elim
    | cons o post =>
      rw [hd] at h3
      have hn : n < ops.length := by
        rcases Nat.lt_or_ge n ops.length with h4 | h4
        · exact h4
        · rw [List.drop_eq_nil_of_le h4] at hd; cases hd
      have hl2 : es.length = n := by rw [h2, List.length_take]; omega
      have hlen : ops.length = n + (1 + post.length) := by
        have := congrArg List.length hd
        simp at this; omega
      have hget : ∀ k, (o :: post)[k]? = ops[n + k]? := fun k => by rw [← hd, List.getElem?_drop]
      have ho : all[i + n]? = some o := by rw [← hos n hn, ← Nat.add_zero n, ← hget 0]; rfl
      have hpost : ∀ k, k < post.length → post[k]? = all[i + n + 1 + k]? := fun k hk => by
        have := hget (k + 1)
        simp only [List.getElem?_cons_succ] at this
        rw [this, hos (n + (k + 1)) (by omega)]; congr 1; omega
      have ht1 : Trace2 P w0 r all i s.f (es.map lift) s1.f := h1.two
      cases x with
      | some eff =>
        obtain ⟨hg, hok, h3⟩ := h3
        obtain ⟨fs, s', q1, q2, q3⟩ := segE_trace l post (i + n + 1) _ _ K hpost h3
        refine ⟨es.map lift ++ (lift eff :: fs), s', ht1.app ?_, ?_, by simpa using q3⟩
        · rw [List.length_map, hl2]
          refine .run ho hg hok.lift ?_
          have e9 : (⟨lseto s1.T o.dst eff.val, hseto s1.H eff.wr, s1.D⟩ : St).f = ⟨lseto s1.T o.dst (lift eff).val, updl (Go.Am.hget s1.H) (lift eff).wr, s1.D⟩ := by
            simp only [St.f, lift_upd]
            rfl
          rw [e9] at q1
          exact q1
        · simp [hl2, q2, hlen]; omega
      | none =>
        replace h3 : ownD P all o W s1 fun s2 ef => segE P w0 r all l post s2 (tr ++ es.map lift ++ [ef]) K := h3
        unfold ownD at h3
        split at h3
        · rename_i hg
          split at h3
          · rename_i f args ts hop
            obtain ⟨y, H', hsem, hf, h3⟩ := h3
            obtain ⟨fs, s', q1, q2, q3⟩ := segE_trace l post (i + n + 1) _ _ K hpost h3
            refine ⟨es.map lift ++ (⟨y, [], wlog H' W, true⟩ :: fs), s', ht1.app ?_, ?_, by simpa using q3⟩
            · rw [List.length_map, hl2]
              refine .run ho hg (call_ok hop hf hsem) ?_
              have hu := wlog_upd hf
              simp only [St.f] at q1 ⊢
              rw [← hu]
              exact q1
            · simp [hl2, q2, hlen]; omega
          · exact h3.elim
        · rename_i hg
          obtain ⟨fs, s', q1, q2, q3⟩ := segE_trace l post (i + n + 1) _ _ K hpost h3
          refine ⟨es.map lift ++ (⟨.tup [], [], [], false⟩ :: fs), s', ht1.app ?_, ?_, by simpa using q3⟩
          · rw [List.length_map, hl2]
            exact .skip ho hg q1
          · simp [hl2, q2, hlen]; omega
        · exact h3.elim
theorem awp_drawsE (l : List (Nat × Option E × List Nat)) {id : Nat} {ops : List Oper} (hm : P.follows .mixedOrders = true) (hc : regOK ops.toArray = true) (h : segE P w0 r ops.toArray l ops s [] fun s' es => heapOK2 ops.toArray es = true ∧ Q .normal s') :
    AWP P w0 r X (.region id ops.toArray true) s Q := by
  intro a w ⟨ex, hex, hs⟩
  obtain ⟨es, s', ht, hl, hk⟩ := segE_trace (w0 := w0) (r := r) l ops 0 s [] _ (fun k _ => by simp) h
  simp only [List.nil_append] at hk
  exact draw_sound2 (Z := X.Z) (mz := X.mz) (wz := X.wz) hm ht (by simpa using hl) hc hk.1 (fun a w hs => ⟨s', hk.2, ex, hex, hs⟩) a w hs
end
section
variable {P : Program} {w0 : World} {r : Option Nat} {all : Array Oper} {T : List AV} {H : List (Option ABlk)} {D W : List Nat} {K2 : St → List Ef → Prop} {s : St} {tr : List Ef} {ops : List Oper}
theorem se_nil : segE P w0 r all [] ops s tr K2 = evOps P all ops s [] fun s' es => K2 s' (tr ++ es.map lift) := rfl
theorem se_own {n : Nat} {l : List (Nat × Option E × List Nat)} : segE P w0 r all ((n, none, W) :: l) ops s tr K2 = evOps P all (ops.take n) s [] fun s1 es => (match ops.drop n with
    | o :: post => ownD P all o W s1 fun s2 ef => segE P w0 r all l post s2 (tr ++ es.map lift ++ [ef]) K2
    | [] => False) := rfl
theorem se_op {n : Nat} {eff : E} {l : List (Nat × Option E × List Nat)} : segE P w0 r all ((n, some eff, W) :: l) ops s tr K2 = evOps P all (ops.take n) s [] fun s1 es => (match ops.drop n with
    | o :: post => guardOf all s1.T o = some true ∧ OpOK P w0 r o (aev s1.T) (hget s1.H) eff ∧ segE P w0 r all l post ⟨lseto s1.T o.dst eff.val, hseto s1.H eff.wr, s1.D⟩ (tr ++ es.map lift ++ [lift eff]) K2
    | [] => False) := rfl
end
end Go.Am

/- Contracts of the annals functions: days, copied; the visitor of find. -/
namespace Go.Am
open Go.RowKit Go.Proofs
attribute [local irreducible] AWP CallS Kt goK CallK stepK evOps SemF SemY Imp
set_option maxRecDepth 4000
set_option linter.unusedSimpArgs false
set_option linter.unusedVariables false
set_option maxHeartbeats 1600000

theorem se_win {x y z u : AV} {S F : List Int} {n : Nat} (hS : S.length = 7) : window (x :: y :: z :: u :: (ints S ++ ints F)) 11 n = ints (F.take n) := by
  simp only [window, List.drop_succ_cons]
  rw [List.drop_append_of_le_length (by rw [ints_length]; omega), show (7 : Nat) = (ints S).length by rw [ints_length, hS], List.drop_length, List.nil_append]
  simp [ints]
theorem clone_c (t : Ann) (pl dy : List Int) (K : List (Key × Bool)) (ht : AnnOK t) (hd : PDOK pl dy) :
    SemF Try.prog 79 [.osl 0 0 11 t.reports.length] [some (.cells 115 1 0 (seG t 1 pl dy)), some (.map (kmC K))] (.psl false t.reports.length (ints (dy.take t.reports.length))) [some (.cells 115 1 0 (seG t 1 pl dy)), some (.map (kmC K))] := by
  have hr := ht.reports
  have h1 := hd.lpl
  have h2 := hd.ldy
  have hle := se_len h1 h2
  generalize hn : t.reports.length = n at *
  simp only [seG, slR, slC, hn]
  (refine semF_of_awp (ys := [.psl false n (ints (dy.take n))]) (fun w args => Try.call79 ..) Try.func79 rfl (fun w0 m0 wz => ?_); simp only [Try.ntmps79, Try.results79, initT, junks, rptC, clmC, slR, slC, annC, sl, List.toList_toArray, List.cons_append, List.nil_append, List.length_cons, List.length_nil, Nat.reduceAdd, Nat.reduceSub])
  obtain ⟨cs, hcs⟩ : ∃ cs, AV.psl false n (recs rptC t.reports) :: AV.psl false t.claims.length (recs clmC t.claims) :: AV.int .i64 t.rest :: AV.map 1 :: (ints pl ++ ints dy) = cs := ⟨_, rfl⟩
  have hw : window cs 11 (n * 1) = ints (dy.take n) := by rw [← hcs, Nat.mul_one]; exact se_win h1
  have hcl : cs.length = 18 := by rw [← hcs]; simp only [List.length_cons, hle]
  (repeat' (first
    | ((refine awp_opN (id := 1) 1 rfl ⟨.bool false, [0], none⟩ ?_; simp (maxSteps := 4000000) only [go_sem, seval, List.take_succ_cons, List.take_zero]; refine ⟨rfl, sound_nil rfl tslice59 rfl rfl rfl (by omega), ?_⟩))
    | ((refine awp_opN (id := 3) 2 rfl ⟨.osl 2 0 0 n, [0], some (2, .cells 3 1 0 (ints (dy.take n)))⟩ ?_; simp (maxSteps := 4000000) only [go_sem, seval, List.take_succ_cons, List.take_zero]; refine ⟨rfl, sound_appo rfl rfl tslice59 tsz3 tbytes3 tzero3 rfl (by omega) rfl rfl rfl (by rw [hcs, hcl]; omega) (by omega) (by omega) (by omega) (by rw [hcs]; exact hw), ?_⟩; simp only [hseto, hset]; refine kt ?_; refine awp_frzC 2 rfl (by simp (maxSteps := 4000000) only [go_sem, seval]) [some (.cells 115 1 0 (.psl false n (recs rptC t.reports) :: .psl false t.claims.length (recs clmC t.claims) :: .int .i64 t.rest :: .map 1 :: (ints pl ++ ints dy))), some (.map (kmC K))] rfl rfl rfl ?_; simp only [frz, fq_pure, fzB_c, fzB_km, fzB_im, fzO, fzH, fzHs, fzl, fz2, fz1, fz0, List.map_cons, List.map_nil, if_true, if_false, reduceIte, Nat.reduceEqDiff, Nat.reduceAdd, Nat.succ_ne_self, Nat.zero_ne_one, Nat.one_ne_zero, reduceCtorEq, and_self]))
    | (refine awp_seqK ?_)
    | (refine kt ?_)
    | (refine And.intro ?_ ?_)
    | ((first | refine awp_region ?_ | refine awp_draw (by kernel_rfl) (by kernel_rfl) ?_ | refine Imp.le2 ?_ | refine awp_label ?_ | refine awp_skip ?_ | refine awp_exit ?_ | refine awp_cd ?_ | refine awp_ret ?_ | refine go_split (fun _h => ?_) (fun _h => ?_)) <;> try simp (maxSteps := 4000000) only [go_sem, seval])
    | (intro _h)
    | (refine awp_block ?_)
    | (refine awp_scope ?_)
    | (refine cond_b (fun _h => ?_) (fun _h => ?_))
    | (show heapOK _ _ = true; kernel_rfl)
    | (show heapOK2 _ _ = true; kernel_rfl)
    | (omega)))
  all_goals trace_state
/-- What find keeps: whether it has found something, slides and days. -/
def chC (v : Bool × List Int × List Int) : List AV := if v.1 = true then [.psl false v.2.1.length (ints v.2.1), .psl false v.2.2.length (ints v.2.2)] else [.nils, .nils]
section
variable {v : Bool × List Int × List Int}
theorem ch_live {p : Nat → Bool} : (chC v).all (live2 p) = true := by unfold chC; split <;> rfl
theorem ch_live1 {p : Nat → Bool} : (chC v).all (live1 p) = true := by unfold chC; split <;> rfl
theorem ch_pure : pureL (chC v) = True := eq_true (by
  intro x hx
  unfold chC at hx
  split at hx <;> (simp only [List.mem_cons, List.not_mem_nil, or_false] at hx; rcases hx with rfl | rfl <;> rfl))
theorem ch_ren {σ : Nat → Nat} : renL σ (chC v) = chC v := by unfold chC; split <;> simp [renL, ren]
theorem ch_refs {p : Nat → Prop} : refsL p (chC v) = True := by unfold chC; split <;> simp [refsL, refs]
theorem ch_len : (chC v).length = 2 := by unfold chC; split <;> rfl
theorem ch_spl : splice (chC v) 0 (chC v) = chC v := by unfold chC; split <;> rfl
theorem ch_win : window (chC v) 0 2 = chC v := by unfold chC; split <;> rfl
attribute [go_sem] ch_live ch_live1 ch_pure ch_ren ch_refs ch_len ch_win ch_spl
end
def fnS (t : Ann) (v : Bool × List Int × List Int) (pl dy : List Int) : (Bool × List Int × List Int) × Bool := ((true, slN t pl, tab t.reports.length fun i => dy.getD i 0), false)
def fnOK (v : Bool × List Int × List Int) : Prop := True
theorem fn_ok (t : Ann) : ∀ (v : Bool × List Int × List Int) (pl dy : List Int), fnOK v → PDOK pl dy → fnOK (fnS t v pl dy).1 := fun _ _ _ _ _ => trivial
theorem fn_c (t : Ann) (v : Bool × List Int × List Int) (pl dy : List Int) (K : List (Key × Bool)) (ht : AnnOK t) (hv : fnOK v) (hd : PDOK pl dy) :
    SemF Try.prog 95 [.ptr 3 0 0, .ptr 0 0 0, .ptr 1 0 0, .ptr 2 0 0] [some (.cells 35 1 0 (annC t)), some (.cells 61 1 0 (chC v)), some (.cells 4 1 0 [.bool v.1]), some (.cells 115 1 0 (seG t 4 pl dy)), some (.map (kmC K))] (.bool (fnS t v pl dy).2)
      [some (.cells 35 1 0 (annC t)), some (.cells 61 1 0 (chC (fnS t v pl dy).1)), some (.cells 4 1 0 [.bool (fnS t v pl dy).1.1]), some (.cells 115 1 0 (seG t 4 pl dy)), some (.map (kmC K))] := by
  have hr := ht.reports
  have h1 := hd.lpl
  have h2 := hd.ldy
  have hle := se_len h1 h2
  have hsl := slides_c t pl dy K ht hd
  have hcl := clone_c t pl dy K ht hd
  have hln : (slN t pl).length = t.reports.length := slK_length
  have hld : (dy.take t.reports.length).length = t.reports.length := by rw [List.length_take]; omega
  have htk : (tab t.reports.length fun i => dy.getD i 0) = dy.take t.reports.length := by
    apply List.ext_getElem
    · rw [hld, tab_length]
    · intro i a b
      have hi : i < dy.length := by rw [hld] at b; omega
      simp [tab, List.getD_eq_getElem?_getD, hi]
  simp only [fnS]
  rw [htk]
  rw [show chC (true, slN t pl, dy.take t.reports.length) = [.psl false (slN t pl).length (ints (slN t pl)), .psl false (dy.take t.reports.length).length (ints (dy.take t.reports.length))] from rfl]
  simp only [sli, hln, hld] at hsl ⊢
  generalize slN t pl = S at *
  obtain ⟨c1, c2, hcc⟩ : ∃ c1 c2, chC v = [c1, c2] := by
    unfold chC; split
    · exact ⟨_, _, rfl⟩
    · exact ⟨_, _, rfl⟩
  have hc12 : (c1 = .nils ∧ c2 = .nils) ∨ (∃ a b, c1 = .psl false a.length (ints a) ∧ c2 = .psl false b.length (ints b)) := by
    unfold chC at hcc
    split at hcc
    · simp only [List.cons.injEq, and_true] at hcc
      exact .inr ⟨v.2.1, v.2.2, hcc.1.symm, hcc.2.symm⟩
    · simp only [List.cons.injEq, and_true] at hcc
      exact .inl ⟨hcc.1.symm, hcc.2.symm⟩
  rw [hcc]
  simp only [seG, slR, slC, annC] at hsl hcl ⊢
  rcases hc12 with ⟨rfl, rfl⟩ | ⟨a, b, rfl, rfl⟩
  all_goals
    (refine semF_of_awp (ys := [.bool false]) (fun w args => Try.call95 ..) Try.func95 rfl (fun w0 m0 wz => ?_); simp only [Try.ntmps95, Try.results95, initT, junks, rptC, clmC, slR, slC, annC, sl, List.toList_toArray, List.cons_append, List.nil_append, List.length_cons, List.length_nil, Nat.reduceAdd, Nat.reduceSub])
    (repeat' (first
    | (refine awp_seqK ?_)
    | (refine kt ?_)
    | (refine And.intro ?_ ?_)
    | ((first | refine awp_region ?_ | refine Imp.le2 ?_ | refine awp_label ?_ | refine awp_skip ?_ | refine awp_exit ?_ | refine awp_cd ?_ | refine awp_ret ?_ | refine go_split (fun _h => ?_) (fun _h => ?_)) <;> try simp (maxSteps := 4000000) only [go_sem, seval])
    | (intro _h)
    | (refine awp_block ?_)
    | (refine awp_scope ?_)
    | (refine cond_b (fun _h => ?_) (fun _h => ?_))
    | (show heapOK _ _ = true; kernel_rfl)
    | (show heapOK2 _ _ = true; kernel_rfl)
    | (omega)))
    (repeat refine awp_seqK ?_)
    refine awp_drawsE [(1, none, []), (6, some ⟨.osl 3 0 11 t.reports.length, [3], none⟩, []), (0, none, []), (0, some ⟨.junk, [], some (1, .cells 61 1 0 [.nils, .nils])⟩, [])] (by kernel_rfl) (by kernel_rfl) ?_
    simp (maxSteps := 4000000) only [go_sem, seval, se_own, se_op, se_nil, List.take_succ_cons, List.take_zero, List.drop_succ_cons, List.drop_zero]
    (refine own_go (hsl) [3, 4] rfl (by simp (maxSteps := 4000000) only [go_sem, seval]) (by simp (maxSteps := 4000000) only [go_sem, seval, Nat.lt_irrefl] <;> decide) (by simp (maxSteps := 4000000) only [go_sem, seval]) ?_; simp (maxSteps := 4000000) only [go_sem, seval]; refine And.intro (frm_of (by repeat (first | exact rfl | exact ⟨_, rfl⟩ | refine And.intro ?_ ?_))) ?_; try simp (maxSteps := 4000000) only [go_sem, seval, sg_cons, sg_nil, List.take_succ_cons, List.take_zero, List.drop_succ_cons, List.drop_zero])
    try simp (maxSteps := 4000000) only [go_sem, seval, se_own, se_op, se_nil, List.take_succ_cons, List.take_zero, List.drop_succ_cons, List.drop_zero]
    refine ⟨rfl, sound_arr rfl tarr113 tsz3 rfl rfl (by simp only [List.length_cons, hle]; omega) rfl (by omega) (by simp only [maxLen]; omega), ?_⟩
    try simp (maxSteps := 4000000) only [go_sem, seval, se_own, se_op, se_nil, List.take_succ_cons, List.take_zero, List.drop_succ_cons, List.drop_zero]
    (refine own_go (hcl) [3, 4] rfl (by simp (maxSteps := 4000000) only [go_sem, seval]) (by simp (maxSteps := 4000000) only [go_sem, seval, Nat.lt_irrefl] <;> decide) (by simp (maxSteps := 4000000) only [go_sem, seval]) ?_; simp (maxSteps := 4000000) only [go_sem, seval]; refine And.intro (frm_of (by repeat (first | exact rfl | exact ⟨_, rfl⟩ | refine And.intro ?_ ?_))) ?_; try simp (maxSteps := 4000000) only [go_sem, seval, sg_cons, sg_nil, List.take_succ_cons, List.take_zero, List.drop_succ_cons, List.drop_zero])
    try simp (maxSteps := 4000000) only [go_sem, seval, se_own, se_op, se_nil, List.take_succ_cons, List.take_zero, List.drop_succ_cons, List.drop_zero]
    refine ⟨rfl, sound_storeC (us := [.slice none 0 0, .slice none 0 0]) rfl rfl rfl (by decide) tsz61 (by simp) rfl, ?_⟩
    simp only [hseto, hset]
    try simp (maxSteps := 4000000) only [go_sem, seval, se_own, se_op, se_nil, List.take_succ_cons, List.take_zero, List.drop_succ_cons, List.drop_zero]
    (repeat' (first
    | (refine awp_seqK ?_)
    | (refine kt ?_)
    | (refine And.intro ?_ ?_)
    | ((first | refine awp_region ?_ | refine Imp.le2 ?_ | refine awp_label ?_ | refine awp_skip ?_ | refine awp_exit ?_ | refine awp_cd ?_ | refine awp_ret ?_ | refine go_split (fun _h => ?_) (fun _h => ?_)) <;> try simp (maxSteps := 4000000) only [go_sem, seval])
    | (intro _h)
    | (refine awp_block ?_)
    | (refine awp_scope ?_)
    | (refine cond_b (fun _h => ?_) (fun _h => ?_))
    | (show heapOK _ _ = true; kernel_rfl)
    | (show heapOK2 _ _ = true; kernel_rfl)
    | (omega)))
    all_goals trace_state
end Go.Am

/- Contracts of the annals functions: all orders of slides, with a visitor (printed by gtue.py). -/
namespace Go.Am
open Go.RowKit Go.Proofs
attribute [local irreducible] AWP CallS Kt goK CallK stepK evOps SemF SemY Imp
set_option maxRecDepth 4000
set_option linter.unusedSimpArgs false
set_option linter.unusedVariables false
set_option maxHeartbeats 6400000

def heN (t : Ann)  (a : EA (Bool × List Int × List Int)) : List (Option ABlk) :=
  [some (.cells 35 1 0 (annC t)), some (.cells 61 1 0 (chC a.v)), some (.cells 4 1 0 [.bool a.v.1])] ++ [some (.cells 35 1 0 (annC t)), some (.cells 105 1 0 [.fn (.func 95) [] [.ptr 0 0 0, .ptr 1 0 0, .ptr 2 0 0]]), some (.map (kmC a.K)), some (.cells 115 1 0 (seG t 5 a.pl a.dy)), some (.cells 99 1 0 [.ptr 6 0 0]), some (.cells 131 1 0 [.fn (.func 85) [.ptr 6 0 0] []]), some (.cells 132 1 0 [.fn (.func 86) [] [.ptr 4 0 0, .ptr 7 0 0, .ptr 3 0 0, .ptr 8 0 0, .ptr 9 0 0]])]
def ehN (t : Ann)  (s : Ste) (place : Int) (fd : Bool) (a : EA (Bool × List Int × List Int)) : List (Option ABlk) :=
  heN t  a ++ [some (.cells 136 1 0 (stC s)), some (.cells 3 1 0 [.int .i64 place]), some (.cells 4 1 0 [.bool fd]), some (.cells 4 1 0 [.bool false]), some (.cells 35 1 0 (annC t)), some (.cells 136 1 0 (stC s))]
def etN : List AV := mkT 88 [(2, .ptr 4 0 0), (3, .ptr 7 0 0), (4, .ptr 3 0 0), (5, .ptr 8 0 0), (6, .ptr 9 0 0), (7, .ptr 10 0 0), (8, .ptr 11 0 0), (9, .ptr 12 0 0), (10, .ptr 13 0 0), (31, .fn (.func 107) [] [.ptr 15 0 0, .ptr 14 0 0])]
theorem eachN_c (t : Ann)  (ht : AnnOK t)  : ∀ (f : Nat) (s : Ste) (place : Int) (a : EA (Bool × List Int × List Int)), SteOK t s → s.rest < f → 0 ≤ place → place + s.rest ≤ 1000 → EAOK fnOK a → 
    SemF Try.prog 86 [.agg (stC s), .int .i64 place, .ptr 4 0 0, .ptr 7 0 0, .ptr 3 0 0, .ptr 8 0 0, .ptr 9 0 0] (heN t  a) (.tup [.bool (eachM t (fnS t) f s place a).1.1, .bool (eachM t (fnS t) f s place a).1.2]) (heN t  (eachM t (fnS t) f s place a).2) := by
  intro f
  induction f with
  | zero => intro s place a _ h; omega
  | succ f ih =>
    intro s place a hs hf hp0 hp ha
    have hok := eachM_ok (step := (fnS t)) ht (fn_ok t ) (f + 1) s place a hs hp0 hp ha
    have hr := ht.reports
    by_cases h0 : s.rest = 0
    · have e : eachM t (fnS t) (f + 1) s place a = ((true, ((fnS t) a.v a.pl a.dy).2), { a with v := ((fnS t) a.v a.pl a.dy).1 }) := by simp only [eachM]; rw [if_pos h0]
      rw [e]
      have hv := fn_c t  a.v a.pl a.dy a.K ht  ha.1 ha.2
      have e0 : ((s.rest : Int) = 0) = True := eq_true (by omega)
      generalize (fnS t) a.v a.pl a.dy = R at *
      obtain ⟨v2, more⟩ := R
      simp only [heN, seG, stC, annC, slR, slC, List.cons_append, List.nil_append] at hv ⊢
      (refine semF_of_awp (ys := [.bool true, .bool more]) (fun w args => Try.call86 ..) Try.func86 rfl (fun w0 m0 wz => ?_); simp only [Try.ntmps86, Try.results86, initT, junks, rptC, clmC, slR, slC, annC, sl, List.toList_toArray, List.cons_append, List.nil_append, List.length_cons, List.length_nil, Nat.reduceAdd, Nat.reduceSub])
      (repeat' (first
    | (refine awp_ownN 2 rfl ?_; simp (maxSteps := 4000000) only [go_sem, seval, List.take_succ_cons, List.take_zero, e0, decide_true]; (repeat refine And.intro (by omega) ?_); refine own_go (hv) [0, 1, 2, 6, 5] rfl ?_ ?_ rfl ?_ <;> try simp (maxSteps := 4000000) only [go_sem, seval, Nat.lt_irrefl, e0, decide_true] <;> try decide)
    | (refine awp_seqK ?_)
    | (refine kt ?_)
    | (refine And.intro ?_ ?_)
    | ((first | refine awp_region ?_ | refine awp_draw (by kernel_rfl) (by kernel_rfl) ?_ | refine Imp.le2 ?_ | refine awp_label ?_ | refine awp_skip ?_ | refine awp_exit ?_ | refine awp_cd ?_ | refine awp_ret ?_ | refine go_split (fun _h => ?_) (fun _h => ?_)) <;> try simp (maxSteps := 4000000) only [go_sem, seval, e0, decide_true])
    | (intro _h)
    | (refine awp_block ?_)
    | (refine awp_scope ?_)
    | (refine cond_b (fun _h => ?_) (fun _h => ?_))
    | (show heapOK _ _ = true; kernel_rfl)
    | (show heapOK2 _ _ = true; kernel_rfl)
    | (omega)))
      all_goals trace_state
    · have e0 : ((s.rest : Int) = 0) = False := eq_false (by omega)
      have h256 : s.rest < 256 := Nat.lt_of_lt_of_le hs.rest (show 2 ^ t.reports.length ≤ 2 ^ 8 from Nat.pow_le_pow_right (by omega) (by omega))
      have hst := stt_win hs.sl hs.fl
      have hsn := stt_len hs.sl hs.fl
      have hks : getS a.K s = gmGet a.K ⟨s, hs.sl, hs.fl⟩ := by unfold getS; rw [dif_pos ⟨hs.sl, hs.fl⟩]
      by_cases hlost : getS a.K s = some true
      · have e : eachM t (fnS t) (f + 1) s place a = ((false, true), a) := by simp only [eachM]; rw [if_neg h0, if_pos hlost]
        rw [e]
        have hmg := fun z (f : AV → Bool → Prop) => mget_ks (z := z) (f := f) (hks ▸ hlost)
        simp only [keyV, stC] at hmg
        have hkey := fun (a d : Int) => keyS (a := a) (d := d) hs.sl hs.fl
        simp only [heN, seG, stC, annC, slR, slC, List.cons_append, List.nil_append]
        (refine semF_of_awp (ys := [.bool false, .bool true]) (fun w args => Try.call86 ..) Try.func86 rfl (fun w0 m0 wz => ?_); simp only [Try.ntmps86, Try.results86, initT, junks, rptC, clmC, slR, slC, annC, sl, List.toList_toArray, List.cons_append, List.nil_append, List.length_cons, List.length_nil, Nat.reduceAdd, Nat.reduceSub])
        (repeat' (first
    | ((show zeroOK _ = true; rfl))
    | ((exact hkey _ _))
    | ((exact absurd ‹true = false› (by simp)))
    | (refine awp_seqK ?_)
    | (refine kt ?_)
    | (refine And.intro ?_ ?_)
    | ((first | refine awp_region ?_ | refine awp_draw3 (by kernel_rfl) (by kernel_rfl) ?_ | refine Imp.le2 ?_ | refine awp_label ?_ | refine awp_skip ?_ | refine awp_exit ?_ | refine awp_cd ?_ | refine awp_ret ?_ | refine go_split (fun _h => ?_) (fun _h => ?_)) <;> try simp (maxSteps := 4000000) only [go_sem, seval, e0, decide_false, hmg, hst, hsn])
    | (intro _h)
    | (refine awp_block ?_)
    | (refine awp_scope ?_)
    | (refine cond_b (fun _h => ?_) (fun _h => ?_))
    | (show heapOK3 _ _ _ = true; kernel_rfl)
    | (show heapOK _ _ = true; kernel_rfl)
    | (show heapOK2 _ _ = true; kernel_rfl)
    | (omega)))
        all_goals (exact absurd _h (by simp))
      · obtain ⟨b, hmg⟩ : ∃ b : Bool, ∀ (f : AV → Bool → Prop), mgetK (kmC a.K) (keyV ⟨s, hs.sl, hs.fl⟩) (.bool false) f = f (.bool false) b := by
          rw [hks] at hlost
          cases hg : gmGet a.K ⟨s, hs.sl, hs.fl⟩ with
          | none => exact ⟨false, fun f => mget_kn hg⟩
          | some b =>
            cases b with
            | true => exact absurd hg hlost
            | false => exact ⟨true, fun f => mget_ks hg⟩
        have hnx := next_c t s
        have hkey := fun (a d : Int) => keyS (a := a) (d := d) hs.sl hs.fl
        have e : eachM t (fnS t) (f + 1) s place a = endM s (goE (oneM t (eachM t (fnS t) f) s place) (candN t s.rest s.rest) false a) := by simp only [eachM]; rw [if_neg h0, if_neg hlost]
        rw [e] at hok ⊢
        obtain ⟨⟨⟨fE, mE⟩, aE⟩, hE⟩ : ∃ r, goE (oneM t (eachM t (fnS t) f) s place) (candN t s.rest s.rest) false a = r := ⟨_, rfl⟩
        rw [hE] at hok ⊢
        simp only [keyV, stC] at hmg
        have hpE : PDOK aE.pl aE.dy := by
          unfold endM at hok
          split at hok
          · exact hok.2
          · exact hok.2
        clear e hok
        obtain ⟨st, pend, ex, hcase⟩ : ∃ (st : LoopState) (pend : Option Code) (ex : Exit), (mE = true ∧ st = .ready ∧ pend = none ∧ ex = .normal) ∨ (mE = false ∧ st = .done ∧ pend = some .ret ∧ ex = .ret) := by
          cases mE
          · exact ⟨.done, some .ret, .ret, .inr ⟨rfl, rfl, rfl, rfl⟩⟩
          · exact ⟨.ready, none, .normal, .inl ⟨rfl, rfl, rfl, rfl⟩⟩
        have e1 : (endM s ((fE, mE), aE)).1.1 = fE := by unfold endM; cases mE <;> rfl
        have e2 : (endM s ((fE, mE), aE)).1.2 = mE := by unfold endM; cases mE <;> rfl
        rw [e1, e2]
        simp only [heN, seG, stC, annC, slR, slC, List.cons_append, List.nil_append] at hnx ⊢
        (refine semF_of_awp (ys := [.bool fE, .bool mE]) (fun w args => Try.call86 ..) Try.func86 rfl (fun w0 m0 wz => ?_); simp only [Try.ntmps86, Try.results86, initT, junks, rptC, clmC, slR, slC, annC, sl, List.toList_toArray, List.cons_append, List.nil_append, List.length_cons, List.length_nil, Nat.reduceAdd, Nat.reduceSub])
        (repeat' (first
    | ((show zeroOK _ = true; rfl))
    | ((exact hkey _ _))
    | (refine awp_ownN 2 rfl ?_; simp (maxSteps := 4000000) only [go_sem, seval, List.take_succ_cons, List.take_zero, e0, decide_false, hmg, hst, hsn]; (repeat refine And.intro (by omega) ?_); refine own_go (hnx) [] rfl ?_ ?_ ?_ ?_ <;> try simp (maxSteps := 4000000) only [go_sem, seval, Nat.lt_irrefl, e0, decide_false, hmg, hst, hsn] <;> try decide)
    | (refine awp_seqK ?_)
    | (refine kt ?_)
    | (refine And.intro ?_ ?_)
    | ((first | refine awp_region ?_ | refine awp_draw3 (by kernel_rfl) (by kernel_rfl) ?_ | refine Imp.le2 ?_ | refine awp_label ?_ | refine awp_skip ?_ | refine awp_exit ?_ | refine awp_cd ?_ | refine awp_ret ?_ | refine go_split (fun _h => ?_) (fun _h => ?_)) <;> try simp (maxSteps := 4000000) only [go_sem, seval, e0, decide_false, hmg, hst, hsn])
    | (intro _h)
    | (refine awp_block ?_)
    | (refine awp_scope ?_)
    | (refine cond_b (fun _h => ?_) (fun _h => ?_))
    | (show heapOK3 _ _ _ = true; kernel_rfl)
    | (show heapOK _ _ = true; kernel_rfl)
    | (show heapOK2 _ _ = true; kernel_rfl)
    | (omega)))
        try any_goals (exfalso; simp at _h; done)
        refine AWP.le2 (s' := ⟨etN, ehN t  s place false a, []⟩) (by simp only [etN, ehN, heN, seG, stC, annC, slR, slC, List.cons_append, List.nil_append]; simp (maxSteps := 4000000) only [go_sem, seval]) ?_
        refine awp_rangeZ (gf := 107) (first := []) (caps := [.ptr 15 0 0, .ptr 14 0 0]) (by simp only [etN]; simp (maxSteps := 4000000) only [go_sem, seval]) 16 rfl ?_
        intro ca cb hca hcb
        refine ⟨.tup [], ehN t  s place fE aE ++ [some (.dfr true), some (.loop st pend 0 etN #[32] ca cb 16)], st, pend, ex, ?_, ?_, ?_, ?_, ?_⟩
        · simp only [etN, ehN, heN, seG, stC, annC, slR, slC, List.cons_append, List.nil_append]; simp (maxSteps := 4000000) only [go_sem, seval]
          (refine semF_of_awp (ys := []) (fun w args => Try.call107 ..) Try.func107 rfl (fun w0 m0 wz => ?_); simp only [Try.ntmps107, Try.results107, initT, junks, rptC, clmC, slR, slC, annC, sl, List.toList_toArray, List.cons_append, List.nil_append, List.length_cons, List.length_nil, Nat.reduceAdd, Nat.reduceSub])
          (repeat' (first
    | (refine awp_seqK ?_)
    | (refine kt ?_)
    | (refine And.intro ?_ ?_)
    | ((first | refine awp_region ?_ | refine awp_draw (by kernel_rfl) (by kernel_rfl) ?_ | refine Imp.le2 ?_ | refine awp_label ?_ | refine awp_skip ?_ | refine awp_exit ?_ | refine awp_cd ?_ | refine awp_ret ?_ | refine go_split (fun _h => ?_) (fun _h => ?_)) <;> try simp (maxSteps := 4000000) only [go_sem, seval])
    | (intro _h)
    | (refine awp_block ?_)
    | (refine awp_scope ?_)
    | (refine cond_b (fun _h => ?_) (fun _h => ?_))
    | (show heapOK _ _ = true; kernel_rfl)
    | (show heapOK2 _ _ = true; kernel_rfl)
    | (omega)))
          refine awp_loopJ (fun x : Nat × Bool × EA (Bool × List Int × List Int) => x.1 &&& s.rest = x.1 ∧ EAOK fnOK x.2.2 ∧ goE (oneM t (eachM t (fnS t) f) s place) (candN t s.rest x.1) x.2.1 x.2.2 = ((fE, mE), aE))
            (fun x => ⟨mkT 54 [(0, .fn (.yield 17) [] []), (1, .ptr 15 0 0), (2, .ptr 14 0 0), (4, .int .u8 (x.1 : Nat))], ehN t  s place x.2.1 x.2.2 ++ [some (.dfr true), some (.loop .ready none 0 etN #[32] ca cb 16)], []⟩) (fun x => x.1) (s.rest, false, a) ⟨Nat.and_self _, ha, hE⟩ (.le2 ?_) ?_
          · simp only [etN, ehN, heN, seG, stC, annC, slR, slC, List.cons_append, List.nil_append]; simp (maxSteps := 4000000) only [go_sem, seval]
            try (first | rfl | exact ⟨rfl, rfl⟩)
          · rintro ⟨x, fd, a1⟩ ⟨hx, ha1, hF⟩
            simp only at hx ha1 hF
            by_cases hx0 : x = 0
            · subst hx0
              rw [candN_zero] at hF
              simp only [goE, Prod.mk.injEq] at hF
              obtain ⟨⟨h1, h2⟩, h3⟩ := hF
              subst h1 h2 h3
              rcases hcase with ⟨_, h2, h3, h4⟩ | ⟨h, _⟩
              · subst h2 h3 h4
                simp only [etN, ehN, heN, seG, stC, annC, slR, slC, List.cons_append, List.nil_append]; simp (maxSteps := 4000000) only [go_sem, seval]
                (repeat' (first
    | ((exfalso; omega))
    | (refine awp_seqK ?_)
    | (refine kt ?_)
    | (refine And.intro ?_ ?_)
    | ((first | refine awp_region ?_ | refine awp_draw (by kernel_rfl) (by kernel_rfl) ?_ | refine Imp.le2 ?_ | refine awp_label ?_ | refine awp_skip ?_ | refine awp_exit ?_ | refine awp_cd ?_ | refine awp_ret ?_ | refine go_split (fun _h => ?_) (fun _h => ?_)) <;> try simp (maxSteps := 4000000) only [go_sem, seval])
    | (intro _h)
    | (refine awp_block ?_)
    | (refine awp_scope ?_)
    | (refine cond_b (fun _h => ?_) (fun _h => ?_))
    | (show heapOK _ _ = true; kernel_rfl)
    | (show heapOK2 _ _ = true; kernel_rfl)
    | (omega)))
                all_goals trace_state
              · exact absurd h (by simp)
            · rw [candN_step hx0] at hF
              have hxr : x ≤ s.rest := by
                have : x &&& s.rest ≤ s.rest := Nat.and_le_right
                rw [hx] at this; exact this
              have hxn : x < 2 ^ t.reports.length := by have := hs.rest; omega
              have hx8 : x < 256 := by omega
              have htz := tz_in hx0 hxn hr.2
              have htc := tz_c x hx8
              have hso : (t.reports.getD (tz x) default).slope = slopeO t x := rfl
              have e5 : IntKind.u8.wrap ((x : Int) - 1) = ((x - 1 : Nat) : Int) := sub_nat hx8 hx0
              have e6 : u8and ((x - 1 : Nat) : Int) (s.rest : Nat) = (((x - 1) &&& s.rest : Nat) : Int) := u8and_nat (by omega) h256
              have hax : (x - 1) &&& s.rest ≤ x - 1 := Nat.and_le_left
              have hxx : ((x - 1) &&& s.rest) &&& s.rest = (x - 1) &&& s.rest := by rw [Nat.and_assoc, Nat.and_self]
              simp only [etN, ehN, heN, seG, stC, annC, slR, slC, List.cons_append, List.nil_append]; simp (maxSteps := 4000000) only [go_sem, seval]
              (repeat' (first
    | ((exfalso; omega))
    | ((omega))
    | (refine awp_seqK ?_)
    | (refine kt ?_)
    | (refine And.intro ?_ ?_)
    | ((first | refine awp_region ?_ | refine awp_draw (by kernel_rfl) (by kernel_rfl) ?_ | refine Imp.le2 ?_ | refine awp_label ?_ | refine awp_skip ?_ | refine awp_exit ?_ | refine awp_cd ?_ | refine awp_ret ?_ | refine callK_of (htc) ?_ | refine go_split (fun _h => ?_) (fun _h => ?_)) <;> try simp (maxSteps := 4000000) only [go_sem, seval, hso])
    | (intro _h)
    | (refine awp_block ?_)
    | (refine awp_scope ?_)
    | (refine cond_b (fun _h => ?_) (fun _h => ?_))
    | (show heapOK _ _ = true; kernel_rfl)
    | (show heapOK2 _ _ = true; kernel_rfl)
    | (omega)))
              refine awp_loopN t.reports.length (fun i => ⟨mkT 54 [(0, .fn (.yield 17) [] []), (1, .ptr 15 0 0), (2, .ptr 14 0 0), (4, .int .u8 (x : Nat)), (5, .int .i64 (slopeO t x)), (6, .bool (sameK t x i)), (26, slR t.reports), (27, .int .i64 t.reports.length), (28, .int .i64 i)], ehN t  s place fd a1 ++ [some (.dfr true), some (.loop .ready none 0 etN #[32] ca cb 16)], []⟩) (.le2 ?_) ?_
              · simp only [etN, ehN, heN, seG, stC, annC, slR, slC, List.cons_append, List.nil_append, sameK]; simp (maxSteps := 4000000) only [go_sem, seval]
                try (first | rfl | exact ⟨rfl, rfl⟩)
              · intro i hi
                rcases Nat.lt_or_eq_of_le hi with hi1 | hi1
                · have hin := inS_c x i hx8 (by omega)
                  obtain ⟨q, hq⟩ : ∃ q, sameK t x i = q := ⟨_, rfl⟩
                  obtain ⟨b, hb⟩ : ∃ b, x.testBit i = b := ⟨_, rfl⟩
                  obtain ⟨z, hz⟩ : ∃ z, slopeO t x = z := ⟨_, rfl⟩
                  have hss : sameK t x (i + 1) = (q && (!b || decide ((t.reports.getD i default).slope = z))) := by simp only [sameK, hq, hb, hz]
                  rw [hss, hq, hz]
                  rw [hb] at hin
                  clear hss hq hz hb hF
                  cases q
                  · simp only [etN, ehN, heN, seG, stC, annC, slR, slC, List.cons_append, List.nil_append, Bool.false_and]; simp (maxSteps := 4000000) only [go_sem, seval]
                    (repeat' (first
    | ((exfalso; omega))
    | ((omega))
    | (refine awp_seqK ?_)
    | (refine kt ?_)
    | (refine And.intro ?_ ?_)
    | ((first | refine awp_region ?_ | refine awp_draw (by kernel_rfl) (by kernel_rfl) ?_ | refine Imp.le2 ?_ | refine awp_label ?_ | refine awp_skip ?_ | refine awp_exit ?_ | refine awp_cd ?_ | refine awp_ret ?_ | refine go_split (fun _h => ?_) (fun _h => ?_)) <;> try simp (maxSteps := 4000000) only [go_sem, seval])
    | (intro _h)
    | (refine awp_block ?_)
    | (refine awp_scope ?_)
    | (refine cond_b (fun _h => ?_) (fun _h => ?_))
    | (show heapOK _ _ = true; kernel_rfl)
    | (show heapOK2 _ _ = true; kernel_rfl)
    | (omega)))
                    all_goals trace_state
                  · cases b
                    · simp only [etN, ehN, heN, seG, stC, annC, slR, slC, List.cons_append, List.nil_append, Bool.not_false, Bool.true_or, Bool.true_and]; simp (maxSteps := 4000000) only [go_sem, seval]
                      (repeat' (first
    | ((exfalso; omega))
    | ((omega))
    | (refine awp_seqK ?_)
    | (refine kt ?_)
    | (refine And.intro ?_ ?_)
    | ((first | refine awp_region ?_ | refine awp_draw (by kernel_rfl) (by kernel_rfl) ?_ | refine Imp.le2 ?_ | refine awp_label ?_ | refine awp_skip ?_ | refine awp_exit ?_ | refine awp_cd ?_ | refine awp_ret ?_ | refine callK_of (hin) ?_ | refine go_split (fun _h => ?_) (fun _h => ?_)) <;> try simp (maxSteps := 4000000) only [go_sem, seval])
    | (intro _h)
    | (refine awp_block ?_)
    | (refine awp_scope ?_)
    | (refine cond_b (fun _h => ?_) (fun _h => ?_))
    | (show heapOK _ _ = true; kernel_rfl)
    | (show heapOK2 _ _ = true; kernel_rfl)
    | (omega)))
                      all_goals trace_state
                    · by_cases hsl : (t.reports.getD i default).slope = z
                      · simp only [etN, ehN, heN, seG, stC, annC, slR, slC, List.cons_append, List.nil_append, Bool.not_true, Bool.false_or, Bool.true_and, hsl, decide_true]; simp (maxSteps := 4000000) only [go_sem, seval]
                        (repeat' (first
    | ((exfalso; omega))
    | ((omega))
    | (refine awp_seqK ?_)
    | (refine kt ?_)
    | (refine And.intro ?_ ?_)
    | ((first | refine awp_region ?_ | refine awp_draw (by kernel_rfl) (by kernel_rfl) ?_ | refine Imp.le2 ?_ | refine awp_label ?_ | refine awp_skip ?_ | refine awp_exit ?_ | refine awp_cd ?_ | refine awp_ret ?_ | refine callK_of (hin) ?_ | refine go_split (fun _h => ?_) (fun _h => ?_)) <;> try simp (maxSteps := 4000000) only [go_sem, seval, hsl, decide_true])
    | (intro _h)
    | (refine awp_block ?_)
    | (refine awp_scope ?_)
    | (refine cond_b (fun _h => ?_) (fun _h => ?_))
    | (show heapOK _ _ = true; kernel_rfl)
    | (show heapOK2 _ _ = true; kernel_rfl)
    | (omega)))
                        all_goals trace_state
                      · simp only [etN, ehN, heN, seG, stC, annC, slR, slC, List.cons_append, List.nil_append, Bool.not_true, Bool.false_or, Bool.true_and, hsl, decide_false]; simp (maxSteps := 4000000) only [go_sem, seval]
                        (repeat' (first
    | ((exfalso; omega))
    | ((omega))
    | (refine awp_seqK ?_)
    | (refine kt ?_)
    | (refine And.intro ?_ ?_)
    | ((first | refine awp_region ?_ | refine awp_draw (by kernel_rfl) (by kernel_rfl) ?_ | refine Imp.le2 ?_ | refine awp_label ?_ | refine awp_skip ?_ | refine awp_exit ?_ | refine awp_cd ?_ | refine awp_ret ?_ | refine callK_of (hin) ?_ | refine go_split (fun _h => ?_) (fun _h => ?_)) <;> try simp (maxSteps := 4000000) only [go_sem, seval, hsl, decide_false])
    | (intro _h)
    | (refine awp_block ?_)
    | (refine awp_scope ?_)
    | (refine cond_b (fun _h => ?_) (fun _h => ?_))
    | (show heapOK _ _ = true; kernel_rfl)
    | (show heapOK2 _ _ = true; kernel_rfl)
    | (omega)))
                        all_goals trace_state
                · subst hi1
                  cases hG : sameK t x t.reports.length with
                  | false =>
                    rw [hG, if_neg (by simp)] at hF
                    simp only [etN, ehN, heN, seG, stC, annC, slR, slC, List.cons_append, List.nil_append]; simp (maxSteps := 4000000) only [go_sem, seval]
                    (repeat' (first
    | ((exfalso; omega))
    | ((omega))
    | (refine awp_seqK ?_)
    | (refine kt ?_)
    | (refine And.intro ?_ ?_)
    | ((first | refine awp_region ?_ | refine awp_draw (by kernel_rfl) (by kernel_rfl) ?_ | refine Imp.le2 ?_ | refine awp_label ?_ | refine awp_skip ?_ | refine awp_exit ?_ | refine awp_cd ?_ | refine awp_ret ?_ | refine go_split (fun _h => ?_) (fun _h => ?_)) <;> try simp (maxSteps := 4000000) only [go_sem, seval, e5, e6])
    | (intro _h)
    | (refine awp_block ?_)
    | (refine awp_scope ?_)
    | (refine cond_b (fun _h => ?_) (fun _h => ?_))
    | (show heapOK _ _ = true; kernel_rfl)
    | (show heapOK2 _ _ = true; kernel_rfl)
    | (omega)))
                    refine ⟨((x - 1) &&& s.rest, fd, a1), ⟨hxx, ha1, hF⟩, by simp only; omega, .le2 ?_⟩
                    simp only [etN, ehN, heN, seG, stC, annC, slR, slC, List.cons_append, List.nil_append]; simp (maxSteps := 4000000) only [go_sem, seval]
                    try (first | rfl | exact ⟨rfl, rfl⟩)
                  | true =>
                    rw [hG, if_pos rfl] at hF
                    simp only [goE] at hF
                    have hmay := may_c t s x a1.pl a1.dy a1.K ht hs hx0 hxn
                    obtain ⟨hl1, hl2⟩ := mayS_len ht hs hx0 hxn
                    have hst2 := stt_win hl1 hl2
                    have hsn2 := stt_len hl1 hl2
                    by_cases hm : (mayS t s x).2 = true
                    · obtain ⟨m1, m2, m3⟩ := mayS_ok ht hs hx0 hx hm
                      have h1 : oneM t (eachM t (fnS t) f) s place x a1 = eachM t (fnS t) f (mayS t s x).1 (place + 1) (putE t x place (mayS t s x).1.day a1) := by unfold oneM; rw [if_pos hm]
                      have hao : EAOK fnOK (putE t x place (mayS t s x).1.day a1) := ⟨ha1.1, ha1.2.put hr.2 ⟨hp0, by omega⟩ m3⟩
                      have hih := ih (mayS t s x).1 (place + 1) (putE t x place (mayS t s x).1.day a1) m1 (by omega) (by omega) (by omega) hao
                      have hok1 := eachM_ok (step := (fnS t)) ht (fn_ok t ) f (mayS t s x).1 (place + 1) (putE t x place (mayS t s x).1.day a1) m1 (by omega) (by omega) hao
                      have hq1 := ha1.2.lpl
                      have hq2 := ha1.2.ldy
                      rw [h1] at hF
                      rw [hm] at hmay
                      clear h1 hao m1 hG
                      generalize (mayS t s x).1 = to at *
                      obtain ⟨⟨⟨he1, mo⟩, a2⟩, hr2⟩ : ∃ r, eachM t (fnS t) f to (place + 1) (putE t x place to.day a1) = r := ⟨_, rfl⟩
                      rw [hr2] at hih hF hok1
                      simp only [etN, ehN, heN, seG, stC, annC, slR, slC, List.cons_append, List.nil_append, seC] at hmay
                      simp only at hF hih hok1
                      have hF0 := hF
                      cases mo with
                      | true =>
                        rw [if_pos rfl] at hF
                        simp only [etN, ehN, heN, seG, stC, annC, slR, slC, List.cons_append, List.nil_append]; simp (maxSteps := 4000000) only [go_sem, seval]
                        (repeat' (first
    | ((exfalso; omega))
    | ((omega))
    | ((refine awp_ownN (id := 10) 4 rfl ?_; simp (maxSteps := 4000000) only [go_sem, seval, List.take_succ_cons, List.take_zero]; refine callH_yield true (ehN t  s place (fd || he1) a2 ++ [some (.dfr true), some (.loop .ready none 0 etN #[32] ca cb 16)]) ?_ ?_ <;> simp only [etN, ehN, heN, seG, stC, annC, slR, slC, List.cons_append, List.nil_append] <;> (try simp (maxSteps := 4000000) only [go_sem, seval])))
    | (refine awp_seqK ?_)
    | (refine kt ?_)
    | (refine And.intro ?_ ?_)
    | ((first | refine awp_region ?_ | refine awp_draw (by kernel_rfl) (by kernel_rfl) ?_ | refine Imp.le2 ?_ | refine awp_label ?_ | refine awp_skip ?_ | refine awp_exit ?_ | refine awp_cd ?_ | refine awp_ret ?_ | refine go_split (fun _h => ?_) (fun _h => ?_)) <;> try simp (maxSteps := 4000000) only [go_sem, seval, e5, e6])
    | (intro _h)
    | (refine awp_block ?_)
    | (refine awp_scope ?_)
    | (refine cond_b (fun _h => ?_) (fun _h => ?_))
    | (show heapOK _ _ = true; kernel_rfl)
    | (show heapOK2 _ _ = true; kernel_rfl)
    | (omega)))
                        · refine semY_of_awpZ rfl rfl ?_
                          intro B w0 l m w
                          refine awp_code hca ?_
                          (repeat' (first
    | (refine awp_seqK ?_)
    | (refine kt ?_)
    | (refine And.intro ?_ ?_)
    | ((first | refine awp_region ?_ | refine awp_draw (by kernel_rfl) (by kernel_rfl) ?_ | refine Imp.le2 ?_ | refine awp_label ?_ | refine awp_skip ?_ | refine awp_exit ?_ | refine awp_cd ?_ | refine awp_ret ?_ | refine go_split (fun _h => ?_) (fun _h => ?_)) <;> try simp (maxSteps := 4000000) only [go_sem, seval])
    | (intro _h)
    | (refine awp_block ?_)
    | (refine awp_scope ?_)
    | (refine cond_b (fun _h => ?_) (fun _h => ?_))
    | (show heapOK _ _ = true; kernel_rfl)
    | (show heapOK2 _ _ = true; kernel_rfl)
    | (omega)))
                          refine awp_code hcb ?_
                          (repeat' (first
    | (refine awp_ownN 3 rfl ?_; simp (maxSteps := 4000000) only [go_sem, seval, List.take_succ_cons, List.take_zero, hst, hsn, hst2, hsn2]; (repeat refine And.intro (by omega) ?_); refine own_go (hmay) [6, 5] rfl ?_ ?_ ?_ ?_ <;> try simp (maxSteps := 4000000) only [go_sem, seval, Nat.lt_irrefl, hst, hsn, hst2, hsn2] <;> try decide)
    | (refine awp_seqK ?_)
    | (refine kt ?_)
    | (refine And.intro ?_ ?_)
    | ((first | refine awp_region ?_ | refine awp_draw (by kernel_rfl) (by kernel_rfl) ?_ | refine Imp.le2 ?_ | refine awp_label ?_ | refine awp_skip ?_ | refine awp_exit ?_ | refine awp_cd ?_ | refine awp_ret ?_ | refine go_split (fun _h => ?_) (fun _h => ?_)) <;> try simp (maxSteps := 4000000) only [go_sem, seval, hst, hsn, hst2, hsn2])
    | (intro _h)
    | (refine awp_block ?_)
    | (refine awp_scope ?_)
    | (refine cond_b (fun _h => ?_) (fun _h => ?_))
    | (show heapOK _ _ = true; kernel_rfl)
    | (show heapOK2 _ _ = true; kernel_rfl)
    | (omega)))
                          refine awp_loopN t.reports.length (fun j => ⟨mkT 88 [(2, .ptr 4 0 0), (3, .ptr 7 0 0), (4, .ptr 3 0 0), (5, .ptr 8 0 0), (6, .ptr 9 0 0), (7, .ptr 10 0 0), (8, .ptr 11 0 0), (9, .ptr 12 0 0), (10, .ptr 13 0 0), (11, .int .u8 (x : Nat)), (12, .ptr 18 0 0), (44, .int .i64 t.reports.length), (45, .int .i64 j)], ehN t  s place fd ⟨a1.v, wrM x place j a1.pl, wrM x to.day j a1.dy, a1.K⟩ ++ [some (.dfr true), some (.loop .busy none 0 etN #[32] ca cb 16), some (.cells 136 1 0 (stC to))], []⟩) (.le2 ?_) ?_
                          · simp only [etN, ehN, heN, seG, stC, annC, slR, slC, List.cons_append, List.nil_append, wrM]; simp (maxSteps := 4000000) only [go_sem, seval]
                            try (first | rfl | exact ⟨rfl, rfl⟩)
                          · intro j hj
                            have hS1 := wrM_length (now := x) (x := place) (l := a1.pl) (k := j) (by rw [hq1]; omega)
                            have hF1 := wrM_length (now := x) (x := to.day) (l := a1.dy) (k := j) (by rw [hq2]; omega)
                            rw [hq1] at hS1
                            rw [hq2] at hF1
                            rcases Nat.lt_or_eq_of_le hj with hj1 | hj1
                            · have hin := inS_c x j hx8 (by omega)
                              simp only [wrM]
                              generalize wrM x place j a1.pl = S1 at *
                              generalize wrM x to.day j a1.dy = F1 at *
                              have hss := fun x y z u v => ss_pl (x := x) (y := y) (z := z) (u := u) (S := S1) (F := F1) (i := j) (v := v) (by omega)
                              have hsd := fun x y z u v w => ss_dy (x := x) (y := y) (z := z) (u := u) (S := isp S1 j v) (F := F1) (i := j) (v := w) (by rw [isp_length (by omega)]; exact hS1) (by omega)
                              have hle1 := se_len hS1 hF1
                              have hle2 := fun v => se_len (S := isp S1 j v) (F := F1) (by rw [isp_length (by omega)]; exact hS1) hF1
                              generalize x.testBit j = b at *
                              cases b
                              · simp only [etN, ehN, heN, seG, stC, annC, slR, slC, List.cons_append, List.nil_append, Bool.false_eq_true, if_false]; simp (maxSteps := 4000000) only [go_sem, seval]
                                (repeat' (first
    | ((exfalso; omega))
    | ((omega))
    | (refine awp_seqK ?_)
    | (refine kt ?_)
    | (refine And.intro ?_ ?_)
    | ((first | refine awp_region ?_ | refine awp_draw (by kernel_rfl) (by kernel_rfl) ?_ | refine Imp.le2 ?_ | refine awp_label ?_ | refine awp_skip ?_ | refine awp_exit ?_ | refine awp_cd ?_ | refine awp_ret ?_ | refine callK_of (hin) ?_ | refine go_split (fun _h => ?_) (fun _h => ?_)) <;> try simp (maxSteps := 4000000) only [go_sem, seval])
    | (intro _h)
    | (refine awp_block ?_)
    | (refine awp_scope ?_)
    | (refine cond_b (fun _h => ?_) (fun _h => ?_))
    | (show heapOK _ _ = true; kernel_rfl)
    | (show heapOK2 _ _ = true; kernel_rfl)
    | (omega)))
                                all_goals trace_state
                              · simp only [etN, ehN, heN, seG, stC, annC, slR, slC, List.cons_append, List.nil_append, if_true]; simp (maxSteps := 4000000) only [go_sem, seval]
                                (repeat' (first
    | ((exfalso; omega))
    | ((omega))
    | (refine awp_seqK ?_)
    | (refine kt ?_)
    | (refine And.intro ?_ ?_)
    | ((first | refine awp_region ?_ | refine awp_draw3 (by kernel_rfl) (by kernel_rfl) ?_ | refine Imp.le2 ?_ | refine awp_label ?_ | refine awp_skip ?_ | refine awp_exit ?_ | refine awp_cd ?_ | refine awp_ret ?_ | refine callK_of (hin) ?_ | refine go_split (fun _h => ?_) (fun _h => ?_)) <;> try simp (maxSteps := 4000000) only [go_sem, seval, hss, hsd, hle1, hle2])
    | (intro _h)
    | (refine awp_block ?_)
    | (refine awp_scope ?_)
    | (refine cond_b (fun _h => ?_) (fun _h => ?_))
    | (show heapOK3 _ _ _ = true; kernel_rfl)
    | (show heapOK _ _ = true; kernel_rfl)
    | (show heapOK2 _ _ = true; kernel_rfl)
    | (omega)))
                                all_goals trace_state
                            · subst hj1
                              simp only [putE] at hih
                              generalize wrM x place t.reports.length a1.pl = S1 at *
                              generalize wrM x to.day t.reports.length a1.dy = F1 at *
                              clear hF hF0
                              cases fd
                              all_goals
                                simp only [etN, ehN, heN, seG, stC, annC, slR, slC, List.cons_append, List.nil_append, Bool.true_or, Bool.false_or] at hih ⊢
                                simp (maxSteps := 4000000) only [go_sem, seval]
                                (repeat' (first
    | (refine awp_ownN 4 rfl ?_; simp (maxSteps := 4000000) only [go_sem, seval, List.take_succ_cons, List.take_zero, hst2, hsn2]; (repeat refine And.intro (by omega) ?_); refine own_go (hih) [0, 1, 2, 3, 4, 5, 6, 7, 8, 9] rfl ?_ ?_ ?_ ?_ <;> try simp (maxSteps := 4000000) only [go_sem, seval, Nat.lt_irrefl, hst2, hsn2] <;> try decide)
    | ((exfalso; omega))
    | ((omega))
    | (refine awp_seqK ?_)
    | (refine kt ?_)
    | (refine And.intro ?_ ?_)
    | ((first | refine awp_region ?_ | refine awp_draw (by kernel_rfl) (by kernel_rfl) ?_ | refine Imp.le2 ?_ | refine awp_label ?_ | refine awp_skip ?_ | refine awp_exit ?_ | refine awp_cd ?_ | refine awp_ret ?_ | refine go_split (fun _h => ?_) (fun _h => ?_)) <;> try simp (maxSteps := 4000000) only [go_sem, seval, hst2, hsn2])
    | (intro _h)
    | (refine awp_block ?_)
    | (refine awp_scope ?_)
    | (refine cond_b (fun _h => ?_) (fun _h => ?_))
    | (show heapOK _ _ = true; kernel_rfl)
    | (show heapOK2 _ _ = true; kernel_rfl)
    | (omega)))
                              all_goals first | (rw [_h]; done) | trace_state
                        · refine ⟨((x - 1) &&& s.rest, fd || he1, a2), ⟨hxx, hok1, hF⟩, by simp only; omega, .le2 ?_⟩
                          simp only [etN, ehN, heN, seG, stC, annC, slR, slC, List.cons_append, List.nil_append]; simp (maxSteps := 4000000) only [go_sem, seval]
                          try (first | rfl | exact ⟨rfl, rfl⟩)
                      | false =>
                        rw [if_neg (by simp)] at hF
                        simp only [Prod.mk.injEq] at hF
                        obtain ⟨⟨g1, g2⟩, g3⟩ := hF
                        rcases hcase with ⟨h, _⟩ | ⟨_, h2, h3, h4⟩
                        · rw [h] at g2; cases g2
                        subst g1 g2 g3 h2 h3 h4
                        have hF := hF0
                        simp only [etN, ehN, heN, seG, stC, annC, slR, slC, List.cons_append, List.nil_append]; simp (maxSteps := 4000000) only [go_sem, seval]
                        (repeat' (first
    | ((exfalso; omega))
    | ((omega))
    | ((refine awp_ownN (id := 10) 4 rfl ?_; simp (maxSteps := 4000000) only [go_sem, seval, List.take_succ_cons, List.take_zero]; refine callH_yield false (ehN t  s place (fd || he1) a2 ++ [some (.dfr true), some (.loop .done (some .ret) 0 etN #[32] ca cb 16)]) ?_ ?_ <;> simp only [etN, ehN, heN, seG, stC, annC, slR, slC, List.cons_append, List.nil_append] <;> (try simp (maxSteps := 4000000) only [go_sem, seval])))
    | (refine awp_seqK ?_)
    | (refine kt ?_)
    | (refine And.intro ?_ ?_)
    | ((first | refine awp_region ?_ | refine awp_draw (by kernel_rfl) (by kernel_rfl) ?_ | refine Imp.le2 ?_ | refine awp_label ?_ | refine awp_skip ?_ | refine awp_exit ?_ | refine awp_cd ?_ | refine awp_ret ?_ | refine go_split (fun _h => ?_) (fun _h => ?_)) <;> try simp (maxSteps := 4000000) only [go_sem, seval, e5, e6])
    | (intro _h)
    | (refine awp_block ?_)
    | (refine awp_scope ?_)
    | (refine cond_b (fun _h => ?_) (fun _h => ?_))
    | (show heapOK _ _ = true; kernel_rfl)
    | (show heapOK2 _ _ = true; kernel_rfl)
    | (omega)))
                        · refine semY_of_awpZ rfl rfl ?_
                          intro B w0 l m w
                          refine awp_code hca ?_
                          (repeat' (first
    | (refine awp_seqK ?_)
    | (refine kt ?_)
    | (refine And.intro ?_ ?_)
    | ((first | refine awp_region ?_ | refine awp_draw (by kernel_rfl) (by kernel_rfl) ?_ | refine Imp.le2 ?_ | refine awp_label ?_ | refine awp_skip ?_ | refine awp_exit ?_ | refine awp_cd ?_ | refine awp_ret ?_ | refine go_split (fun _h => ?_) (fun _h => ?_)) <;> try simp (maxSteps := 4000000) only [go_sem, seval])
    | (intro _h)
    | (refine awp_block ?_)
    | (refine awp_scope ?_)
    | (refine cond_b (fun _h => ?_) (fun _h => ?_))
    | (show heapOK _ _ = true; kernel_rfl)
    | (show heapOK2 _ _ = true; kernel_rfl)
    | (omega)))
                          refine awp_code hcb ?_
                          (repeat' (first
    | (refine awp_ownN 3 rfl ?_; simp (maxSteps := 4000000) only [go_sem, seval, List.take_succ_cons, List.take_zero, hst, hsn, hst2, hsn2]; (repeat refine And.intro (by omega) ?_); refine own_go (hmay) [6, 5] rfl ?_ ?_ ?_ ?_ <;> try simp (maxSteps := 4000000) only [go_sem, seval, Nat.lt_irrefl, hst, hsn, hst2, hsn2] <;> try decide)
    | (refine awp_seqK ?_)
    | (refine kt ?_)
    | (refine And.intro ?_ ?_)
    | ((first | refine awp_region ?_ | refine awp_draw (by kernel_rfl) (by kernel_rfl) ?_ | refine Imp.le2 ?_ | refine awp_label ?_ | refine awp_skip ?_ | refine awp_exit ?_ | refine awp_cd ?_ | refine awp_ret ?_ | refine go_split (fun _h => ?_) (fun _h => ?_)) <;> try simp (maxSteps := 4000000) only [go_sem, seval, hst, hsn, hst2, hsn2])
    | (intro _h)
    | (refine awp_block ?_)
    | (refine awp_scope ?_)
    | (refine cond_b (fun _h => ?_) (fun _h => ?_))
    | (show heapOK _ _ = true; kernel_rfl)
    | (show heapOK2 _ _ = true; kernel_rfl)
    | (omega)))
                          refine awp_loopN t.reports.length (fun j => ⟨mkT 88 [(2, .ptr 4 0 0), (3, .ptr 7 0 0), (4, .ptr 3 0 0), (5, .ptr 8 0 0), (6, .ptr 9 0 0), (7, .ptr 10 0 0), (8, .ptr 11 0 0), (9, .ptr 12 0 0), (10, .ptr 13 0 0), (11, .int .u8 (x : Nat)), (12, .ptr 18 0 0), (44, .int .i64 t.reports.length), (45, .int .i64 j)], ehN t  s place fd ⟨a1.v, wrM x place j a1.pl, wrM x to.day j a1.dy, a1.K⟩ ++ [some (.dfr true), some (.loop .busy none 0 etN #[32] ca cb 16), some (.cells 136 1 0 (stC to))], []⟩) (.le2 ?_) ?_
                          · simp only [etN, ehN, heN, seG, stC, annC, slR, slC, List.cons_append, List.nil_append, wrM]; simp (maxSteps := 4000000) only [go_sem, seval]
                            try (first | rfl | exact ⟨rfl, rfl⟩)
                          · intro j hj
                            have hS1 := wrM_length (now := x) (x := place) (l := a1.pl) (k := j) (by rw [hq1]; omega)
                            have hF1 := wrM_length (now := x) (x := to.day) (l := a1.dy) (k := j) (by rw [hq2]; omega)
                            rw [hq1] at hS1
                            rw [hq2] at hF1
                            rcases Nat.lt_or_eq_of_le hj with hj1 | hj1
                            · have hin := inS_c x j hx8 (by omega)
                              simp only [wrM]
                              generalize wrM x place j a1.pl = S1 at *
                              generalize wrM x to.day j a1.dy = F1 at *
                              have hss := fun x y z u v => ss_pl (x := x) (y := y) (z := z) (u := u) (S := S1) (F := F1) (i := j) (v := v) (by omega)
                              have hsd := fun x y z u v w => ss_dy (x := x) (y := y) (z := z) (u := u) (S := isp S1 j v) (F := F1) (i := j) (v := w) (by rw [isp_length (by omega)]; exact hS1) (by omega)
                              have hle1 := se_len hS1 hF1
                              have hle2 := fun v => se_len (S := isp S1 j v) (F := F1) (by rw [isp_length (by omega)]; exact hS1) hF1
                              generalize x.testBit j = b at *
                              cases b
                              · simp only [etN, ehN, heN, seG, stC, annC, slR, slC, List.cons_append, List.nil_append, Bool.false_eq_true, if_false]; simp (maxSteps := 4000000) only [go_sem, seval]
                                (repeat' (first
    | ((exfalso; omega))
    | ((omega))
    | (refine awp_seqK ?_)
    | (refine kt ?_)
    | (refine And.intro ?_ ?_)
    | ((first | refine awp_region ?_ | refine awp_draw (by kernel_rfl) (by kernel_rfl) ?_ | refine Imp.le2 ?_ | refine awp_label ?_ | refine awp_skip ?_ | refine awp_exit ?_ | refine awp_cd ?_ | refine awp_ret ?_ | refine callK_of (hin) ?_ | refine go_split (fun _h => ?_) (fun _h => ?_)) <;> try simp (maxSteps := 4000000) only [go_sem, seval])
    | (intro _h)
    | (refine awp_block ?_)
    | (refine awp_scope ?_)
    | (refine cond_b (fun _h => ?_) (fun _h => ?_))
    | (show heapOK _ _ = true; kernel_rfl)
    | (show heapOK2 _ _ = true; kernel_rfl)
    | (omega)))
                                all_goals trace_state
                              · simp only [etN, ehN, heN, seG, stC, annC, slR, slC, List.cons_append, List.nil_append, if_true]; simp (maxSteps := 4000000) only [go_sem, seval]
                                (repeat' (first
    | ((exfalso; omega))
    | ((omega))
    | (refine awp_seqK ?_)
    | (refine kt ?_)
    | (refine And.intro ?_ ?_)
    | ((first | refine awp_region ?_ | refine awp_draw3 (by kernel_rfl) (by kernel_rfl) ?_ | refine Imp.le2 ?_ | refine awp_label ?_ | refine awp_skip ?_ | refine awp_exit ?_ | refine awp_cd ?_ | refine awp_ret ?_ | refine callK_of (hin) ?_ | refine go_split (fun _h => ?_) (fun _h => ?_)) <;> try simp (maxSteps := 4000000) only [go_sem, seval, hss, hsd, hle1, hle2])
    | (intro _h)
    | (refine awp_block ?_)
    | (refine awp_scope ?_)
    | (refine cond_b (fun _h => ?_) (fun _h => ?_))
    | (show heapOK3 _ _ _ = true; kernel_rfl)
    | (show heapOK _ _ = true; kernel_rfl)
    | (show heapOK2 _ _ = true; kernel_rfl)
    | (omega)))
                                all_goals trace_state
                            · subst hj1
                              simp only [putE] at hih
                              generalize wrM x place t.reports.length a1.pl = S1 at *
                              generalize wrM x to.day t.reports.length a1.dy = F1 at *
                              clear hF hF0
                              cases fd
                              all_goals
                                simp only [etN, ehN, heN, seG, stC, annC, slR, slC, List.cons_append, List.nil_append, Bool.true_or, Bool.false_or] at hih ⊢
                                simp (maxSteps := 4000000) only [go_sem, seval]
                                (repeat' (first
    | (refine awp_ownN 4 rfl ?_; simp (maxSteps := 4000000) only [go_sem, seval, List.take_succ_cons, List.take_zero, hst2, hsn2]; (repeat refine And.intro (by omega) ?_); refine own_go (hih) [0, 1, 2, 3, 4, 5, 6, 7, 8, 9] rfl ?_ ?_ ?_ ?_ <;> try simp (maxSteps := 4000000) only [go_sem, seval, Nat.lt_irrefl, hst2, hsn2] <;> try decide)
    | ((exfalso; omega))
    | ((omega))
    | (refine awp_seqK ?_)
    | (refine kt ?_)
    | (refine And.intro ?_ ?_)
    | ((first | refine awp_region ?_ | refine awp_draw (by kernel_rfl) (by kernel_rfl) ?_ | refine Imp.le2 ?_ | refine awp_label ?_ | refine awp_skip ?_ | refine awp_exit ?_ | refine awp_cd ?_ | refine awp_ret ?_ | refine go_split (fun _h => ?_) (fun _h => ?_)) <;> try simp (maxSteps := 4000000) only [go_sem, seval, hst2, hsn2])
    | (intro _h)
    | (refine awp_block ?_)
    | (refine awp_scope ?_)
    | (refine cond_b (fun _h => ?_) (fun _h => ?_))
    | (show heapOK _ _ = true; kernel_rfl)
    | (show heapOK2 _ _ = true; kernel_rfl)
    | (omega)))
                              all_goals first | (rw [_h]; done) | trace_state
                        all_goals trace_state
                    · have h1 : oneM t (eachM t (fnS t) f) s place x a1 = ((false, true), a1) := by unfold oneM; rw [if_neg hm]
                      rw [h1] at hF
                      simp only [if_true, Bool.or_false] at hF
                      rw [Bool.not_eq_true] at hm
                      rw [hm] at hmay
                      generalize (mayS t s x).1 = to at *
                      simp only [etN, ehN, heN, seG, stC, annC, slR, slC, List.cons_append, List.nil_append, seC] at hmay ⊢
                      simp (maxSteps := 4000000) only [go_sem, seval]
                      (repeat' (first
    | ((exfalso; omega))
    | ((omega))
    | ((refine awp_ownN (id := 10) 4 rfl ?_; simp (maxSteps := 4000000) only [go_sem, seval, List.take_succ_cons, List.take_zero]; refine callH_yield true (ehN t  s place fd a1 ++ [some (.dfr true), some (.loop .ready none 0 etN #[32] ca cb 16)]) ?_ ?_ <;> simp only [etN, ehN, heN, seG, stC, annC, slR, slC, List.cons_append, List.nil_append] <;> (try simp (maxSteps := 4000000) only [go_sem, seval])))
    | (refine awp_seqK ?_)
    | (refine kt ?_)
    | (refine And.intro ?_ ?_)
    | ((first | refine awp_region ?_ | refine awp_draw (by kernel_rfl) (by kernel_rfl) ?_ | refine Imp.le2 ?_ | refine awp_label ?_ | refine awp_skip ?_ | refine awp_exit ?_ | refine awp_cd ?_ | refine awp_ret ?_ | refine go_split (fun _h => ?_) (fun _h => ?_)) <;> try simp (maxSteps := 4000000) only [go_sem, seval, e5, e6])
    | (intro _h)
    | (refine awp_block ?_)
    | (refine awp_scope ?_)
    | (refine cond_b (fun _h => ?_) (fun _h => ?_))
    | (show heapOK _ _ = true; kernel_rfl)
    | (show heapOK2 _ _ = true; kernel_rfl)
    | (omega)))
                      · refine semY_of_awpZ rfl rfl ?_
                        intro B w0 l m w
                        refine awp_code hca ?_
                        (repeat' (first
    | (refine awp_seqK ?_)
    | (refine kt ?_)
    | (refine And.intro ?_ ?_)
    | ((first | refine awp_region ?_ | refine awp_draw (by kernel_rfl) (by kernel_rfl) ?_ | refine Imp.le2 ?_ | refine awp_label ?_ | refine awp_skip ?_ | refine awp_exit ?_ | refine awp_cd ?_ | refine awp_ret ?_ | refine go_split (fun _h => ?_) (fun _h => ?_)) <;> try simp (maxSteps := 4000000) only [go_sem, seval])
    | (intro _h)
    | (refine awp_block ?_)
    | (refine awp_scope ?_)
    | (refine cond_b (fun _h => ?_) (fun _h => ?_))
    | (show heapOK _ _ = true; kernel_rfl)
    | (show heapOK2 _ _ = true; kernel_rfl)
    | (omega)))
                        refine awp_code hcb ?_
                        (repeat' (first
    | (refine awp_ownN 3 rfl ?_; simp (maxSteps := 4000000) only [go_sem, seval, List.take_succ_cons, List.take_zero, hst, hsn, hst2, hsn2]; (repeat refine And.intro (by omega) ?_); refine own_go (hmay) [6, 5] rfl ?_ ?_ ?_ ?_ <;> try simp (maxSteps := 4000000) only [go_sem, seval, Nat.lt_irrefl, hst, hsn, hst2, hsn2] <;> try decide)
    | (refine awp_seqK ?_)
    | (refine kt ?_)
    | (refine And.intro ?_ ?_)
    | ((first | refine awp_region ?_ | refine awp_draw (by kernel_rfl) (by kernel_rfl) ?_ | refine Imp.le2 ?_ | refine awp_label ?_ | refine awp_skip ?_ | refine awp_exit ?_ | refine awp_cd ?_ | refine awp_ret ?_ | refine go_split (fun _h => ?_) (fun _h => ?_)) <;> try simp (maxSteps := 4000000) only [go_sem, seval, hst, hsn, hst2, hsn2])
    | (intro _h)
    | (refine awp_block ?_)
    | (refine awp_scope ?_)
    | (refine cond_b (fun _h => ?_) (fun _h => ?_))
    | (show heapOK _ _ = true; kernel_rfl)
    | (show heapOK2 _ _ = true; kernel_rfl)
    | (omega)))
                        all_goals trace_state
                      · refine ⟨((x - 1) &&& s.rest, fd, a1), ⟨hxx, ha1, hF⟩, by simp only; omega, .le2 ?_⟩
                        simp only [etN, ehN, heN, seG, stC, annC, slR, slC, List.cons_append, List.nil_append]; simp (maxSteps := 4000000) only [go_sem, seval]
                        try (first | rfl | exact ⟨rfl, rfl⟩)
        · rfl
        · rcases hcase with ⟨_, h, _, _⟩ | ⟨_, h, _, _⟩ <;> (rw [h]; simp)
        · rcases hcase with ⟨_, _, h1, h2⟩ | ⟨_, _, h1, h2⟩ <;> (rw [h1, h2]; rfl)
        · rcases hcase with ⟨h1, h2, h3, h4⟩ | ⟨h1, h2, h3, h4⟩
          · subst h1 h2 h3 h4
            have e3 : (endM s ((fE, true), aE)).2 = { aE with K := gmPut aE.K ⟨s, hs.sl, hs.fl⟩ (!fE) } := by
              unfold endM putS; rw [if_pos rfl, dif_pos ⟨hs.sl, hs.fl⟩]
            rw [e3]
            have hmu1 := fun (f : List (AV × AV) → Prop) => mup_km (m := aE.K) (k := ⟨s, hs.sl, hs.fl⟩) (v := true) (f := f)
            have hmu2 := fun (f : List (AV × AV) → Prop) => mup_km (m := aE.K) (k := ⟨s, hs.sl, hs.fl⟩) (v := false) (f := f)
            simp only [keyV, stC] at hmu1 hmu2
            cases fE
            all_goals
              simp only [Bool.not_true, Bool.not_false]
              simp only [etN, ehN, heN, seG, stC, annC, slR, slC, List.cons_append, List.nil_append]; simp (maxSteps := 4000000) only [go_sem, seval]
              (repeat' (first
    | ((exact hkey _ _))
    | (refine awp_seqK ?_)
    | (refine kt ?_)
    | (refine And.intro ?_ ?_)
    | ((first | refine awp_region ?_ | refine awp_draw (by kernel_rfl) (by kernel_rfl) ?_ | refine Imp.le2 ?_ | refine awp_label ?_ | refine awp_skip ?_ | refine awp_exit ?_ | refine awp_cd ?_ | refine awp_ret ?_ | refine go_split (fun _h => ?_) (fun _h => ?_)) <;> try simp (maxSteps := 4000000) only [go_sem, seval, hst, hsn, hmu1, hmu2])
    | (intro _h)
    | (refine awp_block ?_)
    | (refine awp_scope ?_)
    | (refine cond_b (fun _h => ?_) (fun _h => ?_))
    | (show heapOK _ _ = true; kernel_rfl)
    | (show heapOK2 _ _ = true; kernel_rfl)
    | (omega)))
            all_goals trace_state
          · subst h1 h2 h3 h4
            have e3 : (endM s ((fE, false), aE)).2 = aE := by
              unfold endM; rw [if_neg (by simp)]
            rw [e3]
            simp only [etN, ehN, heN, seG, stC, annC, slR, slC, List.cons_append, List.nil_append]; simp (maxSteps := 4000000) only [go_sem, seval]
            (repeat' (first
    | (refine awp_seqK ?_)
    | (refine kt ?_)
    | (refine And.intro ?_ ?_)
    | ((first | refine awp_region ?_ | refine awp_draw (by kernel_rfl) (by kernel_rfl) ?_ | refine Imp.le2 ?_ | refine awp_label ?_ | refine awp_skip ?_ | refine awp_exit ?_ | refine awp_cd ?_ | refine awp_ret ?_ | refine go_split (fun _h => ?_) (fun _h => ?_)) <;> try simp (maxSteps := 4000000) only [go_sem, seval])
    | (intro _h)
    | (refine awp_block ?_)
    | (refine awp_scope ?_)
    | (refine cond_b (fun _h => ?_) (fun _h => ?_))
    | (show heapOK _ _ = true; kernel_rfl)
    | (show heapOK2 _ _ = true; kernel_rfl)
    | (omega)))
            all_goals trace_state
end Go.Am

/- Contracts of the annals functions: all orders of slides, from the beginning (printed by gtue.py). -/
namespace Go.Am
open Go.RowKit Go.Proofs
attribute [local irreducible] AWP CallS Kt goK CallK stepK evOps SemF SemY Imp
set_option maxRecDepth 4000
set_option linter.unusedSimpArgs false
set_option linter.unusedVariables false
set_option maxHeartbeats 6400000

theorem allN_c (t : Ann)  (ht : AnnOK t)  (v : Bool × List Int × List Int) (hv : fnOK v) : SemF Try.prog 51 [.agg (annC t), .fn (.func 95) [] [.ptr 0 0 0, .ptr 1 0 0, .ptr 2 0 0]] [some (.cells 35 1 0 (annC t)), some (.cells 61 1 0 (chC v)), some (.cells 4 1 0 [.bool v.1])] (.tup []) [some (.cells 35 1 0 (annC t)), some (.cells 61 1 0 (chC (allM t (fnS t) v).2.v)), some (.cells 4 1 0 [.bool (allM t (fnS t) v).2.v.1])] := by
  have h128 : (begS t).rest < 128 := by
    show 2 ^ t.reports.length - 1 < 128
    have : 2 ^ t.reports.length ≤ 2 ^ 7 := Nat.pow_le_pow_right (by omega) ht.reports.2
    omega
  have hm := eachN_c t  ht  128 (begS t) 0 ⟨v, zer7, zer7, []⟩ (begS_ok ht) h128 (Int.le_refl _) (by omega) ⟨hv, zer_ok⟩
  have hbe := begin_c t ht.reports.2
  have hz : (ints zer7 ++ ints zer7) = [.int .i64 0, .int .i64 0, .int .i64 0, .int .i64 0, .int .i64 0, .int .i64 0, .int .i64 0, .int .i64 0, .int .i64 0, .int .i64 0, .int .i64 0, .int .i64 0, .int .i64 0, .int .i64 0] := rfl
  unfold allM
  generalize (eachM t (fnS t) 128 (begS t) 0 ⟨v, zer7, zer7, []⟩) = R at *
  obtain ⟨⟨f1, m1⟩, vE, plE, dyE, KE⟩ := R
  simp only [heN, seG, hz, kmC_nil2, annC, slR, slC, List.cons_append, List.nil_append] at hm hbe ⊢
  generalize (begS t) = st at *
  simp only [stC] at hm hbe
  (refine semF_of_awp (ys := []) (fun w args => Try.call51 ..) Try.func51 rfl (fun w0 m0 wz => ?_); simp only [Try.ntmps51, Try.results51, initT, junks, rptC, clmC, slR, slC, annC, sl, List.toList_toArray, List.cons_append, List.nil_append, List.length_cons, List.length_nil, Nat.reduceAdd, Nat.reduceSub])
  (repeat' (first
    | (refine awp_seqK ?_)
    | (refine kt ?_)
    | (refine And.intro ?_ ?_)
    | ((first | refine awp_region ?_ | refine Imp.le2 ?_ | refine awp_label ?_ | refine awp_skip ?_ | refine awp_exit ?_ | refine awp_cd ?_ | refine awp_ret ?_ | refine go_split (fun _h => ?_) (fun _h => ?_)) <;> try simp (maxSteps := 4000000) only [go_sem, seval])
    | (intro _h)
    | (refine awp_block ?_)
    | (refine awp_scope ?_)
    | (refine cond_b (fun _h => ?_) (fun _h => ?_))
    | (show heapOK _ _ = true; kernel_rfl)
    | (show heapOK2 _ _ = true; kernel_rfl)
    | (omega)))
  ((repeat refine awp_seqK ?_); refine awp_draws [(3, [1, 2, 5, 6])] (by kernel_rfl) (by kernel_rfl) ?_; simp (maxSteps := 4000000) only [go_sem, seval, sg_cons, sg_nil, List.take_succ_cons, List.take_zero, List.drop_succ_cons, List.drop_zero])
  (repeat' (first
    | (refine awp_seqK ?_)
    | (refine kt ?_)
    | (refine And.intro ?_ ?_)
    | ((first | refine awp_region ?_ | refine Imp.le2 ?_ | refine awp_label ?_ | refine awp_skip ?_ | refine awp_exit ?_ | refine awp_cd ?_ | refine awp_ret ?_ | refine callK_of (hbe) ?_ | refine go_split (fun _h => ?_) (fun _h => ?_)) <;> try simp (maxSteps := 4000000) only [go_sem, seval])
    | (intro _h)
    | (refine awp_block ?_)
    | (refine awp_scope ?_)
    | (refine cond_b (fun _h => ?_) (fun _h => ?_))
    | (show heapOK _ _ = true; kernel_rfl)
    | (show heapOK2 _ _ = true; kernel_rfl)
    | (omega)))
  (refine own_go (hm) [0, 1, 2, 3, 4, 5, 6, 7, 8, 9] rfl (by simp (maxSteps := 4000000) only [go_sem, seval]) (by simp (maxSteps := 4000000) only [go_sem, seval, Nat.lt_irrefl] <;> decide) (by simp (maxSteps := 4000000) only [go_sem, seval]) ?_; simp (maxSteps := 4000000) only [go_sem, seval]; refine And.intro (frm_of (by repeat (first | exact rfl | exact ⟨_, rfl⟩ | refine And.intro ?_ ?_))) ?_; try simp (maxSteps := 4000000) only [go_sem, seval, sg_cons, sg_nil, List.take_succ_cons, List.take_zero, List.drop_succ_cons, List.drop_zero])
  (repeat' (first
    | (refine awp_seqK ?_)
    | (refine kt ?_)
    | (refine And.intro ?_ ?_)
    | ((first | refine awp_region ?_ | refine Imp.le2 ?_ | refine awp_label ?_ | refine awp_skip ?_ | refine awp_exit ?_ | refine awp_cd ?_ | refine awp_ret ?_ | refine go_split (fun _h => ?_) (fun _h => ?_)) <;> try simp (maxSteps := 4000000) only [go_sem, seval])
    | (intro _h)
    | (refine awp_block ?_)
    | (refine awp_scope ?_)
    | (refine cond_b (fun _h => ?_) (fun _h => ?_))
    | (show heapOK _ _ = true; kernel_rfl)
    | (show heapOK2 _ _ = true; kernel_rfl)
    | (omega)))
  all_goals trace_state
end Go.Am

/- Contracts of the annals functions: Find. -/
namespace Go.Am
open Go.RowKit Go.Proofs
attribute [local irreducible] AWP CallS Kt goK CallK stepK evOps SemF SemY Imp
set_option maxRecDepth 4000
set_option linter.unusedSimpArgs false
set_option linter.unusedVariables false
set_option maxHeartbeats 1600000

def fnV (t : Ann) : Bool × List Int × List Int := (allM t (fnS t) (false, [], [])).2.v
theorem slK_cong {pl pl' : List Int} : ∀ {k : Nat}, (∀ i, i < k → pl.getD i 0 = pl'.getD i 0) → slK pl k = slK pl' k
  | 0, _ => rfl
  | k + 1, h => by
    have ih := slK_cong (pl := pl) (pl' := pl') (k := k) fun i hi => h i (by omega)
    simp only [slK]
    rw [ih, h k (by omega)]
theorem fn_resp (t : Ann) : Resp t (fnS t) := fun v pl dy pl' dy' h1 h2 => by
  unfold fnS slN
  rw [slK_cong h1, tab_cg h2]
theorem fnV_spec {t : Ann} (ht : AnnOK t) : ((fnV t).1 = true ↔ ∃ C D, Chr t C D) := by
  have h := all_spec ht (fn_resp t) (false, [], [])
  have e : fnV t = (visL (gOf (fnS t)) ((runsA t).map (canon t)) (false, [], [])).1 := h
  rw [e]
  cases hr : runsA t with
  | nil =>
    constructor
    · intro h2; exact absurd h2 (by simp [visL])
    · rintro ⟨C, D, hc⟩
      obtain ⟨p, hp, _⟩ := chr_runs ht hc
      rw [hr] at hp; cases hp
  | cons p l =>
    constructor
    · intro _
      exact ⟨_, _, runs_chr ht (p := p) (by rw [hr]; simp)⟩
    · intro _
      rfl
theorem find_c (t : Ann) (ht : AnnOK t) : CallS Try.prog 65 [.agg (annC t)] (.tup [.agg (chC (fnV t)), .bool (fnV t).1]) := by
  have h := allN_c t ht (false, [], []) trivial
  have e : (allM t (fnS t) (false, [], [])).2.v = fnV t := rfl
  rw [e] at h
  generalize fnV t = V at *
  have e2 : chC (false, [], []) = [.nils, .nils] := rfl
  rw [e2] at h
  obtain ⟨b, S, D⟩ := V
  have e3 : chC (true, S, D) = [.psl false S.length (ints S), .psl false D.length (ints D)] := rfl
  have e4 : chC (false, S, D) = [.nils, .nils] := rfl
  cases b
  all_goals
    simp only [annC, slR, slC, e3, e4] at h ⊢
    (refine callS_of_awp (fun w args => Try.call65 ..) Try.func65 rfl (fun w0 m0 wz => ?_); simp only [Try.ntmps65, Try.results65, initT, junks, rptC, clmC, slR, slC, annC, sl, List.toList_toArray, List.cons_append, List.nil_append, List.length_cons, List.length_nil, Nat.reduceAdd, Nat.reduceSub])
    (repeat' (first
    | (refine awp_ownN 2 rfl ?_; simp (maxSteps := 4000000) only [go_sem, seval, List.take_succ_cons, List.take_zero]; (repeat refine And.intro (by omega) ?_); refine own_go (h) [0, 1, 2] rfl ?_ ?_ rfl ?_ <;> try simp (maxSteps := 4000000) only [go_sem, seval, Nat.lt_irrefl] <;> try decide)
    | ((exfalso; omega))
    | (refine awp_seqK ?_)
    | (refine kt ?_)
    | (refine And.intro ?_ ?_)
    | ((first | refine awp_region ?_ | refine awp_draw (by kernel_rfl) (by kernel_rfl) ?_ | refine Imp.le2 ?_ | refine awp_label ?_ | refine awp_skip ?_ | refine awp_exit ?_ | refine awp_cd ?_ | refine awp_ret ?_ | refine go_split (fun _h => ?_) (fun _h => ?_)) <;> try simp (maxSteps := 4000000) only [go_sem, seval])
    | (intro _h)
    | (refine awp_block ?_)
    | (refine awp_scope ?_)
    | (refine cond_b (fun _h => ?_) (fun _h => ?_))
    | (show heapOK _ _ = true; kernel_rfl)
    | (show heapOK2 _ _ = true; kernel_rfl)
    | (omega)))
    all_goals first | exact (rfl : AV.agg _ = AV.agg _) | (exfalso; simp at _h; done) | trace_state
def findE (t : Ann) : Int := if faultA t = 0 then (if (fnV t).1 = true then 0 else 9) else faultA t
def findV (t : Ann) : List AV := if findE t = 0 then chC (fnV t) else [.nils, .nils]
theorem Find_c (t : Ann) (hb : annOK t) (ht : faultA t = 0 → AnnOK t) : CallS Try.prog 31 [.agg (annC t)] (.tup [.agg (findV t), .int .i64 (findE t)]) := by
  have hch := check_c t hb
  unfold findV findE
  by_cases h0 : faultA t = 0
  · have ht := ht h0
    have hf := find_c t ht
    rw [if_pos h0]
    rw [h0] at hch
    generalize fnV t = V at *
    obtain ⟨b, S, D⟩ := V
    have e3 : chC (true, S, D) = [.psl false S.length (ints S), .psl false D.length (ints D)] := rfl
    have e4 : chC (false, S, D) = [.nils, .nils] := rfl
    cases b with
    | true =>
      simp only [if_true]
      simp only [annC, slR, slC, e3, e4] at hf hch ⊢
      (refine callS_of_awp (fun w args => Try.call31 ..) Try.func31 rfl (fun w0 m0 wz => ?_); simp only [Try.ntmps31, Try.results31, initT, junks, rptC, clmC, slR, slC, annC, sl, List.toList_toArray, List.cons_append, List.nil_append, List.length_cons, List.length_nil, Nat.reduceAdd, Nat.reduceSub])
      (repeat' (first
    | (refine awp_seqK ?_)
    | (refine kt ?_)
    | (refine And.intro ?_ ?_)
    | ((first | refine awp_region ?_ | refine awp_draw (by kernel_rfl) (by kernel_rfl) ?_ | refine Imp.le2 ?_ | refine awp_label ?_ | refine awp_skip ?_ | refine awp_exit ?_ | refine awp_cd ?_ | refine awp_ret ?_ | refine callK_of (hch) ?_ | refine callK_of (hf) ?_ | refine go_split (fun _h => ?_) (fun _h => ?_)) <;> try simp (maxSteps := 4000000) only [go_sem, seval])
    | (intro _h)
    | (refine awp_block ?_)
    | (refine awp_scope ?_)
    | (refine cond_b (fun _h => ?_) (fun _h => ?_))
    | (show heapOK _ _ = true; kernel_rfl)
    | (show heapOK2 _ _ = true; kernel_rfl)
    | (omega)))
      all_goals first | exact (rfl : AV.agg _ = AV.agg _) | (exfalso; simp at _h; done) | trace_state
    | false =>
      simp only [Bool.false_eq_true, if_false]
      rw [if_neg (by omega)]
      simp only [annC, slR, slC, e3, e4] at hf hch ⊢
      (refine callS_of_awp (fun w args => Try.call31 ..) Try.func31 rfl (fun w0 m0 wz => ?_); simp only [Try.ntmps31, Try.results31, initT, junks, rptC, clmC, slR, slC, annC, sl, List.toList_toArray, List.cons_append, List.nil_append, List.length_cons, List.length_nil, Nat.reduceAdd, Nat.reduceSub])
      (repeat' (first
    | (refine awp_seqK ?_)
    | (refine kt ?_)
    | (refine And.intro ?_ ?_)
    | ((first | refine awp_region ?_ | refine awp_draw (by kernel_rfl) (by kernel_rfl) ?_ | refine Imp.le2 ?_ | refine awp_label ?_ | refine awp_skip ?_ | refine awp_exit ?_ | refine awp_cd ?_ | refine awp_ret ?_ | refine callK_of (hch) ?_ | refine callK_of (hf) ?_ | refine go_split (fun _h => ?_) (fun _h => ?_)) <;> try simp (maxSteps := 4000000) only [go_sem, seval])
    | (intro _h)
    | (refine awp_block ?_)
    | (refine awp_scope ?_)
    | (refine cond_b (fun _h => ?_) (fun _h => ?_))
    | (show heapOK _ _ = true; kernel_rfl)
    | (show heapOK2 _ _ = true; kernel_rfl)
    | (omega)))
      all_goals first | exact (rfl : AV.agg _ = AV.agg _) | (exfalso; simp at _h; done) | trace_state
  · rw [if_neg h0, if_neg h0]
    simp only [annC, slR, slC] at hch ⊢
    (refine callS_of_awp (fun w args => Try.call31 ..) Try.func31 rfl (fun w0 m0 wz => ?_); simp only [Try.ntmps31, Try.results31, initT, junks, rptC, clmC, slR, slC, annC, sl, List.toList_toArray, List.cons_append, List.nil_append, List.length_cons, List.length_nil, Nat.reduceAdd, Nat.reduceSub])
    (repeat' (first
    | (refine awp_seqK ?_)
    | (refine kt ?_)
    | (refine And.intro ?_ ?_)
    | ((first | refine awp_region ?_ | refine awp_draw (by kernel_rfl) (by kernel_rfl) ?_ | refine Imp.le2 ?_ | refine awp_label ?_ | refine awp_skip ?_ | refine awp_exit ?_ | refine awp_cd ?_ | refine awp_ret ?_ | refine callK_of (hch) ?_ | refine go_split (fun _h => ?_) (fun _h => ?_)) <;> try simp (maxSteps := 4000000) only [go_sem, seval])
    | (intro _h)
    | (refine awp_block ?_)
    | (refine awp_scope ?_)
    | (refine cond_b (fun _h => ?_) (fun _h => ?_))
    | (show heapOK _ _ = true; kernel_rfl)
    | (show heapOK2 _ _ = true; kernel_rfl)
    | (omega)))
    all_goals first | exact (rfl : AV.agg _ = AV.agg _) | (exfalso; simp at _h; omega) | (exfalso; simp at _h; done) | trace_state
end Go.Am
