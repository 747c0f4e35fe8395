/- Parts AmY, Y9, Ya, Yb, Yc, Yd, Yl, Ye, Yf, Yg, Ym, Xo, UkG of the proof, one behind the other. No statement is proved here. -/
import Derived.Test.YtaofjkcenmnldaaK2
import Derived.Test.YtaofjkcenmnldaaK3
set_option linter.unusedVariables false -- all
set_option linter.unusedSimpArgs false
/- The abstract machine Am, part Y: a map that is changed no more (freeze). -/
namespace Go.Am
open Go.RowKit
/-- What stands for a value when the map b is changed no more. -/
def fm0 (b : Nat) (es : List (AV × AV)) : AV → AV
  | .ptr b' g' off => if b' = b then .junk else .ptr b' g' off
  | .osl b' g' off len => if b' = b then .junk else .osl b' g' off len
  | .fn (.func f) [] [] => .fn (.func f) [] []
  | .fn _ _ _ => .junk
  | .agg _ => .junk
  | .tup _ => .junk
  | .oslc b' g' off len cap => if b' = b then .junk else .oslc b' g' off len cap
  | .map b' => if b' = b then .pmap es else .map b'
  | x => x
def fm1 (b : Nat) (es : List (AV × AV)) : AV → AV
  | .agg ys => .agg (fzl (fm0 b es) ys)
  | .fn (.func f) us vs => .fn (.func f) (fzl (fm0 b es) us) (fzl (fm0 b es) vs)
  | .fn (.yield c) [] [] => if c = b then .junk else .fn (.yield c) [] []
  | x => fm0 b es x
def fm2 (b : Nat) (es : List (AV × AV)) : AV → AV
  | .agg ys => .agg (fzl (fm1 b es) ys)
  | .tup ys => .tup (fzl (fm1 b es) ys)
  | .fn (.func f) us vs => .fn (.func f) (fzl (fm1 b es) us) (fzl (fm1 b es) vs)
  | x => fm1 b es x
def fmB (b : Nat) (es : List (AV × AV)) : ABlk → ABlk
  | .cells t sz g' ys => .cells t sz g' (fzl (fm2 b es) ys)
  | .map fs => .map (fs.map fun e => (fm2 b es e.1, fm2 b es e.2))
  | .dfr o => .dfr o
  | .loop st pend fn T ps asg body d => .loop st pend fn (fzl (fm2 b es) T) ps asg body d
def fmO (b : Nat) (es : List (AV × AV)) : Option ABlk → Option ABlk
  | none => none
  | some k => some (fmB b es k)
variable [Base]
section
variable {w0 : World} {h h' : Nat → Option ABlk} {m : Nat → Option Loc} {w : World} {b : Nat} {es : List (AV × AV)}
structure FmH (h h' : Nat → Option ABlk) (b : Nat) (es : List (AV × AV)) : Prop where
  self : h' b = none
  other : ∀ c, c ≠ b → h' c = fmO b es (h c)
omit [Base] in
theorem FmH.cells {h h' : Nat → Option ABlk} (z : FmH h h' b es) {c : Nat} (hc : c ≠ b) {t' : TypeId} {sz' g' : Nat} {ys : List AV} (hb : h c = some (.cells t' sz' g' ys)) : h' c = some (.cells t' sz' g' (fzl (fm2 b es) ys)) := by
  rw [z.other c hc, hb]; rfl
end
end Go.Am

/- The abstract machine Am, part Y9: regions drawn in any order, with calls that are handed blocks. -/
namespace Go.Am
open Go.RowKit
/-- One call of a region that is handed blocks; W: the blocks that it writes. -/
def ownD (P : Program) (all : Array Oper) (o : Oper) (W : List Nat) (s : St) (K : St → Ef → Prop) : Prop :=
  match guardOf all s.T o with
  | some true => (match o.op with
    | .call ⟨.value f, args, _⟩ => CallH P (aev s.T f) (args.toList.map (aev s.T)) s.H fun r H' => Frm s.H H' W ∧ K ⟨lseto s.T o.dst r, H', s.D⟩ ⟨r, [], wlog H' W, true⟩
    | _ => False)
  | some false => K ⟨lseto s.T o.dst (.tup []), s.H, s.D⟩ ⟨.tup [], [], [], false⟩
  | none => False
/-- A region in parts: what stands before the call number n, the call, what stands behind it. -/
def segD (P : Program) (all : Array Oper) : List (Nat × List Nat) → List Oper → St → List Ef → (St → List Ef → Prop) → Prop
  | [], ops, s, tr, K => evOps P all ops s [] fun s' es => K s' (tr ++ es.map lift)
  | (n, W) :: l, ops, s, tr, K => evOps P all (ops.take n) s [] fun s1 es => (match ops.drop n with
    | o :: post => ownD P all o W s1 fun s2 ef => segD P all l post s2 (tr ++ es.map lift ++ [ef]) K
    | [] => False)
section
variable [Base] {P : Program} {w0 : World} {r : Option Nat} {X : Ctx} {s : St} {Q : Exit → St → Prop} {all : Array Oper}
theorem Trace2.app {i : Nat} {s s1 s2 : Sf} {es fs : List Ef} (h : Trace2 P w0 r all i s es s1) (h' : Trace2 P w0 r all (i + es.length) s1 fs s2) : Trace2 P w0 r all i s (es ++ fs) s2 := by
  induction h with
  | nil i s => simpa using h'
  | run ho hg hok rest ih =>
    rename_i i s s' o e es
    exact .run ho hg hok (ih (by simpa [Nat.add_assoc, Nat.add_comm 1] using h'))
  | skip ho hg rest ih =>
    rename_i i s s' o es
    exact .skip ho hg (ih (by simpa [Nat.add_assoc, Nat.add_comm 1] using h'))
theorem seg_trace : ∀ (l : List (Nat × List Nat)) (ops : List Oper) (i : Nat) (s : St) (tr : List Ef) (K : St → List Ef → Prop), (∀ k, k < ops.length → ops[k]? = all[i + k]?) → segD P all l ops s tr K →
    ∃ es s', Trace2 P w0 r all i s.f es s'.f ∧ es.length = ops.length ∧ K s' (tr ++ es)
  | [], ops, i, s, tr, K, hos, h => by
    obtain ⟨es, s', h1, h2, h3⟩ := ev_trace (w0 := w0) (r := r) ops i s [] _ hos h
    exact ⟨es.map lift, s', h1.two, by simpa using h2, by simpa using h3⟩
  | (n, W) :: l, ops, i, s, tr, K, hos, h => by
    simp only [segD] at h
    obtain ⟨es, s1, h1, h2, h3⟩ := ev_trace (w0 := w0) (r := r) (ops.take n) i s [] _ (fun k hk => by
      have hk' : k < n ∧ k < ops.length := by simpa [Nat.lt_min] using hk
      rw [List.getElem?_take_of_lt hk'.1]; exact hos k hk'.2) h
    simp only [List.nil_append] at h3
    cases hd : ops.drop n with
    | nil => rw [hd] at h3; exact h3.elim
    | cons o post =>
      rw [hd] at h3
      have hn : n < ops.length := by
        rcases Nat.lt_or_ge n ops.length with h4 | h4
        · exact h4
        · rw [List.drop_eq_nil_of_le h4] at hd; cases hd
      have hl2 : es.length = n := by rw [h2, List.length_take]; omega
      have hlen : ops.length = n + (1 + post.length) := by
        have := congrArg List.length hd
        simp at this; omega
      have hget : ∀ k, (o :: post)[k]? = ops[n + k]? := fun k => by rw [← hd, List.getElem?_drop]
      have ho : all[i + n]? = some o := by rw [← hos n hn, ← Nat.add_zero n, ← hget 0]; rfl
      have hpost : ∀ k, k < post.length → post[k]? = all[i + n + 1 + k]? := fun k hk => by
        have := hget (k + 1)
        simp only [List.getElem?_cons_succ] at this
        rw [this, hos (n + (k + 1)) (by omega)]; congr 1; omega
      have ht1 : Trace2 P w0 r all i s.f (es.map lift) s1.f := h1.two
      replace h3 : ownD P all o W s1 fun s2 ef => segD P all l post s2 (tr ++ es.map lift ++ [ef]) K := h3
      unfold ownD at h3
      split at h3
      · rename_i hg
        split at h3
        · rename_i f args ts hop
          obtain ⟨y, H', hsem, hf, h3⟩ := h3
          obtain ⟨fs, s', q1, q2, q3⟩ := seg_trace l post (i + n + 1) _ _ K hpost h3
          refine ⟨es.map lift ++ (⟨y, [], wlog H' W, true⟩ :: fs), s', ht1.app ?_, ?_, by simpa using q3⟩
          · rw [List.length_map, hl2]
            refine .run ho hg (call_ok hop hf hsem) ?_
            have hu := wlog_upd hf
            simp only [St.f] at q1 ⊢
            rw [← hu]
            exact q1
          · simp [hl2, q2, hlen]; omega
        · exact h3.elim
      · rename_i hg
        obtain ⟨fs, s', q1, q2, q3⟩ := seg_trace l post (i + n + 1) _ _ K hpost h3
        refine ⟨es.map lift ++ (⟨.tup [], [], [], false⟩ :: fs), s', ht1.app ?_, ?_, by simpa using q3⟩
        · rw [List.length_map, hl2]
          exact .skip ho hg q1
        · simp [hl2, q2, hlen]; omega
      · exact h3.elim
/-- **A REGION IN ANY ORDER, WITH CALLS THAT ARE HANDED BLOCKS.** -/
theorem awp_draws (l : List (Nat × List Nat)) {id : Nat} {ops : List Oper} (hm : P.follows .mixedOrders = true) (hc : regOK ops.toArray = true) (h : segD P ops.toArray l ops s [] fun s' es => heapOK2 ops.toArray es = true ∧ Q .normal s') :
    AWP P w0 r X (.region id ops.toArray true) s Q := by
  intro a w ⟨ex, hex, hs⟩
  obtain ⟨es, s', ht, hl, hk⟩ := seg_trace (w0 := w0) (r := r) l ops 0 s [] _ (fun k _ => by simp) h
  simp only [List.nil_append] at hk
  exact draw_sound2 (Z := X.Z) (mz := X.mz) (wz := X.wz) hm ht (by simpa using hl) hc hk.1 (fun a w hs => ⟨s', hk.2, ex, hex, hs⟩) a w hs
end
section
variable {P : Program} {all : Array Oper} {d : Option Tmp} {ty : TypeId} {ps : String} {af : Array Edge} {T : List AV} {H : List (Option ABlk)} {D W : List Nat} {K : St → Ef → Prop} {K2 : St → List Ef → Prop} {s : St} {tr : List Ef} {ops : List Oper}
theorem od_free {f : Operand} {args : Array Operand} {ts : Array TypeId} : ownD P all ⟨d, .call ⟨.value f, args, ts⟩, ty, ps, af, none⟩ W ⟨T, H, D⟩ K = CallH P (aev T f) (args.toList.map (aev T)) H fun r H' => Frm H H' W ∧ K ⟨lseto T d r, H', D⟩ ⟨r, [], wlog H' W, true⟩ := nrfl rfl
theorem od_guard {l : List Oper} {j : Nat} {wn : Bool} {f : Operand} {args : Array Operand} {ts : Array TypeId} : ownD P l.toArray ⟨d, .call ⟨.value f, args, ts⟩, ty, ps, af, some (j, wn)⟩ W ⟨T, H, D⟩ K =
    guardK (gget T (gtmp l j)) wn (CallH P (aev T f) (args.toList.map (aev T)) H fun r H' => Frm H H' W ∧ K ⟨lseto T d r, H', D⟩ ⟨r, [], wlog H' W, true⟩) (K ⟨lseto T d (.tup []), H, D⟩ ⟨.tup [], [], [], false⟩) := by
  simp only [ownD, guardOf, gtmp_is, guardK]
  cases hg : gtmp l j with
  | none => rfl
  | some t =>
    simp only [gget]
    cases lget T t <;> first | rfl | skip
    all_goals (rename_i b; cases b <;> cases wn <;> rfl)
theorem sg_nil : segD P all [] ops s tr K2 = evOps P all ops s [] fun s' es => K2 s' (tr ++ es.map lift) := nrfl rfl
theorem sg_cons {n : Nat} {l : List (Nat × List Nat)} : segD P all ((n, W) :: l) ops s tr K2 = evOps P all (ops.take n) s [] fun s1 es => (match ops.drop n with
    | o :: post => ownD P all o W s1 fun s2 ef => segD P all l post s2 (tr ++ es.map lift ++ [ef]) K2
    | [] => False) := nrfl rfl
/-- Blocks that differ at W alone. -/
def frmK (W : List Nat) : Nat → List (Option ABlk) → List (Option ABlk) → Prop
  | i, [], [] => W.all (fun b => decide (b < i)) = true
  | i, x :: H, y :: H' => (match W.contains i with | true => ∃ k, y = some k | false => y = x) ∧ frmK W (i + 1) H H'
  | i, [], y :: H' => (match W.contains i with | true => ∃ k, y = some k | false => y = none) ∧ frmK W (i + 1) [] H'
  | _, _ :: _, [] => False
theorem frmK_spec (W : List Nat) : ∀ (H' H : List (Option ABlk)) (i : Nat), frmK W i H H' → (∀ b, i + b ∉ W → hget H' b = hget H b) ∧ (∀ b, i + b ∈ W → ∃ k, hget H' b = some k)
  | [], [], i, h => by
    refine ⟨fun b _ => rfl, fun b hb => ?_⟩
    simp only [frmK, List.all_eq_true, decide_eq_true_eq] at h
    have := h _ hb; omega
  | [], x :: H, i, h => by simp [frmK] at h
  | y :: H', [], i, h => by
    obtain ⟨h1, h2⟩ := h
    obtain ⟨i1, i2⟩ := frmK_spec W H' [] (i + 1) h2
    refine ⟨fun b hb => ?_, fun b hb => ?_⟩
    · cases b with
      | zero =>
        have : W.contains i = false := by simpa using hb
        rw [this] at h1; simpa [hget] using h1
      | succ b => have := i1 b (by rwa [show i + 1 + b = i + (b + 1) by omega]); simpa [hget] using this
    · cases b with
      | zero =>
        have : W.contains i = true := by simpa using hb
        rw [this] at h1; simpa [hget] using h1
      | succ b => have := i2 b (by rwa [show i + 1 + b = i + (b + 1) by omega]); simpa [hget] using this
  | y :: H', x :: H, i, h => by
    obtain ⟨h1, h2⟩ := h
    obtain ⟨i1, i2⟩ := frmK_spec W H' H (i + 1) h2
    refine ⟨fun b hb => ?_, fun b hb => ?_⟩
    · cases b with
      | zero =>
        have : W.contains i = false := by simpa using hb
        rw [this] at h1; simpa [hget] using h1
      | succ b => have := i1 b (by rwa [show i + 1 + b = i + (b + 1) by omega]); simpa [hget] using this
    · cases b with
      | zero =>
        have : W.contains i = true := by simpa using hb
        rw [this] at h1; simpa [hget] using h1
      | succ b => have := i2 b (by rwa [show i + 1 + b = i + (b + 1) by omega]); simpa [hget] using this
theorem frm_of {W : List Nat} {H H' : List (Option ABlk)} (h : frmK W 0 H H') : Frm H H' W := by
  obtain ⟨h1, h2⟩ := frmK_spec W H' H 0 h
  exact ⟨fun b hb => h1 b (by simpa using hb), fun b hb => h2 b (by simpa using hb)⟩
end
attribute [go_sem] od_free od_guard
end Go.Am

/- The abstract machine Am, part Ya: the numbers of new blocks changed (what a recursion hands back). -/
namespace Go.Am
open Go.RowKit
end Go.Am

/- The abstract machine Am, part Yb: marks of ranges that are over are hidden (loops with ranges over functions in their rounds). -/
namespace Go.Am
open Go.RowKit
section
variable {b g : Nat} {xs : List AV} {es : List (AV × AV)}
theorem fzB_c {t : TypeId} {sz g' : Nat} {ys : List AV} : fzB b g xs (.cells t sz g' ys) = .cells t sz g' (fzl (fz2 b g xs) ys) := nrfl rfl
theorem fzB_m {m : List (Int × Int × Int)} : fzB b g xs (.map (mpC m)) = .map (mpC m) := by
  simp only [fzB, mpC, List.map_map]; rfl
theorem fzB_d {o : Bool} : fzB b g xs (.dfr o) = .dfr o := nrfl rfl
theorem fzB_l {st : LoopState} {pend : Option Code} {fn : FuncId} {T : List AV} {ps : Array Tmp} {asg body : Code} {d : Nat} : fzB b g xs (.loop st pend fn T ps asg body d) = .loop st pend fn (fzl (fz2 b g xs) T) ps asg body d := nrfl rfl
/-- Cells that no freezing changes. -/
def still : AV → Bool
  | .int _ _ => true
  | .bool _ => true
  | .psl _ _ _ => true
  | .pptr _ _ => true
  | .pmap _ => true
  | _ => false
/-- A list of cells that no freezing changes. -/
class Still (ys : List AV) : Prop where
  h : ∀ y ∈ ys, still y = true
theorem fz_still {y : AV} (h : still y = true) : fz2 b g xs y = y := by cases y <;> first | rfl | cases h
theorem fzl_id {f : AV → AV} : ∀ {ys : List AV}, (∀ y ∈ ys, f y = y) → fzl f ys = ys
  | [], _ => rfl
  | y :: ys, h => by simp only [fzl]; rw [h y (by simp), fzl_id (fun z hz => h z (by simp [hz]))]
theorem fq_pure {ys : List AV} [s : Still ys] : fzl (fz2 b g xs) ys = ys := fzl_id fun y hy => fz_still (s.h y hy)
end
variable [Base]
/-- The marks of a state are open, and forgotten behind it. -/
def hidD (H H' : List (Option ABlk)) : List Nat → Prop
  | [] => True
  | d :: ds => (hget H d = some (.dfr true) ∧ hget H' d = none ∧ d ∉ ds) ∧ hidD H H' ds
omit [Base] in
theorem hidD_spec {H H' : List (Option ABlk)} : ∀ {D : List Nat}, hidD H H' D → D.Nodup ∧ ∀ d ∈ D, hget H d = some (.dfr true) ∧ hget H' d = none
  | [], _ => ⟨by simp, by simp⟩
  | d :: ds, h => by
    obtain ⟨⟨h1, h2, h3⟩, h4⟩ := h
    obtain ⟨h5, h6⟩ := hidD_spec h4
    refine ⟨List.nodup_cons.2 ⟨h3, h5⟩, fun x hx => ?_⟩
    rcases List.mem_cons.1 hx with rfl | hx
    · exact ⟨h1, h2⟩
    · exact h6 x hx
theorem SatC.hide {w0 : World} {X : Ctx} {s s' : St} {a : Act} {w : World} (hs : SatC w0 X s a w) (hX : ∀ b, X.mz b = none) (hl : Le2 X ⟨s.T, s.H, []⟩ s') (hd : hidD s.H s'.H s.D) : SatC w0 X s' a w := by
  obtain ⟨h1, h2, h3, _, h5⟩ := hl
  obtain ⟨ex, hex, m, hs, hx⟩ := hs
  obtain ⟨hlen, htmp⟩ := leT_spec h1
  have hblk := leH_spec h2
  obtain ⟨hnd, hds⟩ := hidD_spec hd
  have hp : ∀ b, liveIn s'.H b = true → hget s'.H b = hget s.H b := by
    intro b hb
    obtain ⟨k, hk⟩ := Option.isSome_iff_exists.1 hb
    rw [hk, (hblk b k hk).1]
  obtain ⟨ls, a1, a2, a3⟩ := hs.marks
  have at_ : ∀ j (x : j < ls.length), ∃ (y : j < s.D.length), m s.D[j] = some ls[j] ∧ w.heap[ls[j].c]? = some (.deferred (some [])) ∧ hget s'.H s.D[j] = none := by
    intro j x
    have y : j < s.D.length := by rw [← a1]; exact x
    refine ⟨y, (a2 j y x).1, ?_, (hds _ (List.getElem_mem y)).2⟩
    obtain ⟨l', e1, e2⟩ := hs.good.blk _ _ (hds _ (List.getElem_mem y)).1
    rw [(a2 j y x).1] at e1; cases e1
    simpa using e2
  have newc : ∀ j (x : j < ls.length), w0.heap.size ≤ ls[j].c ∧ X.wz.heap.size ≤ ls[j].c ∧ Un (killM m (liveIn s'.H)) w ls[j].c := by
    intro j x
    obtain ⟨y, m1, m2, m3⟩ := at_ j x
    refine ⟨hs.good.base _ _ m1, ?_, lt_of_heap m2, fun b l hb => ?_⟩
    · rcases Nat.lt_or_ge ls[j].c X.wz.heap.size with h6 | h6
      · have hun : Un X.mz X.wz ls[j].c := ⟨h6, fun b l hb => by rw [hX b] at hb; cases hb⟩
        exact absurd rfl ((hx.ok _ hun).2.2 _ _ m1)
      · exact h6
    · unfold killM at hb
      split at hb
      · rename_i hlv
        intro e
        have := hs.good.inj b s.D[j] l ls[j] hb m1 e
        subst this
        simp [liveIn, m3] at hlv
      · cases hb
  refine ⟨ls.map (·.c) ++ ex, fun c hc => ?_, killM m (liveIn s'.H), ?_, ext_kill hx h5 hp⟩
  · rcases List.mem_append.1 hc with hc | hc
    · obtain ⟨l, hl, rfl⟩ := List.mem_map.1 hc
      obtain ⟨j, x, rfl⟩ := List.mem_iff_getElem.1 hl
      exact (newc j x).2.1
    · exact hex c hc
  simp only at hlen htmp h3
  rw [hlen, h3]
  refine ⟨hs.good.kill hp (fun b hb => ?_) (fun b k hk => (hblk b k hk).2), hs.size, fun j hj => ?_, ⟨?_, fun c hc => ?_⟩, [], rfl, fun j x => by simp at x, ?_⟩
  · simpa [liveIn] using hb
  · obtain ⟨v, hv, hr⟩ := hs.tmps j hj
    exact ⟨v, hv, rep2_kill (rep_sub hr (htmp j).1) (htmp j).2 hp⟩
  · refine List.nodup_append.2 ⟨?_, hs.roots.1, fun c hc c' hc' e => ?_⟩
    · refine List.pairwise_iff_getElem.2 (fun i j hi hj hij e => ?_)
      simp only [List.getElem_map] at e
      have hi' : i < ls.length := by simpa using hi
      have hj' : j < ls.length := by simpa using hj
      obtain ⟨y1, m1, _, _⟩ := at_ i hi'
      obtain ⟨y2, m2, _, _⟩ := at_ j hj'
      have h7 := hs.good.inj _ _ _ _ m1 m2 e
      exact List.pairwise_iff_getElem.1 hnd i j y1 y2 hij h7
    · subst e
      obtain ⟨l, hl, rfl⟩ := List.mem_map.1 hc
      obtain ⟨j, x, rfl⟩ := List.mem_iff_getElem.1 hl
      obtain ⟨y, m1, _, _⟩ := at_ j x
      exact (hs.roots.2 _ hc').2.1.2 _ _ m1 rfl
  · rcases List.mem_append.1 hc with hc | hc
    · obtain ⟨l, hl, rfl⟩ := List.mem_map.1 hc
      obtain ⟨j, x, rfl⟩ := List.mem_iff_getElem.1 hl
      exact ⟨(newc j x).1, (newc j x).2.2, (at_ j x).choose_spec.2.1⟩
    · obtain ⟨b1, b2, b3⟩ := hs.roots.2 c hc
      exact ⟨b1, un_kill b2, b3⟩
  · rw [a3]; simp
/-- From here on the marks are hidden. -/
theorem Imp.hide {w0 : World} {X : Ctx} {s s' : St} (hX : ∀ b, X.mz b = none) (hl : Le2 X ⟨s.T, s.H, []⟩ s') (hd : hidD s.H s'.H s.D) : Imp w0 X s s' := fun _ _ hs => hs.hide hX hl hd
end Go.Am

/- The abstract machine Am, part Yc: a region in the order of its text with several calls that are handed blocks. -/
namespace Go.Am
open Go.RowKit
end Go.Am

/- The abstract machine Am, part Yd: literals as lists of their own. -/
namespace Go.Am
open Go.RowKit
set_option linter.unusedSimpArgs false
set_option linter.unusedVariables false
/-- A literal as a list of its own. -/
def litK (P : Program) (op : Op) (ρ : Operand → AV) (nx : Nat) (K : E → Prop) : Prop := match op with
  | .buildSlice t len parts => (match tslice P t with
    | some e => (match tsz P e, tzero P e with
      | some sz, some zs => zs.length = sz ∧ 0 < sz ∧ 0 < len ∧ len * sz ≤ 16777216 ∧ (∀ x ∈ zs, cellPure x = true) ∧ (match afill (fun i => some (i * sz, sz)) (List.replicate len zs).flatten (parts.toList.map fun p => (p.1, ρ p.2)) with
        | some xs => xs.length = len * sz ∧ K ⟨.osl nx 0 0 len, [], some (nx, .cells e sz 0 xs)⟩
        | none => False)
      | _, _ => False)
    | none => False)
  | _ => False
section
variable [Base] {P : Program} {w0 : World} {r : Option Nat} {o : Oper} {ρ : Operand → AV} {h : Nat → Option ABlk} {nx : Nat} {K : E → Prop}
theorem sound_lit (hn : h nx = none) (hk : litK P o.op ρ nx K) : ∃ e, K e ∧ OpOK P w0 r o ρ h e := by
  unfold litK at hk
  split at hk
  · rename_i t len parts ho
    cases ht : tslice P t with
    | none => simp [ht] at hk
    | some e =>
      simp only [ht] at hk
      cases hs : tsz P e with
      | none => simp [hs] at hk
      | some sz =>
        cases hz : tzero P e with
        | none => simp [hs, hz] at hk
        | some zs =>
          simp only [hs, hz] at hk
          obtain ⟨hzl, hpos, hlen, hbig, hp, hk⟩ := hk
          cases hf : afill (fun i => some (i * sz, sz)) (List.replicate len zs).flatten (parts.toList.map fun p => (p.1, ρ p.2)) with
          | none => simp [hf] at hk
          | some xs =>
            simp only [hf] at hk
            obtain ⟨hxl, hk⟩ := hk
            refine ⟨_, hk, fun h' m w ac next Q _ hwr hg hop hnext => ?_⟩
            have hb' : h' nx = none := (hwr nx _ rfl).trans hn
            obtain ⟨zv, hzv, rfl, it, hit, hitz⟩ := tzero_spec hz
            have hzsz : zv.cells.size = sz := by simpa using hzl
            obtain ⟨vs, hfill, hr⟩ := fill_sound (h' := h') (m := m) (w := w) (place' := fun i => some (i * sz, sz)) (fun _ => rfl) ac.eval parts.toList _ xs _ hf ((zero_rep hp).flatten len) (fun p hpm => hop p.2 (by
              simp only [ho, Op.operands, List.mem_toArray, List.mem_map]
              exact ⟨p, hpm, rfl⟩))
            obtain ⟨g1, e1⟩ := good_new (t := e) (sz := sz) (rest := []) hg hb' (Below.refl _ w) hr
            simp only [List.append_nil] at g1 e1
            have hvl : vs.length = len * sz := by rw [← hxl]; exact hr.1.symm
            have hlm : len ≤ maxLen := by
              have : len * 1 ≤ len * sz := Nat.mul_le_mul_left _ hpos
              simp only [maxLen]; omega
            refine wp_val (by simp [ho]) ?_ (hnext _ _ _ g1 e1 (.osl (v := .slice (some ⟨w.heap.size, 0, none⟩) len len) (upd_same _ _ _) (Nat.le_refl _) rfl (fun _ => .inr ⟨_, len, upd_same _ _ _, rfl, Nat.le_refl _, by simp only; omega, hlm⟩)))
            have hz2 : ((Array.range (len * sz)).map (fun i => zv.cells[i % zv.cells.size]!)) = (List.replicate len zv.cells.toList).flatten.toArray := by
              apply Array.toList_inj.1
              rw [← hzsz, zeros_toList zv.cells len (by omega)]
            have hl0 : ¬ len * sz = 0 := by have := Nat.mul_pos hlen hpos; omega
            have hnb : ¬ (len * sz > 2 ^ 24) := by omega
            simp only [execOp, ho, Instr.buildSlice, Sem.run_bind, run_underlying (tslice_spec ht), Result.andThen_ok, tsz_spec hs, hnb, if_false, hl0, hzv, Sem.run_pure, hz2]
            have hf2 : Instr.fill (fun i => some (i * sz, sz)) (List.replicate len zv.cells.toList).flatten.toArray (parts.map fun (i, x) => (i, ac.eval x)).toList = some vs.toArray := by simpa using hfill
            simp only [hf2, newRow, Sem.run_bind, run_newObj, Result.andThen_ok, Sem.run_pure]
            rfl
  · exact hk.elim
end
/-- A region of which some operations (told by flags) are literals that become lists of their own. -/
def evOpsL (P : Program) (all : Array Oper) : List Bool → List Oper → St → List E → (St → List E → Prop) → Prop
  | true :: fs, o :: os, s, tr, K => guardOf all s.T o = some true ∧ litK P o.op (aev s.T) s.H.length fun e => evOpsL P all fs os ⟨lseto s.T o.dst e.val, hseto s.H e.wr, s.D⟩ (tr ++ [⟨e.val, e.rd, e.wr⟩]) K
  | false :: fs, o :: os, s, tr, K => evOps P all [o] s tr fun s' tr' => evOpsL P all fs os s' tr' K
  | _, os, s, tr, K => evOps P all os s tr K
section
variable [Base] {P : Program} {w0 : World} {r : Option Nat} {all : Array Oper}
theorem trace_app {i : Nat} {s s' s'' : St} {es fs : List E} (h : Trace P w0 r all i s es s') : Trace P w0 r all (i + es.length) s' fs s'' → Trace P w0 r all i s (es ++ fs) s'' := by
  induction h with
  | nil i s => intro h2; simpa using h2
  | run ho hg hok rest ih => intro h2; exact .run ho hg hok (ih (by rw [List.length_cons] at h2; rw [show ∀ a b : Nat, a + 1 + b = a + (b + 1) from fun a b => by omega]; exact h2))
  | skip ho hg rest ih => intro h2; exact .skip ho hg (ih (by rw [List.length_cons] at h2; rw [show ∀ a b : Nat, a + 1 + b = a + (b + 1) from fun a b => by omega]; exact h2))
theorem evL_trace : ∀ (fs : List Bool) (os : List Oper) (i : Nat) (s : St) (tr : List E) (K : St → List E → Prop), (∀ k, k < os.length → os[k]? = all[i + k]?) → evOpsL P all fs os s tr K →
    ∃ es s', Trace P w0 r all i s es s' ∧ es.length = os.length ∧ K s' (tr ++ es)
  | [], os, i, s, tr, K, hos, hk => ev_trace os i s tr K hos (by simpa [evOpsL] using hk)
  | true :: fs, [], i, s, tr, K, hos, hk => ev_trace [] i s tr K hos (by simpa [evOpsL] using hk)
  | false :: fs, [], i, s, tr, K, hos, hk => ev_trace [] i s tr K hos (by simpa [evOpsL] using hk)
  | true :: fs, o :: os, i, s, tr, K, hos, hk => by
    have ho : all[i]? = some o := by have := hos 0 (by simp); simpa using this.symm
    have hos' : ∀ k, k < os.length → os[k]? = all[i + 1 + k]? := fun k hk => by have := hos (k + 1) (by simpa using hk); simp only [List.getElem?_cons_succ] at this; rw [this]; congr 1; omega
    simp only [evOpsL] at hk
    obtain ⟨hg, hk⟩ := hk
    obtain ⟨e, hk, hok⟩ := sound_lit (w0 := w0) (r := r) (hget_length s.H _ (Nat.le_refl _)) hk
    obtain ⟨es, s', h1, h2, h3⟩ := evL_trace fs os (i + 1) _ _ K hos' hk
    exact ⟨e :: es, s', .run ho hg hok h1, by simp [h2], by simpa using h3⟩
  | false :: fs, o :: os, i, s, tr, K, hos, hk => by
    have ho : all[i]? = some o := by have := hos 0 (by simp); simpa using this.symm
    have hos' : ∀ k, k < os.length → os[k]? = all[i + 1 + k]? := fun k hk => by have := hos (k + 1) (by simpa using hk); simp only [List.getElem?_cons_succ] at this; rw [this]; congr 1; omega
    simp only [evOpsL] at hk
    obtain ⟨e1, s1, t1, l1, hk⟩ := ev_trace (w0 := w0) (r := r) [o] i s tr _ (fun k hk1 => by
      simp only [List.length_singleton] at hk1
      have : k = 0 := by omega
      subst this; simpa using ho.symm) hk
    obtain ⟨es, s', h1, h2, h3⟩ := evL_trace fs os (i + 1) _ _ K hos' hk
    refine ⟨e1 ++ es, s', trace_app t1 (by rw [l1]; exact h1), by rw [List.length_append, l1, h2]; simp; omega, by rw [List.append_assoc] at h3; exact h3⟩
variable {X : Ctx} {s : St} {Q : Exit → St → Prop}
theorem awp_regionL (fs : List Bool) {id : Nat} {ops : List Oper} (h : evOpsL P ops.toArray fs ops s [] fun s' _ => Q .normal s') : AWP P w0 r X (.region id ops.toArray false) s Q := by
  intro a w ⟨ex, hex, hs⟩
  obtain ⟨es, s', ht, hl, hk⟩ := evL_trace (w0 := w0) (r := r) fs ops 0 s [] _ (fun k _ => by simp) h
  refine wpIn_region ?_
  have := trace_seq2 (Z := X.Z) (mz := X.mz) (wz := X.wz) (Q := fun e a' w' => ∃ s', Q e s' ∧ SatC w0 X s' a' w') ht.two (fun a w hs => ⟨s', hk, ex, hex, hs⟩) a w hs
  rw [List.length_map, hl] at this
  simpa [List.range_eq_range'] using this
end
section
variable {P : Program} {all : Array Oper} {fs : List Bool} {os : List Oper} {T : List AV} {H : List (Option ABlk)} {D : List Nat} {s : St} {tr : List E} {K : St → List E → Prop} {d : Option Tmp} {ty : TypeId} {ps : String} {af : Array Edge}
theorem eL_n : evOpsL P all [] os s tr K = evOps P all os s tr K := by cases os <;> rfl
theorem eL_f {o : Oper} : evOpsL P all (false :: fs) (o :: os) s tr K = evOps P all [o] s tr fun s' tr' => evOpsL P all fs os s' tr' K := nrfl rfl
theorem eL_t {t : TypeId} {len : Nat} {parts : Array (Nat × Operand)} : evOpsL P all (true :: fs) (⟨d, .buildSlice t len parts, ty, ps, af, none⟩ :: os) ⟨T, H, D⟩ tr K = optK (tslice P t) fun e => optK (tsz P e) fun sz => optK (tzero P e) fun zs =>
    zs.length = sz ∧ 0 < sz ∧ 0 < len ∧ len * sz ≤ 16777216 ∧ pureL zs ∧ optK (afill (fun i => some (i * sz, sz)) (List.replicate len zs).flatten (parts.toList.map fun p => (p.1, aev T p.2))) fun xs => xs.length = len * sz ∧
      evOpsL P all fs os ⟨lseto T d (.osl H.length 0 0 len), hset H H.length (.cells e sz 0 xs), D⟩ (tr ++ [⟨.osl H.length 0 0 len, [], some (H.length, .cells e sz 0 xs)⟩]) K := by
  simp only [evOpsL, litK]
  have hg : (guardOf all T ⟨d, .buildSlice t len parts, ty, ps, af, none⟩ = some true) = True := by simp [guardOf]
  rw [hg, true_and]
  cases tslice P t with
  | none => rfl
  | some e =>
    simp only [optK]
    cases tsz P e with
    | none => rfl
    | some sz =>
      cases tzero P e with
      | none => rfl
      | some zs =>
        simp only [pureL]
        cases afill (fun i => some (i * sz, sz)) (List.replicate len zs).flatten (parts.toList.map fun p => (p.1, aev T p.2)) <;> rfl
end
end Go.Am

/- The abstract machine Am, part Yl: 'append' of an own list to an own list, as an operation of a region. -/
namespace Go.Am
open Go.RowKit
set_option linter.unusedSimpArgs false
set_option linter.unusedVariables false
section
variable [Base] {P : Program} {w0 : World} {r : Option Nat} {o : Oper} {ρ : Operand → AV} {h : Nat → Option ABlk}
/-- 'append' to a list of the call's own, of cells that lie somewhere. -/
theorem append_own {t e : TypeId} {ty : TypeId} {sz bys : Nat} {zs : List AV} {b g n len : Nat} {xs ys : List AV} {h' : Nat → Option ABlk} {m : Nat → Option Loc} {w : World} {sv : Value} {c oo cx : Nat} {news : List Value}
    (ht : tslice P t = some e) (hs : tsz P e = some sz) (hby : tbytes P e = some bys) (hz : tzero P e = some zs) (hzl : zs.length = sz) (hpos : 0 < sz)
    (hyl : ys.length = n * sz) (hxl : xs.length = len * sz) (hbytes : (len + n) * bys ≤ 140737488355328) (h63 : len + n ≤ 9223372036854775807) (hn0 : 0 < n)
    (hg : Good w0 h' m w) (hnews : RepL h' m w ys news) (hncell : ∀ (j : Nat) (u : Value), news[j]? = some u → w.cell? ((⟨c, oo, none⟩ : Addr).add j) = some u)
    (hb : h' b = some (.cells e sz g xs)) (hsr : Rep h' m w (.osl b g 0 len) sv) :
    ∃ v w' m', (Builtin.append_ #[t, t] ty #[sv, .slice (some ⟨c, oo, none⟩) n cx]).run P w = .ok v w' ∧ Good w0 (upd h' b (some (.cells e sz (g + 1) (xs ++ ys)))) m' w' ∧ Ext h' m w (upd h' b (some (.cells e sz (g + 1) (xs ++ ys)))) m' w' ∧
      Rep (upd h' b (some (.cells e sz (g + 1) (xs ++ ys)))) m' w' (.osl b (g + 1) 0 (len + n)) v := by
  obtain ⟨zv, hzv, rfl, it, hit, hitz⟩ := tzero_spec hz
  have hzsz : zv.cells.size = sz := by simpa using hzl
  have hbi := tbytes_spec hby hit
  have hsi := tsz_info hs hit
  have hu := tslice_spec ht
  have hb0 : ∀ k0, h' b = some k0 → ∃ g0 xs0, k0 = .cells e sz g0 xs0 ∧ g0 < g + 1 := by
    intro k0 hk0
    rw [hb] at hk0; cases hk0; exact ⟨g, xs, rfl, by omega⟩
  have hnone := hnews.2.1
  have hnl := hnews.1
  have hnl2 : news.length = n * it.size := by rw [← hnl, hyl, hsi]
  have hbnd : (len + n) * it.bytes ≤ 140737488355328 := by rw [hbi]; exact hbytes
  have hsv : (m b = none ∧ len = 0 ∧ sv = .slice none 0 0 ∧ xs = []) ∨ ∃ l cap, m b = some l ∧ sv = .slice (some ⟨l.c, 0, none⟩) len cap ∧ len ≤ cap ∧ 0 + cap * sz ≤ l.n ∧ cap ≤ maxLen := by
    rcases rep_osl hsr hb with ⟨a1, a2, a3, a4⟩ | ⟨l, cap, a1, a2, a3, a4, a5⟩
    · exact .inl ⟨a1, a3, a4, List.eq_nil_of_length_eq_zero (by rw [hxl, a3]; simp)⟩
    · exact .inr ⟨l, cap, a1, a2, a3, a4, a5⟩
  rcases hsv with ⟨hm, rfl, rfl, rfl⟩ | ⟨l, cap, hm, rfl, hc1, hc2, hc3⟩
  · have hrun := run_append_nil (P := P) w t ty e it zv hu hit hitz ⟨c, oo, none⟩ n cx news hnl2 hncell (by omega) (by omega) (by simp only [Nat.zero_add] at hbnd; omega)
    obtain ⟨g1, e1⟩ := good_move (t := e) (sz := sz) (g' := g + 1) (rest := (Builtin.zeroCells zv.cells (grownCap w n 0 e - n)).toList) hg hb0 (below_drew w) hnews
    have harr : news.toArray ++ Builtin.zeroCells zv.cells (grownCap w n 0 e - n) = (news ++ (Builtin.zeroCells zv.cells (grownCap w n 0 e - n)).toList).toArray := by
      apply Array.toList_inj.1; simp
    rw [harr] at hrun
    have hgc := grownCap_ge w n 0 e
    have hgm := grownCap_le_maxLen w n 0 e (by simp only [maxLen]; omega)
    simp only [List.nil_append, Nat.zero_add]
    refine ⟨_, _, _, hrun, g1, e1, ?_⟩
    refine .osl (upd_same _ _ _) (Nat.le_refl _) rfl (fun _ => .inr ⟨_, grownCap w n 0 e, upd_same _ _ _, rfl, hgc, ?_, hgm⟩)
    rw [Nat.zero_add]
    refine Nat.le_of_eq ?_
    exact (grown_size zv.cells sz n _ hzsz news (by rw [← hnl, hyl]) hgc).symm
  · obtain ⟨arr, hheap, hasz, hlen, vs, hvs, hcell, hrep⟩ := blk_cells hg hb hm
    have hcur : RepL h' m w xs ((List.range xs.length).map vs) := by
      refine ⟨by simp, fun u hu => ?_, fun j a b => ?_⟩
      · simp only [List.mem_map, List.mem_range] at hu
        obtain ⟨j, hj, rfl⟩ := hu
        exact (hcell j hj).2
      · simp only [List.getElem_map, List.getElem_range]; exact hrep j a
    by_cases hroom : len + n ≤ cap
    · have hfit : len * it.size + news.length ≤ arr.size := by
        rw [hnl2, hsi, ← Nat.add_mul, hasz]
        have hmr := Nat.mul_le_mul_right sz hroom
        omega
      have hrun := run_append_room (P := P) w t ty e it hu hit l.c len cap arr hheap ⟨c, oo, none⟩ n cx news hnl2 hncell hnone hroom hfit
      rw [hsi, ← hxl] at hrun
      rw [hsi, ← hxl] at hfit
      have hsame : ∀ c', c' < w.heap.size → (∀ l0, m b = some l0 → l0.c ≠ c') → (w.setRow l.c (arr.toList.take xs.length ++ news ++ arr.toList.drop (xs.length + news.length)).toArray).heap[c']? = w.heap[c']? :=
        fun c' _ hne => setRow_other w l.c c' _ (fun he => hne l hm he.symm)
      have hfits : ∀ k0, h' b = some k0 → Fits k0 (.cells e sz (g + 1) (xs ++ ys)) (m b ≠ some l) := by
        intro k0 hk0; obtain ⟨g0, xs0, rfl, hlt⟩ := hb0 k0 hk0
        exact ⟨rfl, rfl, Nat.le_of_lt hlt, fun he => by omega⟩
      have e1 := ext_put (k := .cells e sz (g + 1) (xs ++ ys)) (l' := l) hg (Nat.le_of_eq (setRow_size w l.c _).symm) hsame (.inl hm) hfits
      refine ⟨_, _, _, hrun, good_put hg rfl rfl rfl (Nat.le_of_eq (setRow_size w l.c _).symm) hsame (.inl hm) hfits ?_ (by simp), e1, .osl (upd_same _ _ _) (Nat.le_refl _) rfl (fun _ => .inr ⟨l, cap, upd_same _ _ _, rfl, hroom, hc2, hc3⟩)⟩
      refine .inr ⟨l, _, upd_same _ _ _, setRow_heap w l.c arr _ e _ hheap, by simp; omega, by simp [hnl]; omega, fun j hj => ?_⟩
      have hxx : (xs ++ ys)[j]? = some ((xs ++ ys)[j]'hj) := List.getElem?_eq_getElem hj
      have hget := spl_get arr.toList news xs.length j (by simpa using hfit)
      have hga : (arr.toList.take xs.length ++ news ++ arr.toList.drop (xs.length + news.length)).toArray[j]? = if j < xs.length then arr[j]? else if j < xs.length + news.length then news[j - xs.length]? else arr[j]? := by simpa using hget
      rw [hga]
      by_cases hj1 : j < xs.length
      · simp only [hj1, if_true]
        rw [List.getElem?_append_left hj1] at hxx
        obtain ⟨_, hxi⟩ := List.getElem?_eq_some_iff.1 hxx
        rw [← hxi]
        exact ⟨vs j, hvs j hj1, (hcell j hj1).2, (hrep j hj1).ext e1⟩
      · have hj2 : j < xs.length + news.length := by simp at hj; omega
        simp only [hj1, hj2, if_true, if_false]
        rw [List.getElem?_append_right (by omega)] at hxx
        obtain ⟨u, h3, h4, h5⟩ := hnews.at hxx
        exact ⟨u, h3, h4, h5.ext e1⟩
    · have holds : ∀ j u, ((List.range xs.length).map vs)[j]? = some u → w.cell? ((⟨l.c, 0, none⟩ : Addr).add j) = some u := by
        intro j u hu
        rw [addr_add]
        simp only [List.getElem?_map, Option.map_eq_some_iff] at hu
        obtain ⟨k, hk, rfl⟩ := hu
        obtain ⟨h1, h2⟩ := List.getElem?_eq_some_iff.1 hk
        simp at h1 h2; subst h2
        exact (hcell _ h1).1
      have hrun := run_append_grow (P := P) w t ty e it zv hu hit hitz ⟨l.c, 0, none⟩ len cap ((List.range xs.length).map vs) (by simp [hxl, hsi]) holds ⟨c, oo, none⟩ n cx news hnl2 hncell (by omega) (by omega) (growslice_fits (by omega) hbnd)
      obtain ⟨g1, e1⟩ := good_move (t := e) (sz := sz) (g' := g + 1) (rest := (Builtin.zeroCells zv.cells (grownCap w (len + n) cap e - (len + n))).toList) hg hb0 (below_drew w) (hcur.append hnews)
      have harr : ((List.range xs.length).map vs).toArray ++ news.toArray ++ Builtin.zeroCells zv.cells (grownCap w (len + n) cap e - (len + n)) = ((List.range xs.length).map vs ++ news ++ (Builtin.zeroCells zv.cells (grownCap w (len + n) cap e - (len + n))).toList).toArray := by
        apply Array.toList_inj.1; simp
      rw [harr] at hrun
      have hgc := grownCap_ge w (len + n) cap e
      have hgm := grownCap_le_maxLen w (len + n) cap e (by simp only [maxLen]; omega)
      refine ⟨_, _, _, hrun, g1, e1, ?_⟩
      refine .osl (upd_same _ _ _) (Nat.le_refl _) rfl (fun _ => .inr ⟨_, grownCap w (len + n) cap e, upd_same _ _ _, rfl, hgc, ?_, hgm⟩)
      rw [Nat.zero_add]
      refine Nat.le_of_eq ?_
      exact (grown_size zv.cells sz (len + n) _ hzsz _ (by simp [hxl, hnl2, hsi, Nat.add_mul]) hgc).symm
/-- An own list, behind an own list. -/
theorem sound_appoo {t : TypeId} {s x : Operand} (ho : o.op = .call ⟨.builtin .append, #[s, x], #[t, t]⟩) {e : TypeId} (ht : tslice P t = some e) {sz bys : Nat} {zs : List AV} (hs : tsz P e = some sz) (hby : tbytes P e = some bys) (hz : tzero P e = some zs)
    (hzl : zs.length = sz) (hpos : 0 < sz) {d gd len : Nat} {xs : List AV} (hsv : ρ s = .osl d gd 0 len) (hd : h d = some (.cells e sz gd xs)) (hxl : xs.length = len * sz) {b g off n : Nat} (hx : ρ x = .osl b g off n) {t' : TypeId} {us : List AV} (hb : h b = some (.cells t' sz g us)) (hl : off + n * sz ≤ us.length) (hn0 : 0 < n)
    (hbytes : (len + n) * bys ≤ 140737488355328) (h63 : len + n ≤ 9223372036854775807) {ys : List AV} (hys : window us off (n * sz) = ys) :
    OpOK P w0 r o ρ h ⟨.osl d (gd + 1) 0 (len + n), [b], some (d, .cells e sz (gd + 1) (xs ++ ys))⟩ := by
  subst hys
  intro h' m w ac next Q hrd hwr hg hop hnext
  have hb' : h' b = some (.cells t' sz g us) := (hrd b (by simp)).trans hb
  have hd' : h' d = some (.cells e sz gd xs) := (hwr d _ rfl).trans hd
  have h1 := hop s (by simp [ho, Op.operands, Call.operands]); rw [hsv] at h1
  have h2 := hop x (by simp [ho, Op.operands, Call.operands]); rw [hx] at h2
  have hrunE : ∀ (w' : World) (v : Value), (Builtin.append_ #[t, t] o.type #[ac.eval s, ac.eval x]).run P w = .ok v w' → (execOp ac.eval o).run P w = .ok (.value v) w' := by
    intro w' v hr
    rw [run_call_builtin ho]
    simp only [builtin, Sem.run_bind]
    have : (#[s, x].map ac.eval) = #[ac.eval s, ac.eval x] := by simp
    rw [this, hr]
    rfl
  rcases rep_osl h2 hb' with ⟨_, _, h3, _⟩ | ⟨l, cap, hm, hv, _, _, _⟩
  · omega
  · obtain ⟨arr, _, hasz, hlen, vs, hvs, hcell, hrep⟩ := blk_cells hg hb' hm
    have hwl : (window us off (n * sz)).length = n * sz := window_length _ _ _ hl
    have hnews : RepL h' m w (window us off (n * sz)) ((List.range (n * sz)).map fun j => vs (off + j)) := by
      refine ⟨by rw [hwl]; simp, fun u hu => ?_, fun j a c => ?_⟩
      · simp only [List.mem_map, List.mem_range] at hu
        obtain ⟨j, hj, rfl⟩ := hu
        exact (hcell (off + j) (by omega)).2
      · rw [window_get]
        simp only [List.getElem_map, List.getElem_range]
        exact hrep _ _
    obtain ⟨v, w', m', hrun, g1, e1, r1⟩ := append_own (ty := o.type) (cx := cap) ht hs hby hz hzl hpos hwl hxl hbytes h63 hn0 hg hnews (c := l.c) (oo := off) (fun j u hu => by
      rw [addr_add]
      simp only [List.getElem?_map, Option.map_eq_some_iff] at hu
      obtain ⟨k, hk, rfl⟩ := hu
      obtain ⟨h1, h2⟩ := List.getElem?_eq_some_iff.1 hk
      simp at h1 h2; subst h2
      have := (hcell (off + j) (by omega)).1
      rw [Nat.zero_add] at this
      exact this) hd' h1
    rw [← hv] at hrun
    exact wp_val (by simp [ho]) (hrunE w' v hrun) (hnext _ _ _ g1 e1 r1)
/-- A literal as a list of its own, told. -/
theorem sound_litE {t e : TypeId} {len : Nat} {parts : Array (Nat × Operand)} (ho : o.op = .buildSlice t len parts) {nx sz : Nat} (hn : h nx = none) {zs xs : List AV} (ht : tslice P t = some e) (hs : tsz P e = some sz) (hz : tzero P e = some zs) (hzl : zs.length = sz) (hpos : 0 < sz) (hl : 0 < len) (hbig : len * sz ≤ 16777216)
    (hp : ∀ x ∈ zs, cellPure x = true) (hf : afill (fun i => some (i * sz, sz)) (List.replicate len zs).flatten (parts.toList.map fun p => (p.1, ρ p.2)) = some xs) (hxl : xs.length = len * sz) : OpOK P w0 r o ρ h ⟨.osl nx 0 0 len, [], some (nx, .cells e sz 0 xs)⟩ := by
  have hk : litK P o.op ρ nx (fun e' => e' = ⟨.osl nx 0 0 len, [], some (nx, .cells e sz 0 xs)⟩) := by
    simp only [litK, ho, ht, hs, hz, hf]
    exact ⟨hzl, hpos, hl, hbig, hp, hxl, trivial⟩
  obtain ⟨e', h1, h2⟩ := sound_lit (w0 := w0) (r := r) hn hk
  subst h1
  exact h2
end
end Go.Am

/- The abstract machine Am, part Ye: a walk through a region that draws its order, of which some operations look at the place of a block alone. -/
namespace Go.Am
open Go.RowKit
set_option linter.unusedSimpArgs false
set_option linter.unusedVariables false
variable [Base]
end Go.Am

/- The abstract machine Am, part Yf: a region with a slice of an own list, or of nil, from some index on, of which nothing is used but that it is in bounds. -/
namespace Go.Am
open Go.RowKit
set_option linter.unusedSimpArgs false
set_option linter.unusedVariables false
/-- A slice that ends where its list ends, with a bound that is not behind it. -/
def endJ (sz : Nat) (H : List (Option ABlk)) : AV → AV → Prop
  | .osl b g off len, .int _ l => (match hget H b with
    | some (.cells _ sz' g' _) => g = g' ∧ sz' = sz
    | _ => False) ∧ 0 ≤ l ∧ l ≤ len
  | .nils, .int _ l => l = 0
  | _, _ => False
def cutJ (P : Program) (all : Array Oper) (o : Oper) (s : St) (K : St → Prop) : Prop :=
  match guardOf all s.T o with
  | some true => (match o.op with
    | .slice t x (some lo) none none => optK (tslice P t) fun e => optK (tsz P e) fun sz => endJ sz s.H (aev s.T x) (aev s.T lo) ∧ K ⟨lseto s.T o.dst .junk, s.H, s.D⟩
    | _ => False)
  | some false => K ⟨lseto s.T o.dst (.tup []), s.H, s.D⟩
  | none => False
instance {a b : List AV} [sa : Still a] [sb : Still b] : Still (a ++ b) := ⟨fun y hy => by
  rcases List.mem_append.1 hy with h | h
  · exact sa.h y h
  · exact sb.h y h⟩
variable [Base]
omit [Base] in
theorem cj_free {P : Program} {all : Array Oper} {d : Option Tmp} {t : TypeId} {x lo : Operand} {ty : TypeId} {ps : _} {af : _} {T : List AV} {H : List (Option ABlk)} {D : List Nat} {K : St → Prop} :
    cutJ P all ⟨d, .slice t x (some lo) none none, ty, ps, af, none⟩ ⟨T, H, D⟩ K = optK (tslice P t) fun e => optK (tsz P e) fun sz => endJ sz H (aev T x) (aev T lo) ∧ K ⟨lseto T d .junk, H, D⟩ := rfl
omit [Base] in
theorem ej_n {sz : Nat} {H : List (Option ABlk)} {k : IntKind} {l : Int} : endJ sz H .nils (.int k l) = (l = 0) := rfl
omit [Base] in
theorem ej_o {sz : Nat} {H : List (Option ABlk)} {b g off len : Nat} {k : IntKind} {l : Int} : endJ sz H (.osl b g off len) (.int k l) = ((match hget H b with
    | some (.cells _ sz' g' _) => g = g' ∧ sz' = sz
    | _ => False) ∧ 0 ≤ l ∧ l ≤ len) := rfl
attribute [go_sem] cj_free ej_n ej_o
end Go.Am

/- The abstract machine Am, part Yg: operations of some regions that are told one by one: an array's slice by its pointer, an own list against nil, an own list behind an empty literal. -/
namespace Go.Am
open Go.RowKit
set_option linter.unusedSimpArgs false
set_option linter.unusedVariables false
variable [Base]
section
variable {P : Program} {w0 : World} {r : Option Nat} {X : Ctx} {s : St} {Q : Exit → St → Prop}
/-- A region in parts, some of which are told. -/
def segE (P : Program) (w0 : World) (r : Option Nat) (all : Array Oper) : List (Nat × Option E × List Nat) → List Oper → St → List Ef → (St → List Ef → Prop) → Prop
  | [], ops, s, tr, K => evOps P all ops s [] fun s' es => K s' (tr ++ es.map lift)
  | (n, none, W) :: l, ops, s, tr, K => evOps P all (ops.take n) s [] fun s1 es => (match ops.drop n with
    | o :: post => ownD P all o W s1 fun s2 ef => segE P w0 r all l post s2 (tr ++ es.map lift ++ [ef]) K
    | [] => False)
  | (n, some eff, _) :: l, ops, s, tr, K => evOps P all (ops.take n) s [] fun s1 es => (match ops.drop n with
    | o :: post => guardOf all s1.T o = some true ∧ OpOK P w0 r o (aev s1.T) (hget s1.H) eff ∧ segE P w0 r all l post ⟨lseto s1.T o.dst eff.val, hseto s1.H eff.wr, s1.D⟩ (tr ++ es.map lift ++ [lift eff]) K
    | [] => False)
theorem segE_trace {all : Array Oper} : ∀ (l : List (Nat × Option E × List Nat)) (ops : List Oper) (i : Nat) (s : St) (tr : List Ef) (K : St → List Ef → Prop), (∀ k, k < ops.length → ops[k]? = all[i + k]?) → segE P w0 r all l ops s tr K →
    ∃ es s', Trace2 P w0 r all i s.f es s'.f ∧ es.length = ops.length ∧ K s' (tr ++ es)
  | [], ops, i, s, tr, K, hos, h => by
    obtain ⟨es, s', h1, h2, h3⟩ := ev_trace (w0 := w0) (r := r) ops i s [] _ hos h
    exact ⟨es.map lift, s', h1.two, by simpa using h2, by simpa using h3⟩
  | (n, x, W) :: l, ops, i, s, tr, K, hos, h => by
    have h0 : evOps P all (ops.take n) s [] fun s1 es => (match ops.drop n with
        | o :: post => (match x with
          | none => ownD P all o W s1 fun s2 ef => segE P w0 r all l post s2 (tr ++ es.map lift ++ [ef]) K
          | some eff => guardOf all s1.T o = some true ∧ OpOK P w0 r o (aev s1.T) (hget s1.H) eff ∧ segE P w0 r all l post ⟨lseto s1.T o.dst eff.val, hseto s1.H eff.wr, s1.D⟩ (tr ++ es.map lift ++ [lift eff]) K)
        | [] => False) := by
      cases x <;> exact h
    obtain ⟨es, s1, h1, h2, h3⟩ := ev_trace (w0 := w0) (r := r) (ops.take n) i s [] _ (fun k hk => by
      have hk' : k < n ∧ k < ops.length := by simpa [Nat.lt_min] using hk
      rw [List.getElem?_take_of_lt hk'.1]; exact hos k hk'.2) h0
    simp only [List.nil_append] at h3
    cases hd : ops.drop n with
    | nil => rw [hd] at h3; exact h3.elim
    | cons o post =>
      rw [hd] at h3
      have hn : n < ops.length := by
        rcases Nat.lt_or_ge n ops.length with h4 | h4
        · exact h4
        · rw [List.drop_eq_nil_of_le h4] at hd; cases hd
      have hl2 : es.length = n := by rw [h2, List.length_take]; omega
      have hlen : ops.length = n + (1 + post.length) := by
        have := congrArg List.length hd
        simp at this; omega
      have hget : ∀ k, (o :: post)[k]? = ops[n + k]? := fun k => by rw [← hd, List.getElem?_drop]
      have ho : all[i + n]? = some o := by rw [← hos n hn, ← Nat.add_zero n, ← hget 0]; rfl
      have hpost : ∀ k, k < post.length → post[k]? = all[i + n + 1 + k]? := fun k hk => by
        have := hget (k + 1)
        simp only [List.getElem?_cons_succ] at this
        rw [this, hos (n + (k + 1)) (by omega)]; congr 1; omega
      have ht1 : Trace2 P w0 r all i s.f (es.map lift) s1.f := h1.two
      cases x with
      | some eff =>
        obtain ⟨hg, hok, h3⟩ := h3
        obtain ⟨fs, s', q1, q2, q3⟩ := segE_trace l post (i + n + 1) _ _ K hpost h3
        refine ⟨es.map lift ++ (lift eff :: fs), s', ht1.app ?_, ?_, by simpa using q3⟩
        · rw [List.length_map, hl2]
          refine .run ho hg hok.lift ?_
          have e9 : (⟨lseto s1.T o.dst eff.val, hseto s1.H eff.wr, s1.D⟩ : St).f = ⟨lseto s1.T o.dst (lift eff).val, updl (Go.Am.hget s1.H) (lift eff).wr, s1.D⟩ := by
            simp only [St.f, lift_upd]
            rfl
          rw [e9] at q1
          exact q1
        · simp [hl2, q2, hlen]; omega
      | none =>
        replace h3 : ownD P all o W s1 fun s2 ef => segE P w0 r all l post s2 (tr ++ es.map lift ++ [ef]) K := h3
        unfold ownD at h3
        split at h3
        · rename_i hg
          split at h3
          · rename_i f args ts hop
            obtain ⟨y, H', hsem, hf, h3⟩ := h3
            obtain ⟨fs, s', q1, q2, q3⟩ := segE_trace l post (i + n + 1) _ _ K hpost h3
            refine ⟨es.map lift ++ (⟨y, [], wlog H' W, true⟩ :: fs), s', ht1.app ?_, ?_, by simpa using q3⟩
            · rw [List.length_map, hl2]
              refine .run ho hg (call_ok hop hf hsem) ?_
              have hu := wlog_upd hf
              simp only [St.f] at q1 ⊢
              rw [← hu]
              exact q1
            · simp [hl2, q2, hlen]; omega
          · exact h3.elim
        · rename_i hg
          obtain ⟨fs, s', q1, q2, q3⟩ := segE_trace l post (i + n + 1) _ _ K hpost h3
          refine ⟨es.map lift ++ (⟨.tup [], [], [], false⟩ :: fs), s', ht1.app ?_, ?_, by simpa using q3⟩
          · rw [List.length_map, hl2]
            exact .skip ho hg q1
          · simp [hl2, q2, hlen]; omega
        · exact h3.elim
end
section
variable {P : Program} {w0 : World} {r : Option Nat} {all : Array Oper} {T : List AV} {H : List (Option ABlk)} {D W : List Nat} {K2 : St → List Ef → Prop} {s : St} {tr : List Ef} {ops : List Oper}
theorem se_nil : segE P w0 r all [] ops s tr K2 = evOps P all ops s [] fun s' es => K2 s' (tr ++ es.map lift) := rfl
theorem se_own {n : Nat} {l : List (Nat × Option E × List Nat)} : segE P w0 r all ((n, none, W) :: l) ops s tr K2 = evOps P all (ops.take n) s [] fun s1 es => (match ops.drop n with
    | o :: post => ownD P all o W s1 fun s2 ef => segE P w0 r all l post s2 (tr ++ es.map lift ++ [ef]) K2
    | [] => False) := rfl
theorem se_op {n : Nat} {eff : E} {l : List (Nat × Option E × List Nat)} : segE P w0 r all ((n, some eff, W) :: l) ops s tr K2 = evOps P all (ops.take n) s [] fun s1 es => (match ops.drop n with
    | o :: post => guardOf all s1.T o = some true ∧ OpOK P w0 r o (aev s1.T) (hget s1.H) eff ∧ segE P w0 r all l post ⟨lseto s1.T o.dst eff.val, hseto s1.H eff.wr, s1.D⟩ (tr ++ es.map lift ++ [lift eff]) K2
    | [] => False) := rfl
end
end Go.Am

/- The abstract machine Am, part Ym: blocks under other numbers; a region in parts, of which some are told, in the order of the text; heaps of any length. -/
namespace Go.Am
open Go.RowKit
set_option linter.unusedSimpArgs false
set_option linter.unusedVariables false
section
variable [B : Base] {P : Program} {w0 : World} {r : Option Nat} {X : Ctx} {s : St} {Q : Exit → St → Prop}
/-- Blocks under other numbers. -/
theorem SatC.renum {a : Act} {w : World} (σ : Nat → Nat) (hσ : ∀ i, σ (σ i) = i) {T' : List AV} {H' : List (Option ABlk)} (hs : SatC w0 X s a w) (hD : s.D = []) (hX : ∀ c, X.Z c = none) (hT : renL σ s.T = T') (hH : ∀ i, hget H' i = (hget s.H (σ i)).map (renB σ)) :
    SatC w0 X ⟨T', H', []⟩ a w := by
  subst hT
  obtain ⟨hid, hhid, m, hs, hx⟩ := hs
  let m' : Nat → Option Loc := fun i => m (σ i)
  have hm : ∀ b, m' (σ b) = m b := fun b => by simp only [m', hσ]
  have hg : ∀ b k, hget s.H b = some k → hget H' (σ b) = some (renB σ k) := fun b k hk => by rw [hH, hσ, hk]; rfl
  have hmv : ∀ b k, hget s.H b = some k → Moves (hget s.H) m (hget H') m' b (σ b) := fun b k hk => by
    refine ⟨fun t sz g xs e => ?_, fun es e => ?_, fun k' e hr => ?_⟩
    · exact ⟨_, hg _ _ e, hm b⟩
    · exact ⟨⟨_, hg _ _ e⟩, hm b⟩
    · exact ⟨⟨_, hg _ _ e, by rw [renB_rec]; exact hr⟩, hm b⟩
  have hok : ∀ c, Ok m w c → Ok m' w c := fun c hc => ⟨hc.1, fun b l hl => hc.2.1 (σ b) l hl, hc.2.2⟩
  have hun : ∀ c, Un m w c → Un m' w c := fun c hc => ⟨hc.1, fun b l hl => hc.2 (σ b) l hl⟩
  have hback : ∀ b k, hget H' b = some k → ∃ k0, hget s.H (σ b) = some k0 ∧ k = renB σ k0 := fun b k hk => by
    rw [hH] at hk
    cases h0 : hget s.H (σ b) with
    | none => rw [h0] at hk; cases hk
    | some k0 => rw [h0] at hk; cases hk; exact ⟨k0, rfl, rfl⟩
  have g := hs.good
  refine ⟨hid, hhid, m', ⟨⟨g.below, fun b l hl => g.base (σ b) l hl, fun b b' l l' h1 h2 e => ?_, fun b l hl => ?_, fun b k hk => ?_, fun b st pend fn T ps asg body d hk => ?_, fun c hc => ?_⟩, ?_, fun j hj => ?_, ?_, ?_⟩, ?_⟩
  · have := g.inj (σ b) (σ b') l l' h1 h2 e
    have h3 := congrArg σ this
    rwa [hσ, hσ] at h3
  · obtain ⟨k, hk⟩ := g.supp (σ b) l hl
    have := hg _ _ hk
    rw [hσ] at this
    exact ⟨_, this⟩
  · obtain ⟨k0, h0, rfl⟩ := hback b k hk
    have := brep_ren B B σ (g.blk _ _ h0) hok hmv hm
    rwa [hσ] at this
  · obtain ⟨k0, h0, e⟩ := hback b _ hk
    cases k0 <;> simp only [renB, reduceCtorEq, ABlk.loop.injEq] at e
    obtain ⟨rfl, rfl, rfl, rfl, rfl, rfl, rfl, rfl⟩ := e
    obtain ⟨o, ho⟩ := g.dloop _ _ _ _ _ _ _ _ _ h0
    exact ⟨o, hg _ _ ho⟩
  · rcases hc with ⟨b, l, hl, e⟩ | hc
    · exact g.fresh c (.inl ⟨σ b, l, hl, e⟩)
    · exact g.fresh c (.inr hc)
  · rw [hs.size]; exact (renL_length σ _).symm
  · have hj' : j < s.T.length := by simpa [renL_length] using hj
    obtain ⟨v, h1, h2⟩ := hs.tmps j hj'
    refine ⟨v, h1, ?_⟩
    have := rep_ren B B σ h2 (fun _ _ => rfl) hok hmv
    have e : lget (renL σ s.T) j = ren σ (lget s.T j) := by
      rw [lget_get, lget_get, List.getElem?_eq_getElem hj', List.getElem?_eq_getElem (by simpa [renL_length] using hj')]
      simp [renL_get]
    simp only
    rw [e]; exact this
  · exact ⟨hs.roots.1, fun c hc => let ⟨b1, b2, b3⟩ := hs.roots.2 c hc; ⟨b1, hun c b2, b3⟩⟩
  · obtain ⟨ls, a1, a2, a3⟩ := hs.marks
    rw [hD] at a1
    have e0 : ls = [] := List.eq_nil_of_length_eq_zero a1
    subst e0
    exact ⟨[], rfl, fun j x => by simp at x, a3⟩
  · refine ⟨fun c hc => ⟨(hx.ok c hc).1, hun c (hx.ok c hc).2⟩, ?_, ?_, ?_, ?_⟩
    · intro c t sz g xs hc; rw [hX c] at hc; cases hc
    · intro c es hc; rw [hX c] at hc; cases hc
    · intro c o hc; rw [hX c] at hc; cases hc
    · intro c st pend fn T ps asg body d hc; rw [hX c] at hc; cases hc
/-- A region in parts, in the order of the text. -/
theorem awp_segE (l : List (Nat × Option E × List Nat)) {id : Nat} {ops : List Oper} (h : segE P w0 r ops.toArray l ops s [] fun s' _ => Q .normal s') : AWP P w0 r X (.region id ops.toArray false) s Q := by
  intro a w ⟨ex, hex, hs⟩
  obtain ⟨es, s', ht, hl, hk⟩ := segE_trace l ops 0 s [] _ (fun k _ => by simp) h
  refine wpIn_region ?_
  have := trace_seq2 (Z := X.Z) (mz := X.mz) (wz := X.wz) (Q := fun e a' w' => ∃ s', Q e s' ∧ SatC w0 X s' a' w') ht (fun a w hs => ⟨s', hk, ex, hex, hs⟩) a w hs
  simpa [List.range_eq_range', hl] using this
end
end Go.Am

/- The abstract machine Am, part Xo: the machine that runs, with calls of which the contract is known. -/
namespace Go.Am
open Go.RowKit
set_option linter.unusedSimpArgs false
set_option linter.unusedVariables false
end Go.Am

/- The abstract machine: a call that takes a list away. -/
namespace Go.Am
open Go.RowKit
set_option linter.unusedSimpArgs false
set_option linter.unusedVariables false
/-- A call that takes a list away. -/
theorem semF_take {P : Program} {f : FuncId} {ars : List AV} {t : TypeId} {sz g : Nat} {xs : List AV} {r : AV} (h : CallS P f (fzl (fz2 0 g xs) ars) r) (hp : ∀ y ∈ xs, cellPure y = true) (hpu : ∀ x ∈ fzl (fz2 0 g xs) ars, pureA x = true) :
    SemF P f ars [some (.cells t sz g xs)] r [some (.cells t sz (g + 1) [])] := by
  refine ⟨h.1, fun {B} w0 m w vs hg hlen hrep => ?_⟩
  have hz : ∀ c, hget [none] c = none := fun c => by cases c <;> rfl
  have z : FzH (hget [some (.cells t sz g xs)]) (hget [none]) 0 g xs := ⟨rfl, fun c hc => by
    cases c with
    | zero => exact absurd rfl hc
    | succ c => rfl⟩
  have hg1 := good_frz hg z rfl hp
  have hm1 : ∀ b, killM m (notb 0) b = none := fun b => by
    cases hb : killM m (notb 0) b with
    | none => rfl
    | some l =>
      obtain ⟨k, hk⟩ := hg1.supp b l hb
      rw [hz] at hk; cases hk
  have har : ∀ j (a : j < (fzl (fz2 0 g xs) ars).length) (b : j < vs.length), PRep (Ok (killM m (notb 0)) w) w (fzl (fz2 0 g xs) ars)[j] vs[j] := fun j a b => by
    have a' : j < ars.length := by rw [fzl_len] at a; exact a
    have h1 := rep_fz2 hg z rfl hp (hrep j a' b)
    rw [← fzl_get (fz2 0 g xs) ars j a] at h1
    exact pure_prep h1 (hpu _ (List.getElem_mem _))
  refine (h.2 w vs (Ok (killM m (notb 0)) w) (fun c hc => hc.1) (by rw [fzl_len]; exact hlen) har).mono ?_
  rintro e w' ⟨v, rfl, hv, hb⟩
  obtain ⟨g1, e1⟩ := hg1.garbage hb
  refine ⟨v, killM m (notb 0), rfl, ⟨g1.below, g1.base, g1.inj, (fun b l hl => by rw [hm1] at hl; cases hl), fun b k hk => ?_, fun b st pend fn T ps asg body d hk => ?_, g1.fresh⟩, ⟨fun c hc => ?_, fun b t' sz' g' ys hk => ?_, fun b es hk => ?_, fun b o hk => ?_, fun b st pend fn T ps asg body d hk => ?_⟩, .pure (hv.mono (fun _ _ => rfl) (fun c hc => ?_))⟩
  · cases b with
    | zero =>
      have : k = .cells t sz (g + 1) [] := (Option.some.inj hk).symm
      subst this
      exact .inl ⟨hm1 0, rfl⟩
    | succ b => cases hk
  · cases b with
    | zero => cases hk
    | succ b => cases hk
  · exact e1.ok c (un_kill hc)
  · cases b with
    | zero =>
      cases hk
      exact ⟨g + 1, [], rfl, by omega, fun e => absurd e (by omega)⟩
    | succ b => cases hk
  · cases b with
    | zero => cases hk
    | succ b => cases hk
  · cases b with
    | zero => cases hk
    | succ b => cases hk
  · cases b with
    | zero => cases hk
    | succ b => cases hk
  · rcases hc with hc | hc
    · exact ⟨Nat.lt_of_lt_of_le hc.1 hb.size, hc.2⟩
    · refine ⟨hc.2, fun b l hl he => ?_, hg1.fresh _ (.inr hc.1)⟩
      rw [hm1] at hl; cases hl
end Go.Am
