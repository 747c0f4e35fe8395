/- Parts Y9, Ya, Yb of the proof, one behind the other: the machine of abstract values, contracts, plain words. No statement is proved here. -/
import Derived.Test.YtnjommobapmgbaaM3
/- The abstract machine Am, part Y9: regions drawn in any order, with calls that are handed blocks. -/
namespace Go.Am
open Go.RowKit

/-- One call of a region that is handed blocks; W: the blocks that it writes. -/
def ownD (P : Program) (all : Array Oper) (o : Oper) (W : List Nat) (s : St) (K : St → Ef → Prop) : Prop :=
  match guardOf all s.T o with
  | some true => (match o.op with
    | .call ⟨.value f, args, _⟩ => CallH P (aev s.T f) (args.toList.map (aev s.T)) s.H fun r H' => Frm s.H H' W ∧ K ⟨lseto s.T o.dst r, H', s.D⟩ ⟨r, [], wlog H' W, true⟩
    | _ => False)
  | some false => K ⟨lseto s.T o.dst (.tup []), s.H, s.D⟩ ⟨.tup [], [], [], false⟩
  | none => False
/-- A region in parts: what stands before the call number n, the call, what stands behind it. -/
def segD (P : Program) (all : Array Oper) : List (Nat × List Nat) → List Oper → St → List Ef → (St → List Ef → Prop) → Prop
  | [], ops, s, tr, K => evOps P all ops s [] fun s' es => K s' (tr ++ es.map lift)
  | (n, W) :: l, ops, s, tr, K => evOps P all (ops.take n) s [] fun s1 es => (match ops.drop n with
    | o :: post => ownD P all o W s1 fun s2 ef => segD P all l post s2 (tr ++ es.map lift ++ [ef]) K
    | [] => False)

section
variable [Base] {P : Program} {w0 : World} {r : Option Nat} {X : Ctx} {s : St} {Q : Exit → St → Prop} {all : Array Oper}
theorem Trace2.app {i : Nat} {s s1 s2 : Sf} {es fs : List Ef} (h : Trace2 P w0 r all i s es s1) (h' : Trace2 P w0 r all (i + es.length) s1 fs s2) : Trace2 P w0 r all i s (es ++ fs) s2 := by
  induction h with
  | nil i s => simpa using h'
  | run ho hg hok rest ih =>
    rename_i i s s' o e es
    exact .run ho hg hok (ih (by simpa [Nat.add_assoc, Nat.add_comm 1] using h'))
  | skip ho hg rest ih =>
    rename_i i s s' o es
    exact .skip ho hg (ih (by simpa [Nat.add_assoc, Nat.add_comm 1] using h'))

theorem seg_trace : ∀ (l : List (Nat × List Nat)) (ops : List Oper) (i : Nat) (s : St) (tr : List Ef) (K : St → List Ef → Prop), (∀ k, k < ops.length → ops[k]? = all[i + k]?) → segD P all l ops s tr K →
    ∃ es s', Trace2 P w0 r all i s.f es s'.f ∧ es.length = ops.length ∧ K s' (tr ++ es)
  | [], ops, i, s, tr, K, hos, h => by
    obtain ⟨es, s', h1, h2, h3⟩ := ev_trace (w0 := w0) (r := r) ops i s [] _ hos h
    exact ⟨es.map lift, s', h1.two, by simpa using h2, by simpa using h3⟩
  | (n, W) :: l, ops, i, s, tr, K, hos, h => by
    simp only [segD] at h
    obtain ⟨es, s1, h1, h2, h3⟩ := ev_trace (w0 := w0) (r := r) (ops.take n) i s [] _ (fun k hk => by
      have hk' : k < n ∧ k < ops.length := by simpa [Nat.lt_min] using hk
      rw [List.getElem?_take_of_lt hk'.1]; exact hos k hk'.2) h
    simp only [List.nil_append] at h3
    cases hd : ops.drop n with
    | nil => rw [hd] at h3; exact h3.elim
    | cons o post =>
      rw [hd] at h3
      have hn : n < ops.length := by
        rcases Nat.lt_or_ge n ops.length with h4 | h4
        · exact h4
        · rw [List.drop_eq_nil_of_le h4] at hd; cases hd
      have hl2 : es.length = n := by rw [h2, List.length_take]; omega
      have hlen : ops.length = n + (1 + post.length) := by
        have := congrArg List.length hd
        simp at this; omega
      have hget : ∀ k, (o :: post)[k]? = ops[n + k]? := fun k => by rw [← hd, List.getElem?_drop]
      have ho : all[i + n]? = some o := by rw [← hos n hn, ← Nat.add_zero n, ← hget 0]; rfl
      have hpost : ∀ k, k < post.length → post[k]? = all[i + n + 1 + k]? := fun k hk => by
        have := hget (k + 1)
        simp only [List.getElem?_cons_succ] at this
        rw [this, hos (n + (k + 1)) (by omega)]; congr 1; omega
      have ht1 : Trace2 P w0 r all i s.f (es.map lift) s1.f := h1.two
      replace h3 : ownD P all o W s1 fun s2 ef => segD P all l post s2 (tr ++ es.map lift ++ [ef]) K := h3
      unfold ownD at h3
      split at h3
      · rename_i hg
        split at h3
        · rename_i f args ts hop
          obtain ⟨y, H', hsem, hf, h3⟩ := h3
          obtain ⟨fs, s', q1, q2, q3⟩ := seg_trace l post (i + n + 1) _ _ K hpost h3
          refine ⟨es.map lift ++ (⟨y, [], wlog H' W, true⟩ :: fs), s', ht1.app ?_, ?_, by simpa using q3⟩
          · rw [List.length_map, hl2]
            refine .run ho hg (call_ok hop hf hsem) ?_
            have hu := wlog_upd hf
            simp only [St.f] at q1 ⊢
            rw [← hu]
            exact q1
          · simp [hl2, q2, hlen]; omega
        · exact h3.elim
      · rename_i hg
        obtain ⟨fs, s', q1, q2, q3⟩ := seg_trace l post (i + n + 1) _ _ K hpost h3
        refine ⟨es.map lift ++ (⟨.tup [], [], [], false⟩ :: fs), s', ht1.app ?_, ?_, by simpa using q3⟩
        · rw [List.length_map, hl2]
          exact .skip ho hg q1
        · simp [hl2, q2, hlen]; omega
      · exact h3.elim

/-- **A REGION IN ANY ORDER, WITH CALLS THAT ARE HANDED BLOCKS.** -/
theorem awp_draws (l : List (Nat × List Nat)) {id : Nat} {ops : List Oper} (hm : P.follows .mixedOrders = true) (hc : regOK ops.toArray = true) (h : segD P ops.toArray l ops s [] fun s' es => heapOK2 ops.toArray es = true ∧ Q .normal s') :
    AWP P w0 r X (.region id ops.toArray true) s Q := by
  intro a w ⟨ex, hex, hs⟩
  obtain ⟨es, s', ht, hl, hk⟩ := seg_trace (w0 := w0) (r := r) l ops 0 s [] _ (fun k _ => by simp) h
  simp only [List.nil_append] at hk
  exact draw_sound2 (Z := X.Z) (mz := X.mz) (wz := X.wz) hm ht (by simpa using hl) hc hk.1 (fun a w hs => ⟨s', hk.2, ex, hex, hs⟩) a w hs
end

/-! ### Rewriting -/
section
variable {P : Program} {all : Array Oper} {d : Option Tmp} {ty : TypeId} {ps : String} {af : Array Edge} {T : List AV} {H : List (Option ABlk)} {D W : List Nat} {K : St → Ef → Prop} {K2 : St → List Ef → Prop} {s : St} {tr : List Ef} {ops : List Oper}
theorem od_free {f : Operand} {args : Array Operand} {ts : Array TypeId} : ownD P all ⟨d, .call ⟨.value f, args, ts⟩, ty, ps, af, none⟩ W ⟨T, H, D⟩ K = CallH P (aev T f) (args.toList.map (aev T)) H fun r H' => Frm H H' W ∧ K ⟨lseto T d r, H', D⟩ ⟨r, [], wlog H' W, true⟩ := nrfl rfl
theorem od_guard {l : List Oper} {j : Nat} {wn : Bool} {f : Operand} {args : Array Operand} {ts : Array TypeId} : ownD P l.toArray ⟨d, .call ⟨.value f, args, ts⟩, ty, ps, af, some (j, wn)⟩ W ⟨T, H, D⟩ K =
    guardK (gget T (gtmp l j)) wn (CallH P (aev T f) (args.toList.map (aev T)) H fun r H' => Frm H H' W ∧ K ⟨lseto T d r, H', D⟩ ⟨r, [], wlog H' W, true⟩) (K ⟨lseto T d (.tup []), H, D⟩ ⟨.tup [], [], [], false⟩) := by
  simp only [ownD, guardOf, gtmp_is, guardK]
  cases hg : gtmp l j with
  | none => rfl
  | some t =>
    simp only [gget]
    cases lget T t <;> first | rfl | skip
    all_goals (rename_i b; cases b <;> cases wn <;> rfl)
theorem sg_nil : segD P all [] ops s tr K2 = evOps P all ops s [] fun s' es => K2 s' (tr ++ es.map lift) := nrfl rfl
theorem sg_cons {n : Nat} {l : List (Nat × List Nat)} : segD P all ((n, W) :: l) ops s tr K2 = evOps P all (ops.take n) s [] fun s1 es => (match ops.drop n with
    | o :: post => ownD P all o W s1 fun s2 ef => segD P all l post s2 (tr ++ es.map lift ++ [ef]) K2
    | [] => False) := nrfl rfl
theorem wl_n : wlog H [] = [] := nrfl rfl
theorem wl_c {b : Nat} {k : ABlk} {l : List Nat} (h : hget H b = some k) : wlog H (b :: l) = (b, k) :: wlog H l := by simp [wlog, h]
theorem lift_is {v : AV} {rd : List Nat} : lift ⟨v, rd, none⟩ = ⟨v, rd, [], false⟩ := nrfl rfl
theorem lift_wr {v : AV} {rd : List Nat} {p : Nat × ABlk} : lift ⟨v, rd, some p⟩ = ⟨v, rd, [p], false⟩ := nrfl rfl

/-- Blocks that differ at W alone. -/
def frmK (W : List Nat) : Nat → List (Option ABlk) → List (Option ABlk) → Prop
  | i, [], [] => W.all (fun b => decide (b < i)) = true
  | i, x :: H, y :: H' => (match W.contains i with | true => ∃ k, y = some k | false => y = x) ∧ frmK W (i + 1) H H'
  | i, [], y :: H' => (match W.contains i with | true => ∃ k, y = some k | false => y = none) ∧ frmK W (i + 1) [] H'
  | _, _ :: _, [] => False
theorem frmK_spec (W : List Nat) : ∀ (H' H : List (Option ABlk)) (i : Nat), frmK W i H H' → (∀ b, i + b ∉ W → hget H' b = hget H b) ∧ (∀ b, i + b ∈ W → ∃ k, hget H' b = some k)
  | [], [], i, h => by
    refine ⟨fun b _ => rfl, fun b hb => ?_⟩
    simp only [frmK, List.all_eq_true, decide_eq_true_eq] at h
    have := h _ hb; omega
  | [], x :: H, i, h => by simp [frmK] at h
  | y :: H', [], i, h => by
    obtain ⟨h1, h2⟩ := h
    obtain ⟨i1, i2⟩ := frmK_spec W H' [] (i + 1) h2
    refine ⟨fun b hb => ?_, fun b hb => ?_⟩
    · cases b with
      | zero =>
        have : W.contains i = false := by simpa using hb
        rw [this] at h1; simpa [hget] using h1
      | succ b => have := i1 b (by rwa [show i + 1 + b = i + (b + 1) by omega]); simpa [hget] using this
    · cases b with
      | zero =>
        have : W.contains i = true := by simpa using hb
        rw [this] at h1; simpa [hget] using h1
      | succ b => have := i2 b (by rwa [show i + 1 + b = i + (b + 1) by omega]); simpa [hget] using this
  | y :: H', x :: H, i, h => by
    obtain ⟨h1, h2⟩ := h
    obtain ⟨i1, i2⟩ := frmK_spec W H' H (i + 1) h2
    refine ⟨fun b hb => ?_, fun b hb => ?_⟩
    · cases b with
      | zero =>
        have : W.contains i = false := by simpa using hb
        rw [this] at h1; simpa [hget] using h1
      | succ b => have := i1 b (by rwa [show i + 1 + b = i + (b + 1) by omega]); simpa [hget] using this
    · cases b with
      | zero =>
        have : W.contains i = true := by simpa using hb
        rw [this] at h1; simpa [hget] using h1
      | succ b => have := i2 b (by rwa [show i + 1 + b = i + (b + 1) by omega]); simpa [hget] using this
theorem frm_of {W : List Nat} {H H' : List (Option ABlk)} (h : frmK W 0 H H') : Frm H H' W := by
  obtain ⟨h1, h2⟩ := frmK_spec W H' H 0 h
  exact ⟨fun b hb => h1 b (by simpa using hb), fun b hb => h2 b (by simpa using hb)⟩
end
attribute [go_sem] od_free od_guard
end Go.Am

/- The abstract machine Am, part Ya: the numbers of new blocks changed (what a recursion hands back). -/
namespace Go.Am
open Go.RowKit

def swp (a b i : Nat) : Nat := if i = a then b else if i = b then a else i
theorem swp_swp (a b i : Nat) : swp a b (swp a b i) = i := by
  unfold swp
  by_cases h1 : i = a
  · subst h1
    by_cases h2 : b = i
    · simp [h2]
    · simp [h2]
  · by_cases h2 : i = b
    · subst h2; simp [h1]
    · simp [h1, h2]
/-- Blocks that lead to old ones alone, and are as they were under other numbers. -/
def fixB (σ : Nat → Nat) (n : Nat) : List (Option ABlk) → Prop
  | [] => True
  | some k :: H => renB σ k = k ∧ refsB (· < n) k ∧ fixB σ n H
  | none :: _ => False
theorem fixB_get {σ : Nat → Nat} {n : Nat} : ∀ {H : List (Option ABlk)}, fixB σ n H → ∀ b, b < H.length → ∃ k, hget H b = some k ∧ renB σ k = k ∧ refsB (· < n) k
  | [], _, b, hb => by simp at hb
  | none :: H, h, _, _ => h.elim
  | some k :: H, h, 0, _ => ⟨k, rfl, h.1, h.2.1⟩
  | some k :: H, h, b + 1, hb => fixB_get h.2.2 b (by simpa using hb)

/-- Two new blocks change their numbers. -/
theorem semF_swap {P : Program} {g : FuncId} {as : List AV} {H H' : List (Option ABlk)} {r : AV} (a b : Nat) (hs : SemF P g as H r H') (ha : H.length ≤ a) (hb : H.length ≤ b) (hf : fixB (swp a b) H.length H) (har : refsL (· < H.length) as)
    {as' : List AV} (has : renL (swp a b) as = as') {r' : AV} (hr : ren (swp a b) r = r') {K' : List (Option ABlk)} (hK' : ∀ i, hget K' i = (hget H' (swp a b i)).map (renB (swp a b))) : SemF P g as' H r' K' := by
  have low : ∀ i, i < H.length → swp a b i = i := fun i hi => by
    unfold swp; rw [if_neg (by omega), if_neg (by omega)]
  subst has hr
  rw [renL_map]
  refine semF_frame hs (swp a b) (fun i => some (swp a b i)) (fun i hi => ?_) (fun i => by rw [swp_swp]) (fun i c h => ?_) (fun i hi => ?_) (fun i k hk => ?_) (fun j h => refsL_get har j h) (fun i => by simp only [hK'])
  · obtain ⟨k, hk, _⟩ := fixB_get hf i hi
    rw [hk]; simp
  · cases h; exact swp_swp a b i
  · unfold swp
    split
    · exact hb
    · split
      · exact ha
      · exact hi
  · have hi : i < H.length := by
      rcases Nat.lt_or_ge i H.length with h | h
      · exact h
      · rw [hget_length H i h] at hk; cases hk
    obtain ⟨k', hk', h1, h2⟩ := fixB_get hf i hi
    rw [hk] at hk'; cases hk'
    rw [low i hi, h1]
    exact ⟨hk, h2⟩
theorem semF_same {P : Program} {g : FuncId} {as : List AV} {H H' K' : List (Option ABlk)} {r : AV} (hs : SemF P g as H r H') (h : ∀ i, hget K' i = hget H' i) : SemF P g as H r K' := by
  have e : hget K' = hget H' := funext h
  refine ⟨hs.1, fun {_} w0 m w vs hg hl hr => ?_⟩
  rw [e]; exact hs.2 w0 m w vs hg hl hr
end Go.Am

/- The abstract machine Am, part Yb: marks of ranges that are over are hidden (loops with ranges over functions in their rounds). -/
namespace Go.Am
open Go.RowKit
section
variable {b g : Nat} {xs : List AV} {es : List (AV × AV)}
theorem fmB_c {t : TypeId} {sz g' : Nat} {ys : List AV} : fmB b es (.cells t sz g' ys) = .cells t sz g' (fzl (fm2 b es) ys) := nrfl rfl
theorem fmB_m {m : List (Int × Int × Int)} : fmB b es (.map (mpC m)) = .map (mpC m) := by
  simp only [fmB, mpC, List.map_map]; rfl
theorem fmB_d {o : Bool} : fmB b es (.dfr o) = .dfr o := nrfl rfl
theorem fmB_l {st : LoopState} {pend : Option Code} {fn : FuncId} {T : List AV} {ps : Array Tmp} {asg body : Code} {d : Nat} : fmB b es (.loop st pend fn T ps asg body d) = .loop st pend fn (fzl (fm2 b es) T) ps asg body d := nrfl rfl
theorem fzB_c {t : TypeId} {sz g' : Nat} {ys : List AV} : fzB b g xs (.cells t sz g' ys) = .cells t sz g' (fzl (fz2 b g xs) ys) := nrfl rfl
theorem fzB_m {m : List (Int × Int × Int)} : fzB b g xs (.map (mpC m)) = .map (mpC m) := by
  simp only [fzB, mpC, List.map_map]; rfl
theorem fzB_d {o : Bool} : fzB b g xs (.dfr o) = .dfr o := nrfl rfl
theorem fzB_l {st : LoopState} {pend : Option Code} {fn : FuncId} {T : List AV} {ps : Array Tmp} {asg body : Code} {d : Nat} : fzB b g xs (.loop st pend fn T ps asg body d) = .loop st pend fn (fzl (fz2 b g xs) T) ps asg body d := nrfl rfl
/-- Cells that no freezing changes. -/
def still : AV → Bool
  | .int _ _ => true
  | .bool _ => true
  | .psl _ _ _ => true
  | .pptr _ _ => true
  | .pmap _ => true
  | _ => false
/-- A list of cells that no freezing changes. -/
class Still (ys : List AV) : Prop where
  h : ∀ y ∈ ys, still y = true
theorem fm_still {y : AV} (h : still y = true) : fm2 b es y = y := by cases y <;> first | rfl | cases h
theorem fz_still {y : AV} (h : still y = true) : fz2 b g xs y = y := by cases y <;> first | rfl | cases h
theorem fzl_id {f : AV → AV} : ∀ {ys : List AV}, (∀ y ∈ ys, f y = y) → fzl f ys = ys
  | [], _ => rfl
  | y :: ys, h => by simp only [fzl]; rw [h y (by simp), fzl_id (fun z hz => h z (by simp [hz]))]
theorem fm_pure {ys : List AV} [s : Still ys] : fzl (fm2 b es) ys = ys := fzl_id fun y hy => fm_still (s.h y hy)
theorem fq_pure {ys : List AV} [s : Still ys] : fzl (fz2 b g xs) ys = ys := fzl_id fun y hy => fz_still (s.h y hy)
end
variable [Base]

/-- The marks of a state are open, and forgotten behind it. -/
def hidD (H H' : List (Option ABlk)) : List Nat → Prop
  | [] => True
  | d :: ds => (hget H d = some (.dfr true) ∧ hget H' d = none ∧ d ∉ ds) ∧ hidD H H' ds
omit [Base] in
theorem hidD_spec {H H' : List (Option ABlk)} : ∀ {D : List Nat}, hidD H H' D → D.Nodup ∧ ∀ d ∈ D, hget H d = some (.dfr true) ∧ hget H' d = none
  | [], _ => ⟨by simp, by simp⟩
  | d :: ds, h => by
    obtain ⟨⟨h1, h2, h3⟩, h4⟩ := h
    obtain ⟨h5, h6⟩ := hidD_spec h4
    refine ⟨List.nodup_cons.2 ⟨h3, h5⟩, fun x hx => ?_⟩
    rcases List.mem_cons.1 hx with rfl | hx
    · exact ⟨h1, h2⟩
    · exact h6 x hx

theorem SatC.hide {w0 : World} {X : Ctx} {s s' : St} {a : Act} {w : World} (hs : SatC w0 X s a w) (hX : ∀ b, X.mz b = none) (hl : Le2 X ⟨s.T, s.H, []⟩ s') (hd : hidD s.H s'.H s.D) : SatC w0 X s' a w := by
  obtain ⟨h1, h2, h3, _, h5⟩ := hl
  obtain ⟨ex, hex, m, hs, hx⟩ := hs
  obtain ⟨hlen, htmp⟩ := leT_spec h1
  have hblk := leH_spec h2
  obtain ⟨hnd, hds⟩ := hidD_spec hd
  have hp : ∀ b, liveIn s'.H b = true → hget s'.H b = hget s.H b := by
    intro b hb
    obtain ⟨k, hk⟩ := Option.isSome_iff_exists.1 hb
    rw [hk, (hblk b k hk).1]
  obtain ⟨ls, a1, a2, a3⟩ := hs.marks
  have at_ : ∀ j (x : j < ls.length), ∃ (y : j < s.D.length), m s.D[j] = some ls[j] ∧ w.heap[ls[j].c]? = some (.deferred (some [])) ∧ hget s'.H s.D[j] = none := by
    intro j x
    have y : j < s.D.length := by rw [← a1]; exact x
    refine ⟨y, (a2 j y x).1, ?_, (hds _ (List.getElem_mem y)).2⟩
    obtain ⟨l', e1, e2⟩ := hs.good.blk _ _ (hds _ (List.getElem_mem y)).1
    rw [(a2 j y x).1] at e1; cases e1
    simpa using e2
  have newc : ∀ j (x : j < ls.length), w0.heap.size ≤ ls[j].c ∧ X.wz.heap.size ≤ ls[j].c ∧ Un (killM m (liveIn s'.H)) w ls[j].c := by
    intro j x
    obtain ⟨y, m1, m2, m3⟩ := at_ j x
    refine ⟨hs.good.base _ _ m1, ?_, lt_of_heap m2, fun b l hb => ?_⟩
    · rcases Nat.lt_or_ge ls[j].c X.wz.heap.size with h6 | h6
      · have hun : Un X.mz X.wz ls[j].c := ⟨h6, fun b l hb => by rw [hX b] at hb; cases hb⟩
        exact absurd rfl ((hx.ok _ hun).2.2 _ _ m1)
      · exact h6
    · unfold killM at hb
      split at hb
      · rename_i hlv
        intro e
        have := hs.good.inj b s.D[j] l ls[j] hb m1 e
        subst this
        simp [liveIn, m3] at hlv
      · cases hb
  refine ⟨ls.map (·.c) ++ ex, fun c hc => ?_, killM m (liveIn s'.H), ?_, ext_kill hx h5 hp⟩
  · rcases List.mem_append.1 hc with hc | hc
    · obtain ⟨l, hl, rfl⟩ := List.mem_map.1 hc
      obtain ⟨j, x, rfl⟩ := List.mem_iff_getElem.1 hl
      exact (newc j x).2.1
    · exact hex c hc
  simp only at hlen htmp h3
  rw [hlen, h3]
  refine ⟨hs.good.kill hp (fun b hb => ?_) (fun b k hk => (hblk b k hk).2), hs.size, fun j hj => ?_, ⟨?_, fun c hc => ?_⟩, [], rfl, fun j x => by simp at x, ?_⟩
  · simpa [liveIn] using hb
  · obtain ⟨v, hv, hr⟩ := hs.tmps j hj
    exact ⟨v, hv, rep2_kill (rep_sub hr (htmp j).1) (htmp j).2 hp⟩
  · refine List.nodup_append.2 ⟨?_, hs.roots.1, fun c hc c' hc' e => ?_⟩
    · refine List.pairwise_iff_getElem.2 (fun i j hi hj hij e => ?_)
      simp only [List.getElem_map] at e
      have hi' : i < ls.length := by simpa using hi
      have hj' : j < ls.length := by simpa using hj
      obtain ⟨y1, m1, _, _⟩ := at_ i hi'
      obtain ⟨y2, m2, _, _⟩ := at_ j hj'
      have h7 := hs.good.inj _ _ _ _ m1 m2 e
      exact List.pairwise_iff_getElem.1 hnd i j y1 y2 hij h7
    · subst e
      obtain ⟨l, hl, rfl⟩ := List.mem_map.1 hc
      obtain ⟨j, x, rfl⟩ := List.mem_iff_getElem.1 hl
      obtain ⟨y, m1, _, _⟩ := at_ j x
      exact (hs.roots.2 _ hc').2.1.2 _ _ m1 rfl
  · rcases List.mem_append.1 hc with hc | hc
    · obtain ⟨l, hl, rfl⟩ := List.mem_map.1 hc
      obtain ⟨j, x, rfl⟩ := List.mem_iff_getElem.1 hl
      exact ⟨(newc j x).1, (newc j x).2.2, (at_ j x).choose_spec.2.1⟩
    · obtain ⟨b1, b2, b3⟩ := hs.roots.2 c hc
      exact ⟨b1, un_kill b2, b3⟩
  · rw [a3]; simp

/-- From here on the marks are hidden. -/
theorem Imp.hide {w0 : World} {X : Ctx} {s s' : St} (hX : ∀ b, X.mz b = none) (hl : Le2 X ⟨s.T, s.H, []⟩ s') (hd : hidD s.H s'.H s.D) : Imp w0 X s s' := fun _ _ hs => hs.hide hX hl hd
end Go.Am
