/- Parts Y6, Y7, Y8, Y9, Ya, Yb, Yc, Xo, Xk of the proof, one behind the other. No statement is proved here. -/
import Derived.Test.YtghlpjfpfjpddaaN3
/- The abstract machine Am, part Y6: rewriting of what is done to maps. -/
namespace Go.Am
open Go.RowKit
def mapX (a : AV) (k : Nat → Prop) : Prop := match a with | .map b => k b | _ => False
@[congr] theorem mapX_congr {a a' : AV} {k : Nat → Prop} (h : a = a') : mapX a k = mapX a' k := by rw [h]
theorem mx_s {b : Nat} {k : Nat → Prop} : mapX (.map b) k = k b := nrfl rfl
def keyA (a : AV) (k : IntKind → Int → Prop) : Prop := match a with | .int kk n => k kk n | _ => False
@[congr] theorem keyA_congr {a a' : AV} {k : IntKind → Int → Prop} (h : a = a') : keyA a k = keyA a' k := by rw [h]
theorem ky_s {kk : IntKind} {n : Int} {k : IntKind → Int → Prop} : keyA (.int kk n) k = k kk n := nrfl rfl
def mupK (es : List (AV × AV)) (k v : AV) (f : List (AV × AV) → Prop) : Prop := match mapFind es k with | some (some (i, _)) => f (es.set i (k, v)) | some none => f (es ++ [(k, v)]) | none => False
@[congr] theorem mupK_congr {es : List (AV × AV)} {k k' v v' : AV} {f : List (AV × AV) → Prop} (h : k = k') (h' : v = v') : mupK es k v f = mupK es k' v' f := by rw [h, h']
theorem mup_mp {m : List (Int × Int × Int)} {n a b : Int} {f : List (AV × AV) → Prop} : mupK (mpC m) (.int .i64 n) (.agg [.int .i64 a, .int .i64 b]) f = f (mpC (mpPut m n (a, b))) := by
  rcases find_mp n m with ⟨i, v, h1, h2, h3, h4⟩ | ⟨h1, h2, h3, h4⟩
  · simp only [mupK, h1, h3]
  · simp only [mupK, h1, h3]
def mgetK (es : List (AV × AV)) (k z : AV) (f : AV → Bool → Prop) : Prop := match mapFind es k with | some (some (_, v)) => f v true | some none => f z false | none => False
@[congr] theorem mgetK_congr {es : List (AV × AV)} {k k' z : AV} {f : AV → Bool → Prop} (h : k = k') : mgetK es k z f = mgetK es k' z f := by rw [h]
theorem mget_some {m : List (Int × Int × Int)} {n : Int} {v : Int × Int} {z : AV} {f : AV → Bool → Prop} (h : mpGet m n = some v) : mgetK (mpC m) (.int .i64 n) z f = f (.agg [.int .i64 v.1, .int .i64 v.2]) true := by
  rcases find_mp n m with ⟨i, v', h1, h2, h3, h4⟩ | ⟨h1, h2, h3, h4⟩
  · rw [h] at h2; cases h2; simp only [mgetK, h1]
  · rw [h] at h2; cases h2
theorem mget_none {m : List (Int × Int × Int)} {n : Int} {z : AV} {f : AV → Bool → Prop} (h : mpGet m n = none) : mgetK (mpC m) (.int .i64 n) z f = f z false := by
  rcases find_mp n m with ⟨i, v', h1, h2, h3, h4⟩ | ⟨h1, h2, h3, h4⟩
  · rw [h] at h2; cases h2
  · simp only [mgetK, h1]
def mdelK (es : List (AV × AV)) (k : AV) (f : List (AV × AV) → Prop) : Prop := match mapFind es k with | some (some (i, _)) => f (es.eraseIdx i) | some none => f es | none => False
@[congr] theorem mdelK_congr {es : List (AV × AV)} {k k' : AV} {f : List (AV × AV) → Prop} (h : k = k') : mdelK es k f = mdelK es k' f := by rw [h]
theorem mdel_mp {m : List (Int × Int × Int)} {n : Int} {f : List (AV × AV) → Prop} : mdelK (mpC m) (.int .i64 n) f = f (mpC (mpDel m n)) := by
  rcases find_mp n m with ⟨i, v, h1, h2, h3, h4⟩ | ⟨h1, h2, h3, h4⟩
  · simp only [mdelK, h1, h4]
  · simp only [mdelK, h1, h4]
/-- The entries of a map, wherever it lies. -/
def mapY (H : List (Option ABlk)) (x : AV) (f : List (AV × AV) → List Nat → Prop) : Prop := mapOf x (hget H) f
@[congr] theorem mapY_congr {H : List (Option ABlk)} {x x' : AV} {f : List (AV × AV) → List Nat → Prop} (h : x = x') : mapY H x f = mapY H x' f := by rw [h]
theorem my_p {H : List (Option ABlk)} {es : List (AV × AV)} {f : List (AV × AV) → List Nat → Prop} : mapY H (.pmap es) f = f es [] := nrfl rfl
theorem my_m {H : List (Option ABlk)} {b : Nat} {f : List (AV × AV) → List Nat → Prop} : mapY H (.map b) f = mapK (hget H b) fun es => f es [b] := by
  simp only [mapY, mapOf]
  cases hget H b with
  | none => rfl
  | some k => cases k <;> rfl
@[congr] theorem keyOK_congr {P : Program} {kt : TypeId} {k k' : AV} (h : k = k') : keyOK P kt k = keyOK P kt k' := by rw [h]
theorem ko_int {P : Program} {kt : TypeId} {kk : IntKind} {n : Int} : keyOK P kt (.int kk n) = ((tint P kt).isSome = true) := nrfl rfl
theorem ko_agg {P : Program} {kt : TypeId} {xs : List AV} : keyOK P kt (.agg xs) = (EqOK P kt ∧ tkb P kt = some (xs.map kindB)) := nrfl rfl
section
variable {P : Program} {all : Array Oper} {d : Option Tmp} {os : List Oper} {T : List AV} {H : List (Option ABlk)} {D : List Nat} {tr : List E} {K : St → List E → Prop}
theorem st_mapUp {t : TypeId} {x k v : Operand} : stepK P all (.mapUpdate t x k v) d os T H D tr K = optK (tmap P t) fun kv => mapX (aev T x) fun b => keyOK P kv.1 (aev T k) ∧ mapK (hget H b) fun es => mupK es (aev T k) (aev T v) fun es' =>
    evOps P all os ⟨lseto T d .junk, hset H b (.map es'), D⟩ (tr ++ [⟨.junk, [], some (b, .map es')⟩]) K := by
  simp only [stepK, effK]
  cases tmap P t with
  | none => rfl
  | some kv =>
    simp only [optK]
    cases aev T x <;> try rfl
theorem st_lookup {t : TypeId} {x k : Operand} {ok : Bool} : stepK P all (.lookup t x k ok) d os T H D tr K = optK (tmap P t) fun kv => optK (tzv P kv.2) fun z => keyOK P kv.1 (aev T k) ∧ zeroOK z = true ∧ mapY H (aev T x) fun es rd => mgetK es (aev T k) z fun v is =>
    goK P all d os T H D tr K (if ok then .tup [v, .bool is] else v) rd := by
  simp only [stepK, effK]
  cases tmap P t with
  | none => rfl
  | some kv =>
    simp only [optK]
    cases tzv P kv.2 with
    | none => rfl
    | some z => rfl
theorem st_delete {x k : Operand} {t t' : TypeId} : stepK P all (.call ⟨.builtin .delete, #[x, k], #[t, t']⟩) d os T H D tr K = mapX (aev T x) fun b => optK (tmap P t) fun kv => mapK (hget H b) fun es => (tint P kv.1).isSome = true ∧ keyA (aev T k) fun kk n => mdelK es (.int kk n) fun es' =>
    evOps P all os ⟨lseto T d .junk, hset H b (.map es'), D⟩ (tr ++ [⟨.junk, [], some (b, .map es')⟩]) K := by
  simp only [stepK, effK, builtinK, List.map_cons, List.map_nil]
  cases aev T x <;> try rfl
  simp only [mapX]
  cases tmap P t with
  | none => rfl
  | some kv =>
    simp only [optK]
    rename_i b
    cases hget H b with
    | none => rfl
    | some blk =>
      cases blk <;> try rfl
end
attribute [go_sem] mx_s ky_s my_p my_m ko_int ko_agg mup_mp mdel_mp st_mapUp st_lookup st_delete
end Go.Am

/- The abstract machine Am, part Y7: regions with calls that are handed blocks, by the place of the call; the rules of a range, laid for rewriting. -/
namespace Go.Am
open Go.RowKit
section
variable [Base] {P : Program} {w0 : World} {r : Option Nat} {X : Ctx} {s : St} {Q : Exit → St → Prop}
/-- A region, drawn or not, whose call at place n is handed blocks. -/
theorem awp_ownN (n : Nat) {id : Nat} {ops post : List Oper} {o : Oper} (e : ops.drop n = o :: post)
    (h : evOps P ops.toArray (ops.take n) s [] fun s1 _ => ownK P ops.toArray o s1 fun s2 => evOps P ops.toArray post s2 [] fun s3 _ => Q .normal s3) : AWP P w0 r X (.region id ops.toArray false) s Q :=
  awp_own (pre := ops.take n) (by rw [← e, List.take_append_drop]) h
/-- A range over a function: the code of the round is told under names alone. -/
theorem awp_rangeZ {g : Operand} {ps : Array Tmp} {asg body : Code} {gf : FuncId} {first caps : List AV} (hg : aev s.T g = .fn (.func gf) first caps) (n : Nat) (hn : s.H.length = n)
    (hs : ∀ a b, a = asg → b = body → ∃ y H' st pend e, SemF P gf (first ++ [.fn (.yield (n + 1)) [] []] ++ caps) (hset (hset s.H n (.dfr true)) (n + 1) (.loop .ready none 0 s.T ps a b n)) y H' ∧
      hget H' (n + 1) = some (.loop st pend 0 s.T ps a b n) ∧ st ≠ .busy ∧ jumpX pend = some e ∧ Q e ⟨s.T, hset H' (n + 1) (.loop .exhausted pend 0 s.T ps a b n), n :: s.D⟩) : AWP P w0 none X (.rangeFunc g ps asg body) s Q := by
  subst hn
  obtain ⟨y, H', st, pend, e, h1, h2, h3, h4, h5⟩ := hs asg body rfl rfl
  exact awp_range hg h1 h3 h2 h4 h5
end
theorem awp_code [Base] {P : Program} {w0 : World} {r : Option Nat} {X : Ctx} {s : St} {Q : Exit → St → Prop} {a c : Code} (e : a = c) (h : AWP P w0 r X c s Q) : AWP P w0 r X a s Q := e ▸ h
/-- A round, as a call. -/
theorem callH_yield {P : Program} {b : Nat} {as : List AV} {H : List (Option ABlk)} {K : AV → List (Option ABlk) → Prop} (y : Bool) (H' : List (Option ABlk)) (h : SemY P b as H (.bool y) H') (hk : K (.bool y) H') : CallH P (.fn (.yield b) [] []) as H K := ⟨.bool y, H', h, hk⟩
/-- A round's contract, its code told under names. -/
theorem semY_of_awpZ {P : Program} {b : Nat} {as : List AV} {H H' : List (Option ABlk)} {y : Bool} {fn : FuncId} {T : List AV} {ps : Array Tmp} {asg body : Code} {d : Nat}
    (hb : hget H b = some (.loop .ready none fn T ps asg body d)) {T1 : List AV} (hT1 : putArgs ps.toList as T = some T1)
    (h : ∀ [Base] (w0 : World) (l : Nat) (m : Nat → Option Loc) (w : World), AWP P w0 (some l) (Ctx.of H m w) asg ⟨T1, H, []⟩ (midY P w0 (some l) (Ctx.of H m w) b body y H')) : SemY P b as H (.bool y) H' := semY_of_awp hb hT1 h
theorem bl_l {q : Nat → Bool} {st : LoopState} {pend : Option Code} {fn : FuncId} {T : List AV} {ps : Array Tmp} {asg body : Code} {d : Nat} : blkLive q (.loop st pend fn T ps asg body d) = (T.all (live2 q) && q d) := nrfl rfl
theorem pa_n {T : List AV} : putArgs [] [] T = some T := nrfl rfl
theorem pa_c {t : Tmp} {ps : List Tmp} {x : AV} {xs T : List AV} : putArgs (t :: ps) (x :: xs) T = putArgs ps xs (lset T t x) := nrfl rfl
theorem al_mp {q : Nat → Bool} {m : List (Int × Int × Int)} : ((mpC m).all fun e => live2 q e.1 && live2 q e.2) = true := by
  simp only [mpC, List.all_map, List.all_eq_true]
  intro e _; rfl
theorem lv_y {q : Nat → Bool} {b : Nat} : live2 q (.fn (.yield b) [] []) = q b := by simp [live2, live1]
theorem rq_nd {P : Program} {rs : List ResultVar} {R : AV → Prop} {T : List AV} {H : List (Option ABlk)} {d : Nat} {ds : List Nat} : retQ P rs R .normal ⟨T, H, d :: ds⟩ = shut P (d :: ds) ⟨T, H, d :: ds⟩ fun s => resK P s rs fun xs => outs (hget s.H) xs fun ys => R (finAV ys) := nrfl rfl
theorem rq_rd {P : Program} {rs : List ResultVar} {R : AV → Prop} {T : List AV} {H : List (Option ABlk)} {d : Nat} {ds : List Nat} : retQ P rs R .ret ⟨T, H, d :: ds⟩ = shut P (d :: ds) ⟨T, H, d :: ds⟩ fun s => resK P s rs fun xs => outs (hget s.H) xs fun ys => R (finAV ys) := nrfl rfl
attribute [go_sem] bl_l al_mp lv_y rq_nd rq_rd
end Go.Am

/- The abstract machine Am, part Y8: a cut behind a loop that is left by an exit. -/
namespace Go.Am
open Go.RowKit
/-- What is to be shown where a block is left. -/
def exitQ (id : Nat) (K : St → Prop) (Q : Exit → St → Prop) : Exit → St → Prop
  | .exit i, s => if i = id then K s else Q (.exit i) s
  | e, s => Q e s
section
variable [Base] {P : Program} {w0 : World} {r : Option Nat} {X : Ctx} {s s' : St} {Q : Exit → St → Prop} {c : Code}
omit [Base] in
theorem exq_e {id : Nat} {K : St → Prop} : exitQ id K Q (.exit id) s = K s := by simp [exitQ]
omit [Base] in
theorem exq_r {id : Nat} {K : St → Prop} : exitQ id K Q .ret s = Q .ret s := nrfl rfl
omit [Base] in
theorem exq_n {id : Nat} {K : St → Prop} : exitQ id K Q .normal s = Q .normal s := nrfl rfl
/-- A cut: behind the exit all states are told by I. -/
theorem awp_cut {γ : Type} (id : Nat) (J : γ → Prop) (I : γ → St) (h1 : AWP P w0 r X c s (exitQ id (fun s' => ∃ g, J g ∧ Imp w0 X s' (I g)) Q)) (h2 : ∀ g, J g → ∀ s', Imp w0 X s' (I g) → Q (.exit id) s') : AWP P w0 r X c s Q := by
  refine AWP.mono h1 fun e s' hq => ?_
  cases e with
  | exit i =>
    simp only [exitQ] at hq
    split at hq
    · rename_i e; subst e; obtain ⟨g, h3, h4⟩ := hq; exact h2 g h3 s' h4
    · exact hq
  | normal => exact hq
  | goto l => exact hq
  | ret => exact hq
  | panic ch => exact hq
  | outgrown => exact hq
theorem kt_imp (h : Imp w0 X s s') (h' : Kt P w0 r X c Q s') : Kt P w0 r X c Q s := awp_imp h h'
end
attribute [go_sem] exq_e exq_r exq_n
end Go.Am

/- The abstract machine Am, part Y9: regions drawn in any order, with calls that are handed blocks. -/
namespace Go.Am
open Go.RowKit

/-- One call of a region that is handed blocks; W: the blocks that it writes. -/
def ownD (P : Program) (all : Array Oper) (o : Oper) (W : List Nat) (s : St) (K : St → Ef → Prop) : Prop :=
  match guardOf all s.T o with
  | some true => (match o.op with
    | .call ⟨.value f, args, _⟩ => CallH P (aev s.T f) (args.toList.map (aev s.T)) s.H fun r H' => Frm s.H H' W ∧ K ⟨lseto s.T o.dst r, H', s.D⟩ ⟨r, [], wlog H' W, true⟩
    | _ => False)
  | some false => K ⟨lseto s.T o.dst (.tup []), s.H, s.D⟩ ⟨.tup [], [], [], false⟩
  | none => False
/-- A region in parts: what stands before the call number n, the call, what stands behind it. -/
def segD (P : Program) (all : Array Oper) : List (Nat × List Nat) → List Oper → St → List Ef → (St → List Ef → Prop) → Prop
  | [], ops, s, tr, K => evOps P all ops s [] fun s' es => K s' (tr ++ es.map lift)
  | (n, W) :: l, ops, s, tr, K => evOps P all (ops.take n) s [] fun s1 es => (match ops.drop n with
    | o :: post => ownD P all o W s1 fun s2 ef => segD P all l post s2 (tr ++ es.map lift ++ [ef]) K
    | [] => False)

section
variable [Base] {P : Program} {w0 : World} {r : Option Nat} {X : Ctx} {s : St} {Q : Exit → St → Prop} {all : Array Oper}
theorem Trace2.app {i : Nat} {s s1 s2 : Sf} {es fs : List Ef} (h : Trace2 P w0 r all i s es s1) (h' : Trace2 P w0 r all (i + es.length) s1 fs s2) : Trace2 P w0 r all i s (es ++ fs) s2 := by
  induction h with
  | nil i s => simpa using h'
  | run ho hg hok rest ih =>
    rename_i i s s' o e es
    exact .run ho hg hok (ih (by simpa [Nat.add_assoc, Nat.add_comm 1] using h'))
  | skip ho hg rest ih =>
    rename_i i s s' o es
    exact .skip ho hg (ih (by simpa [Nat.add_assoc, Nat.add_comm 1] using h'))

theorem seg_trace : ∀ (l : List (Nat × List Nat)) (ops : List Oper) (i : Nat) (s : St) (tr : List Ef) (K : St → List Ef → Prop), (∀ k, k < ops.length → ops[k]? = all[i + k]?) → segD P all l ops s tr K →
    ∃ es s', Trace2 P w0 r all i s.f es s'.f ∧ es.length = ops.length ∧ K s' (tr ++ es)
  | [], ops, i, s, tr, K, hos, h => by
    obtain ⟨es, s', h1, h2, h3⟩ := ev_trace (w0 := w0) (r := r) ops i s [] _ hos h
    exact ⟨es.map lift, s', h1.two, by simpa using h2, by simpa using h3⟩
  | (n, W) :: l, ops, i, s, tr, K, hos, h => by
    simp only [segD] at h
    obtain ⟨es, s1, h1, h2, h3⟩ := ev_trace (w0 := w0) (r := r) (ops.take n) i s [] _ (fun k hk => by
      have hk' : k < n ∧ k < ops.length := by simpa [Nat.lt_min] using hk
      rw [List.getElem?_take_of_lt hk'.1]; exact hos k hk'.2) h
    simp only [List.nil_append] at h3
    cases hd : ops.drop n with
    | nil => rw [hd] at h3; exact h3.elim
    | cons o post =>
      rw [hd] at h3
      have hn : n < ops.length := by
        rcases Nat.lt_or_ge n ops.length with h4 | h4
        · exact h4
        · rw [List.drop_eq_nil_of_le h4] at hd; cases hd
      have hl2 : es.length = n := by rw [h2, List.length_take]; omega
      have hlen : ops.length = n + (1 + post.length) := by
        have := congrArg List.length hd
        simp at this; omega
      have hget : ∀ k, (o :: post)[k]? = ops[n + k]? := fun k => by rw [← hd, List.getElem?_drop]
      have ho : all[i + n]? = some o := by rw [← hos n hn, ← Nat.add_zero n, ← hget 0]; rfl
      have hpost : ∀ k, k < post.length → post[k]? = all[i + n + 1 + k]? := fun k hk => by
        have := hget (k + 1)
        simp only [List.getElem?_cons_succ] at this
        rw [this, hos (n + (k + 1)) (by omega)]; congr 1; omega
      have ht1 : Trace2 P w0 r all i s.f (es.map lift) s1.f := h1.two
      replace h3 : ownD P all o W s1 fun s2 ef => segD P all l post s2 (tr ++ es.map lift ++ [ef]) K := h3
      unfold ownD at h3
      split at h3
      · rename_i hg
        split at h3
        · rename_i f args ts hop
          obtain ⟨y, H', hsem, hf, h3⟩ := h3
          obtain ⟨fs, s', q1, q2, q3⟩ := seg_trace l post (i + n + 1) _ _ K hpost h3
          refine ⟨es.map lift ++ (⟨y, [], wlog H' W, true⟩ :: fs), s', ht1.app ?_, ?_, by simpa using q3⟩
          · rw [List.length_map, hl2]
            refine .run ho hg (call_ok hop hf hsem) ?_
            have hu := wlog_upd hf
            simp only [St.f] at q1 ⊢
            rw [← hu]
            exact q1
          · simp [hl2, q2, hlen]; omega
        · exact h3.elim
      · rename_i hg
        obtain ⟨fs, s', q1, q2, q3⟩ := seg_trace l post (i + n + 1) _ _ K hpost h3
        refine ⟨es.map lift ++ (⟨.tup [], [], [], false⟩ :: fs), s', ht1.app ?_, ?_, by simpa using q3⟩
        · rw [List.length_map, hl2]
          exact .skip ho hg q1
        · simp [hl2, q2, hlen]; omega
      · exact h3.elim

/-- **A REGION IN ANY ORDER, WITH CALLS THAT ARE HANDED BLOCKS.** -/
theorem awp_draws (l : List (Nat × List Nat)) {id : Nat} {ops : List Oper} (hm : P.follows .mixedOrders = true) (hc : regOK ops.toArray = true) (h : segD P ops.toArray l ops s [] fun s' es => heapOK2 ops.toArray es = true ∧ Q .normal s') :
    AWP P w0 r X (.region id ops.toArray true) s Q := by
  intro a w ⟨ex, hex, hs⟩
  obtain ⟨es, s', ht, hl, hk⟩ := seg_trace (w0 := w0) (r := r) l ops 0 s [] _ (fun k _ => by simp) h
  simp only [List.nil_append] at hk
  exact draw_sound2 (Z := X.Z) (mz := X.mz) (wz := X.wz) hm ht (by simpa using hl) hc hk.1 (fun a w hs => ⟨s', hk.2, ex, hex, hs⟩) a w hs
end

/-! ### Rewriting -/
section
variable {P : Program} {all : Array Oper} {d : Option Tmp} {ty : TypeId} {ps : String} {af : Array Edge} {T : List AV} {H : List (Option ABlk)} {D W : List Nat} {K : St → Ef → Prop} {K2 : St → List Ef → Prop} {s : St} {tr : List Ef} {ops : List Oper}
theorem od_free {f : Operand} {args : Array Operand} {ts : Array TypeId} : ownD P all ⟨d, .call ⟨.value f, args, ts⟩, ty, ps, af, none⟩ W ⟨T, H, D⟩ K = CallH P (aev T f) (args.toList.map (aev T)) H fun r H' => Frm H H' W ∧ K ⟨lseto T d r, H', D⟩ ⟨r, [], wlog H' W, true⟩ := nrfl rfl
theorem od_guard {l : List Oper} {j : Nat} {wn : Bool} {f : Operand} {args : Array Operand} {ts : Array TypeId} : ownD P l.toArray ⟨d, .call ⟨.value f, args, ts⟩, ty, ps, af, some (j, wn)⟩ W ⟨T, H, D⟩ K =
    guardK (gget T (gtmp l j)) wn (CallH P (aev T f) (args.toList.map (aev T)) H fun r H' => Frm H H' W ∧ K ⟨lseto T d r, H', D⟩ ⟨r, [], wlog H' W, true⟩) (K ⟨lseto T d (.tup []), H, D⟩ ⟨.tup [], [], [], false⟩) := by
  simp only [ownD, guardOf, gtmp_is, guardK]
  cases hg : gtmp l j with
  | none => rfl
  | some t =>
    simp only [gget]
    cases lget T t <;> first | rfl | skip
    all_goals (rename_i b; cases b <;> cases wn <;> rfl)
theorem sg_nil : segD P all [] ops s tr K2 = evOps P all ops s [] fun s' es => K2 s' (tr ++ es.map lift) := nrfl rfl
theorem sg_cons {n : Nat} {l : List (Nat × List Nat)} : segD P all ((n, W) :: l) ops s tr K2 = evOps P all (ops.take n) s [] fun s1 es => (match ops.drop n with
    | o :: post => ownD P all o W s1 fun s2 ef => segD P all l post s2 (tr ++ es.map lift ++ [ef]) K2
    | [] => False) := nrfl rfl
theorem wl_n : wlog H [] = [] := nrfl rfl
theorem wl_c {b : Nat} {k : ABlk} {l : List Nat} (h : hget H b = some k) : wlog H (b :: l) = (b, k) :: wlog H l := by simp [wlog, h]
theorem lift_is {v : AV} {rd : List Nat} : lift ⟨v, rd, none⟩ = ⟨v, rd, [], false⟩ := nrfl rfl
theorem lift_wr {v : AV} {rd : List Nat} {p : Nat × ABlk} : lift ⟨v, rd, some p⟩ = ⟨v, rd, [p], false⟩ := nrfl rfl

/-- Blocks that differ at W alone. -/
def frmK (W : List Nat) : Nat → List (Option ABlk) → List (Option ABlk) → Prop
  | i, [], [] => W.all (fun b => decide (b < i)) = true
  | i, x :: H, y :: H' => (match W.contains i with | true => ∃ k, y = some k | false => y = x) ∧ frmK W (i + 1) H H'
  | i, [], y :: H' => (match W.contains i with | true => ∃ k, y = some k | false => y = none) ∧ frmK W (i + 1) [] H'
  | _, _ :: _, [] => False
theorem frmK_spec (W : List Nat) : ∀ (H' H : List (Option ABlk)) (i : Nat), frmK W i H H' → (∀ b, i + b ∉ W → hget H' b = hget H b) ∧ (∀ b, i + b ∈ W → ∃ k, hget H' b = some k)
  | [], [], i, h => by
    refine ⟨fun b _ => rfl, fun b hb => ?_⟩
    simp only [frmK, List.all_eq_true, decide_eq_true_eq] at h
    have := h _ hb; omega
  | [], x :: H, i, h => by simp [frmK] at h
  | y :: H', [], i, h => by
    obtain ⟨h1, h2⟩ := h
    obtain ⟨i1, i2⟩ := frmK_spec W H' [] (i + 1) h2
    refine ⟨fun b hb => ?_, fun b hb => ?_⟩
    · cases b with
      | zero =>
        have : W.contains i = false := by simpa using hb
        rw [this] at h1; simpa [hget] using h1
      | succ b => have := i1 b (by rwa [show i + 1 + b = i + (b + 1) by omega]); simpa [hget] using this
    · cases b with
      | zero =>
        have : W.contains i = true := by simpa using hb
        rw [this] at h1; simpa [hget] using h1
      | succ b => have := i2 b (by rwa [show i + 1 + b = i + (b + 1) by omega]); simpa [hget] using this
  | y :: H', x :: H, i, h => by
    obtain ⟨h1, h2⟩ := h
    obtain ⟨i1, i2⟩ := frmK_spec W H' H (i + 1) h2
    refine ⟨fun b hb => ?_, fun b hb => ?_⟩
    · cases b with
      | zero =>
        have : W.contains i = false := by simpa using hb
        rw [this] at h1; simpa [hget] using h1
      | succ b => have := i1 b (by rwa [show i + 1 + b = i + (b + 1) by omega]); simpa [hget] using this
    · cases b with
      | zero =>
        have : W.contains i = true := by simpa using hb
        rw [this] at h1; simpa [hget] using h1
      | succ b => have := i2 b (by rwa [show i + 1 + b = i + (b + 1) by omega]); simpa [hget] using this
theorem frm_of {W : List Nat} {H H' : List (Option ABlk)} (h : frmK W 0 H H') : Frm H H' W := by
  obtain ⟨h1, h2⟩ := frmK_spec W H' H 0 h
  exact ⟨fun b hb => h1 b (by simpa using hb), fun b hb => h2 b (by simpa using hb)⟩
end
attribute [go_sem] od_free od_guard
end Go.Am

/- The abstract machine Am, part Ya: the numbers of new blocks changed (what a recursion hands back). -/
namespace Go.Am
open Go.RowKit

def swp (a b i : Nat) : Nat := if i = a then b else if i = b then a else i
theorem swp_swp (a b i : Nat) : swp a b (swp a b i) = i := by
  unfold swp
  by_cases h1 : i = a
  · subst h1
    by_cases h2 : b = i
    · simp [h2]
    · simp [h2]
  · by_cases h2 : i = b
    · subst h2; simp [h1]
    · simp [h1, h2]
/-- Blocks that lead to old ones alone, and are as they were under other numbers. -/
def fixB (σ : Nat → Nat) (n : Nat) : List (Option ABlk) → Prop
  | [] => True
  | some k :: H => renB σ k = k ∧ refsB (· < n) k ∧ fixB σ n H
  | none :: _ => False
theorem fixB_get {σ : Nat → Nat} {n : Nat} : ∀ {H : List (Option ABlk)}, fixB σ n H → ∀ b, b < H.length → ∃ k, hget H b = some k ∧ renB σ k = k ∧ refsB (· < n) k
  | [], _, b, hb => by simp at hb
  | none :: H, h, _, _ => h.elim
  | some k :: H, h, 0, _ => ⟨k, rfl, h.1, h.2.1⟩
  | some k :: H, h, b + 1, hb => fixB_get h.2.2 b (by simpa using hb)

/-- Two new blocks change their numbers. -/
theorem semF_swap {P : Program} {g : FuncId} {as : List AV} {H H' : List (Option ABlk)} {r : AV} (a b : Nat) (hs : SemF P g as H r H') (ha : H.length ≤ a) (hb : H.length ≤ b) (hf : fixB (swp a b) H.length H) (har : refsL (· < H.length) as)
    {as' : List AV} (has : renL (swp a b) as = as') {r' : AV} (hr : ren (swp a b) r = r') {K' : List (Option ABlk)} (hK' : ∀ i, hget K' i = (hget H' (swp a b i)).map (renB (swp a b))) : SemF P g as' H r' K' := by
  have low : ∀ i, i < H.length → swp a b i = i := fun i hi => by
    unfold swp; rw [if_neg (by omega), if_neg (by omega)]
  subst has hr
  rw [renL_map]
  refine semF_frame hs (swp a b) (fun i => some (swp a b i)) (fun i hi => ?_) (fun i => by rw [swp_swp]) (fun i c h => ?_) (fun i hi => ?_) (fun i k hk => ?_) (fun j h => refsL_get har j h) (fun i => by simp only [hK'])
  · obtain ⟨k, hk, _⟩ := fixB_get hf i hi
    rw [hk]; simp
  · cases h; exact swp_swp a b i
  · unfold swp
    split
    · exact hb
    · split
      · exact ha
      · exact hi
  · have hi : i < H.length := by
      rcases Nat.lt_or_ge i H.length with h | h
      · exact h
      · rw [hget_length H i h] at hk; cases hk
    obtain ⟨k', hk', h1, h2⟩ := fixB_get hf i hi
    rw [hk] at hk'; cases hk'
    rw [low i hi, h1]
    exact ⟨hk, h2⟩
theorem semF_same {P : Program} {g : FuncId} {as : List AV} {H H' K' : List (Option ABlk)} {r : AV} (hs : SemF P g as H r H') (h : ∀ i, hget K' i = hget H' i) : SemF P g as H r K' := by
  have e : hget K' = hget H' := funext h
  refine ⟨hs.1, fun {_} w0 m w vs hg hl hr => ?_⟩
  rw [e]; exact hs.2 w0 m w vs hg hl hr
end Go.Am

/- The abstract machine Am, part Yb: marks of ranges that are over are hidden (loops with ranges over functions in their rounds). -/
namespace Go.Am
open Go.RowKit
section
variable {b g : Nat} {xs : List AV} {es : List (AV × AV)}
theorem fmB_c {t : TypeId} {sz g' : Nat} {ys : List AV} : fmB b es (.cells t sz g' ys) = .cells t sz g' (fzl (fm2 b es) ys) := nrfl rfl
theorem fmB_m {m : List (Int × Int × Int)} : fmB b es (.map (mpC m)) = .map (mpC m) := by
  simp only [fmB, mpC, List.map_map]; rfl
theorem fmB_d {o : Bool} : fmB b es (.dfr o) = .dfr o := nrfl rfl
theorem fmB_l {st : LoopState} {pend : Option Code} {fn : FuncId} {T : List AV} {ps : Array Tmp} {asg body : Code} {d : Nat} : fmB b es (.loop st pend fn T ps asg body d) = .loop st pend fn (fzl (fm2 b es) T) ps asg body d := nrfl rfl
theorem fzB_c {t : TypeId} {sz g' : Nat} {ys : List AV} : fzB b g xs (.cells t sz g' ys) = .cells t sz g' (fzl (fz2 b g xs) ys) := nrfl rfl
theorem fzB_m {m : List (Int × Int × Int)} : fzB b g xs (.map (mpC m)) = .map (mpC m) := by
  simp only [fzB, mpC, List.map_map]; rfl
theorem fzB_d {o : Bool} : fzB b g xs (.dfr o) = .dfr o := nrfl rfl
theorem fzB_l {st : LoopState} {pend : Option Code} {fn : FuncId} {T : List AV} {ps : Array Tmp} {asg body : Code} {d : Nat} : fzB b g xs (.loop st pend fn T ps asg body d) = .loop st pend fn (fzl (fz2 b g xs) T) ps asg body d := nrfl rfl
/-- Cells that no freezing changes. -/
def still : AV → Bool
  | .int _ _ => true
  | .bool _ => true
  | .psl _ _ _ => true
  | .pptr _ _ => true
  | .pmap _ => true
  | _ => false
/-- A list of cells that no freezing changes. -/
class Still (ys : List AV) : Prop where
  h : ∀ y ∈ ys, still y = true
theorem fm_still {y : AV} (h : still y = true) : fm2 b es y = y := by cases y <;> first | rfl | cases h
theorem fz_still {y : AV} (h : still y = true) : fz2 b g xs y = y := by cases y <;> first | rfl | cases h
theorem fzl_id {f : AV → AV} : ∀ {ys : List AV}, (∀ y ∈ ys, f y = y) → fzl f ys = ys
  | [], _ => rfl
  | y :: ys, h => by simp only [fzl]; rw [h y (by simp), fzl_id (fun z hz => h z (by simp [hz]))]
theorem fm_pure {ys : List AV} [s : Still ys] : fzl (fm2 b es) ys = ys := fzl_id fun y hy => fm_still (s.h y hy)
theorem fq_pure {ys : List AV} [s : Still ys] : fzl (fz2 b g xs) ys = ys := fzl_id fun y hy => fz_still (s.h y hy)
end
variable [Base]

/-- The marks of a state are open, and forgotten behind it. -/
def hidD (H H' : List (Option ABlk)) : List Nat → Prop
  | [] => True
  | d :: ds => (hget H d = some (.dfr true) ∧ hget H' d = none ∧ d ∉ ds) ∧ hidD H H' ds
omit [Base] in
theorem hidD_spec {H H' : List (Option ABlk)} : ∀ {D : List Nat}, hidD H H' D → D.Nodup ∧ ∀ d ∈ D, hget H d = some (.dfr true) ∧ hget H' d = none
  | [], _ => ⟨by simp, by simp⟩
  | d :: ds, h => by
    obtain ⟨⟨h1, h2, h3⟩, h4⟩ := h
    obtain ⟨h5, h6⟩ := hidD_spec h4
    refine ⟨List.nodup_cons.2 ⟨h3, h5⟩, fun x hx => ?_⟩
    rcases List.mem_cons.1 hx with rfl | hx
    · exact ⟨h1, h2⟩
    · exact h6 x hx

theorem SatC.hide {w0 : World} {X : Ctx} {s s' : St} {a : Act} {w : World} (hs : SatC w0 X s a w) (hX : ∀ b, X.mz b = none) (hl : Le2 X ⟨s.T, s.H, []⟩ s') (hd : hidD s.H s'.H s.D) : SatC w0 X s' a w := by
  obtain ⟨h1, h2, h3, _, h5⟩ := hl
  obtain ⟨ex, hex, m, hs, hx⟩ := hs
  obtain ⟨hlen, htmp⟩ := leT_spec h1
  have hblk := leH_spec h2
  obtain ⟨hnd, hds⟩ := hidD_spec hd
  have hp : ∀ b, liveIn s'.H b = true → hget s'.H b = hget s.H b := by
    intro b hb
    obtain ⟨k, hk⟩ := Option.isSome_iff_exists.1 hb
    rw [hk, (hblk b k hk).1]
  obtain ⟨ls, a1, a2, a3⟩ := hs.marks
  have at_ : ∀ j (x : j < ls.length), ∃ (y : j < s.D.length), m s.D[j] = some ls[j] ∧ w.heap[ls[j].c]? = some (.deferred (some [])) ∧ hget s'.H s.D[j] = none := by
    intro j x
    have y : j < s.D.length := by rw [← a1]; exact x
    refine ⟨y, (a2 j y x).1, ?_, (hds _ (List.getElem_mem y)).2⟩
    obtain ⟨l', e1, e2⟩ := hs.good.blk _ _ (hds _ (List.getElem_mem y)).1
    rw [(a2 j y x).1] at e1; cases e1
    simpa using e2
  have newc : ∀ j (x : j < ls.length), w0.heap.size ≤ ls[j].c ∧ X.wz.heap.size ≤ ls[j].c ∧ Un (killM m (liveIn s'.H)) w ls[j].c := by
    intro j x
    obtain ⟨y, m1, m2, m3⟩ := at_ j x
    refine ⟨hs.good.base _ _ m1, ?_, lt_of_heap m2, fun b l hb => ?_⟩
    · rcases Nat.lt_or_ge ls[j].c X.wz.heap.size with h6 | h6
      · have hun : Un X.mz X.wz ls[j].c := ⟨h6, fun b l hb => by rw [hX b] at hb; cases hb⟩
        exact absurd rfl ((hx.ok _ hun).2.2 _ _ m1)
      · exact h6
    · unfold killM at hb
      split at hb
      · rename_i hlv
        intro e
        have := hs.good.inj b s.D[j] l ls[j] hb m1 e
        subst this
        simp [liveIn, m3] at hlv
      · cases hb
  refine ⟨ls.map (·.c) ++ ex, fun c hc => ?_, killM m (liveIn s'.H), ?_, ext_kill hx h5 hp⟩
  · rcases List.mem_append.1 hc with hc | hc
    · obtain ⟨l, hl, rfl⟩ := List.mem_map.1 hc
      obtain ⟨j, x, rfl⟩ := List.mem_iff_getElem.1 hl
      exact (newc j x).2.1
    · exact hex c hc
  simp only at hlen htmp h3
  rw [hlen, h3]
  refine ⟨hs.good.kill hp (fun b hb => ?_) (fun b k hk => (hblk b k hk).2), hs.size, fun j hj => ?_, ⟨?_, fun c hc => ?_⟩, [], rfl, fun j x => by simp at x, ?_⟩
  · simpa [liveIn] using hb
  · obtain ⟨v, hv, hr⟩ := hs.tmps j hj
    exact ⟨v, hv, rep2_kill (rep_sub hr (htmp j).1) (htmp j).2 hp⟩
  · refine List.nodup_append.2 ⟨?_, hs.roots.1, fun c hc c' hc' e => ?_⟩
    · refine List.pairwise_iff_getElem.2 (fun i j hi hj hij e => ?_)
      simp only [List.getElem_map] at e
      have hi' : i < ls.length := by simpa using hi
      have hj' : j < ls.length := by simpa using hj
      obtain ⟨y1, m1, _, _⟩ := at_ i hi'
      obtain ⟨y2, m2, _, _⟩ := at_ j hj'
      have h7 := hs.good.inj _ _ _ _ m1 m2 e
      exact List.pairwise_iff_getElem.1 hnd i j y1 y2 hij h7
    · subst e
      obtain ⟨l, hl, rfl⟩ := List.mem_map.1 hc
      obtain ⟨j, x, rfl⟩ := List.mem_iff_getElem.1 hl
      obtain ⟨y, m1, _, _⟩ := at_ j x
      exact (hs.roots.2 _ hc').2.1.2 _ _ m1 rfl
  · rcases List.mem_append.1 hc with hc | hc
    · obtain ⟨l, hl, rfl⟩ := List.mem_map.1 hc
      obtain ⟨j, x, rfl⟩ := List.mem_iff_getElem.1 hl
      exact ⟨(newc j x).1, (newc j x).2.2, (at_ j x).choose_spec.2.1⟩
    · obtain ⟨b1, b2, b3⟩ := hs.roots.2 c hc
      exact ⟨b1, un_kill b2, b3⟩
  · rw [a3]; simp

/-- From here on the marks are hidden. -/
theorem Imp.hide {w0 : World} {X : Ctx} {s s' : St} (hX : ∀ b, X.mz b = none) (hl : Le2 X ⟨s.T, s.H, []⟩ s') (hd : hidD s.H s'.H s.D) : Imp w0 X s s' := fun _ _ hs => hs.hide hX hl hd
end Go.Am

/- The abstract machine Am, part Yc: a region in the order of its text with several calls that are handed blocks. -/
namespace Go.Am
open Go.RowKit
section
variable [Base] {P : Program} {w0 : World} {r : Option Nat} {X : Ctx} {s : St} {Q : Exit → St → Prop}

/-- What stands before each call that is handed blocks is told by its length. -/
def segO (P : Program) (all : Array Oper) : List Nat → List Oper → St → (St → Prop) → Prop
  | [], ops, s, K => evOps P all ops s [] fun s' _ => K s'
  | n :: l, ops, s, K => evOps P all (ops.take n) s [] fun s1 _ => (match ops.drop n with
    | o :: post => ownK P all o s1 fun s2 => segO P all l post s2 K
    | [] => False)
theorem segO_ops {all : Array Oper} {ex : List Nat} (hex : ex = [] ∨ True) : ∀ (l : List Nat) (ops : List Oper) (i : Nat) (s : St), (∀ k, k < ops.length → ops[k]? = all[i + k]?) → segO P all l ops s (fun s' => Q .normal s') →
    (∀ s' a w, Q .normal s' → SatX w0 ex X.Z X.mz X.wz s'.f a w → ∃ s', Q .normal s' ∧ SatC w0 X s' a w) → ∀ a w, SatX w0 ex X.Z X.mz X.wz s.f a w →
    wpOpsIn (FW r) 0 P all (fun e a' w' => ∃ s', Q e s' ∧ SatC w0 X s' a' w') (List.range' i ops.length) a w
  | [], ops, i, s, hat, h, hQ, a, w, hs => by
    obtain ⟨es2, s3, ht2, hl2, hk2⟩ := ev_trace (w0 := w0) (r := r) (all := all) ops i s [] _ hat h
    have := trace_seq2 (Z := X.Z) (mz := X.mz) (wz := X.wz) (Q := fun e a' w' => ∃ s', Q e s' ∧ SatC w0 X s' a' w') ht2.two (fun a w hs => hQ s3 a w hk2 hs) a w hs
    rw [List.length_map, hl2] at this
    exact this
  | n :: l, ops, i, s, hat, h, hQ, a, w, hs => by
    simp only [segO] at h
    have hpre : ∀ k, k < (ops.take n).length → (ops.take n)[k]? = all[i + k]? := fun k hk => by
      rw [← hat k (by simp at hk; omega), List.getElem?_take_of_lt (by simp at hk; omega)]
    obtain ⟨es, s1, ht, hl, hk⟩ := ev_trace (w0 := w0) (r := r) (all := all) (ops.take n) i s [] _ hpre h
    cases hd : ops.drop n with
    | nil => rw [hd] at hk; exact hk.elim
    | cons o post =>
      rw [hd] at hk
      simp only at hk
      have hlen : n < ops.length := by
        rcases Nat.lt_or_ge n ops.length with h | h
        · exact h
        · rw [List.drop_eq_nil_of_le h] at hd; cases hd
      have hpl : post.length + 1 + n = ops.length := by
        have := congrArg List.length hd
        simp at this; omega
      have htl : (ops.take n).length = n := by simp; omega
      have hpost : ∀ k, post[k]? = ops[n + 1 + k]? := fun k => by
        have := congrArg (fun l => l[k + 1]?) hd
        simp only [List.getElem?_drop, List.getElem?_cons_succ] at this
        rw [← this]; congr 1; omega
      have hat0 : all[i + n]? = some o := by
        rw [← hat n hlen]
        have := congrArg (fun l => l[0]?) hd
        simpa using this
      have hrange : List.range' i ops.length = List.range' i n ++ ((i + n) :: List.range' (i + n + 1) post.length) := by
        rw [show ops.length = n + (post.length + 1) by omega, ← List.range'_append_1, List.range'_succ]
      rw [hrange]
      have e1 : n = (es.map lift).length := by rw [List.length_map, hl, htl]
      rw [show List.range' i n = List.range' i (es.map lift).length by rw [← e1]]
      refine trace_seq3 (Z := X.Z) (mz := X.mz) (wz := X.wz) ht.two ?_ a w hs
      rintro a1 w1 ⟨m1, hs1, hx1⟩
      rw [wpOpsIn_cons]
      unfold wpOpIn
      simp only [hat0]
      have tail : ∀ (s2 : St) (a2 : Act) (w2 : World), segO P all l post s2 (fun s3 => Q .normal s3) → SatX w0 ex X.Z X.mz X.wz s2.f a2 w2 → wpOpsIn (FW r) 0 P all (fun e a' w' => ∃ s', Q e s' ∧ SatC w0 X s' a' w') (List.range' (i + n + 1) post.length) a2 w2 := by
        intro s2 a2 w2 hev hs2
        exact segO_ops hex l post (i + n + 1) s2 (fun k hk => by rw [hpost k, hat _ (by omega)]; congr 1; omega) hev hQ a2 w2 hs2
      unfold ownK at hk
      have hs1' : SatM w0 ex (lget s1.T) s1.T.length (hget s1.H) s1.D m1 a1 w1 := hs1
      split at hk
      · rename_i hg
        rw [guard_wanted hs1' rfl hg (fun _ _ _ _ _ _ => rfl), if_pos rfl]
        split at hk
        · rename_i f args ts ho
          obtain ⟨y, H', hsem, hk⟩ := hk
          refine call_go ho hsem hs1'.good (fun x _ => hs1'.eval s1.T rfl x (fun _ _ _ => rfl)) (fun v w' m' g1 e1 r1 => tail _ _ _ hk ⟨m', ?_, hx1.trans e1⟩)
          simp only [St.f, lseto_length]
          refine hs1'.put g1 e1 r1 (fun j hj => ?_)
          cases hd : o.dst with
          | none => simp [lseto]
          | some d => simp only [lseto, lget_set, Option.some.injEq, hj, and_true]
        · exact hk.elim
      · rename_i hg
        rw [guard_wanted hs1' rfl hg (fun _ _ _ _ _ _ => rfl), if_neg (by simp)]
        refine ⟨fun _ _ => trivial, tail _ _ _ hk ⟨m1, ?_, hx1⟩⟩
        simp only [St.f, lseto_length]
        refine hs1'.put hs1'.good (Ext.refl _ _ _) rep_undef (fun j hj => ?_)
        cases hd : o.dst with
        | none => simp [lseto]
        | some d => simp only [lseto, lget_set, Option.some.injEq, hj, and_true]
      · exact hk.elim
theorem awp_segO (l : List Nat) {id : Nat} {ops : List Oper} (h : segO P ops.toArray l ops s (fun s' => Q .normal s')) : AWP P w0 r X (.region id ops.toArray false) s Q := by
  intro a w ⟨ex, hex, hs⟩
  refine wpIn_region ?_
  rw [show List.range ops.toArray.size = List.range' 0 ops.length by rw [List.range_eq_range']; simp]
  exact segO_ops (.inr trivial) l ops 0 s (fun k _ => by simp) h (fun s' a w hq hs => ⟨s', hq, ex, hex, hs⟩) a w hs
omit [Base] in
theorem so_nil {all : Array Oper} {ops : List Oper} {K : St → Prop} : segO P all [] ops s K = evOps P all ops s [] fun s' _ => K s' := nrfl rfl
omit [Base] in
theorem so_cons {all : Array Oper} {n : Nat} {l : List Nat} {ops : List Oper} {K : St → Prop} : segO P all (n :: l) ops s K = evOps P all (ops.take n) s [] fun s1 _ => (match ops.drop n with
    | o :: post => ownK P all o s1 fun s2 => segO P all l post s2 K
    | [] => False) := nrfl rfl
end
end Go.Am

/- The abstract machine Am, part Xo: the machine that runs, with calls of which the contract is known. -/
namespace Go.Am
open Go.RowKit
set_option linter.unusedSimpArgs false
set_option linter.unusedVariables false
/-- CALLS: of functions, of yield; what is known of some calls (orc) is not run. -/
def xcallO (P : Program) (eqt : TypeId → Bool) (pm ent : FuncId → Bool) (orc : Cv) (lf : Nat) : Nat → Cv
  | 0, _, _, _ => none
  | n + 1, f, args, H => match orc f args H with
    | some r => some r
    | none => match f with
    | .fn (.func g) first caps => if ent g = true then (match P.funcs[g]? with
      | some fn => (match fn.body with
        | some c => (match xcode P eqt pm (xcallO P eqt pm ent orc lf n) lf false c ⟨initT (first ++ args ++ caps) fn.ntmps, H, []⟩ with
          | some (.normal, s', W) => (match shutX s'.D s'.H with
            | some H2 => (match resX P ⟨s'.T, H2, []⟩ fn.results.toList with
              | some vs => some (finAV vs, H2, s'.D ++ W)
              | none => none)
            | none => none)
          | some (.ret, s', W) => (match shutX s'.D s'.H with
            | some H2 => (match resX P ⟨s'.T, H2, []⟩ fn.results.toList with
              | some vs => some (finAV vs, H2, s'.D ++ W)
              | none => none)
            | none => none)
          | _ => none)
        | none => none)
      | none => none) else none
    | .fn (.yield b) [] [] => (match hget H b with
      | some (.loop .ready none fn T ps asg body d) => (match putArgs ps.toList args T with
        | some T1 => (match xcode P eqt pm (xcallO P eqt pm ent orc lf n) lf true asg ⟨T1, H, []⟩ with
          | some (.normal, s1, W1) => (match hget s1.H b with
            | some (.loop .ready none fn T ps asg body d) => (match xcode P eqt pm (xcallO P eqt pm ent orc lf n) lf true body ⟨s1.T, hset s1.H b (.loop .busy none fn T ps asg body d), s1.D⟩ with
              | some (.normal, s2, W2) => (match hget s2.H b with
                | some (.loop .busy none fn T ps asg body d) => some (.bool true, hset s2.H b (.loop .ready none fn T ps asg body d), b :: (W1 ++ W2))
                | _ => none)
              | some (.ret, s2, W2) => (match hget s2.H b with
                | some (.loop .busy none fn T ps asg body d) => some (.bool false, hset s2.H b (.loop .done (some .ret) fn T ps asg body d), b :: (W1 ++ W2))
                | _ => none)
              | some (.exit id, s2, W2) => (match hget s2.H b with
                | some (.loop .busy none fn T ps asg body d) => some (.bool false, hset s2.H b (.loop .done (some (.exit id)) fn T ps asg body d), b :: (W1 ++ W2))
                | _ => none)
              | _ => none)
            | _ => none)
          | _ => none)
        | none => none)
      | _ => none)
    | _ => none


section
variable {P : Program} {eqt : TypeId → Bool} {pm ent : FuncId → Bool} {lf : Nat}
/-- CALLS. -/
theorem xcallO_sound {orc : Cv} (horc : CvOK P orc) (he : ∀ t, eqt t = true → EqOK P t) (hen : ∀ g, ent g = true → Enters P g) (hmx : P.follows .mixedOrders = true) : ∀ n, CvOK P (xcallO P eqt pm ent orc lf n) := by
  intro n
  induction n with
  | zero => intro fv ax0 H r H' W hx; simp [xcallO] at hx
  | succ n ih =>
    have hcode := fun rd => xcode_sound (rd := rd) (lf := lf) (pm := pm) he hmx ih
    intro fv ax0 H r H' W hx
    simp only [xcallO] at hx
    cases ho : orc fv ax0 H with
    | some q =>
      rw [ho] at hx
      exact horc fv ax0 H r H' W (by rw [ho]; exact hx)
    | none =>
    simp only [ho] at hx
    split at hx
    · rename_i g first caps
      split at hx
      · rename_i hent
        split at hx
        · rename_i fn hfn
          split at hx
          · rename_i c hbody
            have key : ∀ (ex : Exit) (s' : St) (W' : List Nat), (ex = .normal ∨ ex = .ret) → xcode P eqt pm (xcallO P eqt pm ent orc lf n) lf false c ⟨initT (first ++ ax0 ++ caps) fn.ntmps, H, []⟩ = some (ex, s', W') →
                (match shutX s'.D s'.H with
                  | some H2 => (match resX P ⟨s'.T, H2, []⟩ fn.results.toList with
                    | some vs => some (finAV vs, H2, s'.D ++ W')
                    | none => none)
                  | none => none) = some (r, H', W) → Frm H H' W ∧ Sem P (.fn (.func g) first caps) ax0 H r H' := by
              intro exx s' W' hex hc hx
              split at hx
              · rename_i H2 hsh
                split at hx
                · rename_i vs hvs
                  cases hx
                  obtain ⟨f1, x1⟩ := hcode false c _ _ _ _ hc
                  refine ⟨(f1.trans (shutX_frm _ hsh)).congr (fun b => by simp [or_comm]), hen g hent, fun w0 m w us hg hlen hrep => ?_⟩
                  refine callsIn_of_wp_marks hfn hbody trivial ?_
                  have hsat : SatM w0 [] (lget (initT (first ++ ax0 ++ caps) fn.ntmps)) (initT (first ++ ax0 ++ caps) fn.ntmps).length (hget H) [] m { tmps := us.toArray ++ Array.replicate (fn.ntmps - us.toArray.size) undef, defers := [] } w := by
                    refine ⟨hg, ?_, fun j hj => ?_, HidR.nil, [], rfl, fun j a => by simp at a, rfl⟩
                    · simp only [initT, List.length_append, junks_length, Array.size_append, List.size_toArray, Array.size_replicate] at hlen ⊢
                      omega
                    · simp only [initT, List.length_append, junks_length] at hj
                      rw [initT, lget_append]
                      by_cases hj' : j < (first ++ ax0 ++ caps).length
                      · refine ⟨us[j], ?_, ?_⟩
                        · rw [Array.getElem?_append_left (by simpa using (by omega : j < us.length))]; simp
                        · rw [dif_pos hj']
                          exact hrep j hj' (by omega)
                      · refine ⟨undef, ?_, ?_⟩
                        · rw [Array.getElem?_append_right (by simpa using (by omega : us.length ≤ j))]
                          rw [Array.getElem?_replicate, if_pos (by simp only [List.length_append] at hj' hlen; simp; omega)]
                        · rw [dif_neg hj', lget_junks]; exact .junk _
                  refine wpIn_mono (x1 w0 none [] m _ w (fun _ => rfl) hsat) ?_
                  rintro e' a' w' ⟨rfl, m', hs', ex'⟩
                  have := leavesX (P := P) (w0 := w0) (fn := fn) hvs (RR := fun e w' => ∃ v m', e = .returned v ∧ Good w0 (hget H') m' w' ∧ Ext (hget H) m w (hget H') m' w' ∧ Rep (hget H') m' w' (finAV vs) v) (fun v w' m' a b c => ⟨v, m', rfl, a, b, c⟩) s'.D s'.H a' w' m' hsh hs' ex'
                  rcases hex with rfl | rfl
                  · exact this
                  · exact this
                · cases hx
              · cases hx
            split at hx
            · rename_i s' W' hc; exact key _ s' W' (.inl rfl) hc hx
            · rename_i s' W' hc; exact key _ s' W' (.inr rfl) hc hx
            · cases hx
          · cases hx
        · cases hx
      · cases hx
    · rename_i b
      split at hx
      · rename_i fn T ps asg body d hb
        split at hx
        · rename_i T1 hT1
          split at hx
          · rename_i s1 W1 hc1
            obtain ⟨f1, x1⟩ := hcode true asg _ _ _ _ hc1
            split at hx
            · rename_i fn' T' ps' asg' body' d' hb1
              have key : ∀ (e2 : Exit) (s2 : St) (W2 : List Nat) (jump : Option Code) (fn2 : FuncId) (T2 : List AV) (ps2 : Array Tmp) (asg2 body2 : Code) (d2 : Nat), xcode P eqt pm (xcallO P eqt pm ent orc lf n) lf true body' ⟨s1.T, hset s1.H b (.loop .busy none fn' T' ps' asg' body' d'), s1.D⟩ = some (e2, s2, W2) →
                  hget s2.H b = some (.loop .busy none fn2 T2 ps2 asg2 body2 d2) → (∀ l R a w, (∃ v w', (Instr.endRound l jump).run P w = .ok v w' ∧ R (.returned v) w') → roundPost P l R e2 a w) →
                  Frm H (hset s2.H b (.loop (if jump.isNone then .ready else .done) jump fn2 T2 ps2 asg2 body2 d2)) (b :: (W1 ++ W2)) ∧ SemY P b ax0 H (.bool jump.isNone) (hset s2.H b (.loop (if jump.isNone then .ready else .done) jump fn2 T2 ps2 asg2 body2 d2)) := by
                intro e2 s2 W2 jump fn2 T2 ps2 asg2 body2 d2 hc2 hb2 hpost
                obtain ⟨f2, x2⟩ := hcode true body' _ _ _ _ hc2
                refine ⟨(((f1.trans (Frm.set _ b _)).trans f2).trans (Frm.set _ b _)).congr (fun c => ?_), ?_⟩
                · simp only [List.mem_append, List.mem_cons, List.not_mem_nil, or_false]
                  constructor
                  · rintro (((h | h) | h) | h) <;> simp [h]
                  · rintro (h | h | h) <;> simp [h]
                · intro _ w0 m w us l hg hl hlen hrep
                  obtain ⟨rec, k1, k2, k3, k4, k5, k6, k7, k8, _, _⟩ := rec_same hg hb hl .ready none
                  obtain ⟨p1, p2, p3, p4⟩ := putArgs_sound ps.toList ax0 T T1 us rec.tmps hT1 hlen hrep k7 (fun j hj => by
                    obtain ⟨v, hv, hr⟩ := k8 j hj
                    refine ⟨v, hv, ?_⟩
                    rw [lget_get, List.getElem?_eq_getElem hj]; exact hr)
                  have hy := run_yield (P := P) (args := us.toArray) k1 (by rw [k4]; simpa using p1.symm)
                  have hfold : (rec.params.zip us.toArray).foldl (fun tmps (t, a) => tmps.setIfInBounds t a) rec.tmps = (ps.toList.zip us).foldl (fun t p => t.setIfInBounds p.1 p.2) rec.tmps := by
                    rw [k4, ← Array.foldl_toList, Array.toList_zip]
                  refine ⟨_, _, _, _, hy, roundIn_of_wpIn trivial ?_⟩
                  rw [hfold, k5]
                  have hsat : SatM w0 [] (lget T1) T1.length (hget H) [] m { tmps := (ps.toList.zip us).foldl (fun t p => t.setIfInBounds p.1 p.2) rec.tmps, defers := [] } w :=
                    ⟨hg, by rw [p2]; exact p3, fun j hj => p4 j (by rw [← p2]; exact hj), HidR.nil, [], rfl, fun j a => by simp at a, rfl⟩
                  refine wpIn_mono (x1 w0 (some l.c) [] m _ w (by simp) hsat) ?_
                  rintro e' a1 w1 ⟨rfl, m1, hs1, ex1⟩
                  have hl1 : m1 b = some l := by rw [(ex1.loop _ _ _ _ _ _ _ _ _ hb).2]; exact hl
                  obtain ⟨rec1, q1, q2, q3, _, _, q6, _, _, g2, e2x⟩ := rec_same hs1.good hb1 hl1 .busy none
                  rw [← hget_upd] at g2 e2x
                  have hbr := run_beginRound (P := P) q1 q2
                  rw [q3] at hbr
                  have hbody : rec.body = body' := by
                    have h5 : ∃ st' pend', hget s1.H b = some (.loop st' pend' fn T ps asg body d) := (ex1.loop _ _ _ _ _ _ _ _ _ hb).1
                    obtain ⟨st', pend', h5⟩ := h5
                    rw [hb1] at h5
                    cases h5
                    exact k6
                  refine ⟨_, hbr, ?_⟩
                  rw [hbody]
                  have hs2 : SatM w0 [] (lget s1.T) s1.T.length (hget (hset s1.H b (.loop .busy none fn' T' ps' asg' body' d'))) s1.D _ a1 _ := hs1.move g2 e2x
                  refine wpIn_mono (x2 w0 (some l.c) [] _ a1 _ (by simp) hs2) ?_
                  rintro e3 a3 w3 ⟨rfl, m3, hs3, ex3⟩
                  have hl3 : m3 b = some l := by
                    rw [(ex3.loop _ _ _ _ _ _ _ _ _ (by rw [hget_upd, upd_same])).2, upd_same]
                  obtain ⟨v, w4, r1, v', m4, r2, r3, r4, r5⟩ := round_end (P := P) hs3.good ((ex1.trans e2x).trans ex3) hl3 hb2 jump _ rfl
                  exact hpost _ _ _ _ ⟨v, w4, r1, v', m4, r2, r3, r4, r5⟩
              split at hx
              · rename_i s2 W2 hc2
                split at hx
                · rename_i hb2
                  cases hx
                  exact key _ _ _ none _ _ _ _ _ _ hc2 hb2 (fun l R a w h => h)
                · cases hx
              · rename_i s2 W2 hc2
                split at hx
                · rename_i hb2
                  cases hx
                  exact key _ _ _ (some .ret) _ _ _ _ _ _ hc2 hb2 (fun l R a w h => h)
                · cases hx
              · rename_i id s2 W2 hc2
                split at hx
                · rename_i hb2
                  cases hx
                  exact key _ _ _ (some (.exit id)) _ _ _ _ _ _ hc2 hb2 (fun l R a w h => h)
                · cases hx
              · cases hx
            · cases hx
          · cases hx
        · cases hx
      · cases hx
    · cases hx

/-- The contract of a function that is run. -/
theorem callS_runO {orc : Cv} (horc : CvOK P orc) (he : ∀ t, eqt t = true → EqOK P t) (hen : ∀ g, ent g = true → Enters P g) (hmx : P.follows .mixedOrders = true) {n : Nat} {g : FuncId} {ax0 : List AV} {y : AV} (h : pcallX (xcallO P eqt pm ent orc lf n) g ax0 = some y) : CallS P g ax0 y := by
  unfold pcallX at h
  split at h
  · rename_i r H' W hc
    obtain ⟨_, hs⟩ := xcallO_sound horc he hen hmx n _ _ _ _ _ _ hc
    exact callS_of_semF (by simpa [Sem] using hs) h
  · cases h
/-- A call whose contract is known, with no blocks. -/
theorem semF_of_callS {g : FuncId} {xs : List AV} {r : AV} (h : CallS P g xs r) (hp : ∀ x ∈ xs, pureA x = true) : SemF P g xs [] r [] := by
  refine ⟨h.1, fun {B} w0 m w vs hg hlen hrep => ?_⟩
  refine (h.2 w vs (Ok m w) (fun c hc => hc.1) hlen (fun j a b => pure_prep (hrep j a b) (hp _ (List.getElem_mem _)))).mono ?_
  rintro e w' ⟨v, rfl, hv, hb⟩
  obtain ⟨g1, e1⟩ := hg.garbage hb
  refine ⟨v, m, rfl, g1, e1, .pure (hv.mono (fun _ _ => rfl) (fun c hc => ?_))⟩
  rcases hc with hc | hc
  · exact ⟨Nat.lt_of_lt_of_le hc.1 hb.size, hc.2⟩
  · refine ⟨hc.2, fun b l hl he => ?_, hg.fresh _ (.inr hc.1)⟩
    have := hg.lt hl
    omega
end
end Go.Am

/- The abstract machine Am, part Xk: calls that are known, by their values (for calls that are run in parts). -/
namespace Go.Am
open Go.RowKit
set_option linter.unusedSimpArgs false
set_option linter.unusedVariables false

/-- Are two values the same? (Numbers, lists, structs alone.) -/
def avB : Nat → AV → AV → Bool
  | 0, _, _ => false
  | d + 1, x, y => match x, y with
    | .int k a, .int k' b => decide (k = k') && decide (a = b)
    | .bool a, .bool b => a == b
    | .nils, .nils => true
    | .nilp, .nilp => true
    | .nilm, .nilm => true
    | .nilf, .nilf => true
    | .psl f n xs, .psl f' n' ys => (f == f') && (Nat.beq n n' && go (avB d) xs ys)
    | .agg xs, .agg ys => go (avB d) xs ys
    | _, _ => false
where go (f : AV → AV → Bool) : List AV → List AV → Bool
  | [], [] => true
  | x :: xs, y :: ys => f x y && go f xs ys
  | _, _ => false
theorem avB_go {f : AV → AV → Bool} (hf : ∀ x y, f x y = true → x = y) : ∀ {xs ys : List AV}, avB.go f xs ys = true → xs = ys
  | [], [], _ => rfl
  | x :: xs, y :: ys, h => by
    simp only [avB.go, Bool.and_eq_true] at h
    rw [hf _ _ h.1, avB_go hf h.2]
  | [], _ :: _, h => by simp [avB.go] at h
  | _ :: _, [], h => by simp [avB.go] at h
theorem avB_eq : ∀ (d : Nat) (x y : AV), avB d x y = true → x = y
  | 0, _, _, h => by simp [avB] at h
  | d + 1, x, y, h => by
    unfold avB at h
    split at h
    · simp only [Bool.and_eq_true, decide_eq_true_eq] at h
      rw [h.1, h.2]
    · rw [beq_iff_eq.1 h]
    · rfl
    · rfl
    · rfl
    · rfl
    · simp only [Bool.and_eq_true, beq_iff_eq, Nat.beq_eq] at h
      rw [h.1, h.2.1, avB_go (avB_eq d) h.2.2]
    · rw [avB_go (avB_eq d) h]
    · cases h
/-- A call that is known. -/
structure Known where
  g : FuncId
  xs : List AV
  r : AV
def findK : List Known → FuncId → List AV → Option AV
  | [], _, _ => none
  | k :: l, g, xs => if Nat.beq k.g g && avB.go (avB 8) k.xs xs then some k.r else findK l g xs
theorem findK_ok {P : Program} : ∀ {l : List Known} {g : FuncId} {xs : List AV} {r : AV}, (∀ k ∈ l, CallS P k.g k.xs k.r) → findK l g xs = some r → CallS P g xs r
  | [], _, _, _, _, h => by cases h
  | k :: l, g, xs, r, hl, h => by
    simp only [findK] at h
    split at h
    · rename_i hc
      simp only [Bool.and_eq_true, Nat.beq_eq] at hc
      cases h
      have := hl k (by simp)
      rw [hc.1, avB_go (avB_eq 8) hc.2] at this
      exact this
    · exact findK_ok (fun k hk => hl k (by simp [hk])) h
def orcK (l : List Known) : Cv := fun f args H => match f, H with
  | .fn (.func g) [] [], [] => if args.all pureA = true then (match findK l g args with
    | some r => some (r, [], [])
    | none => none) else none
  | _, _ => none
theorem orcK_ok {P : Program} {l : List Known} (hl : ∀ k ∈ l, CallS P k.g k.xs k.r) : CvOK P (orcK l) := by
  intro fv xs H r H' W hx
  unfold orcK at hx
  split at hx
  · split at hx
    · rename_i hp
      split at hx
      · rename_i r' hr
        cases hx
        exact ⟨Frm.refl _, by simpa [Sem] using semF_of_callS (findK_ok hl hr) (by simpa using hp)⟩
      · cases hx
    · cases hx
  · cases hx
end Go.Am
