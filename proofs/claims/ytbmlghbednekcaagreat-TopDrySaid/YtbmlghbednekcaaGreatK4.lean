/- Parts AmY, Y9, Ya, Yb, Yc, Yd, Yl, Ye, Yf, Yg, Ym, Xo, UkG of the proof, one behind the other. No statement is proved here. -/
import Derived.Test.YtbmlghbednekcaaGreatK2
import Derived.Test.YtbmlghbednekcaaGreatK3
set_option linter.unusedVariables false -- all
set_option linter.unusedSimpArgs false
namespace Go.Am
open Go.RowKit
def fm0 (b : Nat) (es : List (AV × AV)) : AV → AV
  | .ptr b' g' off => if b' = b then .junk else .ptr b' g' off
  | .osl b' g' off len => if b' = b then .junk else .osl b' g' off len
  | .fn (.func f) [] [] => .fn (.func f) [] []
  | .fn _ _ _ => .junk
  | .agg _ => .junk
  | .tup _ => .junk
  | .oslc b' g' off len cap => if b' = b then .junk else .oslc b' g' off len cap
  | .map b' => if b' = b then .pmap es else .map b'
  | x => x
def fm1 (b : Nat) (es : List (AV × AV)) : AV → AV
  | .agg ys => .agg (fzl (fm0 b es) ys)
  | .fn (.func f) us vs => .fn (.func f) (fzl (fm0 b es) us) (fzl (fm0 b es) vs)
  | .fn (.yield c) [] [] => if c = b then .junk else .fn (.yield c) [] []
  | x => fm0 b es x
def fm2 (b : Nat) (es : List (AV × AV)) : AV → AV
  | .agg ys => .agg (fzl (fm1 b es) ys)
  | .tup ys => .tup (fzl (fm1 b es) ys)
  | .fn (.func f) us vs => .fn (.func f) (fzl (fm1 b es) us) (fzl (fm1 b es) vs)
  | x => fm1 b es x
def fmB (b : Nat) (es : List (AV × AV)) : ABlk → ABlk
  | .cells t sz g' ys => .cells t sz g' (fzl (fm2 b es) ys)
  | .map fs => .map (fs.map fun e => (fm2 b es e.1, fm2 b es e.2))
  | .dfr o => .dfr o
  | .loop st pend fn T ps asg body d => .loop st pend fn (fzl (fm2 b es) T) ps asg body d
def fmO (b : Nat) (es : List (AV × AV)) : Option ABlk → Option ABlk
  | none => none
  | some k => some (fmB b es k)
def fmHs (b : Nat) (es : List (AV × AV)) : List (Option ABlk) → List (Option ABlk)
  | [] => []
  | k :: l => fmO b es k :: fmHs b es l
def fmH (b : Nat) (es : List (AV × AV)) : Nat → List (Option ABlk) → List (Option ABlk)
  | _, [] => []
  | 0, _ :: l => none :: fmHs b es l
  | i + 1, k :: l => fmO b es k :: fmH b es i l
def fmz (b : Nat) (es : List (AV × AV)) (s : St) : St := ⟨fzl (fm2 b es) s.T, fmH b es b s.H, s.D⟩
def pureE (es : List (AV × AV)) : Prop := ∀ e ∈ es, pureA e.1 = true ∧ pureA e.2 = true
theorem fmHs_get (b : Nat) (es : List (AV × AV)) : ∀ (l : List (Option ABlk)) (c : Nat), hget (fmHs b es l) c = fmO b es (hget l c)
  | [], _ => rfl
  | k :: l, 0 => rfl
  | k :: l, c + 1 => by simpa [fmHs, hget] using fmHs_get b es l c
theorem fmH_get (b : Nat) (es : List (AV × AV)) : ∀ (i : Nat) (l : List (Option ABlk)) (c : Nat), hget (fmH b es i l) c = if c = i then none else fmO b es (hget l c)
  | i, [], c => by simp [fmH, hget, fmO]
  | 0, k :: l, 0 => by simp [fmH, hget]
  | 0, k :: l, c + 1 => by simp [fmH, hget, fmHs_get]
  | i + 1, k :: l, 0 => by simp [fmH, hget]
  | i + 1, k :: l, c + 1 => by simp [fmH, hget, fmH_get b es i l c]
variable [Base]
section
variable {w0 : World} {h h' : Nat → Option ABlk} {m : Nat → Option Loc} {w : World} {b : Nat} {es : List (AV × AV)}
structure FmH (h h' : Nat → Option ABlk) (b : Nat) (es : List (AV × AV)) : Prop where
  self : h' b = none
  other : ∀ c, c ≠ b → h' c = fmO b es (h c)
omit [Base] in
theorem FmH.cells {h h' : Nat → Option ABlk} (z : FmH h h' b es) {c : Nat} (hc : c ≠ b) {t' : TypeId} {sz' g' : Nat} {ys : List AV} (hb : h c = some (.cells t' sz' g' ys)) : h' c = some (.cells t' sz' g' (fzl (fm2 b es) ys)) := by
  rw [z.other c hc, hb]; rfl
theorem rep_fm0 {x : AV} {v : Value} (hg : Good w0 h m w) (z : FmH h h' b es) (hb : h b = some (.map es)) (hp : pureE es) (r : Rep h m w x v) : Rep h' (killM m (notb b)) w (fm0 b es x) v := by
  have km : ∀ c, c ≠ b → killM m (notb b) c = m c := fun c hc => by simp [killM, notb_ne hc]
  have pure : PRep (Ok m w) w x v → Rep h' (killM m (notb b)) w x v := fun p => .pure (p.mono (fun _ _ => rfl) (fun _ hc => ok_kill hc))
  cases x
  case ptr b' g' off =>
    simp only [fm0]
    split
    · exact .junk _
    · rename_i hne
      cases r with
      | pure p => cases p
      | ptr hb' hg' ho hv => exact .ptr (z.cells hne hb') hg' ho (fun e => by rw [km _ hne]; exact hv e)
  case osl b' g' off len =>
    simp only [fm0]
    split
    · exact .junk _
    · rename_i hne
      cases r with
      | pure p => cases p
      | osl hb' hg' ho hv => exact .osl (z.cells hne hb') hg' ho (fun e => by rw [km _ hne]; exact hv e)
  case oslc b' g' off len cap =>
    simp only [fm0]
    split
    · exact .junk _
    · rename_i hne
      cases r with
      | pure p => cases p
      | oslc hb' hg' ho hv => exact .oslc (z.cells hne hb') hg' ho (fun e => by rw [km _ hne]; exact hv e)
  case map b' =>
    simp only [fm0]
    split
    · rename_i e; subst e
      obtain ⟨l, hl, rfl⟩ := rep_map r
      obtain ⟨arr, clk, h1, h2, h3⟩ := blk_map hg hb hl
      have ent : ∀ j (a : j < es.length) (c : j < arr.size), PRep (Ok (killM m (notb b')) w) w (es[j]).1 (arr[j]).key ∧ PRep (Ok (killM m (notb b')) w) w (es[j]).2 (arr[j]).val := by
        intro j a c
        have h4 := h3 j a (by simpa using c)
        rw [Array.getElem_toList] at h4
        obtain ⟨p1, p2⟩ := hp es[j] (List.getElem_mem _)
        exact ⟨(pure_prep h4.1 p1).mono (fun _ _ => rfl) (fun _ hc => ok_kill hc), (pure_prep h4.2 p2).mono (fun _ _ => rfl) (fun _ hc => ok_kill hc)⟩
      exact .pure (.pmap (ok_frz hg hl) h1 h2 (fun j a c => (ent j a c).1) (fun j a c => (ent j a c).2))
    · rename_i hne
      cases r with
      | pure p => cases p
      | map hb' hm => exact .map (by rw [z.other _ hne, hb']; rfl) (by rw [km _ hne]; exact hm)
  case fn f us vs =>
    cases f
    case func f =>
      cases us with
      | cons => exact .junk _
      | nil =>
        cases vs with
        | cons => exact .junk _
        | nil =>
          cases r with
          | pure p => exact .pure (p.mono (fun _ _ => rfl) (fun _ hc => ok_kill hc))
          | fn us' vs' hf h1 h2 r1 r2 => exact .fn us' vs' hf h1 h2 (fun j a => by simp at a) (fun j a => by simp at a)
    all_goals exact .junk _
  case agg => exact .junk _
  case tup => exact .junk _
  case junk => exact .junk _
  all_goals exact pure (by cases r with | pure p => exact p)
theorem rep_fm1 {x : AV} {v : Value} (hg : Good w0 h m w) (z : FmH h h' b es) (hb : h b = some (.map es)) (hp : pureE es) (r : Rep h m w x v) : Rep h' (killM m (notb b)) w (fm1 b es x) v := by
  have lst : ∀ {ys : List AV} {us : List Value}, (∀ j (a : j < ys.length) (c : j < us.length), Rep h m w ys[j] us[j]) → ∀ j (a : j < (fzl (fm0 b es) ys).length) (c : j < us.length), Rep h' (killM m (notb b)) w (fzl (fm0 b es) ys)[j] us[j] := by
    intro ys us hr j a c
    rw [fzl_get _ _ _ _ (by rw [fzl_len] at a; exact a)]
    exact rep_fm0 hg z hb hp (hr j _ c)
  cases x
  case agg ys =>
    obtain ⟨us, rfl, h1, ho, r1⟩ := rep_agg r
    exact .agg us (by rw [fzl_len]; exact h1) ho (lst r1)
  case fn f us vs =>
    cases f
    case func f =>
      simp only [fm1]
      cases r with
      | pure p => cases p with | fn us' vs' hf h1 h2 r1 r2 => exact .fn us' vs' hf (by rw [fzl_len]; exact h1) (by rw [fzl_len]; exact h2) (lst fun j a c => .pure (r1 j a c)) (lst fun j a c => .pure (r2 j a c))
      | fn us' vs' hf h1 h2 r1 r2 => exact .fn us' vs' hf (by rw [fzl_len]; exact h1) (by rw [fzl_len]; exact h2) (lst r1) (lst r2)
    case yield c =>
      cases us with
      | cons => exact rep_fm0 hg z hb hp r
      | nil =>
        cases vs with
        | cons => exact rep_fm0 hg z hb hp r
        | nil =>
          simp only [fm1]
          split
          · exact .junk _
          · rename_i hne
            cases r with
            | pure p => cases p with | fn us' vs' hf _ _ _ _ => exact absurd rfl (hf c)
            | yld hb' hk hm => exact .yld (by rw [z.other _ hne, hb']; rfl) (by rename_i k _; cases k <;> first | rfl | cases hk) (by simp [killM, notb_ne hne, hm])
            | fn us' vs' hf _ _ _ _ => exact absurd rfl (hf c)
    all_goals exact rep_fm0 hg z hb hp r
  all_goals exact rep_fm0 hg z hb hp r
theorem rep_fm2 {x : AV} {v : Value} (hg : Good w0 h m w) (z : FmH h h' b es) (hb : h b = some (.map es)) (hp : pureE es) (r : Rep h m w x v) : Rep h' (killM m (notb b)) w (fm2 b es x) v := by
  have lst : ∀ {ys : List AV} {us : List Value}, (∀ j (a : j < ys.length) (c : j < us.length), Rep h m w ys[j] us[j]) → ∀ j (a : j < (fzl (fm1 b es) ys).length) (c : j < us.length), Rep h' (killM m (notb b)) w (fzl (fm1 b es) ys)[j] us[j] := by
    intro ys us hr j a c
    rw [fzl_get _ _ _ _ (by rw [fzl_len] at a; exact a)]
    exact rep_fm1 hg z hb hp (hr j _ c)
  cases x
  case agg ys =>
    obtain ⟨us, rfl, h1, ho, r1⟩ := rep_agg r
    exact .agg us (by rw [fzl_len]; exact h1) ho (lst r1)
  case tup ys =>
    simp only [fm2]
    cases r with
    | pure p => cases p with | tup us h1 r1 => exact .tup us (by rw [fzl_len]; exact h1) (lst fun j a c => .pure (r1 j a c))
    | tup us h1 r1 => exact .tup us (by rw [fzl_len]; exact h1) (lst r1)
  case fn f us vs =>
    cases f
    case func f =>
      simp only [fm2]
      cases r with
      | pure p => cases p with | fn us' vs' hf h1 h2 r1 r2 => exact .fn us' vs' hf (by rw [fzl_len]; exact h1) (by rw [fzl_len]; exact h2) (lst fun j a c => .pure (r1 j a c)) (lst fun j a c => .pure (r2 j a c))
      | fn us' vs' hf h1 h2 r1 r2 => exact .fn us' vs' hf (by rw [fzl_len]; exact h1) (by rw [fzl_len]; exact h2) (lst r1) (lst r2)
    all_goals exact rep_fm1 hg z hb hp r
  all_goals exact rep_fm1 hg z hb hp r
theorem good_fmz (hg : Good w0 h m w) (z : FmH h h' b es) (hb : h b = some (.map es)) (hp : pureE es) : Good w0 h' (killM m (notb b)) w := by
  have hmk : ∀ c l, killM m (notb b) c = some l → c ≠ b ∧ m c = some l := by
    intro c l hc
    unfold killM at hc
    split at hc
    · rename_i hn
      refine ⟨fun e => ?_, hc⟩
      subst e; rw [notb_self] at hn; cases hn
    · cases hc
  have km : ∀ c, c ≠ b → killM m (notb b) c = m c := fun c hc => by simp [killM, notb_ne hc]
  refine ⟨hg.below, fun c l hc => hg.base c l (hmk c l hc).2, fun c c' l l' hc hc' e => hg.inj c c' l l' (hmk c l hc).2 (hmk c' l' hc').2 e, fun c l hc => ?_, fun c k hk => ?_, fun c st pend fn T ps asg body d hk => ?_, fun c hc => hg.fresh c (hc.imp (fun ⟨b, l, h1, h2⟩ => ⟨b, l, (hmk b l h1).2, h2⟩) id)⟩
  · obtain ⟨h1, h2⟩ := hmk c l hc
    obtain ⟨k, hk⟩ := hg.supp c l h2
    exact ⟨_, by rw [z.other c h1, hk]; rfl⟩
  · have hne : c ≠ b := by rintro rfl; rw [z.self] at hk; cases hk
    rw [z.other c hne] at hk
    cases hc : h c with
    | none => rw [hc] at hk; cases hk
    | some k0 =>
      rw [hc] at hk
      simp only [fmO, Option.some.injEq] at hk
      subst hk
      have old := hg.blk c k0 hc
      cases k0 with
      | cells t' sz' g' ys =>
        rcases old with ⟨h1, h2⟩ | ⟨l, arr, h1, h2, h3, h4, h5⟩
        · subst h2; exact .inl ⟨(km c hne).trans h1, rfl⟩
        · refine .inr ⟨l, arr, (km c hne).trans h1, h2, h3, by rw [fzl_len]; exact h4, fun j hj => ?_⟩
          have hj' : j < ys.length := by rw [fzl_len] at hj; exact hj
          obtain ⟨v, hv, ho, hr⟩ := h5 j hj'
          exact ⟨v, hv, ho, by rw [fzl_get _ _ _ _ hj']; exact rep_fm2 hg z hb hp hr⟩
      | map fs =>
        obtain ⟨l, arr, clk, h1, h2, h3, h4⟩ := old
        refine ⟨l, arr, clk, (km c hne).trans h1, h2, by simpa using h3, fun j hj => ?_⟩
        obtain ⟨e, he, hk1, hv1⟩ := h4 j (by simpa using hj)
        exact ⟨e, he, by simpa using rep_fm2 hg z hb hp hk1, by simpa using rep_fm2 hg z hb hp hv1⟩
      | dfr o => obtain ⟨l, h1, h2⟩ := old; exact ⟨l, (km c hne).trans h1, h2⟩
      | loop st pend fn T ps asg body d =>
        obtain ⟨l, r', ld, h1, h2, a1, a2, a3, a4, a5, a6, a7, a8, a9, a10⟩ := old
        obtain ⟨o, hd⟩ := hg.dloop c _ _ _ _ _ _ _ _ hc
        have hdne : d ≠ b := by rintro rfl; rw [hb] at hd; cases hd
        refine ⟨l, r', ld, (km c hne).trans h1, h2, a1, a2, a3, a4, a5, a6, (km d hdne).trans a7, a8, by rw [fzl_len]; exact a9, fun j hj => ?_⟩
        have hj' : j < T.length := by rw [fzl_len] at hj; exact hj
        obtain ⟨v, hv, hr⟩ := a10 j hj'
        exact ⟨v, hv, by rw [fzl_get _ _ _ _ hj']; exact rep_fm2 hg z hb hp hr⟩
  · have hne : c ≠ b := by rintro rfl; rw [z.self] at hk; cases hk
    rw [z.other c hne] at hk
    cases hc : h c with
    | none => rw [hc] at hk; cases hk
    | some k0 =>
      rw [hc] at hk
      simp only [fmO, Option.some.injEq] at hk
      cases k0 <;> simp only [fmB] at hk <;> cases hk
      obtain ⟨o, hd⟩ := hg.dloop c _ _ _ _ _ _ _ _ hc
      have hdne : d ≠ b := by rintro rfl; rw [hb] at hd; cases hd
      exact ⟨o, by rw [z.other d hdne, hd]; rfl⟩
theorem SatC.fmz {X : Ctx} {s : St} {a : Act} (hs : SatC w0 X s a w) (hb : hget s.H b = some (.map es)) (hp : pureE es) (hX : ∀ c, X.Z c = none) : SatC w0 X (fmz b es s) a w := by
  obtain ⟨ex, hex, m, hs, hx⟩ := hs
  have z : FmH (hget s.H) (hget (fmH b es b s.H)) b es := ⟨by rw [fmH_get]; simp, fun c hc => by rw [fmH_get]; simp [hc]⟩
  refine ⟨ex, hex, killM m (notb b), ⟨good_fmz hs.good z hb hp, by rw [hs.size]; exact (fzl_len _ _).symm, fun j hj => ?_, ⟨hs.roots.1, fun c hc => let ⟨b1, b2, b3⟩ := hs.roots.2 c hc; ⟨b1, un_kill b2, b3⟩⟩, ?_⟩, fun c hc => ⟨(hx.ok c hc).1, un_kill (hx.ok c hc).2⟩, ?_, ?_, ?_, ?_⟩
  · obtain ⟨v, hv, hr⟩ := hs.tmps j (by simpa [Go.Am.fmz, fzl_len] using hj)
    refine ⟨v, hv, ?_⟩
    simp only [Go.Am.fmz]
    rw [fzl_lget rfl]
    exact rep_fm2 hs.good z hb hp hr
  · obtain ⟨ls, a1, a2, a3⟩ := hs.marks
    refine ⟨ls, a1, fun j x y => ?_, a3⟩
    obtain ⟨b1, o, b2⟩ := a2 j x y
    have hne : s.D[j] ≠ b := by intro e; rw [e, hb] at b2; cases b2
    refine ⟨?_, o, ?_⟩
    · show killM m (notb b) s.D[j] = _
      unfold killM
      rw [notb_ne hne]; exact b1
    · show hget (fmH b es b s.H) s.D[j] = _
      rw [z.other _ hne, b2]; rfl
  · intro c t sz g xs hc; rw [hX c] at hc; cases hc
  · intro c es hc; rw [hX c] at hc; cases hc
  · intro c o hc; rw [hX c] at hc; cases hc
  · intro c st pend fn T ps asg body d hc; rw [hX c] at hc; cases hc
theorem awp_fmz {P : Program} {r : Option Nat} {X : Ctx} {c : Code} {s : St} {Q : Exit → St → Prop} (b : Nat) {es : List (AV × AV)} (hb : hget s.H b = some (.map es)) (hp : pureE es) (hX : ∀ c, X.Z c = none)
    (h : AWP P w0 r X c (fmz b es s) Q) : AWP P w0 r X c s Q :=
  fun a w hs => h a w (hs.fmz hb hp hX)
theorem Imp.fmz {X : Ctx} {s : St} (b : Nat) {es : List (AV × AV)} (hb : hget s.H b = some (.map es)) (hp : pureE es) (hX : ∀ c, X.Z c = none) : Imp w0 X s (fmz b es s) := fun _ _ hs => hs.fmz hb hp hX
end
end Go.Am
namespace Go.Am
open Go.RowKit
def ownD (P : Program) (all : Array Oper) (o : Oper) (W : List Nat) (s : St) (K : St → Ef → Prop) : Prop :=
  match guardOf all s.T o with
  | some true => (match o.op with
    | .call ⟨.value f, args, _⟩ => CallH P (aev s.T f) (args.toList.map (aev s.T)) s.H fun r H' => Frm s.H H' W ∧ K ⟨lseto s.T o.dst r, H', s.D⟩ ⟨r, [], wlog H' W, true⟩
    | _ => False)
  | some false => K ⟨lseto s.T o.dst (.tup []), s.H, s.D⟩ ⟨.tup [], [], [], false⟩
  | none => False
def segD (P : Program) (all : Array Oper) : List (Nat × List Nat) → List Oper → St → List Ef → (St → List Ef → Prop) → Prop
  | [], ops, s, tr, K => evOps P all ops s [] fun s' es => K s' (tr ++ es.map lift)
  | (n, W) :: l, ops, s, tr, K => evOps P all (ops.take n) s [] fun s1 es => (match ops.drop n with
    | o :: post => ownD P all o W s1 fun s2 ef => segD P all l post s2 (tr ++ es.map lift ++ [ef]) K
    | [] => False)
section
variable [Base] {P : Program} {w0 : World} {r : Option Nat} {X : Ctx} {s : St} {Q : Exit → St → Prop} {all : Array Oper}
theorem Trace2.app {i : Nat} {s s1 s2 : Sf} {es fs : List Ef} (h : Trace2 P w0 r all i s es s1) (h' : Trace2 P w0 r all (i + es.length) s1 fs s2) : Trace2 P w0 r all i s (es ++ fs) s2 := by
  induction h with
  | nil i s => simpa using h'
  | run ho hg hok rest ih =>
    rename_i i s s' o e es
    exact .run ho hg hok (ih (by simpa [Nat.add_assoc, Nat.add_comm 1] using h'))
  | skip ho hg rest ih =>
    rename_i i s s' o es
    exact .skip ho hg (ih (by simpa [Nat.add_assoc, Nat.add_comm 1] using h'))
theorem seg_trace : ∀ (l : List (Nat × List Nat)) (ops : List Oper) (i : Nat) (s : St) (tr : List Ef) (K : St → List Ef → Prop), (∀ k, k < ops.length → ops[k]? = all[i + k]?) → segD P all l ops s tr K →
    ∃ es s', Trace2 P w0 r all i s.f es s'.f ∧ es.length = ops.length ∧ K s' (tr ++ es)
  | [], ops, i, s, tr, K, hos, h => by
    obtain ⟨es, s', h1, h2, h3⟩ := ev_trace (w0 := w0) (r := r) ops i s [] _ hos h
    exact ⟨es.map lift, s', h1.two, by simpa using h2, by simpa using h3⟩
  | (n, W) :: l, ops, i, s, tr, K, hos, h => by
    simp only [segD] at h
    obtain ⟨es, s1, h1, h2, h3⟩ := ev_trace (w0 := w0) (r := r) (ops.take n) i s [] _ (fun k hk => by
      have hk' : k < n ∧ k < ops.length := by simpa [Nat.lt_min] using hk
      rw [List.getElem?_take_of_lt hk'.1]; exact hos k hk'.2) h
    simp only [List.nil_append] at h3
    cases hd : ops.drop n with
    | nil => rw [hd] at h3; exact h3.elim
    | cons o post =>
      rw [hd] at h3
      have hn : n < ops.length := by
        rcases Nat.lt_or_ge n ops.length with h4 | h4
        · exact h4
        · rw [List.drop_eq_nil_of_le h4] at hd; cases hd
      have hl2 : es.length = n := by rw [h2, List.length_take]; omega
      have hlen : ops.length = n + (1 + post.length) := by
        have := congrArg List.length hd
        simp at this; omega
      have hget : ∀ k, (o :: post)[k]? = ops[n + k]? := fun k => by rw [← hd, List.getElem?_drop]
      have ho : all[i + n]? = some o := by rw [← hos n hn, ← Nat.add_zero n, ← hget 0]; rfl
      have hpost : ∀ k, k < post.length → post[k]? = all[i + n + 1 + k]? := fun k hk => by
        have := hget (k + 1)
        simp only [List.getElem?_cons_succ] at this
        rw [this, hos (n + (k + 1)) (by omega)]; congr 1; omega
      have ht1 : Trace2 P w0 r all i s.f (es.map lift) s1.f := h1.two
      replace h3 : ownD P all o W s1 fun s2 ef => segD P all l post s2 (tr ++ es.map lift ++ [ef]) K := h3
      unfold ownD at h3
      split at h3
      · rename_i hg
        split at h3
        · rename_i f args ts hop
          obtain ⟨y, H', hsem, hf, h3⟩ := h3
          obtain ⟨fs, s', q1, q2, q3⟩ := seg_trace l post (i + n + 1) _ _ K hpost h3
          refine ⟨es.map lift ++ (⟨y, [], wlog H' W, true⟩ :: fs), s', ht1.app ?_, ?_, by simpa using q3⟩
          · rw [List.length_map, hl2]
            refine .run ho hg (call_ok hop hf hsem) ?_
            have hu := wlog_upd hf
            simp only [St.f] at q1 ⊢
            rw [← hu]
            exact q1
          · simp [hl2, q2, hlen]; omega
        · exact h3.elim
      · rename_i hg
        obtain ⟨fs, s', q1, q2, q3⟩ := seg_trace l post (i + n + 1) _ _ K hpost h3
        refine ⟨es.map lift ++ (⟨.tup [], [], [], false⟩ :: fs), s', ht1.app ?_, ?_, by simpa using q3⟩
        · rw [List.length_map, hl2]
          exact .skip ho hg q1
        · simp [hl2, q2, hlen]; omega
      · exact h3.elim
theorem awp_draws (l : List (Nat × List Nat)) {id : Nat} {ops : List Oper} (hm : P.follows .mixedOrders = true) (hc : regOK ops.toArray = true) (h : segD P ops.toArray l ops s [] fun s' es => heapOK2 ops.toArray es = true ∧ Q .normal s') :
    AWP P w0 r X (.region id ops.toArray true) s Q := by
  intro a w ⟨ex, hex, hs⟩
  obtain ⟨es, s', ht, hl, hk⟩ := seg_trace (w0 := w0) (r := r) l ops 0 s [] _ (fun k _ => by simp) h
  simp only [List.nil_append] at hk
  exact draw_sound2 (Z := X.Z) (mz := X.mz) (wz := X.wz) hm ht (by simpa using hl) hc hk.1 (fun a w hs => ⟨s', hk.2, ex, hex, hs⟩) a w hs
end
section
variable {P : Program} {all : Array Oper} {d : Option Tmp} {ty : TypeId} {ps : String} {af : Array Edge} {T : List AV} {H : List (Option ABlk)} {D W : List Nat} {K : St → Ef → Prop} {K2 : St → List Ef → Prop} {s : St} {tr : List Ef} {ops : List Oper}
theorem od_free {f : Operand} {args : Array Operand} {ts : Array TypeId} : ownD P all ⟨d, .call ⟨.value f, args, ts⟩, ty, ps, af, none⟩ W ⟨T, H, D⟩ K = CallH P (aev T f) (args.toList.map (aev T)) H fun r H' => Frm H H' W ∧ K ⟨lseto T d r, H', D⟩ ⟨r, [], wlog H' W, true⟩ := nrfl rfl
theorem od_guard {l : List Oper} {j : Nat} {wn : Bool} {f : Operand} {args : Array Operand} {ts : Array TypeId} : ownD P l.toArray ⟨d, .call ⟨.value f, args, ts⟩, ty, ps, af, some (j, wn)⟩ W ⟨T, H, D⟩ K =
    guardK (gget T (gtmp l j)) wn (CallH P (aev T f) (args.toList.map (aev T)) H fun r H' => Frm H H' W ∧ K ⟨lseto T d r, H', D⟩ ⟨r, [], wlog H' W, true⟩) (K ⟨lseto T d (.tup []), H, D⟩ ⟨.tup [], [], [], false⟩) := by
  simp only [ownD, guardOf, gtmp_is, guardK]
  cases hg : gtmp l j with
  | none => rfl
  | some t =>
    simp only [gget]
    cases lget T t <;> first | rfl | skip
    all_goals (rename_i b; cases b <;> cases wn <;> rfl)
theorem sg_nil : segD P all [] ops s tr K2 = evOps P all ops s [] fun s' es => K2 s' (tr ++ es.map lift) := nrfl rfl
theorem sg_cons {n : Nat} {l : List (Nat × List Nat)} : segD P all ((n, W) :: l) ops s tr K2 = evOps P all (ops.take n) s [] fun s1 es => (match ops.drop n with
    | o :: post => ownD P all o W s1 fun s2 ef => segD P all l post s2 (tr ++ es.map lift ++ [ef]) K2
    | [] => False) := nrfl rfl
theorem wl_n : wlog H [] = [] := nrfl rfl
theorem wl_c {b : Nat} {k : ABlk} {l : List Nat} (h : hget H b = some k) : wlog H (b :: l) = (b, k) :: wlog H l := by simp [wlog, h]
theorem lift_is {v : AV} {rd : List Nat} : lift ⟨v, rd, none⟩ = ⟨v, rd, [], false⟩ := nrfl rfl
theorem lift_wr {v : AV} {rd : List Nat} {p : Nat × ABlk} : lift ⟨v, rd, some p⟩ = ⟨v, rd, [p], false⟩ := nrfl rfl
def frmK (W : List Nat) : Nat → List (Option ABlk) → List (Option ABlk) → Prop
  | i, [], [] => W.all (fun b => decide (b < i)) = true
  | i, x :: H, y :: H' => (match W.contains i with | true => ∃ k, y = some k | false => y = x) ∧ frmK W (i + 1) H H'
  | i, [], y :: H' => (match W.contains i with | true => ∃ k, y = some k | false => y = none) ∧ frmK W (i + 1) [] H'
  | _, _ :: _, [] => False
theorem frmK_spec (W : List Nat) : ∀ (H' H : List (Option ABlk)) (i : Nat), frmK W i H H' → (∀ b, i + b ∉ W → hget H' b = hget H b) ∧ (∀ b, i + b ∈ W → ∃ k, hget H' b = some k)
  | [], [], i, h => by
    refine ⟨fun b _ => rfl, fun b hb => ?_⟩
    simp only [frmK, List.all_eq_true, decide_eq_true_eq] at h
    have := h _ hb; omega
  | [], x :: H, i, h => by simp [frmK] at h
  | y :: H', [], i, h => by
    obtain ⟨h1, h2⟩ := h
    obtain ⟨i1, i2⟩ := frmK_spec W H' [] (i + 1) h2
    refine ⟨fun b hb => ?_, fun b hb => ?_⟩
    · cases b with
      | zero =>
        have : W.contains i = false := by simpa using hb
        rw [this] at h1; simpa [hget] using h1
      | succ b => have := i1 b (by rwa [show i + 1 + b = i + (b + 1) by omega]); simpa [hget] using this
    · cases b with
      | zero =>
        have : W.contains i = true := by simpa using hb
        rw [this] at h1; simpa [hget] using h1
      | succ b => have := i2 b (by rwa [show i + 1 + b = i + (b + 1) by omega]); simpa [hget] using this
  | y :: H', x :: H, i, h => by
    obtain ⟨h1, h2⟩ := h
    obtain ⟨i1, i2⟩ := frmK_spec W H' H (i + 1) h2
    refine ⟨fun b hb => ?_, fun b hb => ?_⟩
    · cases b with
      | zero =>
        have : W.contains i = false := by simpa using hb
        rw [this] at h1; simpa [hget] using h1
      | succ b => have := i1 b (by rwa [show i + 1 + b = i + (b + 1) by omega]); simpa [hget] using this
    · cases b with
      | zero =>
        have : W.contains i = true := by simpa using hb
        rw [this] at h1; simpa [hget] using h1
      | succ b => have := i2 b (by rwa [show i + 1 + b = i + (b + 1) by omega]); simpa [hget] using this
theorem frm_of {W : List Nat} {H H' : List (Option ABlk)} (h : frmK W 0 H H') : Frm H H' W := by
  obtain ⟨h1, h2⟩ := frmK_spec W H' H 0 h
  exact ⟨fun b hb => h1 b (by simpa using hb), fun b hb => h2 b (by simpa using hb)⟩
end
attribute [go_sem] od_free od_guard
end Go.Am
namespace Go.Am
open Go.RowKit
def swp (a b i : Nat) : Nat := if i = a then b else if i = b then a else i
theorem swp_swp (a b i : Nat) : swp a b (swp a b i) = i := by
  unfold swp
  by_cases h1 : i = a
  · subst h1
    by_cases h2 : b = i
    · simp [h2]
    · simp [h2]
  · by_cases h2 : i = b
    · subst h2; simp [h1]
    · simp [h1, h2]
def fixB (σ : Nat → Nat) (n : Nat) : List (Option ABlk) → Prop
  | [] => True
  | some k :: H => renB σ k = k ∧ refsB (· < n) k ∧ fixB σ n H
  | none :: _ => False
theorem fixB_get {σ : Nat → Nat} {n : Nat} : ∀ {H : List (Option ABlk)}, fixB σ n H → ∀ b, b < H.length → ∃ k, hget H b = some k ∧ renB σ k = k ∧ refsB (· < n) k
  | [], _, b, hb => by simp at hb
  | none :: H, h, _, _ => h.elim
  | some k :: H, h, 0, _ => ⟨k, rfl, h.1, h.2.1⟩
  | some k :: H, h, b + 1, hb => fixB_get h.2.2 b (by simpa using hb)
theorem semF_swap {P : Program} {g : FuncId} {as : List AV} {H H' : List (Option ABlk)} {r : AV} (a b : Nat) (hs : SemF P g as H r H') (ha : H.length ≤ a) (hb : H.length ≤ b) (hf : fixB (swp a b) H.length H) (har : refsL (· < H.length) as)
    {as' : List AV} (has : renL (swp a b) as = as') {r' : AV} (hr : ren (swp a b) r = r') {K' : List (Option ABlk)} (hK' : ∀ i, hget K' i = (hget H' (swp a b i)).map (renB (swp a b))) : SemF P g as' H r' K' := by
  have low : ∀ i, i < H.length → swp a b i = i := fun i hi => by
    unfold swp; rw [if_neg (by omega), if_neg (by omega)]
  subst has hr
  rw [renL_map]
  refine semF_frame hs (swp a b) (fun i => some (swp a b i)) (fun i hi => ?_) (fun i => by rw [swp_swp]) (fun i c h => ?_) (fun i hi => ?_) (fun i k hk => ?_) (fun j h => refsL_get har j h) (fun i => by simp only [hK'])
  · obtain ⟨k, hk, _⟩ := fixB_get hf i hi
    rw [hk]; simp
  · cases h; exact swp_swp a b i
  · unfold swp
    split
    · exact hb
    · split
      · exact ha
      · exact hi
  · have hi : i < H.length := by
      rcases Nat.lt_or_ge i H.length with h | h
      · exact h
      · rw [hget_length H i h] at hk; cases hk
    obtain ⟨k', hk', h1, h2⟩ := fixB_get hf i hi
    rw [hk] at hk'; cases hk'
    rw [low i hi, h1]
    exact ⟨hk, h2⟩
theorem semF_same {P : Program} {g : FuncId} {as : List AV} {H H' K' : List (Option ABlk)} {r : AV} (hs : SemF P g as H r H') (h : ∀ i, hget K' i = hget H' i) : SemF P g as H r K' := by
  have e : hget K' = hget H' := funext h
  refine ⟨hs.1, fun {_} w0 m w vs hg hl hr => ?_⟩
  rw [e]; exact hs.2 w0 m w vs hg hl hr
end Go.Am
namespace Go.Am
open Go.RowKit
section
variable {b g : Nat} {xs : List AV} {es : List (AV × AV)}
theorem fmB_c {t : TypeId} {sz g' : Nat} {ys : List AV} : fmB b es (.cells t sz g' ys) = .cells t sz g' (fzl (fm2 b es) ys) := nrfl rfl
theorem fmB_m {m : List (Int × Int × Int)} : fmB b es (.map (mpC m)) = .map (mpC m) := by
  simp only [fmB, mpC, List.map_map]; rfl
theorem fmB_d {o : Bool} : fmB b es (.dfr o) = .dfr o := nrfl rfl
theorem fmB_l {st : LoopState} {pend : Option Code} {fn : FuncId} {T : List AV} {ps : Array Tmp} {asg body : Code} {d : Nat} : fmB b es (.loop st pend fn T ps asg body d) = .loop st pend fn (fzl (fm2 b es) T) ps asg body d := nrfl rfl
theorem fzB_c {t : TypeId} {sz g' : Nat} {ys : List AV} : fzB b g xs (.cells t sz g' ys) = .cells t sz g' (fzl (fz2 b g xs) ys) := nrfl rfl
theorem fzB_m {m : List (Int × Int × Int)} : fzB b g xs (.map (mpC m)) = .map (mpC m) := by
  simp only [fzB, mpC, List.map_map]; rfl
theorem fzB_d {o : Bool} : fzB b g xs (.dfr o) = .dfr o := nrfl rfl
theorem fzB_l {st : LoopState} {pend : Option Code} {fn : FuncId} {T : List AV} {ps : Array Tmp} {asg body : Code} {d : Nat} : fzB b g xs (.loop st pend fn T ps asg body d) = .loop st pend fn (fzl (fz2 b g xs) T) ps asg body d := nrfl rfl
def still : AV → Bool
  | .int _ _ => true
  | .bool _ => true
  | .psl _ _ _ => true
  | .pptr _ _ => true
  | .pmap _ => true
  | _ => false
class Still (ys : List AV) : Prop where
  h : ∀ y ∈ ys, still y = true
theorem fm_still {y : AV} (h : still y = true) : fm2 b es y = y := by cases y <;> first | rfl | cases h
theorem fz_still {y : AV} (h : still y = true) : fz2 b g xs y = y := by cases y <;> first | rfl | cases h
theorem fzl_id {f : AV → AV} : ∀ {ys : List AV}, (∀ y ∈ ys, f y = y) → fzl f ys = ys
  | [], _ => rfl
  | y :: ys, h => by simp only [fzl]; rw [h y (by simp), fzl_id (fun z hz => h z (by simp [hz]))]
theorem fm_pure {ys : List AV} [s : Still ys] : fzl (fm2 b es) ys = ys := fzl_id fun y hy => fm_still (s.h y hy)
theorem fq_pure {ys : List AV} [s : Still ys] : fzl (fz2 b g xs) ys = ys := fzl_id fun y hy => fz_still (s.h y hy)
end
variable [Base]
def hidD (H H' : List (Option ABlk)) : List Nat → Prop
  | [] => True
  | d :: ds => (hget H d = some (.dfr true) ∧ hget H' d = none ∧ d ∉ ds) ∧ hidD H H' ds
omit [Base] in
theorem hidD_spec {H H' : List (Option ABlk)} : ∀ {D : List Nat}, hidD H H' D → D.Nodup ∧ ∀ d ∈ D, hget H d = some (.dfr true) ∧ hget H' d = none
  | [], _ => ⟨by simp, by simp⟩
  | d :: ds, h => by
    obtain ⟨⟨h1, h2, h3⟩, h4⟩ := h
    obtain ⟨h5, h6⟩ := hidD_spec h4
    refine ⟨List.nodup_cons.2 ⟨h3, h5⟩, fun x hx => ?_⟩
    rcases List.mem_cons.1 hx with rfl | hx
    · exact ⟨h1, h2⟩
    · exact h6 x hx
theorem SatC.hide {w0 : World} {X : Ctx} {s s' : St} {a : Act} {w : World} (hs : SatC w0 X s a w) (hX : ∀ b, X.mz b = none) (hl : Le2 X ⟨s.T, s.H, []⟩ s') (hd : hidD s.H s'.H s.D) : SatC w0 X s' a w := by
  obtain ⟨h1, h2, h3, _, h5⟩ := hl
  obtain ⟨ex, hex, m, hs, hx⟩ := hs
  obtain ⟨hlen, htmp⟩ := leT_spec h1
  have hblk := leH_spec h2
  obtain ⟨hnd, hds⟩ := hidD_spec hd
  have hp : ∀ b, liveIn s'.H b = true → hget s'.H b = hget s.H b := by
    intro b hb
    obtain ⟨k, hk⟩ := Option.isSome_iff_exists.1 hb
    rw [hk, (hblk b k hk).1]
  obtain ⟨ls, a1, a2, a3⟩ := hs.marks
  have at_ : ∀ j (x : j < ls.length), ∃ (y : j < s.D.length), m s.D[j] = some ls[j] ∧ w.heap[ls[j].c]? = some (.deferred (some [])) ∧ hget s'.H s.D[j] = none := by
    intro j x
    have y : j < s.D.length := by rw [← a1]; exact x
    refine ⟨y, (a2 j y x).1, ?_, (hds _ (List.getElem_mem y)).2⟩
    obtain ⟨l', e1, e2⟩ := hs.good.blk _ _ (hds _ (List.getElem_mem y)).1
    rw [(a2 j y x).1] at e1; cases e1
    simpa using e2
  have newc : ∀ j (x : j < ls.length), w0.heap.size ≤ ls[j].c ∧ X.wz.heap.size ≤ ls[j].c ∧ Un (killM m (liveIn s'.H)) w ls[j].c := by
    intro j x
    obtain ⟨y, m1, m2, m3⟩ := at_ j x
    refine ⟨hs.good.base _ _ m1, ?_, lt_of_heap m2, fun b l hb => ?_⟩
    · rcases Nat.lt_or_ge ls[j].c X.wz.heap.size with h6 | h6
      · have hun : Un X.mz X.wz ls[j].c := ⟨h6, fun b l hb => by rw [hX b] at hb; cases hb⟩
        exact absurd rfl ((hx.ok _ hun).2.2 _ _ m1)
      · exact h6
    · unfold killM at hb
      split at hb
      · rename_i hlv
        intro e
        have := hs.good.inj b s.D[j] l ls[j] hb m1 e
        subst this
        simp [liveIn, m3] at hlv
      · cases hb
  refine ⟨ls.map (·.c) ++ ex, fun c hc => ?_, killM m (liveIn s'.H), ?_, ext_kill hx h5 hp⟩
  · rcases List.mem_append.1 hc with hc | hc
    · obtain ⟨l, hl, rfl⟩ := List.mem_map.1 hc
      obtain ⟨j, x, rfl⟩ := List.mem_iff_getElem.1 hl
      exact (newc j x).2.1
    · exact hex c hc
  simp only at hlen htmp h3
  rw [hlen, h3]
  refine ⟨hs.good.kill hp (fun b hb => ?_) (fun b k hk => (hblk b k hk).2), hs.size, fun j hj => ?_, ⟨?_, fun c hc => ?_⟩, [], rfl, fun j x => by simp at x, ?_⟩
  · simpa [liveIn] using hb
  · obtain ⟨v, hv, hr⟩ := hs.tmps j hj
    exact ⟨v, hv, rep2_kill (rep_sub hr (htmp j).1) (htmp j).2 hp⟩
  · refine List.nodup_append.2 ⟨?_, hs.roots.1, fun c hc c' hc' e => ?_⟩
    · refine List.pairwise_iff_getElem.2 (fun i j hi hj hij e => ?_)
      simp only [List.getElem_map] at e
      have hi' : i < ls.length := by simpa using hi
      have hj' : j < ls.length := by simpa using hj
      obtain ⟨y1, m1, _, _⟩ := at_ i hi'
      obtain ⟨y2, m2, _, _⟩ := at_ j hj'
      have h7 := hs.good.inj _ _ _ _ m1 m2 e
      exact List.pairwise_iff_getElem.1 hnd i j y1 y2 hij h7
    · subst e
      obtain ⟨l, hl, rfl⟩ := List.mem_map.1 hc
      obtain ⟨j, x, rfl⟩ := List.mem_iff_getElem.1 hl
      obtain ⟨y, m1, _, _⟩ := at_ j x
      exact (hs.roots.2 _ hc').2.1.2 _ _ m1 rfl
  · rcases List.mem_append.1 hc with hc | hc
    · obtain ⟨l, hl, rfl⟩ := List.mem_map.1 hc
      obtain ⟨j, x, rfl⟩ := List.mem_iff_getElem.1 hl
      exact ⟨(newc j x).1, (newc j x).2.2, (at_ j x).choose_spec.2.1⟩
    · obtain ⟨b1, b2, b3⟩ := hs.roots.2 c hc
      exact ⟨b1, un_kill b2, b3⟩
  · rw [a3]; simp
theorem Imp.hide {w0 : World} {X : Ctx} {s s' : St} (hX : ∀ b, X.mz b = none) (hl : Le2 X ⟨s.T, s.H, []⟩ s') (hd : hidD s.H s'.H s.D) : Imp w0 X s s' := fun _ _ hs => hs.hide hX hl hd
end Go.Am
namespace Go.Am
open Go.RowKit
section
variable [Base] {P : Program} {w0 : World} {r : Option Nat} {X : Ctx} {s : St} {Q : Exit → St → Prop}
def segO (P : Program) (all : Array Oper) : List Nat → List Oper → St → (St → Prop) → Prop
  | [], ops, s, K => evOps P all ops s [] fun s' _ => K s'
  | n :: l, ops, s, K => evOps P all (ops.take n) s [] fun s1 _ => (match ops.drop n with
    | o :: post => ownK P all o s1 fun s2 => segO P all l post s2 K
    | [] => False)
theorem segO_ops {all : Array Oper} {ex : List Nat} (hex : ex = [] ∨ True) : ∀ (l : List Nat) (ops : List Oper) (i : Nat) (s : St), (∀ k, k < ops.length → ops[k]? = all[i + k]?) → segO P all l ops s (fun s' => Q .normal s') →
    (∀ s' a w, Q .normal s' → SatX w0 ex X.Z X.mz X.wz s'.f a w → ∃ s', Q .normal s' ∧ SatC w0 X s' a w) → ∀ a w, SatX w0 ex X.Z X.mz X.wz s.f a w →
    wpOpsIn (FW r) 0 P all (fun e a' w' => ∃ s', Q e s' ∧ SatC w0 X s' a' w') (List.range' i ops.length) a w
  | [], ops, i, s, hat, h, hQ, a, w, hs => by
    obtain ⟨es2, s3, ht2, hl2, hk2⟩ := ev_trace (w0 := w0) (r := r) (all := all) ops i s [] _ hat h
    have := trace_seq2 (Z := X.Z) (mz := X.mz) (wz := X.wz) (Q := fun e a' w' => ∃ s', Q e s' ∧ SatC w0 X s' a' w') ht2.two (fun a w hs => hQ s3 a w hk2 hs) a w hs
    rw [List.length_map, hl2] at this
    exact this
  | n :: l, ops, i, s, hat, h, hQ, a, w, hs => by
    simp only [segO] at h
    have hpre : ∀ k, k < (ops.take n).length → (ops.take n)[k]? = all[i + k]? := fun k hk => by
      rw [← hat k (by simp at hk; omega), List.getElem?_take_of_lt (by simp at hk; omega)]
    obtain ⟨es, s1, ht, hl, hk⟩ := ev_trace (w0 := w0) (r := r) (all := all) (ops.take n) i s [] _ hpre h
    cases hd : ops.drop n with
    | nil => rw [hd] at hk; exact hk.elim
    | cons o post =>
      rw [hd] at hk
      simp only at hk
      have hlen : n < ops.length := by
        rcases Nat.lt_or_ge n ops.length with h | h
        · exact h
        · rw [List.drop_eq_nil_of_le h] at hd; cases hd
      have hpl : post.length + 1 + n = ops.length := by
        have := congrArg List.length hd
        simp at this; omega
      have htl : (ops.take n).length = n := by simp; omega
      have hpost : ∀ k, post[k]? = ops[n + 1 + k]? := fun k => by
        have := congrArg (fun l => l[k + 1]?) hd
        simp only [List.getElem?_drop, List.getElem?_cons_succ] at this
        rw [← this]; congr 1; omega
      have hat0 : all[i + n]? = some o := by
        rw [← hat n hlen]
        have := congrArg (fun l => l[0]?) hd
        simpa using this
      have hrange : List.range' i ops.length = List.range' i n ++ ((i + n) :: List.range' (i + n + 1) post.length) := by
        rw [show ops.length = n + (post.length + 1) by omega, ← List.range'_append_1, List.range'_succ]
      rw [hrange]
      have e1 : n = (es.map lift).length := by rw [List.length_map, hl, htl]
      rw [show List.range' i n = List.range' i (es.map lift).length by rw [← e1]]
      refine trace_seq3 (Z := X.Z) (mz := X.mz) (wz := X.wz) ht.two ?_ a w hs
      rintro a1 w1 ⟨m1, hs1, hx1⟩
      rw [wpOpsIn_cons]
      unfold wpOpIn
      simp only [hat0]
      have tail : ∀ (s2 : St) (a2 : Act) (w2 : World), segO P all l post s2 (fun s3 => Q .normal s3) → SatX w0 ex X.Z X.mz X.wz s2.f a2 w2 → wpOpsIn (FW r) 0 P all (fun e a' w' => ∃ s', Q e s' ∧ SatC w0 X s' a' w') (List.range' (i + n + 1) post.length) a2 w2 := by
        intro s2 a2 w2 hev hs2
        exact segO_ops hex l post (i + n + 1) s2 (fun k hk => by rw [hpost k, hat _ (by omega)]; congr 1; omega) hev hQ a2 w2 hs2
      unfold ownK at hk
      have hs1' : SatM w0 ex (lget s1.T) s1.T.length (hget s1.H) s1.D m1 a1 w1 := hs1
      split at hk
      · rename_i hg
        rw [guard_wanted hs1' rfl hg (fun _ _ _ _ _ _ => rfl), if_pos rfl]
        split at hk
        · rename_i f args ts ho
          obtain ⟨y, H', hsem, hk⟩ := hk
          refine call_go ho hsem hs1'.good (fun x _ => hs1'.eval s1.T rfl x (fun _ _ _ => rfl)) (fun v w' m' g1 e1 r1 => tail _ _ _ hk ⟨m', ?_, hx1.trans e1⟩)
          simp only [St.f, lseto_length]
          refine hs1'.put g1 e1 r1 (fun j hj => ?_)
          cases hd : o.dst with
          | none => simp [lseto]
          | some d => simp only [lseto, lget_set, Option.some.injEq, hj, and_true]
        · exact hk.elim
      · rename_i hg
        rw [guard_wanted hs1' rfl hg (fun _ _ _ _ _ _ => rfl), if_neg (by simp)]
        refine ⟨fun _ _ => trivial, tail _ _ _ hk ⟨m1, ?_, hx1⟩⟩
        simp only [St.f, lseto_length]
        refine hs1'.put hs1'.good (Ext.refl _ _ _) rep_undef (fun j hj => ?_)
        cases hd : o.dst with
        | none => simp [lseto]
        | some d => simp only [lseto, lget_set, Option.some.injEq, hj, and_true]
      · exact hk.elim
theorem awp_segO (l : List Nat) {id : Nat} {ops : List Oper} (h : segO P ops.toArray l ops s (fun s' => Q .normal s')) : AWP P w0 r X (.region id ops.toArray false) s Q := by
  intro a w ⟨ex, hex, hs⟩
  refine wpIn_region ?_
  rw [show List.range ops.toArray.size = List.range' 0 ops.length by rw [List.range_eq_range']; simp]
  exact segO_ops (.inr trivial) l ops 0 s (fun k _ => by simp) h (fun s' a w hq hs => ⟨s', hq, ex, hex, hs⟩) a w hs
omit [Base] in
theorem so_nil {all : Array Oper} {ops : List Oper} {K : St → Prop} : segO P all [] ops s K = evOps P all ops s [] fun s' _ => K s' := nrfl rfl
omit [Base] in
theorem so_cons {all : Array Oper} {n : Nat} {l : List Nat} {ops : List Oper} {K : St → Prop} : segO P all (n :: l) ops s K = evOps P all (ops.take n) s [] fun s1 _ => (match ops.drop n with
    | o :: post => ownK P all o s1 fun s2 => segO P all l post s2 K
    | [] => False) := nrfl rfl
end
end Go.Am
namespace Go.Am
open Go.RowKit
set_option linter.unusedSimpArgs false
set_option linter.unusedVariables false
def litK (P : Program) (op : Op) (ρ : Operand → AV) (nx : Nat) (K : E → Prop) : Prop := match op with
  | .buildSlice t len parts => (match tslice P t with
    | some e => (match tsz P e, tzero P e with
      | some sz, some zs => zs.length = sz ∧ 0 < sz ∧ 0 < len ∧ len * sz ≤ 16777216 ∧ (∀ x ∈ zs, cellPure x = true) ∧ (match afill (fun i => some (i * sz, sz)) (List.replicate len zs).flatten (parts.toList.map fun p => (p.1, ρ p.2)) with
        | some xs => xs.length = len * sz ∧ K ⟨.osl nx 0 0 len, [], some (nx, .cells e sz 0 xs)⟩
        | none => False)
      | _, _ => False)
    | none => False)
  | _ => False
section
variable [Base] {P : Program} {w0 : World} {r : Option Nat} {o : Oper} {ρ : Operand → AV} {h : Nat → Option ABlk} {nx : Nat} {K : E → Prop}
theorem sound_lit (hn : h nx = none) (hk : litK P o.op ρ nx K) : ∃ e, K e ∧ OpOK P w0 r o ρ h e := by
  unfold litK at hk
  split at hk
  · rename_i t len parts ho
    cases ht : tslice P t with
    | none => simp [ht] at hk
    | some e =>
      simp only [ht] at hk
      cases hs : tsz P e with
      | none => simp [hs] at hk
      | some sz =>
        cases hz : tzero P e with
        | none => simp [hs, hz] at hk
        | some zs =>
          simp only [hs, hz] at hk
          obtain ⟨hzl, hpos, hlen, hbig, hp, hk⟩ := hk
          cases hf : afill (fun i => some (i * sz, sz)) (List.replicate len zs).flatten (parts.toList.map fun p => (p.1, ρ p.2)) with
          | none => simp [hf] at hk
          | some xs =>
            simp only [hf] at hk
            obtain ⟨hxl, hk⟩ := hk
            refine ⟨_, hk, fun h' m w ac next Q _ hwr hg hop hnext => ?_⟩
            have hb' : h' nx = none := (hwr nx _ rfl).trans hn
            obtain ⟨zv, hzv, rfl, it, hit, hitz⟩ := tzero_spec hz
            have hzsz : zv.cells.size = sz := by simpa using hzl
            obtain ⟨vs, hfill, hr⟩ := fill_sound (h' := h') (m := m) (w := w) (place' := fun i => some (i * sz, sz)) (fun _ => rfl) ac.eval parts.toList _ xs _ hf ((zero_rep hp).flatten len) (fun p hpm => hop p.2 (by
              simp only [ho, Op.operands, List.mem_toArray, List.mem_map]
              exact ⟨p, hpm, rfl⟩))
            obtain ⟨g1, e1⟩ := good_new (t := e) (sz := sz) (rest := []) hg hb' (Below.refl _ w) hr
            simp only [List.append_nil] at g1 e1
            have hvl : vs.length = len * sz := by rw [← hxl]; exact hr.1.symm
            have hlm : len ≤ maxLen := by
              have : len * 1 ≤ len * sz := Nat.mul_le_mul_left _ hpos
              simp only [maxLen]; omega
            refine wp_val (by simp [ho]) ?_ (hnext _ _ _ g1 e1 (.osl (v := .slice (some ⟨w.heap.size, 0, none⟩) len len) (upd_same _ _ _) (Nat.le_refl _) rfl (fun _ => .inr ⟨_, len, upd_same _ _ _, rfl, Nat.le_refl _, by simp only; omega, hlm⟩)))
            have hz2 : ((Array.range (len * sz)).map (fun i => zv.cells[i % zv.cells.size]!)) = (List.replicate len zv.cells.toList).flatten.toArray := by
              apply Array.toList_inj.1
              rw [← hzsz, zeros_toList zv.cells len (by omega)]
            have hl0 : ¬ len * sz = 0 := by have := Nat.mul_pos hlen hpos; omega
            have hnb : ¬ (len * sz > 2 ^ 24) := by omega
            simp only [execOp, ho, Instr.buildSlice, Sem.run_bind, run_underlying (tslice_spec ht), Result.andThen_ok, tsz_spec hs, hnb, if_false, hl0, hzv, Sem.run_pure, hz2]
            have hf2 : Instr.fill (fun i => some (i * sz, sz)) (List.replicate len zv.cells.toList).flatten.toArray (parts.map fun (i, x) => (i, ac.eval x)).toList = some vs.toArray := by simpa using hfill
            simp only [hf2, newRow, Sem.run_bind, run_newObj, Result.andThen_ok, Sem.run_pure]
            rfl
  · exact hk.elim
end
def evOpsL (P : Program) (all : Array Oper) : List Bool → List Oper → St → List E → (St → List E → Prop) → Prop
  | true :: fs, o :: os, s, tr, K => guardOf all s.T o = some true ∧ litK P o.op (aev s.T) s.H.length fun e => evOpsL P all fs os ⟨lseto s.T o.dst e.val, hseto s.H e.wr, s.D⟩ (tr ++ [⟨e.val, e.rd, e.wr⟩]) K
  | false :: fs, o :: os, s, tr, K => evOps P all [o] s tr fun s' tr' => evOpsL P all fs os s' tr' K
  | _, os, s, tr, K => evOps P all os s tr K
section
variable [Base] {P : Program} {w0 : World} {r : Option Nat} {all : Array Oper}
theorem trace_app {i : Nat} {s s' s'' : St} {es fs : List E} (h : Trace P w0 r all i s es s') : Trace P w0 r all (i + es.length) s' fs s'' → Trace P w0 r all i s (es ++ fs) s'' := by
  induction h with
  | nil i s => intro h2; simpa using h2
  | run ho hg hok rest ih => intro h2; exact .run ho hg hok (ih (by rw [List.length_cons] at h2; rw [show ∀ a b : Nat, a + 1 + b = a + (b + 1) from fun a b => by omega]; exact h2))
  | skip ho hg rest ih => intro h2; exact .skip ho hg (ih (by rw [List.length_cons] at h2; rw [show ∀ a b : Nat, a + 1 + b = a + (b + 1) from fun a b => by omega]; exact h2))
theorem evL_trace : ∀ (fs : List Bool) (os : List Oper) (i : Nat) (s : St) (tr : List E) (K : St → List E → Prop), (∀ k, k < os.length → os[k]? = all[i + k]?) → evOpsL P all fs os s tr K →
    ∃ es s', Trace P w0 r all i s es s' ∧ es.length = os.length ∧ K s' (tr ++ es)
  | [], os, i, s, tr, K, hos, hk => ev_trace os i s tr K hos (by simpa [evOpsL] using hk)
  | true :: fs, [], i, s, tr, K, hos, hk => ev_trace [] i s tr K hos (by simpa [evOpsL] using hk)
  | false :: fs, [], i, s, tr, K, hos, hk => ev_trace [] i s tr K hos (by simpa [evOpsL] using hk)
  | true :: fs, o :: os, i, s, tr, K, hos, hk => by
    have ho : all[i]? = some o := by have := hos 0 (by simp); simpa using this.symm
    have hos' : ∀ k, k < os.length → os[k]? = all[i + 1 + k]? := fun k hk => by have := hos (k + 1) (by simpa using hk); simp only [List.getElem?_cons_succ] at this; rw [this]; congr 1; omega
    simp only [evOpsL] at hk
    obtain ⟨hg, hk⟩ := hk
    obtain ⟨e, hk, hok⟩ := sound_lit (w0 := w0) (r := r) (hget_length s.H _ (Nat.le_refl _)) hk
    obtain ⟨es, s', h1, h2, h3⟩ := evL_trace fs os (i + 1) _ _ K hos' hk
    exact ⟨e :: es, s', .run ho hg hok h1, by simp [h2], by simpa using h3⟩
  | false :: fs, o :: os, i, s, tr, K, hos, hk => by
    have ho : all[i]? = some o := by have := hos 0 (by simp); simpa using this.symm
    have hos' : ∀ k, k < os.length → os[k]? = all[i + 1 + k]? := fun k hk => by have := hos (k + 1) (by simpa using hk); simp only [List.getElem?_cons_succ] at this; rw [this]; congr 1; omega
    simp only [evOpsL] at hk
    obtain ⟨e1, s1, t1, l1, hk⟩ := ev_trace (w0 := w0) (r := r) [o] i s tr _ (fun k hk1 => by
      simp only [List.length_singleton] at hk1
      have : k = 0 := by omega
      subst this; simpa using ho.symm) hk
    obtain ⟨es, s', h1, h2, h3⟩ := evL_trace fs os (i + 1) _ _ K hos' hk
    refine ⟨e1 ++ es, s', trace_app t1 (by rw [l1]; exact h1), by rw [List.length_append, l1, h2]; simp; omega, by rw [List.append_assoc] at h3; exact h3⟩
variable {X : Ctx} {s : St} {Q : Exit → St → Prop}
theorem awp_regionL (fs : List Bool) {id : Nat} {ops : List Oper} (h : evOpsL P ops.toArray fs ops s [] fun s' _ => Q .normal s') : AWP P w0 r X (.region id ops.toArray false) s Q := by
  intro a w ⟨ex, hex, hs⟩
  obtain ⟨es, s', ht, hl, hk⟩ := evL_trace (w0 := w0) (r := r) fs ops 0 s [] _ (fun k _ => by simp) h
  refine wpIn_region ?_
  have := trace_seq2 (Z := X.Z) (mz := X.mz) (wz := X.wz) (Q := fun e a' w' => ∃ s', Q e s' ∧ SatC w0 X s' a' w') ht.two (fun a w hs => ⟨s', hk, ex, hex, hs⟩) a w hs
  rw [List.length_map, hl] at this
  simpa [List.range_eq_range'] using this
end
section
variable {P : Program} {all : Array Oper} {fs : List Bool} {os : List Oper} {T : List AV} {H : List (Option ABlk)} {D : List Nat} {s : St} {tr : List E} {K : St → List E → Prop} {d : Option Tmp} {ty : TypeId} {ps : String} {af : Array Edge}
theorem eL_n : evOpsL P all [] os s tr K = evOps P all os s tr K := by cases os <;> rfl
theorem eL_f {o : Oper} : evOpsL P all (false :: fs) (o :: os) s tr K = evOps P all [o] s tr fun s' tr' => evOpsL P all fs os s' tr' K := nrfl rfl
theorem eL_t {t : TypeId} {len : Nat} {parts : Array (Nat × Operand)} : evOpsL P all (true :: fs) (⟨d, .buildSlice t len parts, ty, ps, af, none⟩ :: os) ⟨T, H, D⟩ tr K = optK (tslice P t) fun e => optK (tsz P e) fun sz => optK (tzero P e) fun zs =>
    zs.length = sz ∧ 0 < sz ∧ 0 < len ∧ len * sz ≤ 16777216 ∧ pureL zs ∧ optK (afill (fun i => some (i * sz, sz)) (List.replicate len zs).flatten (parts.toList.map fun p => (p.1, aev T p.2))) fun xs => xs.length = len * sz ∧
      evOpsL P all fs os ⟨lseto T d (.osl H.length 0 0 len), hset H H.length (.cells e sz 0 xs), D⟩ (tr ++ [⟨.osl H.length 0 0 len, [], some (H.length, .cells e sz 0 xs)⟩]) K := by
  simp only [evOpsL, litK]
  have hg : (guardOf all T ⟨d, .buildSlice t len parts, ty, ps, af, none⟩ = some true) = True := by simp [guardOf]
  rw [hg, true_and]
  cases tslice P t with
  | none => rfl
  | some e =>
    simp only [optK]
    cases tsz P e with
    | none => rfl
    | some sz =>
      cases tzero P e with
      | none => rfl
      | some zs =>
        simp only [pureL]
        cases afill (fun i => some (i * sz, sz)) (List.replicate len zs).flatten (parts.toList.map fun p => (p.1, aev T p.2)) <;> rfl
end
end Go.Am
namespace Go.Am
open Go.RowKit
set_option linter.unusedSimpArgs false
set_option linter.unusedVariables false
section
variable [Base] {P : Program} {w0 : World} {r : Option Nat} {o : Oper} {ρ : Operand → AV} {h : Nat → Option ABlk}
theorem append_own {t e : TypeId} {ty : TypeId} {sz bys : Nat} {zs : List AV} {b g n len : Nat} {xs ys : List AV} {h' : Nat → Option ABlk} {m : Nat → Option Loc} {w : World} {sv : Value} {c oo cx : Nat} {news : List Value}
    (ht : tslice P t = some e) (hs : tsz P e = some sz) (hby : tbytes P e = some bys) (hz : tzero P e = some zs) (hzl : zs.length = sz) (hpos : 0 < sz)
    (hyl : ys.length = n * sz) (hxl : xs.length = len * sz) (hbytes : (len + n) * bys ≤ 140737488355328) (h63 : len + n ≤ 9223372036854775807) (hn0 : 0 < n)
    (hg : Good w0 h' m w) (hnews : RepL h' m w ys news) (hncell : ∀ (j : Nat) (u : Value), news[j]? = some u → w.cell? ((⟨c, oo, none⟩ : Addr).add j) = some u)
    (hb : h' b = some (.cells e sz g xs)) (hsr : Rep h' m w (.osl b g 0 len) sv) :
    ∃ v w' m', (Builtin.append_ #[t, t] ty #[sv, .slice (some ⟨c, oo, none⟩) n cx]).run P w = .ok v w' ∧ Good w0 (upd h' b (some (.cells e sz (g + 1) (xs ++ ys)))) m' w' ∧ Ext h' m w (upd h' b (some (.cells e sz (g + 1) (xs ++ ys)))) m' w' ∧
      Rep (upd h' b (some (.cells e sz (g + 1) (xs ++ ys)))) m' w' (.osl b (g + 1) 0 (len + n)) v := by
  obtain ⟨zv, hzv, rfl, it, hit, hitz⟩ := tzero_spec hz
  have hzsz : zv.cells.size = sz := by simpa using hzl
  have hbi := tbytes_spec hby hit
  have hsi := tsz_info hs hit
  have hu := tslice_spec ht
  have hb0 : ∀ k0, h' b = some k0 → ∃ g0 xs0, k0 = .cells e sz g0 xs0 ∧ g0 < g + 1 := by
    intro k0 hk0
    rw [hb] at hk0; cases hk0; exact ⟨g, xs, rfl, by omega⟩
  have hnone := hnews.2.1
  have hnl := hnews.1
  have hnl2 : news.length = n * it.size := by rw [← hnl, hyl, hsi]
  have hbnd : (len + n) * it.bytes ≤ 140737488355328 := by rw [hbi]; exact hbytes
  have hsv : (m b = none ∧ len = 0 ∧ sv = .slice none 0 0 ∧ xs = []) ∨ ∃ l cap, m b = some l ∧ sv = .slice (some ⟨l.c, 0, none⟩) len cap ∧ len ≤ cap ∧ 0 + cap * sz ≤ l.n ∧ cap ≤ maxLen := by
    rcases rep_osl hsr hb with ⟨a1, a2, a3, a4⟩ | ⟨l, cap, a1, a2, a3, a4, a5⟩
    · exact .inl ⟨a1, a3, a4, List.eq_nil_of_length_eq_zero (by rw [hxl, a3]; simp)⟩
    · exact .inr ⟨l, cap, a1, a2, a3, a4, a5⟩
  rcases hsv with ⟨hm, rfl, rfl, rfl⟩ | ⟨l, cap, hm, rfl, hc1, hc2, hc3⟩
  · have hrun := run_append_nil (P := P) w t ty e it zv hu hit hitz ⟨c, oo, none⟩ n cx news hnl2 hncell (by omega) (by omega) (by simp only [Nat.zero_add] at hbnd; omega)
    obtain ⟨g1, e1⟩ := good_move (t := e) (sz := sz) (g' := g + 1) (rest := (Builtin.zeroCells zv.cells (grownCap w n 0 e - n)).toList) hg hb0 (below_drew w) hnews
    have harr : news.toArray ++ Builtin.zeroCells zv.cells (grownCap w n 0 e - n) = (news ++ (Builtin.zeroCells zv.cells (grownCap w n 0 e - n)).toList).toArray := by
      apply Array.toList_inj.1; simp
    rw [harr] at hrun
    have hgc := grownCap_ge w n 0 e
    have hgm := grownCap_le_maxLen w n 0 e (by simp only [maxLen]; omega)
    simp only [List.nil_append, Nat.zero_add]
    refine ⟨_, _, _, hrun, g1, e1, ?_⟩
    refine .osl (upd_same _ _ _) (Nat.le_refl _) rfl (fun _ => .inr ⟨_, grownCap w n 0 e, upd_same _ _ _, rfl, hgc, ?_, hgm⟩)
    rw [Nat.zero_add]
    refine Nat.le_of_eq ?_
    exact (grown_size zv.cells sz n _ hzsz news (by rw [← hnl, hyl]) hgc).symm
  · obtain ⟨arr, hheap, hasz, hlen, vs, hvs, hcell, hrep⟩ := blk_cells hg hb hm
    have hcur : RepL h' m w xs ((List.range xs.length).map vs) := by
      refine ⟨by simp, fun u hu => ?_, fun j a b => ?_⟩
      · simp only [List.mem_map, List.mem_range] at hu
        obtain ⟨j, hj, rfl⟩ := hu
        exact (hcell j hj).2
      · simp only [List.getElem_map, List.getElem_range]; exact hrep j a
    by_cases hroom : len + n ≤ cap
    · have hfit : len * it.size + news.length ≤ arr.size := by
        rw [hnl2, hsi, ← Nat.add_mul, hasz]
        have hmr := Nat.mul_le_mul_right sz hroom
        omega
      have hrun := run_append_room (P := P) w t ty e it hu hit l.c len cap arr hheap ⟨c, oo, none⟩ n cx news hnl2 hncell hnone hroom hfit
      rw [hsi, ← hxl] at hrun
      rw [hsi, ← hxl] at hfit
      have hsame : ∀ c', c' < w.heap.size → (∀ l0, m b = some l0 → l0.c ≠ c') → (w.setRow l.c (arr.toList.take xs.length ++ news ++ arr.toList.drop (xs.length + news.length)).toArray).heap[c']? = w.heap[c']? :=
        fun c' _ hne => setRow_other w l.c c' _ (fun he => hne l hm he.symm)
      have hfits : ∀ k0, h' b = some k0 → Fits k0 (.cells e sz (g + 1) (xs ++ ys)) (m b ≠ some l) := by
        intro k0 hk0; obtain ⟨g0, xs0, rfl, hlt⟩ := hb0 k0 hk0
        exact ⟨rfl, rfl, Nat.le_of_lt hlt, fun he => by omega⟩
      have e1 := ext_put (k := .cells e sz (g + 1) (xs ++ ys)) (l' := l) hg (Nat.le_of_eq (setRow_size w l.c _).symm) hsame (.inl hm) hfits
      refine ⟨_, _, _, hrun, good_put hg rfl rfl rfl (Nat.le_of_eq (setRow_size w l.c _).symm) hsame (.inl hm) hfits ?_ (by simp), e1, .osl (upd_same _ _ _) (Nat.le_refl _) rfl (fun _ => .inr ⟨l, cap, upd_same _ _ _, rfl, hroom, hc2, hc3⟩)⟩
      refine .inr ⟨l, _, upd_same _ _ _, setRow_heap w l.c arr _ e _ hheap, by simp; omega, by simp [hnl]; omega, fun j hj => ?_⟩
      have hxx : (xs ++ ys)[j]? = some ((xs ++ ys)[j]'hj) := List.getElem?_eq_getElem hj
      have hget := spl_get arr.toList news xs.length j (by simpa using hfit)
      have hga : (arr.toList.take xs.length ++ news ++ arr.toList.drop (xs.length + news.length)).toArray[j]? = if j < xs.length then arr[j]? else if j < xs.length + news.length then news[j - xs.length]? else arr[j]? := by simpa using hget
      rw [hga]
      by_cases hj1 : j < xs.length
      · simp only [hj1, if_true]
        rw [List.getElem?_append_left hj1] at hxx
        obtain ⟨_, hxi⟩ := List.getElem?_eq_some_iff.1 hxx
        rw [← hxi]
        exact ⟨vs j, hvs j hj1, (hcell j hj1).2, (hrep j hj1).ext e1⟩
      · have hj2 : j < xs.length + news.length := by simp at hj; omega
        simp only [hj1, hj2, if_true, if_false]
        rw [List.getElem?_append_right (by omega)] at hxx
        obtain ⟨u, h3, h4, h5⟩ := hnews.at hxx
        exact ⟨u, h3, h4, h5.ext e1⟩
    · have holds : ∀ j u, ((List.range xs.length).map vs)[j]? = some u → w.cell? ((⟨l.c, 0, none⟩ : Addr).add j) = some u := by
        intro j u hu
        rw [addr_add]
        simp only [List.getElem?_map, Option.map_eq_some_iff] at hu
        obtain ⟨k, hk, rfl⟩ := hu
        obtain ⟨h1, h2⟩ := List.getElem?_eq_some_iff.1 hk
        simp at h1 h2; subst h2
        exact (hcell _ h1).1
      have hrun := run_append_grow (P := P) w t ty e it zv hu hit hitz ⟨l.c, 0, none⟩ len cap ((List.range xs.length).map vs) (by simp [hxl, hsi]) holds ⟨c, oo, none⟩ n cx news hnl2 hncell (by omega) (by omega) (growslice_fits (by omega) hbnd)
      obtain ⟨g1, e1⟩ := good_move (t := e) (sz := sz) (g' := g + 1) (rest := (Builtin.zeroCells zv.cells (grownCap w (len + n) cap e - (len + n))).toList) hg hb0 (below_drew w) (hcur.append hnews)
      have harr : ((List.range xs.length).map vs).toArray ++ news.toArray ++ Builtin.zeroCells zv.cells (grownCap w (len + n) cap e - (len + n)) = ((List.range xs.length).map vs ++ news ++ (Builtin.zeroCells zv.cells (grownCap w (len + n) cap e - (len + n))).toList).toArray := by
        apply Array.toList_inj.1; simp
      rw [harr] at hrun
      have hgc := grownCap_ge w (len + n) cap e
      have hgm := grownCap_le_maxLen w (len + n) cap e (by simp only [maxLen]; omega)
      refine ⟨_, _, _, hrun, g1, e1, ?_⟩
      refine .osl (upd_same _ _ _) (Nat.le_refl _) rfl (fun _ => .inr ⟨_, grownCap w (len + n) cap e, upd_same _ _ _, rfl, hgc, ?_, hgm⟩)
      rw [Nat.zero_add]
      refine Nat.le_of_eq ?_
      exact (grown_size zv.cells sz (len + n) _ hzsz _ (by simp [hxl, hnl2, hsi, Nat.add_mul]) hgc).symm
theorem sound_appoo {t : TypeId} {s x : Operand} (ho : o.op = .call ⟨.builtin .append, #[s, x], #[t, t]⟩) {e : TypeId} (ht : tslice P t = some e) {sz bys : Nat} {zs : List AV} (hs : tsz P e = some sz) (hby : tbytes P e = some bys) (hz : tzero P e = some zs)
    (hzl : zs.length = sz) (hpos : 0 < sz) {d gd len : Nat} {xs : List AV} (hsv : ρ s = .osl d gd 0 len) (hd : h d = some (.cells e sz gd xs)) (hxl : xs.length = len * sz) {b g off n : Nat} (hx : ρ x = .osl b g off n) {t' : TypeId} {us : List AV} (hb : h b = some (.cells t' sz g us)) (hl : off + n * sz ≤ us.length) (hn0 : 0 < n)
    (hbytes : (len + n) * bys ≤ 140737488355328) (h63 : len + n ≤ 9223372036854775807) {ys : List AV} (hys : window us off (n * sz) = ys) :
    OpOK P w0 r o ρ h ⟨.osl d (gd + 1) 0 (len + n), [b], some (d, .cells e sz (gd + 1) (xs ++ ys))⟩ := by
  subst hys
  intro h' m w ac next Q hrd hwr hg hop hnext
  have hb' : h' b = some (.cells t' sz g us) := (hrd b (by simp)).trans hb
  have hd' : h' d = some (.cells e sz gd xs) := (hwr d _ rfl).trans hd
  have h1 := hop s (by simp [ho, Op.operands, Call.operands]); rw [hsv] at h1
  have h2 := hop x (by simp [ho, Op.operands, Call.operands]); rw [hx] at h2
  have hrunE : ∀ (w' : World) (v : Value), (Builtin.append_ #[t, t] o.type #[ac.eval s, ac.eval x]).run P w = .ok v w' → (execOp ac.eval o).run P w = .ok (.value v) w' := by
    intro w' v hr
    rw [run_call_builtin ho]
    simp only [builtin, Sem.run_bind]
    have : (#[s, x].map ac.eval) = #[ac.eval s, ac.eval x] := by simp
    rw [this, hr]
    rfl
  rcases rep_osl h2 hb' with ⟨_, _, h3, _⟩ | ⟨l, cap, hm, hv, _, _, _⟩
  · omega
  · obtain ⟨arr, _, hasz, hlen, vs, hvs, hcell, hrep⟩ := blk_cells hg hb' hm
    have hwl : (window us off (n * sz)).length = n * sz := window_length _ _ _ hl
    have hnews : RepL h' m w (window us off (n * sz)) ((List.range (n * sz)).map fun j => vs (off + j)) := by
      refine ⟨by rw [hwl]; simp, fun u hu => ?_, fun j a c => ?_⟩
      · simp only [List.mem_map, List.mem_range] at hu
        obtain ⟨j, hj, rfl⟩ := hu
        exact (hcell (off + j) (by omega)).2
      · rw [window_get]
        simp only [List.getElem_map, List.getElem_range]
        exact hrep _ _
    obtain ⟨v, w', m', hrun, g1, e1, r1⟩ := append_own (ty := o.type) (cx := cap) ht hs hby hz hzl hpos hwl hxl hbytes h63 hn0 hg hnews (c := l.c) (oo := off) (fun j u hu => by
      rw [addr_add]
      simp only [List.getElem?_map, Option.map_eq_some_iff] at hu
      obtain ⟨k, hk, rfl⟩ := hu
      obtain ⟨h1, h2⟩ := List.getElem?_eq_some_iff.1 hk
      simp at h1 h2; subst h2
      have := (hcell (off + j) (by omega)).1
      rw [Nat.zero_add] at this
      exact this) hd' h1
    rw [← hv] at hrun
    exact wp_val (by simp [ho]) (hrunE w' v hrun) (hnext _ _ _ g1 e1 r1)
theorem sound_litE {t e : TypeId} {len : Nat} {parts : Array (Nat × Operand)} (ho : o.op = .buildSlice t len parts) {nx sz : Nat} (hn : h nx = none) {zs xs : List AV} (ht : tslice P t = some e) (hs : tsz P e = some sz) (hz : tzero P e = some zs) (hzl : zs.length = sz) (hpos : 0 < sz) (hl : 0 < len) (hbig : len * sz ≤ 16777216)
    (hp : ∀ x ∈ zs, cellPure x = true) (hf : afill (fun i => some (i * sz, sz)) (List.replicate len zs).flatten (parts.toList.map fun p => (p.1, ρ p.2)) = some xs) (hxl : xs.length = len * sz) : OpOK P w0 r o ρ h ⟨.osl nx 0 0 len, [], some (nx, .cells e sz 0 xs)⟩ := by
  have hk : litK P o.op ρ nx (fun e' => e' = ⟨.osl nx 0 0 len, [], some (nx, .cells e sz 0 xs)⟩) := by
    simp only [litK, ho, ht, hs, hz, hf]
    exact ⟨hzl, hpos, hl, hbig, hp, hxl, trivial⟩
  obtain ⟨e', h1, h2⟩ := sound_lit (w0 := w0) (r := r) hn hk
  subst h1
  exact h2
end
section
variable [Base] {P : Program} {w0 : World} {r : Option Nat} {X : Ctx} {s : St} {Q : Exit → St → Prop}
theorem SatC.weak {a : Act} {w : World} (b : Nat) {t : TypeId} {sz g : Nat} {xs ys : List AV} (hs : SatC w0 X s a w) (hb : hget s.H b = some (.cells t sz g xs)) (hl : ys.length = xs.length) (hsub : ∀ j (h1 : j < xs.length) (h2 : j < ys.length), avSub xs[j] ys[j]) :
    SatC w0 X ⟨s.T, hset s.H b (.cells t sz g ys), s.D⟩ a w := by
  obtain ⟨hid, hhid, m, hs, hx⟩ := hs
  have hh : hget (hset s.H b (.cells t sz g ys)) = upd (hget s.H) b (some (.cells t sz g ys)) := hget_seto s.H (some (b, .cells t sz g ys))
  cases hm : m b with
  | none =>
    have hx0 : xs = [] := by
      rcases hs.good.blk b _ hb with ⟨_, h1⟩ | ⟨l, arr, h1, _⟩
      · exact h1
      · rw [hm] at h1; cases h1
    subst hx0
    have hy0 : ys = [] := List.eq_nil_of_length_eq_zero hl
    subst hy0
    have e2 : upd (hget s.H) b (some (.cells t sz g [])) = hget s.H := by
      funext i; unfold upd; split
      · rename_i e; subst e; simp [hb]
      · rfl
    refine ⟨hid, hhid, m, ?_⟩
    simp only
    rw [hh, e2]
    exact ⟨hs, hx⟩
  | some l =>
    have hfits : ∀ k0, hget s.H b = some k0 → Fits k0 (.cells t sz g ys) (m b ≠ some l) := by
      intro k0 hk0; rw [hb] at hk0; cases hk0
      exact ⟨rfl, rfl, Nat.le_refl _, fun _ hne => hne hm⟩
    have hsame : ∀ c, c < w.heap.size → (∀ l0, m b = some l0 → l0.c ≠ c) → w.heap[c]? = w.heap[c]? := fun _ _ _ => rfl
    have e1 := ext_put (k := .cells t sz g ys) (w' := w) (l' := l) hs.good (Nat.le_refl _) hsame (.inl hm) hfits
    obtain ⟨arr, hheap, hasz, hlen, vs, hvs, hcell, hrep⟩ := blk_cells hs.good hb hm
    have hum : upd m b (some l) = m := by
      funext i; unfold upd; split
      · rename_i e; subst e; exact hm.symm
      · rfl
    have g1 := good_put (k := .cells t sz g ys) (w' := w) (l' := l) hs.good rfl rfl rfl (Nat.le_refl _) hsame (.inl hm) hfits (.inr ⟨l, arr, upd_same _ _ _, hheap, hasz, by omega, fun j hj => by
      have hj' : j < xs.length := by omega
      exact ⟨vs j, hvs j hj', (hcell j hj').2, rep_sub ((hrep j hj').ext e1) (hsub j hj' hj)⟩⟩) (by simp)
    rw [hum] at e1 g1
    refine ⟨hid, hhid, m, ?_⟩
    simp only
    rw [hh]
    refine ⟨⟨g1, hs.size, fun i hi => let ⟨v, hv, hr⟩ := hs.tmps i hi; ⟨v, hv, hr.ext e1⟩, hs.roots.ext e1, ?_⟩, hx.trans e1⟩
    obtain ⟨ls, a1, a2, a3⟩ := hs.marks
    refine ⟨ls, a1, fun j x y => ?_, a3⟩
    obtain ⟨b1, o, b2⟩ := a2 j x y
    obtain ⟨⟨o', b3⟩, b4⟩ := e1.dfr _ _ b2
    exact ⟨b1, o', b3⟩
theorem awp_weak (b : Nat) {c : Code} {t : TypeId} {sz g : Nat} {xs ys : List AV} (hb : hget s.H b = some (.cells t sz g xs)) (hl : ys.length = xs.length) (hsub : ∀ j (h1 : j < xs.length) (h2 : j < ys.length), avSub xs[j] ys[j]) (h : AWP P w0 r X c ⟨s.T, hset s.H b (.cells t sz g ys), s.D⟩ Q) : AWP P w0 r X c s Q :=
  fun a w hs => h a w (hs.weak b hb hl hsub)
omit [Base] in
theorem weak_app {A B C : List AV} (hl : C.length = B.length) (h : ∀ j (h1 : j < B.length) (h2 : j < C.length), avSub B[j] C[j]) : (A ++ C).length = (A ++ B).length ∧ ∀ j (h1 : j < (A ++ B).length) (h2 : j < (A ++ C).length), avSub (A ++ B)[j] (A ++ C)[j] := by
  refine ⟨by simp [hl], fun j h1 h2 => ?_⟩
  by_cases e : j < A.length
  · rw [List.getElem_append_left e, List.getElem_append_left e]
    generalize A[j] = x
    cases x <;> first | rfl | trivial | exact .inl rfl
  · rw [List.getElem_append_right (by omega), List.getElem_append_right (by omega)]
    exact h _ _ _
end
end Go.Am
namespace Go.Am
open Go.RowKit
set_option linter.unusedSimpArgs false
set_option linter.unusedVariables false
variable [Base]
section
variable {P : Program} {w0 : World} {r : Option Nat} {all : Array Oper}
theorem ev_trace3 : ∀ (os : List Oper) (i : Nat) (s : St) (tr : List E) (K : St → List E → Prop), (∀ k, k < os.length → os[k]? = all[i + k]?) → evOps P all os s tr K →
    ∃ es s', Trace3 P w0 r all i s.f (efs os es) (pls os es) s'.f ∧ es.length = os.length ∧ K s' (tr ++ es)
  | [], i, s, tr, K, _, hk => ⟨[], s, .nil i _, rfl, by simpa [evOps] using hk⟩
  | o :: os, i, s, tr, K, hos, hk => by
    have ho : all[i]? = some o := by have := hos 0 (by simp); simpa using this.symm
    have hos' : ∀ k, k < os.length → os[k]? = all[i + 1 + k]? := fun k hk => by have := hos (k + 1) (by simpa using hk); simp only [List.getElem?_cons_succ] at this; rw [this]; congr 1; omega
    unfold evOps at hk
    cases hg : guardOf all s.T o with
    | none => simp [hg] at hk
    | some b =>
      cases b
      · simp only [hg] at hk
        obtain ⟨es, s', h1, h2, h3⟩ := ev_trace3 os (i + 1) _ _ K hos' hk
        refine ⟨⟨.tup [], [], none⟩ :: es, s', ?_, by simp [h2], by simpa using h3⟩
        have e1 : ef3 o.op ⟨.tup [], [], none⟩ = ⟨.tup [], [], [], false⟩ := by unfold ef3; split <;> first | rfl | (rename_i h; cases h)
        have e2 : pl3 o.op ⟨.tup [], [], none⟩ = [] := by unfold pl3; split <;> first | rfl | (rename_i h; cases h)
        simp only [efs, pls, e1, e2]
        exact .skip ho hg h1
      · simp only [hg] at hk
        obtain ⟨e, hk, hok, hgen⟩ := step3 (w0 := w0) (r := r) (hget_length s.H _ (Nat.le_refl _)) hk
        have fin : evOps P all os ⟨lseto s.T o.dst e.val, hseto s.H e.wr, s.D⟩ (tr ++ [⟨e.val, e.rd, e.wr⟩]) K → ∃ es s', Trace3 P w0 r all i s.f (efs (o :: os) es) (pls (o :: os) es) s'.f ∧ es.length = (o :: os).length ∧ K s' (tr ++ es) := by
          intro hk
          obtain ⟨es, s', h1, h2, h3⟩ := ev_trace3 os (i + 1) _ _ K hos' hk
          refine ⟨e :: es, s', ?_, by simp [h2], by simpa using h3⟩
          simp only [efs, pls]
          refine .run ho hg hgen hok ?_
          rw [(ef3_wr o.op e).1, (ef3_wr o.op e).2]
          have h1' := h1
          simp only [St.f, lift_upd] at h1' ⊢
          exact h1'
        unfold splitB at hk
        split at hk
        · rename_i b hb
          cases b
          · exact fin (by rw [hb]; exact hk.2 rfl)
          · exact fin (by rw [hb]; exact hk.1 rfl)
        · exact fin hk
variable {X : Ctx} {s : St} {Q : Exit → St → Prop}
theorem awp_draw3 {id : Nat} {ops : List Oper} (hm : P.follows .mixedOrders = true) (hc : regOK ops.toArray = true) (h : evOps P ops.toArray ops s [] fun s' es => heapOK3 ops.toArray (efs ops es) (pls ops es) = true ∧ Q .normal s') :
    AWP P w0 r X (.region id ops.toArray true) s Q := by
  intro a w ⟨ex, hex, hs⟩
  obtain ⟨es, s', ht, hl, hk1, hk2⟩ := ev_trace3 (w0 := w0) (r := r) ops 0 s [] _ (fun k _ => by simp) h
  simp only [List.nil_append] at hk1
  exact draw_sound3 (Z := X.Z) (mz := X.mz) (wz := X.wz) hm ht (by rw [efs_length hl]; simp) hc hk1 (fun a w hs => ⟨s', hk2, ex, hex, hs⟩) a w hs
end
end Go.Am
namespace Go.Am
open Go.RowKit
set_option linter.unusedSimpArgs false
set_option linter.unusedVariables false
def endJ (sz : Nat) (H : List (Option ABlk)) : AV → AV → Prop
  | .osl b g off len, .int _ l => (match hget H b with
    | some (.cells _ sz' g' _) => g = g' ∧ sz' = sz
    | _ => False) ∧ 0 ≤ l ∧ l ≤ len
  | .nils, .int _ l => l = 0
  | _, _ => False
def cutJ (P : Program) (all : Array Oper) (o : Oper) (s : St) (K : St → Prop) : Prop :=
  match guardOf all s.T o with
  | some true => (match o.op with
    | .slice t x (some lo) none none => optK (tslice P t) fun e => optK (tsz P e) fun sz => endJ sz s.H (aev s.T x) (aev s.T lo) ∧ K ⟨lseto s.T o.dst .junk, s.H, s.D⟩
    | _ => False)
  | some false => K ⟨lseto s.T o.dst (.tup []), s.H, s.D⟩
  | none => False
def isLoop : Option ABlk → Bool
  | some (.loop _ _ _ _ _ _ _ _) => true
  | _ => false
def noLoop : List (Option ABlk) → Bool
  | [] => true
  | k :: H => !isLoop k && noLoop H
instance {a b : List AV} [sa : Still a] [sb : Still b] : Still (a ++ b) := ⟨fun y hy => by
  rcases List.mem_append.1 hy with h | h
  · exact sa.h y h
  · exact sb.h y h⟩
variable [Base]
section
variable {P : Program} {w0 : World} {r : Option Nat} {X : Ctx} {s : St} {Q : Exit → St → Prop}
omit [Base] in
theorem optK_is {α : Type} {o : Option α} {K : α → Prop} (h : optK o K) : ∃ x, o = some x ∧ K x := by
  cases o with
  | none => exact h.elim
  | some x => exact ⟨x, rfl, h⟩
theorem cut_run {o : Oper} {t : TypeId} {x lo : Operand} (ho : o.op = .slice t x (some lo) none none) {e : TypeId} {sz : Nat} (ht : tslice P t = some e) (hs : tsz P e = some sz)
    {T : List AV} {H : List (Option ABlk)} (hk : endJ sz H (aev T x) (aev T lo)) {m : Nat → Option Loc} {w : World} {ac : Act} (hop : ∀ x, x ∈ o.op.operands → Rep (hget H) m w (aev T x) (ac.eval x)) :
    ∃ v, (execOp ac.eval o).run P w = .ok (.value v) w := by
  have hxr := hop x (by simp [ho, Op.operands])
  have hlr := hop lo (by simp [ho, Op.operands])
  generalize hxv : aev T x = xv at *
  generalize hlv : aev T lo = lv at *
  unfold endJ at hk
  split at hk
  · rename_i b g off len kl l
    obtain ⟨hb, h0, h1⟩ := hk
    split at hb
    · rename_i t' sz' g' xs hbk
      obtain ⟨rfl, rfl⟩ := hb
      have hl := rep_int hlr
      obtain ⟨l', rfl⟩ := Int.eq_ofNat_of_zero_le h0
      have h1' : l' ≤ len := by omega
      rcases rep_osl hxr hbk with ⟨hm, h2, h3, hv⟩ | ⟨q, cap, hm, hv, hc1, hc2, hc3⟩
      · have : l' = 0 := by omega
        subst this
        have hbb : (Instr.sliceBounds true 0 0 (some (ac.eval lo)) none none).run P w = .ok (0, 0, 0) w := by
          simp [Instr.sliceBounds, hl, Instr.sliceBound, asIntOf]
        exact ⟨_, by simp only [execOp, ho, hv, Instr.sliceAt, Sem.run_bind, run_underlying (tslice_spec ht), Result.andThen_ok, Instr.slice, Option.map_some, Option.map_none, hbb, tsz_spec hs, Sem.run_pure]; rfl⟩
      · have hbb : (Instr.sliceBounds true len cap (some (ac.eval lo)) none none).run P w = .ok (l', len, cap) w := by
          simp [Instr.sliceBounds, hl, Instr.sliceBound, asIntOf, h1']
        exact ⟨_, by simp only [execOp, ho, hv, Instr.sliceAt, Sem.run_bind, run_underlying (tslice_spec ht), Result.andThen_ok, Instr.slice, Option.map_some, Option.map_none, hbb, tsz_spec hs, Sem.run_pure]; rfl⟩
    · exact hb.elim
  · rename_i kl l
    subst hk
    have hl := rep_int hlr
    have hv : ac.eval x = .slice none 0 0 := by
      generalize ac.eval x = y at hxr
      cases hxr with | pure p => cases p; rfl
    have hbb : (Instr.sliceBounds true 0 0 (some (ac.eval lo)) none none).run P w = .ok (0, 0, 0) w := by
      simp [Instr.sliceBounds, hl, Instr.sliceBound, asIntOf]
    exact ⟨_, by simp only [execOp, ho, hv, Instr.sliceAt, Sem.run_bind, run_underlying (tslice_spec ht), Result.andThen_ok, Instr.slice, Option.map_some, Option.map_none, hbb, tsz_spec hs, Sem.run_pure]; rfl⟩
  · exact hk.elim
omit [Base] in
theorem noLoop_get : ∀ {H : List (Option ABlk)}, noLoop H = true → ∀ (c : Nat) st pend fn T ps asg body d, hget H c ≠ some (.loop st pend fn T ps asg body d)
  | [], _, c, _, _, _, _, _, _, _, _ => by cases c <;> simp [hget]
  | k :: H, h, 0, _, _, _, _, _, _, _, _ => by
    simp only [noLoop, Bool.and_eq_true, Bool.not_eq_true'] at h
    intro e
    simp only [hget] at e
    rw [e] at h
    simp [isLoop] at h
  | k :: H, h, c + 1, st, pend, fn, T, ps, asg, body, d => by
    simp only [noLoop, Bool.and_eq_true, Bool.not_eq_true'] at h
    simpa [hget] using noLoop_get h.2 c st pend fn T ps asg body d
theorem SatC.frzC {w : World} {b g : Nat} {t : TypeId} {sz : Nat} {xs : List AV} {X : Ctx} {s : St} {a : Act} (hs : SatC w0 X s a w) (hb : hget s.H b = some (.cells t sz g xs)) (hp : ∀ y ∈ xs, cellPure y = true) (hX : X.Z b = none) (hL : ∀ (c : Nat) st pend fn T ps asg body d, X.Z c ≠ some (.loop st pend fn T ps asg body d)) : SatC w0 X (Go.Am.frz b g xs s) a w := by
  obtain ⟨ex, hex, m, hs, hx⟩ := hs
  have z : FzH (hget s.H) (hget (fzH b g xs b s.H)) b g xs := ⟨by rw [fzH_get]; simp, fun c hc => by rw [fzH_get]; simp [hc]⟩
  have km : ∀ c, c ≠ b → killM m (notb b) c = m c := fun c hc => by simp [killM, notb_ne hc]
  have ne : ∀ {c : Nat} {k : ABlk}, X.Z c = some k → c ≠ b := by
    intro c k hk e
    rw [e, hX] at hk; cases hk
  refine ⟨ex, hex, killM m (notb b), ⟨good_frz hs.good z hb hp, by rw [hs.size]; exact (fzl_len _ _).symm, fun j hj => ?_, ⟨hs.roots.1, fun c hc => let ⟨b1, b2, b3⟩ := hs.roots.2 c hc; ⟨b1, un_kill b2, b3⟩⟩, ?_⟩, fun c hc => ⟨(hx.ok c hc).1, un_kill (hx.ok c hc).2⟩, ?_, ?_, ?_, ?_⟩
  · obtain ⟨v, hv, hr⟩ := hs.tmps j (by simpa [Go.Am.frz, fzl_len] using hj)
    refine ⟨v, hv, ?_⟩
    simp only [Go.Am.frz]
    rw [fzl_lget rfl]
    exact rep_fz2 hs.good z hb hp hr
  · obtain ⟨ls, a1, a2, a3⟩ := hs.marks
    refine ⟨ls, a1, fun j x y => ?_, a3⟩
    obtain ⟨b1, o, b2⟩ := a2 j x y
    have hne : s.D[j] ≠ b := by intro e; rw [e, hb] at b2; cases b2
    refine ⟨?_, o, ?_⟩
    · show killM m (notb b) s.D[j] = _
      unfold killM
      rw [notb_ne hne]; exact b1
    · show hget (fzH b g xs b s.H) s.D[j] = _
      rw [z.other _ hne, b2]; rfl
  · intro c t sz g xs hc
    obtain ⟨g', xs', h1, h2, h3⟩ := hx.cells c t sz g xs hc
    have hne := ne hc
    exact ⟨g', _, ((z.other c hne).trans (by rw [h1]; rfl)), h2, fun e => (km c hne).trans (h3 e)⟩
  · intro c es hc
    obtain ⟨⟨es', h1⟩, h2⟩ := hx.map c es hc
    have hne := ne hc
    exact ⟨⟨_, ((z.other c hne).trans (by rw [h1]; rfl))⟩, (km c hne).trans h2⟩
  · intro c o hc
    obtain ⟨⟨o', h1⟩, h2⟩ := hx.dfr c o hc
    have hne := ne hc
    exact ⟨⟨o', ((z.other c hne).trans (by rw [h1]; rfl))⟩, (km c hne).trans h2⟩
  · intro c st pend fn T ps asg body d hc
    exact absurd hc (hL c _ _ _ _ _ _ _ _)
theorem awp_frzC {c : Code} (b : Nat) {t : TypeId} {sz g : Nat} {xs : List AV} (hb : hget s.H b = some (.cells t sz g xs)) (hp : pureL xs) (H0 : List (Option ABlk)) (hZ : X.Z = hget H0) (hX : hget H0 b = none) (hL : noLoop H0 = true)
    (h : AWP P w0 r X c (Go.Am.frz b g xs s) Q) : AWP P w0 r X c s Q :=
  fun a w hs => h a w (hs.frzC hb hp (by rw [hZ]; exact hX) (fun c st pend fn T ps asg body d => by rw [hZ]; exact noLoop_get hL c st pend fn T ps asg body d))
theorem awp_cutJ (n : Nat) {id : Nat} {ops post : List Oper} {o : Oper} (e' : ops.drop n = o :: post)
    (h : evOps P ops.toArray (ops.take n) s [] fun s1 _ => cutJ P ops.toArray o s1 fun s2 => evOps P ops.toArray post s2 [] fun s3 _ => Q .normal s3) : AWP P w0 r X (.region id ops.toArray false) s Q := by
  intro a w ⟨ex, hex, hs⟩
  have e : ops = ops.take n ++ o :: post := by rw [← e', List.take_append_drop]
  generalize ops.take n = pre at *
  have hpre : ∀ k, pre[k]? = ops.toArray[0 + k]? ∨ pre.length ≤ k := fun k => by
    rcases Nat.lt_or_ge k pre.length with h | h
    · left; simp [e, List.getElem?_append_left h]
    · exact .inr h
  have hat : ops.toArray[pre.length]? = some o := by simp [e]
  refine wpIn_region ?_
  have hrange : List.range ops.toArray.size = List.range' 0 pre.length ++ (pre.length :: List.range' (pre.length + 1) post.length) := by
    rw [List.range_eq_range', show ops.toArray.size = pre.length + (post.length + 1) by simp [e], ← List.range'_append_1, List.range'_succ]
    simp
  rw [hrange]
  obtain ⟨es, s1, ht, hl, hk⟩ := ev_trace (w0 := w0) (r := r) (all := ops.toArray) pre 0 s [] _ (fun k hk => (hpre k).resolve_right (by omega)) h
  have e1 : es.length = (es.map lift).length := by simp
  rw [← hl, e1]
  refine trace_seq3 (Z := X.Z) (mz := X.mz) (wz := X.wz) ht.two ?_ a w hs
  rintro a1 w1 ⟨m1, hs1, hx1⟩
  rw [List.length_map, hl, wpOpsIn_cons]
  unfold wpOpIn
  simp only [hat]
  have tail : ∀ (s2 : St) (a2 : Act) (w2 : World), evOps P ops.toArray post s2 [] (fun s3 _ => Q .normal s3) → SatX w0 ex X.Z X.mz X.wz s2.f a2 w2 → wpOpsIn (FW r) 0 P ops.toArray (fun e a' w' => ∃ s', Q e s' ∧ SatC w0 X s' a' w') (List.range' (pre.length + 1) post.length) a2 w2 := by
    intro s2 a2 w2 hev hs2
    obtain ⟨es2, s3, ht2, hl2, hk2⟩ := ev_trace (w0 := w0) (r := r) (all := ops.toArray) post (pre.length + 1) s2 [] _ (fun k _ => by simp [e, List.getElem?_append_right (show pre.length ≤ pre.length + 1 + k by omega), show pre.length + 1 + k - pre.length = k + 1 by omega]) hev
    have := trace_seq2 (Z := X.Z) (mz := X.mz) (wz := X.wz) (Q := fun e a' w' => ∃ s', Q e s' ∧ SatC w0 X s' a' w') ht2.two (fun a w hs => ⟨s3, hk2, ex, hex, hs⟩) a2 w2 hs2
    rw [List.length_map, hl2] at this
    exact this
  unfold cutJ at hk
  have hs1' : SatM w0 ex (lget s1.T) s1.T.length (hget s1.H) s1.D m1 a1 w1 := hs1
  split at hk
  · rename_i hg
    rw [guard_wanted hs1' rfl hg (fun _ _ _ _ _ _ => rfl), if_pos rfl]
    split at hk
    · rename_i t x lo ho
      obtain ⟨el, htl, hk⟩ := optK_is hk
      obtain ⟨sz, hsz, hk⟩ := optK_is hk
      obtain ⟨v, hrun⟩ := cut_run (w := w1) (m := m1) (ac := a1) ho htl hsz hk.1 (fun x _ => hs1'.eval s1.T rfl x (fun _ _ _ => rfl))
      refine wp_val (by simp [ho]) hrun (tail _ _ _ hk.2 ⟨m1, ?_, hx1⟩)
      simp only [St.f, lseto_length]
      refine hs1'.put hs1'.good (Ext.refl _ _ _) (.junk v) (fun j hj => ?_)
      cases hd : o.dst with
      | none => simp [lseto]
      | some d => simp only [lseto, lget_set, Option.some.injEq, hj, and_true]
    · exact hk.elim
  · rename_i hg
    rw [guard_wanted hs1' rfl hg (fun _ _ _ _ _ _ => rfl), if_neg (by simp)]
    refine ⟨fun _ _ => trivial, tail _ _ _ hk ⟨m1, ?_, hx1⟩⟩
    simp only [St.f, lseto_length]
    refine hs1'.put hs1'.good (Ext.refl _ _ _) rep_undef (fun j hj => ?_)
    cases hd : o.dst with
    | none => simp [lseto]
    | some d => simp only [lseto, lget_set, Option.some.injEq, hj, and_true]
  · exact hk.elim
end
omit [Base] in
theorem cj_free {P : Program} {all : Array Oper} {d : Option Tmp} {t : TypeId} {x lo : Operand} {ty : TypeId} {ps : _} {af : _} {T : List AV} {H : List (Option ABlk)} {D : List Nat} {K : St → Prop} :
    cutJ P all ⟨d, .slice t x (some lo) none none, ty, ps, af, none⟩ ⟨T, H, D⟩ K = optK (tslice P t) fun e => optK (tsz P e) fun sz => endJ sz H (aev T x) (aev T lo) ∧ K ⟨lseto T d .junk, H, D⟩ := rfl
omit [Base] in
theorem ej_n {sz : Nat} {H : List (Option ABlk)} {k : IntKind} {l : Int} : endJ sz H .nils (.int k l) = (l = 0) := rfl
omit [Base] in
theorem ej_o {sz : Nat} {H : List (Option ABlk)} {b g off len : Nat} {k : IntKind} {l : Int} : endJ sz H (.osl b g off len) (.int k l) = ((match hget H b with
    | some (.cells _ sz' g' _) => g = g' ∧ sz' = sz
    | _ => False) ∧ 0 ≤ l ∧ l ≤ len) := rfl
attribute [go_sem] cj_free ej_n ej_o
end Go.Am
namespace Go.Am
open Go.RowKit
set_option linter.unusedSimpArgs false
set_option linter.unusedVariables false
variable [Base]
section
variable {P : Program} {w0 : World} {r : Option Nat} {o : Oper} {ρ : Operand → AV} {h : Nat → Option ABlk}
theorem sound_arr {t : TypeId} {x hi : Operand} (ho : o.op = .slice t x none (some hi) none) {n : Nat} {e : TypeId} (ht : tarr P t = some (n, e)) {sz : Nat} (hs : tsz P e = some sz) {b g off : Nat} (hx : ρ x = .ptr b g off) {t' : TypeId} {xs : List AV}
    (hb : h b = some (.cells t' sz g xs)) (hl : off + n * sz ≤ xs.length) {k : IntKind} {u : Nat} (hu : ρ hi = .int k u) (hun : u ≤ n) (hn : n ≤ maxLen) : OpOK P w0 r o ρ h ⟨.osl b g off u, [b], none⟩ := by
  refine ok_pure (by simp [ho]) fun h' m w ac hrd hg hop => ?_
  have hb' : h' b = some (.cells t' sz g xs) := (hrd b (by simp)).trans hb
  have h1 := hop x (by simp [ho, Op.operands]); rw [hx] at h1
  have h2 := hop hi (by simp [ho, Op.operands]); rw [hu] at h2
  obtain ⟨l, hm, hv⟩ := rep_ptr h1 hb'
  obtain ⟨arr, _, hasz, hlen, _⟩ := blk_cells hg hb' hm
  have hv2 := rep_int h2
  have hbb : (Instr.sliceBounds false n n none (some (ac.eval hi)) none).run P w = .ok (0, u, n) w := by
    simp [Instr.sliceBounds, hv2, Instr.sliceBound, asIntOf, hun]
  have ha : (⟨l.c, off, none⟩ : Addr).add (0 * sz) = ⟨l.c, off, none⟩ := by rw [addr_add, Nat.zero_mul, Nat.add_zero]
  refine ⟨.slice (some ⟨l.c, off, none⟩) u n, ?_, .osl hb' (Nat.le_refl _) rfl (fun _ => .inr ⟨l, n, hm, rfl, hun, by omega, hn⟩)⟩
  have hif : (if n = 0 then (⟨l.c, off, none⟩ : Addr) else (⟨l.c, off, none⟩ : Addr).add (0 * sz)) = ⟨l.c, off, none⟩ := by
    split
    · rfl
    · exact ha
  simp only [execOp, ho, hv, Instr.sliceAt, Sem.run_bind, run_underlying (tarr_spec ht), Result.andThen_ok, Instr.sureAddr, Option.map_some, Option.map_none, hbb, tsz_spec hs, Sem.run_pure, hif, Nat.sub_zero]
theorem sound_nil {t t2 : TypeId} {x y : Operand} (ho : o.op = .binOp .eql t x y t2) {e : TypeId} (ht : tslice P t = some e) {b g off len : Nat} (hx : ρ x = .osl b g off len) (hy : ρ y = .nils) {t' : TypeId} {sz : Nat} {xs : List AV}
    (hb : h b = some (.cells t' sz g xs)) (hl : 0 < len) : OpOK P w0 r o ρ h ⟨.bool false, [b], none⟩ := by
  refine ok_pure (by simp [ho]) fun h' m w ac hrd hg hop => ⟨.bool false, ?_, .pure (.bool _)⟩
  have hb' : h' b = some (.cells t' sz g xs) := (hrd b (by simp)).trans hb
  have h1 := hop x (by simp [ho, Op.operands]); rw [hx] at h1
  have h2 := hop y (by simp [ho, Op.operands]); rw [hy] at h2
  have hv2 := rep_nils h2
  rcases rep_osl h1 hb' with ⟨_, _, h3, _⟩ | ⟨l, cap, hm, hv, _, _, _⟩
  · omega
  · have hq : ∀ d, (Op.equalIn (d + 1) t (.slice (some ⟨l.c, off, none⟩) len cap) (.slice none 0 0)).run P w = .ok false w := fun d => by
      simp [Op.equalIn, run_underlying (tslice_spec ht)]
    have hq2 := hq 9999
    simp [execOp, ho, hv, hv2, eqGuard, binOp, Op.equal, Op.maxDepth, hq2]
theorem sound_storeC {t : TypeId} {j : Tmp} {us : List Value} (ho : o.op = .store t (.tmp j) (.const (.agg us.toArray))) {b g off : Nat} (ha : ρ (.tmp j) = .ptr b g off) {t' : TypeId} {sz : Nat} {xs : List AV} (hb : h b = some (.cells t' sz g xs))
    (hu : us.all (fun u => cellPure (constAV u)) = true) (hs : tsz P t = some us.length) (hl : off + us.length ≤ xs.length) {zs : List AV} (hz : splice xs off (us.map constAV) = zs) : OpOK P w0 r o ρ h ⟨.junk, [], some (b, .cells t' sz g zs)⟩ := by
  subst hz
  have hu : ∀ u ∈ us, cellPure (constAV u) = true := List.all_eq_true.1 hu
  obtain ⟨e, rfl, hok⟩ := sound_store (P := P) (w0 := w0) (r := r) (ρ := fun x => match x with | .const (.agg _) => .agg (us.map constAV) | y => ρ y) (h := h) (K := fun e => e = ⟨.junk, [], some (b, .cells t' sz g (splice xs off (us.map constAV)))⟩) ho (by
    simp only [effK, ho, ha, hb, cellsOf, List.length_map]
    exact ⟨trivial, hs.symm, hl, trivial⟩)
  intro h' m w a next Q h1 h2 hg hop hnext
  refine hok h' m w a next Q h1 h2 hg (fun x hx => ?_) hnext
  have hx2 : x = .tmp j ∨ x = .const (.agg us.toArray) := by simpa [ho, Op.operands] using hx
  rcases hx2 with rfl | rfl
  · exact hop _ hx
  · show Rep h' m w (.agg (us.map constAV)) (.agg us.toArray)
    refine .agg us (by simp) (fun u hm => (const_rep (ok := Ok m w) (w := w) (hu u hm)).2) (fun j x y => ?_)
    simp only [List.getElem_map]
    exact .pure (const_rep (hu _ (List.getElem_mem _))).1
theorem append_src {t e : TypeId} {ty : TypeId} {sz bys : Nat} {zs : List AV} {b n : Nat} {ys : List AV} {h' : Nat → Option ABlk} {m : Nat → Option Loc} {w : World} {sv : Value} {c oo cx : Nat} {news : List Value}
    (ht : tslice P t = some e) (hs : tsz P e = some sz) (hby : tbytes P e = some bys) (hz : tzero P e = some zs) (hzl : zs.length = sz) (hpos : 0 < sz)
    (hyl : ys.length = n * sz) (hbytes : n * bys ≤ 140737488355328) (h63 : n ≤ 9223372036854775807) (hn0 : 0 < n)
    (hg : Good w0 h' m w) (hsv : PRep (Ok m w) w (.psl true 0 []) sv) (hnews : RepL h' m w ys news) (hncell : ∀ (j : Nat) (u : Value), news[j]? = some u → w.cell? ((⟨c, oo, none⟩ : Addr).add j) = some u) (hb : h' b = none) :
    ∃ v w' m', (Builtin.append_ #[t, t] ty #[sv, .slice (some ⟨c, oo, none⟩) n cx]).run P w = .ok v w' ∧ Good w0 (upd h' b (some (.cells e sz 0 ys))) m' w' ∧ Ext h' m w (upd h' b (some (.cells e sz 0 ys))) m' w' ∧
      Rep (upd h' b (some (.cells e sz 0 ys))) m' w' (.osl b 0 0 n) v := by
  obtain ⟨zv, hzv, rfl, it, hit, hitz⟩ := tzero_spec hz
  have hzsz : zv.cells.size = sz := by simpa using hzl
  have hbi := tbytes_spec hby hit
  have hsi := tsz_info hs hit
  have hu := tslice_spec ht
  have hb0 : ∀ k0, h' b = some k0 → ∃ g0 xs0, k0 = .cells e sz g0 xs0 ∧ g0 < 0 := fun k0 hk0 => by rw [hb] at hk0; cases hk0
  have hnl := hnews.1
  have hnl2 : news.length = n * it.size := by rw [← hnl, hyl, hsi]
  have hbnd : n * it.bytes ≤ 140737488355328 := by rw [hbi]; exact hbytes
  have hform : ∃ a, sv = .slice a 0 0 := by
    cases hsv with
    | psle _ h2 _ => exact ⟨_, by rw [h2 rfl]⟩
    | psl _ _ h2 _ _ _ => exact ⟨_, by rw [h2 rfl]⟩
  obtain ⟨a, rfl⟩ := hform
  obtain ⟨g1, e1⟩ := good_move (t := e) (sz := sz) (g' := 0) (rest := (Builtin.zeroCells zv.cells (grownCap w n 0 e - n)).toList) hg hb0 (below_drew w) hnews
  have harr : news.toArray ++ Builtin.zeroCells zv.cells (grownCap w n 0 e - n) = (news ++ (Builtin.zeroCells zv.cells (grownCap w n 0 e - n)).toList).toArray := by
    apply Array.toList_inj.1; simp
  have hgc := grownCap_ge w n 0 e
  have hgm := grownCap_le_maxLen w n 0 e (by simp only [maxLen]; omega)
  have hrun : (Builtin.append_ #[t, t] ty #[.slice a 0 0, .slice (some ⟨c, oo, none⟩) n cx]).run P w = .ok (.slice (some ⟨w.heap.size, 0, none⟩) n (grownCap w n 0 e)) (w.drew.alloc (.cells (news ++ (Builtin.zeroCells zv.cells (grownCap w n 0 e - n)).toList).toArray e)) := by
    rw [← harr]
    cases a with
    | none => exact run_append_nil (P := P) w t ty e it zv hu hit hitz ⟨c, oo, none⟩ n cx news hnl2 hncell (by omega) (by omega) (by omega)
    | some x =>
      have := run_append_grow (P := P) w t ty e it zv hu hit hitz x 0 0 [] (by simp) (fun j v hj => by simp at hj) ⟨c, oo, none⟩ n cx news hnl2 hncell (by omega) (by omega) (growslice_fits (by omega) (by rw [Nat.zero_add]; exact hbnd))
      simpa only [Nat.zero_add, List.append_nil, List.nil_append, Array.empty_append] using this
  refine ⟨_, _, _, hrun, g1, e1, ?_⟩
  refine .osl (upd_same _ _ _) (Nat.le_refl _) rfl (fun _ => .inr ⟨_, grownCap w n 0 e, upd_same _ _ _, rfl, hgc, ?_, hgm⟩)
  rw [Nat.zero_add]
  refine Nat.le_of_eq ?_
  exact (grown_size zv.cells sz n _ hzsz _ (by rw [hnl2, hsi]) hgc).symm
theorem sound_appo {t : TypeId} {s x : Operand} (ho : o.op = .call ⟨.builtin .append, #[s, x], #[t, t]⟩) {nx : Nat} (hn : h nx = none) {e : TypeId} (ht : tslice P t = some e) {sz bys : Nat} {zs : List AV} (hs : tsz P e = some sz) (hby : tbytes P e = some bys) (hz : tzero P e = some zs)
    (hzl : zs.length = sz) (hpos : 0 < sz) (hsv : ρ s = .psl true 0 []) {b g off n : Nat} (hx : ρ x = .osl b g off n) {t' : TypeId} {xs : List AV} (hb : h b = some (.cells t' sz g xs)) (hl : off + n * sz ≤ xs.length) (hn0 : 0 < n) (hbytes : n * bys ≤ 140737488355328) (h63 : n ≤ 9223372036854775807) {ys : List AV} (hys : window xs off (n * sz) = ys) :
    OpOK P w0 r o ρ h ⟨.osl nx 0 0 n, [b], some (nx, .cells e sz 0 ys)⟩ := by
  subst hys
  intro h' m w ac next Q hrd hwr hg hop hnext
  have hb' : h' b = some (.cells t' sz g xs) := (hrd b (by simp)).trans hb
  have hnx : h' nx = none := (hwr nx _ rfl).trans hn
  have h1 := hop s (by simp [ho, Op.operands, Call.operands]); rw [hsv] at h1
  have h2 := hop x (by simp [ho, Op.operands, Call.operands]); rw [hx] at h2
  have hrunE : ∀ (w' : World) (v : Value), (Builtin.append_ #[t, t] o.type #[ac.eval s, ac.eval x]).run P w = .ok v w' → (execOp ac.eval o).run P w = .ok (.value v) w' := by
    intro w' v hr
    rw [run_call_builtin ho]
    simp only [builtin, Sem.run_bind]
    have : (#[s, x].map ac.eval) = #[ac.eval s, ac.eval x] := by simp
    rw [this, hr]
    rfl
  rcases rep_osl h2 hb' with ⟨_, _, h3, _⟩ | ⟨l, cap, hm, hv, _, _, _⟩
  · omega
  · obtain ⟨arr, _, hasz, hlen, vs, hvs, hcell, hrep⟩ := blk_cells hg hb' hm
    have hwl : (window xs off (n * sz)).length = n * sz := window_length _ _ _ hl
    have hnews : RepL h' m w (window xs off (n * sz)) ((List.range (n * sz)).map fun j => vs (off + j)) := by
      refine ⟨by rw [hwl]; simp, fun u hu => ?_, fun j a c => ?_⟩
      · simp only [List.mem_map, List.mem_range] at hu
        obtain ⟨j, hj, rfl⟩ := hu
        exact (hcell (off + j) (by omega)).2
      · rw [window_get]
        simp only [List.getElem_map, List.getElem_range]
        exact hrep _ _
    obtain ⟨v, w', m', hrun, g1, e1, r1⟩ := append_src (ty := o.type) (cx := cap) ht hs hby hz hzl hpos hwl hbytes h63 hn0 hg (rep_psl h1) hnews (c := l.c) (oo := off) (fun j u hu => by
      rw [addr_add]
      simp only [List.getElem?_map, Option.map_eq_some_iff] at hu
      obtain ⟨k, hk, rfl⟩ := hu
      obtain ⟨h1, h2⟩ := List.getElem?_eq_some_iff.1 hk
      simp at h1 h2; subst h2
      have := (hcell (off + j) (by omega)).1
      rw [Nat.zero_add] at this
      exact this) hnx
    rw [← hv] at hrun
    exact wp_val (by simp [ho]) (hrunE w' v hrun) (hnext _ _ _ g1 e1 r1)
end
section
variable {P : Program} {w0 : World} {r : Option Nat} {X : Ctx} {s : St} {Q : Exit → St → Prop}
theorem awp_opN (n : Nat) {id : Nat} {ops post : List Oper} {o : Oper} (e' : ops.drop n = o :: post) (eff : E)
    (h : evOps P ops.toArray (ops.take n) s [] fun s1 _ => guardOf ops.toArray s1.T o = some true ∧ OpOK P w0 r o (aev s1.T) (hget s1.H) eff ∧ evOps P ops.toArray post ⟨lseto s1.T o.dst eff.val, hseto s1.H eff.wr, s1.D⟩ [] fun s3 _ => Q .normal s3) : AWP P w0 r X (.region id ops.toArray false) s Q := by
  intro a w ⟨ex, hex, hs⟩
  have e : ops = ops.take n ++ o :: post := by rw [← e', List.take_append_drop]
  generalize ops.take n = pre at *
  have hpre : ∀ k, pre[k]? = ops.toArray[0 + k]? ∨ pre.length ≤ k := fun k => by
    rcases Nat.lt_or_ge k pre.length with h | h
    · left; simp [e, List.getElem?_append_left h]
    · exact .inr h
  have hat : ops.toArray[pre.length]? = some o := by simp [e]
  refine wpIn_region ?_
  have hrange : List.range ops.toArray.size = List.range' 0 pre.length ++ (pre.length :: List.range' (pre.length + 1) post.length) := by
    rw [List.range_eq_range', show ops.toArray.size = pre.length + (post.length + 1) by simp [e], ← List.range'_append_1, List.range'_succ]
    simp
  rw [hrange]
  obtain ⟨es, s1, ht, hl, hk⟩ := ev_trace (w0 := w0) (r := r) (all := ops.toArray) pre 0 s [] _ (fun k hk => (hpre k).resolve_right (by omega)) h
  have e1 : es.length = (es.map lift).length := by simp
  rw [← hl, e1]
  obtain ⟨hg, hok, hev⟩ := hk
  obtain ⟨es2, s3, ht2, hl2, hk2⟩ := ev_trace (w0 := w0) (r := r) (all := ops.toArray) post (pre.length + 1) _ [] _ (fun k _ => by simp [e, List.getElem?_append_right (show pre.length ≤ pre.length + 1 + k by omega), show pre.length + 1 + k - pre.length = k + 1 by omega]) hev
  have tr : Trace2 P w0 r ops.toArray pre.length s1.f (lift eff :: es2.map lift) s3.f := by
    refine .run hat hg hok.lift ?_
    have h9 := ht2.two
    have e9 : (⟨lseto s1.T o.dst eff.val, hseto s1.H eff.wr, s1.D⟩ : St).f = ⟨lseto s1.T o.dst (lift eff).val, updl (hget s1.H) (lift eff).wr, s1.D⟩ := by
      simp only [St.f, lift_upd]
      rfl
    rw [e9] at h9
    exact h9
  refine trace_seq3 (Z := X.Z) (mz := X.mz) (wz := X.wz) ht.two ?_ a w hs
  rintro a1 w1 hs1
  have := trace_seq2 (Z := X.Z) (mz := X.mz) (wz := X.wz) (Q := fun e a' w' => ∃ s', Q e s' ∧ SatC w0 X s' a' w') tr (fun a w hs => ⟨s3, hk2, ex, hex, hs⟩) a1 w1 hs1
  rw [List.length_map, hl]
  simpa [hl2, List.range'_succ] using this
def segE (P : Program) (w0 : World) (r : Option Nat) (all : Array Oper) : List (Nat × Option E × List Nat) → List Oper → St → List Ef → (St → List Ef → Prop) → Prop
  | [], ops, s, tr, K => evOps P all ops s [] fun s' es => K s' (tr ++ es.map lift)
  | (n, none, W) :: l, ops, s, tr, K => evOps P all (ops.take n) s [] fun s1 es => (match ops.drop n with
    | o :: post => ownD P all o W s1 fun s2 ef => segE P w0 r all l post s2 (tr ++ es.map lift ++ [ef]) K
    | [] => False)
  | (n, some eff, _) :: l, ops, s, tr, K => evOps P all (ops.take n) s [] fun s1 es => (match ops.drop n with
    | o :: post => guardOf all s1.T o = some true ∧ OpOK P w0 r o (aev s1.T) (hget s1.H) eff ∧ segE P w0 r all l post ⟨lseto s1.T o.dst eff.val, hseto s1.H eff.wr, s1.D⟩ (tr ++ es.map lift ++ [lift eff]) K
    | [] => False)
theorem segE_trace {all : Array Oper} : ∀ (l : List (Nat × Option E × List Nat)) (ops : List Oper) (i : Nat) (s : St) (tr : List Ef) (K : St → List Ef → Prop), (∀ k, k < ops.length → ops[k]? = all[i + k]?) → segE P w0 r all l ops s tr K →
    ∃ es s', Trace2 P w0 r all i s.f es s'.f ∧ es.length = ops.length ∧ K s' (tr ++ es)
  | [], ops, i, s, tr, K, hos, h => by
    obtain ⟨es, s', h1, h2, h3⟩ := ev_trace (w0 := w0) (r := r) ops i s [] _ hos h
    exact ⟨es.map lift, s', h1.two, by simpa using h2, by simpa using h3⟩
  | (n, x, W) :: l, ops, i, s, tr, K, hos, h => by
    have h0 : evOps P all (ops.take n) s [] fun s1 es => (match ops.drop n with
        | o :: post => (match x with
          | none => ownD P all o W s1 fun s2 ef => segE P w0 r all l post s2 (tr ++ es.map lift ++ [ef]) K
          | some eff => guardOf all s1.T o = some true ∧ OpOK P w0 r o (aev s1.T) (hget s1.H) eff ∧ segE P w0 r all l post ⟨lseto s1.T o.dst eff.val, hseto s1.H eff.wr, s1.D⟩ (tr ++ es.map lift ++ [lift eff]) K)
        | [] => False) := by
      cases x <;> exact h
    obtain ⟨es, s1, h1, h2, h3⟩ := ev_trace (w0 := w0) (r := r) (ops.take n) i s [] _ (fun k hk => by
      have hk' : k < n ∧ k < ops.length := by simpa [Nat.lt_min] using hk
      rw [List.getElem?_take_of_lt hk'.1]; exact hos k hk'.2) h0
    simp only [List.nil_append] at h3
    cases hd : ops.drop n with
    | nil => rw [hd] at h3; exact h3.elim
    | cons o post =>
      rw [hd] at h3
      have hn : n < ops.length := by
        rcases Nat.lt_or_ge n ops.length with h4 | h4
        · exact h4
        · rw [List.drop_eq_nil_of_le h4] at hd; cases hd
      have hl2 : es.length = n := by rw [h2, List.length_take]; omega
      have hlen : ops.length = n + (1 + post.length) := by
        have := congrArg List.length hd
        simp at this; omega
      have hget : ∀ k, (o :: post)[k]? = ops[n + k]? := fun k => by rw [← hd, List.getElem?_drop]
      have ho : all[i + n]? = some o := by rw [← hos n hn, ← Nat.add_zero n, ← hget 0]; rfl
      have hpost : ∀ k, k < post.length → post[k]? = all[i + n + 1 + k]? := fun k hk => by
        have := hget (k + 1)
        simp only [List.getElem?_cons_succ] at this
        rw [this, hos (n + (k + 1)) (by omega)]; congr 1; omega
      have ht1 : Trace2 P w0 r all i s.f (es.map lift) s1.f := h1.two
      cases x with
      | some eff =>
        obtain ⟨hg, hok, h3⟩ := h3
        obtain ⟨fs, s', q1, q2, q3⟩ := segE_trace l post (i + n + 1) _ _ K hpost h3
        refine ⟨es.map lift ++ (lift eff :: fs), s', ht1.app ?_, ?_, by simpa using q3⟩
        · rw [List.length_map, hl2]
          refine .run ho hg hok.lift ?_
          have e9 : (⟨lseto s1.T o.dst eff.val, hseto s1.H eff.wr, s1.D⟩ : St).f = ⟨lseto s1.T o.dst (lift eff).val, updl (Go.Am.hget s1.H) (lift eff).wr, s1.D⟩ := by
            simp only [St.f, lift_upd]
            rfl
          rw [e9] at q1
          exact q1
        · simp [hl2, q2, hlen]; omega
      | none =>
        replace h3 : ownD P all o W s1 fun s2 ef => segE P w0 r all l post s2 (tr ++ es.map lift ++ [ef]) K := h3
        unfold ownD at h3
        split at h3
        · rename_i hg
          split at h3
          · rename_i f args ts hop
            obtain ⟨y, H', hsem, hf, h3⟩ := h3
            obtain ⟨fs, s', q1, q2, q3⟩ := segE_trace l post (i + n + 1) _ _ K hpost h3
            refine ⟨es.map lift ++ (⟨y, [], wlog H' W, true⟩ :: fs), s', ht1.app ?_, ?_, by simpa using q3⟩
            · rw [List.length_map, hl2]
              refine .run ho hg (call_ok hop hf hsem) ?_
              have hu := wlog_upd hf
              simp only [St.f] at q1 ⊢
              rw [← hu]
              exact q1
            · simp [hl2, q2, hlen]; omega
          · exact h3.elim
        · rename_i hg
          obtain ⟨fs, s', q1, q2, q3⟩ := segE_trace l post (i + n + 1) _ _ K hpost h3
          refine ⟨es.map lift ++ (⟨.tup [], [], [], false⟩ :: fs), s', ht1.app ?_, ?_, by simpa using q3⟩
          · rw [List.length_map, hl2]
            exact .skip ho hg q1
          · simp [hl2, q2, hlen]; omega
        · exact h3.elim
theorem awp_drawsE (l : List (Nat × Option E × List Nat)) {id : Nat} {ops : List Oper} (hm : P.follows .mixedOrders = true) (hc : regOK ops.toArray = true) (h : segE P w0 r ops.toArray l ops s [] fun s' es => heapOK2 ops.toArray es = true ∧ Q .normal s') :
    AWP P w0 r X (.region id ops.toArray true) s Q := by
  intro a w ⟨ex, hex, hs⟩
  obtain ⟨es, s', ht, hl, hk⟩ := segE_trace (w0 := w0) (r := r) l ops 0 s [] _ (fun k _ => by simp) h
  simp only [List.nil_append] at hk
  exact draw_sound2 (Z := X.Z) (mz := X.mz) (wz := X.wz) hm ht (by simpa using hl) hc hk.1 (fun a w hs => ⟨s', hk.2, ex, hex, hs⟩) a w hs
end
section
variable {P : Program} {w0 : World} {r : Option Nat} {all : Array Oper} {T : List AV} {H : List (Option ABlk)} {D W : List Nat} {K2 : St → List Ef → Prop} {s : St} {tr : List Ef} {ops : List Oper}
theorem se_nil : segE P w0 r all [] ops s tr K2 = evOps P all ops s [] fun s' es => K2 s' (tr ++ es.map lift) := rfl
theorem se_own {n : Nat} {l : List (Nat × Option E × List Nat)} : segE P w0 r all ((n, none, W) :: l) ops s tr K2 = evOps P all (ops.take n) s [] fun s1 es => (match ops.drop n with
    | o :: post => ownD P all o W s1 fun s2 ef => segE P w0 r all l post s2 (tr ++ es.map lift ++ [ef]) K2
    | [] => False) := rfl
theorem se_op {n : Nat} {eff : E} {l : List (Nat × Option E × List Nat)} : segE P w0 r all ((n, some eff, W) :: l) ops s tr K2 = evOps P all (ops.take n) s [] fun s1 es => (match ops.drop n with
    | o :: post => guardOf all s1.T o = some true ∧ OpOK P w0 r o (aev s1.T) (hget s1.H) eff ∧ segE P w0 r all l post ⟨lseto s1.T o.dst eff.val, hseto s1.H eff.wr, s1.D⟩ (tr ++ es.map lift ++ [lift eff]) K2
    | [] => False) := rfl
end
end Go.Am
namespace Go.Am
open Go.RowKit
set_option linter.unusedSimpArgs false
set_option linter.unusedVariables false
section
variable [B : Base] {P : Program} {w0 : World} {r : Option Nat} {X : Ctx} {s : St} {Q : Exit → St → Prop}
theorem SatC.renum {a : Act} {w : World} (σ : Nat → Nat) (hσ : ∀ i, σ (σ i) = i) {T' : List AV} {H' : List (Option ABlk)} (hs : SatC w0 X s a w) (hD : s.D = []) (hX : ∀ c, X.Z c = none) (hT : renL σ s.T = T') (hH : ∀ i, hget H' i = (hget s.H (σ i)).map (renB σ)) :
    SatC w0 X ⟨T', H', []⟩ a w := by
  subst hT
  obtain ⟨hid, hhid, m, hs, hx⟩ := hs
  let m' : Nat → Option Loc := fun i => m (σ i)
  have hm : ∀ b, m' (σ b) = m b := fun b => by simp only [m', hσ]
  have hg : ∀ b k, hget s.H b = some k → hget H' (σ b) = some (renB σ k) := fun b k hk => by rw [hH, hσ, hk]; rfl
  have hmv : ∀ b k, hget s.H b = some k → Moves (hget s.H) m (hget H') m' b (σ b) := fun b k hk => by
    refine ⟨fun t sz g xs e => ?_, fun es e => ?_, fun k' e hr => ?_⟩
    · exact ⟨_, hg _ _ e, hm b⟩
    · exact ⟨⟨_, hg _ _ e⟩, hm b⟩
    · exact ⟨⟨_, hg _ _ e, by rw [renB_rec]; exact hr⟩, hm b⟩
  have hok : ∀ c, Ok m w c → Ok m' w c := fun c hc => ⟨hc.1, fun b l hl => hc.2.1 (σ b) l hl, hc.2.2⟩
  have hun : ∀ c, Un m w c → Un m' w c := fun c hc => ⟨hc.1, fun b l hl => hc.2 (σ b) l hl⟩
  have hback : ∀ b k, hget H' b = some k → ∃ k0, hget s.H (σ b) = some k0 ∧ k = renB σ k0 := fun b k hk => by
    rw [hH] at hk
    cases h0 : hget s.H (σ b) with
    | none => rw [h0] at hk; cases hk
    | some k0 => rw [h0] at hk; cases hk; exact ⟨k0, rfl, rfl⟩
  have g := hs.good
  refine ⟨hid, hhid, m', ⟨⟨g.below, fun b l hl => g.base (σ b) l hl, fun b b' l l' h1 h2 e => ?_, fun b l hl => ?_, fun b k hk => ?_, fun b st pend fn T ps asg body d hk => ?_, fun c hc => ?_⟩, ?_, fun j hj => ?_, ?_, ?_⟩, ?_⟩
  · have := g.inj (σ b) (σ b') l l' h1 h2 e
    have h3 := congrArg σ this
    rwa [hσ, hσ] at h3
  · obtain ⟨k, hk⟩ := g.supp (σ b) l hl
    have := hg _ _ hk
    rw [hσ] at this
    exact ⟨_, this⟩
  · obtain ⟨k0, h0, rfl⟩ := hback b k hk
    have := brep_ren B B σ (g.blk _ _ h0) hok hmv hm
    rwa [hσ] at this
  · obtain ⟨k0, h0, e⟩ := hback b _ hk
    cases k0 <;> simp only [renB, reduceCtorEq, ABlk.loop.injEq] at e
    obtain ⟨rfl, rfl, rfl, rfl, rfl, rfl, rfl, rfl⟩ := e
    obtain ⟨o, ho⟩ := g.dloop _ _ _ _ _ _ _ _ _ h0
    exact ⟨o, hg _ _ ho⟩
  · rcases hc with ⟨b, l, hl, e⟩ | hc
    · exact g.fresh c (.inl ⟨σ b, l, hl, e⟩)
    · exact g.fresh c (.inr hc)
  · rw [hs.size]; exact (renL_length σ _).symm
  · have hj' : j < s.T.length := by simpa [renL_length] using hj
    obtain ⟨v, h1, h2⟩ := hs.tmps j hj'
    refine ⟨v, h1, ?_⟩
    have := rep_ren B B σ h2 (fun _ _ => rfl) hok hmv
    have e : lget (renL σ s.T) j = ren σ (lget s.T j) := by
      rw [lget_get, lget_get, List.getElem?_eq_getElem hj', List.getElem?_eq_getElem (by simpa [renL_length] using hj')]
      simp [renL_get]
    simp only
    rw [e]; exact this
  · exact ⟨hs.roots.1, fun c hc => let ⟨b1, b2, b3⟩ := hs.roots.2 c hc; ⟨b1, hun c b2, b3⟩⟩
  · obtain ⟨ls, a1, a2, a3⟩ := hs.marks
    rw [hD] at a1
    have e0 : ls = [] := List.eq_nil_of_length_eq_zero a1
    subst e0
    exact ⟨[], rfl, fun j x => by simp at x, a3⟩
  · refine ⟨fun c hc => ⟨(hx.ok c hc).1, hun c (hx.ok c hc).2⟩, ?_, ?_, ?_, ?_⟩
    · intro c t sz g xs hc; rw [hX c] at hc; cases hc
    · intro c es hc; rw [hX c] at hc; cases hc
    · intro c o hc; rw [hX c] at hc; cases hc
    · intro c st pend fn T ps asg body d hc; rw [hX c] at hc; cases hc
theorem awp_renum (σ : Nat → Nat) (hσ : ∀ i, σ (σ i) = i) {c : Code} {T' : List AV} {H' : List (Option ABlk)} (hD : s.D = []) (hX : ∀ c, X.Z c = none) (hT : renL σ s.T = T') (hH : ∀ i, hget H' i = (hget s.H (σ i)).map (renB σ)) (h : AWP P w0 r X c ⟨T', H', []⟩ Q) : AWP P w0 r X c s Q :=
  fun a w hs => h a w (hs.renum σ hσ hD hX hT hH)
theorem awp_segE (l : List (Nat × Option E × List Nat)) {id : Nat} {ops : List Oper} (h : segE P w0 r ops.toArray l ops s [] fun s' _ => Q .normal s') : AWP P w0 r X (.region id ops.toArray false) s Q := by
  intro a w ⟨ex, hex, hs⟩
  obtain ⟨es, s', ht, hl, hk⟩ := segE_trace l ops 0 s [] _ (fun k _ => by simp) h
  refine wpIn_region ?_
  have := trace_seq2 (Z := X.Z) (mz := X.mz) (wz := X.wz) (Q := fun e a' w' => ∃ s', Q e s' ∧ SatC w0 X s' a' w') ht (fun a w hs => ⟨s', hk, ex, hex, hs⟩) a w hs
  simpa [List.range_eq_range', hl] using this
end
theorem leH_of {p : Nat → Bool} : ∀ {xs ys : List (Option ABlk)}, (∀ b k, hget ys b = some k → hget xs b = some k ∧ blkLive p k = true) → leH p xs ys
  | [], [], _ => trivial
  | _ :: _, [], _ => trivial
  | x :: xs, y :: ys, h => by
    refine ⟨?_, leH_of fun b k hk => h (b + 1) k hk⟩
    cases y with
    | none => trivial
    | some k => exact h 0 k rfl
  | [], y :: ys, h => by
    refine ⟨?_, leH_of fun b k hk => by have := h (b + 1) k hk; simp [hget] at this⟩
    cases y with
    | none => rfl
    | some k => have := h 0 k rfl; simp [hget] at this
theorem frm_new {H : List (Option ABlk)} {k : ABlk} : Frm H (H ++ [some k]) [H.length] := by
  refine ⟨fun b hb => ?_, fun b hb => ?_⟩
  · have hb' : b ≠ H.length := by simpa using hb
    rw [hget_app]
    split
    · have : ∀ i, i ≠ 0 → hget [some k] i = none := fun i hi => by
        cases i with
        | zero => exact absurd rfl hi
        | succ i => simp [hget]
      rw [this _ (by omega)]
      have : ∀ (K : List (Option ABlk)) i, K.length ≤ i → hget K i = none := fun K => by
        induction K with
        | nil => intro i _; simp [hget]
        | cons x K ih =>
          intro i hi
          cases i with
          | zero => simp at hi
          | succ i => exact ih i (by simpa using hi)
      exact (this H b (by assumption)).symm
    · rfl
  · have hb' : b = H.length := by simpa using hb
    subst hb'
    exact ⟨k, by rw [hget_app, if_pos (Nat.le_refl _), Nat.sub_self]; rfl⟩
end Go.Am
namespace Go.Am
open Go.RowKit
set_option linter.unusedSimpArgs false
set_option linter.unusedVariables false
def xcallO (P : Program) (eqt : TypeId → Bool) (pm ent : FuncId → Bool) (orc : Cv) (lf : Nat) : Nat → Cv
  | 0, _, _, _ => none
  | n + 1, f, args, H => match orc f args H with
    | some r => some r
    | none => match f with
    | .fn (.func g) first caps => if ent g = true then (match P.funcs[g]? with
      | some fn => (match fn.body with
        | some c => (match xcode P eqt pm (xcallO P eqt pm ent orc lf n) lf false c ⟨initT (first ++ args ++ caps) fn.ntmps, H, []⟩ with
          | some (.normal, s', W) => (match shutX s'.D s'.H with
            | some H2 => (match resX P ⟨s'.T, H2, []⟩ fn.results.toList with
              | some vs => some (finAV vs, H2, s'.D ++ W)
              | none => none)
            | none => none)
          | some (.ret, s', W) => (match shutX s'.D s'.H with
            | some H2 => (match resX P ⟨s'.T, H2, []⟩ fn.results.toList with
              | some vs => some (finAV vs, H2, s'.D ++ W)
              | none => none)
            | none => none)
          | _ => none)
        | none => none)
      | none => none) else none
    | .fn (.yield b) [] [] => (match hget H b with
      | some (.loop .ready none fn T ps asg body d) => (match putArgs ps.toList args T with
        | some T1 => (match xcode P eqt pm (xcallO P eqt pm ent orc lf n) lf true asg ⟨T1, H, []⟩ with
          | some (.normal, s1, W1) => (match hget s1.H b with
            | some (.loop .ready none fn T ps asg body d) => (match xcode P eqt pm (xcallO P eqt pm ent orc lf n) lf true body ⟨s1.T, hset s1.H b (.loop .busy none fn T ps asg body d), s1.D⟩ with
              | some (.normal, s2, W2) => (match hget s2.H b with
                | some (.loop .busy none fn T ps asg body d) => some (.bool true, hset s2.H b (.loop .ready none fn T ps asg body d), b :: (W1 ++ W2))
                | _ => none)
              | some (.ret, s2, W2) => (match hget s2.H b with
                | some (.loop .busy none fn T ps asg body d) => some (.bool false, hset s2.H b (.loop .done (some .ret) fn T ps asg body d), b :: (W1 ++ W2))
                | _ => none)
              | some (.exit id, s2, W2) => (match hget s2.H b with
                | some (.loop .busy none fn T ps asg body d) => some (.bool false, hset s2.H b (.loop .done (some (.exit id)) fn T ps asg body d), b :: (W1 ++ W2))
                | _ => none)
              | _ => none)
            | _ => none)
          | _ => none)
        | none => none)
      | _ => none)
    | _ => none
section
variable {P : Program} {eqt : TypeId → Bool} {pm ent : FuncId → Bool} {lf : Nat}
theorem xcallO_sound {orc : Cv} (horc : CvOK P orc) (he : ∀ t, eqt t = true → EqOK P t) (hen : ∀ g, ent g = true → Enters P g) (hmx : P.follows .mixedOrders = true) : ∀ n, CvOK P (xcallO P eqt pm ent orc lf n) := by
  intro n
  induction n with
  | zero => intro fv ax0 H r H' W hx; simp [xcallO] at hx
  | succ n ih =>
    have hcode := fun rd => xcode_sound (rd := rd) (lf := lf) (pm := pm) he hmx ih
    intro fv ax0 H r H' W hx
    simp only [xcallO] at hx
    cases ho : orc fv ax0 H with
    | some q =>
      rw [ho] at hx
      exact horc fv ax0 H r H' W (by rw [ho]; exact hx)
    | none =>
    simp only [ho] at hx
    split at hx
    · rename_i g first caps
      split at hx
      · rename_i hent
        split at hx
        · rename_i fn hfn
          split at hx
          · rename_i c hbody
            have key : ∀ (ex : Exit) (s' : St) (W' : List Nat), (ex = .normal ∨ ex = .ret) → xcode P eqt pm (xcallO P eqt pm ent orc lf n) lf false c ⟨initT (first ++ ax0 ++ caps) fn.ntmps, H, []⟩ = some (ex, s', W') →
                (match shutX s'.D s'.H with
                  | some H2 => (match resX P ⟨s'.T, H2, []⟩ fn.results.toList with
                    | some vs => some (finAV vs, H2, s'.D ++ W')
                    | none => none)
                  | none => none) = some (r, H', W) → Frm H H' W ∧ Sem P (.fn (.func g) first caps) ax0 H r H' := by
              intro exx s' W' hex hc hx
              split at hx
              · rename_i H2 hsh
                split at hx
                · rename_i vs hvs
                  cases hx
                  obtain ⟨f1, x1⟩ := hcode false c _ _ _ _ hc
                  refine ⟨(f1.trans (shutX_frm _ hsh)).congr (fun b => by simp [or_comm]), hen g hent, fun w0 m w us hg hlen hrep => ?_⟩
                  refine callsIn_of_wp_marks hfn hbody trivial ?_
                  have hsat : SatM w0 [] (lget (initT (first ++ ax0 ++ caps) fn.ntmps)) (initT (first ++ ax0 ++ caps) fn.ntmps).length (hget H) [] m { tmps := us.toArray ++ Array.replicate (fn.ntmps - us.toArray.size) undef, defers := [] } w := by
                    refine ⟨hg, ?_, fun j hj => ?_, HidR.nil, [], rfl, fun j a => by simp at a, rfl⟩
                    · simp only [initT, List.length_append, junks_length, Array.size_append, List.size_toArray, Array.size_replicate] at hlen ⊢
                      omega
                    · simp only [initT, List.length_append, junks_length] at hj
                      rw [initT, lget_append]
                      by_cases hj' : j < (first ++ ax0 ++ caps).length
                      · refine ⟨us[j], ?_, ?_⟩
                        · rw [Array.getElem?_append_left (by simpa using (by omega : j < us.length))]; simp
                        · rw [dif_pos hj']
                          exact hrep j hj' (by omega)
                      · refine ⟨undef, ?_, ?_⟩
                        · rw [Array.getElem?_append_right (by simpa using (by omega : us.length ≤ j))]
                          rw [Array.getElem?_replicate, if_pos (by simp only [List.length_append] at hj' hlen; simp; omega)]
                        · rw [dif_neg hj', lget_junks]; exact .junk _
                  refine wpIn_mono (x1 w0 none [] m _ w (fun _ => rfl) hsat) ?_
                  rintro e' a' w' ⟨rfl, m', hs', ex'⟩
                  have := leavesX (P := P) (w0 := w0) (fn := fn) hvs (RR := fun e w' => ∃ v m', e = .returned v ∧ Good w0 (hget H') m' w' ∧ Ext (hget H) m w (hget H') m' w' ∧ Rep (hget H') m' w' (finAV vs) v) (fun v w' m' a b c => ⟨v, m', rfl, a, b, c⟩) s'.D s'.H a' w' m' hsh hs' ex'
                  rcases hex with rfl | rfl
                  · exact this
                  · exact this
                · cases hx
              · cases hx
            split at hx
            · rename_i s' W' hc; exact key _ s' W' (.inl rfl) hc hx
            · rename_i s' W' hc; exact key _ s' W' (.inr rfl) hc hx
            · cases hx
          · cases hx
        · cases hx
      · cases hx
    · rename_i b
      split at hx
      · rename_i fn T ps asg body d hb
        split at hx
        · rename_i T1 hT1
          split at hx
          · rename_i s1 W1 hc1
            obtain ⟨f1, x1⟩ := hcode true asg _ _ _ _ hc1
            split at hx
            · rename_i fn' T' ps' asg' body' d' hb1
              have key : ∀ (e2 : Exit) (s2 : St) (W2 : List Nat) (jump : Option Code) (fn2 : FuncId) (T2 : List AV) (ps2 : Array Tmp) (asg2 body2 : Code) (d2 : Nat), xcode P eqt pm (xcallO P eqt pm ent orc lf n) lf true body' ⟨s1.T, hset s1.H b (.loop .busy none fn' T' ps' asg' body' d'), s1.D⟩ = some (e2, s2, W2) →
                  hget s2.H b = some (.loop .busy none fn2 T2 ps2 asg2 body2 d2) → (∀ l R a w, (∃ v w', (Instr.endRound l jump).run P w = .ok v w' ∧ R (.returned v) w') → roundPost P l R e2 a w) →
                  Frm H (hset s2.H b (.loop (if jump.isNone then .ready else .done) jump fn2 T2 ps2 asg2 body2 d2)) (b :: (W1 ++ W2)) ∧ SemY P b ax0 H (.bool jump.isNone) (hset s2.H b (.loop (if jump.isNone then .ready else .done) jump fn2 T2 ps2 asg2 body2 d2)) := by
                intro e2 s2 W2 jump fn2 T2 ps2 asg2 body2 d2 hc2 hb2 hpost
                obtain ⟨f2, x2⟩ := hcode true body' _ _ _ _ hc2
                refine ⟨(((f1.trans (Frm.set _ b _)).trans f2).trans (Frm.set _ b _)).congr (fun c => ?_), ?_⟩
                · simp only [List.mem_append, List.mem_cons, List.not_mem_nil, or_false]
                  constructor
                  · rintro (((h | h) | h) | h) <;> simp [h]
                  · rintro (h | h | h) <;> simp [h]
                · intro _ w0 m w us l hg hl hlen hrep
                  obtain ⟨rec, k1, k2, k3, k4, k5, k6, k7, k8, _, _⟩ := rec_same hg hb hl .ready none
                  obtain ⟨p1, p2, p3, p4⟩ := putArgs_sound ps.toList ax0 T T1 us rec.tmps hT1 hlen hrep k7 (fun j hj => by
                    obtain ⟨v, hv, hr⟩ := k8 j hj
                    refine ⟨v, hv, ?_⟩
                    rw [lget_get, List.getElem?_eq_getElem hj]; exact hr)
                  have hy := run_yield (P := P) (args := us.toArray) k1 (by rw [k4]; simpa using p1.symm)
                  have hfold : (rec.params.zip us.toArray).foldl (fun tmps (t, a) => tmps.setIfInBounds t a) rec.tmps = (ps.toList.zip us).foldl (fun t p => t.setIfInBounds p.1 p.2) rec.tmps := by
                    rw [k4, ← Array.foldl_toList, Array.toList_zip]
                  refine ⟨_, _, _, _, hy, roundIn_of_wpIn trivial ?_⟩
                  rw [hfold, k5]
                  have hsat : SatM w0 [] (lget T1) T1.length (hget H) [] m { tmps := (ps.toList.zip us).foldl (fun t p => t.setIfInBounds p.1 p.2) rec.tmps, defers := [] } w :=
                    ⟨hg, by rw [p2]; exact p3, fun j hj => p4 j (by rw [← p2]; exact hj), HidR.nil, [], rfl, fun j a => by simp at a, rfl⟩
                  refine wpIn_mono (x1 w0 (some l.c) [] m _ w (by simp) hsat) ?_
                  rintro e' a1 w1 ⟨rfl, m1, hs1, ex1⟩
                  have hl1 : m1 b = some l := by rw [(ex1.loop _ _ _ _ _ _ _ _ _ hb).2]; exact hl
                  obtain ⟨rec1, q1, q2, q3, _, _, q6, _, _, g2, e2x⟩ := rec_same hs1.good hb1 hl1 .busy none
                  rw [← hget_upd] at g2 e2x
                  have hbr := run_beginRound (P := P) q1 q2
                  rw [q3] at hbr
                  have hbody : rec.body = body' := by
                    have h5 : ∃ st' pend', hget s1.H b = some (.loop st' pend' fn T ps asg body d) := (ex1.loop _ _ _ _ _ _ _ _ _ hb).1
                    obtain ⟨st', pend', h5⟩ := h5
                    rw [hb1] at h5
                    cases h5
                    exact k6
                  refine ⟨_, hbr, ?_⟩
                  rw [hbody]
                  have hs2 : SatM w0 [] (lget s1.T) s1.T.length (hget (hset s1.H b (.loop .busy none fn' T' ps' asg' body' d'))) s1.D _ a1 _ := hs1.move g2 e2x
                  refine wpIn_mono (x2 w0 (some l.c) [] _ a1 _ (by simp) hs2) ?_
                  rintro e3 a3 w3 ⟨rfl, m3, hs3, ex3⟩
                  have hl3 : m3 b = some l := by
                    rw [(ex3.loop _ _ _ _ _ _ _ _ _ (by rw [hget_upd, upd_same])).2, upd_same]
                  obtain ⟨v, w4, r1, v', m4, r2, r3, r4, r5⟩ := round_end (P := P) hs3.good ((ex1.trans e2x).trans ex3) hl3 hb2 jump _ rfl
                  exact hpost _ _ _ _ ⟨v, w4, r1, v', m4, r2, r3, r4, r5⟩
              split at hx
              · rename_i s2 W2 hc2
                split at hx
                · rename_i hb2
                  cases hx
                  exact key _ _ _ none _ _ _ _ _ _ hc2 hb2 (fun l R a w h => h)
                · cases hx
              · rename_i s2 W2 hc2
                split at hx
                · rename_i hb2
                  cases hx
                  exact key _ _ _ (some .ret) _ _ _ _ _ _ hc2 hb2 (fun l R a w h => h)
                · cases hx
              · rename_i id s2 W2 hc2
                split at hx
                · rename_i hb2
                  cases hx
                  exact key _ _ _ (some (.exit id)) _ _ _ _ _ _ hc2 hb2 (fun l R a w h => h)
                · cases hx
              · cases hx
            · cases hx
          · cases hx
        · cases hx
      · cases hx
    · cases hx
theorem callS_runO {orc : Cv} (horc : CvOK P orc) (he : ∀ t, eqt t = true → EqOK P t) (hen : ∀ g, ent g = true → Enters P g) (hmx : P.follows .mixedOrders = true) {n : Nat} {g : FuncId} {ax0 : List AV} {y : AV} (h : pcallX (xcallO P eqt pm ent orc lf n) g ax0 = some y) : CallS P g ax0 y := by
  unfold pcallX at h
  split at h
  · rename_i r H' W hc
    obtain ⟨_, hs⟩ := xcallO_sound horc he hen hmx n _ _ _ _ _ _ hc
    exact callS_of_semF (by simpa [Sem] using hs) h
  · cases h
theorem semF_of_callS {g : FuncId} {xs : List AV} {r : AV} (h : CallS P g xs r) (hp : ∀ x ∈ xs, pureA x = true) : SemF P g xs [] r [] := by
  refine ⟨h.1, fun {B} w0 m w vs hg hlen hrep => ?_⟩
  refine (h.2 w vs (Ok m w) (fun c hc => hc.1) hlen (fun j a b => pure_prep (hrep j a b) (hp _ (List.getElem_mem _)))).mono ?_
  rintro e w' ⟨v, rfl, hv, hb⟩
  obtain ⟨g1, e1⟩ := hg.garbage hb
  refine ⟨v, m, rfl, g1, e1, .pure (hv.mono (fun _ _ => rfl) (fun c hc => ?_))⟩
  rcases hc with hc | hc
  · exact ⟨Nat.lt_of_lt_of_le hc.1 hb.size, hc.2⟩
  · refine ⟨hc.2, fun b l hl he => ?_, hg.fresh _ (.inr hc.1)⟩
    have := hg.lt hl
    omega
end
end Go.Am
namespace Go.Am
open Go.RowKit
set_option linter.unusedSimpArgs false
set_option linter.unusedVariables false
theorem semF_take {P : Program} {f : FuncId} {ars : List AV} {t : TypeId} {sz g : Nat} {xs : List AV} {r : AV} (h : CallS P f (fzl (fz2 0 g xs) ars) r) (hp : ∀ y ∈ xs, cellPure y = true) (hpu : ∀ x ∈ fzl (fz2 0 g xs) ars, pureA x = true) :
    SemF P f ars [some (.cells t sz g xs)] r [some (.cells t sz (g + 1) [])] := by
  refine ⟨h.1, fun {B} w0 m w vs hg hlen hrep => ?_⟩
  have hz : ∀ c, hget [none] c = none := fun c => by cases c <;> rfl
  have z : FzH (hget [some (.cells t sz g xs)]) (hget [none]) 0 g xs := ⟨rfl, fun c hc => by
    cases c with
    | zero => exact absurd rfl hc
    | succ c => rfl⟩
  have hg1 := good_frz hg z rfl hp
  have hm1 : ∀ b, killM m (notb 0) b = none := fun b => by
    cases hb : killM m (notb 0) b with
    | none => rfl
    | some l =>
      obtain ⟨k, hk⟩ := hg1.supp b l hb
      rw [hz] at hk; cases hk
  have har : ∀ j (a : j < (fzl (fz2 0 g xs) ars).length) (b : j < vs.length), PRep (Ok (killM m (notb 0)) w) w (fzl (fz2 0 g xs) ars)[j] vs[j] := fun j a b => by
    have a' : j < ars.length := by rw [fzl_len] at a; exact a
    have h1 := rep_fz2 hg z rfl hp (hrep j a' b)
    rw [← fzl_get (fz2 0 g xs) ars j a] at h1
    exact pure_prep h1 (hpu _ (List.getElem_mem _))
  refine (h.2 w vs (Ok (killM m (notb 0)) w) (fun c hc => hc.1) (by rw [fzl_len]; exact hlen) har).mono ?_
  rintro e w' ⟨v, rfl, hv, hb⟩
  obtain ⟨g1, e1⟩ := hg1.garbage hb
  refine ⟨v, killM m (notb 0), rfl, ⟨g1.below, g1.base, g1.inj, (fun b l hl => by rw [hm1] at hl; cases hl), fun b k hk => ?_, fun b st pend fn T ps asg body d hk => ?_, g1.fresh⟩, ⟨fun c hc => ?_, fun b t' sz' g' ys hk => ?_, fun b es hk => ?_, fun b o hk => ?_, fun b st pend fn T ps asg body d hk => ?_⟩, .pure (hv.mono (fun _ _ => rfl) (fun c hc => ?_))⟩
  · cases b with
    | zero =>
      have : k = .cells t sz (g + 1) [] := (Option.some.inj hk).symm
      subst this
      exact .inl ⟨hm1 0, rfl⟩
    | succ b => cases hk
  · cases b with
    | zero => cases hk
    | succ b => cases hk
  · exact e1.ok c (un_kill hc)
  · cases b with
    | zero =>
      cases hk
      exact ⟨g + 1, [], rfl, by omega, fun e => absurd e (by omega)⟩
    | succ b => cases hk
  · cases b with
    | zero => cases hk
    | succ b => cases hk
  · cases b with
    | zero => cases hk
    | succ b => cases hk
  · cases b with
    | zero => cases hk
    | succ b => cases hk
  · rcases hc with hc | hc
    · exact ⟨Nat.lt_of_lt_of_le hc.1 hb.size, hc.2⟩
    · refine ⟨hc.2, fun b l hl he => ?_, hg1.fresh _ (.inr hc.1)⟩
      rw [hm1] at hl; cases hl
end Go.Am
