/- The abstract machine Am, part T: a block that is changed no more (freeze); nil as a list of one's own (adopt). -/
import Derived.Test.YtnjommobapmgbaaAmS
namespace Go.Am
open Go.RowKit

/-- What stands for a value when the block b is changed no more. -/
def fz0 (b g : Nat) (xs : List AV) : AV → AV
  | .ptr b' g' off => if b' = b then (if g' = g then .pptr xs off else .junk) else .ptr b' g' off
  | .osl b' g' off len => if b' = b then (if g' = g then (if off = 0 then .psl false len xs else .junk) else .junk) else .osl b' g' off len
  | .fn (.func f) [] [] => .fn (.func f) [] []
  | .fn _ _ _ => .junk
  | .agg _ => .junk
  | .tup _ => .junk
  | .map b' => if b' = b then .junk else .map b'
  | x => x
/-- A cell must not be forgotten. -/
def fzOK : AV → Bool
  | .junk => false
  | _ => true
def fzl (f : AV → AV) : List AV → List AV
  | [] => []
  | x :: xs => f x :: fzl f xs
def fz1 (b g : Nat) (xs : List AV) : AV → AV
  | .agg ys => .agg (fzl (fz0 b g xs) ys)
  | .fn (.func f) us vs => .fn (.func f) (fzl (fz0 b g xs) us) (fzl (fz0 b g xs) vs)
  | .fn (.yield c) [] [] => if c = b then .junk else .fn (.yield c) [] []
  | x => fz0 b g xs x
def fz2 (b g : Nat) (xs : List AV) : AV → AV
  | .agg ys => .agg (fzl (fz1 b g xs) ys)
  | .tup ys => .tup (fzl (fz1 b g xs) ys)
  | .fn (.func f) us vs => .fn (.func f) (fzl (fz1 b g xs) us) (fzl (fz1 b g xs) vs)
  | x => fz1 b g xs x
def fzB (b g : Nat) (xs : List AV) : ABlk → ABlk
  | .cells t sz g' ys => .cells t sz g' (fzl (fz2 b g xs) ys)
  | .map es => .map (es.map fun e => (fz2 b g xs e.1, fz2 b g xs e.2))
  | .dfr o => .dfr o
  | .loop st pend fn T ps asg body d => .loop st pend fn (fzl (fz2 b g xs) T) ps asg body d
def fzO (b g : Nat) (xs : List AV) : Option ABlk → Option ABlk
  | none => none
  | some k => some (fzB b g xs k)
def fzHs (b g : Nat) (xs : List AV) : List (Option ABlk) → List (Option ABlk)
  | [] => []
  | k :: l => fzO b g xs k :: fzHs b g xs l
/-- i: how far b still is. -/
def fzH (b g : Nat) (xs : List AV) : Nat → List (Option ABlk) → List (Option ABlk)
  | _, [] => []
  | 0, _ :: l => none :: fzHs b g xs l
  | i + 1, k :: l => fzO b g xs k :: fzH b g xs i l
def frz (b g : Nat) (xs : List AV) (s : St) : St := ⟨fzl (fz2 b g xs) s.T, fzH b g xs b s.H, s.D⟩

theorem fzl_len (f : AV → AV) : ∀ l : List AV, (fzl f l).length = l.length
  | [] => rfl
  | _ :: l => by simp [fzl, fzl_len f l]
theorem fzl_get (f : AV → AV) : ∀ (l : List AV) (j : Nat) (h : j < (fzl f l).length) (h' : j < l.length), (fzl f l)[j] = f l[j]
  | [], _, h, _ => by simp [fzl] at h
  | x :: l, 0, _, _ => rfl
  | x :: l, j + 1, h, h' => by simpa [fzl] using fzl_get f l j (by simpa [fzl] using h) (by simpa using h')
theorem fzl_lget {f : AV → AV} (hf : f .junk = .junk) : ∀ (l : List AV) (j : Nat), lget (fzl f l) j = f (lget l j)
  | [], _ => by simp [fzl, lget, hf]
  | x :: l, 0 => rfl
  | x :: l, j + 1 => by simpa [fzl, lget] using fzl_lget hf l j
theorem fzHs_get (b g : Nat) (xs : List AV) : ∀ (l : List (Option ABlk)) (c : Nat), hget (fzHs b g xs l) c = fzO b g xs (hget l c)
  | [], _ => rfl
  | k :: l, 0 => rfl
  | k :: l, c + 1 => by simpa [fzHs, hget] using fzHs_get b g xs l c
theorem fzH_get (b g : Nat) (xs : List AV) : ∀ (i : Nat) (l : List (Option ABlk)) (c : Nat), hget (fzH b g xs i l) c = if c = i then none else fzO b g xs (hget l c)
  | i, [], c => by simp [fzH, hget, fzO]
  | 0, k :: l, 0 => by simp [fzH, hget]
  | 0, k :: l, c + 1 => by simp [fzH, hget, fzHs_get]
  | i + 1, k :: l, 0 => by simp [fzH, hget]
  | i + 1, k :: l, c + 1 => by simp [fzH, hget, fzH_get b g xs i l c]

variable [Base]
section
variable {w0 : World} {h h' : Nat → Option ABlk} {m : Nat → Option Loc} {w : World} {b g : Nat} {t : TypeId} {sz : Nat} {xs : List AV}

def notb (b : Nat) (c : Nat) : Bool := !(c == b)
omit [Base] in
theorem notb_ne {c : Nat} (hc : c ≠ b) : notb b c = true := by simp [notb, hc]
omit [Base] in
theorem notb_self : notb b b = false := by simp [notb]

theorem ok_frz (hg : Good w0 h m w) {l : Loc} (hl : m b = some l) : Ok (killM m (notb b)) w l.c := by
  refine ⟨hg.lt hl, fun b' l' hb' => ?_, hg.fresh _ (hg.base b l hl)⟩
  unfold killM at hb'
  split at hb'
  · rename_i hn
    intro e
    have := hg.inj b' b l' l hb' hl e
    subst this
    rw [notb_self] at hn; cases hn
  · cases hb'

structure FzH (h h' : Nat → Option ABlk) (b g : Nat) (xs : List AV) : Prop where
  self : h' b = none
  other : ∀ c, c ≠ b → h' c = fzO b g xs (h c)

omit [Base] in
theorem FzH.cells {h h' : Nat → Option ABlk} (z : FzH h h' b g xs) {c : Nat} (hc : c ≠ b) {t' : TypeId} {sz' g' : Nat} {ys : List AV} (hb : h c = some (.cells t' sz' g' ys)) : h' c = some (.cells t' sz' g' (fzl (fz2 b g xs) ys)) := by
  rw [z.other c hc, hb]; rfl

theorem rep_fz0 {x : AV} {v : Value} (hg : Good w0 h m w) (z : FzH h h' b g xs) (hb : h b = some (.cells t sz g xs)) (hp : ∀ y ∈ xs, cellPure y = true) (r : Rep h m w x v) : Rep h' (killM m (notb b)) w (fz0 b g xs x) v := by
  have km : ∀ c, c ≠ b → killM m (notb b) c = m c := fun c hc => by simp [killM, notb_ne hc]
  have pure : PRep (Ok m w) w x v → Rep h' (killM m (notb b)) w x v := fun p => .pure (p.mono (fun _ _ => rfl) (fun _ hc => ok_kill hc))
  cases x
  case ptr b' g' off =>
    simp only [fz0]
    split
    · rename_i e; subst e
      split
      · rename_i e; subst e
        obtain ⟨l, hl, rfl⟩ := rep_ptr r hb
        obtain ⟨arr, h1, h2, h3, vs, h4, h5, h6⟩ := blk_cells hg hb hl
        have := PRep.pptr (ok := Ok (killM m (notb b')) w) (w := w) (xs := xs) (i := off) (c := l.c) (o := 0) vs (ok_frz hg hl) h5 (fun j hj => (prep_pure (h6 j hj) (hp _ (List.getElem_mem _))).mono (fun _ _ => rfl) (fun _ hc => ok_kill hc))
        rw [Nat.zero_add] at this
        exact .pure this
      · exact .junk _
    · rename_i hne
      cases r with
      | pure p => cases p
      | ptr hb' hg' ho hv => exact .ptr (z.cells hne hb') hg' ho (fun e => by rw [km _ hne]; exact hv e)
  case osl b' g' off len =>
    simp only [fz0]
    split
    · rename_i e; subst e
      split
      · rename_i e; subst e
        split
        · rename_i e; subst e
          refine .pure (osl_prep hg hb hp r (ok := Ok (killM m (notb b')) w) (fun c hc => ok_kill hc) (fun l hl => ok_frz (b := b') hg hl)).1
        · exact .junk _
      · exact .junk _
    · rename_i hne
      cases r with
      | pure p => cases p
      | osl hb' hg' ho hv => exact .osl (z.cells hne hb') hg' ho (fun e => by rw [km _ hne]; exact hv e)
  case map b' =>
    simp only [fz0]
    split
    · exact .junk _
    · rename_i hne
      cases r with
      | pure p => cases p
      | map hb' hm => exact .map (by rw [z.other _ hne, hb']; rfl) (by rw [km _ hne]; exact hm)
  case fn f us vs =>
    cases f
    case func f =>
      cases us with
      | cons => exact .junk _
      | nil =>
        cases vs with
        | cons => exact .junk _
        | nil =>
          cases r with
          | pure p => exact .pure (p.mono (fun _ _ => rfl) (fun _ hc => ok_kill hc))
          | fn us' vs' hf h1 h2 r1 r2 => exact .fn us' vs' hf h1 h2 (fun j a => by simp at a) (fun j a => by simp at a)
    all_goals exact .junk _
  case agg => exact .junk _
  case tup => exact .junk _
  case junk => exact .junk _
  all_goals exact pure (by cases r with | pure p => exact p)

theorem rep_fz1 {x : AV} {v : Value} (hg : Good w0 h m w) (z : FzH h h' b g xs) (hb : h b = some (.cells t sz g xs)) (hp : ∀ y ∈ xs, cellPure y = true) (r : Rep h m w x v) : Rep h' (killM m (notb b)) w (fz1 b g xs x) v := by
  have lst : ∀ {ys : List AV} {us : List Value}, (∀ j (a : j < ys.length) (c : j < us.length), Rep h m w ys[j] us[j]) → ∀ j (a : j < (fzl (fz0 b g xs) ys).length) (c : j < us.length), Rep h' (killM m (notb b)) w (fzl (fz0 b g xs) ys)[j] us[j] := by
    intro ys us hr j a c
    rw [fzl_get _ _ _ _ (by rw [fzl_len] at a; exact a)]
    exact rep_fz0 hg z hb hp (hr j _ c)
  cases x
  case agg ys =>
    obtain ⟨us, rfl, h1, ho, r1⟩ := rep_agg r
    exact .agg us (by rw [fzl_len]; exact h1) ho (lst r1)
  case fn f us vs =>
    cases f
    case func f =>
      simp only [fz1]
      cases r with
      | pure p => cases p with | fn us' vs' hf h1 h2 r1 r2 => exact .fn us' vs' hf (by rw [fzl_len]; exact h1) (by rw [fzl_len]; exact h2) (lst fun j a c => .pure (r1 j a c)) (lst fun j a c => .pure (r2 j a c))
      | fn us' vs' hf h1 h2 r1 r2 => exact .fn us' vs' hf (by rw [fzl_len]; exact h1) (by rw [fzl_len]; exact h2) (lst r1) (lst r2)
    case yield c =>
      cases us with
      | cons => exact rep_fz0 hg z hb hp r
      | nil =>
        cases vs with
        | cons => exact rep_fz0 hg z hb hp r
        | nil =>
          simp only [fz1]
          split
          · exact .junk _
          · rename_i hne
            cases r with
            | pure p => cases p with | fn us' vs' hf _ _ _ _ => exact absurd rfl (hf c)
            | yld hb' hk hm => exact .yld (by rw [z.other _ hne, hb']; rfl) (by rename_i k _; cases k <;> first | rfl | cases hk) (by simp [killM, notb_ne hne, hm])
            | fn us' vs' hf _ _ _ _ => exact absurd rfl (hf c)
    all_goals exact rep_fz0 hg z hb hp r
  all_goals exact rep_fz0 hg z hb hp r

theorem rep_fz2 {x : AV} {v : Value} (hg : Good w0 h m w) (z : FzH h h' b g xs) (hb : h b = some (.cells t sz g xs)) (hp : ∀ y ∈ xs, cellPure y = true) (r : Rep h m w x v) : Rep h' (killM m (notb b)) w (fz2 b g xs x) v := by
  have lst : ∀ {ys : List AV} {us : List Value}, (∀ j (a : j < ys.length) (c : j < us.length), Rep h m w ys[j] us[j]) → ∀ j (a : j < (fzl (fz1 b g xs) ys).length) (c : j < us.length), Rep h' (killM m (notb b)) w (fzl (fz1 b g xs) ys)[j] us[j] := by
    intro ys us hr j a c
    rw [fzl_get _ _ _ _ (by rw [fzl_len] at a; exact a)]
    exact rep_fz1 hg z hb hp (hr j _ c)
  cases x
  case agg ys =>
    obtain ⟨us, rfl, h1, ho, r1⟩ := rep_agg r
    exact .agg us (by rw [fzl_len]; exact h1) ho (lst r1)
  case tup ys =>
    simp only [fz2]
    cases r with
    | pure p => cases p with | tup us h1 r1 => exact .tup us (by rw [fzl_len]; exact h1) (lst fun j a c => .pure (r1 j a c))
    | tup us h1 r1 => exact .tup us (by rw [fzl_len]; exact h1) (lst r1)
  case fn f us vs =>
    cases f
    case func f =>
      simp only [fz2]
      cases r with
      | pure p => cases p with | fn us' vs' hf h1 h2 r1 r2 => exact .fn us' vs' hf (by rw [fzl_len]; exact h1) (by rw [fzl_len]; exact h2) (lst fun j a c => .pure (r1 j a c)) (lst fun j a c => .pure (r2 j a c))
      | fn us' vs' hf h1 h2 r1 r2 => exact .fn us' vs' hf (by rw [fzl_len]; exact h1) (by rw [fzl_len]; exact h2) (lst r1) (lst r2)
    all_goals exact rep_fz1 hg z hb hp r
  all_goals exact rep_fz1 hg z hb hp r

theorem good_frz (hg : Good w0 h m w) (z : FzH h h' b g xs) (hb : h b = some (.cells t sz g xs)) (hp : ∀ y ∈ xs, cellPure y = true) : Good w0 h' (killM m (notb b)) w := by
  have hmk : ∀ c l, killM m (notb b) c = some l → c ≠ b ∧ m c = some l := by
    intro c l hc
    unfold killM at hc
    split at hc
    · rename_i hn
      refine ⟨fun e => ?_, hc⟩
      subst e; rw [notb_self] at hn; cases hn
    · cases hc
  have km : ∀ c, c ≠ b → killM m (notb b) c = m c := fun c hc => by simp [killM, notb_ne hc]
  refine ⟨hg.below, fun c l hc => hg.base c l (hmk c l hc).2, fun c c' l l' hc hc' e => hg.inj c c' l l' (hmk c l hc).2 (hmk c' l' hc').2 e, fun c l hc => ?_, fun c k hk => ?_, fun c st pend fn T ps asg body d hk => ?_, hg.fresh⟩
  · obtain ⟨h1, h2⟩ := hmk c l hc
    obtain ⟨k, hk⟩ := hg.supp c l h2
    exact ⟨_, by rw [z.other c h1, hk]; rfl⟩
  · have hne : c ≠ b := by rintro rfl; rw [z.self] at hk; cases hk
    rw [z.other c hne] at hk
    cases hc : h c with
    | none => rw [hc] at hk; cases hk
    | some k0 =>
      rw [hc] at hk
      simp only [fzO, Option.some.injEq] at hk
      subst hk
      have old := hg.blk c k0 hc
      cases k0 with
      | cells t' sz' g' ys =>
        rcases old with ⟨h1, h2⟩ | ⟨l, arr, h1, h2, h3, h4, h5⟩
        · subst h2; exact .inl ⟨(km c hne).trans h1, rfl⟩
        · refine .inr ⟨l, arr, (km c hne).trans h1, h2, h3, by rw [fzl_len]; exact h4, fun j hj => ?_⟩
          have hj' : j < ys.length := by rw [fzl_len] at hj; exact hj
          obtain ⟨v, hv, ho, hr⟩ := h5 j hj'
          exact ⟨v, hv, ho, by rw [fzl_get _ _ _ _ hj']; exact rep_fz2 hg z hb hp hr⟩
      | map es =>
        obtain ⟨l, arr, clk, h1, h2, h3, h4⟩ := old
        refine ⟨l, arr, clk, (km c hne).trans h1, h2, by simpa using h3, fun j hj => ?_⟩
        obtain ⟨e, he, hk1, hv1⟩ := h4 j (by simpa using hj)
        exact ⟨e, he, by simpa using rep_fz2 hg z hb hp hk1, by simpa using rep_fz2 hg z hb hp hv1⟩
      | dfr o => obtain ⟨l, h1, h2⟩ := old; exact ⟨l, (km c hne).trans h1, h2⟩
      | loop st pend fn T ps asg body d =>
        obtain ⟨l, r', ld, h1, h2, a1, a2, a3, a4, a5, a6, a7, a8, a9, a10⟩ := old
        obtain ⟨o, hd⟩ := hg.dloop c _ _ _ _ _ _ _ _ hc
        have hdne : d ≠ b := by rintro rfl; rw [hb] at hd; cases hd
        refine ⟨l, r', ld, (km c hne).trans h1, h2, a1, a2, a3, a4, a5, a6, (km d hdne).trans a7, a8, by rw [fzl_len]; exact a9, fun j hj => ?_⟩
        have hj' : j < T.length := by rw [fzl_len] at hj; exact hj
        obtain ⟨v, hv, hr⟩ := a10 j hj'
        exact ⟨v, hv, by rw [fzl_get _ _ _ _ hj']; exact rep_fz2 hg z hb hp hr⟩
  · have hne : c ≠ b := by rintro rfl; rw [z.self] at hk; cases hk
    rw [z.other c hne] at hk
    cases hc : h c with
    | none => rw [hc] at hk; cases hk
    | some k0 =>
      rw [hc] at hk
      simp only [fzO, Option.some.injEq] at hk
      cases k0 <;> simp only [fzB] at hk <;> cases hk
      obtain ⟨o, hd⟩ := hg.dloop c _ _ _ _ _ _ _ _ hc
      have hdne : d ≠ b := by rintro rfl; rw [hb] at hd; cases hd
      exact ⟨o, by rw [z.other d hdne, hd]; rfl⟩

theorem Sat.frz {X : List (AV × Value)} {s : St} {a : Act} (hs : Sat w0 X s a w) (hb : hget s.H b = some (.cells t sz g xs)) (hp : ∀ y ∈ xs, cellPure y = true) (hX : ∀ q ∈ X, fz2 b g xs q.1 = q.1) : Sat w0 X (frz b g xs s) a w := by
  obtain ⟨m, hs⟩ := hs
  have z : FzH (hget s.H) (hget (fzH b g xs b s.H)) b g xs := ⟨by rw [fzH_get]; simp, fun c hc => by rw [fzH_get]; simp [hc]⟩
  refine ⟨killM m (notb b), good_frz hs.good z hb hp, by rw [hs.size]; exact (fzl_len _ _).symm, fun j hj => ?_, fun q hq => ?_, ?_⟩
  · obtain ⟨v, hv, hr⟩ := hs.tmps j (by simpa [Go.Am.frz, fzl_len] using hj)
    refine ⟨v, hv, ?_⟩
    simp only [Go.Am.frz]
    rw [fzl_lget rfl]
    exact rep_fz2 hs.good z hb hp hr
  · have := rep_fz2 hs.good z hb hp (hs.roots q hq)
    rw [hX q hq] at this
    exact this
  · obtain ⟨ls, a1, a2, a3⟩ := hs.marks
    refine ⟨ls, a1, fun j x y => ?_, a3⟩
    obtain ⟨b1, o, b2⟩ := a2 j x y
    have hne : s.D[j] ≠ b := by intro e; rw [e, hb] at b2; cases b2
    refine ⟨?_, o, ?_⟩
    · show killM m (notb b) s.D[j] = _
      unfold killM
      rw [notb_ne hne]; exact b1
    · show hget (fzH b g xs b s.H) s.D[j] = _
      rw [z.other _ hne, b2]; rfl

/-- FREEZE: from here on the block b is changed no more. -/
theorem awp_frz {P : Program} {r : Option Nat} {X : List (AV × Value)} {c : Code} {s : St} {Q : Exit → St → Prop} (b : Nat) {t : TypeId} {sz g : Nat} {xs : List AV} (hb : hget s.H b = some (.cells t sz g xs)) (hp : pureL xs) (hX : ∀ q ∈ X, fz2 b g xs q.1 = q.1)
    (h : AWP P w0 r X c (frz b g xs s) Q) : AWP P w0 r X c s Q :=
  fun a w hs => h a w (hs.frz hb hp hX)
end
end Go.Am
