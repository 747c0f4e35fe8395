/- The abstract machine Am, part O: states that say less; lists that will be changed no more; functions. -/
import Derived.Test.YtnjommobapmgbaaAmN
namespace Go.Am
open Go.RowKit
variable [Base]

/-- Does a value lead to blocks of p alone? -/
def live0 (p : Nat → Bool) : AV → Bool
  | .ptr b _ _ => p b
  | .osl b _ _ _ => p b
  | .map b => p b
  | .fn (.func _) xs ys => xs.isEmpty && ys.isEmpty
  | .fn _ _ _ => false
  | .agg _ => false
  | .tup _ => false
  | _ => true
def live1 (p : Nat → Bool) : AV → Bool
  | .fn (.func _) xs ys => xs.all (live0 p) && ys.all (live0 p)
  | .fn (.yield b) xs ys => p b && xs.isEmpty && ys.isEmpty
  | .agg xs => xs.all (live0 p)
  | x => live0 p x
def live2 (p : Nat → Bool) : AV → Bool
  | .fn (.func _) xs ys => xs.all (live1 p) && ys.all (live1 p)
  | .agg xs => xs.all (live1 p)
  | .tup xs => xs.all (live1 p)
  | x => live1 p x

def blkLive (p : Nat → Bool) : ABlk → Bool
  | .cells _ _ _ xs => xs.all (live2 p)
  | .map es => es.all fun e => live2 p e.1 && live2 p e.2
  | .dfr _ => true
  | .loop _ _ _ T _ _ _ d => T.all (live2 p) && p d

section kill
variable {h h' : Nat → Option ABlk} {m : Nat → Option Loc} {w : World} {p : Nat → Bool}

def killM (m : Nat → Option Loc) (p : Nat → Bool) : Nat → Option Loc := fun b => if p b then m b else none

theorem ok_kill {c : Nat} (hc : Ok m w c) : Ok (killM m p) w c := by
  refine ⟨hc.1, fun b l hl => ?_, hc.2.2⟩
  unfold killM at hl
  split at hl
  · exact hc.2.1 b l hl
  · cases hl

theorem rep0_kill {x : AV} {v : Value} (r : Rep h m w x v) (hx : live0 p x = true) (hp : ∀ b, p b = true → h' b = h b) : Rep h' (killM m p) w x v := by
  cases r with
  | pure q => exact .pure (q.mono (fun _ _ => rfl) (fun _ hc => ok_kill hc))
  | ptr hb hg ho hv => exact .ptr ((hp _ hx).trans hb) hg ho (fun e => by simpa [killM, show p _ = true from hx] using hv e)
  | osl hb hg ho hv => exact .osl ((hp _ hx).trans hb) hg ho (fun e => by simpa [killM, show p _ = true from hx] using hv e)
  | map hb hm => exact .map ((hp _ hx).trans hb) (by simpa [killM, show p _ = true from hx] using hm)
  | yld hb hk hm => simp [live0] at hx
  | fn us vs hf h1 h2 r1 r2 =>
    rename_i f xs ys
    cases f <;> simp only [live0, Bool.false_eq_true, Bool.and_eq_true, List.isEmpty_iff] at hx
    obtain ⟨rfl, rfl⟩ := hx
    exact .fn us vs hf h1 h2 (fun j a => by simp at a) (fun j a => by simp at a)
  | agg us h1 ho r1 => simp [live0] at hx
  | tup us h1 r1 => simp [live0] at hx
  | junk v => exact .junk v

theorem rep1_kill {x : AV} {v : Value} (r : Rep h m w x v) (hx : live1 p x = true) (hp : ∀ b, p b = true → h' b = h b) : Rep h' (killM m p) w x v := by
  cases r with
  | pure q => exact .pure (q.mono (fun _ _ => rfl) (fun _ hc => ok_kill hc))
  | ptr hb hg ho hv => exact rep0_kill (.ptr hb hg ho hv) hx hp
  | osl hb hg ho hv => exact rep0_kill (.osl hb hg ho hv) hx hp
  | map hb hm => exact rep0_kill (.map hb hm) hx hp
  | yld hb hk hm =>
    simp only [live1, List.isEmpty_nil, Bool.and_true] at hx
    exact .yld ((hp _ hx).trans hb) hk (by simpa [killM, hx] using hm)
  | fn us vs hf h1 h2 r1 r2 =>
    rename_i f xs ys
    cases f
    case func g =>
      simp only [live1, Bool.and_eq_true, List.all_eq_true] at hx
      exact .fn us vs hf h1 h2 (fun j a b => rep0_kill (r1 j a b) (hx.1 _ (List.getElem_mem _)) hp) (fun j a b => rep0_kill (r2 j a b) (hx.2 _ (List.getElem_mem _)) hp)
    case yield l => exact absurd rfl (hf l)
    all_goals simp [live1, live0] at hx
  | agg us h1 ho r1 =>
    simp only [live1, List.all_eq_true] at hx
    exact .agg us h1 ho (fun j a b => rep0_kill (r1 j a b) (hx _ (List.getElem_mem _)) hp)
  | tup us h1 r1 => simp [live1, live0] at hx
  | junk v => exact .junk v

theorem rep2_kill {x : AV} {v : Value} (r : Rep h m w x v) (hx : live2 p x = true) (hp : ∀ b, p b = true → h' b = h b) : Rep h' (killM m p) w x v := by
  cases r with
  | pure q => exact .pure (q.mono (fun _ _ => rfl) (fun _ hc => ok_kill hc))
  | ptr hb hg ho hv => exact rep1_kill (.ptr hb hg ho hv) hx hp
  | osl hb hg ho hv => exact rep1_kill (.osl hb hg ho hv) hx hp
  | map hb hm => exact rep1_kill (.map hb hm) hx hp
  | yld hb hk hm => exact rep1_kill (.yld hb hk hm) hx hp
  | fn us vs hf h1 h2 r1 r2 =>
    rename_i f xs ys
    cases f
    case func g =>
      simp only [live2, Bool.and_eq_true, List.all_eq_true] at hx
      exact .fn us vs hf h1 h2 (fun j a b => rep1_kill (r1 j a b) (hx.1 _ (List.getElem_mem _)) hp) (fun j a b => rep1_kill (r2 j a b) (hx.2 _ (List.getElem_mem _)) hp)
    case yield l => exact absurd rfl (hf l)
    all_goals simp [live2, live1, live0] at hx
  | agg us h1 ho r1 =>
    simp only [live2, List.all_eq_true] at hx
    exact .agg us h1 ho (fun j a b => rep1_kill (r1 j a b) (hx _ (List.getElem_mem _)) hp)
  | tup us h1 r1 =>
    simp only [live2, List.all_eq_true] at hx
    exact .tup us h1 (fun j a b => rep1_kill (r1 j a b) (hx _ (List.getElem_mem _)) hp)
  | junk v => exact .junk v

/-- Blocks that are asked for no more. -/
theorem Good.kill {w0 : World} (g : Good w0 h m w) (hp : ∀ b, p b = true → h' b = h b) (hn : ∀ b, p b = false → h' b = none) (hl : ∀ b k, h' b = some k → blkLive p k = true) : Good w0 h' (killM m p) w := by
  have hpb : ∀ b k, h' b = some k → p b = true := by
    intro b k hk
    cases hb : p b with
    | true => rfl
    | false => rw [hn b hb] at hk; cases hk
  have hmk : ∀ b l, killM m p b = some l → p b = true ∧ m b = some l := by
    intro b l hb
    unfold killM at hb
    split at hb
    · rename_i h1; exact ⟨h1, hb⟩
    · cases hb
  refine ⟨g.below, fun b l hb => g.base b l (hmk b l hb).2, fun b b' l l' hb hb' hc => g.inj b b' l l' (hmk b l hb).2 (hmk b' l' hb').2 hc, fun b l hb => ?_, fun b k hk => ?_, fun b st pend fn T ps asg body d hb => ?_, g.fresh⟩
  · obtain ⟨h1, h2⟩ := hmk b l hb
    rw [hp b h1]; exact g.supp b l h2
  · have hpp := hpb b k hk
    have hold := g.blk b k (by rw [← hp b hpp]; exact hk)
    have hlv := hl b k hk
    have hmb : killM m p b = m b := by simp [killM, hpp]
    cases k with
    | cells t sz gg xs =>
      simp only [blkLive, List.all_eq_true] at hlv
      rcases hold with ⟨h1, h2⟩ | ⟨l, arr, h1, h2, h3, h4, h5⟩
      · exact .inl ⟨hmb.trans h1, h2⟩
      · refine .inr ⟨l, arr, hmb.trans h1, h2, h3, h4, fun j hj => ?_⟩
        obtain ⟨v, hv, ho, hr⟩ := h5 j hj
        exact ⟨v, hv, ho, rep2_kill hr (hlv _ (List.getElem_mem _)) hp⟩
    | map es =>
      simp only [blkLive, List.all_eq_true, Bool.and_eq_true] at hlv
      obtain ⟨l, arr, clk, h1, h2, h3, h4⟩ := hold
      refine ⟨l, arr, clk, hmb.trans h1, h2, h3, fun j hj => ?_⟩
      obtain ⟨e, he, hk1, hv1⟩ := h4 j hj
      exact ⟨e, he, rep2_kill hk1 (hlv _ (List.getElem_mem _)).1 hp, rep2_kill hv1 (hlv _ (List.getElem_mem _)).2 hp⟩
    | dfr o => obtain ⟨l, h1, h2⟩ := hold; exact ⟨l, hmb.trans h1, h2⟩
    | loop st pend fn T ps asg body d =>
      simp only [blkLive, List.all_eq_true, Bool.and_eq_true] at hlv
      obtain ⟨l, r', ld, h1, h2, a1, a2, a3, a4, a5, a6, a7, a8, a9, a10⟩ := hold
      refine ⟨l, r', ld, hmb.trans h1, h2, a1, a2, a3, a4, a5, a6, by simpa [killM, hlv.2] using a7, a8, a9, fun j hj => ?_⟩
      obtain ⟨v, hv, hr⟩ := a10 j hj
      exact ⟨v, hv, rep2_kill hr (hlv.1 _ (List.getElem_mem _)) hp⟩
  · have hlv := hl b _ hb
    simp only [blkLive, Bool.and_eq_true] at hlv
    have hpp := hpb b _ hb
    obtain ⟨o, ho⟩ := g.dloop b st pend fn T ps asg body d (by rw [← hp b hpp]; exact hb)
    exact ⟨o, by rw [hp d hlv.2]; exact ho⟩
end kill

/-- The second value says no more than the first. -/
def avSub (x y : AV) : Prop :=
  match y with
  | .junk => True
  | .psl f n ys => x = .psl f n ys ∨ (f = false ∧ x = .psl true n ys) ∨ (n = 0 ∧ ys = [] ∧ x = .nils)
  | y => x = y

def leT (p : Nat → Bool) : List AV → List AV → Prop
  | [], [] => True
  | x :: xs, y :: ys => (avSub x y ∧ live2 p y = true) ∧ leT p xs ys
  | [], _ :: _ => False
  | _ :: _, [] => False

def leH (p : Nat → Bool) : List (Option ABlk) → List (Option ABlk) → Prop
  | _, [] => True
  | x :: xs, y :: ys => (match y with | none => True | some k => x = some k ∧ blkLive p k = true) ∧ leH p xs ys
  | [], y :: ys => y = none ∧ leH p [] ys

def liveIn (H : List (Option ABlk)) (b : Nat) : Bool := (hget H b).isSome

/-- A STATE THAT SAYS LESS: temporaries and blocks are forgotten. -/
def Le2 (X : List (AV × Value)) (s s' : St) : Prop :=
  leT (liveIn s'.H) s.T s'.T ∧ leH (liveIn s'.H) s.H s'.H ∧ s'.D = s.D ∧ (∀ d ∈ s.D, liveIn s'.H d = true) ∧ ∀ q ∈ X, live2 (liveIn s'.H) q.1 = true

omit [Base] in
theorem leT_spec {p : Nat → Bool} : ∀ {xs ys : List AV}, leT p xs ys → ys.length = xs.length ∧ ∀ j, avSub (lget xs j) (lget ys j) ∧ live2 p (lget ys j) = true
  | [], [], _ => ⟨rfl, fun j => ⟨by simp [lget, avSub], by simp [lget, live2, live1, live0]⟩⟩
  | x :: xs, y :: ys, h => by
    obtain ⟨h1, h2⟩ := h
    obtain ⟨h3, h4⟩ := leT_spec h2
    refine ⟨by simp [h3], fun j => ?_⟩
    cases j with
    | zero => exact h1
    | succ j => exact h4 j
  | [], _ :: _, h => h.elim
  | _ :: _, [], h => h.elim

omit [Base] in
theorem leH_spec {p : Nat → Bool} : ∀ {xs ys : List (Option ABlk)}, leH p xs ys → ∀ b k, hget ys b = some k → hget xs b = some k ∧ blkLive p k = true
  | _, [], _, b, k, hk => by simp [hget] at hk
  | x :: xs, y :: ys, h, b, k, hk => by
    obtain ⟨h1, h2⟩ := h
    cases b with
    | zero =>
      simp only [hget] at hk ⊢
      subst hk
      exact h1
    | succ b => exact leH_spec h2 b k hk
  | [], y :: ys, h, b, k, hk => by
    obtain ⟨h1, h2⟩ := h
    cases b with
    | zero => simp only [hget] at hk; rw [h1] at hk; cases hk
    | succ b =>
      have := (leH_spec h2 b k hk).1
      simp [hget] at this

theorem rep_sub {h : Nat → Option ABlk} {m : Nat → Option Loc} {w : World} {x y : AV} {v : Value} (r : Rep h m w x v) (hs : avSub x y) : Rep h m w y v := by
  cases y
  case junk => exact .junk _
  case psl f n ys =>
    rcases hs with rfl | ⟨rfl, rfl⟩ | ⟨rfl, rfl, rfl⟩
    · exact r
    · have := rep_psl r
      cases this with
      | psle h1 h2 h3 => exact .pure (.psle h1 (by simp) h3)
      | psl vs h1 h2 hok hc hr => exact .pure (.psl vs h1 (by simp) hok hc hr)
    · rw [rep_nils r]; exact .pure (.psle (Nat.le_refl _) (fun _ => rfl) (fun _ => rfl))
  all_goals (have hs' : x = _ := hs; rw [← hs']; exact r)

theorem Sat.le2 {w0 : World} {X : List (AV × Value)} {s s' : St} {a : Act} {w : World} (hs : Sat w0 X s a w) (hl : Le2 X s s') : Sat w0 X s' a w := by
  obtain ⟨h1, h2, h3, h4, h5⟩ := hl
  obtain ⟨m, hs⟩ := hs
  obtain ⟨hlen, htmp⟩ := leT_spec h1
  have hblk := leH_spec h2
  have hp : ∀ b, liveIn s'.H b = true → hget s'.H b = hget s.H b := by
    intro b hb
    obtain ⟨k, hk⟩ := Option.isSome_iff_exists.1 hb
    rw [hk, (hblk b k hk).1]
  refine ⟨killM m (liveIn s'.H), ?_⟩
  rw [hlen, h3]
  refine ⟨hs.good.kill hp (fun b hb => ?_) (fun b k hk => (hblk b k hk).2), hs.size, fun j hj => ?_, fun q hq => rep2_kill (hs.roots q hq) (h5 q hq) hp, ?_⟩
  · simpa [liveIn] using hb
  · obtain ⟨v, hv, hr⟩ := hs.tmps j hj
    exact ⟨v, hv, rep2_kill (rep_sub hr (htmp j).1) (htmp j).2 hp⟩
  · obtain ⟨ls, a1, a2, a3⟩ := hs.marks
    refine ⟨ls, a1, fun j x y => ?_, a3⟩
    have hlv := h4 _ (List.getElem_mem x)
    obtain ⟨b1, o, b2⟩ := a2 j x y
    exact ⟨by simpa [killM, hlv] using b1, o, by rw [hp _ hlv]; exact b2⟩

theorem AWP.le2 {P : Program} {w0 : World} {r : Option Nat} {X : List (AV × Value)} {c : Code} {s s' : St} {Q : Exit → St → Prop} (hl : Le2 X s s') (h : AWP P w0 r X c s' Q) : AWP P w0 r X c s Q :=
  fun a w hs => h a w (hs.le2 hl)

/-- A LOOP, with states that say less at its head. -/
theorem awp_loop2 {P : Program} {w0 : World} {r : Option Nat} {X : List (AV × Value)} {s : St} {Q : Exit → St → Prop} {c : Code} {γ : Type} (I : γ → St) (μ : γ → Nat) (g0 : γ) (h0 : Le2 X s (I g0))
    (round : ∀ g, AWP P w0 r X c (I g) (thenQ (fun s' => ∃ g', μ g' < μ g ∧ Le2 X s' (I g')) Q)) : AWP P w0 r X (.loop c) s Q := by
  intro a w hs
  refine wpIn_loop_g (fun g a w => Sat w0 X (I g) a w) μ g0 (hs.le2 h0) (fun g a w hI => wpIn_mono (round g a w hI) ?_)
  rintro e a' w' ⟨s', h1, h2⟩
  cases e with
  | normal => obtain ⟨g', hlt, hle⟩ := h1; exact ⟨g', hlt, h2.le2 hle⟩
  | exit id => exact ⟨s', h1, h2⟩
  | goto l => exact ⟨s', h1, h2⟩
  | ret => exact ⟨s', h1, h2⟩
  | panic c => exact ⟨s', h1, h2⟩
  | outgrown => exact ⟨s', h1, h2⟩

end Go.Am
