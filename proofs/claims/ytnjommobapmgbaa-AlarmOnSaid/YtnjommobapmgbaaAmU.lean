/- The abstract machine Am, part U: nil as a list of one's own (adopt); statements joined. -/
import Derived.Test.YtnjommobapmgbaaAmT
namespace Go.Am
open Go.RowKit
variable [Base]
section
variable {w0 : World} {h : Nat → Option ABlk} {m : Nat → Option Loc} {w : World} {n : Nat} {e : TypeId} {sz : Nat}

theorem ext_virt (hn : h n = none) : Ext h m w (upd h n (some (.cells e sz 0 []))) m w := by
  have keep : ∀ c k, h c = some k → upd h n (some (.cells e sz 0 [])) c = some k := by
    intro c k hc
    rw [upd_ne]
    · exact hc
    · rintro rfl; rw [hn] at hc; cases hc
  exact ⟨fun c hc => ⟨rfl, hc⟩, fun b t s g xs hb => ⟨g, xs, keep _ _ hb, Nat.le_refl _, fun _ => rfl⟩, fun b es hb => ⟨⟨es, keep _ _ hb⟩, rfl⟩, fun b o hb => ⟨⟨o, keep _ _ hb⟩, rfl⟩,
    fun b st pend fn T ps asg body d hb => ⟨⟨st, pend, keep _ _ hb⟩, rfl⟩⟩

theorem none_virt (hg : Good w0 h m w) (hn : h n = none) : m n = none := by
  cases hm : m n with
  | none => rfl
  | some l => obtain ⟨k, hk⟩ := hg.supp n l hm; rw [hn] at hk; cases hk

theorem good_virt2 (hg : Good w0 h m w) (hn : h n = none) : Good w0 (upd h n (some (.cells e sz 0 []))) m w := by
  have ex : Ext h m w (upd h n (some (.cells e sz 0 []))) m w := ext_virt hn
  refine ⟨hg.below, hg.base, hg.inj, fun b l hb => ?_, fun b k hk => ?_, fun b st pend fn T ps asg body d hb => ?_, hg.fresh⟩
  · obtain ⟨k, hk⟩ := hg.supp b l hb
    by_cases e : b = n
    · subst e; exact ⟨_, upd_same _ _ _⟩
    · exact ⟨k, by rw [upd_ne _ _ e]; exact hk⟩
  · by_cases e : b = n
    · subst e
      rw [upd_same] at hk; cases hk
      exact .inl ⟨none_virt hg hn, rfl⟩
    · rw [upd_ne _ _ e] at hk
      have old := hg.blk b k hk
      cases k with
      | cells t' sz' g' ys =>
        rcases old with h1 | ⟨l, arr, h1, h2, h3, h4, h5⟩
        · exact .inl h1
        · exact .inr ⟨l, arr, h1, h2, h3, h4, fun j hj => let ⟨v, hv, ho, hr⟩ := h5 j hj; ⟨v, hv, ho, hr.ext ex⟩⟩
      | map es =>
        obtain ⟨l, arr, clk, h1, h2, h3, h4⟩ := old
        exact ⟨l, arr, clk, h1, h2, h3, fun j hj => let ⟨e, he, hk1, hv1⟩ := h4 j hj; ⟨e, he, hk1.ext ex, hv1.ext ex⟩⟩
      | dfr o => exact old
      | loop st pend fn T ps asg body d =>
        obtain ⟨l, r', ld, h1, h2, a1, a2, a3, a4, a5, a6, a7, a8, a9, a10⟩ := old
        exact ⟨l, r', ld, h1, h2, a1, a2, a3, a4, a5, a6, a7, a8, a9, fun j hj => let ⟨v, hv, hr⟩ := a10 j hj; ⟨v, hv, hr.ext ex⟩⟩
  · by_cases e : b = n
    · subst e; rw [upd_same] at hb; cases hb
    · rw [upd_ne _ _ e] at hb
      obtain ⟨o, ho⟩ := hg.dloop _ _ _ _ _ _ _ _ _ hb
      refine ⟨o, ?_⟩
      rw [upd_ne]
      · exact ho
      · rintro rfl; rw [hn] at ho; cases ho

omit [Base] in
theorem lget_lset : ∀ (T : List AV) (i : Nat) (v : AV) (j : Nat), lget (lset T i v) j = if j = i ∧ i < T.length then v else lget T j
  | [], i, v, j => by simp [lset, lget]
  | x :: T, 0, v, 0 => by simp [lset, lget]
  | x :: T, 0, v, j + 1 => by simp [lset, lget]
  | x :: T, i + 1, v, 0 => by simp [lset, lget]
  | x :: T, i + 1, v, j + 1 => by simp [lset, lget, lget_lset T i v j]
omit [Base] in
theorem getElem_lget : ∀ (l : List AV) (j : Nat) (h : j < l.length), l[j] = lget l j
  | [], _, h => by simp at h
  | x :: l, 0, _ => rfl
  | x :: l, j + 1, h => by simpa [lget] using getElem_lget l j (by simpa using h)

/-- nil, where a list of one's own will grow. -/
def adT (j : Nat) (e : TypeId) (sz : Nat) (s : St) : St := ⟨lset s.T j (.osl s.H.length 0 0 0), hset s.H s.H.length (.cells e sz 0 []), s.D⟩

omit [Base] in
theorem hget_ge : ∀ (H : List (Option ABlk)) (c : Nat), H.length ≤ c → hget H c = none
  | [], _, _ => rfl
  | _ :: H, 0, h => by simp at h
  | _ :: H, c + 1, h => by simpa [hget] using hget_ge H c (by simpa using h)

theorem Sat.adT {X : List (AV × Value)} {s : St} {a : Act} (j : Nat) (e : TypeId) (sz : Nat) (hs : Sat w0 X s a w) (hj : lget s.T j = .nils) : Sat w0 X (adT j e sz s) a w := by
  obtain ⟨m, hs⟩ := hs
  have hn := hget_ge s.H s.H.length (Nat.le_refl _)
  have ex : Ext (hget s.H) m w (upd (hget s.H) s.H.length (some (.cells e sz 0 []))) m w := ext_virt hn
  have hh : hget (hset s.H s.H.length (.cells e sz 0 [])) = upd (hget s.H) s.H.length (some (.cells e sz 0 [])) := hget_seto s.H (some (s.H.length, .cells e sz 0 []))
  refine ⟨m, ?_⟩
  simp only [Go.Am.adT]
  rw [hh]
  refine ⟨good_virt2 hs.good hn, by rw [hs.size, lset_length], fun i hi => ?_, fun q hq => (hs.roots q hq).ext ex, ?_⟩
  · rw [lset_length] at hi
    obtain ⟨v, hv, hr⟩ := hs.tmps i hi
    refine ⟨v, hv, ?_⟩
    rw [lget_lset]
    split
    · rename_i hij
      obtain ⟨rfl, _⟩ := hij
      rw [hj] at hr
      rw [rep_nils hr]
      exact .osl (upd_same _ _ _) (Nat.le_refl _) rfl (fun _ => .inl ⟨none_virt hs.good hn, rfl, rfl, rfl⟩)
    · exact hr.ext ex
  · obtain ⟨ls, a1, a2, a3⟩ := hs.marks
    refine ⟨ls, a1, fun j x y => ?_, a3⟩
    obtain ⟨b1, o, b2⟩ := a2 j x y
    obtain ⟨⟨o', b3⟩, b4⟩ := ex.dfr _ _ b2
    exact ⟨b1, o', b3⟩

theorem awp_adT {P : Program} {r : Option Nat} {X : List (AV × Value)} {c : Code} {s : St} {Q : Exit → St → Prop} (j : Nat) (e : TypeId) (sz : Nat) (hj : lget s.T j = .nils) (h : AWP P w0 r X c (adT j e sz s) Q) : AWP P w0 r X c s Q :=
  fun a w hs => h a w (hs.adT j e sz hj)

/-- Likewise in a cell of a block. -/
def adH (b i : Nat) (e : TypeId) (sz : Nat) (s : St) : St :=
  match hget s.H b with
  | some (.cells t z g xs) => ⟨s.T, hset (hset s.H s.H.length (.cells e sz 0 [])) b (.cells t z g (lset xs i (.osl s.H.length 0 0 0))), s.D⟩
  | _ => s

theorem Sat.adH {X : List (AV × Value)} {s : St} {a : Act} (b i : Nat) (e : TypeId) (sz : Nat) (hs : Sat w0 X s a w) {t : TypeId} {z g : Nat} {xs : List AV} (hb : hget s.H b = some (.cells t z g xs)) (hi : nth xs i = some .nils) : Sat w0 X (adH b i e sz s) a w := by
  obtain ⟨m, hs⟩ := hs
  have hn := hget_ge s.H s.H.length (Nat.le_refl _)
  have ex1 : Ext (hget s.H) m w (upd (hget s.H) s.H.length (some (.cells e sz 0 []))) m w := ext_virt hn
  have g1 : Good w0 (upd (hget s.H) s.H.length (some (.cells e sz 0 []))) m w := good_virt2 hs.good hn
  have hbn : b ≠ s.H.length := by rintro rfl; rw [hn] at hb; cases hb
  have hh : hget (hset (hset s.H s.H.length (.cells e sz 0 [])) b (.cells t z g (lset xs i (.osl s.H.length 0 0 0)))) = upd (upd (hget s.H) s.H.length (some (.cells e sz 0 []))) b (some (.cells t z g (lset xs i (.osl s.H.length 0 0 0)))) := by
    have h1 : hget (hset s.H s.H.length (.cells e sz 0 [])) = upd (hget s.H) s.H.length (some (.cells e sz 0 [])) := hget_seto s.H (some (s.H.length, .cells e sz 0 []))
    have h2 := hget_seto (hset s.H s.H.length (.cells e sz 0 [])) (some (b, .cells t z g (lset xs i (.osl s.H.length 0 0 0))))
    rw [show hget (hset (hset s.H s.H.length (.cells e sz 0 [])) b (.cells t z g (lset xs i (.osl s.H.length 0 0 0)))) = _ from h2, h1]
    rfl
  have hb1 : upd (hget s.H) s.H.length (some (.cells e sz 0 [])) b = some (.cells t z g xs) := by rw [upd_ne _ _ hbn]; exact hb
  have ex2 : Ext (upd (hget s.H) s.H.length (some (.cells e sz 0 []))) m w (upd (upd (hget s.H) s.H.length (some (.cells e sz 0 []))) b (some (.cells t z g (lset xs i (.osl s.H.length 0 0 0))))) m w := by
    have keep : ∀ c k, c ≠ b → upd (hget s.H) s.H.length (some (.cells e sz 0 [])) c = some k → upd (upd (hget s.H) s.H.length (some (.cells e sz 0 []))) b (some (.cells t z g (lset xs i (.osl s.H.length 0 0 0)))) c = some k := fun c k hc hk => by rw [upd_ne _ _ hc]; exact hk
    refine ⟨fun c hc => ⟨rfl, hc⟩, fun c t' z' g' ys hc => ?_, fun c es hc => ⟨⟨es, keep c _ (by rintro rfl; rw [hb1] at hc; cases hc) hc⟩, rfl⟩, fun c o hc => ⟨⟨o, keep c _ (by rintro rfl; rw [hb1] at hc; cases hc) hc⟩, rfl⟩,
      fun c st pend fn T ps asg body d hc => ⟨⟨st, pend, keep c _ (by rintro rfl; rw [hb1] at hc; cases hc) hc⟩, rfl⟩⟩
    by_cases hcb : c = b
    · subst hcb
      rw [hb1] at hc; cases hc
      exact ⟨_, _, upd_same _ _ _, Nat.le_refl _, fun _ => rfl⟩
    · exact ⟨g', ys, keep c _ hcb hc, Nat.le_refl _, fun _ => rfl⟩
  have ex := ex1.trans ex2
  have hxi : i < xs.length ∧ lget xs i = .nils := by
    rw [← nth_is] at hi
    obtain ⟨h1, h2⟩ := List.getElem?_eq_some_iff.1 hi
    refine ⟨h1, ?_⟩
    rw [← getElem_lget _ _ h1, h2]
  have e0 : Go.Am.adH b i e sz s = ⟨s.T, hset (hset s.H s.H.length (.cells e sz 0 [])) b (.cells t z g (lset xs i (.osl s.H.length 0 0 0))), s.D⟩ := by simp only [Go.Am.adH, hb]
  rw [e0]
  refine ⟨m, ?_⟩
  simp only
  rw [hh]
  refine ⟨?_, hs.size, fun j hj => let ⟨v, hv, hr⟩ := hs.tmps j hj; ⟨v, hv, hr.ext ex⟩, fun q hq => (hs.roots q hq).ext ex, ?_⟩
  · refine ⟨g1.below, g1.base, g1.inj, fun c l hc => ?_, fun c k hk => ?_, fun c st pend fn T ps asg body d hc => ?_, g1.fresh⟩
    · by_cases hcb : c = b
      · subst hcb; exact ⟨_, upd_same _ _ _⟩
      · rw [upd_ne _ _ hcb]; exact g1.supp c l hc
    · by_cases hcb : c = b
      · subst hcb
        rw [upd_same] at hk; cases hk
        rcases g1.blk c _ hb1 with ⟨h1, h2⟩ | ⟨l, arr, h1, h2, h3, h4, h5⟩
        · rw [h2] at hxi; simp at hxi
        · refine .inr ⟨l, arr, h1, h2, h3, by rw [lset_length]; exact h4, fun j hj => ?_⟩
          rw [lset_length] at hj
          obtain ⟨v, hv, ho, hr⟩ := h5 j hj
          refine ⟨v, hv, ho, ?_⟩
          have hgj : (lset xs i (.osl s.H.length 0 0 0))[j]'(by rw [lset_length]; exact hj) = lget (lset xs i (.osl s.H.length 0 0 0)) j := by
            exact getElem_lget _ _ _
          rw [hgj, lget_lset]
          split
          · rename_i hij
            obtain ⟨rfl, _⟩ := hij
            have hxj : xs[j] = .nils := (getElem_lget _ _ _).trans hxi.2
            rw [hxj] at hr
            rw [rep_nils hr]
            exact .osl (by rw [upd_ne _ _ (Ne.symm hbn)]; exact upd_same _ _ _) (Nat.le_refl _) rfl (fun _ => .inl ⟨none_virt hs.good hn, rfl, rfl, rfl⟩)
          · rw [← getElem_lget _ _ hj]
            exact hr.ext ex2
      · rw [upd_ne _ _ hcb] at hk
        have old := g1.blk c k hk
        cases k with
        | cells t' sz' g' ys =>
          rcases old with h1 | ⟨l, arr, h1, h2, h3, h4, h5⟩
          · exact .inl h1
          · exact .inr ⟨l, arr, h1, h2, h3, h4, fun j hj => let ⟨v, hv, ho, hr⟩ := h5 j hj; ⟨v, hv, ho, hr.ext ex2⟩⟩
        | map es =>
          obtain ⟨l, arr, clk, h1, h2, h3, h4⟩ := old
          exact ⟨l, arr, clk, h1, h2, h3, fun j hj => let ⟨e, he, hk1, hv1⟩ := h4 j hj; ⟨e, he, hk1.ext ex2, hv1.ext ex2⟩⟩
        | dfr o => exact old
        | loop st pend fn T ps asg body d =>
          obtain ⟨l, r', ld, h1, h2, a1, a2, a3, a4, a5, a6, a7, a8, a9, a10⟩ := old
          exact ⟨l, r', ld, h1, h2, a1, a2, a3, a4, a5, a6, a7, a8, a9, fun j hj => let ⟨v, hv, hr⟩ := a10 j hj; ⟨v, hv, hr.ext ex2⟩⟩
    · have hcb : c ≠ b := by rintro rfl; rw [upd_same] at hc; cases hc
      rw [upd_ne _ _ hcb] at hc
      obtain ⟨o, ho⟩ := g1.dloop _ _ _ _ _ _ _ _ _ hc
      obtain ⟨⟨o', h1⟩, _⟩ := ex2.dfr _ _ ho
      exact ⟨o', h1⟩
  · obtain ⟨ls, a1, a2, a3⟩ := hs.marks
    refine ⟨ls, a1, fun j x y => ?_, a3⟩
    obtain ⟨b1, o, b2⟩ := a2 j x y
    obtain ⟨⟨o', b3⟩, b4⟩ := ex.dfr _ _ b2
    exact ⟨b1, o', b3⟩

theorem awp_adH {P : Program} {r : Option Nat} {X : List (AV × Value)} {c : Code} {s : St} {Q : Exit → St → Prop} (b i : Nat) (e : TypeId) (sz : Nat) {t : TypeId} {z g : Nat} {xs : List AV} (hb : hget s.H b = some (.cells t z g xs)) (hi : nth xs i = some .nils) (h : AWP P w0 r X c (adH b i e sz s) Q) : AWP P w0 r X c s Q :=
  fun a w hs => h a w (hs.adH b i e sz hb hi)
end
end Go.Am
