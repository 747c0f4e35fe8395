/- Parts X3, X4, X5, AmW, Yk, X6, X7, Y1, Y2, Y3, Y4, Y5, Y6, Y7, Y8 of the proof, one behind the other. No statement is proved here. -/
import Derived.Test.YtbmlghbednekcaaGreatK2
import Derived.RangeFuncRecord
import Derived.ChangeKeysEq
set_option linter.unusedVariables false -- all
set_option linter.unusedSimpArgs false
namespace Go.Am
open Go.RowKit
theorem arithX_sound {k : IntKind} {r : Int} {v : AV} {K : AV → Prop} (h : arithX k r = some v) (hk : K v) : arith k r K := by
  cases k <;> simp only [arithX] at h <;> simp only [arith]
  case i64 =>
    split at h
    · rename_i hr; cases h; exact ⟨hr, hk⟩
    · cases h
  all_goals (cases h; exact hk)
theorem bitsX_sound {op : BinOp} {k : IntKind} {a b : Int} {v : AV} {K : AV → Prop} (h : bitsX op k a b = some v) (hk : K v) : bits op k a b K := by
  cases op <;> simp only [bitsX, reduceCtorEq] at h <;> simp only [bits] <;> (cases h; exact hk)
theorem binIntX_sound {op : BinOp} {k k' : IntKind} {a b : Int} {v : AV} {K : AV → Prop} (h : binIntX op k k' a b = some v) (hk : K v) : binInt op k k' a b K := by
  cases op <;> simp only [binIntX] at h <;> simp only [binInt]
  all_goals (split at h)
  all_goals (try (cases h; done))
  case add => exact ⟨‹_›, arithX_sound h hk⟩
  case sub => exact ⟨‹_›, arithX_sound h hk⟩
  case mul => exact ⟨‹_›, arithX_sound h hk⟩
  case quo =>
    split at h
    · cases h
    · exact ⟨‹_›, ‹_›, arithX_sound h hk⟩
  case rem =>
    split at h
    · cases h
    · cases h; exact ⟨‹_›, ‹_›, hk⟩
  case and => exact ⟨‹_›, bitsX_sound h hk⟩
  case or => exact ⟨‹_›, bitsX_sound h hk⟩
  case xor => exact ⟨‹_›, bitsX_sound h hk⟩
  case andNot => exact ⟨‹_›, bitsX_sound h hk⟩
  all_goals (cases h; exact ⟨‹_›, hk⟩)
theorem binX_sound {P : Program} {eqt : TypeId → Bool} {op : BinOp} {t : TypeId} {x y v : AV} {K : AV → Prop} (he : ∀ t, eqt t = true → EqOK P t) (h : binX P eqt op t x y = some v) (hk : K v) : binK P op t x y K := by
  cases x <;> cases y <;> simp only [binX, reduceCtorEq] at h <;> simp only [binK]
  case int.int => exact binIntX_sound h hk
  case bool.bool a b =>
    split at h
    · rename_i hu
      cases op <;> simp only [reduceCtorEq] at h <;> (cases h; exact ⟨hu, hk⟩)
    · cases h
  case agg.agg xs ys =>
    split at h
    · rename_i hc
      refine ⟨he _ hc.1, hc.2.1, hc.2.2, ?_⟩
      split at h
      · rename_i b hb
        simp only [hb]
        cases op <;> simp only [reduceCtorEq] at h <;> (cases h; exact hk)
      · cases h
    · cases h
theorem unX_sound {op : UnOp} {x v : AV} {K : AV → Prop} (h : unX op x = some v) (hk : K v) : unK op x K := by
  cases op <;> cases x <;> simp only [unX, reduceCtorEq] at h <;> simp only [unK]
  · exact arithX_sound h hk
  · cases h; exact hk
theorem loadX_sound {P : Program} {t : TypeId} {xs : List AV} {off : Nat} {v : AV} {K : AV → Prop} (h : loadX P t xs off = some v) (hk : K v) : loadK P t xs off K := by
  unfold loadX at h; unfold loadK
  split at h
  · rename_i h1 h2
    simp only [h1, h2]
    split at h
    · cases h; exact ⟨‹_›, hk⟩
    · cases h
  · rename_i h1 h2
    simp only [h1, h2, h]; exact hk
  · cases h
theorem mmX_sound {b : Bool} {xs : List AV} {v : AV} {K : AV → Prop} (h : mmX b xs = some v) (hk : K v) : mm b xs K := by
  unfold mmX at h
  split at h
  · cases h; exact hk
  · split at h
    · cases h; exact ⟨‹_›, hk⟩
    · cases h
  · cases h
theorem map_some {α β : Type} {f : α → β} {o : Option α} {b : β} (h : o.map f = some b) : ∃ a, o = some a ∧ b = f a := by
  cases o with
  | none => cases h
  | some a => exact ⟨a, rfl, by simpa using h.symm⟩
theorem makeX_sound {l c : AV} {n : Nat} {K : Nat → Prop} (h : makeX l c = some n) (hk : K n) : makeK l c K := by
  cases l <;> cases c <;> simp only [makeX, reduceCtorEq] at h
  simp only [makeK]
  split at h
  · rename_i hc; cases h; exact ⟨hc.1, hc.2, hk⟩
  · cases h
theorem sliceX_sound {sz : Nat} {x : AV} {lo hi : Option AV} {v : AV} {K : AV → Prop} (h : sliceX sz x lo hi = some v) (hk : K v) : sliceK sz x lo hi K := by
  unfold sliceX at h; unfold sliceK
  split at h
  · simp only
    split at h
    · rename_i h1; simp only [h1]
      split at h
      · rename_i h2; simp only [h2]
        split at h
        · rename_i hc; cases h; exact ⟨hc.1, hc.2.1, hc.2.2.1, hc.2.2.2, hk⟩
        · cases h
      · cases h
    · cases h
  · cases h
theorem cutOX_sound {sz b g off len : Nat} {lo hi : Option AV} {v : AV} {K : AV → Prop} (h : cutOX sz b g off len lo hi = some v) (hk : K v) : cutO sz b g off len lo hi K := by
  unfold cutOX at h; unfold cutO
  split at h
  · rename_i h1; simp only [h1]
    split at h
    · rename_i h2; simp only [h2]
      split at h
      · rename_i hc; cases h; exact ⟨hc.1, hc.2.1, hc.2.2.1, hc.2.2.2, hk⟩
      · cases h
    · cases h
  · cases h
theorem keyX_sound {P : Program} {eqt : TypeId → Bool} {kt : TypeId} {k : AV} (he : ∀ t, eqt t = true → EqOK P t) (h : keyX P eqt kt k = true) : keyOK P kt k := by
  cases k <;> simp only [keyX, Bool.and_eq_true, decide_eq_true_eq, reduceCtorEq] at h
  · exact h
  · exact ⟨he _ h.1, h.2⟩
theorem mapOX_sound {x : AV} {h : Nat → Option ABlk} {es : List (AV × AV)} {rd : List Nat} {f : List (AV × AV) → List Nat → Prop} (hx : mapOX x h = some (es, rd)) (hk : f es rd) : mapOf x h f := by
  unfold mapOX at hx
  split at hx
  · split at hx
    · rename_i hb; cases hx; simp only [mapOf, hb]; exact hk
    · cases hx
  · cases hx; exact hk
  · cases hx
theorem all_mem {xs : List AV} (h : xs.all cellPure = true) : ∀ x ∈ xs, cellPure x = true := by simpa using h
theorem builtinX_sound {P : Program} {b : Builtin} {ts : Array TypeId} {args : List AV} {h : Nat → Option ABlk} {nx : Nat} {e : E} {K : E → Prop} (hx : builtinX P b ts args h nx = some e) (hk : K e) : builtinK P b ts args h nx K := by
  unfold builtinX at hx
  split at hx
  · rename_i hts; simp only [builtinK, hts]
    split at hx
    · split at hx
      · cases hx; exact ⟨‹_›, hk⟩
      · cases hx
    · split at hx
      · cases hx; exact ⟨‹_›, hk⟩
      · cases hx
    · split at hx
      · rename_i hs
        refine ⟨hs, ?_⟩
        split at hx
        · rename_i hb
          split at hx
          · cases hx; simp only [hb]; exact ⟨‹_›, hk⟩
          · cases hx
        · cases hx
      · cases hx
    · split at hx
      · rename_i hs
        refine ⟨hs, ?_⟩
        split at hx
        · rename_i hb
          cases hx; simp only [hb]; exact hk
        · cases hx
      · cases hx
    · cases hx
  · obtain ⟨v, hv, rfl⟩ := map_some hx
    simp only [builtinK]
    exact mmX_sound hv hk
  · obtain ⟨v, hv, rfl⟩ := map_some hx
    simp only [builtinK]
    exact mmX_sound hv hk
  · rename_i hts; simp only [builtinK, hts]
    split at hx
    · rename_i htt
      refine ⟨htt, ?_⟩
      split at hx
      · rename_i e1 he1
        simp only [he1]
        split at hx
        · rename_i sz by_ zs h1 h2 h3
          simp only [h1, h2, h3]
          split at hx
          · rename_i hz
            refine ⟨hz.1, hz.2, ?_⟩
            split at hx
            · split at hx
              · rename_i hy
                refine ⟨hy, ?_⟩
                split at hx
                · split at hx
                  · rename_i hc; cases hx; exact ⟨hc.1, hc.2, hk⟩
                  · cases hx
                · split at hx
                  · rename_i hb
                    simp only [hb]
                    split at hx
                    · rename_i hc; cases hx; exact ⟨hc.1, hc.2.1, hc.2.2.1, hc.2.2.2.1, hc.2.2.2.2.1, hc.2.2.2.2.2.1, hc.2.2.2.2.2.2, hk⟩
                    · cases hx
                  · cases hx
                · split at hx
                  · rename_i hc; cases hx; exact .inl ⟨hc.1, hc.2.1, hc.2.2.1, hc.2.2.2.1, hc.2.2.2.2, hk⟩
                  · cases hx
                · cases hx
              · cases hx
            · cases hx
          · cases hx
        · cases hx
      · cases hx
    · cases hx
  · rename_i hts; simp only [builtinK, hts]
    split at hx
    · split at hx
      · rename_i h1 h2
        simp only [h1, h2]
        split at hx
        · rename_i hi
          refine ⟨hi, ?_⟩
          split at hx
          · split at hx
            · rename_i h3; cases hx; simp only [h3]; exact hk
            · rename_i h3; cases hx; simp only [h3]; exact hk
            · cases hx
          · cases hx
        · cases hx
      · cases hx
    · cases hx
  · cases hx
theorem effX_sound {P : Program} {eqt : TypeId → Bool} {o : Oper} {ρ : Operand → AV} {h : Nat → Option ABlk} {nx : Nat} {e : E} {K : E → Prop} (he : ∀ t, eqt t = true → EqOK P t) (hx : effX P eqt o ρ h nx = some e) (hk : K e) : effK P o ρ h nx K := by
  unfold effX at hx; unfold effK
  split at hx <;> rename_i ho <;> simp only [ho]
  · cases hx; exact hk
  · cases hx; exact hk
  · split at hx
    · rename_i h1; cases hx; simp only [h1]; exact hk
    · rename_i h1; cases hx; simp only [h1]; exact hk
    · cases hx
  · split at hx
    · rename_i h1; simp only [h1]
      split at hx
      · rename_i h2; cases hx; exact ⟨all_mem h2, hk⟩
      · cases hx
    · cases hx
  · split at hx
    · rename_i h1; cases hx; simp only [h1]; exact hk
    · cases hx
  · split at hx
    · rename_i h1; simp only [h1]
      split at hx
      · rename_i h2
        refine ⟨all_mem h2, ?_⟩
        split at hx
        · rename_i h3; simp only [h3]
          split at hx
          · rename_i h4; simp only [h4]
            split at hx
            · rename_i h5; cases hx; simp only [h5]; exact hk
            · cases hx
          · cases hx
        · rename_i h3; simp only [h3]
          split at hx
          · rename_i h4; simp only [h4]
            split at hx
            · rename_i h5; cases hx; simp only [h5]; exact hk
            · cases hx
          · cases hx
      · cases hx
    · cases hx
  · split at hx
    · rename_i h1; simp only [h1]
      split at hx
      · rename_i h2 h3; simp only [h2, h3]
        split at hx
        · rename_i h4
          refine ⟨h4.1, h4.2.1, h4.2.2.1, all_mem h4.2.2.2, ?_⟩
          split at hx
          · rename_i h5; simp only [h5]
            split at hx
            · rename_i h6; cases hx; exact ⟨all_mem h6, hk⟩
            · cases hx
          · cases hx
        · cases hx
      · cases hx
    · cases hx
  · split at hx
    · rename_i h1; simp only [h1]
      split at hx
      · rename_i h2; simp only [h2]
        split at hx
        · obtain ⟨v, hv, rfl⟩ := map_some hx
          exact ⟨‹_›, loadX_sound hv hk⟩
        · cases hx
      · cases hx
    · rename_i h1; simp only [h1]
      obtain ⟨v, hv, rfl⟩ := map_some hx
      exact loadX_sound hv hk
    · cases hx
  · split at hx
    · rename_i h1; simp only [h1]
      split at hx
      · rename_i h2 h3; simp only [h2, h3]
        split at hx
        · rename_i h4; cases hx; exact ⟨h4.1, h4.2.1, h4.2.2, hk⟩
        · cases hx
      · cases hx
    · cases hx
  · split at hx
    · rename_i h1; simp only [h1]
      split at hx
      · rename_i h2; simp only [h2]
        split at hx
        · cases hx; exact ⟨‹_›, hk⟩
        · cases hx
      · cases hx
    · rename_i h1; cases hx; simp only [h1]; exact hk
    · cases hx
  · obtain ⟨v, hv, rfl⟩ := map_some hx
    exact binX_sound he hv hk
  · obtain ⟨v, hv, rfl⟩ := map_some hx
    exact unX_sound hv hk
  · split at hx
    · rename_i h1 h2; simp only [h1, h2]
      split at hx
      · obtain ⟨v, hv, rfl⟩ := map_some hx
        exact ⟨‹_›, arithX_sound hv hk⟩
      · cases hx
    · cases hx
  · split at hx
    · cases hx
    · rename_i hf; cases hx; exact ⟨fun l hl => hf l hl, hk⟩
  · cases hx; exact hk
  · split at hx
    · rename_i h1; simp only [h1]
      split at hx
      · rename_i h2 h3 h4; simp only [h2, h3, h4]
        split at hx
        · rename_i h5
          refine ⟨h5.1, h5.2.1, all_mem h5.2.2, ?_⟩
          split at hx
          · rename_i n hn
            split at hx
            · rename_i h6; cases hx; exact makeX_sound hn ⟨h6.1, h6.2, hk⟩
            · cases hx
          · cases hx
        · cases hx
      · cases hx
    · cases hx
  · split at hx
    · rename_i h1; simp only [h1]
      split at hx
      · rename_i h2; simp only [h2]
        split at hx
        · rename_i hq; simp only [hq]
          split at hx
          · rename_i h3; simp only [h3]
            split at hx
            · rename_i h4
              obtain ⟨v, hv, rfl⟩ := map_some hx
              exact ⟨h4.1, h4.2, cutOX_sound hv hk⟩
            · cases hx
          · cases hx
        · rename_i hq
          obtain ⟨v, hv, rfl⟩ := map_some hx
          split
          · rename_i e; exact (hq _ _ _ _ e).elim
          · exact sliceX_sound hv hk
      · cases hx
    · cases hx
  · split at hx
    · rename_i h1; simp only [h1]
      split at hx
      · rename_i h2 h3; simp only [h2, h3]
        split at hx
        · refine ⟨‹_›, ?_⟩
          split at hx
          · rename_i h4; simp only [h4]
            split at hx
            · cases hx; exact ⟨‹_›, hk⟩
            · cases hx
          · cases hx
        · cases hx
      · rename_i h2 h3; simp only [h2, h3]
        split at hx
        · cases hx; exact ⟨‹_›, hk⟩
        · cases hx
      · cases hx
    · cases hx
  · split at hx
    · rename_i h1 h2; simp only [h1, h2]
      obtain ⟨v, hv, rfl⟩ := map_some hx
      exact loadX_sound hv hk
    · cases hx
  · split at hx
    · rename_i h0; simp only [h0]
      split at hx
      · rename_i h1; simp only [h1]
        split at hx
        · rename_i h2 h3; simp only [h2, h3]
          split at hx
          · rename_i h4; cases hx; exact ⟨h4.1, h4.2.1, h4.2.2, hk⟩
          · cases hx
        · rename_i h2 h3; simp only [h2, h3]
          split at hx
          · rename_i h4
            refine ⟨h4.1, h4.2, ?_⟩
            split at hx
            · rename_i h5; simp only [h5]
              split at hx
              · cases hx; exact ⟨‹_›, hk⟩
              · cases hx
            · cases hx
          · cases hx
        · cases hx
      · rename_i h1; simp only [h1]
        split at hx
        · rename_i h2; simp only [h2]
          split at hx
          · rename_i h3 h4; simp only [h3, h4]
            split at hx
            · rename_i h5
              refine ⟨h5.1, h5.2, ?_⟩
              split at hx
              · rename_i h6; simp only [h6]
                split at hx
                · cases hx; exact ⟨‹_›, hk⟩
                · cases hx
              · cases hx
            · cases hx
          · rename_i h3 h4; simp only [h3, h4]
            split at hx
            · rename_i h5; cases hx; exact ⟨h5.1, h5.2, hk⟩
            · cases hx
          · cases hx
        · cases hx
    · cases hx
  · split at hx
    · rename_i h1 h2 h3; simp only [h1, h2, h3]
      split at hx
      · rename_i h4; simp only [h4]
        split at hx
        · rename_i h5
          obtain ⟨v, hv, rfl⟩ := map_some hx
          exact ⟨h5.1, h5.2, loadX_sound hv hk⟩
        · cases hx
      · cases hx
    · rename_i h1 h2 h3; simp only [h1, h2, h3]
      split at hx
      · rename_i h4
        refine ⟨h4, ?_⟩
        split at hx
        · rename_i h5; cases hx; simp only [chrK, h5]; exact hk
        · cases hx
      · cases hx
    · cases hx
  · split at hx
    · rename_i h1; simp only [h1]
      split at hx
      · rename_i h2; simp only [h2]
        split at hx
        · rename_i h3
          refine ⟨keyX_sound he h3.1, h3.2, ?_⟩
          split at hx
          · rename_i h4
            refine mapOX_sound h4 ?_
            split at hx
            · rename_i h6; cases hx; simp only [h6]; exact hk
            · rename_i h6; cases hx; simp only [h6]; exact hk
            · cases hx
          · cases hx
        · cases hx
      · cases hx
    · cases hx
  · split at hx
    · rename_i h1; simp only [h1]
      split at hx
      · rename_i h2; simp only [h2]
        split at hx
        · rename_i h3
          refine ⟨keyX_sound he h3, ?_⟩
          split at hx
          · rename_i h4; simp only [h4]
            split at hx
            · rename_i h6; cases hx; simp only [h6]; exact hk
            · rename_i h6; cases hx; simp only [h6]; exact hk
            · cases hx
          · cases hx
        · cases hx
      · cases hx
    · cases hx
  · split at hx
    · rename_i h1; simp only [h1]
      obtain ⟨v, hv, rfl⟩ := map_some hx
      simp only [hv]; exact hk
    · cases hx
  · split at hx
    · rename_i h1; simp only [h1]
      exact builtinX_sound hx hk
    · cases hx
  · cases hx
end Go.Am
namespace Go.Am
open Go.RowKit
structure Frm (H H' : List (Option ABlk)) (W : List Nat) : Prop where
  same : ∀ b, b ∉ W → hget H' b = hget H b
  some : ∀ b, b ∈ W → ∃ k, hget H' b = some k
theorem Frm.refl (H : List (Option ABlk)) : Frm H H [] := ⟨fun _ _ => rfl, fun b hb => by simp at hb⟩
theorem Frm.trans {H H' H'' : List (Option ABlk)} {W W' : List Nat} (a : Frm H H' W) (b : Frm H' H'' W') : Frm H H'' (W ++ W') := by
  refine ⟨fun c hc => ?_, fun c hc => ?_⟩
  · simp only [List.mem_append, not_or] at hc
    exact (b.same c hc.2).trans (a.same c hc.1)
  · by_cases h : c ∈ W'
    · exact b.some c h
    · rw [b.same c h]
      rcases List.mem_append.1 hc with h1 | h1
      · exact a.some c h1
      · exact absurd h1 h
theorem Frm.set (H : List (Option ABlk)) (b : Nat) (k : ABlk) : Frm H (hset H b k) [b] := by
  refine ⟨fun c hc => ?_, fun c hc => ?_⟩
  · rw [hget_set, if_neg (by simpa using hc)]
  · rw [hget_set, if_pos (by simpa using hc)]; exact ⟨k, rfl⟩
theorem Frm.congr {H H' : List (Option ABlk)} {W W' : List Nat} (a : Frm H H' W) (h : ∀ b, b ∈ W ↔ b ∈ W') : Frm H H' W' :=
  ⟨fun b hb => a.same b (fun h' => hb ((h b).1 h')), fun b hb => a.some b ((h b).2 hb)⟩
theorem wrote_keys : ∀ (l : List (Nat × ABlk)) (b : Nat), wrote b l = true ↔ b ∈ wkeys l
  | [], b => by simp [wrote, wkeys]
  | (c, k) :: l, b => by
    simp only [wrote, wkeys, Bool.or_eq_true, wrote_keys l b, List.mem_cons]
    constructor
    · rintro (h | h)
      · exact .inl (Nat.eq_of_beq_eq_true h).symm
      · exact .inr h
    · rintro (h | h)
      · subst h; exact .inl (by simp)
      · exact .inr h
theorem wlog_at (H' : List (Option ABlk)) : ∀ (W : List Nat) (f : Nat → Option ABlk) (b : Nat), (∀ c, c ∈ W → ∃ k, hget H' c = some k) → updl f (wlog H' W) b = if b ∈ W then hget H' b else f b
  | [], f, b, _ => by simp [wlog, updl]
  | c :: W, f, b, h => by
    obtain ⟨k, hk⟩ := h c (by simp)
    simp only [wlog, hk, updl]
    rw [wlog_at H' W _ b (fun d hd => h d (by simp [hd]))]
    by_cases hb : b ∈ W
    · simp [hb]
    · by_cases hc : b = c
      · subst hc; simp [hb, upd_same, hk]
      · simp [hb, hc, upd_ne]
theorem wlog_upd {H H' : List (Option ABlk)} {W : List Nat} (f : Frm H H' W) : hget H' = updl (hget H) (wlog H' W) := by
  funext b
  rw [wlog_at H' W _ b f.some]
  split
  · rfl
  · exact f.same b ‹_›
theorem wlog_keys {H' : List (Option ABlk)} : ∀ {W : List Nat}, (∀ c, c ∈ W → ∃ k, hget H' c = some k) → wkeys (wlog H' W) = W
  | [], _ => rfl
  | c :: W, h => by
    obtain ⟨k, hk⟩ := h c (by simp)
    simp only [wlog, hk, wkeys]
    rw [wlog_keys (fun d hd => h d (by simp [hd]))]
def SemF (P : Program) (g : FuncId) (as : List AV) (H : List (Option ABlk)) (r : AV) (H' : List (Option ABlk)) : Prop :=
  Enters P g ∧ ∀ [Base] (w0 : World) (m : Nat → Option Loc) (w : World) (vs : List Value), Good w0 (hget H) m w → as.length = vs.length → (∀ j (a : j < as.length) (b : j < vs.length), Rep (hget H) m w as[j] vs[j]) →
    CallsIn (FW none) 0 P g vs.toArray w fun e w' => ∃ v m', e = .returned v ∧ Good w0 (hget H') m' w' ∧ Ext (hget H) m w (hget H') m' w' ∧ Rep (hget H') m' w' r v
def SemY (P : Program) (b : Nat) (as : List AV) (H : List (Option ABlk)) (r : AV) (H' : List (Option ABlk)) : Prop :=
  ∀ [Base] (w0 : World) (m : Nat → Option Loc) (w : World) (vs : List Value) (l : Loc), Good w0 (hget H) m w → m b = some l → as.length = vs.length → (∀ j (a : j < as.length) (b : j < vs.length), Rep (hget H) m w as[j] vs[j]) →
    ∃ fn tm asg body, (Instr.yield l.c vs.toArray).run P w = .ok (.round l.c fn tm asg body) w ∧ RoundIn (FW none) 0 P l.c fn tm asg body w fun e w' => ∃ v m', e = .returned v ∧ Good w0 (hget H') m' w' ∧ Ext (hget H) m w (hget H') m' w' ∧ Rep (hget H') m' w' r v
def Sem (P : Program) (fv : AV) (as : List AV) (H : List (Option ABlk)) (r : AV) (H' : List (Option ABlk)) : Prop :=
  match fv with
  | .fn (.func g) first caps => SemF P g (first ++ as ++ caps) H r H'
  | .fn (.yield b) [] [] => SemY P b as H r H'
  | _ => False
def CvOK (P : Program) (cv : Cv) : Prop := ∀ fv as H r H' W, cv fv as H = some (r, H', W) → Frm H H' W ∧ Sem P fv as H r H'
section
variable [Base] {P : Program} {w0 : World} {h : Nat → Option ABlk} {m : Nat → Option Loc} {w : World}
theorem rep_yld {b : Nat} {xs ys : List AV} {v : Value} (r : Rep h m w (.fn (.yield b) xs ys) v) : xs = [] ∧ ys = [] ∧ ∃ l, m b = some l ∧ v = .func (.yield l.c) #[] #[] := by
  cases r with
  | pure p => cases p with | fn us vs hf => exact absurd rfl (hf b)
  | yld hb hk hm => exact ⟨rfl, rfl, _, hm, rfl⟩
  | fn us vs hf => exact absurd rfl (hf b)
omit [Base] in
theorem wp_round {r : Option Nat} {o : Oper} {a : Act} {l : Nat} {fn : FuncId} {tm : Array Value} {asg body : Code} {next : Act → World → Prop} {Q : Exit → Act → World → Prop} {R : Ending → World → Prop} (hnd : ∀ c, o.op ≠ .defer c)
    (hrun : (execOp a.eval o).run P w = .ok (.round l fn tm asg body) w) (hc : RoundIn (FW none) 0 P l fn tm asg body w R) (hR : ∀ e w', R e w' → ∃ v, e = .returned v ∧ next (a.put o.dst v) w') : o.wpIn (FW r) 0 P a w next Q := by
  refine ⟨fun _ _ => trivial, ?_⟩
  rw [Oper.semAt_eq _ _ _ hnd, hrun, Oper.uponIn_round]
  refine ⟨fun hh => by simp [FW] at hh, ?_⟩
  have hc' : RoundIn (FW r) 0 P l fn tm asg body w R := hc
  refine hc'.mono fun e w' he => ?_
  obtain ⟨v, rfl, hv⟩ := hR e w' he
  exact hv
theorem call_ok {r : Option Nat} {o : Oper} {f : Operand} {args : Array Operand} {ts : Array TypeId} {T : List AV} {H H' : List (Option ABlk)} {W : List Nat} {y : AV} (ho : o.op = .call ⟨.value f, args, ts⟩)
    (hf : Frm H H' W) (hs : Sem P (aev T f) (args.toList.map (aev T)) H y H') : OpOK2 P w0 r o (aev T) (hget H) ⟨y, [], wlog H' W, true⟩ := by
  intro h' m w ac next Q _ _ hall hg hop hnext
  have hh := hall rfl
  subst hh
  simp only at hnext
  rw [← wlog_upd hf] at hnext
  have h1 := hop f (by simp [ho, Op.operands, Call.operands])
  have hargs : ∀ j (a : j < (args.toList.map (aev T)).length) (c : j < (args.toList.map ac.eval).length), Rep (hget H) m w (args.toList.map (aev T))[j] (args.toList.map ac.eval)[j] := by
    intro j a c
    simp only [List.getElem_map]
    exact hop _ (by simp [ho, Op.operands, Call.operands])
  generalize hfv : aev T f = fv at *
  match fv, hs with
  | .fn (.func g) first caps, hs =>
    obtain ⟨us, vs, he, l1, l2, r1, r2⟩ := rep_fn h1
    have hlen : (first ++ args.toList.map (aev T) ++ caps).length = (us ++ args.toList.map ac.eval ++ vs).length := by simp [l1, l2]
    have hreps := getElem_append3 l1 (by simp) r1 hargs r2
    have hc := hs.2 w0 m w (us ++ args.toList.map ac.eval ++ vs) hg hlen hreps
    have hrun : (execOp ac.eval o).run P w = .ok (.enter g (us ++ args.toList.map ac.eval ++ vs).toArray) w := by
      have e1 : us.toArray ++ args.map ac.eval ++ vs.toArray = (us ++ args.toList.map ac.eval ++ vs).toArray := by
        apply Array.toList_inj.1; simp
      simp only [execOp, ho, resolve, he, Deferred.ofValue, Sem.run_bind, Sem.run_pure, Result.andThen_ok, invoke]
      rw [e1]
      exact hs.1 w _
    refine wp_call (by simp [ho]) hrun hc (fun e w' hR => ?_)
    obtain ⟨v, m', rfl, g1, e1, rr⟩ := hR
    exact ⟨v, rfl, hnext v w' m' g1 e1 rr⟩
  | .fn (.yield b) [] [], hs =>
    obtain ⟨_, _, l, hl, he⟩ := rep_yld h1
    obtain ⟨fn, tm, asg, body, hy, hr⟩ := hs w0 m w (args.toList.map ac.eval) l hg hl (by simp) hargs
    have hrun : (execOp ac.eval o).run P w = .ok (.round l.c fn tm asg body) w := by
      have e1 : (#[] : Array Value) ++ args.map ac.eval = (args.toList.map ac.eval).toArray := by
        apply Array.toList_inj.1; simp
      simp only [execOp, ho, resolve, he, Deferred.ofValue, Sem.run_bind, Sem.run_pure, Result.andThen_ok, invoke]
      rw [e1]
      exact hy
    refine wp_round (by simp [ho]) hrun hr (fun e w' hR => ?_)
    obtain ⟨v, m', rfl, g1, e1, rr⟩ := hR
    exact ⟨v, rfl, hnext v w' m' g1 e1 rr⟩
omit [Base] in
theorem mapO_some {f : AV → Option AV} : ∀ {xs ys : List AV}, mapO f xs = some ys → ys.length = xs.length ∧ ∀ j (a : j < xs.length) (b : j < ys.length), f xs[j] = some ys[j]
  | [], ys, h => by simp [mapO] at h; subst h; exact ⟨rfl, fun j a => by simp at a⟩
  | x :: xs, ys, h => by
    simp only [mapO] at h
    split at h
    · rename_i y hy
      split at h
      · rename_i zs hz
        cases h
        obtain ⟨h1, h2⟩ := mapO_some hz
        refine ⟨by simp [h1], fun j a b => ?_⟩
        cases j with
        | zero => exact hy
        | succ j => exact h2 j (by simpa using a) (by simpa using b)
      · cases h
    · cases h
theorem outX_sound : ∀ (n : Nat) {x y : AV} {v : Value}, outX h n x = some y → Good w0 h m w → Rep h m w x v → PRep (OkB w) w y v ∧ v.oneCell' = true := by
  intro n
  induction n with
  | zero =>
    intro x y v hx hg hr
    simp only [outX] at hx
    split at hx
    · rename_i hp; cases hx; exact ⟨ok_okB (prep_pure hr hp), one_of_pure hr hp⟩
    · cases hx
  | succ n ih =>
    intro x y v hx hg hr
    simp only [outX] at hx
    split at hx
    · rename_i b g off len
      split at hx
      · rename_i t sz g' xs hb
        split at hx
        · rename_i hc
          obtain ⟨rfl, rfl⟩ := hc
          split at hx
          · rename_i ys hys
            cases hx
            obtain ⟨h1, h2⟩ := mapO_some hys
            rcases rep_osl hr hb with ⟨hm, _, rfl, rfl⟩ | ⟨l, cap, hm, rfl, hc1, hc2, hc3⟩
            · rcases hg.blk b _ hb with ⟨_, h2⟩ | ⟨l', arr, h2, _⟩
              · subst h2
                have : ys = [] := List.eq_nil_of_length_eq_zero (by simpa using h1)
                subst this
                exact ⟨.psle (Nat.le_refl _) (by simp) (by simp), rfl⟩
              · rw [hm] at h2; cases h2
            · obtain ⟨arr, hheap, hasz, hlen, vs, hvs, hcell, hrep⟩ := blk_cells hg hb hm
              refine ⟨.psl vs hc1 (by simp) ⟨hg.fresh _ (.inl ⟨b, l, hm, rfl⟩), hg.lt hm⟩ (fun j hj => hcell j (by omega)) (fun j hj => ?_), rfl⟩
              exact (ih (h2 j (by omega) hj) hg (hrep j (by omega))).1
          · cases hx
        · cases hx
      · cases hx
    · split at hx
      · rename_i hp; cases hx; exact ⟨ok_okB (prep_pure hr hp), one_of_pure hr hp⟩
      · cases hx
theorem outAX_sound {x y : AV} {v : Value} (hx : outAX h x = some y) (hg : Good w0 h m w) (hr : Rep h m w x v) : PRep (OkB w) w y v := by
  unfold outAX at hx
  split at hx
  · obtain ⟨ys, hys, rfl⟩ := map_some hx
    obtain ⟨us, rfl, l1, l2, l3⟩ := rep_agg hr
    obtain ⟨h1, h2⟩ := mapO_some hys
    exact .agg us (by omega) l2 (fun j a b => (outX_sound 3 (h2 j (by omega) a) hg (l3 j (by omega) b)).1)
  · exact (outX_sound 3 hx hg hr).1
theorem outRX_sound {x y : AV} {v : Value} (hx : outRX h x = some y) (hg : Good w0 h m w) (hr : Rep h m w x v) : PRep (OkB w) w y v := by
  unfold outRX at hx
  split at hx
  · obtain ⟨ys, hys, rfl⟩ := map_some hx
    obtain ⟨us, rfl, l1, l3⟩ := rep_tup hr
    obtain ⟨h1, h2⟩ := mapO_some hys
    exact .tup us (by omega) (fun j a b => outAX_sound (h2 j (by omega) a) hg (l3 j (by omega) b))
  · exact outAX_sound hx hg hr
end
theorem callS_of_semF {P : Program} {g : FuncId} {as : List AV} {r y : AV} {H' : List (Option ABlk)} (hs : SemF P g as [] r H') (ho : outRX (hget H') r = some y) : CallS P g as y := by
  refine ⟨hs.1, fun w vs ok hok hlen hrep => ?_⟩
  letI : Base := ⟨fun c => ok c ∨ w.heap.size ≤ c⟩
  have hg : Good w (hget []) (fun _ => none) w := ⟨Below.refl _ _, by simp, by simp, by simp, fun b k hk => by simp [hget] at hk, fun b st pend fn T ps asg body d hk => by simp [hget] at hk, fun c hc => .inr (hc.elim (fun ⟨_, _, h1, _⟩ => by cases h1) id)⟩
  refine (hs.2 w (fun _ => none) w vs hg hlen (fun j a b => .pure ((hrep j a b).mono (fun _ _ => rfl) (fun c hc => ⟨hok c hc, by simp, .inl hc⟩)))).mono ?_
  rintro e w' ⟨v, m', rfl, g1, e1, rr⟩
  refine ⟨v, rfl, (outRX_sound ho g1 rr).mono (fun _ _ => rfl) (fun c hc => ?_), g1.below⟩
  rcases hc with ⟨h1 | h1, h2⟩
  · exact .inl h1
  · exact .inr ⟨h1, h2⟩
section
variable [Base] {P : Program} {w0 : World} {r : Option Nat} {eqt : TypeId → Bool} {pm : FuncId → Bool} {cv : Cv}
theorem opX_sound (he : ∀ t, eqt t = true → EqOK P t) (hcv : CvOK P cv) {o : Oper} {s : St} {e : Ef} {H' : List (Option ABlk)} (hx : opX P eqt pm cv o s = some (e, H')) :
    OpOK2 P w0 r o (aev s.T) (hget s.H) e ∧ hget H' = updl (hget s.H) e.wr ∧ ∀ b, b ∈ wkeys e.wr → ∃ k, hget H' b = some k := by
  have call : ∀ {f : Operand} {args : Array Operand} {ts : Array TypeId}, o.op = .call ⟨.value f, args, ts⟩ → callX cv (aev s.T f) (args.toList.map (aev s.T)) s.H = some (e, H') →
      OpOK2 P w0 r o (aev s.T) (hget s.H) e ∧ hget H' = updl (hget s.H) e.wr ∧ ∀ b, b ∈ wkeys e.wr → ∃ k, hget H' b = some k := by
    intro f args ts ho hx
    unfold callX at hx
    split at hx
    · rename_i y H1 W hc
      cases hx
      obtain ⟨hf, hs⟩ := hcv _ _ _ _ _ _ hc
      refine ⟨call_ok ho hf hs, wlog_upd hf, fun b hb => ?_⟩
      simp only [wlog_keys hf.some] at hb
      exact hf.some b hb
    · cases hx
  have plain : (match effX P eqt o (aev s.T) (hget s.H) s.H.length with
      | some e => some (lift e, hseto s.H e.wr)
      | none => none) = some (e, H') → OpOK2 P w0 r o (aev s.T) (hget s.H) e ∧ hget H' = updl (hget s.H) e.wr ∧ ∀ b, b ∈ wkeys e.wr → ∃ k, hget H' b = some k := by
    intro hx
    split at hx
    · rename_i e0 he0
      cases hx
      obtain ⟨e1, rfl, hok⟩ := effK_sound (w0 := w0) (r := r) (K := fun e => e = e0) (hget_length s.H _ (Nat.le_refl _)) (effX_sound he he0 rfl)
      refine ⟨hok.lift, ?_, ?_⟩
      · obtain ⟨val, rd, wr⟩ := e1
        cases wr with
        | none => rfl
        | some p => obtain ⟨b, k⟩ := p; funext i; simp only [lift, hseto, updl, upd, hget_set]
      · obtain ⟨val, rd, wr⟩ := e1
        intro b hb
        cases wr with
        | none => simp [lift, wkeys] at hb
        | some p =>
          obtain ⟨c, k⟩ := p
          simp only [lift, wkeys, List.mem_cons, List.not_mem_nil, or_false] at hb
          subst hb
          exact ⟨k, by simp [hseto, hget_set]⟩
    · cases hx
  unfold opX at hx
  split at hx
  · rename_i f args ts ho
    split at hx
    · rename_i g first caps hfv
      split at hx
      · rename_i hp
        split at hx
        · rename_i y hy
          cases hx
          refine ⟨?_, rfl, fun b hb => by simp [wkeys] at hb⟩
          unfold pcallX at hy
          split at hy
          · rename_i y0 H1 W hc
            obtain ⟨_, hs⟩ := hcv _ _ _ _ _ _ hc
            have hs' : SemF P g (first ++ args.toList.map (aev s.T) ++ caps) [] y0 H1 := by simpa [Sem] using hs
            have hcall := callS_of_semF hs' hy
            obtain ⟨e1, rfl, hok⟩ := sound_call (w0 := w0) (r := r) (ρ := aev s.T) (h := hget s.H) (nx := 0) (K := fun e => e = ⟨y, [], none⟩) ho (by
              simp only [effK, ho, hfv]
              exact ⟨List.all_eq_true.1 hp.2, y, hcall, rfl⟩)
            exact hok.lift
          · cases hy
        · cases hx
      · rw [← hfv] at hx; exact call ho hx
    · exact call ho hx
  · exact plain hx
omit [Base] in
theorem updl_keys {f : Nat → Option ABlk} {l : List (Nat × ABlk)} {b : Nat} (hb : b ∉ wkeys l) : updl f l b = f b :=
  updl_not l f b (by cases hw : wrote b l with | false => rfl | true => exact absurd ((wrote_keys l b).1 hw) hb)
theorem opX_sound3 (he : ∀ t, eqt t = true → EqOK P t) (hcv : CvOK P cv) {o : Oper} {s : St} {e : Ef} {H' : List (Option ABlk)} (hx : opX P eqt pm cv o s = some (e, H')) :
    OpOK3 P w0 r o (aev s.T) (hget s.H) (efX o.op e) (plX o.op e) ∧ ∀ q, q ∈ plX o.op e → Gen (hget s.H) q := by
  have h2 := (opX_sound (w0 := w0) (r := r) he hcv hx).1
  have hx0 := hx
  unfold opX at hx
  split at hx
  · rename_i f args ts ho
    have e1 : efX o.op e = e := by rw [ho]; rfl
    have e2 : plX o.op e = [] := by rw [ho]; rfl
    rw [e1, e2]
    exact ⟨h2.three, fun q hq => by cases hq⟩
  · split at hx
    · rename_i e0 he0
      cases hx
      obtain ⟨e1, rfl, hok, hg⟩ := step3 (w0 := w0) (r := r) (K := fun e => e = e0) (hget_length s.H _ (Nat.le_refl _)) (effX_sound he he0 rfl)
      rw [(efX_lift o.op e1).1, (efX_lift o.op e1).2]
      exact ⟨hok, hg⟩
    · cases hx
theorem xops_sound (he : ∀ t, eqt t = true → EqOK P t) (hcv : CvOK P cv) {all : Array Oper} : ∀ (os : List Oper) (i : Nat) (s s' : St) (es : List Ef), (∀ k, os[k]? = all[i + k]?) → xops P eqt pm cv all os s = some (s', es) →
    Trace2 P w0 r all i s.f es s'.f ∧ es.length = os.length ∧ Frm s.H s'.H (wall es) ∧ s'.D = s.D ∧ s'.T.length = s.T.length
  | [], i, s, s', es, _, hx => by
    simp only [xops, Option.some.injEq, Prod.mk.injEq] at hx
    obtain ⟨rfl, rfl⟩ := hx
    exact ⟨.nil i _, rfl, Frm.refl _, rfl, rfl⟩
  | o :: os, i, s, s', es, hos, hx => by
    have ho : all[i]? = some o := by have := hos 0; simpa using this.symm
    have hos' : ∀ k, os[k]? = all[i + 1 + k]? := fun k => by have := hos (k + 1); simp at this; rw [this]; congr 1; omega
    simp only [xops] at hx
    split at hx
    · rename_i hg
      split at hx
      · rename_i e H' hop
        obtain ⟨h1, h2, h3⟩ := opX_sound (w0 := w0) (r := r) he hcv hop
        split at hx
        · rename_i s1 es1 hrest
          simp only [Option.some.injEq, Prod.mk.injEq] at hx
          obtain ⟨rfl, rfl⟩ := hx
          obtain ⟨t1, t2, t3, t4, t5⟩ := xops_sound he hcv os (i + 1) _ _ _ hos' hrest
          refine ⟨.run (s := s.f) ho hg h1 ?_, by simp [t2], ?_, t4, by rw [t5]; exact lseto_length _ _ _⟩
          · have : (⟨lseto s.T o.dst e.val, H', s.D⟩ : St).f = ⟨lseto s.f.T o.dst e.val, updl s.f.h e.wr, s.f.D⟩ := by
              simp only [St.f]; rw [h2]
            rw [← this]; exact t1
          · refine Frm.trans (H' := H') ⟨fun b hb => ?_, h3⟩ t3
            rw [h2]; exact updl_keys hb
        · cases hx
      · cases hx
    · rename_i hg
      split at hx
      · rename_i s1 es1 hrest
        simp only [Option.some.injEq, Prod.mk.injEq] at hx
        obtain ⟨rfl, rfl⟩ := hx
        obtain ⟨t1, t2, t3, t4, t5⟩ := xops_sound he hcv os (i + 1) _ _ _ hos' hrest
        exact ⟨.skip (s := s.f) ho hg t1, by simp [t2], by simpa [wall, wkeys] using t3, t4, by rw [t5]; exact lseto_length _ _ _⟩
      · cases hx
    · cases hx
theorem xops_sound3 (he : ∀ t, eqt t = true → EqOK P t) (hcv : CvOK P cv) {all : Array Oper} : ∀ (os : List Oper) (i : Nat) (s s' : St) (es : List Ef), (∀ k, os[k]? = all[i + k]?) → xops P eqt pm cv all os s = some (s', es) →
    Trace3 P w0 r all i s.f (efsX os es) (plsX os es) s'.f ∧ es.length = os.length
  | [], i, s, s', es, _, hx => by
    simp only [xops, Option.some.injEq, Prod.mk.injEq] at hx
    obtain ⟨rfl, rfl⟩ := hx
    exact ⟨.nil i _, rfl⟩
  | o :: os, i, s, s', es, hos, hx => by
    have ho : all[i]? = some o := by have := hos 0; simpa using this.symm
    have hos' : ∀ k, os[k]? = all[i + 1 + k]? := fun k => by have := hos (k + 1); simp at this; rw [this]; congr 1; omega
    simp only [xops] at hx
    split at hx
    · rename_i hg
      split at hx
      · rename_i e H' hop
        obtain ⟨_, h2, _⟩ := opX_sound (w0 := w0) (r := r) he hcv hop
        obtain ⟨g1, g2⟩ := opX_sound3 (w0 := w0) (r := r) he hcv hop
        split at hx
        · rename_i s1 es1 hrest
          simp only [Option.some.injEq, Prod.mk.injEq] at hx
          obtain ⟨rfl, rfl⟩ := hx
          obtain ⟨t1, t2⟩ := xops_sound3 he hcv os (i + 1) _ _ _ hos' hrest
          refine ⟨.run (s := s.f) ho hg g2 g1 ?_, by simp [t2]⟩
          rw [(efX_wr o.op e).1, (efX_wr o.op e).2]
          have : (⟨lseto s.T o.dst e.val, H', s.D⟩ : St).f = ⟨lseto s.f.T o.dst e.val, updl s.f.h e.wr, s.f.D⟩ := by
            simp only [St.f]; rw [h2]
          rw [← this]; exact t1
        · cases hx
      · cases hx
    · rename_i hg
      split at hx
      · rename_i s1 es1 hrest
        simp only [Option.some.injEq, Prod.mk.injEq] at hx
        obtain ⟨rfl, rfl⟩ := hx
        obtain ⟨t1, t2⟩ := xops_sound3 he hcv os (i + 1) _ _ _ hos' hrest
        refine ⟨?_, by simp [t2]⟩
        have e1 : efX o.op ⟨.tup [], [], [], false⟩ = ⟨.tup [], [], [], false⟩ := by unfold efX; split <;> first | rfl | (rename_i h; cases h)
        have e2 : plX o.op ⟨.tup [], [], [], false⟩ = [] := by unfold plX; split <;> first | rfl | (rename_i h; cases h)
        simp only [efsX, plsX, e1, e2]
        exact .skip (s := s.f) ho hg t1
      · cases hx
    · cases hx
end
end Go.Am
namespace Go.Am
open Go.RowKit
section
variable {F : Fence} {n : Nat} {P : Program} {Q : Exit → Act → World → Prop} {a : Act} {w : World}
theorem stepR_scope' {b : Frame} {c : Code} {k : List Item} {cs : List Frame} : step P (lone (b.atR a (.code (.scope c) :: k)) cs w) = .next (lone (b.atR a (.code c :: .inScope c :: k)) cs w) :=
  step_lone_go (by simp [stepG, stepG.exec, Frame.atR])
theorem stepR_inScope' {b : Frame} {c : Code} {k : List Item} {cs : List Frame} : step P (lone (b.atR a (.inScope c :: k)) cs w) = .next (lone (b.atR a k) cs w) :=
  step_lone_go (by simp [stepG, stepG.exec, Frame.atR])
theorem wpIn_scope {c : Code} (h : c.wpIn F n P (fun e a w => (∀ l, e ≠ .goto l) ∧ Q e a w) a w) : (Code.scope c).wpIn F n P Q a w := by
  intro b k cs hro hb hr
  have h0 : (lone (b.atR a (.code (.scope c) :: k)) cs w).fenced P F := fenced_calm hb hr rfl
  obtain ⟨e, a₁, w₁, ⟨hne, hq⟩, harr⟩ := h b (.inScope c :: k) cs hro hb hr
  cases e with
  | normal => exact ⟨.normal, a₁, w₁, hq, .head h0 stepR_scope' (StepsIn.trans harr (.one (fenced_calm hb hr rfl) stepR_inScope'))⟩
  | exit id =>
    have hx : exitTo id (.inScope c :: k) = exitTo id k := by simp [exitTo]
    exact ⟨_, a₁, w₁, hq, fun k' hk => .head h0 stepR_scope' (harr.1 k' (by rw [hx]; exact hk)),
      fun hr' hk => let ⟨k₁, h1, h2⟩ := harr.2 hr' (by rw [hx]; exact hk); ⟨k₁, h1, .head h0 stepR_scope' h2⟩⟩
  | goto l => exact absurd rfl (hne l)
  | ret => exact ⟨_, a₁, w₁, hq, .of_steps (.one h0 stepR_scope') harr⟩
  | panic ch => exact ⟨_, a₁, w₁, hq, .of_steps (.one h0 stepR_scope') harr⟩
  | outgrown => exact ⟨_, a₁, w₁, hq, .of_steps (.one h0 stepR_scope') harr⟩
end
def XSem (P : Program) (rd : Bool) (c : Code) (s : St) (e : Exit) (s' : St) : Prop :=
  ∀ [Base] (w0 : World) (r : Option Nat) (hid : List Nat) (m : Nat → Option Loc) (a : Act) (w : World), (rd = false → r = none) → SatM w0 hid (lget s.T) s.T.length (hget s.H) s.D m a w →
    c.wpIn (FW r) 0 P (fun e' a' w' => e' = e ∧ ∃ m', SatM w0 hid (lget s'.T) s'.T.length (hget s'.H) s'.D m' a' w' ∧ Ext (hget s.H) m w (hget s'.H) m' w') a w
section
variable {P : Program} {eqt : TypeId → Bool} {pm : FuncId → Bool} {cv : Cv} {lf : Nat} {rd : Bool}
theorem satM_bool [Base] {w0 : World} {hid : List Nat} {s : St} {m : Nat → Option Loc} {a : Act} {w : World} (hs : SatM w0 hid (lget s.T) s.T.length (hget s.H) s.D m a w) {c : Operand} {b : Bool} (hc : aev s.T c = .bool b) : a.eval c = .bool b := by
  have := hs.eval s.T rfl c (fun _ _ _ => rfl)
  rw [hc] at this
  exact rep_bool this
theorem xloop_sound {c : Code} (f : St → Option (Exit × St × List Nat)) (hf : ∀ s e s' W, f s = some (e, s', W) → Frm s.H s'.H W ∧ XSem P rd c s e s') :
    ∀ n s e s' W, xloop f n s = some (e, s', W) → Frm s.H s'.H W ∧ XSem P rd (.loop c) s e s' := by
  intro n s e s' W hx
  constructor
  · induction n generalizing s W with
    | zero => simp [xloop] at hx
    | succ n ih =>
      simp only [xloop] at hx
      split at hx
      · rename_i s1 W1 h1
        split at hx
        · rename_i e2 s2 W2 h2
          cases hx
          exact (hf _ _ _ _ h1).1.trans (ih _ _ h2)
        · cases hx
      · exact (hf _ _ _ _ hx).1
  · intro _ w0 r hid m a w hr hs
    refine wpIn_loop_g (γ := { p : Nat × St // ∃ W, xloop f p.1 p.2 = some (e, s', W) }) (fun g a' w' => ∃ m1, SatM w0 hid (lget g.1.2.T) g.1.2.T.length (hget g.1.2.H) g.1.2.D m1 a' w' ∧ Ext (hget s.H) m w (hget g.1.2.H) m1 w') (fun g => g.1.1) ⟨(n, s), W, hx⟩ ⟨m, hs, Ext.refl _ _ _⟩ ?_
    rintro ⟨⟨k, s1⟩, W1, hk⟩ a1 w1 ⟨m1, hs1, ex1⟩
    simp only at hk hs1 ex1 ⊢
    cases k with
    | zero => simp [xloop] at hk
    | succ k =>
      simp only [xloop] at hk
      split at hk
      · rename_i s2 W2 h1
        split at hk
        · rename_i e3 s3 W3 h2
          simp only [Option.some.injEq, Prod.mk.injEq] at hk
          obtain ⟨rfl, rfl, _⟩ := hk
          refine wpIn_mono ((hf _ _ _ _ h1).2 w0 r hid m1 a1 w1 hr hs1) ?_
          rintro e' a' w' ⟨rfl, m', hs', ex'⟩
          exact ⟨⟨(k, s2), W3, h2⟩, Nat.lt_succ_self _, m', hs', ex1.trans ex'⟩
        · cases hk
      · rename_i hne
        refine wpIn_mono ((hf _ _ _ _ hk).2 w0 r hid m1 a1 w1 hr hs1) ?_
        rintro e' a' w' ⟨rfl, m', hs', ex'⟩
        have hfin : e' = e' ∧ ∃ m', SatM w0 hid (lget s'.T) s'.T.length (hget s'.H) s'.D m' a' w' ∧ Ext (hget s.H) m w (hget s'.H) m' w' := ⟨rfl, m', hs', ex1.trans ex'⟩
        cases e' with
        | normal => exact absurd hk (hne _ _)
        | exit id => exact hfin
        | goto l => exact hfin
        | ret => exact hfin
        | panic ch => exact hfin
        | outgrown => exact hfin
theorem good_fresh [Base] {w0 : World} {h : Nat → Option ABlk} {m : Nat → Option Loc} {w : World} (g : Good w0 h m w) {b : Nat} (hb : h b = none) (o : Obj) (k : ABlk)
    (hk : BRep (upd h b (some k)) (upd m b (some ⟨w.heap.size, 0⟩)) (w.alloc o) b k) (hd : ∀ st pend fn T ps asg body d, k = .loop st pend fn T ps asg body d → ∃ o, h d = some (.dfr o)) :
    Good w0 (upd h b (some k)) (upd m b (some ⟨w.heap.size, 0⟩)) (w.alloc o) ∧ Ext h m w (upd h b (some k)) (upd m b (some ⟨w.heap.size, 0⟩)) (w.alloc o) := by
  have hm : m b = none := by
    cases hm : m b with
    | none => rfl
    | some l => obtain ⟨k', hk'⟩ := g.supp b l hm; rw [hb] at hk'; cases hk'
  have hsize : w.heap.size ≤ (w.alloc o).heap.size := by simp
  have hsame : ∀ c, c < w.heap.size → (∀ l, m b = some l → l.c ≠ c) → (w.alloc o).heap[c]? = w.heap[c]? := fun c hc _ => Below.heap_alloc _ _ _ hc
  have hfits : ∀ k0, h b = some k0 → Fits k0 k (m b ≠ some ⟨w.heap.size, 0⟩) := fun k0 hk0 => by rw [hb] at hk0; cases hk0
  exact ⟨good_put g rfl rfl rfl hsize hsame (.inr (Nat.le_refl _)) hfits hk hd, ext_put g hsize hsame (.inr (Nat.le_refl _)) hfits⟩
theorem good_same [Base] {w0 : World} {h : Nat → Option ABlk} {m : Nat → Option Loc} {w : World} (g : Good w0 h m w) {b : Nat} {k0 k : ABlk} {l : Loc} (hb : h b = some k0) (hm : m b = some l) (o : Obj) (hf : Fits k0 k False)
    (hk : BRep (upd h b (some k)) (upd m b (some l)) (w.putObj l.c o) b k) (hd : ∀ st pend fn T ps asg body d, k = .loop st pend fn T ps asg body d → ∃ o, h d = some (.dfr o)) :
    Good w0 (upd h b (some k)) (upd m b (some l)) (w.putObj l.c o) ∧ Ext h m w (upd h b (some k)) (upd m b (some l)) (w.putObj l.c o) := by
  have hsize : w.heap.size ≤ (w.putObj l.c o).heap.size := by simp
  have hsame : ∀ c, c < w.heap.size → (∀ l, m b = some l → l.c ≠ c) → (w.putObj l.c o).heap[c]? = w.heap[c]? := fun c _ hne => World.putObj_heap_other (fun e => hne l hm e.symm)
  have hfits : ∀ k1, h b = some k1 → Fits k1 k (m b ≠ some l) := fun k1 hk1 => by
    rw [hb] at hk1; cases hk1
    have : (m b ≠ some l) = False := by simp [hm]
    rw [this]; exact hf
  exact ⟨good_put g rfl rfl rfl hsize hsame (.inl hm) hfits hk hd, ext_put g hsize hsame (.inl hm) hfits⟩
theorem rec_same [Base] {w0 : World} {h : Nat → Option ABlk} {m : Nat → Option Loc} {w : World} (g : Good w0 h m w) {b : Nat} {st : LoopState} {pend : Option Code} {fn : FuncId} {T : List AV} {ps : Array Tmp} {asg body : Code} {d : Nat} {l : Loc}
    (hb : h b = some (.loop st pend fn T ps asg body d)) (hm : m b = some l) (st' : LoopState) (pend' : Option Code) :
    ∃ rec : Loop, w.heap[l.c]? = some (.loop rec) ∧ rec.state = st ∧ rec.pending = pend ∧ rec.params = ps ∧ rec.assign = asg ∧ rec.body = body ∧ rec.tmps.size = T.length ∧ (∀ j (hj : j < T.length), ∃ v, rec.tmps[j]? = some v ∧ Rep h m w T[j] v) ∧
      Good w0 (upd h b (some (.loop st' pend' fn T ps asg body d))) (upd m b (some l)) (w.putObj l.c (.loop { rec with state := st', pending := pend' })) ∧
      Ext h m w (upd h b (some (.loop st' pend' fn T ps asg body d))) (upd m b (some l)) (w.putObj l.c (.loop { rec with state := st', pending := pend' })) := by
  obtain ⟨l', rec, ld, h1, h2, a1, a2, a3, a4, a5, a6, a7, a8, a9, a10⟩ := g.blk b _ hb
  rw [hm] at h1; cases h1
  obtain ⟨od, hod⟩ := g.dloop _ _ _ _ _ _ _ _ _ hb
  have hdb : d ≠ b := fun e => by rw [e, hb] at hod; cases hod
  have hsize : w.heap.size ≤ (w.putObj l.c (.loop { rec with state := st', pending := pend' })).heap.size := by simp
  have hsame : ∀ c, c < w.heap.size → (∀ l, m b = some l → l.c ≠ c) → (w.putObj l.c (.loop { rec with state := st', pending := pend' })).heap[c]? = w.heap[c]? := fun c _ hne => World.putObj_heap_other (fun e => hne l hm e.symm)
  have hfits : ∀ k1, h b = some k1 → Fits k1 (.loop st' pend' fn T ps asg body d) (m b ≠ some l) := fun k1 hk1 => by
    rw [hb] at hk1; cases hk1; exact ⟨rfl, rfl, rfl, rfl, rfl, rfl, fun hne => hne hm⟩
  have ex := ext_put g hsize hsame (.inl hm) hfits
  refine ⟨rec, h2, a1, a2, a4, a5, a6, a9, a10, good_put g rfl rfl rfl hsize hsame (.inl hm) hfits ?_ (fun _ _ _ _ _ _ _ _ e => by cases e; exact ⟨od, hod⟩), ex⟩
  refine ⟨l, _, ld, upd_same _ _ _, World.putObj_heap_same (lt_of_heap h2), rfl, rfl, rfl, a4, a5, a6, (upd_ne _ _ hdb).trans a7, a8, a9, fun j hj => ?_⟩
  obtain ⟨v, hv, hr⟩ := a10 j hj
  exact ⟨v, hv, hr.ext ex⟩
theorem hget_upd (H : List (Option ABlk)) (b : Nat) (k : ABlk) : hget (hset H b k) = upd (hget H) b (some k) := hget_seto H (some (b, k))
theorem SatM.move [Base] {w0 : World} {hid : List Nat} {T : List AV} {h h' : Nat → Option ABlk} {D : List Nat} {m m' : Nat → Option Loc} {a : Act} {w w' : World} (s : SatM w0 hid (lget T) T.length h D m a w) (g : Good w0 h' m' w') (e : Ext h m w h' m' w') : SatM w0 hid (lget T) T.length h' D m' a w' := by
  have := s.put (d := none) (x := .junk) (v := undef) (Tf' := lget T) g e (.junk _) (fun j hj => by simp)
  simpa [Act.put] using this
theorem SatM.mark [Base] {w0 : World} {hid : List Nat} {T : List AV} {h : Nat → Option ABlk} {D : List Nat} {m : Nat → Option Loc} {a : Act} {w : World} (s : SatM w0 hid (lget T) T.length h D m a w) {d : Nat} {l : Loc} (hd : m d = some l) (ho : ∃ o, h d = some (.dfr o)) :
    SatM w0 hid (lget T) T.length h (d :: D) m { a with defers := [{ target := .collected l.c, args := #[] }] ++ a.defers } w := by
  obtain ⟨ls, b1, b2, b3⟩ := s.marks
  refine ⟨s.good, s.size, s.tmps, s.roots, l :: ls, by simp [b1], fun j x z => ?_, by simp [b3]⟩
  cases j with
  | zero => exact ⟨hd, ho⟩
  | succ j => exact b2 j (by simpa using x) (by simpa using z)
theorem range_core {g : Operand} {ps : Array Tmp} {asg body : Code} {s : St} {gf : FuncId} {first caps : List AV} (hg : aev s.T g = .fn (.func gf) first caps) {y : AV} {H' : List (Option ABlk)}
    (hs : SemF P gf (first ++ [.fn (.yield (s.H.length + 1)) [] []] ++ caps) (hset (hset s.H s.H.length (.dfr true)) (s.H.length + 1) (.loop .ready none 0 s.T ps asg body s.H.length)) y H')
    {st : LoopState} (hst : st ≠ .busy) {pend : Option Code} {fn : FuncId} {T : List AV} {ps' : Array Tmp} {asg' body' : Code} {d : Nat} (hb : hget H' (s.H.length + 1) = some (.loop st pend fn T ps' asg' body' d)) {e : Exit} (he : jumpX pend = some e) :
    XSem P false (.rangeFunc g ps asg body) s e ⟨s.T, hset H' (s.H.length + 1) (.loop .exhausted pend fn T ps' asg' body' d), s.H.length :: s.D⟩ := by
  intro _ w0 r hid m a w hr hsat
  cases hr rfl
  refine wpIn_rangeFunc fun fn0 _ => ?_
  have hn0 : hget s.H s.H.length = none := hget_length _ _ (Nat.le_refl _)
  have hn1 : upd (hget s.H) s.H.length (some (.dfr true)) (s.H.length + 1) = none := by rw [upd_ne _ _ (by omega)]; exact hget_length _ _ (by omega)
  obtain ⟨g1, e1⟩ := good_fresh hsat.good hn0 (.deferred (some [])) (.dfr true) ⟨_, upd_same _ _ _, by simpa using World.alloc_heap_new w _⟩ (by simp)
  have hsz : (w.alloc (.deferred (some []))).heap.size = w.heap.size + 1 := by simp
  have hbk : BRep (upd (upd (hget s.H) s.H.length (some (.dfr true))) (s.H.length + 1) (some (.loop .ready none 0 s.T ps asg body s.H.length))) (upd (upd m s.H.length (some ⟨w.heap.size, 0⟩)) (s.H.length + 1) (some ⟨(w.alloc (.deferred (some []))).heap.size, 0⟩))
      ((w.alloc (.deferred (some []))).alloc (.loop { state := .ready, pending := none, fn := fn0, tmps := a.tmps, params := ps, assign := asg, body := body, defers := w.heap.size })) (s.H.length + 1) (.loop .ready none 0 s.T ps asg body s.H.length) := by
    refine ⟨_, _, ⟨w.heap.size, 0⟩, upd_same _ _ _, World.alloc_heap_new _ _, rfl, rfl, rfl, rfl, rfl, rfl, by rw [upd_ne _ _ (by omega), upd_same], rfl, hsat.size, fun j hj => ?_⟩
    obtain ⟨v, hv, hrep⟩ := hsat.tmps j hj
    refine ⟨v, hv, ?_⟩
    have hTj : lget s.T j = s.T[j] := by rw [lget_get, List.getElem?_eq_getElem hj]; rfl
    rw [hTj] at hrep
    refine (hrep.ext e1).ext (ext_put (l' := ⟨(w.alloc (.deferred (some []))).heap.size, 0⟩) g1 (by simp) (fun c hc _ => Below.heap_alloc _ _ _ hc) (.inr (Nat.le_refl _)) (fun k0 hk0 => by rw [hn1] at hk0; cases hk0))
  obtain ⟨g2, e2⟩ := good_fresh g1 hn1 (.loop { state := .ready, pending := none, fn := fn0, tmps := a.tmps, params := ps, assign := asg, body := body, defers := w.heap.size }) (.loop .ready none 0 s.T ps asg body s.H.length) hbk
    (fun _ _ _ _ _ _ _ _ e => by cases e; exact ⟨true, upd_same _ _ _⟩)
  have e12 := e1.trans e2
  rw [hsz] at g2 e12
  rw [← hget_upd, ← hget_upd] at g2 e12
  have hgv := hsat.eval s.T rfl g (fun _ _ _ => rfl)
  rw [hg] at hgv
  obtain ⟨us, vs, hev, l1, l2, r1, r2⟩ := rep_fn hgv
  have hyld : Rep (hget (hset (hset s.H s.H.length (.dfr true)) (s.H.length + 1) (.loop .ready none 0 s.T ps asg body s.H.length))) (upd (upd m s.H.length (some ⟨w.heap.size, 0⟩)) (s.H.length + 1) (some ⟨w.heap.size + 1, 0⟩))
      ((w.alloc (.deferred (some []))).alloc (.loop { state := .ready, pending := none, fn := fn0, tmps := a.tmps, params := ps, assign := asg, body := body, defers := w.heap.size })) (.fn (.yield (s.H.length + 1)) [] []) (.func (.yield (w.heap.size + 1)) #[] #[]) :=
    .yld (l := ⟨w.heap.size + 1, 0⟩) (by rw [hget_upd, upd_same]) rfl (upd_same _ _ _)
  have hreps := getElem_append3 (R := Rep (hget (hset (hset s.H s.H.length (.dfr true)) (s.H.length + 1) (.loop .ready none 0 s.T ps asg body s.H.length))) (upd (upd m s.H.length (some ⟨w.heap.size, 0⟩)) (s.H.length + 1) (some ⟨w.heap.size + 1, 0⟩))
      ((w.alloc (.deferred (some []))).alloc (.loop { state := .ready, pending := none, fn := fn0, tmps := a.tmps, params := ps, assign := asg, body := body, defers := w.heap.size })))
    (xs := first) (ys := [.fn (.yield (s.H.length + 1)) [] []]) (zs := caps) (us := us) (vs := [.func (.yield (w.heap.size + 1)) #[] #[]]) (ws := vs) l1 rfl (fun j x z => (r1 j x z).ext e12)
    (fun j x z => by
      have : j = 0 := by simp at x; omega
      subst this; exact hyld) (fun j x z => (r2 j x z).ext e12)
  have hcall := hs.2 w0 _ _ (us ++ [.func (.yield (w.heap.size + 1)) #[] #[]] ++ vs) g2 (by simp [l1, l2]) hreps
  refine ⟨w.heap.size + 1, [{ target := .collected w.heap.size, args := #[] }], _, { target := .fn (.func gf) vs.toArray, args := us.toArray ++ #[Value.func (.yield (w.heap.size + 1)) #[] #[]] }, ((w.alloc (.deferred (some []))).alloc (.loop { state := .ready, pending := none, fn := fn0, tmps := a.tmps, params := ps, assign := asg, body := body, defers := w.heap.size })), gf, (us ++ [Value.func (.yield (w.heap.size + 1)) #[] #[]] ++ vs).toArray, ((w.alloc (.deferred (some []))).alloc (.loop { state := .ready, pending := none, fn := fn0, tmps := a.tmps, params := ps, assign := asg, body := body, defers := w.heap.size })),
    run_enterLoop_outer _ _ _ _ _, ?_, fun _ _ => trivial, ?_, fun hh => by simp [FW] at hh, ?_⟩
  · have hev' : a.eval g = .func (.func gf) us.toArray vs.toArray := hev
    simp only [resolve, hev', Deferred.ofValue, Sem.run_pure]
    simp [Act.eval]
  · have e3 : us.toArray ++ #[Value.func (.yield (w.heap.size + 1)) #[] #[]] ++ vs.toArray = (us ++ [Value.func (.yield (w.heap.size + 1)) #[] #[]] ++ vs).toArray := by apply Array.toList_inj.1; simp
    simp only [invoke]
    rw [e3]
    exact hs.1 _ _
  · refine hcall.mono ?_
    rintro e' w3 ⟨v, m3, rfl, g3, e3, _⟩
    have hm3 : m3 (s.H.length + 1) = some ⟨w.heap.size + 1, 0⟩ := by
      have := (e3.loop (s.H.length + 1) .ready none 0 s.T ps asg body s.H.length (by rw [hget_upd, upd_same])).2
      rw [this, upd_same]
    obtain ⟨rec, k1, k2, k3, _, _, _, _, _, g4, e4⟩ := rec_same g3 hb hm3 .exhausted pend
    have hend := run_endLoop (P := P) k1 (by rw [k2]; exact hst)
    rw [k3] at hend
    refine ⟨pend, _, hend, ?_⟩
    rw [← hget_upd] at g4 e4
    have etot := (e12.trans e3).trans e4
    have d0 : hget (hset (hset s.H s.H.length (.dfr true)) (s.H.length + 1) (.loop .ready none 0 s.T ps asg body s.H.length)) s.H.length = some (.dfr true) := by
      rw [hget_upd, hget_upd, upd_ne _ _ (by omega), upd_same]
    obtain ⟨q1, q2⟩ := (e3.trans e4).dfr _ _ d0
    have hsat4 := (hsat.move g4 etot).mark (l := ⟨w.heap.size, 0⟩) (q2.trans (by rw [upd_ne _ _ (by omega), upd_same])) q1
    cases pend with
    | none => simp only [jumpX, Option.some.injEq] at he; subst he; exact ⟨rfl, _, hsat4, etot⟩
    | some cc =>
      cases cc <;> simp only [jumpX, reduceCtorEq, Option.some.injEq] at he
      · subst he; exact wpIn_exit ⟨rfl, _, hsat4, etot⟩
      · subst he; exact wpIn_ret ⟨rfl, _, hsat4, etot⟩
theorem rangeX_sound (hcv : CvOK P cv) {g : Operand} {ps : Array Tmp} {asg body : Code} {s : St} {gf : FuncId} {first caps : List AV} (hg : aev s.T g = .fn (.func gf) first caps) {y : AV} {H' : List (Option ABlk)} {W : List Nat}
    (hc : cv (.fn (.func gf) first caps) [.fn (.yield (s.H.length + 1)) [] []] (hset (hset s.H s.H.length (.dfr true)) (s.H.length + 1) (.loop .ready none 0 s.T ps asg body s.H.length)) = some (y, H', W))
    {st : LoopState} (hst : st ≠ .busy) {pend : Option Code} {fn : FuncId} {T : List AV} {ps' : Array Tmp} {asg' body' : Code} {d : Nat} (hb : hget H' (s.H.length + 1) = some (.loop st pend fn T ps' asg' body' d)) {e : Exit} (he : jumpX pend = some e) :
    Frm s.H (hset H' (s.H.length + 1) (.loop .exhausted pend fn T ps' asg' body' d)) (s.H.length :: (s.H.length + 1) :: W) ∧
      XSem P false (.rangeFunc g ps asg body) s e ⟨s.T, hset H' (s.H.length + 1) (.loop .exhausted pend fn T ps' asg' body' d), s.H.length :: s.D⟩ := by
  obtain ⟨hf, hs⟩ := hcv _ _ _ _ _ _ hc
  constructor
  · refine ((((Frm.set s.H s.H.length (.dfr true)).trans (Frm.set _ (s.H.length + 1) _)).trans hf).trans (Frm.set _ (s.H.length + 1) _)).congr (fun b => ?_)
    simp only [List.mem_append, List.mem_cons, List.not_mem_nil, or_false]
    constructor
    · rintro (((h | h) | h) | h) <;> simp [h]
    · rintro (h | h | h) <;> simp [h]
  · exact range_core hg (by simpa [Sem] using hs) hst hb he
theorem xcode_sound (he : ∀ t, eqt t = true → EqOK P t) (hm : P.follows .mixedOrders = true) (hcv : CvOK P cv) :
    ∀ (c : Code) (s : St) (e : Exit) (s' : St) (W : List Nat), xcode P eqt pm cv lf rd c s = some (e, s', W) → Frm s.H s'.H W ∧ XSem P rd c s e s' := by
  intro c
  induction c with
  | skip =>
    intro s e s' W hx
    simp only [xcode, Option.some.injEq, Prod.mk.injEq] at hx
    obtain ⟨rfl, rfl, rfl⟩ := hx
    exact ⟨Frm.refl _, fun w0 r hid m a w _ hs => wpIn_skip ⟨rfl, m, hs, Ext.refl _ _ _⟩⟩
  | region id ops draw =>
    intro s e s' W hx
    simp only [xcode] at hx
    split at hx
    · rename_i s1 es hops
      have hsnd := fun [Base] (w0 : World) (r : Option Nat) => xops_sound (w0 := w0) (r := r) he hcv (all := ops) ops.toList 0 s s1 es (fun k => by simp) hops
      have key : Frm s.H s1.H (wall es) := by
        letI : Base := ⟨fun _ => True⟩
        exact (hsnd default none).2.2.1
      split at hx
      · rename_i hd
        subst hd
        split at hx
        · rename_i hok
          simp only [Option.some.injEq, Prod.mk.injEq] at hx
          obtain ⟨rfl, rfl, rfl⟩ := hx
          refine ⟨key, fun w0 r hid m a w _ hs => ?_⟩
          obtain ⟨t1, t2, t3, t4, t5⟩ := hsnd w0 r
          obtain ⟨hok1, hok2⟩ := hok
          rw [Bool.or_eq_true] at hok2
          rcases hok2 with hok2 | hok2
          · refine draw_sound2 (Z := hget s.H) (mz := m) (wz := w) hm t1 (by simpa using t2) hok1 hok2 ?_ a w ⟨m, hs, Ext.refl _ _ _⟩
            rintro a' w' ⟨m', hs', ex'⟩
            exact ⟨rfl, m', hs', ex'⟩
          · obtain ⟨u1, u2⟩ := xops_sound3 (w0 := w0) (r := r) he hcv (all := ops) ops.toList 0 s s1 es (fun k => by simp) hops
            refine draw_sound3 (Z := hget s.H) (mz := m) (wz := w) hm u1 (by rw [efsX_length u2]; simp) hok1 hok2 ?_ a w ⟨m, hs, Ext.refl _ _ _⟩
            rintro a' w' ⟨m', hs', ex'⟩
            exact ⟨rfl, m', hs', ex'⟩
        · cases hx
      · rename_i hd
        have hd : draw = false := by simpa using hd
        subst hd
        simp only [Option.some.injEq, Prod.mk.injEq] at hx
        obtain ⟨rfl, rfl, rfl⟩ := hx
        refine ⟨key, fun w0 r hid m a w _ hs => ?_⟩
        obtain ⟨t1, t2, t3, t4, t5⟩ := hsnd w0 r
        refine wpIn_region ?_
        have := trace_seq2 (Z := hget s.H) (mz := m) (wz := w) (Q := fun e' a' w' => e' = .normal ∧ ∃ m', SatM w0 hid (lget s1.T) s1.T.length (hget s1.H) s1.D m' a' w' ∧ Ext (hget s.H) m w (hget s1.H) m' w') t1
          (fun a' w' ⟨m', hs', ex'⟩ => ⟨rfl, m', hs', ex'⟩) a w ⟨m, hs, Ext.refl _ _ _⟩
        rw [t2] at this
        simpa [List.range_eq_range'] using this
    · cases hx
  | seq x y ihx ihy =>
    intro s e s' W hx
    simp only [xcode] at hx
    split at hx
    · rename_i s1 W1 h1
      split at hx
      · rename_i e2 s2 W2 h2
        simp only [Option.some.injEq, Prod.mk.injEq] at hx
        obtain ⟨rfl, rfl, rfl⟩ := hx
        obtain ⟨f1, x1⟩ := ihx _ _ _ _ h1
        obtain ⟨f2, x2⟩ := ihy _ _ _ _ h2
        refine ⟨f1.trans f2, fun w0 r hid m a w hr hs => wpIn_seq (wpIn_mono (x1 w0 r hid m a w hr hs) ?_)⟩
        rintro e' a' w' ⟨rfl, m', hs', ex'⟩
        refine wpIn_mono (x2 w0 r hid m' a' w' hr hs') ?_
        rintro e'' a'' w'' ⟨rfl, m'', hs'', ex''⟩
        exact ⟨rfl, m'', hs'', ex'.trans ex''⟩
      · cases hx
    · rename_i hne
      obtain ⟨f1, x1⟩ := ihx _ _ _ _ hx
      refine ⟨f1, fun w0 r hid m a w hr hs => wpIn_seq (wpIn_mono (x1 w0 r hid m a w hr hs) ?_)⟩
      rintro e' a' w' ⟨rfl, hq⟩
      cases e' with
      | normal => exact absurd hx (hne _ _)
      | exit id => exact ⟨rfl, hq⟩
      | goto l => exact ⟨rfl, hq⟩
      | ret => exact ⟨rfl, hq⟩
      | panic ch => exact ⟨rfl, hq⟩
      | outgrown => exact ⟨rfl, hq⟩
  | cond c x y ihx ihy =>
    intro s e s' W hx
    simp only [xcode] at hx
    split at hx
    · rename_i hc
      obtain ⟨f1, x1⟩ := ihx _ _ _ _ hx
      exact ⟨f1, fun w0 r hid m a w hr hs => wpIn_cond_true (satM_bool hs hc) (x1 w0 r hid m a w hr hs)⟩
    · rename_i hc
      obtain ⟨f1, x1⟩ := ihy _ _ _ _ hx
      exact ⟨f1, fun w0 r hid m a w hr hs => wpIn_cond_false (satM_bool hs hc) (x1 w0 r hid m a w hr hs)⟩
    · cases hx
  | block id c ih =>
    intro s e s' W hx
    simp only [xcode] at hx
    split at hx
    · rename_i i s1 W1 h1
      obtain ⟨f1, x1⟩ := ih _ _ _ _ h1
      split at hx
      · rename_i hi
        simp only [Option.some.injEq, Prod.mk.injEq] at hx
        obtain ⟨rfl, rfl, rfl⟩ := hx
        refine ⟨f1, fun w0 r hid m a w hr hs => wpIn_block (wpIn_mono (x1 w0 r hid m a w hr hs) ?_)⟩
        rintro e' a' w' ⟨rfl, hq⟩
        simp only [Exit.inBlock, hi, if_true]
        exact ⟨trivial, hq⟩
      · rename_i hi
        simp only [Option.some.injEq, Prod.mk.injEq] at hx
        obtain ⟨rfl, rfl, rfl⟩ := hx
        refine ⟨f1, fun w0 r hid m a w hr hs => wpIn_block (wpIn_mono (x1 w0 r hid m a w hr hs) ?_)⟩
        rintro e' a' w' ⟨rfl, hq⟩
        simp only [Exit.inBlock, hi, if_false]
        exact ⟨trivial, hq⟩
    · rename_i hne
      obtain ⟨f1, x1⟩ := ih _ _ _ _ hx
      refine ⟨f1, fun w0 r hid m a w hr hs => wpIn_block (wpIn_mono (x1 w0 r hid m a w hr hs) ?_)⟩
      rintro e' a' w' ⟨rfl, hq⟩
      cases e' with
      | normal => exact ⟨rfl, hq⟩
      | exit id => exact absurd hx (hne _ _ _)
      | goto l => exact ⟨rfl, hq⟩
      | ret => exact ⟨rfl, hq⟩
      | panic ch => exact ⟨rfl, hq⟩
      | outgrown => exact ⟨rfl, hq⟩
  | loop c ih =>
    intro s e s' W hx
    simp only [xcode] at hx
    exact xloop_sound _ ih _ _ _ _ _ hx
  | rangeFunc g ps asg body _ _ =>
    intro s e s' W hx
    simp only [xcode] at hx
    split at hx
    · cases hx
    · rename_i hrd
      have hrd : rd = false := by simpa using hrd
      subst hrd
      split at hx
      · rename_i gf first caps hg
        split at hx
        · rename_i y H' W' hc
          split at hx
          · rename_i pend fn T ps' asg' body' d hb
            split at hx
            · rename_i e1 he1
              simp only [Option.some.injEq, Prod.mk.injEq] at hx
              obtain ⟨rfl, rfl, rfl⟩ := hx
              exact rangeX_sound hcv hg hc (by simp) hb he1
            · cases hx
          · rename_i pend fn T ps' asg' body' d hb
            split at hx
            · rename_i e1 he1
              simp only [Option.some.injEq, Prod.mk.injEq] at hx
              obtain ⟨rfl, rfl, rfl⟩ := hx
              exact rangeX_sound hcv hg hc (by simp) hb he1
            · cases hx
          · cases hx
        · cases hx
      · cases hx
  | exit id =>
    intro s e s' W hx
    simp only [xcode, Option.some.injEq, Prod.mk.injEq] at hx
    obtain ⟨rfl, rfl, rfl⟩ := hx
    exact ⟨Frm.refl _, fun w0 r hid m a w _ hs => wpIn_exit ⟨rfl, m, hs, Ext.refl _ _ _⟩⟩
  | scope c ih =>
    intro s e s' W hx
    simp only [xcode] at hx
    split at hx
    · cases hx
    · rename_i hne
      obtain ⟨f1, x1⟩ := ih _ _ _ _ hx
      refine ⟨f1, fun w0 r hid m a w hr hs => wpIn_scope (wpIn_mono (x1 w0 r hid m a w hr hs) ?_)⟩
      rintro e' a' w' ⟨rfl, hq⟩
      exact ⟨fun l hl => by subst hl; exact absurd hx (hne _ _ _), rfl, hq⟩
  | label l =>
    intro s e s' W hx
    simp only [xcode, Option.some.injEq, Prod.mk.injEq] at hx
    obtain ⟨rfl, rfl, rfl⟩ := hx
    exact ⟨Frm.refl _, fun w0 r hid m a w _ hs => wpIn_label ⟨rfl, m, hs, Ext.refl _ _ _⟩⟩
  | goto l => intro s e s' W hx; simp [xcode] at hx
  | ret =>
    intro s e s' W hx
    simp only [xcode, Option.some.injEq, Prod.mk.injEq] at hx
    obtain ⟨rfl, rfl, rfl⟩ := hx
    exact ⟨Frm.refl _, fun w0 r hid m a w _ hs => wpIn_ret ⟨rfl, m, hs, Ext.refl _ _ _⟩⟩
  | refuse why => intro s e s' W hx; simp [xcode] at hx
end
end Go.Am
namespace Go.Am
set_option linter.unusedSimpArgs false
set_option linter.unusedVariables false
open Go.RowKit
def putT : List AV → List (Nat × AV) → List AV
  | T, [] => T
  | T, (j, x) :: l => putT (lset T j x) l
def mkT (n : Nat) (l : List (Nat × AV)) : List AV := putT (junks n) l
theorem mkT_def {n : Nat} {l : List (Nat × AV)} : mkT n l = putT (junks n) l := nrfl rfl
section
variable {p : Nat → Bool} {x y : AV} {xs ys : List AV} {a b : Int} {k : IntKind} {n n' : Nat} {f f' : Bool}
theorem av_j : avSub x .junk = True := nrfl rfl
theorem av_int : avSub (.int k a) (.int k b) = (a = b) := by simp [avSub]
theorem av_bool : avSub (.bool f) (.bool f') = (f = f') := by simp [avSub]
theorem av_nils : avSub .nils .nils = True := by simp [avSub]
theorem av_nilp : avSub .nilp .nilp = True := by simp [avSub]
theorem av_nilm : avSub .nilm .nilm = True := by simp [avSub]
theorem av_nilf : avSub .nilf .nilf = True := by simp [avSub]
theorem av_ptr {c g o c' g' o' : Nat} : avSub (.ptr c g o) (.ptr c' g' o') = (c = c' ∧ g = g' ∧ o = o') := by simp [avSub]
theorem av_osl {c g o l c' g' o' l' : Nat} : avSub (.osl c g o l) (.osl c' g' o' l') = (c = c' ∧ g = g' ∧ o = o' ∧ l = l') := by simp [avSub]
theorem av_oslc {c g o l k c' g' o' l' k' : Nat} : avSub (.oslc c g o l k) (.oslc c' g' o' l' k') = (c = c' ∧ g = g' ∧ o = o' ∧ l = l' ∧ k = k') := by simp [avSub]
theorem av_map {c c' : Nat} : avSub (.map c) (.map c') = (c = c') := by simp [avSub]
theorem av_pmap {es es' : List (AV × AV)} : avSub (.pmap es) (.pmap es') = (es = es') := by simp [avSub]
theorem av_pptr : avSub (.pptr xs n) (.pptr ys n') = (xs = ys ∧ n = n') := by simp [avSub]
theorem av_psl : avSub (.psl f n xs) (.psl false n' ys) = (n = n' ∧ xs = ys) := by cases f <;> simp [avSub]
theorem av_pslt : avSub (.psl true n xs) (.psl true n' ys) = (n = n' ∧ xs = ys) := by simp [avSub]
theorem av_ns : avSub .nils (.psl f n ys) = (n = 0 ∧ ys = []) := by simp [avSub]
theorem av_agg : avSub (.agg xs) (.agg ys) = (xs = ys) := by simp [avSub]
theorem av_tup : avSub (.tup xs) (.tup ys) = (xs = ys) := by simp [avSub]
theorem av_fn {g g' : Fn} {us vs : List AV} : avSub (.fn g xs ys) (.fn g' us vs) = (g = g' ∧ xs = us ∧ ys = vs) := by simp [avSub]
theorem lv_j : live2 p .junk = true := nrfl rfl
theorem lv_int : live2 p (.int k a) = true := nrfl rfl
theorem lv_bool : live2 p (.bool f) = true := nrfl rfl
theorem lv_nils : live2 p .nils = true := nrfl rfl
theorem lv_nilp : live2 p .nilp = true := nrfl rfl
theorem lv_nilm : live2 p .nilm = true := nrfl rfl
theorem lv_nilf : live2 p .nilf = true := nrfl rfl
theorem lv_psl : live2 p (.psl f n xs) = true := nrfl rfl
theorem lv_pmap {es : List (AV × AV)} : live2 p (.pmap es) = true := nrfl rfl
theorem lv_pptr : live2 p (.pptr xs n) = true := nrfl rfl
theorem lv_ptr {c g o : Nat} : live2 p (.ptr c g o) = p c := nrfl rfl
theorem lv_osl {c g o l : Nat} : live2 p (.osl c g o l) = p c := nrfl rfl
theorem lv_oslc {c g o l k : Nat} : live2 p (.oslc c g o l k) = p c := nrfl rfl
theorem lv_map {c : Nat} : live2 p (.map c) = p c := nrfl rfl
theorem lv_agg : live2 p (.agg xs) = xs.all (live1 p) := nrfl rfl
theorem lv_tup : live2 p (.tup xs) = xs.all (live1 p) := nrfl rfl
theorem lv_fn {g : FuncId} : live2 p (.fn (.func g) xs ys) = (xs.all (live1 p) && ys.all (live1 p)) := nrfl rfl
theorem l1_int : live1 p (.int k a) = true := nrfl rfl
theorem l1_bool : live1 p (.bool f) = true := nrfl rfl
theorem l1_nils : live1 p .nils = true := nrfl rfl
theorem l1_nilm : live1 p .nilm = true := nrfl rfl
theorem l1_psl : live1 p (.psl f n xs) = true := nrfl rfl
theorem l1_pmap {es : List (AV × AV)} : live1 p (.pmap es) = true := nrfl rfl
theorem l1_pptr : live1 p (.pptr xs n) = true := nrfl rfl
theorem l1_ptr {c g o : Nat} : live1 p (.ptr c g o) = p c := nrfl rfl
theorem l1_osl {c g o l : Nat} : live1 p (.osl c g o l) = p c := nrfl rfl
theorem l1_oslc {c g o l k : Nat} : live1 p (.oslc c g o l k) = p c := nrfl rfl
theorem l1_map {c : Nat} : live1 p (.map c) = p c := nrfl rfl
theorem l1_agg : live1 p (.agg xs) = xs.all (live0 p) := nrfl rfl
theorem l0_int : live0 p (.int k a) = true := nrfl rfl
theorem l0_bool : live0 p (.bool f) = true := nrfl rfl
theorem l0_psl : live0 p (.psl f n xs) = true := nrfl rfl
theorem l0_nils : live0 p .nils = true := nrfl rfl
theorem li_s {H : List (Option ABlk)} {c : Nat} : liveIn H c = (hget H c).isSome := nrfl rfl
theorem is_s {K : ABlk} : (some K).isSome = true := nrfl rfl
theorem lt_n : leT p [] [] = True := nrfl rfl
theorem lt_c : leT p (x :: xs) (y :: ys) = ((avSub x y ∧ live2 p y = true) ∧ leT p xs ys) := nrfl rfl
theorem lh_n {H : List (Option ABlk)} : leH p H [] = True := by cases H <;> rfl
theorem lh_0 {o : Option ABlk} {H H' : List (Option ABlk)} : leH p (o :: H) (none :: H') = leH p H H' := by simp [leH]
theorem lh_s {o : Option ABlk} {K : ABlk} {H H' : List (Option ABlk)} : leH p (o :: H) (some K :: H') = ((o = some K ∧ blkLive p K = true) ∧ leH p H H') := by simp [leH]
theorem bl_c {t : TypeId} {sz g : Nat} : blkLive p (.cells t sz g xs) = xs.all (live2 p) := nrfl rfl
theorem bl_m {es : List (AV × AV)} : blkLive p (.map es) = es.all (fun e => live2 p e.1 && live2 p e.2) := nrfl rfl
theorem bl_d : blkLive p (.dfr f) = true := nrfl rfl
theorem al_ints {l : List Int} : (ints l).all (live2 p) = true := by
  simp only [ints, List.all_map, List.all_eq_true]
  intro z _; rfl
def keepH : List (Option ABlk) → List (Option ABlk) → Prop
  | [], _ => True
  | none :: l, _ :: H => keepH l H
  | none :: l, [] => keepH l []
  | some _ :: l, some _ :: H => keepH l H
  | some _ :: _, none :: _ => False
  | some _ :: _, [] => False
theorem keepH_spec : ∀ {l H : List (Option ABlk)}, keepH l H ↔ ∀ b, hget l b ≠ none → liveIn H b = true
  | [], H => by simp [keepH, hget]
  | none :: l, x :: H => by
    simp only [keepH]
    rw [keepH_spec (l := l) (H := H)]
    constructor
    · intro h b hb
      cases b with
      | zero => simp [hget] at hb
      | succ b => exact h b hb
    · intro h b hb; exact h (b + 1) hb
  | none :: l, [] => by
    simp only [keepH]
    rw [keepH_spec (l := l) (H := [])]
    constructor
    · intro h b hb
      cases b with
      | zero => simp [hget] at hb
      | succ b => simpa [liveIn, hget] using h b hb
    · intro h b hb; simpa [liveIn, hget] using h (b + 1) hb
  | some k :: l, some k' :: H => by
    simp only [keepH]
    rw [keepH_spec (l := l) (H := H)]
    constructor
    · intro h b hb
      cases b with
      | zero => simp [liveIn, hget]
      | succ b => exact h b hb
    · intro h b hb; exact h (b + 1) hb
  | some k :: l, none :: H => by
    simp only [keepH, false_iff]
    intro h
    have := h 0 (by simp [hget])
    simp [liveIn, hget] at this
  | some k :: l, [] => by
    simp only [keepH, false_iff]
    intro h
    have := h 0 (by simp [hget])
    simp [liveIn, hget] at this
theorem kh_0 {H : List (Option ABlk)} : keepH [] H = True := by simp [keepH]
theorem kh_s {k k' : ABlk} {l H : List (Option ABlk)} : keepH (some k :: l) (some k' :: H) = keepH l H := nrfl rfl
theorem kh_n {x : Option ABlk} {l H : List (Option ABlk)} : keepH (none :: l) (x :: H) = keepH l H := nrfl rfl
theorem kh_e {l : List (Option ABlk)} : keepH (none :: l) [] = keepH l [] := nrfl rfl
theorem le2_s {H0 : List (Option ABlk)} {m : Nat → Option Loc} {w : World} {T T' : List AV} {H H' : List (Option ABlk)} {D : List Nat} : Le2 (Ctx.of H0 m w) ⟨T, H, D⟩ ⟨T', H', D⟩ = (leT (liveIn H') T T' ∧ leH (liveIn H') H H' ∧ (∀ d ∈ D, liveIn H' d = true) ∧ keepH H0 H') := by
  rw [eq_iff_iff]
  constructor
  · rintro ⟨h1, h2, _, h3, h4⟩; exact ⟨h1, h2, h3, keepH_spec.2 h4⟩
  · rintro ⟨h1, h2, h3, h4⟩; exact ⟨h1, h2, rfl, h3, keepH_spec.1 h4⟩
theorem fd_n {P : Nat → Prop} : (∀ d ∈ ([] : List Nat), P d) = True := by simp
theorem fd_c {P : Nat → Prop} {c : Nat} {l : List Nat} : (∀ d ∈ c :: l, P d) = (P c ∧ ∀ d ∈ l, P d) := by simp
theorem mk_n {T : List AV} : putT T [] = T := nrfl rfl
theorem mk_c {T : List AV} {j : Nat} {l : List (Nat × AV)} : putT T ((j, x) :: l) = putT (lset T j x) l := nrfl rfl
theorem ju_s : junks (n + 1) = .junk :: junks n := nrfl rfl
theorem ju_0 : junks 0 = [] := nrfl rfl
theorem and_t {c d : Bool} : ((c && d) = true) = (c = true ∧ d = true) := by simp
attribute [go_sem] kh_0 kh_s kh_n kh_e av_j av_int av_bool av_nils av_nilp av_nilm av_nilf av_ptr av_osl av_oslc lv_oslc l1_oslc av_map av_pptr av_pmap lv_pmap l1_pmap av_psl av_pslt av_ns av_agg av_tup av_fn lv_j lv_int lv_bool lv_nils lv_nilp lv_nilm lv_nilf lv_psl lv_pptr lv_ptr lv_osl lv_map lv_agg lv_tup lv_fn l1_int l1_bool l1_nils l1_nilm l1_psl l1_pptr l1_ptr l1_osl l1_map l1_agg l0_int l0_bool l0_psl l0_nils li_s is_s lt_n lt_c lh_n lh_0 lh_s bl_c bl_m bl_d al_ints le2_s fd_n fd_c mkT_def mk_n mk_c ju_s ju_0 and_t List.all_cons List.all_nil Option.isSome_some Option.some.injEq ABlk.cells.injEq ABlk.map.injEq
end
theorem CallS.sub {P : Program} {f : FuncId} {xs ys : List AV} {r : AV} (h : CallS P f ys r) (hs : subL xs ys) : CallS P f xs r := by
  obtain ⟨hl, hj⟩ := subL_spec hs
  refine ⟨h.1, fun w vs ok hok hlen hrep => h.2 w vs ok hok (by omega) (fun j a b => prep_sub (hrep j (by omega) b) (hj j (by omega) a).1 (hj j (by omega) a).2)⟩
theorem go_split {P : Program} {all : Array Oper} {d : Option Tmp} {os : List Oper} {T : List AV} {H : List (Option ABlk)} {D : List Nat} {tr : List E} {K : St → List E → Prop} {b : Bool} {rd : List Nat}
    (h1 : b = true → goK P all d os T H D tr K (.bool true) rd) (h2 : b = false → goK P all d os T H D tr K (.bool false) rd) : goK P all d os T H D tr K (.bool b) rd := by
  rw [go_var]; exact ⟨h1, h2⟩
section
variable [Base] {P : Program} {w0 : World} {r : Option Nat} {X : Ctx} {s : St} {Q : Exit → St → Prop} {c : Code}
theorem awp_label {l : Nat} (h : Q .normal s) : AWP P w0 r X (.label l) s Q := fun _ _ hs => wpIn_label ⟨s, h, hs⟩
def scopeQ (Q : Exit → St → Prop) : Exit → St → Prop
  | .goto _, _ => False
  | e, s => Q e s
theorem awp_scope {c : Code} (h : AWP P w0 r X c s (scopeQ Q)) : AWP P w0 r X (.scope c) s Q := by
  intro ac w hs
  refine wpIn_scope (wpIn_mono (h ac w hs) ?_)
  rintro e a' w' ⟨s', h1, h2⟩
  cases e with
  | goto l => exact h1.elim
  | normal => exact ⟨by simp, s', h1, h2⟩
  | exit i => exact ⟨by simp, s', h1, h2⟩
  | ret => exact ⟨by simp, s', h1, h2⟩
  | panic c => exact ⟨by simp, s', h1, h2⟩
  | outgrown => exact ⟨by simp, s', h1, h2⟩
omit [Base] in
theorem scope_n : scopeQ Q .normal s = Q .normal s := nrfl rfl
omit [Base] in
theorem scope_r : scopeQ Q .ret s = Q .ret s := nrfl rfl
omit [Base] in
theorem scope_e {i : Nat} : scopeQ Q (.exit i) s = Q (.exit i) s := nrfl rfl
attribute [go_sem] scope_n scope_r scope_e
def Kt (P : Program) (w0 : World) (r : Option Nat) (X : Ctx) (c : Code) (Q : Exit → St → Prop) (s : St) : Prop := AWP P w0 r X c s Q
theorem kt (h : AWP P w0 r X c s Q) : Kt P w0 r X c Q s := h
theorem awp_seqK {a b : Code} (h : AWP P w0 r X a s (thenQ (Kt P w0 r X b Q) Q)) : AWP P w0 r X (.seq a b) s Q := awp_seq fun _ hK => AWP.mono h fun e s' hq => by
  cases e with
  | normal => exact hK _ hq
  | exit id => exact hq
  | goto l => exact hq
  | ret => exact hq
  | panic c => exact hq
  | outgrown => exact hq
@[congr] theorem Kt_congr : Kt P w0 r X c Q s = Kt P w0 r X c Q s := nrfl rfl
@[congr] theorem AWP_congr : AWP P w0 r X c s Q = AWP P w0 r X c s Q := nrfl rfl
theorem awp_loopN (n : Nat) (I : Nat → St) (h0 : Imp w0 X s (I 0))
    (round : ∀ i, i ≤ n → AWP P w0 r X c (I i) (thenQ (fun s' => i < n ∧ Imp w0 X s' (I (i + 1))) Q)) : AWP P w0 r X (.loop c) s Q := by
  refine awp_loopI (γ := { i : Nat // i ≤ n }) (fun g => I g.1) (fun g => n - g.1) ⟨0, Nat.zero_le _⟩ h0 ?_
  rintro ⟨i, hi⟩
  refine AWP.mono (round i hi) fun e s' hq => ?_
  cases e with
  | normal => exact ⟨⟨i + 1, hq.1⟩, by have := hq.1; simp only; omega, hq.2⟩
  | exit id => exact hq
  | goto l => exact hq
  | ret => exact hq
  | panic c => exact hq
  | outgrown => exact hq
theorem awp_loopJ {γ : Type} (J : γ → Prop) (I : γ → St) (μ : γ → Nat) (g0 : γ) (hJ : J g0) (h0 : Imp w0 X s (I g0))
    (round : ∀ g, J g → AWP P w0 r X c (I g) (thenQ (fun s' => ∃ g', J g' ∧ μ g' < μ g ∧ Imp w0 X s' (I g')) Q)) : AWP P w0 r X (.loop c) s Q := by
  refine awp_loopI (γ := { g : γ // J g }) (fun g => I g.1) (fun g => μ g.1) ⟨g0, hJ⟩ h0 ?_
  rintro ⟨g, hg⟩
  refine AWP.mono (round g hg) fun e s' hq => ?_
  cases e with
  | normal => obtain ⟨g', h1, h2, h3⟩ := hq; exact ⟨⟨g', h1⟩, h2, h3⟩
  | exit id => exact hq
  | goto l => exact hq
  | ret => exact hq
  | panic c => exact hq
  | outgrown => exact hq
end
def recs {α : Type} (enc : α → List AV) (l : List α) : List AV := l.flatMap enc
section
variable {α : Type} {enc : α → List AV} {sz : Nat} {l : List α} {d : α}
theorem recs_length (he : ∀ a, (enc a).length = sz) : (recs enc l).length = l.length * sz := by
  induction l with
  | nil => simp [recs]
  | cons a l ih => simp only [recs, List.flatMap_cons, List.length_append, he, List.length_cons] at ih ⊢; rw [ih, Nat.add_mul]; omega
theorem recs_drop (he : ∀ a, (enc a).length = sz) : ∀ (i : Nat), (recs enc l).drop (i * sz) = recs enc (l.drop i) := by
  intro i
  induction i generalizing l with
  | zero => simp
  | succ i ih =>
    cases l with
    | nil => simp [recs]
    | cons a l =>
      have : (i + 1) * sz = (enc a).length + i * sz := by rw [he, Nat.add_mul]; omega
      rw [this]
      simp only [recs, List.flatMap_cons, List.drop_succ_cons]
      rw [← List.drop_drop, List.drop_left]
      exact ih (l := l)
theorem recs_at (he : ∀ a, (enc a).length = sz) {i : Nat} (hi : i < l.length) : (recs enc l).drop (i * sz) = enc (l.getD i d) ++ recs enc (l.drop (i + 1)) := by
  rw [recs_drop he, List.drop_eq_getElem_cons hi]
  simp only [recs, List.flatMap_cons]
  have : l.getD i d = l[i] := by simp [List.getD_eq_getElem?_getD, hi]
  rw [this]
theorem recs_window (he : ∀ a, (enc a).length = sz) {i : Nat} (hi : i < l.length) : window (recs enc l) (i * sz) sz = enc (l.getD i d) := by
  unfold window
  rw [recs_at (d := d) he hi, List.take_left' (he _)]
theorem recs_nth (he : ∀ a, (enc a).length = sz) {i o : Nat} (hi : i < l.length) (ho : o < sz) : nth (recs enc l) (i * sz + o) = nth (enc (l.getD i d)) o := by
  rw [← nth_is, ← nth_is]
  have : (recs enc l)[i * sz + o]? = ((recs enc l).drop (i * sz))[o]? := by rw [List.getElem?_drop]
  rw [this, recs_at (d := d) he hi, List.getElem?_append_left (by rw [he]; exact ho)]
theorem recs_pure (h : ∀ a, pureL (enc a)) : pureL (recs enc l) := by
  intro x hx
  obtain ⟨a, _, ha⟩ := List.mem_flatMap.1 hx
  exact h a x ha
theorem recs_live {p : Nat → Bool} (h : ∀ a, pureL (enc a)) : (recs enc l).all (live2 p) = true := by
  rw [List.all_eq_true]
  intro x hx
  have := recs_pure (l := l) h x hx
  cases x <;> simp only [cellPure, Bool.false_eq_true] at this <;> try rfl
  rename_i f xs ys
  cases f <;> simp only [cellPure, Bool.false_eq_true, Bool.and_eq_true, List.isEmpty_iff] at this
  obtain ⟨rfl, rfl⟩ := this
  rfl
theorem recs_snoc {a : α} : recs enc (l ++ [a]) = recs enc l ++ enc a := by simp [recs]
theorem recs_nil : recs enc [] = [] := rfl
end
end Go.Am
namespace Go.Am
open Go.RowKit
def isStp : Code → Bool
  | .region _ _ d => !d
  | .label _ => true
  | .skip => true
  | .exit _ => true
  | .cond _ _ _ => true
  | .ret => true
  | _ => false
section
variable [Base] {P : Program} {w0 : World} {r : Option Nat} {X : Ctx} {s : St} {Q : Exit → St → Prop} {c : Code}
def stp (P : Program) (w0 : World) (r : Option Nat) (X : Ctx) (s : St) (Q : Exit → St → Prop) : Code → Prop
  | .region _ ops _ => evOps P ops ops.toList s [] fun s' _ => Q .normal s'
  | .label _ => Q .normal s
  | .skip => Q .normal s
  | .exit id => Q (.exit id) s
  | .cond c x y => condK (aev s.T c) (AWP P w0 r X x s Q) (AWP P w0 r X y s Q)
  | .ret => Q .ret s
  | _ => False
theorem awp_stp (hc : isStp c = true) (h : stp P w0 r X s Q c) : AWP P w0 r X c s Q := by
  unfold isStp at hc
  split at hc
  · rename_i id ops d
    cases d with
    | true => cases hc
    | false =>
      have e : ops = ops.toList.toArray := by simp
      rw [e]
      refine awp_region ?_
      rw [← e]; exact h
  · exact awp_label h
  · exact awp_skip h
  · exact awp_exit h
  · exact awp_cd h
  · exact awp_ret h
  · cases hc
theorem st_rg {id : Nat} {ops : List Oper} {d : Bool} : stp P w0 r X s Q (.region id ops.toArray d) = evOps P ops.toArray ops s [] fun s' _ => Q .normal s' := nrfl rfl
theorem st_lb {l : Nat} : stp P w0 r X s Q (.label l) = Q .normal s := nrfl rfl
theorem st_sk : stp P w0 r X s Q .skip = Q .normal s := nrfl rfl
theorem st_ex {id : Nat} : stp P w0 r X s Q (.exit id) = Q (.exit id) s := nrfl rfl
theorem st_cd {c : Operand} {x y : Code} : stp P w0 r X s Q (.cond c x y) = condK (aev s.T c) (AWP P w0 r X x s Q) (AWP P w0 r X y s Q) := nrfl rfl
theorem st_rt : stp P w0 r X s Q .ret = Q .ret s := nrfl rfl
attribute [go_sem] st_rg st_lb st_sk st_ex st_cd st_rt
end
theorem CallS.subA {P : Program} {f : FuncId} {xs ys : List AV} {r : AV} (h : CallS P f [.agg ys] r) (hs : subL xs ys) : CallS P f [.agg xs] r := by
  obtain ⟨hl, hj⟩ := subL_spec hs
  refine ⟨h.1, fun w vs ok hok hlen hrep => h.2 w vs ok hok hlen (fun j a b => ?_)⟩
  have h0 : j = 0 := by
    have : j < 1 := a
    omega
  subst h0
  have p := hrep 0 (by simp) b
  simp only [List.getElem_cons_zero] at p ⊢
  generalize vs[0] = v at *
  cases p with
  | agg us h1 ho r1 => exact .agg us (by omega) ho (fun j a b => prep_sub (r1 j (by omega) b) (hj j (by omega) a).1 (hj j (by omega) a).2)
def subD : List AV → List AV → Prop
  | [], [] => True
  | x :: xs, y :: ys => ((avSub x y ∧ y ≠ .junk) ∨ ∃ us vs, x = .agg us ∧ y = .agg vs ∧ subL us vs) ∧ subD xs ys
  | [], _ :: _ => False
  | _ :: _, [] => False
theorem subD_spec {ok : Nat → Prop} {w : World} : ∀ {xs ys : List AV}, subD xs ys → ys.length = xs.length ∧ ∀ j (a : j < xs.length) (b : j < ys.length) (v : Value), PRep ok w xs[j] v → PRep ok w ys[j] v
  | [], [], _ => ⟨rfl, fun j a => by simp at a⟩
  | x :: xs, y :: ys, h => by
    obtain ⟨h1, h2⟩ := h
    obtain ⟨l, hj⟩ := subD_spec (ok := ok) (w := w) h2
    refine ⟨by simp [l], fun j a b v p => ?_⟩
    cases j with
    | succ j => exact hj j (by simpa using a) (by simpa using b) v (by simpa using p)
    | zero =>
      simp only [List.getElem_cons_zero] at p ⊢
      rcases h1 with ⟨h3, h4⟩ | ⟨us, vs, rfl, rfl, h3⟩
      · exact prep_sub p h3 h4
      · obtain ⟨hl, hk⟩ := subL_spec h3
        cases p with
        | agg ws e1 ho r1 => exact .agg ws (by omega) ho (fun j a b => prep_sub (r1 j (by omega) b) (hk j (by omega) a).1 (hk j (by omega) a).2)
theorem CallS.subD {P : Program} {f : FuncId} {xs ys : List AV} {r : AV} (h : CallS P f ys r) (hs : Go.Am.subD xs ys) : CallS P f xs r :=
  ⟨h.1, fun w vs ok hok hlen hrep => h.2 w vs ok hok (by rw [(subD_spec (ok := ok) (w := w) hs).1]; exact hlen) (fun j a b => by
    have hl := (subD_spec (ok := ok) (w := w) hs).1
    exact (subD_spec hs).2 j (by omega) a vs[j] (hrep j (by omega) b))⟩
end Go.Am
namespace Go.Am
open Go.RowKit
section
variable {P : Program} {eqt : TypeId → Bool} {pm ent : FuncId → Bool} {lf : Nat}
theorem resX_K {s : St} : ∀ (rs : List ResultVar) {xs : List AV} {K : List AV → Prop}, resX P s rs = some xs → K xs → resK P s rs K
  | [], xs, K, h, hk => by simp [resX] at h; subst h; exact hk
  | .tmp t :: rs, xs, K, h, hk => by
    simp only [resX] at h
    obtain ⟨ys, hy, rfl⟩ := map_some h
    exact resX_K rs hy hk
  | .cell a t :: rs, xs, K, h, hk => by
    simp only [resX] at h
    split at h
    · rename_i hp
      split at h
      · rename_i hb
        split at h
        · rename_i hg
          split at h
          · rename_i v hv
            obtain ⟨ys, hy, rfl⟩ := map_some h
            simp only [resK, hp, hb]
            exact ⟨hg, loadX_sound hv (resX_K rs hy hk)⟩
          · cases h
        · cases h
      · cases h
    · cases h
theorem shutX_frm : ∀ (D : List Nat) {H H2 : List (Option ABlk)}, shutX D H = some H2 → Frm H H2 D
  | [], H, H2, h => by simp [shutX] at h; subst h; exact Frm.refl _
  | d :: ds, H, H2, h => by
    simp only [shutX] at h
    split at h
    · exact ((Frm.set H d _).trans (shutX_frm ds h)).congr (fun b => by simp)
    · cases h
theorem leavesX [Base] {w0 : World} {fn : Func} {T : List AV} {H2 : List (Option ABlk)} {vs : List AV} (hres : resX P ⟨T, H2, []⟩ fn.results.toList = some vs) {RR : Ending → World → Prop} {Z : Nat → Option ABlk} {mz : Nat → Option Loc} {wz : World}
    (hR : ∀ v w' m', Good w0 (hget H2) m' w' → Ext Z mz wz (hget H2) m' w' → Rep (hget H2) m' w' (finAV vs) v → RR (.returned v) w') :
    ∀ (D : List Nat) (H : List (Option ABlk)) (a : Act) (w : World) (m : Nat → Option Loc), shutX D H = some H2 → SatM w0 [] (lget T) T.length (hget H) D m a w → Ext Z mz wz (hget H) m w →
      LeavesInM (FW none) 0 P fn a.tmps RR a.defers .returning w
  | [], H, a, w, m, hk, hs, ex => by
    simp only [shutX, Option.some.injEq] at hk
    subst hk
    obtain ⟨ls, h1, _, h3⟩ := hs.marks
    have : ls = [] := List.eq_nil_of_length_eq_zero (by simpa using h1)
    subst this
    rw [h3]
    obtain ⟨xs, rfl, hxl, hrs⟩ := resK_sound (w0 := w0) (X := []) fn.results.toList (resX_K (K := fun xs => xs = vs) fn.results.toList hres rfl)
    obtain ⟨us, hul, hrun, hrep⟩ := hrs hs
    refine ⟨_, run_results hrun, hR _ _ m hs.good ex ?_⟩
    match xs, us, hul with
    | [], [], _ => exact .tup [] rfl (fun j a => by simp at a)
    | [y], [u], _ => exact hrep 0 (by simp) (by simp)
    | y :: y' :: ys, u :: u' :: us, hul => exact .tup (u :: u' :: us) (by simp at hul ⊢; omega) hrep
    | [], _ :: _, hul => simp at hul
    | _ :: _, [], hul => simp at hul
    | [_], _ :: _ :: _, hul => simp at hul
    | _ :: _ :: _, [_], hul => simp at hul
  | d :: ds, H, a, w, m, hk, hs, ex => by
    simp only [shutX] at hk
    split at hk
    · rename_i hd
      obtain ⟨ls, h1, h2, h3⟩ := hs.marks
      cases ls with
      | nil => simp at h1
      | cons l ls =>
        have hm0 : m d = some l := (h2 0 (by simp) (by simp)).1
        obtain ⟨l', hl', hheap⟩ := hs.good.blk d _ hd
        rw [hm0] at hl'; cases hl'
        simp only [if_true] at hheap
        rw [h3]
        simp only [List.map_cons, List.map_nil, List.append_nil]
        have htake := run_takeDeferred (P := P) hheap
        obtain ⟨g1, e1⟩ := good_same hs.good hd hm0 (.deferred none) (k := .dfr false) (fun h => h) ⟨l, upd_same _ _ _, by simpa using World.putObj_heap_same (lt_of_heap hheap)⟩ (by simp)
        rw [← hget_upd] at g1 e1
        refine ⟨by simp, .inl ⟨l.c, _, rfl, htake, ?_⟩⟩
        refine leavesX hres hR ds (hset H d (.dfr false)) { a with defers := ls.map fun l => { target := .collected l.c, args := #[] } } _ _ hk ?_ (ex.trans e1)
        have hmv := hs.move g1 e1
        refine ⟨hmv.good, hmv.size, hmv.tmps, hmv.roots, ls, by simpa using h1, fun j x y => ?_, by simp⟩
        have := h2 (j + 1) (by simpa using x) (by simpa using y)
        simp only [List.getElem_cons_succ] at this
        obtain ⟨b1, oo, b2⟩ := this
        obtain ⟨⟨o', b3⟩, b4⟩ := e1.dfr _ _ b2
        exact ⟨b4.trans b1, o', b3⟩
    · cases hk
theorem putArgs_sound [Base] {h : Nat → Option ABlk} {m : Nat → Option Loc} {w : World} : ∀ (ps : List Tmp) (xs : List AV) (T T1 : List AV) (us : List Value) (tm : Array Value), putArgs ps xs T = some T1 → xs.length = us.length → (∀ j (a : j < xs.length) (b : j < us.length), Rep h m w xs[j] us[j]) →
    tm.size = T.length → (∀ j, j < T.length → ∃ v, tm[j]? = some v ∧ Rep h m w (lget T j) v) →
    ps.length = us.length ∧ T1.length = T.length ∧ ((ps.zip us).foldl (fun t p => t.setIfInBounds p.1 p.2) tm).size = T.length ∧ ∀ j, j < T.length → ∃ v, ((ps.zip us).foldl (fun t p => t.setIfInBounds p.1 p.2) tm)[j]? = some v ∧ Rep h m w (lget T1 j) v
  | [], [], T, T1, us, tm, hp, hl, hr, hs, ht => by
    simp only [putArgs, Option.some.injEq] at hp
    subst hp
    have : us = [] := List.eq_nil_of_length_eq_zero (by simpa using hl.symm)
    subst this
    exact ⟨rfl, rfl, hs, ht⟩
  | p :: ps, x :: xs, T, T1, us, tm, hp, hl, hr, hs, ht => by
    simp only [putArgs] at hp
    cases us with
    | nil => simp at hl
    | cons u us =>
      have h0 := hr 0 (by simp) (by simp)
      simp only [List.getElem_cons_zero] at h0
      obtain ⟨i1, i2, i3, i4⟩ := putArgs_sound ps xs (lset T p x) T1 us (tm.setIfInBounds p u) hp (by simpa using hl) (fun j a b => hr (j + 1) (by simpa using a) (by simpa using b)) (by simp [hs, lset_length]) (fun j hj => by
        rw [lset_length] at hj
        obtain ⟨v, hv, hrv⟩ := ht j hj
        rw [lget_set]
        by_cases hpj : p = j
        · subst hpj
          refine ⟨u, Array.getElem?_setIfInBounds_self_of_lt (by rw [hs]; exact hj), ?_⟩
          rw [if_pos ⟨rfl, hj⟩]; exact h0
        · refine ⟨v, by rw [Array.getElem?_setIfInBounds_ne hpj]; exact hv, ?_⟩
          rw [if_neg (fun h => hpj h.1)]; exact hrv)
      rw [lset_length] at i2 i3 i4
      exact ⟨by simp [i1], i2, by simpa using i3, by simpa using i4⟩
  | [], _ :: _, _, _, _, _, hp, _, _, _, _ => by simp [putArgs] at hp
  | _ :: _, [], _, _, _, _, hp, _, _, _, _ => by simp [putArgs] at hp
theorem round_end [Base] {w0 : World} {Z : Nat → Option ABlk} {mz : Nat → Option Loc} {wz : World} {H : List (Option ABlk)} {m : Nat → Option Loc} {w : World} (g : Good w0 (hget H) m w) (ex : Ext Z mz wz (hget H) m w) {b : Nat} {l : Loc} (hm : m b = some l)
    {fn : FuncId} {T : List AV} {ps : Array Tmp} {asg body : Code} {d : Nat} (hb : hget H b = some (.loop .busy none fn T ps asg body d)) (jump : Option Code) (st : LoopState) (hst : st = if jump.isNone then .ready else .done) :
    ∃ v w', (Instr.endRound l.c jump).run P w = .ok v w' ∧ ∃ v' m', Ending.returned v = .returned v' ∧ Good w0 (hget (hset H b (.loop st jump fn T ps asg body d))) m' w' ∧ Ext Z mz wz (hget (hset H b (.loop st jump fn T ps asg body d))) m' w' ∧
      Rep (hget (hset H b (.loop st jump fn T ps asg body d))) m' w' (.bool jump.isNone) v' := by
  subst hst
  obtain ⟨rec, k1, _, _, _, _, _, _, _, g4, e4⟩ := rec_same g hb hm (if jump.isNone then .ready else .done) jump
  rw [← hget_upd] at g4 e4
  exact ⟨_, _, run_endRound jump k1, _, _, rfl, g4, ex.trans e4, .pure (.bool _)⟩
theorem xcall_sound (he : ∀ t, eqt t = true → EqOK P t) (hen : ∀ g, ent g = true → Enters P g) (hmx : P.follows .mixedOrders = true) : ∀ n, CvOK P (xcall P eqt pm ent lf n) := by
  intro n
  induction n with
  | zero => intro fv as H r H' W hx; simp [xcall] at hx
  | succ n ih =>
    have hcode := fun rd => xcode_sound (rd := rd) (lf := lf) (pm := pm) he hmx ih
    intro fv as H r H' W hx
    simp only [xcall] at hx
    split at hx
    · rename_i g first caps
      split at hx
      · rename_i hent
        split at hx
        · rename_i fn hfn
          split at hx
          · rename_i c hbody
            have key : ∀ (ex : Exit) (s' : St) (W' : List Nat), (ex = .normal ∨ ex = .ret) → xcode P eqt pm (xcall P eqt pm ent lf n) lf false c ⟨initT (first ++ as ++ caps) fn.ntmps, H, []⟩ = some (ex, s', W') →
                (match shutX s'.D s'.H with
                  | some H2 => (match resX P ⟨s'.T, H2, []⟩ fn.results.toList with
                    | some vs => some (finAV vs, H2, s'.D ++ W')
                    | none => none)
                  | none => none) = some (r, H', W) → Frm H H' W ∧ Sem P (.fn (.func g) first caps) as H r H' := by
              intro exx s' W' hex hc hx
              split at hx
              · rename_i H2 hsh
                split at hx
                · rename_i vs hvs
                  cases hx
                  obtain ⟨f1, x1⟩ := hcode false c _ _ _ _ hc
                  refine ⟨(f1.trans (shutX_frm _ hsh)).congr (fun b => by simp [or_comm]), hen g hent, fun w0 m w us hg hlen hrep => ?_⟩
                  refine callsIn_of_wp_marks hfn hbody trivial ?_
                  have hsat : SatM w0 [] (lget (initT (first ++ as ++ caps) fn.ntmps)) (initT (first ++ as ++ caps) fn.ntmps).length (hget H) [] m { tmps := us.toArray ++ Array.replicate (fn.ntmps - us.toArray.size) undef, defers := [] } w := by
                    refine ⟨hg, ?_, fun j hj => ?_, HidR.nil, [], rfl, fun j a => by simp at a, rfl⟩
                    · simp only [initT, List.length_append, junks_length, Array.size_append, List.size_toArray, Array.size_replicate] at hlen ⊢
                      omega
                    · simp only [initT, List.length_append, junks_length] at hj
                      rw [initT, lget_append]
                      by_cases hj' : j < (first ++ as ++ caps).length
                      · refine ⟨us[j], ?_, ?_⟩
                        · rw [Array.getElem?_append_left (by simpa using (by omega : j < us.length))]; simp
                        · rw [dif_pos hj']
                          exact hrep j hj' (by omega)
                      · refine ⟨undef, ?_, ?_⟩
                        · rw [Array.getElem?_append_right (by simpa using (by omega : us.length ≤ j))]
                          rw [Array.getElem?_replicate, if_pos (by simp only [List.length_append] at hj' hlen; simp; omega)]
                        · rw [dif_neg hj', lget_junks]; exact .junk _
                  refine wpIn_mono (x1 w0 none [] m _ w (fun _ => rfl) hsat) ?_
                  rintro e' a' w' ⟨rfl, m', hs', ex'⟩
                  have := leavesX (P := P) (w0 := w0) (fn := fn) hvs (RR := fun e w' => ∃ v m', e = .returned v ∧ Good w0 (hget H') m' w' ∧ Ext (hget H) m w (hget H') m' w' ∧ Rep (hget H') m' w' (finAV vs) v) (fun v w' m' a b c => ⟨v, m', rfl, a, b, c⟩) s'.D s'.H a' w' m' hsh hs' ex'
                  rcases hex with rfl | rfl
                  · exact this
                  · exact this
                · cases hx
              · cases hx
            split at hx
            · rename_i s' W' hc; exact key _ s' W' (.inl rfl) hc hx
            · rename_i s' W' hc; exact key _ s' W' (.inr rfl) hc hx
            · cases hx
          · cases hx
        · cases hx
      · cases hx
    · rename_i b
      split at hx
      · rename_i fn T ps asg body d hb
        split at hx
        · rename_i T1 hT1
          split at hx
          · rename_i s1 W1 hc1
            obtain ⟨f1, x1⟩ := hcode true asg _ _ _ _ hc1
            split at hx
            · rename_i fn' T' ps' asg' body' d' hb1
              have key : ∀ (e2 : Exit) (s2 : St) (W2 : List Nat) (jump : Option Code) (fn2 : FuncId) (T2 : List AV) (ps2 : Array Tmp) (asg2 body2 : Code) (d2 : Nat), xcode P eqt pm (xcall P eqt pm ent lf n) lf true body' ⟨s1.T, hset s1.H b (.loop .busy none fn' T' ps' asg' body' d'), s1.D⟩ = some (e2, s2, W2) →
                  hget s2.H b = some (.loop .busy none fn2 T2 ps2 asg2 body2 d2) → (∀ l R a w, (∃ v w', (Instr.endRound l jump).run P w = .ok v w' ∧ R (.returned v) w') → roundPost P l R e2 a w) →
                  Frm H (hset s2.H b (.loop (if jump.isNone then .ready else .done) jump fn2 T2 ps2 asg2 body2 d2)) (b :: (W1 ++ W2)) ∧ SemY P b as H (.bool jump.isNone) (hset s2.H b (.loop (if jump.isNone then .ready else .done) jump fn2 T2 ps2 asg2 body2 d2)) := by
                intro e2 s2 W2 jump fn2 T2 ps2 asg2 body2 d2 hc2 hb2 hpost
                obtain ⟨f2, x2⟩ := hcode true body' _ _ _ _ hc2
                refine ⟨(((f1.trans (Frm.set _ b _)).trans f2).trans (Frm.set _ b _)).congr (fun c => ?_), ?_⟩
                · simp only [List.mem_append, List.mem_cons, List.not_mem_nil, or_false]
                  constructor
                  · rintro (((h | h) | h) | h) <;> simp [h]
                  · rintro (h | h | h) <;> simp [h]
                · intro _ w0 m w us l hg hl hlen hrep
                  obtain ⟨rec, k1, k2, k3, k4, k5, k6, k7, k8, _, _⟩ := rec_same hg hb hl .ready none
                  obtain ⟨p1, p2, p3, p4⟩ := putArgs_sound ps.toList as T T1 us rec.tmps hT1 hlen hrep k7 (fun j hj => by
                    obtain ⟨v, hv, hr⟩ := k8 j hj
                    refine ⟨v, hv, ?_⟩
                    rw [lget_get, List.getElem?_eq_getElem hj]; exact hr)
                  have hy := run_yield (P := P) (args := us.toArray) k1 (by rw [k4]; simpa using p1.symm)
                  have hfold : (rec.params.zip us.toArray).foldl (fun tmps (t, a) => tmps.setIfInBounds t a) rec.tmps = (ps.toList.zip us).foldl (fun t p => t.setIfInBounds p.1 p.2) rec.tmps := by
                    rw [k4, ← Array.foldl_toList, Array.toList_zip]
                  refine ⟨_, _, _, _, hy, roundIn_of_wpIn trivial ?_⟩
                  rw [hfold, k5]
                  have hsat : SatM w0 [] (lget T1) T1.length (hget H) [] m { tmps := (ps.toList.zip us).foldl (fun t p => t.setIfInBounds p.1 p.2) rec.tmps, defers := [] } w :=
                    ⟨hg, by rw [p2]; exact p3, fun j hj => p4 j (by rw [← p2]; exact hj), HidR.nil, [], rfl, fun j a => by simp at a, rfl⟩
                  refine wpIn_mono (x1 w0 (some l.c) [] m _ w (by simp) hsat) ?_
                  rintro e' a1 w1 ⟨rfl, m1, hs1, ex1⟩
                  have hl1 : m1 b = some l := by rw [(ex1.loop _ _ _ _ _ _ _ _ _ hb).2]; exact hl
                  obtain ⟨rec1, q1, q2, q3, _, _, q6, _, _, g2, e2x⟩ := rec_same hs1.good hb1 hl1 .busy none
                  rw [← hget_upd] at g2 e2x
                  have hbr := run_beginRound (P := P) q1 q2
                  rw [q3] at hbr
                  have hbody : rec.body = body' := by
                    have h5 : ∃ st' pend', hget s1.H b = some (.loop st' pend' fn T ps asg body d) := (ex1.loop _ _ _ _ _ _ _ _ _ hb).1
                    obtain ⟨st', pend', h5⟩ := h5
                    rw [hb1] at h5
                    cases h5
                    exact k6
                  refine ⟨_, hbr, ?_⟩
                  rw [hbody]
                  have hs2 : SatM w0 [] (lget s1.T) s1.T.length (hget (hset s1.H b (.loop .busy none fn' T' ps' asg' body' d'))) s1.D _ a1 _ := hs1.move g2 e2x
                  refine wpIn_mono (x2 w0 (some l.c) [] _ a1 _ (by simp) hs2) ?_
                  rintro e3 a3 w3 ⟨rfl, m3, hs3, ex3⟩
                  have hl3 : m3 b = some l := by
                    rw [(ex3.loop _ _ _ _ _ _ _ _ _ (by rw [hget_upd, upd_same])).2, upd_same]
                  obtain ⟨v, w4, r1, v', m4, r2, r3, r4, r5⟩ := round_end (P := P) hs3.good ((ex1.trans e2x).trans ex3) hl3 hb2 jump _ rfl
                  exact hpost _ _ _ _ ⟨v, w4, r1, v', m4, r2, r3, r4, r5⟩
              split at hx
              · rename_i s2 W2 hc2
                split at hx
                · rename_i hb2
                  cases hx
                  exact key _ _ _ none _ _ _ _ _ _ hc2 hb2 (fun l R a w h => h)
                · cases hx
              · rename_i s2 W2 hc2
                split at hx
                · rename_i hb2
                  cases hx
                  exact key _ _ _ (some .ret) _ _ _ _ _ _ hc2 hb2 (fun l R a w h => h)
                · cases hx
              · rename_i id s2 W2 hc2
                split at hx
                · rename_i hb2
                  cases hx
                  exact key _ _ _ (some (.exit id)) _ _ _ _ _ _ hc2 hb2 (fun l R a w h => h)
                · cases hx
              · cases hx
            · cases hx
          · cases hx
        · cases hx
      · cases hx
    · cases hx
theorem callS_run (he : ∀ t, eqt t = true → EqOK P t) (hen : ∀ g, ent g = true → Enters P g) (hmx : P.follows .mixedOrders = true) {n : Nat} {g : FuncId} {as : List AV} {y : AV} (h : pcallX (xcall P eqt pm ent lf n) g as = some y) : CallS P g as y := by
  unfold pcallX at h
  split at h
  · rename_i r H' W hc
    obtain ⟨_, hs⟩ := xcall_sound he hen hmx n _ _ _ _ _ _ hc
    exact callS_of_semF (by simpa [Sem] using hs) h
  · cases h
end
end Go.Am
namespace Go.Am
open Go.RowKit
def SV (xs : List AV) (us : List Value) : Prop := xs.mapM scalVal = some us
theorem sv_nil {us : List Value} : SV [] us ↔ us = [] := by simp [SV, eq_comm]
theorem sv_cons {x : AV} {xs : List AV} {us : List Value} : SV (x :: xs) us ↔ ∃ u vs, scalVal x = some u ∧ SV xs vs ∧ us = u :: vs := by
  simp only [SV, List.mapM_cons, Option.bind_eq_bind, Option.bind_eq_some_iff, Option.pure_def, Option.some.injEq]
  constructor
  · rintro ⟨u, hu, vs, hv, rfl⟩; exact ⟨u, vs, hu, hv, rfl⟩
  · rintro ⟨u, vs, hu, hv, rfl⟩; exact ⟨u, hu, vs, hv, rfl⟩
theorem SV.length : ∀ {xs : List AV} {us : List Value}, SV xs us → us.length = xs.length
  | [], us, h => by rw [sv_nil.1 h]; rfl
  | x :: xs, us, h => by obtain ⟨u, vs, _, hv, rfl⟩ := sv_cons.1 h; simp [hv.length]
theorem SV.drop : ∀ (n : Nat) {xs : List AV} {us : List Value}, SV xs us → SV (xs.drop n) (us.drop n)
  | 0, xs, us, h => by simpa using h
  | n + 1, [], us, h => by rw [sv_nil.1 h]; simpa using sv_nil.2 rfl
  | n + 1, x :: xs, us, h => by
    obtain ⟨u, vs, _, hv, rfl⟩ := sv_cons.1 h
    simpa using hv.drop n
theorem SV.take : ∀ (n : Nat) {xs : List AV} {us : List Value}, SV xs us → SV (xs.take n) (us.take n)
  | 0, xs, us, h => by simpa using sv_nil.2 rfl
  | n + 1, [], us, h => by rw [sv_nil.1 h]; simpa using sv_nil.2 rfl
  | n + 1, x :: xs, us, h => by
    obtain ⟨u, vs, hu, hv, rfl⟩ := sv_cons.1 h
    simp only [List.take_succ_cons]
    exact sv_cons.2 ⟨u, _, hu, hv.take n, rfl⟩
theorem scalEq_split : ∀ (n : Nat) {xs ys : List AV} {b : Bool}, scalEq xs ys = some b → ∃ b1 b2, scalEq (xs.take n) (ys.take n) = some b1 ∧ scalEq (xs.drop n) (ys.drop n) = some b2 ∧ b = (b1 && b2)
  | 0, xs, ys, b, h => ⟨true, b, by simp [scalEq], by simpa using h, by simp⟩
  | n + 1, xs, ys, b, h => by
    match xs, ys with
    | [], [] => simp only [scalEq, Option.some.injEq] at h; subst h; exact ⟨true, true, by simp [scalEq], by simp [scalEq], rfl⟩
    | x :: xs, [] => cases x <;> simp [scalEq] at h
    | [], y :: ys => simp [scalEq] at h
    | x :: xs, y :: ys =>
      cases x <;> cases y <;> simp only [scalEq, reduceCtorEq] at h
      case int.int k a k' a' =>
        split at h
        · rename_i hk
          obtain ⟨c, hc, rfl⟩ := map_some h
          obtain ⟨b1, b2, h1, h2, rfl⟩ := scalEq_split n hc
          exact ⟨decide (a = a') && b1, b2, by simp [scalEq, hk, h1], by simpa using h2, by simp [Bool.and_assoc]⟩
        · cases h
      case bool.bool a a' =>
        obtain ⟨c, hc, rfl⟩ := map_some h
        obtain ⟨b1, b2, h1, h2, rfl⟩ := scalEq_split n hc
        exact ⟨(a == a') && b1, b2, by simp [scalEq, h1], by simpa using h2, by simp [Bool.and_assoc]⟩
section
variable {P : Program}
def EqVal (P : Program) (d : Nat) (t : TypeId) (bs : List Bool) : Prop := ∀ (k : Nat) (xs ys : List AV) (us vs : List Value) (u v : Value) (b : Bool) (w : World), xs.map kindB = bs → ys.map kindB = bs → SV xs us → SV ys vs → Val P t us u → Val P t vs v → scalEq xs ys = some b →
  (Op.equalIn (d + k) t u v).run P w = .ok b w
theorem take_map {xs : List AV} {l bs : List Bool} {off : Nat} (h : (xs.drop off).map kindB = l ++ bs) : ((xs.drop off).take l.length).map kindB = l ∧ (xs.drop (off + l.length)).map kindB = bs ∧ off + l.length ≤ xs.length ∨ (l = [] ∧ ((xs.drop off).take l.length).map kindB = l ∧ (xs.drop (off + l.length)).map kindB = bs) := by
  have h1 : ((xs.drop off).take l.length).map kindB = l := by rw [List.map_take, h, List.take_left]
  have h2 : (xs.drop (off + l.length)).map kindB = bs := by rw [← List.drop_drop, List.map_drop, h, List.drop_left]
  cases l with
  | nil => exact .inr ⟨rfl, h1, h2⟩
  | cons x l =>
    refine .inl ⟨h1, h2, ?_⟩
    have := congrArg List.length h
    simp at this
    simp
    omega
theorem eqFields_flat {d : Nat} (ih : ∀ t bs, flatT P d t = some bs → EqVal P d t bs) (k : Nat) (xs ys : List AV) (us vs : List Value) (hx : SV xs us) (hy : SV ys vs) (w : World) : ∀ (fs : List Field) (off : Nat) (bs : List Bool) (b : Bool),
    flatF (flatT P d) fs off = some bs → (xs.drop off).map kindB = bs → (ys.drop off).map kindB = bs → off ≤ xs.length → off ≤ ys.length → scalEq (xs.drop off) (ys.drop off) = some b → (Op.eqFields (d + k) us.toArray vs.toArray fs).run P w = .ok b w
  | [], off, bs, b, hf, h1, h2, _, _, hb => by
    simp only [flatF, Option.some.injEq] at hf
    subst hf
    rw [List.map_eq_nil_iff.1 h1, List.map_eq_nil_iff.1 h2] at hb
    simp only [scalEq, Option.some.injEq] at hb
    subst hb
    simp [Op.eqFields]
  | f :: fs, off, bs, b, hf, hbx, hby, ox, oy, hb => by
    simp only [flatF] at hf
    split at hf
    · rename_i hc
      obtain ⟨hname, rfl⟩ := hc
      split at hf
      · rename_i l hcf
        obtain ⟨bs', hfs, rfl⟩ := map_some hf
        obtain ⟨b1, b2, h1, h2, rfl⟩ := scalEq_split l.length hb
        rw [List.drop_drop, List.drop_drop] at h2
        have lenx := congrArg List.length hbx
        have leny := congrArg List.length hby
        simp only [List.length_map, List.length_drop, List.length_append] at lenx leny
        have kx : ((xs.drop f.offset).take l.length).map kindB = l := by rw [List.map_take, hbx, List.take_left]
        have ky : ((ys.drop f.offset).take l.length).map kindB = l := by rw [List.map_take, hby, List.take_left]
        have dx : (xs.drop (f.offset + l.length)).map kindB = bs' := by rw [← List.drop_drop, List.map_drop, hbx, List.drop_left]
        have dy : (ys.drop (f.offset + l.length)).map kindB = bs' := by rw [← List.drop_drop, List.map_drop, hby, List.drop_left]
        have hr := eqFields_flat ih k xs ys us vs hx hy w fs (f.offset + l.length) bs' b2 hfs dx dy (by omega) (by omega) h2
        obtain ⟨bb, g1, g2, g3⟩ := flat_info hcf
        have lx := hx.length
        have ly := hy.length
        obtain ⟨u, p1, p2⟩ := part_val (us := us) (off := f.offset) g1 g2 g3 (by omega) w
        obtain ⟨v, q1, q2⟩ := part_val (us := vs) (off := f.offset) g1 g2 g3 (by omega) w
        have he := ih f.type l hcf k _ _ _ _ u v b1 w kx ky ((hx.drop _).take _) ((hy.drop _).take _) p2 q2 h1
        have hname' : f.name ≠ "_" := by simpa using hname
        simp only [Op.eqFields, hname', ne_eq, not_false_eq_true, if_true, Sem.run_bind, p1, q1, he, Result.andThen_ok]
        cases b1
        · simp
        · simpa using hr
      · cases hf
    · cases hf
theorem eqItems_flat {d : Nat} {e : TypeId} {l : List Bool} (he : flatT P d e = some l) (ih : EqVal P d e l) (k : Nat) (xs ys : List AV) (us vs : List Value) (hx : SV xs us) (hy : SV ys vs) (w : World) : ∀ (n i : Nat) (b : Bool),
    (xs.drop (i * l.length)).map kindB = (List.replicate n l).flatten → (ys.drop (i * l.length)).map kindB = (List.replicate n l).flatten → i * l.length ≤ xs.length → i * l.length ≤ ys.length → scalEq (xs.drop (i * l.length)) (ys.drop (i * l.length)) = some b → (Op.eqItems (d + k) e (P.cellsOf e) us.toArray vs.toArray (List.range' i n)).run P w = .ok b w
  | 0, i, b, h1, h2, _, _, hb => by
    simp only [List.replicate_zero, List.flatten_nil, List.map_eq_nil_iff] at h1 h2
    rw [h1, h2] at hb
    simp only [scalEq, Option.some.injEq] at hb
    subst hb
    simp [Op.eqItems]
  | n + 1, i, b, hbx, hby, ox, oy, hb => by
    obtain ⟨b1, b2, h1, h2, rfl⟩ := scalEq_split l.length hb
    have hi1 : i * l.length + l.length = (i + 1) * l.length := by rw [Nat.add_mul, Nat.one_mul]
    rw [List.drop_drop, List.drop_drop, hi1] at h2
    rw [List.replicate_succ, List.flatten_cons] at hbx hby
    have lenx := congrArg List.length hbx
    have leny := congrArg List.length hby
    simp only [List.length_map, List.length_drop, List.length_append] at lenx leny
    have kx : ((xs.drop (i * l.length)).take l.length).map kindB = l := by rw [List.map_take, hbx, List.take_left]
    have ky : ((ys.drop (i * l.length)).take l.length).map kindB = l := by rw [List.map_take, hby, List.take_left]
    have dx : (xs.drop ((i + 1) * l.length)).map kindB = (List.replicate n l).flatten := by rw [← hi1, ← List.drop_drop, List.map_drop, hbx, List.drop_left]
    have dy : (ys.drop ((i + 1) * l.length)).map kindB = (List.replicate n l).flatten := by rw [← hi1, ← List.drop_drop, List.map_drop, hby, List.drop_left]
    have hr := eqItems_flat he ih k xs ys us vs hx hy w n (i + 1) b2 dx dy (by omega) (by omega) h2
    obtain ⟨bb, g1, g2, g3⟩ := flat_info he
    have hcell : P.cellsOf e = l.length := by
      unfold tsz at g2
      obtain ⟨ii, hi, hin⟩ := Option.map_eq_some_iff.1 g2
      simp [Program.cellsOf, hi, hin]
    have lx := hx.length
    have ly := hy.length
    obtain ⟨u, p1, p2⟩ := part_val (us := us) g1 g2 g3 (off := i * l.length) (by omega) w
    obtain ⟨v, q1, q2⟩ := part_val (us := vs) g1 g2 g3 (off := i * l.length) (by omega) w
    have hq := ih k _ _ _ _ u v b1 w kx ky ((hx.drop _).take _) ((hy.drop _).take _) p2 q2 h1
    rw [hcell] at hr ⊢
    simp only [List.range'_succ, Op.eqItems, Sem.run_bind, p1, q1, hq, Result.andThen_ok]
    cases b1
    · simp
    · simpa using hr
theorem flat_eq : ∀ (d : Nat) (t : TypeId) (bs : List Bool), flatT P d t = some bs → EqVal P d t bs := by
  intro d
  induction d with
  | zero => intro t n h; simp [flatT] at h
  | succ d ih =>
    intro t bs h k xs ys us vs u v b w hxl hyl hx hy hu hv hb
    rw [show d + 1 + k = (d + k) + 1 by omega]
    have scal : ∀ z, tagg P t = some false → bs = [z] → ∃ x y, xs = [x] ∧ ys = [y] ∧ kindB x = z ∧ kindB y = z ∧ scalVal x = some u ∧ scalVal y = some v := by
      intro z ht hn
      subst hn
      have lx : xs.length = 1 := by have := congrArg List.length hxl; simpa using this
      have ly : ys.length = 1 := by have := congrArg List.length hyl; simpa using this
      match xs, ys, lx, ly with
      | [x], [y], _, _ =>
        obtain ⟨u', _, hu1, hu2, rfl⟩ := sv_cons.1 hx
        obtain ⟨v', _, hv1, hv2, rfl⟩ := sv_cons.1 hy
        rw [sv_nil.1 hu2] at hu
        rw [sv_nil.1 hv2] at hv
        rcases hu with ⟨h1, _⟩ | ⟨_, h1⟩
        · rw [ht] at h1; cases h1
        · rcases hv with ⟨h2, _⟩ | ⟨_, h2⟩
          · rw [ht] at h2; cases h2
          · cases h1; cases h2; exact ⟨x, y, rfl, rfl, by simpa using hxl, by simpa using hyl, hu1, hv1⟩
    simp only [flatT] at h
    split at h
    · rename_i q hq
      split at h
      · rename_i hc; cases h
        obtain ⟨x, y, rfl, rfl, k1, k2, h1, h2⟩ := scal _ hc.1 rfl
        cases x <;> cases y <;> simp only [scalEq, reduceCtorEq] at hb <;> simp only [scalVal, Option.some.injEq] at h1 h2 <;> subst h1 <;> subst h2
        · split at hb
          · rename_i hkk
            subst hkk
            simp only [Option.map_some, Bool.and_true, Option.some.injEq] at hb
            subst hb
            rw [run_equalIn_int w (d + k) t _ q _ _ hq]
            rfl
          · cases hb
        · simp [kindB] at k1
      · cases h
    · rename_i hq
      split at h
      · rename_i hc; cases h
        obtain ⟨x, y, rfl, rfl, k1, k2, h1, h2⟩ := scal _ hc.1 rfl
        cases x <;> cases y <;> simp only [scalEq, reduceCtorEq] at hb <;> simp only [scalVal, Option.some.injEq] at h1 h2 <;> subst h1 <;> subst h2
        · simp [kindB] at k1
        · simp only [Option.map_some, Bool.and_true, Option.some.injEq] at hb
          subst hb
          rw [run_equalIn_bool' w (d + k) t _ _ hq]
      · cases h
    · rename_i fs hfs
      split at h
      · rename_i hc
        split at h
        · rename_i l hn'
          split at h
          · rename_i hs; cases h
            rcases hu with ⟨_, rfl⟩ | ⟨h1, _⟩
            · rcases hv with ⟨_, rfl⟩ | ⟨h2, _⟩
              · have hfo : P.fieldsOf t = fs := by simp [Program.fieldsOf, hfs]
                rw [run_equalIn_struct w (d + k) t _ _ (by rw [hfo]; exact hfs) hc.1, hfo]
                exact eqFields_flat ih k xs ys us vs hx hy w fs.toList 0 bs b hn' (by simpa using hxl) (by simpa using hyl) (by omega) (by omega) (by simpa using hb)
              · rw [hc.2] at h2; cases h2
            · rw [hc.2] at h1; cases h1
          · cases h
        · cases h
      · cases h
    · rename_i m e hm
      split at h
      · rename_i hc
        split at h
        · rename_i l hce
          split at h
          · rename_i hs; cases h
            rcases hu with ⟨_, rfl⟩ | ⟨h1, _⟩
            · rcases hv with ⟨_, rfl⟩ | ⟨h2, _⟩
              · obtain ⟨_, _, g2, _⟩ := flat_info hce
                unfold tsz at g2
                obtain ⟨ii, hi, hin⟩ := Option.map_eq_some_iff.1 g2
                rw [run_equalIn_array w (d + k) _ _ hm hi]
                have := eqItems_flat hce (ih e l hce) k xs ys us vs hx hy w m 0 b (by simpa using hxl) (by simpa using hyl) (by omega) (by omega) (by simpa using hb)
                rwa [List.range_eq_range']
              · rw [hc] at h2; cases h2
            · rw [hc] at h1; cases h1
          · cases h
        · cases h
      · cases h
    · cases h
theorem eqOK (t : TypeId) : EqOK P t := by
  refine ⟨fun bs h => ?_, fun xs ys us vs b w hx hy kx ky hb => ?_⟩
  · unfold tkb at h
    split at h
    · rename_i hg; exact hg.1
    · cases h
  · unfold tkb at kx ky
    split at kx
    · rename_i hg
      have ky' : flatT P 8 t = some (ys.map kindB) := by simpa [hg] using ky
      exact flat_eq 8 t _ kx 9992 xs ys us vs (.agg us.toArray) (.agg vs.toArray) b w rfl (by rw [kx] at ky'; exact (Option.some.inj ky').symm) hx hy (.inl ⟨hg.2, rfl⟩) (.inl ⟨hg.2, rfl⟩) hb
    · cases kx
def entB (P : Program) (f : FuncId) : Bool := match P.funcs[f]? with
  | some fn => (!(fn.name == "runtime.NumGoroutine")) && fn.body.isSome
  | none => false
theorem enters_of {f : FuncId} (h : entB P f = true) : Enters P f := by
  intro w args
  unfold entB at h
  split at h
  · rename_i fn hfn
    simp only [Bool.and_eq_true, Bool.not_eq_true'] at h
    obtain ⟨h1, h2⟩ := h
    have h4 : ¬ (fn.name = "runtime.NumGoroutine") := by simpa using h1
    have h5 : ¬ (fn.body = none) := by intro e; rw [e] at h2; cases h2
    simp [callFunc, run_program, Sem.run_bind, hfn, h4, h5]
  · cases h
end
end Go.Am
namespace Go.Am
open Go.RowKit
def renF (σ : Nat → Nat) : Fn → Fn
  | .yield b => .yield (σ b)
  | f => f
mutual
def ren (σ : Nat → Nat) : AV → AV
  | .ptr b g off => .ptr (σ b) g off
  | .osl b g off len => .osl (σ b) g off len
  | .oslc b g off len cap => .oslc (σ b) g off len cap
  | .map b => .map (σ b)
  | .fn f xs ys => .fn (renF σ f) (renL σ xs) (renL σ ys)
  | .agg xs => .agg (renL σ xs)
  | .tup xs => .tup (renL σ xs)
  | .int k n => .int k n
  | .bool b => .bool b
  | .str s => .str s
  | .nilp => .nilp
  | .nils => .nils
  | .nilm => .nilm
  | .nilf => .nilf
  | .psl f n xs => .psl f n xs
  | .pptr xs i => .pptr xs i
  | .pmap es => .pmap es
  | .junk => .junk
def renL (σ : Nat → Nat) : List AV → List AV
  | [] => []
  | x :: xs => ren σ x :: renL σ xs
end
def renB (σ : Nat → Nat) : ABlk → ABlk
  | .cells t sz g xs => .cells t sz g (renL σ xs)
  | .map es => .map (es.map fun e => (ren σ e.1, ren σ e.2))
  | .dfr o => .dfr o
  | .loop st pend fn T ps asg body d => .loop st pend fn (renL σ T) ps asg body (σ d)
theorem renL_length (σ : Nat → Nat) : ∀ xs : List AV, (renL σ xs).length = xs.length
  | [] => rfl
  | x :: xs => by simp [renL, renL_length σ xs]
theorem renL_get (σ : Nat → Nat) : ∀ (xs : List AV) (j : Nat) (h : j < (renL σ xs).length), (renL σ xs)[j] = ren σ (xs[j]'(by rw [renL_length] at h; exact h))
  | [], j, h => by simp [renL] at h
  | x :: xs, 0, h => by simp [renL]
  | x :: xs, j + 1, h => by simp only [renL, List.getElem_cons_succ]; exact renL_get σ xs j (by simpa [renL] using h)
theorem renL_map (σ : Nat → Nat) : ∀ xs : List AV, renL σ xs = xs.map (ren σ)
  | [] => rfl
  | x :: xs => by simp [renL, renL_map σ xs]
mutual
def refs (p : Nat → Prop) : AV → Prop
  | .ptr b _ _ => p b
  | .osl b _ _ _ => p b
  | .oslc b _ _ _ _ => p b
  | .map b => p b
  | .fn (.yield b) xs ys => p b ∧ refsL p xs ∧ refsL p ys
  | .fn _ xs ys => refsL p xs ∧ refsL p ys
  | .agg xs => refsL p xs
  | .tup xs => refsL p xs
  | _ => True
def refsL (p : Nat → Prop) : List AV → Prop
  | [] => True
  | x :: xs => refs p x ∧ refsL p xs
end
theorem refsL_get {p : Nat → Prop} : ∀ {xs : List AV}, refsL p xs → ∀ (j : Nat) (h : j < xs.length), refs p xs[j]
  | [], _, j, h => by simp at h
  | x :: xs, hr, 0, h => by simp only [refsL] at hr; exact hr.1
  | x :: xs, hr, j + 1, h => by simp only [refsL] at hr; exact refsL_get hr.2 j (by simpa using h)
def refsB (p : Nat → Prop) : ABlk → Prop
  | .cells _ _ _ xs => refsL p xs
  | .map es => ∀ e ∈ es, refs p e.1 ∧ refs p e.2
  | .dfr _ => True
  | .loop _ _ _ T _ _ _ d => refsL p T ∧ p d
theorem prep_ren {ok ok' : Nat → Prop} {w w' : World} {x : AV} {v : Value} (σ : Nat → Nat) (h : PRep ok w x v) (hw : ∀ c, ok c → w'.heap[c]? = w.heap[c]?) (ho : ∀ c, ok c → ok' c) : PRep ok' w' (ren σ x) v := by
  induction h with
  | int k n => exact .int k n
  | bool b => exact .bool b
  | str s => exact .str s
  | nilp => exact .nilp
  | nils => exact .nils
  | nilm => exact .nilm
  | nilf => exact .nilf
  | psle h1 h2 h3 => exact .psle h1 h2 h3
  | psl vs h1 h2 hok hc hr ih => exact PRep.mono (.psl vs h1 h2 hok hc hr) hw ho
  | pptr vs hok hc hr ih => exact PRep.mono (.pptr vs hok hc hr) hw ho
  | pmap a1 a2 a3 a4 a5 => exact PRep.mono (.pmap a1 a2 a3 a4 a5) hw ho
  | fn us vs hf h1 h2 r1 r2 ih1 ih2 =>
    rename_i f xs ys
    have e : renF σ f = f := by cases f <;> first | rfl | exact absurd rfl (hf _)
    simp only [ren, e]
    exact .fn us vs hf (by rw [renL_length]; exact h1) (by rw [renL_length]; exact h2) (fun j a b => by rw [renL_get]; exact ih1 j _ b) (fun j a b => by rw [renL_get]; exact ih2 j _ b)
  | agg us h1 ho r1 ih1 => simp only [ren]; exact .agg us (by rw [renL_length]; exact h1) ho (fun j a b => by rw [renL_get]; exact ih1 j _ b)
  | tup us h1 r1 ih1 => simp only [ren]; exact .tup us (by rw [renL_length]; exact h1) (fun j a b => by rw [renL_get]; exact ih1 j _ b)
theorem prep_unren {ok ok' : Nat → Prop} {w w' : World} {y : AV} {v : Value} (σ : Nat → Nat) (h : PRep ok w y v) (hw : ∀ c, ok c → w'.heap[c]? = w.heap[c]?) (ho : ∀ c, ok c → ok' c) : ∀ x, y = ren σ x → PRep ok' w' x v := by
  induction h with
  | int k n => intro x e; cases x <;> simp only [ren, reduceCtorEq, AV.int.injEq] at e; obtain ⟨rfl, rfl⟩ := e; exact .int _ _
  | bool b => intro x e; cases x <;> simp only [ren, reduceCtorEq, AV.bool.injEq] at e; subst e; exact .bool _
  | str s => intro x e; cases x <;> simp only [ren, reduceCtorEq, AV.str.injEq] at e; subst e; exact .str _
  | nilp => intro x e; cases x <;> simp only [ren, reduceCtorEq] at e; exact .nilp
  | nils => intro x e; cases x <;> simp only [ren, reduceCtorEq] at e; exact .nils
  | nilm => intro x e; cases x <;> simp only [ren, reduceCtorEq] at e; exact .nilm
  | nilf => intro x e; cases x <;> simp only [ren, reduceCtorEq] at e; exact .nilf
  | psle h1 h2 h3 => intro x e; cases x <;> simp only [ren, reduceCtorEq, AV.psl.injEq] at e; obtain ⟨rfl, rfl, rfl⟩ := e; exact .psle h1 h2 h3
  | psl vs h1 h2 hok hc hr ih => intro x e; cases x <;> simp only [ren, reduceCtorEq, AV.psl.injEq] at e; obtain ⟨rfl, rfl, rfl⟩ := e; exact PRep.mono (.psl vs h1 h2 hok hc hr) hw ho
  | pptr vs hok hc hr ih => intro x e; cases x <;> simp only [ren, reduceCtorEq, AV.pptr.injEq] at e; obtain ⟨rfl, rfl⟩ := e; exact PRep.mono (.pptr vs hok hc hr) hw ho
  | pmap a1 a2 a3 a4 a5 => intro x e; cases x <;> simp only [ren, reduceCtorEq, AV.pmap.injEq] at e; subst e; exact PRep.mono (.pmap a1 a2 a3 a4 a5) hw ho
  | fn us vs hf h1 h2 r1 r2 ih1 ih2 =>
    intro x e
    cases x <;> simp only [ren, reduceCtorEq, AV.fn.injEq] at e
    rename_i f xs ys
    obtain ⟨e1, rfl, rfl⟩ := e
    have e2 : f = renF σ f := by
      cases f <;> first | rfl | (rw [e1] at hf; exact absurd rfl (hf _))
    rw [e1, ← e2]
    rw [e1, ← e2] at hf
    exact .fn us vs hf (by rw [renL_length] at h1; exact h1) (by rw [renL_length] at h2; exact h2) (fun j a b => ih1 j (by rw [renL_length]; exact a) b _ (renL_get _ _ _ _)) (fun j a b => ih2 j (by rw [renL_length]; exact a) b _ (renL_get _ _ _ _))
  | agg us h1 ho r1 ih1 =>
    intro x e
    cases x <;> simp only [ren, reduceCtorEq, AV.agg.injEq] at e
    subst e
    exact .agg us (by rw [renL_length] at h1; exact h1) ho (fun j a b => ih1 j (by rw [renL_length]; exact a) b _ (renL_get _ _ _ _))
  | tup us h1 r1 ih1 =>
    intro x e
    cases x <;> simp only [ren, reduceCtorEq, AV.tup.injEq] at e
    subst e
    exact .tup us (by rw [renL_length] at h1; exact h1) (fun j a b => ih1 j (by rw [renL_length]; exact a) b _ (renL_get _ _ _ _))
structure Moves (h : Nat → Option ABlk) (m : Nat → Option Loc) (h' : Nat → Option ABlk) (m' : Nat → Option Loc) (b b' : Nat) : Prop where
  cells : ∀ t sz g xs, h b = some (.cells t sz g xs) → ∃ xs', h' b' = some (.cells t sz g xs') ∧ m' b' = m b
  map : ∀ es, h b = some (.map es) → (∃ es', h' b' = some (.map es')) ∧ m' b' = m b
  recd : ∀ k, h b = some k → isRec k = true → (∃ k', h' b' = some k' ∧ isRec k' = true) ∧ m' b' = m b
theorem rep_ren (B1 B2 : Base) {h h' : Nat → Option ABlk} {m m' : Nat → Option Loc} {w w' : World} {x : AV} {v : Value} (σ : Nat → Nat) (r : @Rep B1 h m w x v)
    (hw : ∀ c, @Ok B1 m w c → w'.heap[c]? = w.heap[c]?) (ho : ∀ c, @Ok B1 m w c → @Ok B2 m' w' c) (hb : ∀ b k, h b = some k → Moves h m h' m' b (σ b)) : @Rep B2 h' m' w' (ren σ x) v := by
  induction r with
  | pure p => exact @Rep.pure B2 _ _ _ _ _ (prep_ren σ p hw ho)
  | ptr hb' hg ho' hv =>
    obtain ⟨xs', h1, h2⟩ := (hb _ _ hb').cells _ _ _ _ hb'
    simp only [ren]
    exact @Rep.ptr B2 _ _ _ _ _ _ _ _ _ _ _ h1 hg ho' (fun e => by rw [h2]; exact hv e)
  | osl hb' hg ho' hv =>
    obtain ⟨xs', h1, h2⟩ := (hb _ _ hb').cells _ _ _ _ hb'
    simp only [ren]
    exact @Rep.osl B2 _ _ _ _ _ _ _ _ _ _ _ _ h1 hg ho' (fun e => by rw [h2]; exact hv e)
  | oslc hb' hg ho' hv =>
    obtain ⟨xs', h1, h2⟩ := (hb _ _ hb').cells _ _ _ _ hb'
    simp only [ren]
    exact @Rep.oslc B2 _ _ _ _ _ _ _ _ _ _ _ _ _ h1 hg ho' (fun e => by rw [h2]; exact hv e)
  | map hb' hm =>
    obtain ⟨⟨es', h1⟩, h2⟩ := (hb _ _ hb').map _ hb'
    simp only [ren]
    exact @Rep.map B2 _ _ _ _ _ _ h1 (h2.trans hm)
  | yld hb' hk hm =>
    obtain ⟨⟨k', h1, h3⟩, h2⟩ := (hb _ _ hb').recd _ hb' hk
    simp only [ren, renF, renL]
    exact @Rep.yld B2 _ _ _ _ _ _ h1 h3 (h2.trans hm)
  | fn us vs hf h1 h2 r1 r2 ih1 ih2 =>
    rename_i f xs ys
    have e : renF σ f = f := by cases f <;> first | rfl | exact absurd rfl (hf _)
    simp only [ren, e]
    exact @Rep.fn B2 _ _ _ _ _ _ us vs hf (by rw [renL_length]; exact h1) (by rw [renL_length]; exact h2) (fun j a b => by rw [renL_get]; exact ih1 j _ b) (fun j a b => by rw [renL_get]; exact ih2 j _ b)
  | agg us h1 ho' r1 ih1 => simp only [ren]; exact @Rep.agg B2 _ _ _ _ us (by rw [renL_length]; exact h1) ho' (fun j a b => by rw [renL_get]; exact ih1 j _ b)
  | tup us h1 r1 ih1 => simp only [ren]; exact @Rep.tup B2 _ _ _ _ us (by rw [renL_length]; exact h1) (fun j a b => by rw [renL_get]; exact ih1 j _ b)
  | junk v => simp only [ren]; exact @Rep.junk B2 _ _ _ v
theorem rep_unren (B1 B2 : Base) {h h' : Nat → Option ABlk} {m m' : Nat → Option Loc} {w w' : World} {p : Nat → Prop} {y : AV} {v : Value} (σ : Nat → Nat) (r : @Rep B1 h m w y v)
    (hw : ∀ c, @Ok B1 m w c → w'.heap[c]? = w.heap[c]?) (ho : ∀ c, @Ok B1 m w c → @Ok B2 m' w' c) (hb : ∀ b, p b → Moves h m h' m' (σ b) b) : ∀ x, y = ren σ x → refs p x → @Rep B2 h' m' w' x v := by
  induction r with
  | pure q => intro x e _; exact @Rep.pure B2 _ _ _ _ _ (prep_unren σ q hw ho x e)
  | ptr hb' hg ho' hv =>
    intro x e hr
    cases x <;> simp only [ren, reduceCtorEq, AV.ptr.injEq] at e
    obtain ⟨rfl, rfl, rfl⟩ := e
    obtain ⟨xs', h1, h2⟩ := (hb _ (by simpa [refs] using hr)).cells _ _ _ _ hb'
    exact @Rep.ptr B2 _ _ _ _ _ _ _ _ _ _ _ h1 hg ho' (fun e => by rw [h2]; exact hv e)
  | osl hb' hg ho' hv =>
    intro x e hr
    cases x <;> simp only [ren, reduceCtorEq, AV.osl.injEq] at e
    obtain ⟨rfl, rfl, rfl, rfl⟩ := e
    obtain ⟨xs', h1, h2⟩ := (hb _ (by simpa [refs] using hr)).cells _ _ _ _ hb'
    exact @Rep.osl B2 _ _ _ _ _ _ _ _ _ _ _ _ h1 hg ho' (fun e => by rw [h2]; exact hv e)
  | oslc hb' hg ho' hv =>
    intro x e hr
    cases x <;> simp only [ren, reduceCtorEq, AV.oslc.injEq] at e
    obtain ⟨rfl, rfl, rfl, rfl, rfl⟩ := e
    obtain ⟨xs', h1, h2⟩ := (hb _ (by simpa [refs] using hr)).cells _ _ _ _ hb'
    exact @Rep.oslc B2 _ _ _ _ _ _ _ _ _ _ _ _ _ h1 hg ho' (fun e => by rw [h2]; exact hv e)
  | map hb' hm =>
    intro x e hr
    cases x <;> simp only [ren, reduceCtorEq, AV.map.injEq] at e
    subst e
    obtain ⟨⟨es', h1⟩, h2⟩ := (hb _ (by simpa [refs] using hr)).map _ hb'
    exact @Rep.map B2 _ _ _ _ _ _ h1 (h2.trans hm)
  | yld hb' hk hm =>
    intro x e hr
    cases x <;> simp only [ren, reduceCtorEq, AV.fn.injEq] at e
    rename_i f xs ys
    obtain ⟨e1, e2, e3⟩ := e
    cases f <;> simp only [renF, reduceCtorEq, Fn.yield.injEq] at e1
    subst e1
    cases xs with
    | cons => simp [renL] at e2
    | nil =>
      cases ys with
      | cons => simp [renL] at e3
      | nil =>
        simp only [refs] at hr
        obtain ⟨⟨k', h1, h3⟩, h2⟩ := (hb _ hr.1).recd _ hb' hk
        exact @Rep.yld B2 _ _ _ _ _ _ h1 h3 (h2.trans hm)
  | fn us vs hf h1 h2 r1 r2 ih1 ih2 =>
    intro x e hr
    cases x <;> simp only [ren, reduceCtorEq, AV.fn.injEq] at e
    rename_i f xs ys
    obtain ⟨e1, rfl, rfl⟩ := e
    have e2 : f = renF σ f := by cases f <;> first | rfl | (rw [e1] at hf; exact absurd rfl (hf _))
    have hr' : refsL p xs ∧ refsL p ys := by
      cases f <;> first | (simpa [refs] using hr) | (rw [e1] at hf; exact absurd rfl (hf _))
    rw [e1, ← e2]
    rw [e1, ← e2] at hf
    exact @Rep.fn B2 _ _ _ _ _ _ us vs hf (by rw [renL_length] at h1; exact h1) (by rw [renL_length] at h2; exact h2) (fun j a b => ih1 j (by rw [renL_length]; exact a) b _ (renL_get _ _ _ _) (refsL_get hr'.1 j a)) (fun j a b => ih2 j (by rw [renL_length]; exact a) b _ (renL_get _ _ _ _) (refsL_get hr'.2 j a))
  | agg us h1 ho' r1 ih1 =>
    intro x e hr
    cases x <;> simp only [ren, reduceCtorEq, AV.agg.injEq] at e
    subst e
    simp only [refs] at hr
    exact @Rep.agg B2 _ _ _ _ us (by rw [renL_length] at h1; exact h1) ho' (fun j a b => ih1 j (by rw [renL_length]; exact a) b _ (renL_get _ _ _ _) (refsL_get hr j a))
  | tup us h1 r1 ih1 =>
    intro x e hr
    cases x <;> simp only [ren, reduceCtorEq, AV.tup.injEq] at e
    subst e
    simp only [refs] at hr
    exact @Rep.tup B2 _ _ _ _ us (by rw [renL_length] at h1; exact h1) (fun j a b => ih1 j (by rw [renL_length]; exact a) b _ (renL_get _ _ _ _) (refsL_get hr j a))
  | junk v =>
    intro x e hr
    cases x <;> simp only [ren, reduceCtorEq] at e
    exact @Rep.junk B2 _ _ _ v
end Go.Am
namespace Go.Am
open Go.RowKit
theorem renB_rec {σ : Nat → Nat} {k : ABlk} : isRec (renB σ k) = isRec k := by cases k <;> rfl
theorem brep_ren (B1 B2 : Base) {h h' : Nat → Option ABlk} {m m' : Nat → Option Loc} {w : World} {b : Nat} {k : ABlk} (σ : Nat → Nat) (r : @BRep B1 h m w b k)
    (ho : ∀ c, @Ok B1 m w c → @Ok B2 m' w c) (hb : ∀ b k, h b = some k → Moves h m h' m' b (σ b)) (hm : ∀ b, m' (σ b) = m b) : @BRep B2 h' m' w (σ b) (renB σ k) := by
  have one : ∀ {x : AV} {v : Value}, @Rep B1 h m w x v → @Rep B2 h' m' w (ren σ x) v := fun r => rep_ren B1 B2 σ r (fun _ _ => rfl) ho hb
  cases k with
  | cells t sz g xs =>
    rcases r with ⟨h1, h2⟩ | ⟨l, arr, h1, h2, h3, h4, h5⟩
    · subst h2; exact .inl ⟨(hm b).trans h1, rfl⟩
    · refine .inr ⟨l, arr, (hm b).trans h1, h2, h3, by rw [renL_length]; exact h4, fun j hj => ?_⟩
      obtain ⟨v, a1, a2, a3⟩ := h5 j (by rw [renL_length] at hj; exact hj)
      exact ⟨v, a1, a2, by rw [renL_get]; exact one a3⟩
  | map es =>
    obtain ⟨l, arr, clk, h1, h2, h3, h4⟩ := r
    refine ⟨l, arr, clk, (hm b).trans h1, h2, by simpa using h3, fun j hj => ?_⟩
    obtain ⟨e, a1, a2, a3⟩ := h4 j (by simpa using hj)
    exact ⟨e, a1, by simpa using one a2, by simpa using one a3⟩
  | dfr o => obtain ⟨l, h1, h2⟩ := r; exact ⟨l, (hm b).trans h1, h2⟩
  | loop st pend fn T ps asg body d =>
    obtain ⟨l, r', ld, h1, h2, a1, a2, a3, a4, a5, a6, a7, a8, a9, a10⟩ := r
    refine ⟨l, r', ld, (hm b).trans h1, h2, a1, a2, a3, a4, a5, a6, (hm d).trans a7, a8, by rw [renL_length]; exact a9, fun j hj => ?_⟩
    obtain ⟨v, c1, c2⟩ := a10 j (by rw [renL_length] at hj; exact hj)
    exact ⟨v, c1, by rw [renL_get]; exact one c2⟩
theorem brep_unren (B1 B2 : Base) {h h' : Nat → Option ABlk} {m m' : Nat → Option Loc} {w : World} {p : Nat → Prop} {b : Nat} {k : ABlk} (σ : Nat → Nat) (r : @BRep B1 h m w (σ b) (renB σ k)) (hp : refsB p k)
    (ho : ∀ c, @Ok B1 m w c → @Ok B2 m' w c) (hb : ∀ b, p b → Moves h m h' m' (σ b) b) (hm : ∀ b, m' b = m (σ b)) : @BRep B2 h' m' w b k := by
  have one : ∀ {x : AV} {v : Value}, @Rep B1 h m w (ren σ x) v → refs p x → @Rep B2 h' m' w x v := fun r hr => rep_unren B1 B2 σ r (fun _ _ => rfl) ho hb _ rfl hr
  cases k with
  | cells t sz g xs =>
    rcases r with ⟨h1, h2⟩ | ⟨l, arr, h1, h2, h3, h4, h5⟩
    · refine .inl ⟨(hm b).trans h1, ?_⟩
      have := congrArg List.length h2
      rw [renL_length] at this
      exact List.eq_nil_of_length_eq_zero this
    · rw [renL_length] at h4
      refine .inr ⟨l, arr, (hm b).trans h1, h2, h3, h4, fun j hj => ?_⟩
      obtain ⟨v, a1, a2, a3⟩ := h5 j (by rw [renL_length]; exact hj)
      rw [renL_get] at a3
      exact ⟨v, a1, a2, one a3 (refsL_get hp j hj)⟩
  | map es =>
    obtain ⟨l, arr, clk, h1, h2, h3, h4⟩ := r
    refine ⟨l, arr, clk, (hm b).trans h1, h2, by simpa using h3, fun j hj => ?_⟩
    obtain ⟨e, a1, a2, a3⟩ := h4 j (by simpa using hj)
    have := hp _ (List.getElem_mem hj)
    exact ⟨e, a1, one (by simpa using a2) this.1, one (by simpa using a3) this.2⟩
  | dfr o => obtain ⟨l, h1, h2⟩ := r; exact ⟨l, (hm b).trans h1, h2⟩
  | loop st pend fn T ps asg body d =>
    obtain ⟨l, r', ld, h1, h2, a1, a2, a3, a4, a5, a6, a7, a8, a9, a10⟩ := r
    refine ⟨l, r', ld, (hm b).trans h1, h2, a1, a2, a3, a4, a5, a6, (hm d).trans a7, a8, by rw [renL_length] at a9; exact a9, fun j hj => ?_⟩
    obtain ⟨v, c1, c2⟩ := a10 j (by rw [renL_length]; exact hj)
    rw [renL_get] at c2
    exact ⟨v, c1, one c2 (refsL_get hp.1 j hj)⟩
set_option maxHeartbeats 1000000 in
theorem semF_frame {P : Program} {g : FuncId} {as : List AV} {H H' : List (Option ABlk)} {r : AV} (hs : SemF P g as H r H') {K K' : List (Option ABlk)} (σ : Nat → Nat) (inv : Nat → Option Nat)
    (hH : ∀ b, b < H.length → hget H b ≠ none) (i1 : ∀ b, inv (σ b) = some b) (i2 : ∀ i b, inv i = some b → σ b = i) (hnew : ∀ b, H.length ≤ b → K.length ≤ σ b)
    (hK : ∀ b k, hget H b = some k → hget K (σ b) = some (renB σ k) ∧ refsB (· < H.length) k) (har : ∀ j (h : j < as.length), refs (· < H.length) as[j])
    (hK' : ∀ i, hget K' i = match inv i with | some b => (hget H' b).map (renB σ) | none => hget K i) : SemF P g (as.map (ren σ)) K (ren σ r) K' := by
  refine ⟨hs.1, fun {B} w0 mK w vs gK hlen hrep => ?_⟩
  have sinj : ∀ b b', σ b = σ b' → b = b' := fun b b' e => by
    have := i1 b
    rw [e, i1 b'] at this
    cases this; rfl
  have hKnew : ∀ b, H.length ≤ b → hget K (σ b) = none := fun b hb => hget_length K _ (hnew b hb)
  have hlow : ∀ b k, hget H b = some k → b < H.length := fun b k hk => by
    rcases Nat.lt_or_ge b H.length with h | h
    · exact h
    · rw [hget_length H b h] at hk; cases hk
  let b0 : Nat → Prop := fun c => B.B c ∧ ∀ i l, inv i = none → mK i = some l → l.c ≠ c
  let m : Nat → Option Loc := fun b => mK (σ b)
  have mnew : ∀ b, H.length ≤ b → m b = none := fun b hb => by
    cases hm : m b with
    | none => rfl
    | some l => obtain ⟨k, hk⟩ := gK.supp _ l hm; rw [hKnew b hb] at hk; cases hk
  have mv : ∀ b, b < H.length → Moves (hget K) mK (hget H) m (σ b) b := by
    intro b hb
    cases hk : hget H b with
    | none => exact absurd hk (hH b hb)
    | some k =>
      obtain ⟨k1, _⟩ := hK b k hk
      refine ⟨fun t sz gg xs e => ?_, fun es e => ?_, fun k' e hr => ?_⟩
      · rw [k1] at e
        cases k <;> simp only [renB, Option.some.injEq, reduceCtorEq, ABlk.cells.injEq] at e
        obtain ⟨rfl, rfl, rfl, _⟩ := e
        exact ⟨_, hk, rfl⟩
      · rw [k1] at e
        cases k <;> simp only [renB, Option.some.injEq, reduceCtorEq, ABlk.map.injEq] at e
        exact ⟨⟨_, hk⟩, rfl⟩
      · rw [k1] at e
        refine ⟨⟨k, hk, ?_⟩, rfl⟩
        simp only [Option.some.injEq] at e
        subst e
        rw [renB_rec] at hr; exact hr
  have okc : ∀ c, @Ok B mK w c → @Ok (Base.mk b0) m w c := fun c hc => ⟨hc.1, fun b l hl => hc.2.1 _ l hl, hc.2.2, fun i l _ hl => hc.2.1 i l hl⟩
  have g0 : @Good (Base.mk b0) w0 (hget H) m w := by
    refine @Good.mk (Base.mk b0) _ _ _ _ gK.below (fun b l hl => gK.base _ l hl) (fun b b' l l' h1 h2 e => sinj _ _ (gK.inj _ _ _ _ h1 h2 e)) (fun b l hl => ?_) (fun b k hk => ?_) (fun b st pend fn T ps asg body d hb => ?_) (fun c hc => ?_)
    · rcases Nat.lt_or_ge b H.length with h | h
      · exact Option.ne_none_iff_exists'.1 (hH b h)
      · rw [mnew b h] at hl; cases hl
    · obtain ⟨k1, k2⟩ := hK b k hk
      exact brep_unren B (Base.mk b0) σ (gK.blk _ _ k1) k2 okc mv (fun _ => rfl)
    · obtain ⟨k1, k2⟩ := hK b _ hb
      obtain ⟨o, ho⟩ := gK.dloop _ _ _ _ _ _ _ _ _ k1
      have hd : d < H.length := k2.2
      cases hkd : hget H d with
      | none => exact absurd hkd (hH d hd)
      | some kd =>
        have := (hK d kd hkd).1
        rw [ho] at this
        cases kd <;> simp only [renB, Option.some.injEq, reduceCtorEq, ABlk.dfr.injEq] at this
        exact ⟨_, rfl⟩
    · rcases hc with ⟨b, l, hl, rfl⟩ | hc
      · refine ⟨gK.fresh _ (.inl ⟨_, l, hl, rfl⟩), fun i l' hi hl' e => ?_⟩
        have := gK.inj _ _ _ _ hl' hl e
        rw [this, i1] at hi; cases hi
      · exact ⟨gK.fresh _ (.inr hc), fun i l' _ hl' e => by have := gK.lt hl'; omega⟩
  have hcall := @hs.2 (Base.mk b0) w0 m w vs g0 (by simpa using hlen) (fun j a b => by
    have := hrep j (by simpa using a) b
    simp only [List.getElem_map] at this
    exact rep_unren B (Base.mk b0) σ this (fun _ _ => rfl) okc mv _ rfl (har j a))
  refine hcall.mono ?_
  rintro e w' ⟨v, m', rfl, ⟨gbel, gbase, ginj, gsupp, gblk, gdl, gfr⟩, ex, rr⟩
  let mK' : Nat → Option Loc := fun i => match inv i with | some b => m' b | none => mK i
  have q1 : ∀ i b, inv i = some b → mK' i = m' b := fun i b hi => by simp only [mK', hi]
  have q2 : ∀ i, inv i = none → mK' i = mK i := fun i hi => by simp only [mK', hi]
  have q3 : ∀ i b, inv i = some b → hget K' i = (hget H' b).map (renB σ) := fun i b hi => by rw [hK' i, hi]
  have q4 : ∀ i, inv i = none → hget K' i = hget K i := fun i hi => by rw [hK' i, hi]
  have fun1 : ∀ i l, inv i = none → mK i = some l → Un m w l.c := fun i l hi hl => ⟨gK.lt hl, fun b l' hl' e => by
    have := gK.inj _ _ _ _ hl' hl e
    rw [← this, i1] at hi; cases hi⟩
  have old : ∀ i b k, inv i = some b → hget K i = some k → ∃ k0, hget H b = some k0 ∧ k = renB σ k0 := by
    intro i b k hi hk
    have hib := i2 i b hi
    subst hib
    rcases Nat.lt_or_ge b H.length with h | h
    · obtain ⟨k0, hk0⟩ := Option.ne_none_iff_exists'.1 (hH b h)
      have := (hK b k0 hk0).1
      rw [this] at hk; cases hk
      exact ⟨k0, hk0, rfl⟩
    · rw [hKnew b h] at hk; cases hk
  have exK : Ext (hget K) mK w (hget K') mK' w' := by
    refine ⟨fun c hc => ?_, fun i t sz gg xs hi => ?_, fun i es hi => ?_, fun i o hi => ?_, fun i st pend fn T ps asg body d hi => ?_⟩
    · have h1 := ex.ok c ⟨hc.1, fun b l hl => hc.2 _ l hl⟩
      refine ⟨h1.1, h1.2.1, fun i l hl => ?_⟩
      cases hv : inv i with
      | some b => rw [q1 i b hv] at hl; exact h1.2.2 b l hl
      | none => rw [q2 i hv] at hl; exact hc.2 i l hl
    · cases hv : inv i with
      | none => exact ⟨gg, xs, by rw [q4 i hv]; exact hi, Nat.le_refl _, fun _ => q2 i hv⟩
      | some b =>
        obtain ⟨k0, hk0, e⟩ := old i b _ hv hi
        cases k0 <;> simp only [renB, reduceCtorEq, ABlk.cells.injEq] at e
        obtain ⟨rfl, rfl, rfl, rfl⟩ := e
        obtain ⟨g1, xs1, h1, h2, h3⟩ := ex.cells _ _ _ _ _ hk0
        refine ⟨g1, renL σ xs1, by rw [q3 i b hv, h1]; rfl, h2, fun e => ?_⟩
        rw [q1 i b hv, h3 e, ← i2 i b hv]
    · cases hv : inv i with
      | none => exact ⟨⟨es, by rw [q4 i hv]; exact hi⟩, q2 i hv⟩
      | some b =>
        obtain ⟨k0, hk0, e⟩ := old i b _ hv hi
        cases k0 <;> simp only [renB, reduceCtorEq] at e
        obtain ⟨⟨es1, h1⟩, h3⟩ := ex.map _ _ hk0
        exact ⟨⟨_, by rw [q3 i b hv, h1]; rfl⟩, by rw [q1 i b hv, h3, ← i2 i b hv]⟩
    · cases hv : inv i with
      | none => exact ⟨⟨o, by rw [q4 i hv]; exact hi⟩, q2 i hv⟩
      | some b =>
        obtain ⟨k0, hk0, e⟩ := old i b _ hv hi
        cases k0 <;> simp only [renB, reduceCtorEq] at e
        obtain ⟨⟨o1, h1⟩, h3⟩ := ex.dfr _ _ hk0
        exact ⟨⟨_, by rw [q3 i b hv, h1]; rfl⟩, by rw [q1 i b hv, h3, ← i2 i b hv]⟩
    · cases hv : inv i with
      | none => exact ⟨⟨st, pend, by rw [q4 i hv]; exact hi⟩, q2 i hv⟩
      | some b =>
        obtain ⟨k0, hk0, e⟩ := old i b _ hv hi
        cases k0 <;> simp only [renB, reduceCtorEq, ABlk.loop.injEq] at e
        obtain ⟨rfl, rfl, rfl, rfl, rfl, rfl, rfl, rfl⟩ := e
        obtain ⟨⟨st1, pend1, h1⟩, h3⟩ := ex.loop _ _ _ _ _ _ _ _ _ hk0
        exact ⟨⟨st1, pend1, by rw [q3 i b hv, h1]; rfl⟩, by rw [q1 i b hv, h3, ← i2 i b hv]⟩
  have mv' : ∀ b k, hget H' b = some k → Moves (hget H') m' (hget K') mK' b (σ b) := by
    intro b k hk
    have e1 := q3 _ b (i1 b)
    have e2 := q1 _ b (i1 b)
    refine ⟨fun t sz gg xs e => ?_, fun es e => ?_, fun k' e hr => ?_⟩
    · rw [e] at e1; exact ⟨_, e1, e2⟩
    · rw [e] at e1; exact ⟨⟨_, e1⟩, e2⟩
    · rw [e] at e1
      refine ⟨⟨_, e1, ?_⟩, e2⟩
      rw [renB_rec]; exact hr
  have okc' : ∀ c, @Ok (Base.mk b0) m' w' c → @Ok B mK' w' c := by
    intro c hc
    obtain ⟨h1, h2, h3, h4⟩ := hc
    refine ⟨h1, fun i l hl => ?_, h3⟩
    cases hv : inv i with
    | some b => rw [q1 i b hv] at hl; exact h2 b l hl
    | none => rw [q2 i hv] at hl; exact h4 i l hv hl
  refine ⟨v, mK', rfl, ?_, exK, rep_ren (Base.mk b0) B σ rr (fun _ _ => rfl) okc' mv'⟩
  refine ⟨gbel, fun i l hl => ?_, fun i i' l l' hl hl' e => ?_, fun i l hl => ?_, fun i k hk => ?_, fun i st pend fn T ps asg body d hi => ?_, fun c hc => ?_⟩
  · cases hv : inv i with
    | some b => rw [q1 i b hv] at hl; exact gbase b l hl
    | none => rw [q2 i hv] at hl; exact gK.base i l hl
  · cases hv : inv i with
    | some b =>
      rw [q1 i b hv] at hl
      cases hv' : inv i' with
      | some b' =>
        rw [q1 i' b' hv'] at hl'
        have := ginj _ _ _ _ hl hl' e
        subst this
        rw [← i2 i b hv, ← i2 i' b hv']
      | none =>
        rw [q2 i' hv'] at hl'
        exact absurd e (fun e => (ex.ok _ (fun1 i' l' hv' hl')).2.2 b l hl e)
    | none =>
      rw [q2 i hv] at hl
      cases hv' : inv i' with
      | some b' =>
        rw [q1 i' b' hv'] at hl'
        exact absurd e.symm (fun e => (ex.ok _ (fun1 i l hv hl)).2.2 b' l' hl' e)
      | none =>
        rw [q2 i' hv'] at hl'
        exact gK.inj _ _ _ _ hl hl' e
  · cases hv : inv i with
    | some b =>
      rw [q1 i b hv] at hl
      obtain ⟨k, hk⟩ := gsupp b l hl
      exact ⟨_, by rw [q3 i b hv, hk]; rfl⟩
    | none =>
      rw [q2 i hv] at hl
      rw [q4 i hv]; exact gK.supp i l hl
  · cases hv : inv i with
    | some b =>
      rw [q3 i b hv] at hk
      cases hb : hget H' b with
      | none => rw [hb] at hk; cases hk
      | some k0 =>
        rw [hb] at hk
        simp only [Option.map_some, Option.some.injEq] at hk
        subst hk
        have := brep_ren (Base.mk b0) B σ (gblk b k0 hb) okc' mv' (fun b => q1 _ b (i1 b))
        rw [i2 i b hv] at this
        exact this
    | none =>
      rw [q4 i hv] at hk
      refine (gK.blk i k hk).ext exK (q2 i hv) (fun l hl => (ex.ok _ (fun1 i l hv hl)).1) (fun st pend fn T ps asg body d e => ?_)
      subst e
      obtain ⟨o, ho⟩ := gK.dloop _ _ _ _ _ _ _ _ _ hk
      exact (exK.dfr _ _ ho).2
  · cases hv : inv i with
    | some b =>
      rw [q3 i b hv] at hi
      cases hb : hget H' b with
      | none => rw [hb] at hi; cases hi
      | some k0 =>
        rw [hb] at hi
        cases k0 <;> simp only [renB, Option.map_some, Option.some.injEq, reduceCtorEq, ABlk.loop.injEq] at hi
        obtain ⟨rfl, rfl, rfl, rfl, rfl, rfl, rfl, rfl⟩ := hi
        obtain ⟨o, ho⟩ := gdl _ _ _ _ _ _ _ _ _ hb
        exact ⟨o, by rw [q3 _ _ (i1 _), ho]; rfl⟩
    | none =>
      rw [q4 i hv] at hi
      obtain ⟨o, ho⟩ := gK.dloop _ _ _ _ _ _ _ _ _ hi
      exact (exK.dfr _ _ ho).1
  · rcases hc with ⟨i, l, hl, rfl⟩ | hc
    · cases hv : inv i with
      | some b => rw [q1 i b hv] at hl; exact (gfr _ (.inl ⟨b, l, hl, rfl⟩)).1
      | none => rw [q2 i hv] at hl; exact gK.fresh _ (.inl ⟨i, l, hl, rfl⟩)
    · exact (gfr _ (.inr hc)).1
end Go.Am
namespace Go.Am
open Go.RowKit
def retH (P : Program) (X : Ctx) (rs : List ResultVar) (ys : List AV) (H' : List (Option ABlk)) : Exit → St → Prop
  | .normal, s => shut P s.D s fun s => resK P s rs fun xs => Le2 X ⟨xs, s.H, []⟩ ⟨ys, H', []⟩
  | .ret, s => shut P s.D s fun s => resK P s rs fun xs => Le2 X ⟨xs, s.H, []⟩ ⟨ys, H', []⟩
  | _, _ => False
theorem fin_rep [Base] {h : Nat → Option ABlk} {m : Nat → Option Loc} {w : World} : ∀ {ys : List AV} {us : List Value}, ys.length = us.length → (∀ j (a : j < ys.length) (b : j < us.length), Rep h m w ys[j] us[j]) → Rep h m w (finAV ys) (finV us)
  | [], [], _, _ => .tup [] rfl (fun j a => by simp at a)
  | [y], [u], _, hr => hr 0 (by simp) (by simp)
  | y :: y' :: ys, u :: u' :: us, hl, hr => .tup (u :: u' :: us) hl hr
  | [], _ :: _, hl, _ => by simp at hl
  | _ :: _, [], hl, _ => by simp at hl
  | [_], _ :: _ :: _, hl, _ => by simp at hl
  | _ :: _ :: _, [_], hl, _ => by simp at hl
theorem vals_le2 [Base] {w0 : World} {X : Ctx} {xs ys : List AV} {H H' : List (Option ABlk)} {m : Nat → Option Loc} {w : World} {us : List Value} (hl : Le2 X ⟨xs, H, []⟩ ⟨ys, H', []⟩) (hg : Good w0 (hget H) m w) (hx : Ext X.Z X.mz X.wz (hget H) m w)
    (hul : us.length = xs.length) (hr : ∀ j (x : j < xs.length) (y : j < us.length), Rep (hget H) m w xs[j] us[j]) :
    ∃ m', Good w0 (hget H') m' w ∧ Ext X.Z X.mz X.wz (hget H') m' w ∧ ys.length = us.length ∧ ∀ j (a : j < ys.length) (b : j < us.length), Rep (hget H') m' w ys[j] us[j] := by
  have hs : SatC w0 X ⟨xs, H, []⟩ { tmps := us.toArray, defers := [] } w := by
    refine ⟨[], by simp, m, ⟨hg, by simpa using hul, fun j hj => ?_, HidR.nil, [], rfl, fun j a => by simp at a, rfl⟩, hx⟩
    simp only at hj
    refine ⟨us[j], by simp [show j < us.length by omega], ?_⟩
    rw [lget_get, List.getElem?_eq_getElem hj]
    exact hr j hj (by omega)
  obtain ⟨_, _, m', hs', hx'⟩ := hs.le2 hl
  have hlen : ys.length = us.length := by have := hs'.size; simp at this; omega
  refine ⟨m', hs'.good, hx', hlen, fun j a b => ?_⟩
  obtain ⟨v, hv, hrv⟩ := hs'.tmps j a
  have e1 : v = us[j] := by
    have : us[j]? = some v := by simpa using hv
    rw [List.getElem?_eq_getElem b] at this
    cases this; rfl
  simp only at hrv
  rw [lget_get, List.getElem?_eq_getElem a] at hrv
  rw [← e1]
  exact hrv
theorem semF_of_awp {P : Program} {f : FuncId} {fn : Func} {c : Code} {args : List AV} {H H' : List (Option ABlk)} {ys : List AV} (he : Enters P f) (hf : P.funcs[f]? = some fn) (hb : fn.body = some c)
    (h : ∀ [Base] (w0 : World) (m : Nat → Option Loc) (w : World), AWP P w0 none (Ctx.of H m w) c ⟨initT args fn.ntmps, H, []⟩ (retH P (Ctx.of H m w) fn.results.toList ys H')) : SemF P f args H (finAV ys) H' := by
  refine ⟨he, fun w0 m w us hg hlen hrep => ?_⟩
  refine callsIn_of_wp_marks hf hb trivial ?_
  have hsat : SatC w0 (Ctx.of H m w) ⟨initT args fn.ntmps, H, []⟩ { tmps := us.toArray ++ Array.replicate (fn.ntmps - us.toArray.size) undef, defers := [] } w := by
    refine ⟨[], by simp, m, ⟨hg, ?_, fun j hj => ?_, HidR.nil, [], rfl, fun j a => by simp at a, rfl⟩, Ext.refl _ _ _⟩
    · simp only [initT, List.length_append, junks_length, Array.size_append, List.size_toArray, Array.size_replicate] at hlen ⊢
      omega
    · simp only [initT, List.length_append, junks_length] at hj
      rw [initT, lget_append]
      by_cases hj' : j < args.length
      · refine ⟨us[j], ?_, ?_⟩
        · rw [Array.getElem?_append_left (by simpa using (by omega : j < us.length))]; simp
        · rw [dif_pos hj']; exact hrep j hj' (by omega)
      · refine ⟨undef, ?_, ?_⟩
        · rw [Array.getElem?_append_right (by simpa using (by omega : us.length ≤ j))]
          rw [Array.getElem?_replicate, if_pos (by simp; omega)]
        · rw [dif_neg hj', lget_junks]; exact .junk _
  refine wpIn_mono (h w0 m w _ w hsat) ?_
  rintro e a' w' ⟨s', hq, hs'⟩
  have key : shut P s'.D s' (fun s => resK P s fn.results.toList fun xs => Le2 (Ctx.of H m w) ⟨xs, s.H, []⟩ ⟨ys, H', []⟩) →
      LeavesInM (FW none) 0 P fn a'.tmps (fun e w' => ∃ v m', e = .returned v ∧ Good w0 (hget H') m' w' ∧ Ext (hget H) m w (hget H') m' w' ∧ Rep (hget H') m' w' (finAV ys) v) a'.defers .returning w' := by
    intro hk
    refine leavesC (K := fun xs s => Le2 (Ctx.of H m w) ⟨xs, s.H, []⟩ ⟨ys, H', []⟩) ?_ s'.D s' a' w' rfl hk hs'
    intro xs s2 us2 m2 w2 hk2 hg2 hx2 hul2 hr2
    obtain ⟨m3, g3, x3, l3, r3⟩ := vals_le2 hk2 hg2 hx2 hul2 hr2
    exact ⟨_, m3, rfl, g3, x3, fin_rep l3 r3⟩
  cases e with
  | normal => exact key hq
  | ret => exact key hq
  | exit id => exact hq.elim
  | goto l => exact hq.elim
  | panic c => exact hq.elim
  | outgrown => exact hq.elim
def recK (st : LoopState) (k : Option ABlk) (f : FuncId → List AV → Array Tmp → Code → Code → Nat → Prop) : Prop :=
  match k with
  | some (.loop st' none fn T ps asg body d) => st' = st ∧ f fn T ps asg body d
  | _ => False
def endY (X : Ctx) (b : Nat) (y : Bool) (H' : List (Option ABlk)) : Exit → St → Prop
  | .normal, s => recK .busy (hget s.H b) fun fn T ps asg body d => y = true ∧ Le2 X ⟨[], hset s.H b (.loop .ready none fn T ps asg body d), []⟩ ⟨[], H', []⟩
  | .ret, s => recK .busy (hget s.H b) fun fn T ps asg body d => y = false ∧ Le2 X ⟨[], hset s.H b (.loop .done (some .ret) fn T ps asg body d), []⟩ ⟨[], H', []⟩
  | .exit id, s => recK .busy (hget s.H b) fun fn T ps asg body d => y = false ∧ Le2 X ⟨[], hset s.H b (.loop .done (some (.exit id)) fn T ps asg body d), []⟩ ⟨[], H', []⟩
  | _, _ => False
def midY (P : Program) [Base] (w0 : World) (l : Option Nat) (X : Ctx) (b : Nat) (body : Code) (y : Bool) (H' : List (Option ABlk)) : Exit → St → Prop
  | .normal, s => recK .ready (hget s.H b) fun fn T ps asg body' d => AWP P w0 l X body ⟨s.T, hset s.H b (.loop .busy none fn T ps asg body' d), s.D⟩ (endY X b y H')
  | _, _ => False
theorem recK_is {st : LoopState} {k : Option ABlk} {f : FuncId → List AV → Array Tmp → Code → Code → Nat → Prop} (h : recK st k f) : ∃ fn T ps asg body d, k = some (.loop st none fn T ps asg body d) ∧ f fn T ps asg body d := by
  unfold recK at h
  split at h
  · obtain ⟨rfl, h⟩ := h; exact ⟨_, _, _, _, _, _, rfl, h⟩
  · exact h.elim
theorem semY_of_awp {P : Program} {b : Nat} {as : List AV} {H H' : List (Option ABlk)} {y : Bool} {fn : FuncId} {T T1 : List AV} {ps : Array Tmp} {asg body : Code} {d : Nat}
    (hb : hget H b = some (.loop .ready none fn T ps asg body d)) (hT1 : putArgs ps.toList as T = some T1)
    (h : ∀ [Base] (w0 : World) (l : Nat) (m : Nat → Option Loc) (w : World), AWP P w0 (some l) (Ctx.of H m w) asg ⟨T1, H, []⟩ (midY P w0 (some l) (Ctx.of H m w) b body y H')) : SemY P b as H (.bool y) H' := by
  intro _ w0 m w us l hg hl hlen hrep
  obtain ⟨rec, k1, k2, k3, k4, k5, k6, k7, k8, _, _⟩ := rec_same hg hb hl .ready none
  obtain ⟨p1, p2, p3, p4⟩ := putArgs_sound ps.toList as T T1 us rec.tmps hT1 hlen hrep k7 (fun j hj => by
    obtain ⟨v, hv, hr⟩ := k8 j hj
    refine ⟨v, hv, ?_⟩
    rw [lget_get, List.getElem?_eq_getElem hj]; exact hr)
  have hy := run_yield (P := P) (args := us.toArray) k1 (by rw [k4]; simpa using p1.symm)
  have hfold : (rec.params.zip us.toArray).foldl (fun tmps (t, a) => tmps.setIfInBounds t a) rec.tmps = (ps.toList.zip us).foldl (fun t p => t.setIfInBounds p.1 p.2) rec.tmps := by
    rw [k4, ← Array.foldl_toList, Array.toList_zip]
  refine ⟨_, _, _, _, hy, roundIn_of_wpIn trivial ?_⟩
  rw [hfold, k5]
  have hsat : SatC w0 (Ctx.of H m w) ⟨T1, H, []⟩ { tmps := (ps.toList.zip us).foldl (fun t p => t.setIfInBounds p.1 p.2) rec.tmps, defers := [] } w :=
    ⟨[], by simp, m, ⟨hg, by simp only; rw [p2]; exact p3, fun j hj => p4 j (by rw [← p2]; exact hj), HidR.nil, [], rfl, fun j a => by simp at a, rfl⟩, Ext.refl _ _ _⟩
  refine wpIn_mono (h w0 l.c m w _ w hsat) ?_
  rintro e a1 w1 ⟨s1, hq, hid, hhid, m1, hs1, ex1⟩
  cases e with
  | normal =>
    obtain ⟨fn', T', ps', asg', body', d', hb1, hbody⟩ := recK_is hq
    have hl1 : m1 b = some l := by rw [(ex1.loop _ _ _ _ _ _ _ _ _ hb).2]; exact hl
    obtain ⟨rec1, q1, q2, q3, _, _, q6, _, _, g2, e2x⟩ := rec_same hs1.good hb1 hl1 .busy none
    rw [← hget_upd] at g2 e2x
    have hbr := run_beginRound (P := P) q1 q2
    rw [q3] at hbr
    refine ⟨_, hbr, ?_⟩
    rw [k6]
    have hs2 : SatC w0 (Ctx.of H m w) ⟨s1.T, hset s1.H b (.loop .busy none fn' T' ps' asg' body' d'), s1.D⟩ a1 _ := ⟨hid, hhid, _, hs1.move g2 e2x, ex1.trans e2x⟩
    refine wpIn_mono (hbody a1 _ hs2) ?_
    rintro e3 a3 w3 ⟨s3, hq3, _, _, m3, hs3, ex3⟩
    have fin : ∀ (jump : Option Code) (fn2 : FuncId) (T2 : List AV) (ps2 : Array Tmp) (asg2 body2 : Code) (d2 : Nat), hget s3.H b = some (.loop .busy none fn2 T2 ps2 asg2 body2 d2) → y = jump.isNone →
        Le2 (Ctx.of H m w) ⟨[], hset s3.H b (.loop (if jump.isNone then .ready else .done) jump fn2 T2 ps2 asg2 body2 d2), []⟩ ⟨[], H', []⟩ →
        ∃ v w', (Instr.endRound l.c jump).run P w3 = .ok v w' ∧ ∃ v' m', Ending.returned v = .returned v' ∧ Good w0 (hget H') m' w' ∧ Ext (hget H) m w (hget H') m' w' ∧ Rep (hget H') m' w' (.bool y) v' := by
      intro jump fn2 T2 ps2 asg2 body2 d2 hb3 hy hle
      have hl3 : m3 b = some l := by
        rw [(ex3.loop _ _ _ _ _ _ _ _ _ hb).2]; exact hl
      obtain ⟨v, w4, r1, v', m4, r2, r3, r4, r5⟩ := round_end (P := P) hs3.good ex3 hl3 hb3 jump _ rfl
      obtain ⟨m5, g5, x5, _, _⟩ := vals_le2 (us := []) hle r3 r4 rfl (fun j x => by simp at x)
      refine ⟨v, w4, r1, v', m5, r2, g5, x5, ?_⟩
      rw [hy]
      rw [rep_bool r5]
      exact .pure (.bool _)
    cases e3 with
    | normal =>
      obtain ⟨fn2, T2, ps2, asg2, body2, d2, hb3, hy3, hle⟩ := recK_is hq3
      exact fin none _ _ _ _ _ _ hb3 hy3 hle
    | ret =>
      obtain ⟨fn2, T2, ps2, asg2, body2, d2, hb3, hy3, hle⟩ := recK_is hq3
      exact fin (some .ret) _ _ _ _ _ _ hb3 hy3 hle
    | exit id =>
      obtain ⟨fn2, T2, ps2, asg2, body2, d2, hb3, hy3, hle⟩ := recK_is hq3
      exact fin (some (.exit id)) _ _ _ _ _ _ hb3 hy3 hle
    | goto l => exact hq3.elim
    | panic c => exact hq3.elim
    | outgrown => exact hq3.elim
  | ret => exact hq.elim
  | exit id => exact hq.elim
  | goto l => exact hq.elim
  | panic c => exact hq.elim
  | outgrown => exact hq.elim
def CallH (P : Program) (fv : AV) (as : List AV) (H : List (Option ABlk)) (K : AV → List (Option ABlk) → Prop) : Prop := ∃ r H', Sem P fv as H r H' ∧ K r H'
theorem callH_of {P : Program} {fv : AV} {as : List AV} {H : List (Option ABlk)} {K : AV → List (Option ABlk) → Prop} {r : AV} {H' : List (Option ABlk)} (h : Sem P fv as H r H') (hk : K r H') : CallH P fv as H K := ⟨r, H', h, hk⟩
def ownK (P : Program) (all : Array Oper) (o : Oper) (s : St) (K : St → Prop) : Prop :=
  match guardOf all s.T o with
  | some true => (match o.op with
    | .call ⟨.value f, args, _⟩ => CallH P (aev s.T f) (args.toList.map (aev s.T)) s.H fun r H' => K ⟨lseto s.T o.dst r, H', s.D⟩
    | _ => False)
  | some false => K ⟨lseto s.T o.dst (.tup []), s.H, s.D⟩
  | none => False
section
variable [Base] {P : Program} {w0 : World} {r : Option Nat} {X : Ctx} {s : St} {Q : Exit → St → Prop}
theorem call_go {o : Oper} {f : Operand} {args : Array Operand} {ts : Array TypeId} {T : List AV} {H H' : List (Option ABlk)} {y : AV} (ho : o.op = .call ⟨.value f, args, ts⟩) (hs : Sem P (aev T f) (args.toList.map (aev T)) H y H')
    {m : Nat → Option Loc} {w : World} {ac : Act} {next : Act → World → Prop} {QQ : Exit → Act → World → Prop} (hg : Good w0 (hget H) m w) (hop : ∀ x, x ∈ o.op.operands → Rep (hget H) m w (aev T x) (ac.eval x))
    (hnext : ∀ v w' m', Good w0 (hget H') m' w' → Ext (hget H) m w (hget H') m' w' → Rep (hget H') m' w' y v → next (ac.put o.dst v) w') : o.wpIn (FW r) 0 P ac w next QQ := by
  have h1 := hop f (by simp [ho, Op.operands, Call.operands])
  have hargs : ∀ j (a : j < (args.toList.map (aev T)).length) (c : j < (args.toList.map ac.eval).length), Rep (hget H) m w (args.toList.map (aev T))[j] (args.toList.map ac.eval)[j] := by
    intro j a c
    simp only [List.getElem_map]
    exact hop _ (by simp [ho, Op.operands, Call.operands])
  generalize hfv : aev T f = fv at *
  match fv, hs with
  | .fn (.func g) first caps, hs =>
    obtain ⟨us, vs, he, l1, l2, r1, r2⟩ := rep_fn h1
    have hlen : (first ++ args.toList.map (aev T) ++ caps).length = (us ++ args.toList.map ac.eval ++ vs).length := by simp [l1, l2]
    have hreps := getElem_append3 l1 (by simp) r1 hargs r2
    have hc := hs.2 w0 m w (us ++ args.toList.map ac.eval ++ vs) hg hlen hreps
    have hrun : (execOp ac.eval o).run P w = .ok (.enter g (us ++ args.toList.map ac.eval ++ vs).toArray) w := by
      have e1 : us.toArray ++ args.map ac.eval ++ vs.toArray = (us ++ args.toList.map ac.eval ++ vs).toArray := by
        apply Array.toList_inj.1; simp
      simp only [execOp, ho, resolve, he, Deferred.ofValue, Sem.run_bind, Sem.run_pure, Result.andThen_ok, invoke]
      rw [e1]
      exact hs.1 w _
    refine wp_call (by simp [ho]) hrun hc (fun e w' hR => ?_)
    obtain ⟨v, m', rfl, g1, e1, rr⟩ := hR
    exact ⟨v, rfl, hnext v w' m' g1 e1 rr⟩
  | .fn (.yield b) [] [], hs =>
    obtain ⟨_, _, l, hl, he⟩ := rep_yld h1
    obtain ⟨fn, tm, asg, body, hy, hr⟩ := hs w0 m w (args.toList.map ac.eval) l hg hl (by simp) hargs
    have hrun : (execOp ac.eval o).run P w = .ok (.round l.c fn tm asg body) w := by
      have e1 : (#[] : Array Value) ++ args.map ac.eval = (args.toList.map ac.eval).toArray := by
        apply Array.toList_inj.1; simp
      simp only [execOp, ho, resolve, he, Deferred.ofValue, Sem.run_bind, Sem.run_pure, Result.andThen_ok, invoke]
      rw [e1]
      exact hy
    refine wp_round (by simp [ho]) hrun hr (fun e w' hR => ?_)
    obtain ⟨v, m', rfl, g1, e1, rr⟩ := hR
    exact ⟨v, rfl, hnext v w' m' g1 e1 rr⟩
theorem trace_seq3 {all : Array Oper} {ex : List Nat} {Z : Nat → Option ABlk} {mz : Nat → Option Loc} {wz : World} {QQ : Exit → Act → World → Prop} {rest : List Nat} : ∀ {i : Nat} {s s' : Sf} {es : List Ef}, Trace2 P w0 r all i s es s' → (∀ a w, SatX w0 ex Z mz wz s' a w → wpOpsIn (FW r) 0 P all QQ rest a w) → ∀ a w, SatX w0 ex Z mz wz s a w →
    wpOpsIn (FW r) 0 P all QQ (List.range' i es.length ++ rest) a w := by
  intro i s s' es ht hQ
  induction ht with
  | nil i s => intro a w hs; exact hQ a w hs
  | run ho hg hok rest ih =>
    rename_i i s s' o e es
    intro a w ⟨m, hs, hext⟩
    simp only [List.length_cons, List.range'_succ, List.cons_append]
    rw [wpOpsIn_cons]
    unfold wpOpIn
    simp only [ho]
    rw [guard_wanted hs rfl hg (fun _ _ _ _ _ _ => rfl), if_pos rfl]
    refine hok _ m w a _ QQ (fun _ _ => rfl) (fun _ _ => rfl) (fun _ => rfl) hs.good (fun x _ => hs.eval s.T rfl x (fun _ _ _ => rfl)) (fun v w' m' g1 e1 r1 => ih hQ _ _ ⟨m', ?_, hext.trans e1⟩)
    simp only [lseto_length]
    refine hs.put g1 e1 r1 (fun j hj => ?_)
    cases hd : o.dst with
    | none => simp [lseto]
    | some d => simp only [lseto, lget_set, Option.some.injEq, hj, and_true]
  | skip ho hg rest ih =>
    rename_i i s s' o es
    intro a w ⟨m, hs, hext⟩
    simp only [List.length_cons, List.range'_succ, List.cons_append]
    rw [wpOpsIn_cons]
    unfold wpOpIn
    simp only [ho]
    rw [guard_wanted hs rfl hg (fun _ _ _ _ _ _ => rfl), if_neg (by simp)]
    refine ⟨fun _ _ => trivial, ih hQ _ _ ⟨m, ?_, hext⟩⟩
    simp only [lseto_length]
    refine hs.put hs.good (Ext.refl _ _ _) rep_undef (fun j hj => ?_)
    cases hd : o.dst with
    | none => simp [lseto]
    | some d => simp only [lseto, lget_set, Option.some.injEq, hj, and_true]
theorem awp_own {id : Nat} {ops pre post : List Oper} {o : Oper} (e : ops = pre ++ o :: post)
    (h : evOps P ops.toArray pre s [] fun s1 _ => ownK P ops.toArray o s1 fun s2 => evOps P ops.toArray post s2 [] fun s3 _ => Q .normal s3) : AWP P w0 r X (.region id ops.toArray false) s Q := by
  intro a w ⟨ex, hex, hs⟩
  have hpre : ∀ k, pre[k]? = ops.toArray[0 + k]? ∨ pre.length ≤ k := fun k => by
    rcases Nat.lt_or_ge k pre.length with h | h
    · left; simp [e, List.getElem?_append_left h]
    · exact .inr h
  have hat : ops.toArray[pre.length]? = some o := by simp [e]
  refine wpIn_region ?_
  have hrange : List.range ops.toArray.size = List.range' 0 pre.length ++ (pre.length :: List.range' (pre.length + 1) post.length) := by
    rw [List.range_eq_range', show ops.toArray.size = pre.length + (post.length + 1) by simp [e], ← List.range'_append_1, List.range'_succ]
    simp
  rw [hrange]
  obtain ⟨es, s1, ht, hl, hk⟩ := ev_trace (w0 := w0) (r := r) (all := ops.toArray) pre 0 s [] _ (fun k hk => (hpre k).resolve_right (by omega)) h
  have e1 : es.length = (es.map lift).length := by simp
  rw [← hl, e1]
  refine trace_seq3 (Z := X.Z) (mz := X.mz) (wz := X.wz) ht.two ?_ a w hs
  rintro a1 w1 ⟨m1, hs1, hx1⟩
  rw [List.length_map, hl, wpOpsIn_cons]
  unfold wpOpIn
  simp only [hat]
  have tail : ∀ (s2 : St) (a2 : Act) (w2 : World), evOps P ops.toArray post s2 [] (fun s3 _ => Q .normal s3) → SatX w0 ex X.Z X.mz X.wz s2.f a2 w2 → wpOpsIn (FW r) 0 P ops.toArray (fun e a' w' => ∃ s', Q e s' ∧ SatC w0 X s' a' w') (List.range' (pre.length + 1) post.length) a2 w2 := by
    intro s2 a2 w2 hev hs2
    obtain ⟨es2, s3, ht2, hl2, hk2⟩ := ev_trace (w0 := w0) (r := r) (all := ops.toArray) post (pre.length + 1) s2 [] _ (fun k _ => by simp [e, List.getElem?_append_right (show pre.length ≤ pre.length + 1 + k by omega), show pre.length + 1 + k - pre.length = k + 1 by omega]) hev
    have := trace_seq2 (Z := X.Z) (mz := X.mz) (wz := X.wz) (Q := fun e a' w' => ∃ s', Q e s' ∧ SatC w0 X s' a' w') ht2.two (fun a w hs => ⟨s3, hk2, ex, hex, hs⟩) a2 w2 hs2
    rw [List.length_map, hl2] at this
    exact this
  unfold ownK at hk
  have hs1' : SatM w0 ex (lget s1.T) s1.T.length (hget s1.H) s1.D m1 a1 w1 := hs1
  split at hk
  · rename_i hg
    rw [guard_wanted hs1' rfl hg (fun _ _ _ _ _ _ => rfl), if_pos rfl]
    split at hk
    · rename_i f args ts ho
      obtain ⟨y, H', hsem, hk⟩ := hk
      refine call_go ho hsem hs1'.good (fun x _ => hs1'.eval s1.T rfl x (fun _ _ _ => rfl)) (fun v w' m' g1 e1 r1 => tail _ _ _ hk ⟨m', ?_, hx1.trans e1⟩)
      simp only [St.f, lseto_length]
      refine hs1'.put g1 e1 r1 (fun j hj => ?_)
      cases hd : o.dst with
      | none => simp [lseto]
      | some d => simp only [lseto, lget_set, Option.some.injEq, hj, and_true]
    · exact hk.elim
  · rename_i hg
    rw [guard_wanted hs1' rfl hg (fun _ _ _ _ _ _ => rfl), if_neg (by simp)]
    refine ⟨fun _ _ => trivial, tail _ _ _ hk ⟨m1, ?_, hx1⟩⟩
    simp only [St.f, lseto_length]
    refine hs1'.put hs1'.good (Ext.refl _ _ _) rep_undef (fun j hj => ?_)
    cases hd : o.dst with
    | none => simp [lseto]
    | some d => simp only [lseto, lget_set, Option.some.injEq, hj, and_true]
  · exact hk.elim
theorem awp_range {g : Operand} {ps : Array Tmp} {asg body : Code} {gf : FuncId} {first caps : List AV} (hg : aev s.T g = .fn (.func gf) first caps) {y : AV} {H' : List (Option ABlk)}
    (hs : SemF P gf (first ++ [.fn (.yield (s.H.length + 1)) [] []] ++ caps) (hset (hset s.H s.H.length (.dfr true)) (s.H.length + 1) (.loop .ready none 0 s.T ps asg body s.H.length)) y H')
    {st : LoopState} (hst : st ≠ .busy) {pend : Option Code} {fn : FuncId} {T : List AV} {ps' : Array Tmp} {asg' body' : Code} {d : Nat} (hb : hget H' (s.H.length + 1) = some (.loop st pend fn T ps' asg' body' d)) {e : Exit} (he : jumpX pend = some e)
    (hQ : Q e ⟨s.T, hset H' (s.H.length + 1) (.loop .exhausted pend fn T ps' asg' body' d), s.H.length :: s.D⟩) : AWP P w0 none X (.rangeFunc g ps asg body) s Q := by
  rintro a w ⟨ex, hex, m, hsat, hx⟩
  refine wpIn_mono (range_core hg hs hst hb he w0 none ex m a w (fun _ => rfl) hsat) ?_
  rintro e' a' w' ⟨rfl, m', hs', ex'⟩
  exact ⟨_, hQ, ex, hex, m', hs', hx.trans ex'⟩
end
end Go.Am
namespace Go.Am
open Go.RowKit
def sg : List Nat → Nat → Nat → Nat
  | [], n, b => n + b
  | i :: _, _, 0 => i
  | _ :: l, n, b + 1 => sg l n b
def iv : List Nat → Nat → Nat → Option Nat
  | [], n, i => if n ≤ i then some (i - n) else none
  | j :: l, n, i => if i = j then some 0 else (iv l n i).map (· + 1)
def apartB : List Nat → Nat → Bool
  | [], _ => true
  | i :: l, n => decide (i < n) && (!l.contains i && apartB l n)
def hput : List (Option ABlk) → Nat → Option ABlk → List (Option ABlk)
  | [], _, _ => []
  | _ :: K, 0, k => k :: K
  | x :: K, i + 1, k => x :: hput K i k
def mg (σ : Nat → Nat) : List Nat → List (Option ABlk) → List (Option ABlk) → List (Option ABlk)
  | [], H', K => K ++ H'.map (Option.map (renB σ))
  | i :: l, [], K => mg σ l [] (hput K i none)
  | i :: l, k :: H', K => mg σ l H' (hput K i (k.map (renB σ)))
def mt (σ : Nat → Nat) (n : Nat) : List Nat → List (Option ABlk) → List (Option ABlk) → Prop
  | [], [], _ => True
  | i :: l, some k :: H, K => hget K i = some (renB σ k) ∧ refsB (· < n) k ∧ mt σ n l H K
  | _, _, _ => False
theorem apartB_cons {i n : Nat} {l : List Nat} (h : apartB (i :: l) n = true) : i < n ∧ i ∉ l ∧ apartB l n = true := by
  simp only [apartB, Bool.and_eq_true, decide_eq_true_eq, Bool.not_eq_true', List.contains_eq_mem, decide_eq_false_iff_not] at h
  exact ⟨h.1, h.2.1, h.2.2⟩
theorem sg_mem : ∀ {l : List Nat} {n : Nat} (b : Nat), sg l n b ∈ l ∨ n ≤ sg l n b
  | [], n, b => .inr (by simp [sg])
  | i :: l, n, 0 => .inl (by simp [sg])
  | i :: l, n, b + 1 => by
    simp only [sg]
    rcases sg_mem (l := l) (n := n) b with h | h
    · exact .inl (by simp [h])
    · exact .inr h
theorem iv_sg : ∀ {l : List Nat} {n : Nat}, apartB l n = true → ∀ b, iv l n (sg l n b) = some b
  | [], n, _, b => by simp [iv, sg]
  | i :: l, n, h, 0 => by simp [iv, sg]
  | i :: l, n, h, b + 1 => by
    obtain ⟨h1, h2, h3⟩ := apartB_cons h
    have hne : sg l n b ≠ i := by
      intro e
      rcases sg_mem (l := l) (n := n) b with h4 | h4
      · rw [e] at h4; exact h2 h4
      · omega
    have e0 : sg (i :: l) n (b + 1) = sg l n b := rfl
    rw [e0]
    simp only [iv, hne, if_false]
    rw [iv_sg h3 b]
    rfl
theorem sg_iv : ∀ {l : List Nat} {n i b : Nat}, iv l n i = some b → sg l n b = i
  | [], n, i, b, h => by
    simp only [iv] at h
    split at h
    · cases h; simp only [sg]; omega
    · cases h
  | j :: l, n, i, b, h => by
    simp only [iv] at h
    split at h
    · cases h; rename_i e; simp [sg, e]
    · cases hv : iv l n i with
      | none => rw [hv] at h; cases h
      | some b' =>
        rw [hv] at h
        cases h
        simp only [sg]
        exact sg_iv hv
theorem sg_new : ∀ {l : List Nat} {n b : Nat}, l.length ≤ b → n ≤ sg l n b
  | [], n, b, _ => by simp [sg]
  | i :: l, n, 0, h => by simp at h
  | i :: l, n, b + 1, h => by simp only [sg]; exact sg_new (by simpa using h)
theorem iv_none : ∀ {l : List Nat} {n i : Nat}, i ∉ l → i < n → iv l n i = none
  | [], n, i, _, h => by simp only [iv]; rw [if_neg (by omega)]
  | j :: l, n, i, hn, h => by
    simp only [List.mem_cons, not_or] at hn
    simp only [iv]
    rw [if_neg hn.1, iv_none hn.2 h]; rfl
theorem hput_length : ∀ (K : List (Option ABlk)) (i : Nat) (k : Option ABlk), (hput K i k).length = K.length
  | [], _, _ => rfl
  | x :: K, 0, k => rfl
  | x :: K, i + 1, k => by simp [hput, hput_length K i k]
theorem hget_hput : ∀ (K : List (Option ABlk)) (i j : Nat) (k : Option ABlk), i < K.length → hget (hput K i k) j = if j = i then k else hget K j
  | [], i, j, k, h => by simp at h
  | x :: K, 0, 0, k, h => by simp [hput, hget]
  | x :: K, 0, j + 1, k, h => by simp [hput, hget]
  | x :: K, i + 1, 0, k, h => by simp [hput, hget]
  | x :: K, i + 1, j + 1, k, h => by
    simp only [hput, hget]
    rw [hget_hput K i j k (by simpa using h)]
    simp
theorem hget_app : ∀ (K L : List (Option ABlk)) (i : Nat), hget (K ++ L) i = if K.length ≤ i then hget L (i - K.length) else hget K i
  | [], L, i => by simp
  | x :: K, L, 0 => by simp [hget]
  | x :: K, L, i + 1 => by
    simp only [List.cons_append, hget, List.length_cons, Nat.add_le_add_iff_right, Nat.add_sub_add_right]
    exact hget_app K L i
theorem hget_map (f : ABlk → ABlk) : ∀ (H : List (Option ABlk)) (i : Nat), hget (H.map (Option.map f)) i = (hget H i).map f
  | [], i => by simp [hget]
  | x :: H, 0 => by simp [hget]
  | x :: H, i + 1 => by simp only [List.map_cons, hget]; exact hget_map f H i
theorem mg_get (σ : Nat → Nat) : ∀ (l : List Nat) (H' K : List (Option ABlk)), apartB l K.length = true → ∀ i, hget (mg σ l H' K) i = match iv l K.length i with | some b => (hget H' b).map (renB σ) | none => hget K i
  | [], H', K, _, i => by
    simp only [mg, iv, hget_app]
    split
    · rw [hget_map]
    · rfl
  | j :: l, H', K, h, i => by
    obtain ⟨h1, h2, h3⟩ := apartB_cons h
    have step : ∀ (k : Option ABlk) (H2 : List (Option ABlk)), (hget H' 0).map (renB σ) = k → (∀ b, hget H' (b + 1) = hget H2 b) → hget (mg σ l H2 (hput K j k)) i = match iv (j :: l) K.length i with | some b => (hget H' b).map (renB σ) | none => hget K i := by
      intro k H2 hk hH2
      have ih := mg_get σ l H2 (hput K j k) (by rw [hput_length]; exact h3) i
      rw [hput_length] at ih
      rw [ih]
      simp only [iv]
      by_cases e : i = j
      · subst e
        rw [if_pos rfl, iv_none h2 h1]
        simp only
        rw [hget_hput K i i k h1, if_pos rfl, hk]
      · rw [if_neg e]
        cases hv : iv l K.length i with
        | none => simp only [Option.map_none]; rw [hget_hput K j i k h1, if_neg e]
        | some b => simp only [Option.map_some]; rw [hH2]
    cases H' with
    | nil => exact step none [] (by simp [hget]) (fun b => by simp [hget])
    | cons k H2 => exact step _ H2 (by simp [hget]) (fun b => by simp [hget])
theorem mt_spec {σ : Nat → Nat} {n : Nat} : ∀ {l : List Nat} {H K : List (Option ABlk)} (N : Nat), mt σ n l H K → H.length = l.length ∧ (∀ b, b < H.length → hget H b ≠ none) ∧ ∀ b k, hget H b = some k → hget K (sg l N b) = some (renB σ k) ∧ refsB (· < n) k
  | [], [], K, N, _ => ⟨rfl, fun b h => by simp at h, fun b k hk => by simp [hget] at hk⟩
  | i :: l, some k :: H, K, N, h => by
    obtain ⟨h1, h2, h3⟩ := h
    obtain ⟨a1, a2, a3⟩ := mt_spec N h3
    refine ⟨by simp [a1], fun b hb => ?_, fun b k' hk => ?_⟩
    · cases b with
      | zero => simp [hget]
      | succ b => exact a2 b (by simpa using hb)
    · cases b with
      | zero => simp only [hget, Option.some.injEq] at hk; subst hk; exact ⟨h1, h2⟩
      | succ b => exact a3 b k' hk
  | [], _ :: _, K, N, h => by simp [mt] at h
  | _ :: _, [], K, N, h => by simp [mt] at h
  | _ :: _, none :: _, K, N, h => by simp [mt] at h
theorem own_use {P : Program} {g : FuncId} {as : List AV} {H H' : List (Option ABlk)} {r : AV} (hs : SemF P g as H r H') {K : List (Option ABlk)} (l : List Nat) (ha : apartB l K.length = true) (hm : mt (sg l K.length) H.length l H K) (har : refsL (· < H.length) as) :
    SemF P g (as.map (ren (sg l K.length))) K (ren (sg l K.length) r) (mg (sg l K.length) l H' K) := by
  obtain ⟨m1, m2, m3⟩ := mt_spec K.length hm
  exact semF_frame hs (sg l K.length) (iv l K.length) m2 (iv_sg ha) (fun i b h => sg_iv h) (fun b hb => sg_new (by omega)) m3 (fun j h => refsL_get har j h) (mg_get _ l H' K ha)
theorem own_go {P : Program} {g : FuncId} {as : List AV} {H H' : List (Option ABlk)} {r : AV} (hs : SemF P g as H r H') {K : List (Option ABlk)} (l : List Nat) (ha : apartB l K.length = true) (hm : mt (sg l K.length) H.length l H K) (har : refsL (· < H.length) as)
    {first caps args : List AV} (he : first ++ args ++ caps = as.map (ren (sg l K.length))) {Kc : AV → List (Option ABlk) → Prop} (hk : Kc (ren (sg l K.length) r) (mg (sg l K.length) l H' K)) : CallH P (.fn (.func g) first caps) args K Kc :=
  callH_of (by simp only [Sem]; rw [he]; exact own_use hs l ha hm har) hk
section
variable {P : Program} {all : Array Oper} {d : Option Tmp} {ty : TypeId} {ps : String} {af : Array Edge} {T : List AV} {H : List (Option ABlk)} {D : List Nat} {K : St → Prop}
theorem own_free {f : Operand} {args : Array Operand} {ts : Array TypeId} : ownK P all ⟨d, .call ⟨.value f, args, ts⟩, ty, ps, af, none⟩ ⟨T, H, D⟩ K = CallH P (aev T f) (args.toList.map (aev T)) H fun r H' => K ⟨lseto T d r, H', D⟩ := nrfl rfl
theorem own_guard {l : List Oper} {j : Nat} {wn : Bool} {f : Operand} {args : Array Operand} {ts : Array TypeId} : ownK P l.toArray ⟨d, .call ⟨.value f, args, ts⟩, ty, ps, af, some (j, wn)⟩ ⟨T, H, D⟩ K =
    guardK (gget T (gtmp l j)) wn (CallH P (aev T f) (args.toList.map (aev T)) H fun r H' => K ⟨lseto T d r, H', D⟩) (K ⟨lseto T d (.tup []), H, D⟩) := by
  simp only [ownK, guardOf, gtmp_is, guardK]
  cases hg : gtmp l j with
  | none => rfl
  | some t =>
    simp only [gget]
    cases hg : lget T t
    case bool b => cases hb : (b == wn) <;> simp [hb] <;> rfl
    all_goals rfl
@[congr] theorem CallH_congr {fv fv' : AV} {as as' : List AV} {k : AV → List (Option ABlk) → Prop} (h1 : fv = fv') (h2 : as = as') : CallH P fv as H k = CallH P fv' as' H k := by rw [h1, h2]
end
section
variable {σ : Nat → Nat}
theorem rn_int {k : IntKind} {n : Int} : ren σ (.int k n) = .int k n := by simp [ren]
theorem rn_bool {b : Bool} : ren σ (.bool b) = .bool b := by simp [ren]
theorem rn_nils : ren σ .nils = .nils := by simp [ren]
theorem rn_nilp : ren σ .nilp = .nilp := by simp [ren]
theorem rn_nilm : ren σ .nilm = .nilm := by simp [ren]
theorem rn_nilf : ren σ .nilf = .nilf := by simp [ren]
theorem rn_psl {f : Bool} {n : Nat} {xs : List AV} : ren σ (.psl f n xs) = .psl f n xs := by simp [ren]
theorem rn_pmap {es : List (AV × AV)} : ren σ (.pmap es) = .pmap es := by simp [ren]
theorem rn_pptr {xs : List AV} {i : Nat} : ren σ (.pptr xs i) = .pptr xs i := by simp [ren]
theorem rn_ptr {b g off : Nat} : ren σ (.ptr b g off) = .ptr (σ b) g off := by simp [ren]
theorem rn_osl {b g off len : Nat} : ren σ (.osl b g off len) = .osl (σ b) g off len := by simp [ren]
theorem rn_oslc {b g off len cap : Nat} : ren σ (.oslc b g off len cap) = .oslc (σ b) g off len cap := by simp [ren]
theorem rn_map {b : Nat} : ren σ (.map b) = .map (σ b) := by simp [ren]
theorem rn_fn {f : FuncId} {xs ys : List AV} : ren σ (.fn (.func f) xs ys) = .fn (.func f) (renL σ xs) (renL σ ys) := by simp [ren, renF]
theorem rn_agg {xs : List AV} : ren σ (.agg xs) = .agg (renL σ xs) := by simp [ren]
theorem rn_tup {xs : List AV} : ren σ (.tup xs) = .tup (renL σ xs) := by simp [ren]
theorem rl_n : renL σ [] = [] := by simp [renL]
theorem rl_c {x : AV} {xs : List AV} : renL σ (x :: xs) = ren σ x :: renL σ xs := by simp [renL]
theorem rl_ints {l : List Int} : renL σ (ints l) = ints l := by
  rw [renL_map]; simp only [ints, List.map_map]; apply List.map_congr_left; intro a _; simp [ren]
theorem rl_recs {α : Type} {enc : α → List AV} {l : List α} (h : ∀ a, renL σ (enc a) = enc a) : renL σ (recs enc l) = recs enc l := by
  induction l with
  | nil => simp [recs, renL]
  | cons a l ih =>
    have : recs enc (a :: l) = enc a ++ recs enc l := by simp [recs]
    rw [this]
    rw [renL_map] at ih ⊢
    rw [List.map_append, ih, ← renL_map, h]
theorem rb_cells {t : TypeId} {sz g : Nat} {xs : List AV} : renB σ (.cells t sz g xs) = .cells t sz g (renL σ xs) := nrfl rfl
theorem sg_n {n b : Nat} : sg [] n b = n + b := nrfl rfl
theorem sg_z {i n : Nat} {l : List Nat} : sg (i :: l) n 0 = i := nrfl rfl
theorem sg_s {i n b : Nat} {l : List Nat} : sg (i :: l) n (b + 1) = sg l n b := nrfl rfl
theorem hp_z {x k : Option ABlk} {K : List (Option ABlk)} : hput (x :: K) 0 k = k :: K := nrfl rfl
theorem hp_s {x k : Option ABlk} {i : Nat} {K : List (Option ABlk)} : hput (x :: K) (i + 1) k = x :: hput K i k := nrfl rfl
theorem mg_n {H' K : List (Option ABlk)} : mg σ [] H' K = K ++ H'.map (Option.map (renB σ)) := by simp [mg]
theorem mg_c {i : Nat} {l : List Nat} {k : Option ABlk} {H' K : List (Option ABlk)} : mg σ (i :: l) (k :: H') K = mg σ l H' (hput K i (k.map (renB σ))) := by simp [mg]
theorem mt_n {n : Nat} {K : List (Option ABlk)} : mt σ n [] [] K = True := by simp [mt]
theorem mt_c {n i : Nat} {l : List Nat} {k : ABlk} {H K : List (Option ABlk)} : mt σ n (i :: l) (some k :: H) K = (hget K i = some (renB σ k) ∧ refsB (· < n) k ∧ mt σ n l H K) := by simp [mt]
variable {p : Nat → Prop}
theorem rf_int {k : IntKind} {n : Int} : refs p (.int k n) = True := by simp [refs]
theorem rf_bool {b : Bool} : refs p (.bool b) = True := by simp [refs]
theorem rf_nils : refs p .nils = True := by simp [refs]
theorem rf_nilp : refs p .nilp = True := by simp [refs]
theorem rf_nilm : refs p .nilm = True := by simp [refs]
theorem rf_psl {f : Bool} {n : Nat} {xs : List AV} : refs p (.psl f n xs) = True := by simp [refs]
theorem rf_pmap {es : List (AV × AV)} : refs p (.pmap es) = True := by simp [refs]
theorem rf_pptr {xs : List AV} {i : Nat} : refs p (.pptr xs i) = True := by simp [refs]
theorem rf_ptr {b g off : Nat} : refs p (.ptr b g off) = p b := by simp [refs]
theorem rf_osl {b g off len : Nat} : refs p (.osl b g off len) = p b := by simp [refs]
theorem rf_oslc {b g off len cap : Nat} : refs p (.oslc b g off len cap) = p b := by simp [refs]
theorem rf_map {b : Nat} : refs p (.map b) = p b := by simp [refs]
theorem rf_agg {xs : List AV} : refs p (.agg xs) = refsL p xs := by simp [refs]
theorem rf_fn {f : FuncId} {xs ys : List AV} : refs p (.fn (.func f) xs ys) = (refsL p xs ∧ refsL p ys) := by simp [refs]
theorem rfl_n : refsL p [] = True := by simp [refsL]
theorem rfl_c {x : AV} {xs : List AV} : refsL p (x :: xs) = (refs p x ∧ refsL p xs) := by simp [refsL]
theorem rfl_ints {l : List Int} : refsL p (ints l) = True := by
  rw [eq_iff_iff, iff_true]
  induction l with
  | nil => simp [ints, refsL]
  | cons a l ih => rw [ints_cons, rfl_c]; exact ⟨by simp [refs], ih⟩
theorem rfb_cells {t : TypeId} {sz g : Nat} {xs : List AV} : refsB p (.cells t sz g xs) = refsL p xs := nrfl rfl
end
attribute [go_sem] own_free own_guard rn_int rn_bool rn_nils rn_nilp rn_nilm rn_nilf rn_psl rn_pptr rn_pmap rf_pmap rn_ptr rn_osl rn_oslc rf_oslc rn_map rn_fn rn_agg rn_tup rl_n rl_c rl_ints rb_cells sg_n sg_z sg_s hp_z hp_s mg_n mg_c mt_n mt_c rf_int rf_bool rf_nils rf_nilp rf_nilm rf_psl rf_pptr rf_ptr rf_osl rf_map rf_agg rf_fn rfl_n rfl_c rfl_ints rfb_cells Option.map_some Option.map_none List.map_cons List.map_nil
end Go.Am
namespace Go.Am
open Go.RowKit
section
variable {P : Program} {X : Ctx} {rs : List ResultVar} {ys : List AV} {T : List AV} {H H' : List (Option ABlk)} {D : List Nat}
theorem rh_n : retH P X rs ys H' .normal ⟨T, H, D⟩ = shut P D ⟨T, H, D⟩ fun s => resK P s rs fun xs => Le2 X ⟨xs, s.H, []⟩ ⟨ys, H', []⟩ := nrfl rfl
theorem rh_r : retH P X rs ys H' .ret ⟨T, H, D⟩ = shut P D ⟨T, H, D⟩ fun s => resK P s rs fun xs => Le2 X ⟨xs, s.H, []⟩ ⟨ys, H', []⟩ := nrfl rfl
theorem sh_n {s : St} {K : St → Prop} : shut P [] s K = K s := nrfl rfl
theorem sh_c {d : Nat} {ds : List Nat} {K : St → Prop} : shut P (d :: ds) ⟨T, H, D⟩ K = (hget H d = some (.dfr true) ∧ shut P ds ⟨T, hset H d (.dfr false), ds⟩ K) := nrfl rfl
theorem rc_s {st : LoopState} {fn : FuncId} {ps : Array Tmp} {asg body : Code} {d : Nat} {f : FuncId → List AV → Array Tmp → Code → Code → Nat → Prop} : recK st (some (.loop st none fn T ps asg body d)) f = f fn T ps asg body d := by simp [recK]
theorem ey_n {b : Nat} {y : Bool} {s : St} : endY X b y H' .normal s = recK .busy (hget s.H b) fun fn T ps asg body d => y = true ∧ Le2 X ⟨[], hset s.H b (.loop .ready none fn T ps asg body d), []⟩ ⟨[], H', []⟩ := nrfl rfl
theorem ey_r {b : Nat} {y : Bool} {s : St} : endY X b y H' .ret s = recK .busy (hget s.H b) fun fn T ps asg body d => y = false ∧ Le2 X ⟨[], hset s.H b (.loop .done (some .ret) fn T ps asg body d), []⟩ ⟨[], H', []⟩ := nrfl rfl
theorem my_n [Base] {w0 : World} {l : Option Nat} {b : Nat} {body : Code} {y : Bool} {s : St} : midY P w0 l X b body y H' .normal s = recK .ready (hget s.H b) fun fn T ps asg body' d => AWP P w0 l X body ⟨s.T, hset s.H b (.loop .busy none fn T ps asg body' d), s.D⟩ (endY X b y H') := nrfl rfl
end
def mpC (m : List (Int × Int × Int)) : List (AV × AV) := m.map fun e => (.int .i64 e.1, .agg [.int .i64 e.2.1, .int .i64 e.2.2])
def mpGet : List (Int × Int × Int) → Int → Option (Int × Int)
  | [], _ => none
  | e :: m, k => if e.1 = k then some e.2 else mpGet m k
def mpPut : List (Int × Int × Int) → Int → Int × Int → List (Int × Int × Int)
  | [], k, v => [(k, v)]
  | e :: m, k, v => if e.1 = k then (k, v) :: m else e :: mpPut m k v
def mpDel : List (Int × Int × Int) → Int → List (Int × Int × Int)
  | [], _ => []
  | e :: m, k => if e.1 = k then m else e :: mpDel m k
theorem find_mp (k : Int) : ∀ m : List (Int × Int × Int),
    (∃ i v, mapFind (mpC m) (.int .i64 k) = some (some (i, .agg [.int .i64 v.1, .int .i64 v.2])) ∧ mpGet m k = some v ∧ (∀ a b : Int, (mpC m).set i (.int .i64 k, .agg [.int .i64 a, .int .i64 b]) = mpC (mpPut m k (a, b))) ∧ (mpC m).eraseIdx i = mpC (mpDel m k)) ∨
    (mapFind (mpC m) (.int .i64 k) = some none ∧ mpGet m k = none ∧ (∀ a b : Int, mpC m ++ [(.int .i64 k, .agg [.int .i64 a, .int .i64 b])] = mpC (mpPut m k (a, b))) ∧ mpDel m k = m)
  | [] => .inr ⟨rfl, rfl, fun a b => rfl, rfl⟩
  | e :: m => by
    by_cases h : e.1 = k
    · refine .inl ⟨0, e.2, ?_, ?_, fun a b => ?_, ?_⟩
      · simp [mpC, mapFind, h]
      · simp [mpGet, h]
      · simp [mpC, mpPut, h]
      · simp [mpC, mpDel, h]
    · rcases find_mp k m with ⟨i, v, h1, h2, h3, h4⟩ | ⟨h1, h2, h3, h4⟩
      · refine .inl ⟨i + 1, v, ?_, by simp [mpGet, h, h2], fun a b => ?_, ?_⟩
        · simp only [mpC, List.map_cons, mapFind, if_true, h, if_false] at h1 ⊢
          rw [h1]; rfl
        · have := h3 a b
          simp only [mpC, List.map_cons, mpPut, h, if_false, List.set_cons_succ] at this ⊢
          rw [this]
        · simp only [mpC, List.map_cons, mpDel, h, if_false, List.eraseIdx_cons_succ] at h4 ⊢
          rw [h4]
      · refine .inr ⟨?_, by simp [mpGet, h, h2], fun a b => ?_, by simp [mpDel, h, h4]⟩
        · simp only [mpC, List.map_cons, mapFind, if_true, h, if_false] at h1 ⊢
          rw [h1]; rfl
        · have := h3 a b
          simp only [mpC, List.map_cons, mpPut, h, if_false, List.cons_append] at this ⊢
          rw [this]
attribute [go_sem] rh_n rh_r sh_n sh_c rc_s ey_n ey_r my_n ABlk.dfr.injEq
end Go.Am
namespace Go.Am
open Go.RowKit
def mapX (a : AV) (k : Nat → Prop) : Prop := match a with | .map b => k b | _ => False
@[congr] theorem mapX_congr {a a' : AV} {k : Nat → Prop} (h : a = a') : mapX a k = mapX a' k := by rw [h]
theorem mx_s {b : Nat} {k : Nat → Prop} : mapX (.map b) k = k b := nrfl rfl
def keyA (a : AV) (k : IntKind → Int → Prop) : Prop := match a with | .int kk n => k kk n | _ => False
@[congr] theorem keyA_congr {a a' : AV} {k : IntKind → Int → Prop} (h : a = a') : keyA a k = keyA a' k := by rw [h]
theorem ky_s {kk : IntKind} {n : Int} {k : IntKind → Int → Prop} : keyA (.int kk n) k = k kk n := nrfl rfl
def mupK (es : List (AV × AV)) (k v : AV) (f : List (AV × AV) → Prop) : Prop := match mapFind es k with | some (some (i, _)) => f (es.set i (k, v)) | some none => f (es ++ [(k, v)]) | none => False
@[congr] theorem mupK_congr {es : List (AV × AV)} {k k' v v' : AV} {f : List (AV × AV) → Prop} (h : k = k') (h' : v = v') : mupK es k v f = mupK es k' v' f := by rw [h, h']
theorem mup_mp {m : List (Int × Int × Int)} {n a b : Int} {f : List (AV × AV) → Prop} : mupK (mpC m) (.int .i64 n) (.agg [.int .i64 a, .int .i64 b]) f = f (mpC (mpPut m n (a, b))) := by
  rcases find_mp n m with ⟨i, v, h1, h2, h3, h4⟩ | ⟨h1, h2, h3, h4⟩
  · simp only [mupK, h1, h3]
  · simp only [mupK, h1, h3]
def mgetK (es : List (AV × AV)) (k z : AV) (f : AV → Bool → Prop) : Prop := match mapFind es k with | some (some (_, v)) => f v true | some none => f z false | none => False
@[congr] theorem mgetK_congr {es : List (AV × AV)} {k k' z : AV} {f : AV → Bool → Prop} (h : k = k') : mgetK es k z f = mgetK es k' z f := by rw [h]
theorem mget_some {m : List (Int × Int × Int)} {n : Int} {v : Int × Int} {z : AV} {f : AV → Bool → Prop} (h : mpGet m n = some v) : mgetK (mpC m) (.int .i64 n) z f = f (.agg [.int .i64 v.1, .int .i64 v.2]) true := by
  rcases find_mp n m with ⟨i, v', h1, h2, h3, h4⟩ | ⟨h1, h2, h3, h4⟩
  · rw [h] at h2; cases h2; simp only [mgetK, h1]
  · rw [h] at h2; cases h2
theorem mget_none {m : List (Int × Int × Int)} {n : Int} {z : AV} {f : AV → Bool → Prop} (h : mpGet m n = none) : mgetK (mpC m) (.int .i64 n) z f = f z false := by
  rcases find_mp n m with ⟨i, v', h1, h2, h3, h4⟩ | ⟨h1, h2, h3, h4⟩
  · rw [h] at h2; cases h2
  · simp only [mgetK, h1]
def mdelK (es : List (AV × AV)) (k : AV) (f : List (AV × AV) → Prop) : Prop := match mapFind es k with | some (some (i, _)) => f (es.eraseIdx i) | some none => f es | none => False
@[congr] theorem mdelK_congr {es : List (AV × AV)} {k k' : AV} {f : List (AV × AV) → Prop} (h : k = k') : mdelK es k f = mdelK es k' f := by rw [h]
theorem mdel_mp {m : List (Int × Int × Int)} {n : Int} {f : List (AV × AV) → Prop} : mdelK (mpC m) (.int .i64 n) f = f (mpC (mpDel m n)) := by
  rcases find_mp n m with ⟨i, v, h1, h2, h3, h4⟩ | ⟨h1, h2, h3, h4⟩
  · simp only [mdelK, h1, h4]
  · simp only [mdelK, h1, h4]
def mapY (H : List (Option ABlk)) (x : AV) (f : List (AV × AV) → List Nat → Prop) : Prop := mapOf x (hget H) f
@[congr] theorem mapY_congr {H : List (Option ABlk)} {x x' : AV} {f : List (AV × AV) → List Nat → Prop} (h : x = x') : mapY H x f = mapY H x' f := by rw [h]
theorem my_p {H : List (Option ABlk)} {es : List (AV × AV)} {f : List (AV × AV) → List Nat → Prop} : mapY H (.pmap es) f = f es [] := nrfl rfl
theorem my_m {H : List (Option ABlk)} {b : Nat} {f : List (AV × AV) → List Nat → Prop} : mapY H (.map b) f = mapK (hget H b) fun es => f es [b] := by
  simp only [mapY, mapOf]
  cases hget H b with
  | none => rfl
  | some k => cases k <;> rfl
@[congr] theorem keyOK_congr {P : Program} {kt : TypeId} {k k' : AV} (h : k = k') : keyOK P kt k = keyOK P kt k' := by rw [h]
theorem ko_int {P : Program} {kt : TypeId} {kk : IntKind} {n : Int} : keyOK P kt (.int kk n) = ((tint P kt).isSome = true) := nrfl rfl
theorem ko_agg {P : Program} {kt : TypeId} {xs : List AV} : keyOK P kt (.agg xs) = (EqOK P kt ∧ tkb P kt = some (xs.map kindB)) := nrfl rfl
section
variable {P : Program} {all : Array Oper} {d : Option Tmp} {os : List Oper} {T : List AV} {H : List (Option ABlk)} {D : List Nat} {tr : List E} {K : St → List E → Prop}
theorem st_mapUp {t : TypeId} {x k v : Operand} : stepK P all (.mapUpdate t x k v) d os T H D tr K = optK (tmap P t) fun kv => mapX (aev T x) fun b => keyOK P kv.1 (aev T k) ∧ mapK (hget H b) fun es => mupK es (aev T k) (aev T v) fun es' =>
    evOps P all os ⟨lseto T d .junk, hset H b (.map es'), D⟩ (tr ++ [⟨.junk, [], some (b, .map es')⟩]) K := by
  simp only [stepK, effK]
  cases tmap P t with
  | none => rfl
  | some kv =>
    simp only [optK]
    cases aev T x <;> try rfl
theorem st_lookup {t : TypeId} {x k : Operand} {ok : Bool} : stepK P all (.lookup t x k ok) d os T H D tr K = optK (tmap P t) fun kv => optK (tzv P kv.2) fun z => keyOK P kv.1 (aev T k) ∧ zeroOK z = true ∧ mapY H (aev T x) fun es rd => mgetK es (aev T k) z fun v is =>
    goK P all d os T H D tr K (if ok then .tup [v, .bool is] else v) rd := by
  simp only [stepK, effK]
  cases tmap P t with
  | none => rfl
  | some kv =>
    simp only [optK]
    cases tzv P kv.2 with
    | none => rfl
    | some z => rfl
theorem st_delete {x k : Operand} {t t' : TypeId} : stepK P all (.call ⟨.builtin .delete, #[x, k], #[t, t']⟩) d os T H D tr K = mapX (aev T x) fun b => optK (tmap P t) fun kv => mapK (hget H b) fun es => (tint P kv.1).isSome = true ∧ keyA (aev T k) fun kk n => mdelK es (.int kk n) fun es' =>
    evOps P all os ⟨lseto T d .junk, hset H b (.map es'), D⟩ (tr ++ [⟨.junk, [], some (b, .map es')⟩]) K := by
  simp only [stepK, effK, builtinK, List.map_cons, List.map_nil]
  cases aev T x <;> try rfl
  simp only [mapX]
  cases tmap P t with
  | none => rfl
  | some kv =>
    simp only [optK]
    rename_i b
    cases hget H b with
    | none => rfl
    | some blk =>
      cases blk <;> try rfl
end
attribute [go_sem] mx_s ky_s my_p my_m ko_int ko_agg mup_mp mdel_mp st_mapUp st_lookup st_delete
end Go.Am
namespace Go.Am
open Go.RowKit
section
variable [Base] {P : Program} {w0 : World} {r : Option Nat} {X : Ctx} {s : St} {Q : Exit → St → Prop}
theorem awp_ownN (n : Nat) {id : Nat} {ops post : List Oper} {o : Oper} (e : ops.drop n = o :: post)
    (h : evOps P ops.toArray (ops.take n) s [] fun s1 _ => ownK P ops.toArray o s1 fun s2 => evOps P ops.toArray post s2 [] fun s3 _ => Q .normal s3) : AWP P w0 r X (.region id ops.toArray false) s Q :=
  awp_own (pre := ops.take n) (by rw [← e, List.take_append_drop]) h
theorem awp_rangeZ {g : Operand} {ps : Array Tmp} {asg body : Code} {gf : FuncId} {first caps : List AV} (hg : aev s.T g = .fn (.func gf) first caps) (n : Nat) (hn : s.H.length = n)
    (hs : ∀ a b, a = asg → b = body → ∃ y H' st pend e, SemF P gf (first ++ [.fn (.yield (n + 1)) [] []] ++ caps) (hset (hset s.H n (.dfr true)) (n + 1) (.loop .ready none 0 s.T ps a b n)) y H' ∧
      hget H' (n + 1) = some (.loop st pend 0 s.T ps a b n) ∧ st ≠ .busy ∧ jumpX pend = some e ∧ Q e ⟨s.T, hset H' (n + 1) (.loop .exhausted pend 0 s.T ps a b n), n :: s.D⟩) : AWP P w0 none X (.rangeFunc g ps asg body) s Q := by
  subst hn
  obtain ⟨y, H', st, pend, e, h1, h2, h3, h4, h5⟩ := hs asg body rfl rfl
  exact awp_range hg h1 h3 h2 h4 h5
end
theorem awp_code [Base] {P : Program} {w0 : World} {r : Option Nat} {X : Ctx} {s : St} {Q : Exit → St → Prop} {a c : Code} (e : a = c) (h : AWP P w0 r X c s Q) : AWP P w0 r X a s Q := e ▸ h
theorem callH_yield {P : Program} {b : Nat} {as : List AV} {H : List (Option ABlk)} {K : AV → List (Option ABlk) → Prop} (y : Bool) (H' : List (Option ABlk)) (h : SemY P b as H (.bool y) H') (hk : K (.bool y) H') : CallH P (.fn (.yield b) [] []) as H K := ⟨.bool y, H', h, hk⟩
theorem semY_of_awpZ {P : Program} {b : Nat} {as : List AV} {H H' : List (Option ABlk)} {y : Bool} {fn : FuncId} {T : List AV} {ps : Array Tmp} {asg body : Code} {d : Nat}
    (hb : hget H b = some (.loop .ready none fn T ps asg body d)) {T1 : List AV} (hT1 : putArgs ps.toList as T = some T1)
    (h : ∀ [Base] (w0 : World) (l : Nat) (m : Nat → Option Loc) (w : World), AWP P w0 (some l) (Ctx.of H m w) asg ⟨T1, H, []⟩ (midY P w0 (some l) (Ctx.of H m w) b body y H')) : SemY P b as H (.bool y) H' := semY_of_awp hb hT1 h
theorem bl_l {q : Nat → Bool} {st : LoopState} {pend : Option Code} {fn : FuncId} {T : List AV} {ps : Array Tmp} {asg body : Code} {d : Nat} : blkLive q (.loop st pend fn T ps asg body d) = (T.all (live2 q) && q d) := nrfl rfl
theorem pa_n {T : List AV} : putArgs [] [] T = some T := nrfl rfl
theorem pa_c {t : Tmp} {ps : List Tmp} {x : AV} {xs T : List AV} : putArgs (t :: ps) (x :: xs) T = putArgs ps xs (lset T t x) := nrfl rfl
theorem al_mp {q : Nat → Bool} {m : List (Int × Int × Int)} : ((mpC m).all fun e => live2 q e.1 && live2 q e.2) = true := by
  simp only [mpC, List.all_map, List.all_eq_true]
  intro e _; rfl
theorem lv_y {q : Nat → Bool} {b : Nat} : live2 q (.fn (.yield b) [] []) = q b := by simp [live2, live1]
theorem rq_nd {P : Program} {rs : List ResultVar} {R : AV → Prop} {T : List AV} {H : List (Option ABlk)} {d : Nat} {ds : List Nat} : retQ P rs R .normal ⟨T, H, d :: ds⟩ = shut P (d :: ds) ⟨T, H, d :: ds⟩ fun s => resK P s rs fun xs => outs (hget s.H) xs fun ys => R (finAV ys) := nrfl rfl
theorem rq_rd {P : Program} {rs : List ResultVar} {R : AV → Prop} {T : List AV} {H : List (Option ABlk)} {d : Nat} {ds : List Nat} : retQ P rs R .ret ⟨T, H, d :: ds⟩ = shut P (d :: ds) ⟨T, H, d :: ds⟩ fun s => resK P s rs fun xs => outs (hget s.H) xs fun ys => R (finAV ys) := nrfl rfl
attribute [go_sem] bl_l al_mp lv_y rq_nd rq_rd
end Go.Am
namespace Go.Am
open Go.RowKit
def exitQ (id : Nat) (K : St → Prop) (Q : Exit → St → Prop) : Exit → St → Prop
  | .exit i, s => if i = id then K s else Q (.exit i) s
  | e, s => Q e s
section
variable [Base] {P : Program} {w0 : World} {r : Option Nat} {X : Ctx} {s s' : St} {Q : Exit → St → Prop} {c : Code}
omit [Base] in
theorem exq_e {id : Nat} {K : St → Prop} : exitQ id K Q (.exit id) s = K s := by simp [exitQ]
omit [Base] in
theorem exq_r {id : Nat} {K : St → Prop} : exitQ id K Q .ret s = Q .ret s := nrfl rfl
omit [Base] in
theorem exq_n {id : Nat} {K : St → Prop} : exitQ id K Q .normal s = Q .normal s := nrfl rfl
theorem awp_cut {γ : Type} (id : Nat) (J : γ → Prop) (I : γ → St) (h1 : AWP P w0 r X c s (exitQ id (fun s' => ∃ g, J g ∧ Imp w0 X s' (I g)) Q)) (h2 : ∀ g, J g → ∀ s', Imp w0 X s' (I g) → Q (.exit id) s') : AWP P w0 r X c s Q := by
  refine AWP.mono h1 fun e s' hq => ?_
  cases e with
  | exit i =>
    simp only [exitQ] at hq
    split at hq
    · rename_i e; subst e; obtain ⟨g, h3, h4⟩ := hq; exact h2 g h3 s' h4
    · exact hq
  | normal => exact hq
  | goto l => exact hq
  | ret => exact hq
  | panic ch => exact hq
  | outgrown => exact hq
theorem kt_imp (h : Imp w0 X s s') (h' : Kt P w0 r X c Q s') : Kt P w0 r X c Q s := awp_imp h h'
end
attribute [go_sem] exq_e exq_r exq_n
end Go.Am
