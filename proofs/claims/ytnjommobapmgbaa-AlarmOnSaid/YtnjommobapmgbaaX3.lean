/- The abstract machine Am, part X3: what effX says, effK says. -/
import Derived.Test.YtnjommobapmgbaaX2
namespace Go.Am
open Go.RowKit

theorem arithX_sound {k : IntKind} {r : Int} {v : AV} {K : AV → Prop} (h : arithX k r = some v) (hk : K v) : arith k r K := by
  cases k <;> simp only [arithX] at h <;> simp only [arith]
  case i64 =>
    split at h
    · rename_i hr; cases h; exact ⟨hr, hk⟩
    · cases h
  all_goals (cases h; exact hk)
theorem bitsX_sound {op : BinOp} {k : IntKind} {a b : Int} {v : AV} {K : AV → Prop} (h : bitsX op k a b = some v) (hk : K v) : bits op k a b K := by
  cases op <;> simp only [bitsX, reduceCtorEq] at h <;> simp only [bits] <;> (cases h; exact hk)
theorem binIntX_sound {op : BinOp} {k k' : IntKind} {a b : Int} {v : AV} {K : AV → Prop} (h : binIntX op k k' a b = some v) (hk : K v) : binInt op k k' a b K := by
  cases op <;> simp only [binIntX] at h <;> simp only [binInt]
  all_goals (split at h)
  all_goals (try (cases h; done))
  case add => exact ⟨‹_›, arithX_sound h hk⟩
  case sub => exact ⟨‹_›, arithX_sound h hk⟩
  case mul => exact ⟨‹_›, arithX_sound h hk⟩
  case quo =>
    split at h
    · cases h
    · exact ⟨‹_›, ‹_›, arithX_sound h hk⟩
  case rem =>
    split at h
    · cases h
    · cases h; exact ⟨‹_›, ‹_›, hk⟩
  case and => exact ⟨‹_›, bitsX_sound h hk⟩
  case or => exact ⟨‹_›, bitsX_sound h hk⟩
  case xor => exact ⟨‹_›, bitsX_sound h hk⟩
  case andNot => exact ⟨‹_›, bitsX_sound h hk⟩
  all_goals (cases h; exact ⟨‹_›, hk⟩)
theorem binX_sound {P : Program} {eqt : TypeId → Bool} {op : BinOp} {t : TypeId} {x y v : AV} {K : AV → Prop} (he : ∀ t, eqt t = true → EqOK P t) (h : binX P eqt op t x y = some v) (hk : K v) : binK P op t x y K := by
  cases x <;> cases y <;> simp only [binX, reduceCtorEq] at h <;> simp only [binK]
  case int.int => exact binIntX_sound h hk
  case bool.bool a b =>
    split at h
    · rename_i hu
      cases op <;> simp only [reduceCtorEq] at h <;> (cases h; exact ⟨hu, hk⟩)
    · cases h
  case agg.agg xs ys =>
    split at h
    · rename_i hc
      refine ⟨he _ hc.1, hc.2.1, hc.2.2, ?_⟩
      split at h
      · rename_i b hb
        simp only [hb]
        cases op <;> simp only [reduceCtorEq] at h <;> (cases h; exact hk)
      · cases h
    · cases h
theorem unX_sound {op : UnOp} {x v : AV} {K : AV → Prop} (h : unX op x = some v) (hk : K v) : unK op x K := by
  cases op <;> cases x <;> simp only [unX, reduceCtorEq] at h <;> simp only [unK]
  · exact arithX_sound h hk
  · cases h; exact hk
theorem loadX_sound {P : Program} {t : TypeId} {xs : List AV} {off : Nat} {v : AV} {K : AV → Prop} (h : loadX P t xs off = some v) (hk : K v) : loadK P t xs off K := by
  unfold loadX at h; unfold loadK
  split at h
  · rename_i h1 h2
    simp only [h1, h2]
    split at h
    · cases h; exact ⟨‹_›, hk⟩
    · cases h
  · rename_i h1 h2
    simp only [h1, h2, h]; exact hk
  · cases h
theorem mmX_sound {b : Bool} {xs : List AV} {v : AV} {K : AV → Prop} (h : mmX b xs = some v) (hk : K v) : mm b xs K := by
  unfold mmX at h
  split at h
  · cases h; exact hk
  · split at h
    · cases h; exact ⟨‹_›, hk⟩
    · cases h
  · cases h
theorem map_some {α β : Type} {f : α → β} {o : Option α} {b : β} (h : o.map f = some b) : ∃ a, o = some a ∧ b = f a := by
  cases o with
  | none => cases h
  | some a => exact ⟨a, rfl, by simpa using h.symm⟩
theorem makeX_sound {l c : AV} {n : Nat} {K : Nat → Prop} (h : makeX l c = some n) (hk : K n) : makeK l c K := by
  cases l <;> cases c <;> simp only [makeX, reduceCtorEq] at h
  simp only [makeK]
  split at h
  · rename_i hc; cases h; exact ⟨hc.1, hc.2, hk⟩
  · cases h
theorem sliceX_sound {sz : Nat} {x : AV} {lo hi : Option AV} {v : AV} {K : AV → Prop} (h : sliceX sz x lo hi = some v) (hk : K v) : sliceK sz x lo hi K := by
  unfold sliceX at h; unfold sliceK
  split at h
  · simp only
    split at h
    · rename_i h1; simp only [h1]
      split at h
      · rename_i h2; simp only [h2]
        split at h
        · rename_i hc; cases h; exact ⟨hc.1, hc.2.1, hc.2.2.1, hc.2.2.2, hk⟩
        · cases h
      · cases h
    · cases h
  · cases h
theorem all_mem {xs : List AV} (h : xs.all cellPure = true) : ∀ x ∈ xs, cellPure x = true := by simpa using h

theorem builtinX_sound {P : Program} {b : Builtin} {ts : Array TypeId} {args : List AV} {h : Nat → Option ABlk} {nx : Nat} {e : E} {K : E → Prop} (hx : builtinX P b ts args h nx = some e) (hk : K e) : builtinK P b ts args h nx K := by
  unfold builtinX at hx
  split at hx
  · rename_i hts; simp only [builtinK, hts]
    split at hx
    · split at hx
      · cases hx; exact ⟨‹_›, hk⟩
      · cases hx
    · split at hx
      · cases hx; exact ⟨‹_›, hk⟩
      · cases hx
    · split at hx
      · rename_i hs
        refine ⟨hs, ?_⟩
        split at hx
        · rename_i hb
          split at hx
          · cases hx; simp only [hb]; exact ⟨‹_›, hk⟩
          · cases hx
        · cases hx
      · cases hx
    · split at hx
      · rename_i hs
        refine ⟨hs, ?_⟩
        split at hx
        · rename_i hb
          cases hx; simp only [hb]; exact hk
        · cases hx
      · cases hx
    · cases hx
  · obtain ⟨v, hv, rfl⟩ := map_some hx
    simp only [builtinK]
    exact mmX_sound hv hk
  · obtain ⟨v, hv, rfl⟩ := map_some hx
    simp only [builtinK]
    exact mmX_sound hv hk
  · rename_i hts; simp only [builtinK, hts]
    split at hx
    · rename_i htt
      refine ⟨htt, ?_⟩
      split at hx
      · rename_i e1 he1
        simp only [he1]
        split at hx
        · rename_i sz by_ zs h1 h2 h3
          simp only [h1, h2, h3]
          split at hx
          · rename_i hz
            refine ⟨hz.1, hz.2, ?_⟩
            split at hx
            · split at hx
              · rename_i hy
                refine ⟨hy, ?_⟩
                split at hx
                · split at hx
                  · rename_i hc; cases hx; exact ⟨hc.1, hc.2, hk⟩
                  · cases hx
                · split at hx
                  · rename_i hb
                    simp only [hb]
                    split at hx
                    · rename_i hc; cases hx; exact ⟨hc.1, hc.2.1, hc.2.2.1, hc.2.2.2.1, hc.2.2.2.2.1, hc.2.2.2.2.2.1, hc.2.2.2.2.2.2, hk⟩
                    · cases hx
                  · cases hx
                · cases hx
              · cases hx
            · cases hx
          · cases hx
        · cases hx
      · cases hx
    · cases hx
  · rename_i hts; simp only [builtinK, hts]
    split at hx
    · split at hx
      · rename_i h1 h2
        simp only [h1, h2]
        split at hx
        · rename_i hi
          refine ⟨hi, ?_⟩
          split at hx
          · split at hx
            · rename_i h3; cases hx; simp only [h3]; exact hk
            · rename_i h3; cases hx; simp only [h3]; exact hk
            · cases hx
          · cases hx
        · cases hx
      · cases hx
    · cases hx
  · cases hx

theorem effX_sound {P : Program} {eqt : TypeId → Bool} {o : Oper} {ρ : Operand → AV} {h : Nat → Option ABlk} {nx : Nat} {e : E} {K : E → Prop} (he : ∀ t, eqt t = true → EqOK P t) (hx : effX P eqt o ρ h nx = some e) (hk : K e) : effK P o ρ h nx K := by
  unfold effX at hx; unfold effK
  split at hx <;> rename_i ho <;> simp only [ho]
  · cases hx; exact hk
  · cases hx; exact hk
  · split at hx
    · rename_i h1; cases hx; simp only [h1]; exact hk
    · rename_i h1; cases hx; simp only [h1]; exact hk
    · cases hx
  · split at hx
    · rename_i h1; simp only [h1]
      split at hx
      · rename_i h2; cases hx; exact ⟨all_mem h2, hk⟩
      · cases hx
    · cases hx
  · split at hx
    · rename_i h1; cases hx; simp only [h1]; exact hk
    · cases hx
  · split at hx
    · rename_i h1; simp only [h1]
      split at hx
      · rename_i h2
        refine ⟨all_mem h2, ?_⟩
        split at hx
        · rename_i h3; simp only [h3]
          split at hx
          · rename_i h4; simp only [h4]
            split at hx
            · rename_i h5; cases hx; simp only [h5]; exact hk
            · cases hx
          · cases hx
        · rename_i h3; simp only [h3]
          split at hx
          · rename_i h4; simp only [h4]
            split at hx
            · rename_i h5; cases hx; simp only [h5]; exact hk
            · cases hx
          · cases hx
      · cases hx
    · cases hx
  · split at hx
    · rename_i h1; simp only [h1]
      split at hx
      · rename_i h2 h3; simp only [h2, h3]
        split at hx
        · rename_i h4
          refine ⟨h4.1, h4.2.1, h4.2.2.1, all_mem h4.2.2.2, ?_⟩
          split at hx
          · rename_i h5; simp only [h5]
            split at hx
            · rename_i h6; cases hx; exact ⟨all_mem h6, hk⟩
            · cases hx
          · cases hx
        · cases hx
      · cases hx
    · cases hx
  · split at hx
    · rename_i h1; simp only [h1]
      split at hx
      · rename_i h2; simp only [h2]
        split at hx
        · obtain ⟨v, hv, rfl⟩ := map_some hx
          exact ⟨‹_›, loadX_sound hv hk⟩
        · cases hx
      · cases hx
    · rename_i h1; simp only [h1]
      obtain ⟨v, hv, rfl⟩ := map_some hx
      exact loadX_sound hv hk
    · cases hx
  · split at hx
    · rename_i h1; simp only [h1]
      split at hx
      · rename_i h2 h3; simp only [h2, h3]
        split at hx
        · rename_i h4; cases hx; exact ⟨h4.1, h4.2.1, h4.2.2, hk⟩
        · cases hx
      · cases hx
    · cases hx
  · split at hx
    · rename_i h1; simp only [h1]
      split at hx
      · rename_i h2; simp only [h2]
        split at hx
        · cases hx; exact ⟨‹_›, hk⟩
        · cases hx
      · cases hx
    · rename_i h1; cases hx; simp only [h1]; exact hk
    · cases hx
  · obtain ⟨v, hv, rfl⟩ := map_some hx
    exact binX_sound he hv hk
  · obtain ⟨v, hv, rfl⟩ := map_some hx
    exact unX_sound hv hk
  · split at hx
    · rename_i h1 h2; simp only [h1, h2]
      split at hx
      · obtain ⟨v, hv, rfl⟩ := map_some hx
        exact ⟨‹_›, arithX_sound hv hk⟩
      · cases hx
    · cases hx
  · split at hx
    · cases hx
    · rename_i hf; cases hx; exact ⟨fun l hl => hf l hl, hk⟩
  · cases hx; exact hk
  · split at hx
    · rename_i h1; simp only [h1]
      split at hx
      · rename_i h2 h3 h4; simp only [h2, h3, h4]
        split at hx
        · rename_i h5
          refine ⟨h5.1, h5.2.1, all_mem h5.2.2, ?_⟩
          split at hx
          · rename_i n hn
            split at hx
            · rename_i h6; cases hx; exact makeX_sound hn ⟨h6.1, h6.2, hk⟩
            · cases hx
          · cases hx
        · cases hx
      · cases hx
    · cases hx
  · split at hx
    · rename_i h1; simp only [h1]
      split at hx
      · rename_i h2; simp only [h2]
        obtain ⟨v, hv, rfl⟩ := map_some hx
        exact sliceX_sound hv hk
      · cases hx
    · cases hx
  · split at hx
    · rename_i h1; simp only [h1]
      split at hx
      · rename_i h2 h3; simp only [h2, h3]
        split at hx
        · refine ⟨‹_›, ?_⟩
          split at hx
          · rename_i h4; simp only [h4]
            split at hx
            · cases hx; exact ⟨‹_›, hk⟩
            · cases hx
          · cases hx
        · cases hx
      · rename_i h2 h3; simp only [h2, h3]
        split at hx
        · cases hx; exact ⟨‹_›, hk⟩
        · cases hx
      · cases hx
    · cases hx
  · split at hx
    · rename_i h1 h2; simp only [h1, h2]
      obtain ⟨v, hv, rfl⟩ := map_some hx
      exact loadX_sound hv hk
    · cases hx
  · split at hx
    · rename_i h0; simp only [h0]
      split at hx
      · rename_i h1; simp only [h1]
        split at hx
        · rename_i h2 h3; simp only [h2, h3]
          split at hx
          · rename_i h4; cases hx; exact ⟨h4.1, h4.2.1, h4.2.2, hk⟩
          · cases hx
        · rename_i h2 h3; simp only [h2, h3]
          split at hx
          · rename_i h4
            refine ⟨h4.1, h4.2, ?_⟩
            split at hx
            · rename_i h5; simp only [h5]
              split at hx
              · cases hx; exact ⟨‹_›, hk⟩
              · cases hx
            · cases hx
          · cases hx
        · cases hx
      · rename_i h1; simp only [h1]
        split at hx
        · rename_i h2; simp only [h2]
          split at hx
          · rename_i h3 h4; simp only [h3, h4]
            split at hx
            · rename_i h5
              refine ⟨h5.1, h5.2, ?_⟩
              split at hx
              · rename_i h6; simp only [h6]
                split at hx
                · cases hx; exact ⟨‹_›, hk⟩
                · cases hx
              · cases hx
            · cases hx
          · rename_i h3 h4; simp only [h3, h4]
            split at hx
            · rename_i h5; cases hx; exact ⟨h5.1, h5.2, hk⟩
            · cases hx
          · cases hx
        · cases hx
    · cases hx
  · split at hx
    · rename_i h1 h2 h3; simp only [h1, h2, h3]
      split at hx
      · rename_i h4; simp only [h4]
        split at hx
        · rename_i h5
          obtain ⟨v, hv, rfl⟩ := map_some hx
          exact ⟨h5.1, h5.2, loadX_sound hv hk⟩
        · cases hx
      · cases hx
    · cases hx
  · split at hx
    · rename_i h1 h2 h3; simp only [h1, h2, h3]
      split at hx
      · refine ⟨‹_›, ?_⟩
        split at hx
        · rename_i h4 h5; simp only [h4, h5]
          split at hx
          · refine ⟨‹_›, ?_⟩
            split at hx
            · rename_i h6; cases hx; simp only [h6]; exact hk
            · rename_i h6; cases hx; simp only [h6]; exact hk
            · cases hx
          · cases hx
        · cases hx
      · cases hx
    · cases hx
  · split at hx
    · rename_i h1 h2 h3; simp only [h1, h2, h3]
      split at hx
      · refine ⟨‹_›, ?_⟩
        split at hx
        · rename_i h4; simp only [h4]
          split at hx
          · rename_i h6; cases hx; simp only [h6]; exact hk
          · rename_i h6; cases hx; simp only [h6]; exact hk
          · cases hx
        · cases hx
      · cases hx
    · cases hx
  · split at hx
    · rename_i h1; simp only [h1]
      obtain ⟨v, hv, rfl⟩ := map_some hx
      simp only [hv]; exact hk
    · cases hx
  · split at hx
    · rename_i h1; simp only [h1]
      exact builtinX_sound hx hk
    · cases hx
  · cases hx

end Go.Am
