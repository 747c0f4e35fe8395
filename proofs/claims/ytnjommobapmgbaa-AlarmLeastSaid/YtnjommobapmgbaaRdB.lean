/- What the arguments of the alarm laws can be read as: seasons, terms, small numbers. -/
import Derived.Test.YtnjommobapmgbaaRdA
import Derived.Test.YtnjommobapmgbaaAlI
namespace Go.Am
open Go.RowKit Go.Proofs
section
variable {H : Type} {en : TypeId × Value → H} {P : Program} {w : World} {base : Nat} {sp : Nat → Bool} {held : Bool}
theorem arg_slice {rc : Reach} {b0 : Nat} {t e : TypeId} {v : Value} {d : DataW H} {p : List MemPlace} {α : Type} {x : α → AV} {ok : α → Prop} (hu : P.underlying t = some (.slice e)) (r : Reads P t 1 (fun a => [x a]) ok)
    (hv : Value.okWide P w rc b0 t v) (h : DataW.Trod en P w base sp held t v d p) : ∃ a, ok a ∧ PRep (fun c => c < w.heap.size) w (x a) v := by
  refine arg_one r ?_ h
  cases v
  case agg cs => exact absurd hv (by simp [Value.okWide, Cell.okWide, Cell.ok, hu])
  all_goals rfl
theorem arg_int {rc : Reach} {b0 : Nat} {t : TypeId} {k : IntKind} {v : Value} {d : DataW H} {p : List MemPlace} {α : Type} {x : α → AV} {ok : α → Prop} (hu : P.underlying t = some (.int k)) (r : Reads P t 1 (fun a => [x a]) ok)
    (hv : Value.okWide P w rc b0 t v) (h : DataW.Trod en P w base sp held t v d p) : ∃ a, ok a ∧ PRep (fun c => c < w.heap.size) w (x a) v := by
  refine arg_one r ?_ h
  cases v
  case agg cs => exact absurd hv (by simp [Value.okWide, Cell.okWide, Cell.ok, hu])
  all_goals rfl
end
theorem rd37 : Reads Try.prog 37 1 (fun l : List Season => [slS l]) okS :=
  (reads_slice Try.underlying37 (by kernel_rfl) (by omega) rd24).conv id _ _ (fun _ => rfl) (fun l => rfl) (fun l h => ⟨h.1, fun i hi => by
    rw [show (id l).getD i default = l[i] by simp [List.getD_eq_getElem?_getD, show i < l.length from hi]]
    exact h.2 _ (List.getElem_mem hi)⟩)
theorem rd90 : Reads Try.prog 90 5 termsC (fun _ => True) :=
  (reads_struct Try.underlying90 (by kernel_rfl) (readsF_cons rfl rd3 (readsF_cons rfl rd3 (readsF_cons rfl rd3 (readsF_cons rfl rd3 (readsF_cons rfl rd3 readsF_nil)))))).conv (fun p => ⟨p.1, p.2.1, p.2.2.1, p.2.2.2.1, p.2.2.2.2.1⟩) _ _ (fun _ => rfl) (fun _ => rfl) (fun _ _ => trivial)
theorem rd48 : Reads Try.prog 48 1 (fun n : Int => [.int .u16 n]) (okI .u16) := reads_int Try.underlying48 (by kernel_rfl)
theorem okI_u16 {n : Int} (h : okI .u16 n) : 0 ≤ n ∧ n ≤ 65535 := by
  unfold okI at h
  simpa [Lit.wf, IntKind.has, IntKind.min, IntKind.max, IntKind.signed, IntKind.bits] using h
end Go.Am
