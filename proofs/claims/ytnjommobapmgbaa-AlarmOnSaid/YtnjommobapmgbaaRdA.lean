/- What the arguments of the alarm laws can be read as. -/
import Derived.Test.YtnjommobapmgbaaRd
import Derived.Test.YtnjommobapmgbaaAlD
import Derived.KernelRfl
namespace Go.Am
open Go.RowKit Go.Proofs

theorem rd3 : Reads Try.prog 3 1 (fun n : Int => [.int .i64 n]) (okI .i64) := reads_int Try.underlying3 (by kernel_rfl)
theorem rd4 : Reads Try.prog 4 1 (fun b : Bool => [.bool b]) (fun _ => True) := reads_bool Try.underlying4 (by kernel_rfl)
theorem rd22 : Reads Try.prog 22 1 (fun l : List Int => [sl l]) (fun l => l.length ≤ 9223372036854775807 ∧ ∀ a ∈ l, okI .i64 a) :=
  (reads_slice Try.underlying22 (by kernel_rfl) (by omega) rd3).conv id _ _ (fun _ => rfl) (fun l => by simp only [sl, ints, id]; congr 2; induction l with | nil => rfl | cons a l ih => simp_all) (fun _ h => h)
theorem rd24 : Reads Try.prog 24 2 seasonC (fun s => s.speeds.length ≤ 9223372036854775807) :=
  (reads_struct Try.underlying24 (by kernel_rfl) (readsF_cons rfl rd22 (readsF_cons rfl rd4 readsF_nil))).conv (fun p => ⟨p.1, p.2.1⟩) _ _ (fun _ => rfl) (fun _ => rfl) (fun _ h => h.1.1)
theorem rd26 : Reads Try.prog 26 3 ruleC (fun _ => True) :=
  (reads_struct Try.underlying26 (by kernel_rfl) (readsF_cons rfl rd3 (readsF_cons rfl rd3 (readsF_cons rfl rd3 readsF_nil)))).conv (fun p => ⟨p.1, p.2.1, p.2.2.1⟩) _ _ (fun _ => rfl) (fun _ => rfl) (fun _ _ => trivial)
end Go.Am
