/- Structs and bools that are compared, in the walk. -/
import Derived.Test.YtnjommobapmgbaaTab
import Derived.Test.YtnjommobapmgbaaAmW
import Derived.Test.YtnjommobapmgbaaX7
namespace Go.Am
open Go.RowKit Go.Proofs
section
variable {P : Program} {t : TypeId} {K : AV → Prop} {k1 k2 k3 : IntKind} {a b c d e f : Int}
theorem bin_agg2 (h : tkb P t = some [false, false]) : binK P .eql t (.agg [.int k1 a, .int k2 b]) (.agg [.int k1 c, .int k2 d]) K = K (.bool (decide (a = c ∧ b = d))) := by
  have hs : scalEq [.int k1 a, .int k2 b] [.int k1 c, .int k2 d] = some (decide (a = c ∧ b = d)) := by simp [scalEq, Bool.decide_and]
  simp only [binK, hs, eq_true (eqOK (P := P) t), List.map_cons, List.map_nil, kindB, h, true_and]
theorem bin_agg2n (h : tkb P t = some [false, false]) : binK P .neq t (.agg [.int k1 a, .int k2 b]) (.agg [.int k1 c, .int k2 d]) K = K (.bool (!decide (a = c ∧ b = d))) := by
  have hs : scalEq [.int k1 a, .int k2 b] [.int k1 c, .int k2 d] = some (decide (a = c ∧ b = d)) := by simp [scalEq, Bool.decide_and]
  simp only [binK, hs, eq_true (eqOK (P := P) t), List.map_cons, List.map_nil, kindB, h, true_and]
theorem bin_agg3 (h : tkb P t = some [false, false, false]) : binK P .eql t (.agg [.int k1 a, .int k2 b, .int k3 e]) (.agg [.int k1 c, .int k2 d, .int k3 f]) K = K (.bool (decide (a = c ∧ b = d ∧ e = f))) := by
  have hs : scalEq [.int k1 a, .int k2 b, .int k3 e] [.int k1 c, .int k2 d, .int k3 f] = some (decide (a = c ∧ b = d ∧ e = f)) := by simp [scalEq, Bool.decide_and]
  simp only [binK, hs, eq_true (eqOK (P := P) t), List.map_cons, List.map_nil, kindB, h, true_and]
theorem bin_agg3n (h : tkb P t = some [false, false, false]) : binK P .neq t (.agg [.int k1 a, .int k2 b, .int k3 e]) (.agg [.int k1 c, .int k2 d, .int k3 f]) K = K (.bool (!decide (a = c ∧ b = d ∧ e = f))) := by
  have hs : scalEq [.int k1 a, .int k2 b, .int k3 e] [.int k1 c, .int k2 d, .int k3 f] = some (decide (a = c ∧ b = d ∧ e = f)) := by simp [scalEq, Bool.decide_and]
  simp only [binK, hs, eq_true (eqOK (P := P) t), List.map_cons, List.map_nil, kindB, h, true_and]
theorem bin_bool (h : P.underlying t = some .bool) {x y : Bool} : binK P .eql t (.bool x) (.bool y) K = K (.bool (decide (x = y))) := by
  simp only [binK, h, true_and]
  congr 2
theorem bin_booln (h : P.underlying t = some .bool) {x y : Bool} : binK P .neq t (.bool x) (.bool y) K = K (.bool (!decide (x = y))) := by
  simp only [binK, h, true_and]
  congr 2
end
theorem tkb42 : tkb Try.prog 42 = some [false, false] := by kernel_rfl
theorem tkb34 : tkb Try.prog 34 = some [false, false, false] := by kernel_rfl
theorem tkb58 : tkb Try.prog 58 = some [false, false, false] := by kernel_rfl
theorem tkb122 : tkb Try.prog 122 = some [false, false] := by kernel_rfl
theorem eq42 {K : AV → Prop} {a b c d : Int} : binK Try.prog .eql 42 (.agg [.int .i64 a, .int .i64 b]) (.agg [.int .i64 c, .int .i64 d]) K = K (.bool (decide (a = c ∧ b = d))) := bin_agg2 tkb42
theorem ne42 {K : AV → Prop} {a b c d : Int} : binK Try.prog .neq 42 (.agg [.int .i64 a, .int .i64 b]) (.agg [.int .i64 c, .int .i64 d]) K = K (.bool (!decide (a = c ∧ b = d))) := bin_agg2n tkb42
theorem eq122 {K : AV → Prop} {a b c d : Int} : binK Try.prog .eql 122 (.agg [.int .i64 a, .int .i64 b]) (.agg [.int .i64 c, .int .i64 d]) K = K (.bool (decide (a = c ∧ b = d))) := bin_agg2 tkb122
theorem eq34 {K : AV → Prop} {a b c d e f : Int} : binK Try.prog .eql 34 (.agg [.int .i64 a, .int .i64 b, .int .i64 e]) (.agg [.int .i64 c, .int .i64 d, .int .i64 f]) K = K (.bool (decide (a = c ∧ b = d ∧ e = f))) := bin_agg3 tkb34
theorem eq58 {K : AV → Prop} {a b c d e f : Int} : binK Try.prog .eql 58 (.agg [.int .i64 a, .int .i64 b, .int .u8 e]) (.agg [.int .i64 c, .int .i64 d, .int .u8 f]) K = K (.bool (decide (a = c ∧ b = d ∧ e = f))) := bin_agg3 tkb58
theorem ne58 {K : AV → Prop} {a b c d e f : Int} : binK Try.prog .neq 58 (.agg [.int .i64 a, .int .i64 b, .int .u8 e]) (.agg [.int .i64 c, .int .i64 d, .int .u8 f]) K = K (.bool (!decide (a = c ∧ b = d ∧ e = f))) := bin_agg3n tkb58
theorem eqB {K : AV → Prop} {x y : Bool} : binK Try.prog .eql 4 (.bool x) (.bool y) K = K (.bool (decide (x = y))) := bin_bool Try.underlying4
theorem neB {K : AV → Prop} {x y : Bool} : binK Try.prog .neq 4 (.bool x) (.bool y) K = K (.bool (!decide (x = y))) := bin_booln Try.underlying4
attribute [go_sem] eq42 ne42 eq122 eq34 eq58 ne58 eqB neB
end Go.Am
