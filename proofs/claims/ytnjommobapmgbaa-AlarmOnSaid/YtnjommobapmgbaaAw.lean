/- What the chapter shows (awake), by running it. -/
import Derived.Test.YtnjommobapmgbaaX7
import Derived.Test.YtnjommobapmgbaaProg
import Derived.KernelRfl
namespace Go.Am
open Go.RowKit Go.Proofs

def entA (g : FuncId) : Bool := Nat.ble 3 g && Nat.ble g 107
theorem entA_all : (List.range' 3 105).all (entB Try.prog) = true := by kernel_rfl
theorem entA_ok (g : FuncId) (h : entA g = true) : Enters Try.prog g := by
  simp only [entA, Bool.and_eq_true, Nat.ble_eq] at h
  refine enters_of ?_
  have := List.all_eq_true.1 entA_all g (by rw [List.mem_range']; exact ⟨g - 3, by omega, by omega⟩)
  exact this
theorem mixedA : Try.prog.follows .mixedOrders = true := by kernel_rfl
set_option maxRecDepth 100000 in
theorem awake_c : CallS Try.prog 17 [] (.bool true) :=
  callS_run (eqt := fun _ => true) (pm := fun g => !(Nat.beq g 72 || Nat.beq g 63)) (ent := entA) (lf := 2000) (n := 60) (fun t _ => eqOK t) entA_ok mixedA (by kernel_rfl)
end Go.Am
