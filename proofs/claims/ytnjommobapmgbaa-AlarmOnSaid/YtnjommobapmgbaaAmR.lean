/- The abstract machine Am, part R: the rewriting that walks a region. -/
import Derived.Test.YtnjommobapmgbaaAmQ
namespace Go.Am
open Go.RowKit

/-- Not a step by definition: the kernel is not asked to unfold. -/
theorem nrfl {α : Sort _} {a b : α} (h : a = b) : a = b := h

section
variable {P : Program} {all : Array Oper} {os : List Oper} {T : List AV} {H : List (Option ABlk)} {D : List Nat} {tr : List E} {K : St → List E → Prop}
variable {d : Option Tmp} {op : Op} {ty : TypeId} {ps : String} {af : Array Edge} {j : Nat} {wn : Bool} {g : Option (Nat × Bool)}

/-- One operation that has its turn; a shut name, so that what follows is walked later. -/
def stepK (P : Program) (all : Array Oper) (op : Op) (d : Option Tmp) (os : List Oper) (T : List AV) (H : List (Option ABlk)) (D : List Nat) (tr : List E) (K : St → List E → Prop) : Prop :=
  effK P ⟨d, op, 0, "", #[], none⟩ (aev T) (hget H) H.length fun e => splitB e.val fun v => evOps P all os ⟨lseto T d v, hseto H e.wr, D⟩ (tr ++ [⟨v, e.rd, e.wr⟩]) K

def guardK (g : AV) (wn : Bool) (a b : Prop) : Prop :=
  match g with
  | .bool x => if x == wn then a else b
  | .tup _ => b
  | _ => False

/-- The value is there: on. -/
def goK (P : Program) (all : Array Oper) (d : Option Tmp) (os : List Oper) (T : List AV) (H : List (Option ABlk)) (D : List Nat) (tr : List E) (K : St → List E → Prop) (v : AV) (rd : List Nat) : Prop :=
  splitB v fun v => evOps P all os ⟨lseto T d v, H, D⟩ (tr ++ [⟨v, rd, none⟩]) K

theorem ev_nil {s : St} : evOps P all [] s tr K = K s tr := nrfl rfl
theorem ev_free : evOps P all (⟨d, op, ty, ps, af, none⟩ :: os) ⟨T, H, D⟩ tr K = stepK P all op d os T H D tr K := nrfl rfl
def gtmp : List Oper → Nat → Option Tmp
  | [], _ => none
  | o :: _, 0 => o.dst
  | _ :: l, n + 1 => gtmp l n
def gget (T : List AV) : Option Tmp → AV
  | none => .junk
  | some t => lget T t
theorem gtmp_is : ∀ (l : List Oper) (j : Nat), (l.toArray[j]?).bind (·.dst) = gtmp l j
  | [], _ => by simp [gtmp]
  | o :: l, 0 => by simp [gtmp]
  | o :: l, n + 1 => by simpa [gtmp] using gtmp_is l n
theorem ev_guard {l : List Oper} : evOps P l.toArray (⟨d, op, ty, ps, af, some (j, wn)⟩ :: os) ⟨T, H, D⟩ tr K = guardK (gget T (gtmp l j)) wn (stepK P l.toArray op d os T H D tr K) (evOps P l.toArray os ⟨lseto T d (.tup []), H, D⟩ (tr ++ [⟨.tup [], [], none⟩]) K) := by
  simp only [evOps, guardOf, gtmp_is, guardK]
  cases hg : gtmp l j with
  | none => rfl
  | some t =>
    simp only [gget]
    cases hg : lget T t
    case bool b => cases hb : (b == wn) <;> simp [hb] <;> rfl
    all_goals rfl
theorem gt_0 {l : List Oper} : gtmp (⟨d, op, ty, ps, af, g⟩ :: l) 0 = d := nrfl rfl
theorem gt_s {o : Oper} {l : List Oper} {n : Nat} : gtmp (o :: l) (n + 1) = gtmp l n := nrfl rfl
theorem gg_s {t : Tmp} : gget T (some t) = lget T t := nrfl rfl

theorem guardK_t {b : Bool} {x y : Prop} (h : b = wn) : guardK (.bool b) wn x y = x := by subst h; simp [guardK]
theorem guardK_u {xs : List AV} {x y : Prop} : guardK (.tup xs) wn x y = y := nrfl rfl
theorem guardK_tt {x y : Prop} : guardK (.bool true) true x y = x := nrfl rfl
theorem guardK_ff {x y : Prop} : guardK (.bool false) false x y = x := nrfl rfl
theorem guardK_tf {x y : Prop} : guardK (.bool true) false x y = y := nrfl rfl
theorem guardK_ft {x y : Prop} : guardK (.bool false) true x y = y := nrfl rfl

theorem go_int {k : IntKind} {n : Int} {rd : List Nat} : goK P all d os T H D tr K (.int k n) rd = evOps P all os ⟨lseto T d (.int k n), H, D⟩ (tr ++ [⟨.int k n, rd, none⟩]) K := nrfl rfl
theorem go_str {n : ByteArray} {rd : List Nat} : goK P all d os T H D tr K (.str n) rd = evOps P all os ⟨lseto T d (.str n), H, D⟩ (tr ++ [⟨.str n, rd, none⟩]) K := nrfl rfl
theorem go_nilp {rd : List Nat} : goK P all d os T H D tr K .nilp rd = evOps P all os ⟨lseto T d .nilp, H, D⟩ (tr ++ [⟨.nilp, rd, none⟩]) K := nrfl rfl
theorem go_nils {rd : List Nat} : goK P all d os T H D tr K .nils rd = evOps P all os ⟨lseto T d .nils, H, D⟩ (tr ++ [⟨.nils, rd, none⟩]) K := nrfl rfl
theorem go_nilm {rd : List Nat} : goK P all d os T H D tr K .nilm rd = evOps P all os ⟨lseto T d .nilm, H, D⟩ (tr ++ [⟨.nilm, rd, none⟩]) K := nrfl rfl
theorem go_nilf {rd : List Nat} : goK P all d os T H D tr K .nilf rd = evOps P all os ⟨lseto T d .nilf, H, D⟩ (tr ++ [⟨.nilf, rd, none⟩]) K := nrfl rfl
theorem go_psl {f : Bool} {n : Nat} {xs : List AV} {rd : List Nat} : goK P all d os T H D tr K (.psl f n xs) rd = evOps P all os ⟨lseto T d (.psl f n xs), H, D⟩ (tr ++ [⟨.psl f n xs, rd, none⟩]) K := nrfl rfl
theorem go_pptr {n : Nat} {xs : List AV} {rd : List Nat} : goK P all d os T H D tr K (.pptr xs n) rd = evOps P all os ⟨lseto T d (.pptr xs n), H, D⟩ (tr ++ [⟨.pptr xs n, rd, none⟩]) K := nrfl rfl
theorem go_fn {f : Fn} {xs ys : List AV} {rd : List Nat} : goK P all d os T H D tr K (.fn f xs ys) rd = evOps P all os ⟨lseto T d (.fn f xs ys), H, D⟩ (tr ++ [⟨.fn f xs ys, rd, none⟩]) K := nrfl rfl
theorem go_agg {xs : List AV} {rd : List Nat} : goK P all d os T H D tr K (.agg xs) rd = evOps P all os ⟨lseto T d (.agg xs), H, D⟩ (tr ++ [⟨.agg xs, rd, none⟩]) K := nrfl rfl
theorem go_tup {xs : List AV} {rd : List Nat} : goK P all d os T H D tr K (.tup xs) rd = evOps P all os ⟨lseto T d (.tup xs), H, D⟩ (tr ++ [⟨.tup xs, rd, none⟩]) K := nrfl rfl
theorem go_ptr {b g o : Nat} {rd : List Nat} : goK P all d os T H D tr K (.ptr b g o) rd = evOps P all os ⟨lseto T d (.ptr b g o), H, D⟩ (tr ++ [⟨.ptr b g o, rd, none⟩]) K := nrfl rfl
theorem go_osl {b g o l : Nat} {rd : List Nat} : goK P all d os T H D tr K (.osl b g o l) rd = evOps P all os ⟨lseto T d (.osl b g o l), H, D⟩ (tr ++ [⟨.osl b g o l, rd, none⟩]) K := nrfl rfl
theorem go_map {b : Nat} {rd : List Nat} : goK P all d os T H D tr K (.map b) rd = evOps P all os ⟨lseto T d (.map b), H, D⟩ (tr ++ [⟨.map b, rd, none⟩]) K := nrfl rfl
theorem go_junk {rd : List Nat} : goK P all d os T H D tr K .junk rd = evOps P all os ⟨lseto T d .junk, H, D⟩ (tr ++ [⟨.junk, rd, none⟩]) K := nrfl rfl
theorem go_true {rd : List Nat} : goK P all d os T H D tr K (.bool true) rd = evOps P all os ⟨lseto T d (.bool true), H, D⟩ (tr ++ [⟨.bool true, rd, none⟩]) K := by simp [goK, splitB]
theorem go_false {rd : List Nat} : goK P all d os T H D tr K (.bool false) rd = evOps P all os ⟨lseto T d (.bool false), H, D⟩ (tr ++ [⟨.bool false, rd, none⟩]) K := by simp [goK, splitB]
theorem go_decide {p : Prop} [Decidable p] {rd : List Nat} : goK P all d os T H D tr K (.bool (decide p)) rd = ((p → goK P all d os T H D tr K (.bool true) rd) ∧ (¬ p → goK P all d os T H D tr K (.bool false) rd)) := by
  simp [goK, splitB]
theorem go_ndecide {p : Prop} [Decidable p] {rd : List Nat} : goK P all d os T H D tr K (.bool (!decide p)) rd = ((p → goK P all d os T H D tr K (.bool false) rd) ∧ (¬ p → goK P all d os T H D tr K (.bool true) rd)) := by
  by_cases hp : p <;> simp [goK, splitB, hp]
theorem go_var {b : Bool} {rd : List Nat} : goK P all d os T H D tr K (.bool b) rd = ((b = true → goK P all d os T H D tr K (.bool true) rd) ∧ (b = false → goK P all d os T H D tr K (.bool false) rd)) := by
  cases b <;> simp [goK, splitB]

/-! ### The operations -/
theorem st_move {x : Operand} : stepK P all (.move x) d os T H D tr K = goK P all d os T H D tr K (aev T x) [] := nrfl rfl
theorem st_assign {x : Operand} : stepK P all (.assign x) d os T H D tr K = goK P all d os T H D tr K (aev T x) [] := nrfl rfl
def pickK (c : AV) (a b : Prop) : Prop := match c with | .bool true => a | .bool false => b | _ => False
theorem pick_t {a b : Prop} : pickK (.bool true) a b = a := nrfl rfl
theorem pick_f {a b : Prop} : pickK (.bool false) a b = b := nrfl rfl
theorem st_pick {c x y : Operand} : stepK P all (.pick c x y) d os T H D tr K = pickK (aev T c) (goK P all d os T H D tr K (aev T x) []) (goK P all d os T H D tr K (aev T y) []) := by
  simp only [stepK, effK, pickK]
  cases aev T c with
  | bool b => cases b <;> rfl
  | _ => rfl
theorem st_bin {o : BinOp} {t u : TypeId} {x y : Operand} : stepK P all (.binOp o t x y u) d os T H D tr K = binK P o t (aev T x) (aev T y) (fun v => goK P all d os T H D tr K v []) := nrfl rfl
theorem st_un {o : UnOp} {t : TypeId} {x : Operand} : stepK P all (.unOp o t x) d os T H D tr K = unK o (aev T x) (fun v => goK P all d os T H D tr K v []) := nrfl rfl

@[congr] theorem goK_congr {v v' : AV} {rd : List Nat} (h : v = v') : goK P all d os T H D tr K v rd = goK P all d os T H D tr K v' rd := by rw [h]
@[congr] theorem stepK_congr : stepK P all op d os T H D tr K = stepK P all op d os T H D tr K := nrfl rfl
@[congr] theorem pickK_congr {c c' : AV} {a b : Prop} (h : c = c') : pickK c a b = pickK c' a b := by rw [h]
@[congr] theorem guardK_congr {c c' : AV} {a b : Prop} (h : c = c') : guardK c wn a b = guardK c' wn a b := by rw [h]
@[congr] theorem binK_congr {o : BinOp} {t : TypeId} {x x' y y' : AV} {k : AV → Prop} (h : x = x') (h' : y = y') : binK P o t x y k = binK P o t x' y' k := by rw [h, h']
@[congr] theorem unK_congr {o : UnOp} {x x' : AV} {k : AV → Prop} (h : x = x') : unK o x k = unK o x' k := by rw [h]
@[congr] theorem evOps_congr {T T' : List AV} {H H' : List (Option ABlk)} (h : T = T') (h' : H = H') : evOps P all os ⟨T, H, D⟩ tr K = evOps P all os ⟨T', H', D⟩ tr K := by rw [h, h']

/-! ### Numbers -/
variable {k : IntKind} {a b : Int} {t : TypeId} {Kv : AV → Prop}
theorem bin_add : binK P .add t (.int .i64 a) (.int .i64 b) Kv = ((-9223372036854775808 ≤ a + b ∧ a + b ≤ 9223372036854775807) ∧ Kv (.int .i64 (a + b))) := by simp [binK, binInt, arith]
theorem bin_sub : binK P .sub t (.int .i64 a) (.int .i64 b) Kv = ((-9223372036854775808 ≤ a - b ∧ a - b ≤ 9223372036854775807) ∧ Kv (.int .i64 (a - b))) := by simp [binK, binInt, arith]
theorem bin_mul : binK P .mul t (.int .i64 a) (.int .i64 b) Kv = ((-9223372036854775808 ≤ a * b ∧ a * b ≤ 9223372036854775807) ∧ Kv (.int .i64 (a * b))) := by simp [binK, binInt, arith]
theorem bin_quo : binK P .quo t (.int .i64 a) (.int .i64 b) Kv = (b ≠ 0 ∧ (-9223372036854775808 ≤ a.tdiv b ∧ a.tdiv b ≤ 9223372036854775807) ∧ Kv (.int .i64 (a.tdiv b))) := by simp [binK, binInt, arith]
theorem bin_rem : binK P .rem t (.int k a) (.int k b) Kv = (b ≠ 0 ∧ Kv (.int k (a.tmod b))) := by simp [binK, binInt]
theorem bin_eql : binK P .eql t (.int k a) (.int k b) Kv = Kv (.bool (decide (a = b))) := by simp [binK, binInt]
theorem bin_neq : binK P .neq t (.int k a) (.int k b) Kv = Kv (.bool (!decide (a = b))) := by simp [binK, binInt]
theorem bin_lss : binK P .lss t (.int k a) (.int k b) Kv = Kv (.bool (decide (a < b))) := by simp [binK, binInt]
theorem bin_leq : binK P .leq t (.int k a) (.int k b) Kv = Kv (.bool (decide (a ≤ b))) := by simp [binK, binInt]
theorem bin_gtr : binK P .gtr t (.int k a) (.int k b) Kv = Kv (.bool (decide (b < a))) := by simp [binK, binInt]
theorem bin_geq : binK P .geq t (.int k a) (.int k b) Kv = Kv (.bool (decide (b ≤ a))) := by simp [binK, binInt]
theorem un_not {x : Bool} : unK .not (.bool x) Kv = Kv (.bool (!x)) := nrfl rfl
theorem un_neg : unK .neg (.int .i64 a) Kv = ((-9223372036854775808 ≤ 0 - a ∧ 0 - a ≤ 9223372036854775807) ∧ Kv (.int .i64 (0 - a))) := by simp [unK, arith]

theorem ae_tmp {n : Tmp} : aev T (.tmp n) = lget T n := nrfl rfl
theorem ae_int {n : Int} : aev T (.const (.int k n)) = .int k n := nrfl rfl
theorem ae_bool {n : Bool} : aev T (.const (.bool n)) = .bool n := nrfl rfl
theorem ae_nils : aev T (.const (.slice none 0 0)) = .nils := nrfl rfl
theorem ae_nilp : aev T (.const (.pointer none)) = .nilp := nrfl rfl
theorem ae_nilm : aev T (.const (.map none)) = .nilm := nrfl rfl
theorem ae_nilf : aev T (.const .nilFunc) = .nilf := nrfl rfl
theorem ae_func {f : FuncId} : aev T (.func f) = .fn (.func f) [] [] := nrfl rfl
theorem lg_0 {x : AV} {l : List AV} : lget (x :: l) 0 = x := nrfl rfl
theorem lg_s {x : AV} {l : List AV} {n : Nat} : lget (x :: l) (n + 1) = lget l n := nrfl rfl
theorem ls_0 {x y : AV} {l : List AV} : lset (x :: l) 0 y = y :: l := nrfl rfl
theorem ls_s {x y : AV} {l : List AV} {n : Nat} : lset (x :: l) (n + 1) y = x :: lset l n y := nrfl rfl
theorem lo_s {v : AV} {n : Tmp} : lseto T (some n) v = lset T n v := nrfl rfl
theorem lo_n {v : AV} : lseto T none v = T := nrfl rfl
theorem ho_n : hseto H none = H := nrfl rfl

attribute [go_sem] ev_nil ev_free guardK_u guardK_tt guardK_ff guardK_tf guardK_ft go_int go_str go_nilp go_nils go_nilm go_nilf go_psl go_pptr go_fn go_agg go_tup go_ptr go_osl go_map go_junk go_true go_false go_decide go_ndecide st_move st_assign pick_t pick_f st_pick st_bin st_un bin_add bin_sub bin_mul bin_quo bin_rem bin_eql bin_neq bin_lss bin_leq bin_gtr bin_geq un_not un_neg ae_tmp ae_int ae_bool ae_nils ae_nilp ae_nilm ae_nilf ae_func lg_0 lg_s ls_0 ls_s lo_s lo_n ho_n ev_guard gt_0 gt_s gg_s
end

end Go.Am
