/- The abstract machine Am, part S: the rewriting that walks a region: memory, calls, results. -/
import Derived.Test.YtnjommobapmgbaaAmR
namespace Go.Am
open Go.RowKit

def optK {α : Type} (o : Option α) (k : α → Prop) : Prop := match o with | some x => k x | none => False
@[congr] theorem optK_congr {α : Type} {o o' : Option α} {k : α → Prop} (h : o = o') : optK o k = optK o' k := by rw [h]
theorem opt_s {α : Type} {x : α} {k : α → Prop} : optK (some x) k = k x := nrfl rfl
def orK {α : Type} (o : Option α) (k : α → Prop) (n : Prop) : Prop := match o with | some x => k x | none => n
@[congr] theorem orK_congr {α : Type} {o o' : Option α} {k : α → Prop} {n : Prop} (h : o = o') : orK o k n = orK o' k n := by rw [h]
theorem or_s {α : Type} {x : α} {k : α → Prop} {n : Prop} : orK (some x) k n = k x := nrfl rfl
theorem or_n {α : Type} {k : α → Prop} {n : Prop} : orK none k n = n := nrfl rfl
/-- Cells that lead to nothing of one's own. -/
def pureL (xs : List AV) : Prop := ∀ x ∈ xs, cellPure x = true
theorem pl_n : pureL [] = True := by simp [pureL]
theorem pl_c {x : AV} {xs : List AV} : pureL (x :: xs) = (cellPure x = true ∧ pureL xs) := by simp [pureL]
def cellsK (o : Option ABlk) (g : Nat) (k : List AV → Prop) : Prop := match o with | some (.cells _ _ g' xs) => g = g' ∧ k xs | _ => False
@[congr] theorem cellsK_congr {o o' : Option ABlk} {g : Nat} {k : List AV → Prop} (h : o = o') : cellsK o g k = cellsK o' g k := by rw [h]
theorem cells_s {t : TypeId} {sz g : Nat} {xs : List AV} {k : List AV → Prop} : cellsK (some (.cells t sz g xs)) g k = k xs := by simp [cellsK]
def mapK (o : Option ABlk) (k : List (AV × AV) → Prop) : Prop := match o with | some (.map xs) => k xs | _ => False
@[congr] theorem mapK_congr {o o' : Option ABlk} {k : List (AV × AV) → Prop} (h : o = o') : mapK o k = mapK o' k := by rw [h]
theorem map_s {xs : List (AV × AV)} {k : List (AV × AV) → Prop} : mapK (some (.map xs)) k = k xs := nrfl rfl
def nth : List AV → Nat → Option AV
  | [], _ => none
  | x :: _, 0 => some x
  | _ :: l, n + 1 => nth l n
theorem nth_is : ∀ (l : List AV) (n : Nat), l[n]? = nth l n
  | [], _ => by simp [nth]
  | x :: l, 0 => by simp [nth]
  | x :: l, n + 1 => by simpa [nth] using nth_is l n
theorem nt_0 {x : AV} {l : List AV} : nth (x :: l) 0 = some x := nrfl rfl
theorem nt_s {x : AV} {l : List AV} {n : Nat} : nth (x :: l) (n + 1) = nth l n := nrfl rfl

section
variable {P : Program} {t : TypeId} {xs ys : List AV} {off n : Nat} {K : AV → Prop}
@[congr] theorem loadK_congr {off' : Nat} (h : off = off') : loadK P t xs off K = loadK P t xs off' K := by rw [h]
theorem ld_one (h : tagg P t = some false) (h' : (tsz P t).isSome = true) : loadK P t xs off K = optK (nth xs off) K := by
  simp only [loadK, h]
  cases hs : tsz P t with
  | none => simp [hs] at h'
  | some m =>
    simp only [nth_is]
    cases nth xs off <;> rfl
theorem ld_agg (h : tagg P t = some true) : loadK P t xs off K = optK (tsz P t) fun n => off + n ≤ xs.length ∧ K (.agg (window xs off n)) := by
  simp only [loadK, h]
  cases hs : tsz P t <;> rfl
theorem win_s {x : AV} : window (x :: xs) (off + 1) n = window xs off n := by simp [window]
theorem win_0 {x : AV} : window (x :: xs) 0 (n + 1) = x :: window xs 0 n := by simp [window]
theorem win_z : window xs 0 0 = [] := by simp [window]
theorem spl_s {x : AV} : splice (x :: xs) (off + 1) ys = x :: splice xs off ys := by
  simp [splice, show off + 1 + ys.length = off + ys.length + 1 by omega]
theorem spl_0 : splice xs 0 ys = ys ++ xs.drop ys.length := by simp [splice]
theorem hg_0 {x : Option ABlk} {l : List (Option ABlk)} : hget (x :: l) 0 = x := nrfl rfl
theorem hg_s {x : Option ABlk} {l : List (Option ABlk)} : hget (x :: l) (n + 1) = hget l n := nrfl rfl
theorem hs_0 {x : Option ABlk} {l : List (Option ABlk)} {k : ABlk} : hset (x :: l) 0 k = some k :: l := nrfl rfl
theorem hs_s {x : Option ABlk} {l : List (Option ABlk)} {k : ABlk} : hset (x :: l) (n + 1) k = x :: hset l n k := nrfl rfl
theorem hs_n {k : ABlk} : hset [] 0 k = [some k] := nrfl rfl
theorem co_int {k : IntKind} {n : Int} : cellsOf (.int k n) = some [.int k n] := nrfl rfl
theorem co_bool {b : Bool} : cellsOf (.bool b) = some [.bool b] := nrfl rfl
theorem co_nilp : cellsOf .nilp = some [.nilp] := nrfl rfl
theorem co_nils : cellsOf .nils = some [.nils] := nrfl rfl
theorem co_nilm : cellsOf .nilm = some [.nilm] := nrfl rfl
theorem co_nilf : cellsOf .nilf = some [.nilf] := nrfl rfl
theorem co_psl {f : Bool} : cellsOf (.psl f n xs) = some [.psl f n xs] := nrfl rfl
theorem co_pptr : cellsOf (.pptr xs n) = some [.pptr xs n] := nrfl rfl
theorem co_agg : cellsOf (.agg xs) = some xs := nrfl rfl
theorem co_ptr {b g o : Nat} : cellsOf (.ptr b g o) = some [.ptr b g o] := nrfl rfl
theorem co_osl {b g o l : Nat} : cellsOf (.osl b g o l) = some [.osl b g o l] := nrfl rfl
theorem co_map {b : Nat} : cellsOf (.map b) = some [.map b] := nrfl rfl
theorem co_fn {f : Fn} : cellsOf (.fn f xs ys) = some [.fn f xs ys] := nrfl rfl
theorem cp_int {k : IntKind} {n : Int} : cellPure (.int k n) = true := nrfl rfl
theorem cp_bool {b : Bool} : cellPure (.bool b) = true := nrfl rfl
theorem cp_nilp : cellPure .nilp = true := nrfl rfl
theorem cp_nils : cellPure .nils = true := nrfl rfl
theorem cp_nilm : cellPure .nilm = true := nrfl rfl
theorem cp_nilf : cellPure .nilf = true := nrfl rfl
theorem cp_psl {f : Bool} : cellPure (.psl f n xs) = true := nrfl rfl
theorem cp_pptr : cellPure (.pptr xs n) = true := nrfl rfl
theorem cp_fn {f : FuncId} : cellPure (.fn (.func f) [] []) = true := nrfl rfl
end

section
variable {P : Program} {all : Array Oper} {os : List Oper} {T : List AV} {H : List (Option ABlk)} {D : List Nat} {tr : List E} {K : St → List E → Prop} {d : Option Tmp}

theorem st_alloc {t : TypeId} : stepK P all (.alloc t) d os T H D tr K = optK (tzero P t) fun xs => pureL xs ∧ evOps P all os ⟨lseto T d (.ptr H.length 0 0), hset H H.length (.cells t 1 0 xs), D⟩ (tr ++ [⟨.ptr H.length 0 0, [], some (H.length, .cells t 1 0 xs)⟩]) K := by
  simp only [stepK, effK]
  cases tzero P t <;> rfl
theorem st_box {t : TypeId} {x : Operand} : stepK P all (.box t x) d os T H D tr K = optK (cellsOf (aev T x)) fun xs => evOps P all os ⟨lseto T d (.ptr H.length 0 0), hset H H.length (.cells t 1 0 xs), D⟩ (tr ++ [⟨.ptr H.length 0 0, [], some (H.length, .cells t 1 0 xs)⟩]) K := by
  simp only [stepK, effK]
  cases cellsOf (aev T x) <;> rfl

def fills (P : Program) (t : TypeId) (zs : List AV) (l : List (Nat × AV)) : Option (List AV) :=
  match tarr P t with
  | some (_, e) => (match tsz P e with
    | some sz => afill (fun i => some (i * sz, sz)) zs l
    | none => none)
  | none => (match tplaces P t with
    | some ps => afill (fun i => ps[i]?) zs l
    | none => none)
theorem st_build {t : TypeId} {parts : Array (Nat × Operand)} : stepK P all (.build t parts) d os T H D tr K = optK (tzero P t) fun zs => pureL zs ∧ optK (fills P t zs (parts.toList.map fun p => (p.1, aev T p.2))) fun xs => goK P all d os T H D tr K (.agg xs) [] := by
  simp only [stepK, effK, fills]
  cases tzero P t with
  | none => rfl
  | some zs =>
    simp only [optK, pureL]
    cases tarr P t with
    | none =>
      cases tplaces P t with
      | none => rfl
      | some ps => simp only []; cases afill (fun i => ps[i]?) zs (parts.toList.map fun p => (p.1, aev T p.2)) <;> rfl
    | some p =>
      obtain ⟨n, e⟩ := p
      simp only
      cases tsz P e with
      | none => rfl
      | some sz => simp only []; cases afill (fun i => some (i * sz, sz)) zs (parts.toList.map fun p => (p.1, aev T p.2)) <;> rfl

theorem st_buildSlice {t : TypeId} {len : Nat} {parts : Array (Nat × Operand)} : stepK P all (.buildSlice t len parts) d os T H D tr K = optK (tslice P t) fun e => optK (tsz P e) fun sz => optK (tzero P e) fun zs =>
    zs.length = sz ∧ 0 < sz ∧ len * sz ≤ 16777216 ∧ pureL zs ∧ optK (afill (fun i => some (i * sz, sz)) (List.replicate len zs).flatten (parts.toList.map fun p => (p.1, aev T p.2))) fun xs => pureL xs ∧ goK P all d os T H D tr K (.psl true len xs) [] := by
  simp only [stepK, effK]
  cases tslice P t with
  | none => rfl
  | some e =>
    simp only [optK]
    cases tsz P e with
    | none => rfl
    | some sz =>
      cases tzero P e with
      | none => rfl
      | some zs =>
        simp only [pureL]
        cases afill (fun i => some (i * sz, sz)) (List.replicate len zs).flatten (parts.toList.map fun p => (p.1, aev T p.2)) <;> rfl

def loadA (P : Program) (t : TypeId) (H : List (Option ABlk)) (p : AV) (k : AV → List Nat → Prop) : Prop :=
  match p with
  | .ptr b g off => cellsK (hget H b) g fun xs => loadK P t xs off fun v => k v [b]
  | .pptr xs i => loadK P t xs i fun v => k v []
  | _ => False
@[congr] theorem loadA_congr {t : TypeId} {p p' : AV} {k : AV → List Nat → Prop} (h : p = p') : loadA P t H p k = loadA P t H p' k := by rw [h]
theorem la_ptr {t : TypeId} {b g off : Nat} {k : AV → List Nat → Prop} : loadA P t H (.ptr b g off) k = cellsK (hget H b) g fun xs => loadK P t xs off fun v => k v [b] := nrfl rfl
theorem la_pptr {t : TypeId} {xs : List AV} {i : Nat} {k : AV → List Nat → Prop} : loadA P t H (.pptr xs i) k = loadK P t xs i fun v => k v [] := nrfl rfl
theorem st_load {t : TypeId} {a : Operand} : stepK P all (.load t a) d os T H D tr K = loadA P t H (aev T a) fun v rd => goK P all d os T H D tr K v rd := by
  simp only [stepK, effK]
  cases aev T a <;> try rfl

def storeA (P : Program) (t : TypeId) (H : List (Option ABlk)) (p v : AV) (k : Nat → ABlk → Prop) : Prop :=
  match p with
  | .ptr b g off => (match hget H b, cellsOf v with
    | some (.cells t' sz g' xs), some ys => g = g' ∧ some ys.length = tsz P t ∧ off + ys.length ≤ xs.length ∧ k b (.cells t' sz g' (splice xs off ys))
    | _, _ => False)
  | _ => False
def storeB (P : Program) (t : TypeId) (o : Option ABlk) (v : Option (List AV)) (b g off : Nat) (k : Nat → ABlk → Prop) : Prop :=
  match o, v with
    | some (.cells t' sz g' xs), some ys => g = g' ∧ some ys.length = tsz P t ∧ off + ys.length ≤ xs.length ∧ k b (.cells t' sz g' (splice xs off ys))
    | _, _ => False
@[congr] theorem storeA_congr {t : TypeId} {p p' v v' : AV} {k : Nat → ABlk → Prop} (h : p = p') (h' : v = v') : storeA P t H p v k = storeA P t H p' v' k := by rw [h, h']
@[congr] theorem storeB_congr {t : TypeId} {o o' : Option ABlk} {v v' : Option (List AV)} {b g off : Nat} {k : Nat → ABlk → Prop} (h : o = o') (h' : v = v') : storeB P t o v b g off k = storeB P t o' v' b g off k := by rw [h, h']
theorem sa_ptr {t : TypeId} {b g off : Nat} {v : AV} {k : Nat → ABlk → Prop} : storeA P t H (.ptr b g off) v k = storeB P t (hget H b) (cellsOf v) b g off k := nrfl rfl
theorem sb_s {t t' : TypeId} {b g off sz : Nat} {xs ys : List AV} {k : Nat → ABlk → Prop} : storeB P t (some (.cells t' sz g xs)) (some ys) b g off k = (some ys.length = tsz P t ∧ off + ys.length ≤ xs.length ∧ k b (.cells t' sz g (splice xs off ys))) := by simp [storeB]
theorem st_store {t : TypeId} {a x : Operand} : stepK P all (.store t a x) d os T H D tr K = storeA P t H (aev T a) (aev T x) fun b k => evOps P all os ⟨lseto T d .junk, hset H b k, D⟩ (tr ++ [⟨.junk, [], some (b, k)⟩]) K := by
  simp only [stepK, effK]
  cases aev T a <;> try rfl

def nilA (H : List (Option ABlk)) (p : AV) (k : AV → List Nat → Prop) : Prop :=
  match p with
  | .ptr b g off => cellsK (hget H b) g fun _ => k (.ptr b g off) [b]
  | .pptr xs i => k (.pptr xs i) []
  | _ => False
@[congr] theorem nilA_congr {p p' : AV} {k : AV → List Nat → Prop} (h : p = p') : nilA H p k = nilA H p' k := by rw [h]
theorem na_ptr {b g off : Nat} {k : AV → List Nat → Prop} : nilA H (.ptr b g off) k = cellsK (hget H b) g fun _ => k (.ptr b g off) [b] := nrfl rfl
theorem na_pptr {xs : List AV} {i : Nat} {k : AV → List Nat → Prop} : nilA H (.pptr xs i) k = k (.pptr xs i) [] := nrfl rfl
theorem st_nil {a : Operand} : stepK P all (.nilCheck a) d os T H D tr K = nilA H (aev T a) fun v rd => goK P all d os T H D tr K v rd := by
  simp only [stepK, effK]
  cases aev T a <;> try rfl

def fadr (H : List (Option ABlk)) (p : AV) (off : Nat) (k : AV → List Nat → Prop) : Prop :=
  match p with
  | .ptr b g o => cellsK (hget H b) g fun _ => k (.ptr b g (o + off)) [b]
  | .pptr xs i => k (.pptr xs (i + off)) []
  | _ => False
@[congr] theorem fadr_congr {p p' : AV} {off : Nat} {k : AV → List Nat → Prop} (h : p = p') : fadr H p off k = fadr H p' off k := by rw [h]
theorem fa_ptr {b g o off : Nat} {k : AV → List Nat → Prop} : fadr H (.ptr b g o) off k = cellsK (hget H b) g fun _ => k (.ptr b g (o + off)) [b] := nrfl rfl
theorem fa_pptr {xs : List AV} {i off : Nat} {k : AV → List Nat → Prop} : fadr H (.pptr xs i) off k = k (.pptr xs (i + off)) [] := nrfl rfl
theorem st_fieldAddr {s : TypeId} {x : Operand} {f : Nat} : stepK P all (.fieldAddr s x f) d os T H D tr K = optK (tfld P s f) fun p => optK (tsz P p.2) fun sz => 0 < sz ∧ fadr H (aev T x) p.1 fun v rd => goK P all d os T H D tr K v rd := by
  simp only [stepK, effK]
  cases tfld P s f with
  | none => rfl
  | some p =>
    simp only [optK]
    cases tsz P p.2 with
    | none => rfl
    | some sz =>
      cases aev T x <;> simp only [fadr, and_false] <;> try rfl

def aggK (x : AV) (k : List AV → Prop) : Prop := match x with | .agg xs => k xs | _ => False
@[congr] theorem aggK_congr {p p' : AV} {k : List AV → Prop} (h : p = p') : aggK p k = aggK p' k := by rw [h]
theorem ag_s {xs : List AV} {k : List AV → Prop} : aggK (.agg xs) k = k xs := nrfl rfl
theorem st_field {s : TypeId} {x : Operand} {f : Nat} : stepK P all (.field s x f) d os T H D tr K = optK (tfld P s f) fun p => aggK (aev T x) fun xs => loadK P p.2 xs p.1 fun v => goK P all d os T H D tr K v [] := by
  simp only [stepK, effK]
  cases tfld P s f with
  | none => rfl
  | some p => cases aev T x <;> rfl

def intK (x : AV) (k : Int → Prop) : Prop := match x with | .int _ n => k n | _ => False
@[congr] theorem intK_congr {p p' : AV} {k : Int → Prop} (h : p = p') : intK p k = intK p' k := by rw [h]
theorem in_s {kk : IntKind} {n : Int} {k : Int → Prop} : intK (.int kk n) k = k n := nrfl rfl
def slA (H : List (Option ABlk)) (x : AV) (sz : Nat) (i : Int) (k : AV → List Nat → Prop) : Prop :=
  match x with
  | .psl _ n xs => 0 ≤ i ∧ i < n ∧ 0 < xs.length ∧ k (.pptr xs (i.toNat * sz)) []
  | .osl b g off len => 0 ≤ i ∧ i < len ∧ cellsK (hget H b) g fun _ => k (.ptr b g (off + i.toNat * sz)) [b]
  | _ => False
@[congr] theorem slA_congr {p p' : AV} {sz : Nat} {i : Int} {k : AV → List Nat → Prop} (h : p = p') : slA H p sz i k = slA H p' sz i k := by rw [h]
theorem sl_psl {f : Bool} {n sz : Nat} {xs : List AV} {i : Int} {k : AV → List Nat → Prop} : slA H (.psl f n xs) sz i k = (0 ≤ i ∧ i < n ∧ 0 < xs.length ∧ k (.pptr xs (i.toNat * sz)) []) := nrfl rfl
theorem sl_osl {b g off len sz : Nat} {i : Int} {k : AV → List Nat → Prop} : slA H (.osl b g off len) sz i k = (0 ≤ i ∧ i < len ∧ cellsK (hget H b) g fun _ => k (.ptr b g (off + i.toNat * sz)) [b]) := nrfl rfl
def arA (H : List (Option ABlk)) (x : AV) (n sz : Nat) (i : Int) (k : AV → List Nat → Prop) : Prop :=
  match x with
  | .ptr b g off => 0 ≤ i ∧ i < n ∧ cellsK (hget H b) g fun _ => k (.ptr b g (off + i.toNat * sz)) [b]
  | .pptr xs o => 0 ≤ i ∧ i < n ∧ k (.pptr xs (o + i.toNat * sz)) []
  | _ => False
@[congr] theorem arA_congr {p p' : AV} {n sz : Nat} {i : Int} {k : AV → List Nat → Prop} (h : p = p') : arA H p n sz i k = arA H p' n sz i k := by rw [h]
theorem ar_ptr {b g off n sz : Nat} {i : Int} {k : AV → List Nat → Prop} : arA H (.ptr b g off) n sz i k = (0 ≤ i ∧ i < n ∧ cellsK (hget H b) g fun _ => k (.ptr b g (off + i.toNat * sz)) [b]) := nrfl rfl
theorem ar_pptr {o n sz : Nat} {xs : List AV} {i : Int} {k : AV → List Nat → Prop} : arA H (.pptr xs o) n sz i k = (0 ≤ i ∧ i < n ∧ k (.pptr xs (o + i.toNat * sz)) []) := nrfl rfl
theorem st_indexAddr {t : TypeId} {x i : Operand} : stepK P all (.indexAddr t x i) d os T H D tr K = intK (aev T i) fun i => orK (tslice P t) (fun e => optK (tsz P e) fun sz => slA H (aev T x) sz i fun v rd => goK P all d os T H D tr K v rd)
    (optK (tarr P t) fun p => optK (tsz P p.2) fun sz => arA H (aev T x) p.1 sz i fun v rd => goK P all d os T H D tr K v rd) := by
  simp only [stepK, effK]
  cases aev T i <;> try rfl
  case int kk i =>
    simp only [intK]
    cases tslice P t with
    | some e =>
      simp only [orK]
      cases tsz P e with
      | none => rfl
      | some sz =>
        cases aev T x <;> simp only [optK, slA] <;> try rfl
    | none =>
      simp only [orK]
      cases tarr P t with
      | none => rfl
      | some p =>
        obtain ⟨n, e⟩ := p
        simp only [optK]
        cases tsz P e with
        | none => rfl
        | some sz =>
          cases aev T x <;> simp only [arA] <;> try rfl

theorem st_index {t : TypeId} {x i : Operand} : stepK P all (.index t x i) d os T H D tr K = intK (aev T i) fun i => optK (tarr P t) fun p => aggK (aev T x) fun xs => optK (tsz P p.2) fun sz => 0 ≤ i ∧ i < p.1 ∧ loadK P p.2 xs (i.toNat * sz) fun v => goK P all d os T H D tr K v [] := by
  simp only [stepK, effK]
  cases aev T i <;> try rfl
  case int kk i =>
    simp only [intK]
    cases tarr P t with
    | none => rfl
    | some p =>
      obtain ⟨n, e⟩ := p
      simp only [optK]
      cases aev T x <;> simp only [aggK] <;> try rfl
      cases tsz P e <;> rfl

def tupK (x : AV) (i : Nat) (k : AV → Prop) : Prop := match x with | .tup xs => (match xs[i]? with | some v => k v | none => False) | _ => False
@[congr] theorem tupK_congr {p p' : AV} {i : Nat} {k : AV → Prop} (h : p = p') : tupK p i k = tupK p' i k := by rw [h]
theorem tu_s {xs : List AV} {i : Nat} {k : AV → Prop} : tupK (.tup xs) i k = optK (nth xs i) k := by simp only [tupK, nth_is]; cases nth xs i <;> rfl
theorem st_extract {x : Operand} {i : Nat} : stepK P all (.extract x i) d os T H D tr K = tupK (aev T x) i fun v => goK P all d os T H D tr K v [] := by
  simp only [stepK, effK]
  cases aev T x <;> simp only [tupK] <;> try rfl

theorem st_makeFunc {f : FuncId} {a b : Array Operand} : stepK P all (.makeFunc (.func f) a b) d os T H D tr K = goK P all d os T H D tr K (.fn (.func f) (a.toList.map (aev T)) (b.toList.map (aev T))) [] := by
  have : (∀ l, Fn.func f ≠ .yield l) ↔ True := ⟨fun _ => trivial, fun _ l h => by cases h⟩
  simp only [stepK, effK, this, true_and]
  rfl
theorem st_makeMap {t : TypeId} : stepK P all (.makeMap t none) d os T H D tr K = evOps P all os ⟨lseto T d (.map H.length), hset H H.length (.map []), D⟩ (tr ++ [⟨.map H.length, [], some (H.length, .map [])⟩]) K := nrfl rfl

def makA (l c : AV) (k : Int → Prop) : Prop := match l, c with | .int _ n, .int _ n' => n = n' ∧ 0 ≤ n ∧ k n | _, _ => False
@[congr] theorem makA_congr {l l' c c' : AV} {k : Int → Prop} (h : l = l') (h' : c = c') : makA l c k = makA l' c' k := by rw [h, h']
theorem mk_s {a b : IntKind} {n n' : Int} {k : Int → Prop} : makA (.int a n) (.int b n') k = (n = n' ∧ 0 ≤ n ∧ k n) := nrfl rfl
theorem st_makeSlice {t : TypeId} {l c : Operand} : stepK P all (.makeSlice t l c) d os T H D tr K = optK (tslice P t) fun e => optK (tsz P e) fun sz => optK (tbytes P e) fun by_ => optK (tzero P e) fun zs => zs.length = sz ∧ 0 < sz ∧ pureL zs ∧ makA (aev T l) (aev T c) fun n =>
    by_ * n.toNat ≤ 281474976710656 ∧ n.toNat ≤ 9223372036854775807 ∧ evOps P all os ⟨lseto T d (.osl H.length 0 0 n.toNat), hset H H.length (.cells e sz 0 (List.replicate n.toNat zs).flatten), D⟩ (tr ++ [⟨.osl H.length 0 0 n.toNat, [], some (H.length, .cells e sz 0 (List.replicate n.toNat zs).flatten)⟩]) K := by
  simp only [stepK, effK]
  cases tslice P t with
  | none => rfl
  | some e =>
    simp only [optK]
    cases tsz P e with
    | none => rfl
    | some sz =>
      cases tbytes P e with
      | none => rfl
      | some by_ =>
        cases tzero P e with
        | none => rfl
        | some zs =>
          simp only [makeK, makA, pureL]
          cases aev T l <;> cases aev T c <;> rfl

def cutA (sz : Nat) (x : AV) (lo hi : Option AV) (k : AV → Prop) : Prop := sliceK sz x lo hi k
@[congr] theorem cutA_congr {sz : Nat} {x x' : AV} {lo lo' hi hi' : Option AV} {k : AV → Prop} (h : x = x') (h1 : lo = lo') (h2 : hi = hi') : cutA sz x lo hi k = cutA sz x' lo' hi' k := by rw [h, h1, h2]
theorem cut_nn {sz n : Nat} {f : Bool} {xs : List AV} {k : AV → Prop} : cutA sz (.psl f n xs) none none k = (xs.length = n * sz ∧ k (.psl false n (window xs 0 (n * sz)))) := by
  simp only [cutA, sliceK, Option.getD]
  have e : ((n : Int) - 0).toNat = n := by omega
  rw [e]
  have : ((0:Int) ≤ 0) ∧ ((0 : Int) ≤ n) ∧ ((n : Int) ≤ n) := ⟨by omega, by omega, by omega⟩
  simp only [this, true_and, Int.toNat_zero, Nat.zero_mul]
theorem cut_nh {sz n : Nat} {f : Bool} {xs : List AV} {a : IntKind} {u : Int} {k : AV → Prop} : cutA sz (.psl f n xs) none (some (.int a u)) k = (0 ≤ u ∧ u ≤ n ∧ xs.length = n * sz ∧ k (.psl false u.toNat (window xs 0 (u.toNat * sz)))) := by
  simp only [cutA, sliceK, Option.getD, Int.sub_zero, Int.toNat_zero, Nat.zero_mul]
  have : ((0:Int) ≤ 0) = True := by simp
  simp only [this, true_and]
theorem cut_ln {sz n : Nat} {f : Bool} {xs : List AV} {a : IntKind} {l : Int} {k : AV → Prop} : cutA sz (.psl f n xs) (some (.int a l)) none k = (0 ≤ l ∧ l ≤ n ∧ xs.length = n * sz ∧ k (.psl false (n - l).toNat (window xs (l.toNat * sz) ((n - l).toNat * sz)))) := by
  simp only [cutA, sliceK, Option.getD, Int.le_refl, true_and]
theorem cut_lh {sz n : Nat} {f : Bool} {xs : List AV} {a b : IntKind} {l u : Int} {k : AV → Prop} : cutA sz (.psl f n xs) (some (.int a l)) (some (.int b u)) k = (0 ≤ l ∧ l ≤ u ∧ u ≤ n ∧ xs.length = n * sz ∧ k (.psl false (u - l).toNat (window xs (l.toNat * sz) ((u - l).toNat * sz)))) := nrfl rfl
theorem st_slice {t : TypeId} {x : Operand} {lo hi : Option Operand} : stepK P all (.slice t x lo hi none) d os T H D tr K = optK (tslice P t) fun e => optK (tsz P e) fun sz => cutA sz (aev T x) (lo.map (aev T)) (hi.map (aev T)) fun v => goK P all d os T H D tr K v [] := by
  simp only [stepK, effK]
  cases tslice P t with
  | none => rfl
  | some e =>
    simp only [optK]
    cases tsz P e <;> rfl
theorem om_s {x : Operand} : Option.map (aev T) (some x) = some (aev T x) := nrfl rfl
theorem om_n : Option.map (aev T) none = none := nrfl rfl

def convA (k : IntKind) (x : AV) (K : AV → Prop) : Prop := match x with | .int _ n => arith k n K | _ => False
@[congr] theorem convA_congr {k : IntKind} {x x' : AV} {K : AV → Prop} (h : x = x') : convA k x K = convA k x' K := by rw [h]
theorem cv_i64 {a : IntKind} {n : Int} {K : AV → Prop} : convA .i64 (.int a n) K = ((-9223372036854775808 ≤ n ∧ n ≤ 9223372036854775807) ∧ K (.int .i64 n)) := nrfl rfl
theorem cv_i8 {a : IntKind} {n : Int} {K : AV → Prop} : convA .i8 (.int a n) K = K (.int .i8 (IntKind.i8.wrap n)) := nrfl rfl
theorem cv_u8 {a : IntKind} {n : Int} {K : AV → Prop} : convA .u8 (.int a n) K = K (.int .u8 (IntKind.u8.wrap n)) := nrfl rfl
theorem cv_u16 {a : IntKind} {n : Int} {K : AV → Prop} : convA .u16 (.int a n) K = K (.int .u16 (IntKind.u16.wrap n)) := nrfl rfl
theorem cv_u32 {a : IntKind} {n : Int} {K : AV → Prop} : convA .u32 (.int a n) K = K (.int .u32 (IntKind.u32.wrap n)) := nrfl rfl
theorem cv_u64 {a : IntKind} {n : Int} {K : AV → Prop} : convA .u64 (.int a n) K = K (.int .u64 (IntKind.u64.wrap n)) := nrfl rfl
theorem st_convert {s t : TypeId} {x : Operand} : stepK P all (.convert s t x) d os T H D tr K = optK (tint P t) fun k => (P.underlying s).isSome = true ∧ convA k (aev T x) fun v => goK P all d os T H D tr K v [] := by
  simp only [stepK, effK]
  cases tint P t with
  | none => rfl
  | some k =>
    simp only [optK]
    cases aev T x <;> simp only [convA, and_false]
    cases k <;> rfl

/-! ### Calls -/
def callA (P : Program) (f : AV) (args : List AV) (K : AV → Prop) : Prop :=
  match f with
  | .fn (.func g) first caps => (∀ x ∈ first ++ args ++ caps, pureA x = true) ∧ CallK P g (first ++ args ++ caps) K
  | _ => False
def pureAs (xs : List AV) : Prop := ∀ x ∈ xs, pureA x = true
theorem pas_n : pureAs [] = True := by simp [pureAs]
theorem pas_c {x : AV} {xs : List AV} : pureAs (x :: xs) = (pureA x = true ∧ pureAs xs) := by simp [pureAs]
def aggPure : List AV → Bool
  | [] => true
  | x :: xs => cellPure x && aggPure xs
theorem aggPure_is : ∀ xs : List AV, xs.all cellPure = aggPure xs
  | [] => rfl
  | x :: xs => by simp [aggPure, aggPure_is xs]
theorem pa_agg {xs : List AV} : (pureA (.agg xs) = true) = pureL xs := by simp [pureA, pureL]
theorem pa_int {k : IntKind} {n : Int} : pureA (.int k n) = true := nrfl rfl
theorem pa_bool {b : Bool} : pureA (.bool b) = true := nrfl rfl
theorem pa_nils : pureA .nils = true := nrfl rfl
theorem pa_nilp : pureA .nilp = true := nrfl rfl
theorem pa_nilm : pureA .nilm = true := nrfl rfl
theorem pa_nilf : pureA .nilf = true := nrfl rfl
theorem pa_psl {f : Bool} {n : Nat} {xs : List AV} : pureA (.psl f n xs) = true := nrfl rfl
theorem pa_pptr {n : Nat} {xs : List AV} : pureA (.pptr xs n) = true := nrfl rfl
theorem pa_fn {f : FuncId} : pureA (.fn (.func f) [] []) = true := nrfl rfl
@[congr] theorem callA_congr {f f' : AV} {as as' : List AV} {k : AV → Prop} (h : f = f') (h' : as = as') : callA P f as k = callA P f' as' k := by rw [h, h']
@[congr] theorem CallK_congr {f : FuncId} {as as' : List AV} {k : AV → Prop} (h' : as = as') : CallK P f as k = CallK P f as' k := by rw [h']
theorem ca_fn {f : FuncId} {first caps as : List AV} {k : AV → Prop} : callA P (.fn (.func f) first caps) as k = (pureAs (first ++ as ++ caps) ∧ CallK P f (first ++ as ++ caps) k) := nrfl rfl
theorem st_call {f : Operand} {args : Array Operand} {ts : Array TypeId} : stepK P all (.call ⟨.value f, args, ts⟩) d os T H D tr K = callA P (aev T f) (args.toList.map (aev T)) fun v => goK P all d os T H D tr K v [] := by
  simp only [stepK, effK]
  cases aev T f <;> try rfl
theorem callK_of {f : FuncId} {as : List AV} {r : AV} {k : AV → Prop} (h : CallS P f as r) (hk : k r) : CallK P f as k := ⟨r, h, hk⟩

def lenA (P : Program) (t : TypeId) (H : List (Option ABlk)) (x : AV) (k : AV → List Nat → Prop) : Prop :=
  match x with
    | .psl _ n _ => (tslice P t).isSome = true ∧ k (.int .i64 n) []
    | .nils => (tslice P t).isSome = true ∧ k (.int .i64 0) []
    | .osl b g _ len => (tslice P t).isSome = true ∧ cellsK (hget H b) g fun _ => k (.int .i64 len) [b]
    | .map b => (tmap P t).isSome = true ∧ mapK (hget H b) fun es => k (.int .i64 es.length) [b]
    | _ => False
@[congr] theorem lenA_congr {t : TypeId} {x x' : AV} {k : AV → List Nat → Prop} (h : x = x') : lenA P t H x k = lenA P t H x' k := by rw [h]
theorem le_psl {t : TypeId} {f : Bool} {n : Nat} {xs : List AV} {k : AV → List Nat → Prop} : lenA P t H (.psl f n xs) k = ((tslice P t).isSome = true ∧ k (.int .i64 n) []) := nrfl rfl
theorem le_nils {t : TypeId} {k : AV → List Nat → Prop} : lenA P t H .nils k = ((tslice P t).isSome = true ∧ k (.int .i64 0) []) := nrfl rfl
theorem le_osl {t : TypeId} {b g off len : Nat} {k : AV → List Nat → Prop} : lenA P t H (.osl b g off len) k = ((tslice P t).isSome = true ∧ cellsK (hget H b) g fun _ => k (.int .i64 len) [b]) := nrfl rfl
theorem le_map {t : TypeId} {b : Nat} {k : AV → List Nat → Prop} : lenA P t H (.map b) k = ((tmap P t).isSome = true ∧ mapK (hget H b) fun es => k (.int .i64 es.length) [b]) := nrfl rfl
theorem st_len {x : Operand} {t : TypeId} : stepK P all (.call ⟨.builtin .len, #[x], #[t]⟩) d os T H D tr K = lenA P t H (aev T x) fun v rd => goK P all d os T H D tr K v rd := by
  simp only [stepK, effK, builtinK, List.map_cons, List.map_nil]
  cases aev T x <;> try rfl

def mmA (b : Bool) (x y : AV) (k : AV → Prop) : Prop := mm b [x, y] k
@[congr] theorem mmA_congr {b : Bool} {x x' y y' : AV} {k : AV → Prop} (h : x = x') (h' : y = y') : mmA b x y k = mmA b x' y' k := by rw [h, h']
theorem mm_max {a b : Int} {k : IntKind} {K : AV → Prop} : mmA true (.int k a) (.int k b) K = K (.int k (max a b)) := by
  have : (if b > a then b else a) = max a b := by omega
  simp [mmA, mm, this]
theorem mm_min {a b : Int} {k : IntKind} {K : AV → Prop} : mmA false (.int k a) (.int k b) K = K (.int k (min a b)) := by
  have : (if b < a then b else a) = min a b := by omega
  simp [mmA, mm, this]
theorem st_max {x y : Operand} {ts : Array TypeId} : stepK P all (.call ⟨.builtin .max, #[x, y], ts⟩) d os T H D tr K = mmA true (aev T x) (aev T y) fun v => goK P all d os T H D tr K v [] := by
  simp only [stepK, effK, builtinK]
  cases ts.toList with
  | nil => rfl
  | cons a l => rfl
theorem st_min {x y : Operand} {ts : Array TypeId} : stepK P all (.call ⟨.builtin .min, #[x, y], ts⟩) d os T H D tr K = mmA false (aev T x) (aev T y) fun v => goK P all d os T H D tr K v [] := by
  simp only [stepK, effK, builtinK]
  cases ts.toList with
  | nil => rfl
  | cons a l => rfl

def appA (H : List (Option ABlk)) (e : TypeId) (sz by_ : Nat) (s x : AV) (k : AV → Nat → ABlk → Prop) : Prop :=
  match x with
  | .psl _ n ys => ys.length = n * sz ∧ (match s with
    | .nils => n * by_ ≤ 140737488355328 ∧ n ≤ 9223372036854775807 ∧ k (.osl H.length 0 0 n) H.length (.cells e sz 0 ys)
    | .osl b g off len => (match hget H b with
      | some (.cells e' sz' g' xs) => g = g' ∧ off = 0 ∧ e' = e ∧ sz' = sz ∧ xs.length = len * sz ∧ (len + n) * by_ ≤ 140737488355328 ∧ len + n ≤ 9223372036854775807 ∧ k (.osl b (g + 1) 0 (len + n)) b (.cells e sz (g + 1) (xs ++ ys))
      | _ => False)
    | _ => False)
  | _ => False
def appB (o : Option ABlk) (e : TypeId) (sz by_ b g len n : Nat) (ys : List AV) (k : AV → Nat → ABlk → Prop) : Prop :=
  match o with
      | some (.cells e' sz' g' xs) => g = g' ∧ e' = e ∧ sz' = sz ∧ xs.length = len * sz ∧ (len + n) * by_ ≤ 140737488355328 ∧ len + n ≤ 9223372036854775807 ∧ k (.osl b (g + 1) 0 (len + n)) b (.cells e sz (g + 1) (xs ++ ys))
      | _ => False
@[congr] theorem appA_congr {e : TypeId} {sz by_ : Nat} {s s' x x' : AV} {k : AV → Nat → ABlk → Prop} (h : s = s') (h' : x = x') : appA H e sz by_ s x k = appA H e sz by_ s' x' k := by rw [h, h']
@[congr] theorem appB_congr {o o' : Option ABlk} {e : TypeId} {sz by_ b g len n : Nat} {ys : List AV} {k : AV → Nat → ABlk → Prop} (h : o = o') : appB o e sz by_ b g len n ys k = appB o' e sz by_ b g len n ys k := by rw [h]
theorem ap_nil {e : TypeId} {sz by_ n : Nat} {f : Bool} {ys : List AV} {k : AV → Nat → ABlk → Prop} : appA H e sz by_ .nils (.psl f n ys) k = (ys.length = n * sz ∧ n * by_ ≤ 140737488355328 ∧ n ≤ 9223372036854775807 ∧ k (.osl H.length 0 0 n) H.length (.cells e sz 0 ys)) := nrfl rfl
theorem ap_osl {e : TypeId} {sz by_ n b g len : Nat} {f : Bool} {ys : List AV} {k : AV → Nat → ABlk → Prop} : appA H e sz by_ (.osl b g 0 len) (.psl f n ys) k = (ys.length = n * sz ∧ appB (hget H b) e sz by_ b g len n ys k) := by
  simp only [appA, appB, true_and]
theorem ab_s {e : TypeId} {sz by_ n b g len : Nat} {xs ys : List AV} {k : AV → Nat → ABlk → Prop} : appB (some (.cells e sz g xs)) e sz by_ b g len n ys k = (xs.length = len * sz ∧ (len + n) * by_ ≤ 140737488355328 ∧ len + n ≤ 9223372036854775807 ∧ k (.osl b (g + 1) 0 (len + n)) b (.cells e sz (g + 1) (xs ++ ys))) := by
  simp [appB]
theorem st_append {s x : Operand} {t : TypeId} : stepK P all (.call ⟨.builtin .append, #[s, x], #[t, t]⟩) d os T H D tr K = optK (tslice P t) fun e => optK (tsz P e) fun sz => optK (tbytes P e) fun by_ => optK (tzero P e) fun zs => zs.length = sz ∧ 0 < sz ∧
    appA H e sz by_ (aev T s) (aev T x) fun v b k => evOps P all os ⟨lseto T d v, hset H b k, D⟩ (tr ++ [⟨v, [], some (b, k)⟩]) K := by
  simp only [stepK, effK, builtinK, List.map_cons, List.map_nil, true_and]
  cases tslice P t with
  | none => rfl
  | some e =>
    simp only [optK]
    cases tsz P e with
    | none => rfl
    | some sz =>
      cases tbytes P e with
      | none => rfl
      | some by_ =>
        cases tzero P e with
        | none => rfl
        | some zs =>
          cases aev T x <;> simp only [appA] <;> try rfl

end

/-! ### The ends -/
section
variable {P : Program} {s : St} {rs : List ResultVar} {R : AV → Prop} {T : List AV} {H : List (Option ABlk)} {D : List Nat} {k : List AV → Prop}
theorem rq_n : retQ P rs R .normal ⟨T, H, []⟩ = resK P ⟨T, H, []⟩ rs fun xs => outs (hget H) xs fun ys => R (finAV ys) := nrfl rfl
theorem rq_r : retQ P rs R .ret ⟨T, H, []⟩ = resK P ⟨T, H, []⟩ rs fun xs => outs (hget H) xs fun ys => R (finAV ys) := nrfl rfl
theorem rk_n : resK P s [] k = k [] := nrfl rfl
theorem rk_t {t : Tmp} : resK P ⟨T, H, D⟩ (.tmp t :: rs) k = resK P ⟨T, H, D⟩ rs fun xs => k (lget T t :: xs) := nrfl rfl
def cellA (P : Program) (H : List (Option ABlk)) (t : TypeId) (p : AV) (k : AV → Prop) : Prop :=
  match p with
  | .ptr b g off => cellsK (hget H b) g fun xs => loadK P t xs off k
  | _ => False
@[congr] theorem cellA_congr {t : TypeId} {p p' : AV} {k : AV → Prop} (h : p = p') : cellA P H t p k = cellA P H t p' k := by rw [h]
theorem cl_ptr {t : TypeId} {b g off : Nat} {k : AV → Prop} : cellA P H t (.ptr b g off) k = cellsK (hget H b) g fun xs => loadK P t xs off k := nrfl rfl
theorem rk_c {a : Tmp} {t : TypeId} : resK P ⟨T, H, D⟩ (.cell a t :: rs) k = cellA P H t (lget T a) fun v => resK P ⟨T, H, D⟩ rs fun vs => k (v :: vs) := by
  simp only [resK, cellA]
  cases lget T a <;> try rfl
variable {h : Nat → Option ABlk} {x y : AV} {xs ys : List AV} {kv : AV → Prop}
@[congr] theorem outs_congr {xs' : List AV} (e : xs = xs') : outs h xs k = outs h xs' k := by rw [e]
@[congr] theorem outL_congr {xs' : List AV} (e : xs = xs') : outL h xs k = outL h xs' k := by rw [e]
@[congr] theorem outA_congr {x' : AV} (e : x = x') : outA h x kv = outA h x' kv := by rw [e]
@[congr] theorem out1_congr {x' : AV} (e : x = x') : out1 h x kv = out1 h x' kv := by rw [e]
@[congr] theorem resK_congr : resK P s rs k = resK P s rs k := nrfl rfl
theorem os_n : outs h [] k = k [] := nrfl rfl
theorem os_c : outs h (x :: xs) k = outA h x fun y => outs h xs fun ys => k (y :: ys) := nrfl rfl
theorem ol_n : outL h [] k = k [] := nrfl rfl
theorem ol_c : outL h (x :: xs) k = out1 h x fun y => outL h xs fun ys => k (y :: ys) := nrfl rfl
theorem oa_agg : outA h (.agg xs) kv = outL h xs fun ys => kv (.agg ys) := nrfl rfl
theorem oa_int {kk : IntKind} {n : Int} : outA h (.int kk n) kv = kv (.int kk n) := by simp [outA, out1, cellPure]
theorem oa_bool {b : Bool} : outA h (.bool b) kv = kv (.bool b) := by simp [outA, out1, cellPure]
theorem oa_nils : outA h .nils kv = kv .nils := by simp [outA, out1, cellPure]
theorem oa_nilp : outA h .nilp kv = kv .nilp := by simp [outA, out1, cellPure]
theorem oa_nilm : outA h .nilm kv = kv .nilm := by simp [outA, out1, cellPure]
theorem oa_psl {f : Bool} {n : Nat} : outA h (.psl f n xs) kv = kv (.psl f n xs) := by simp [outA, out1, cellPure]
theorem oa_pptr {n : Nat} : outA h (.pptr xs n) kv = kv (.pptr xs n) := by simp [outA, out1, cellPure]
theorem o1_int {kk : IntKind} {n : Int} : out1 h (.int kk n) kv = kv (.int kk n) := by simp [out1, cellPure]
theorem o1_bool {b : Bool} : out1 h (.bool b) kv = kv (.bool b) := by simp [out1, cellPure]
theorem o1_nils : out1 h .nils kv = kv .nils := by simp [out1, cellPure]
theorem o1_psl {f : Bool} {n : Nat} : out1 h (.psl f n xs) kv = kv (.psl f n xs) := by simp [out1, cellPure]
theorem oa_osl {b g off len : Nat} : outA h (.osl b g off len) kv = out1 h (.osl b g off len) kv := nrfl rfl
def oslA (o : Option ABlk) (g len : Nat) (kv : AV → Prop) : Prop := cellsK o g fun xs => pureL xs ∧ kv (.psl false len xs)
@[congr] theorem oslA_congr {o o' : Option ABlk} {g len : Nat} (e : o = o') : oslA o g len kv = oslA o' g len kv := by rw [e]
theorem oslA_s {t : TypeId} {sz g len : Nat} : oslA (some (.cells t sz g xs)) g len kv = (pureL xs ∧ kv (.psl false len xs)) := by simp [oslA, cellsK]
theorem o1_osl {b g len : Nat} : out1 h (.osl b g 0 len) kv = oslA (h b) g len kv := by
  simp only [out1, oslA]
  cases h b with
  | none => rfl
  | some k => cases k <;> simp [cellsK, pureL]
theorem fi_1 : finAV [x] = x := nrfl rfl
theorem fi_0 : finAV [] = .tup [] := nrfl rfl
theorem fi_2 : finAV (x :: y :: xs) = .tup (x :: y :: xs) := nrfl rfl
variable [Base]
omit [Base] in
theorem then_n {K : St → Prop} {Q : Exit → St → Prop} {s : St} : thenQ K Q .normal s = K s := nrfl rfl
omit [Base] in
theorem then_r {K : St → Prop} {Q : Exit → St → Prop} {s : St} : thenQ K Q .ret s = Q .ret s := nrfl rfl
omit [Base] in
theorem then_e {K : St → Prop} {Q : Exit → St → Prop} {s : St} {i : Nat} : thenQ K Q (.exit i) s = Q (.exit i) s := nrfl rfl
omit [Base] in
theorem block_n {i : Nat} {Q : Exit → St → Prop} {s : St} : blockQ i Q .normal s = Q .normal s := nrfl rfl
omit [Base] in
theorem block_r {i : Nat} {Q : Exit → St → Prop} {s : St} : blockQ i Q .ret s = Q .ret s := nrfl rfl
omit [Base] in
theorem block_e {i j : Nat} {Q : Exit → St → Prop} {s : St} : blockQ i Q (.exit j) s = if j = i then Q .normal s else Q (.exit j) s := nrfl rfl
end
attribute [go_sem] opt_s or_s or_n pl_n pl_c cells_s map_s nt_0 nt_s ld_one ld_agg win_s win_0 win_z spl_s spl_0 hg_0 hg_s hs_0 hs_s hs_n co_int co_bool co_nilp co_nils co_nilm co_nilf co_psl co_pptr co_agg co_ptr co_osl co_map co_fn cp_int cp_bool cp_nilp cp_nils cp_nilm cp_nilf cp_psl cp_pptr cp_fn
  st_alloc st_box st_build st_buildSlice la_ptr la_pptr st_load sa_ptr sb_s st_store na_ptr na_pptr st_nil fa_ptr fa_pptr st_fieldAddr ag_s st_field in_s sl_psl sl_osl ar_ptr ar_pptr st_indexAddr st_index tu_s st_extract st_makeFunc st_makeMap mk_s st_makeSlice cut_nn cut_nh cut_ln cut_lh st_slice om_s om_n cv_i64 cv_i8 cv_u8 cv_u16 cv_u32 cv_u64 st_convert
  pas_n pas_c pa_agg pa_int pa_bool pa_nils pa_nilp pa_nilm pa_nilf pa_psl pa_pptr pa_fn ca_fn st_call le_psl le_nils le_osl le_map st_len mm_max mm_min st_max st_min ap_nil ap_osl ab_s st_append
  rq_n rq_r rk_n rk_t cl_ptr rk_c os_n os_c ol_n ol_c oa_agg oa_int oa_bool oa_nils oa_nilp oa_nilm oa_psl oa_pptr o1_int o1_bool o1_nils o1_psl oa_osl oslA_s o1_osl fi_1 fi_0 fi_2 then_n then_r then_e block_n block_r block_e fills afill
end Go.Am
