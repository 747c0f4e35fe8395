/- The abstract machine Am, part B: what each operation of the model does to abstract values and blocks (effK), the contracts of calls (CallS). -/
import Derived.Test.YtnjommobapmgbaaAmA
import Derived.Laws.Tables
import Derived.Laws.CopyRow
import Derived.Laws.AppendOwn
import Derived.Laws.StructEq
import Derived.Laws.Cells
namespace Go.Am
open Go.RowKit

/-- The fence that lets everything in; r: the loop whose round this is. -/
def FW (r : Option Nat) : Fence := { fn := fun _ => True, depth := none, alive := false, round := r }

def lget : List AV → Nat → AV
  | [], _ => .junk
  | x :: _, 0 => x
  | _ :: t, n + 1 => lget t n

def lset : List AV → Nat → AV → List AV
  | [], _, _ => []
  | _ :: t, 0, y => y :: t
  | x :: t, n + 1, y => x :: lset t n y

def constAV : Value → AV
  | .bool b => .bool b
  | .int k n => .int k n
  | .string s => .str s
  | .pointer none => .nilp
  | .slice none 0 0 => .nils
  | .map none => .nilm
  | .nilFunc => .nilf
  | _ => .junk

def aev (T : List AV) : Operand → AV
  | .tmp t => lget T t
  | .const v => constAV v
  | .global _ => .junk
  | .func f => .fn (.func f) [] []

/-- The cells of a value. -/
def cellsOf : AV → Option (List AV)
  | .agg xs => some xs
  | .tup _ => none
  | .junk => none
  | .int k n => some [.int k n]
  | .bool b => some [.bool b]
  | .str s => some [.str s]
  | .nilp => some [.nilp]
  | .nils => some [.nils]
  | .nilm => some [.nilm]
  | .nilf => some [.nilf]
  | .psl f n xs => some [.psl f n xs]
  | .pptr xs i => some [.pptr xs i]
  | .fn f xs ys => some [.fn f xs ys]
  | .ptr b g o => some [.ptr b g o]
  | .osl b g o l => some [.osl b g o l]
  | .map b => some [.map b]

/-- A cell that leads to nothing that the call itself has made. -/
def cellPure : AV → Bool
  | .int _ _ => true
  | .bool _ => true
  | .str _ => true
  | .nilp => true
  | .nils => true
  | .nilm => true
  | .nilf => true
  | .psl _ _ _ => true
  | .pptr _ _ => true
  | .fn (.func _) xs ys => xs.isEmpty && ys.isEmpty
  | .fn (.method _) _ _ => false
  | .fn (.methodOf _ _) _ _ => false
  | .fn (.via _ _ _ _) _ _ => false
  | .fn (.yield _) _ _ => false
  | .agg _ => false
  | .tup _ => false
  | .ptr _ _ _ => false
  | .osl _ _ _ _ => false
  | .map _ => false
  | .junk => false

/-- Tables of the program. -/
def tsz (P : Program) (t : TypeId) : Option Nat := (P.info? t).map (·.size)
def tagg (P : Program) (t : TypeId) : Option Bool := (P.underlying t).map fun d => match d with | .struct _ | .array _ _ => true | _ => false
def tint (P : Program) (t : TypeId) : Option IntKind := (P.underlying t).bind fun d => match d with | .int k => some k | _ => none
def tslice (P : Program) (t : TypeId) : Option TypeId := (P.underlying t).bind fun d => match d with | .slice e => some e | _ => none
def tarr (P : Program) (t : TypeId) : Option (Nat × TypeId) := (P.underlying t).bind fun d => match d with | .array n e => some (n, e) | _ => none
def tmap (P : Program) (t : TypeId) : Option (TypeId × TypeId) := (P.underlying t).bind fun d => match d with | .map k e => some (k, e) | _ => none
def tfld (P : Program) (t : TypeId) (f : Nat) : Option (Nat × TypeId) := (P.underlying t).bind fun d => match d with | .struct fs => (fs[f]?).map fun x => (x.offset, x.type) | _ => none
def tbytes (P : Program) (t : TypeId) : Option Nat := (P.info? t).map (·.bytes)
def tplaces (P : Program) (t : TypeId) : Option (List (Nat × Nat)) := (P.underlying t).bind fun d => match d with | .struct fs => fs.toList.mapM (fun f => (P.info? f.type).map fun i => (f.offset, i.size)) | _ => none
/-- The zero value's cells, as abstract values. -/
def tzero (P : Program) (t : TypeId) : Option (List AV) := ((P.info? t).bind (·.zero)).map fun v => v.cells.toList.map constAV

def zeroAV : Value → AV
  | .agg cs => .agg (cs.toList.map constAV)
  | v => constAV v
def zeroOK : AV → Bool
  | .agg xs => xs.all cellPure
  | x => cellPure x
/-- The zero value. -/
def tzv (P : Program) (t : TypeId) : Option AV := ((P.info? t).bind (·.zero)).map zeroAV

/-- A pure call: it reads its arguments, leaves what lay there as it was, and hands back r in new memory. -/
def Enters (P : Program) (f : FuncId) : Prop := ∀ (w : World) (args : Array Value), (callFunc f args).run P w = .ok (.enter f args) w

def CallS (P : Program) (f : FuncId) (args : List AV) (r : AV) : Prop :=
  Enters P f ∧ ∀ (w : World) (vs : List Value) (ok : Nat → Prop), (∀ c, ok c → c < w.heap.size) → args.length = vs.length → (∀ j (h : j < args.length) (h' : j < vs.length), PRep ok w args[j] vs[j]) →
    CallsIn (FW none) 0 P f vs.toArray w fun e w' => ∃ v, e = .returned v ∧ PRep (fun c => ok c ∨ (w.heap.size ≤ c ∧ c < w'.heap.size)) w' r v ∧ Below w.heap.size w w'

def CallK (P : Program) (f : FuncId) (args : List AV) (K : AV → Prop) : Prop := ∃ r, CallS P f args r ∧ K r

/-- What an operation leaves: its value, the blocks that it looked into, the block that it wrote. -/
structure E where
  val : AV
  rd : List Nat
  wr : Option (Nat × ABlk)

def updo (h : Nat → Option ABlk) : Option (Nat × ABlk) → Nat → Option ABlk
  | none => h
  | some (b, k) => upd h b (some k)

def arith (k : IntKind) (r : Int) (K : AV → Prop) : Prop :=
  match k with
  | .i64 => (-9223372036854775808 ≤ r ∧ r ≤ 9223372036854775807) ∧ K (.int .i64 r)
  | .i8 => K (.int .i8 (IntKind.i8.wrap r))
  | .i16 => K (.int .i16 (IntKind.i16.wrap r))
  | .i32 => K (.int .i32 (IntKind.i32.wrap r))
  | .u8 => K (.int .u8 (IntKind.u8.wrap r))
  | .u16 => K (.int .u16 (IntKind.u16.wrap r))
  | .u32 => K (.int .u32 (IntKind.u32.wrap r))
  | .u64 => K (.int .u64 (IntKind.u64.wrap r))

def bits (op : BinOp) (k : IntKind) (a b : Int) (K : AV → Prop) : Prop :=
  match op with
  | .and => K (.int k (k.wrap (BitVec.ofInt k.bits a &&& BitVec.ofInt k.bits b).toNat))
  | .or => K (.int k (k.wrap (BitVec.ofInt k.bits a ||| BitVec.ofInt k.bits b).toNat))
  | .xor => K (.int k (k.wrap (BitVec.ofInt k.bits a ^^^ BitVec.ofInt k.bits b).toNat))
  | .andNot => K (.int k (k.wrap (BitVec.ofInt k.bits a &&& ~~~ BitVec.ofInt k.bits b).toNat))
  | _ => False

def binInt (op : BinOp) (k k' : IntKind) (a b : Int) (K : AV → Prop) : Prop :=
  match op with
  | .shl => 0 ≤ b ∧ K (.int k (k.wrap (a * 2 ^ (min b.toNat k.bits))))
  | .shr => 0 ≤ b ∧ K (.int k (a.fdiv (2 ^ (min b.toNat k.bits))))
  | .add => k = k' ∧ arith k (a + b) K
  | .sub => k = k' ∧ arith k (a - b) K
  | .mul => k = k' ∧ arith k (a * b) K
  | .quo => k = k' ∧ b ≠ 0 ∧ arith k (a.tdiv b) K
  | .rem => k = k' ∧ b ≠ 0 ∧ K (.int k (a.tmod b))
  | .and => k = k' ∧ bits .and k a b K
  | .or => k = k' ∧ bits .or k a b K
  | .xor => k = k' ∧ bits .xor k a b K
  | .andNot => k = k' ∧ bits .andNot k a b K
  | .eql => k = k' ∧ K (.bool (decide (a = b)))
  | .neq => k = k' ∧ K (.bool (!decide (a = b)))
  | .lss => k = k' ∧ K (.bool (decide (a < b)))
  | .leq => k = k' ∧ K (.bool (decide (a ≤ b)))
  | .gtr => k = k' ∧ K (.bool (decide (b < a)))
  | .geq => k = k' ∧ K (.bool (decide (b ≤ a)))

/-- Are two lists of numbers and bools the same? -/
def scalEq : List AV → List AV → Option Bool
  | [], [] => some true
  | .int k a :: xs, .int k' b :: ys => if k = k' then (scalEq xs ys).map (decide (a = b) && ·) else none
  | .bool a :: xs, .bool b :: ys => (scalEq xs ys).map ((a == b) && ·)
  | _, _ => none

def scalVal : AV → Option Value
  | .int k n => some (.int k n)
  | .bool b => some (.bool b)
  | _ => none

def kindB : AV → Bool
  | .bool _ => true
  | _ => false
def flatF (f : TypeId → Option (List Bool)) : List Field → Nat → Option (List Bool)
  | [], _ => some []
  | fd :: fs, off => if (fd.name != "_") = true ∧ fd.offset = off then (match f fd.type with
    | some l => (flatF f fs (off + l.length)).map (l ++ ·)
    | none => none) else none
/-- The cells of a type that is made of numbers (false) and bools (true) alone. -/
def flatT (P : Program) : Nat → TypeId → Option (List Bool)
  | 0, _ => none
  | d + 1, t => match P.underlying t with
    | some (.int _) => if tagg P t = some false ∧ tsz P t = some 1 then some [false] else none
    | some .bool => if tagg P t = some false ∧ tsz P t = some 1 then some [true] else none
    | some (.struct fs) => if P.stoodInHeld t = false ∧ tagg P t = some true then (match flatF (flatT P d) fs.toList 0 with
      | some l => if tsz P t = some l.length then some l else none
      | none => none) else none
    | some (.array n e) => if tagg P t = some true then (match flatT P d e with
      | some l => if tsz P t = some (n * l.length) then some (List.replicate n l).flatten else none
      | none => none) else none
    | _ => none
def tkb (P : Program) (t : TypeId) : Option (List Bool) := if P.eqGuardType P.depth t = false ∧ tagg P t = some true then flatT P 8 t else none

/-- A type whose equality is that of its cells, each a number or a bool. -/
def EqOK (P : Program) (t : TypeId) : Prop :=
  (∀ bs, tkb P t = some bs → P.eqGuardType P.depth t = false) ∧ ∀ (xs ys : List AV) (us vs : List Value) (b : Bool) (w : World), xs.mapM scalVal = some us → ys.mapM scalVal = some vs → tkb P t = some (xs.map kindB) → tkb P t = some (ys.map kindB) → scalEq xs ys = some b →
    (Op.equalIn 10000 t (.agg us.toArray) (.agg vs.toArray)).run P w = .ok b w

def binK (P : Program) (op : BinOp) (t : TypeId) (x y : AV) (K : AV → Prop) : Prop :=
  match x, y with
  | .int k a, .int k' b => binInt op k k' a b K
  | .bool a, .bool b => (match op with
    | .eql => P.underlying t = some .bool ∧ K (.bool (a == b))
    | .neq => P.underlying t = some .bool ∧ K (.bool (!(a == b)))
    | _ => False)
  | .agg xs, .agg ys => EqOK P t ∧ tkb P t = some (xs.map kindB) ∧ tkb P t = some (ys.map kindB) ∧ (match scalEq xs ys with
    | some b => (match op with
      | .eql => K (.bool b)
      | .neq => K (.bool (!b))
      | _ => False)
    | none => False)
  | _, _ => False

def unK (op : UnOp) (x : AV) (K : AV → Prop) : Prop :=
  match op, x with
  | .neg, .int k n => arith k (0 - n) K
  | .not, .bool b => K (.bool (!b))
  | _, _ => False

/-- Cells off on from a list. -/
def window (xs : List AV) (off n : Nat) : List AV := (xs.drop off).take n

def splice (xs : List AV) (off : Nat) (ys : List AV) : List AV := xs.take off ++ ys ++ xs.drop (off + ys.length)

/-- One cell, or a struct's. -/
def loadK (P : Program) (t : TypeId) (xs : List AV) (off : Nat) (K : AV → Prop) : Prop :=
  match tagg P t, tsz P t with
  | some true, some n => off + n ≤ xs.length ∧ K (.agg (window xs off n))
  | some false, some _ => (match xs[off]? with
    | some x => K x
    | none => False)
  | _, _ => False

def afill (place : Nat → Option (Nat × Nat)) : List AV → List (Nat × AV) → Option (List AV)
  | cells, [] => some cells
  | cells, (i, x) :: rest =>
    match place i, cellsOf x with
    | some (off, size), some xs => if xs.length = size ∧ off + size ≤ cells.length then afill place (splice cells off xs) rest else none
    | _, _ => none

/-- A value that leads to nothing that the call itself has made. -/
def pureA : AV → Bool
  | .agg xs => xs.all cellPure
  | .fn (.func _) xs ys => xs.all cellPure && ys.all cellPure
  | x => cellPure x

/-- The abstract value of a fold by max or min. -/
def mm (isMax : Bool) : List AV → (AV → Prop) → Prop
  | [.int k a], K => K (.int k a)
  | [.int k a, .int k' b], K => k = k' ∧ K (.int k (if isMax then (if b > a then b else a) else (if b < a then b else a)))
  | _, _ => False

def mapFind : List (AV × AV) → AV → Option (Option (Nat × AV))
  | [], _ => some none
  | (.int k a, v) :: es, .int k' b => if k = k' then (if a = b then some (some (0, v)) else (mapFind es (.int k' b)).map (·.map fun p => (p.1 + 1, p.2))) else none
  | _, _ => none

def builtinK (P : Program) (b : Builtin) (ts : Array TypeId) (args : List AV) (h : Nat → Option ABlk) (nx : Nat) (K : E → Prop) : Prop :=
  match b, ts.toList, args with
  | .len, [t], [x] => (match x with
    | .psl _ n _ => (tslice P t).isSome = true ∧ K ⟨.int .i64 n, [], none⟩
    | .nils => (tslice P t).isSome = true ∧ K ⟨.int .i64 0, [], none⟩
    | .osl b g _ len => (tslice P t).isSome = true ∧ (match h b with
      | some (.cells _ _ g' _) => g = g' ∧ K ⟨.int .i64 len, [b], none⟩
      | _ => False)
    | .map b => (tmap P t).isSome = true ∧ (match h b with
      | some (.map es) => K ⟨.int .i64 es.length, [b], none⟩
      | _ => False)
    | _ => False)
  | .max, _, xs => mm true xs fun v => K ⟨v, [], none⟩
  | .min, _, xs => mm false xs fun v => K ⟨v, [], none⟩
  | .append, [t, t'], [s, x] => t = t' ∧ (match tslice P t with
    | some e => (match tsz P e, tbytes P e, tzero P e with
      | some sz, some by_, some zs => zs.length = sz ∧ 0 < sz ∧ (match x with
        | .psl _ n ys => ys.length = n * sz ∧ (match s with
          | .nils => n * by_ ≤ 140737488355328 ∧ n ≤ 9223372036854775807 ∧ K ⟨.osl nx 0 0 n, [], some (nx, .cells e sz 0 ys)⟩
          | .osl b g off len => (match h b with
            | some (.cells e' sz' g' xs) => g = g' ∧ off = 0 ∧ e' = e ∧ sz' = sz ∧ xs.length = len * sz ∧ (len + n) * by_ ≤ 140737488355328 ∧ len + n ≤ 9223372036854775807 ∧
                K ⟨.osl b (g + 1) 0 (len + n), [], some (b, .cells e sz (g + 1) (xs ++ ys))⟩
            | _ => False)
          | _ => False)
        | _ => False)
      | _, _, _ => False)
    | none => False)
  | .delete, [t, _], [mp, k] => (match mp with
    | .map b => (match tmap P t, h b with
      | some (kt, _), some (.map es) => (tint P kt).isSome = true ∧ (match k with
        | .int kk n => (match mapFind es (.int kk n) with
          | some (some (i, _)) => K ⟨.junk, [], some (b, .map (es.eraseIdx i))⟩
          | some none => K ⟨.junk, [], some (b, .map es)⟩
          | none => False)
        | _ => False)
      | _, _ => False)
    | _ => False)
  | _, _, _ => False

def makeK (l c : AV) (K : Nat → Prop) : Prop :=
  match l, c with
  | .int _ n, .int _ n' => n = n' ∧ 0 ≤ n ∧ K n.toNat
  | _, _ => False

def sliceK (sz : Nat) (x : AV) (lo hi : Option AV) (K : AV → Prop) : Prop :=
  match x with
  | .psl _ n xs => (match lo.getD (.int .i64 0) with
    | .int _ l => (match hi.getD (.int .i64 n) with
      | .int _ u => 0 ≤ l ∧ l ≤ u ∧ u ≤ n ∧ xs.length = n * sz ∧ K (.psl false (u - l).toNat (window xs (l.toNat * sz) ((u - l).toNat * sz)))
      | _ => False)
    | _ => False)
  | _ => False

/-- What an operation does. -/
def effK (P : Program) (o : Oper) (ρ : Operand → AV) (h : Nat → Option ABlk) (nx : Nat) (K : E → Prop) : Prop :=
  match o.op with
  | .move x => K ⟨ρ x, [], none⟩
  | .assign x => K ⟨ρ x, [], none⟩
  | .pick c a b => (match ρ c with
    | .bool true => K ⟨ρ a, [], none⟩
    | .bool false => K ⟨ρ b, [], none⟩
    | _ => False)
  | .alloc t => (match tzero P t with
    | some xs => (∀ x ∈ xs, cellPure x = true) ∧ K ⟨.ptr nx 0 0, [], some (nx, .cells t 1 0 xs)⟩
    | none => False)
  | .box t x => (match cellsOf (ρ x) with
    | some xs => K ⟨.ptr nx 0 0, [], some (nx, .cells t 1 0 xs)⟩
    | none => False)
  | .build t parts => (match tzero P t with
    | some zs => (∀ x ∈ zs, cellPure x = true) ∧ (match tarr P t with
      | some (_, e) => (match tsz P e with
        | some sz => (match afill (fun i => some (i * sz, sz)) zs (parts.toList.map fun p => (p.1, ρ p.2)) with
          | some xs => K ⟨.agg xs, [], none⟩
          | none => False)
        | none => False)
      | none => (match tplaces P t with
        | some ps => (match afill (fun i => ps[i]?) zs (parts.toList.map fun p => (p.1, ρ p.2)) with
          | some xs => K ⟨.agg xs, [], none⟩
          | none => False)
        | none => False))
    | none => False)
  | .buildSlice t len parts => (match tslice P t with
    | some e => (match tsz P e, tzero P e with
      | some sz, some zs => zs.length = sz ∧ 0 < sz ∧ len * sz ≤ 16777216 ∧ (∀ x ∈ zs, cellPure x = true) ∧ (match afill (fun i => some (i * sz, sz)) (List.replicate len zs).flatten (parts.toList.map fun p => (p.1, ρ p.2)) with
        | some xs => (∀ x ∈ xs, cellPure x = true) ∧ K ⟨.psl true len xs, [], none⟩
        | none => False)
      | _, _ => False)
    | none => False)
  | .load t a => (match ρ a with
    | .ptr b g off => (match h b with
      | some (.cells _ _ g' xs) => g = g' ∧ loadK P t xs off fun v => K ⟨v, [b], none⟩
      | _ => False)
    | .pptr xs i => loadK P t xs i fun v => K ⟨v, [], none⟩
    | _ => False)
  | .store t a x => (match ρ a with
    | .ptr b g off => (match h b, cellsOf (ρ x) with
      | some (.cells t' sz g' xs), some ys => g = g' ∧ some ys.length = tsz P t ∧ off + ys.length ≤ xs.length ∧ K ⟨.junk, [], some (b, .cells t' sz g' (splice xs off ys))⟩
      | _, _ => False)
    | _ => False)
  | .nilCheck x => (match ρ x with
    | .ptr b g off => (match h b with
      | some (.cells _ _ g' _) => g = g' ∧ K ⟨.ptr b g off, [b], none⟩
      | _ => False)
    | .pptr xs i => K ⟨.pptr xs i, [], none⟩
    | _ => False)
  | .binOp op t x y _ => binK P op t (ρ x) (ρ y) fun v => K ⟨v, [], none⟩
  | .unOp op _ x => unK op (ρ x) fun v => K ⟨v, [], none⟩
  | .convert s dst x => (match tint P dst, ρ x with
    | some k, .int _ n => (P.underlying s).isSome = true ∧ arith k n fun v => K ⟨v, [], none⟩
    | _, _ => False)
  | .makeFunc f first captured => (∀ l, f ≠ .yield l) ∧ K ⟨.fn f (first.toList.map ρ) (captured.toList.map ρ), [], none⟩
  | .makeMap _ none => K ⟨.map nx, [], some (nx, .map [])⟩
  | .makeSlice t l c => (match tslice P t with
    | some e => (match tsz P e, tbytes P e, tzero P e with
      | some sz, some by_, some zs => zs.length = sz ∧ 0 < sz ∧ (∀ x ∈ zs, cellPure x = true) ∧ makeK (ρ l) (ρ c) fun n =>
          by_ * n ≤ 281474976710656 ∧ n ≤ 9223372036854775807 ∧ K ⟨.osl nx 0 0 n, [], some (nx, .cells e sz 0 (List.replicate n zs).flatten)⟩
      | _, _, _ => False)
    | none => False)
  | .slice t x lo hi none => (match tslice P t with
    | some e => (match tsz P e with
      | some sz => sliceK sz (ρ x) (lo.map ρ) (hi.map ρ) fun v => K ⟨v, [], none⟩
      | none => False)
    | none => False)
  | .fieldAddr s x f => (match tfld P s f with
    | some (off, ft) => (match tsz P ft, ρ x with
      | some sz, .ptr b g o => 0 < sz ∧ (match h b with
        | some (.cells _ _ g' _) => g = g' ∧ K ⟨.ptr b g (o + off), [b], none⟩
        | _ => False)
      | some sz, .pptr xs i => 0 < sz ∧ K ⟨.pptr xs (i + off), [], none⟩
      | _, _ => False)
    | none => False)
  | .field t x f => (match tfld P t f, ρ x with
    | some (off, ft), .agg xs => loadK P ft xs off fun v => K ⟨v, [], none⟩
    | _, _ => False)
  | .indexAddr t x i => (match ρ i with
    | .int _ i => (match tslice P t with
      | some e => (match tsz P e, ρ x with
        | some sz, .psl _ n xs => 0 ≤ i ∧ i < n ∧ 0 < xs.length ∧ K ⟨.pptr xs (i.toNat * sz), [], none⟩
        | some sz, .osl b g off len => 0 ≤ i ∧ i < len ∧ (match h b with
          | some (.cells _ _ g' _) => g = g' ∧ K ⟨.ptr b g (off + i.toNat * sz), [b], none⟩
          | _ => False)
        | _, _ => False)
      | none => (match tarr P t with
        | some (n, e) => (match tsz P e, ρ x with
          | some sz, .ptr b g off => 0 ≤ i ∧ i < n ∧ (match h b with
            | some (.cells _ _ g' _) => g = g' ∧ K ⟨.ptr b g (off + i.toNat * sz), [b], none⟩
            | _ => False)
          | some sz, .pptr xs o => 0 ≤ i ∧ i < n ∧ K ⟨.pptr xs (o + i.toNat * sz), [], none⟩
          | _, _ => False)
        | none => False))
    | _ => False)
  | .index t x i => (match ρ i, tarr P t, ρ x with
    | .int _ i, some (n, e), .agg xs => (match tsz P e with
      | some sz => 0 ≤ i ∧ i < n ∧ loadK P e xs (i.toNat * sz) fun v => K ⟨v, [], none⟩
      | none => False)
    | _, _, _ => False)
  | .lookup t x k ok => (match tmap P t, ρ x, ρ k with
    | some (kt, vt), .map b, .int kk n => (tint P kt).isSome = true ∧ (match h b, tzv P vt with
      | some (.map es), some z => zeroOK z = true ∧ (match mapFind es (.int kk n) with
        | some (some (_, v)) => K ⟨if ok then .tup [v, .bool true] else v, [b], none⟩
        | some none => K ⟨if ok then .tup [z, .bool false] else z, [b], none⟩
        | none => False)
      | _, _ => False)
    | _, _, _ => False)
  | .mapUpdate t x k v => (match tmap P t, ρ x, ρ k with
    | some (kt, _), .map b, .int kk n => (tint P kt).isSome = true ∧ (match h b with
      | some (.map es) => (match mapFind es (.int kk n) with
        | some (some (i, _)) => K ⟨.junk, [], some (b, .map (es.set i (.int kk n, ρ v)))⟩
        | some none => K ⟨.junk, [], some (b, .map (es ++ [(.int kk n, ρ v)]))⟩
        | none => False)
      | _ => False)
    | _, _, _ => False)
  | .extract x i => (match ρ x with
    | .tup xs => (match xs[i]? with
      | some v => K ⟨v, [], none⟩
      | none => False)
    | _ => False)
  | .call c => (match c.callee with
    | .builtin b => builtinK P b c.argTypes (c.args.toList.map ρ) h nx K
    | .value f => (match ρ f with
      | .fn (.func g) first caps => (∀ x ∈ first ++ c.args.toList.map ρ ++ caps, pureA x = true) ∧ CallK P g (first ++ c.args.toList.map ρ ++ caps) fun r => K ⟨r, [], none⟩
      | _ => False)
    | _ => False)
  | _ => False

end Go.Am
