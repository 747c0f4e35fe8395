/- The abstract machine Am, part X2: the machine that runs: what each operation does, as a function (effX); statements, calls, rounds (xcode, xcall). -/
import Derived.Test.YtnjommobapmgbaaX1
namespace Go.Am
set_option linter.unusedSimpArgs false
set_option linter.unusedVariables false
open Go.RowKit

def arithX (k : IntKind) (r : Int) : Option AV :=
  match k with
  | .i64 => if -9223372036854775808 ≤ r ∧ r ≤ 9223372036854775807 then some (.int .i64 r) else none
  | .i8 => some (.int .i8 (IntKind.i8.wrap r))
  | .i16 => some (.int .i16 (IntKind.i16.wrap r))
  | .i32 => some (.int .i32 (IntKind.i32.wrap r))
  | .u8 => some (.int .u8 (IntKind.u8.wrap r))
  | .u16 => some (.int .u16 (IntKind.u16.wrap r))
  | .u32 => some (.int .u32 (IntKind.u32.wrap r))
  | .u64 => some (.int .u64 (IntKind.u64.wrap r))

def bitsX (op : BinOp) (k : IntKind) (a b : Int) : Option AV :=
  match op with
  | .and => some (.int k (k.wrap (BitVec.ofInt k.bits a &&& BitVec.ofInt k.bits b).toNat))
  | .or => some (.int k (k.wrap (BitVec.ofInt k.bits a ||| BitVec.ofInt k.bits b).toNat))
  | .xor => some (.int k (k.wrap (BitVec.ofInt k.bits a ^^^ BitVec.ofInt k.bits b).toNat))
  | .andNot => some (.int k (k.wrap (BitVec.ofInt k.bits a &&& ~~~ BitVec.ofInt k.bits b).toNat))
  | _ => none

def binIntX (op : BinOp) (k k' : IntKind) (a b : Int) : Option AV :=
  match op with
  | .shl => if 0 ≤ b then some (.int k (k.wrap (a * 2 ^ (min b.toNat k.bits)))) else none
  | .shr => if 0 ≤ b then some (.int k (a.fdiv (2 ^ (min b.toNat k.bits)))) else none
  | .add => if k = k' then arithX k (a + b) else none
  | .sub => if k = k' then arithX k (a - b) else none
  | .mul => if k = k' then arithX k (a * b) else none
  | .quo => if k = k' then (if b = 0 then none else arithX k (a.tdiv b)) else none
  | .rem => if k = k' then (if b = 0 then none else some (.int k (a.tmod b))) else none
  | .and => if k = k' then bitsX .and k a b else none
  | .or => if k = k' then bitsX .or k a b else none
  | .xor => if k = k' then bitsX .xor k a b else none
  | .andNot => if k = k' then bitsX .andNot k a b else none
  | .eql => if k = k' then some (.bool (decide (a = b))) else none
  | .neq => if k = k' then some (.bool (!decide (a = b))) else none
  | .lss => if k = k' then some (.bool (decide (a < b))) else none
  | .leq => if k = k' then some (.bool (decide (a ≤ b))) else none
  | .gtr => if k = k' then some (.bool (decide (b < a))) else none
  | .geq => if k = k' then some (.bool (decide (b ≤ a))) else none

/-- The types that are compared cell by cell. -/
def binX (P : Program) (eqt : TypeId → Bool) (op : BinOp) (t : TypeId) (x y : AV) : Option AV :=
  match x, y with
  | .int k a, .int k' b => binIntX op k k' a b
  | .bool a, .bool b => (match P.underlying t with
    | some .bool => (match op with
      | .eql => some (.bool (a == b))
      | .neq => some (.bool (!(a == b)))
      | _ => none)
    | _ => none)
  | .agg xs, .agg ys => if eqt t = true ∧ tkb P t = some (xs.map kindB) ∧ tkb P t = some (ys.map kindB) then (match scalEq xs ys with
    | some b => (match op with
      | .eql => some (.bool b)
      | .neq => some (.bool (!b))
      | _ => none)
    | none => none) else none
  | _, _ => none

def unX (op : UnOp) (x : AV) : Option AV :=
  match op, x with
  | .neg, .int k n => arithX k (0 - n)
  | .not, .bool b => some (.bool (!b))
  | _, _ => none

def loadX (P : Program) (t : TypeId) (xs : List AV) (off : Nat) : Option AV :=
  match tagg P t, tsz P t with
  | some true, some n => if off + n ≤ xs.length then some (.agg (window xs off n)) else none
  | some false, some _ => xs[off]?
  | _, _ => none

def mmX (isMax : Bool) : List AV → Option AV
  | [.int k a] => some (.int k a)
  | [.int k a, .int k' b] => if k = k' then some (.int k (if isMax then (if b > a then b else a) else (if b < a then b else a))) else none
  | _ => none

def builtinX (P : Program) (b : Builtin) (ts : Array TypeId) (args : List AV) (h : Nat → Option ABlk) (nx : Nat) : Option E :=
  match b, ts.toList, args with
  | .len, [t], [x] => (match x with
    | .psl _ n _ => if (tslice P t).isSome = true then some ⟨.int .i64 n, [], none⟩ else none
    | .nils => if (tslice P t).isSome = true then some ⟨.int .i64 0, [], none⟩ else none
    | .osl b g _ len => if (tslice P t).isSome = true then (match h b with
      | some (.cells _ _ g' _) => if g = g' then some ⟨.int .i64 len, [b], none⟩ else none
      | _ => none) else none
    | .map b => if (tmap P t).isSome = true then (match h b with
      | some (.map es) => some ⟨.int .i64 es.length, [b], none⟩
      | _ => none) else none
    | _ => none)
  | .max, _, xs => (mmX true xs).map fun v => ⟨v, [], none⟩
  | .min, _, xs => (mmX false xs).map fun v => ⟨v, [], none⟩
  | .append, [t, t'], [s, x] => if t = t' then (match tslice P t with
    | some e => (match tsz P e, tbytes P e, tzero P e with
      | some sz, some by_, some zs => if zs.length = sz ∧ 0 < sz then (match x with
        | .psl _ n ys => if ys.length = n * sz then (match s with
          | .nils => if n * by_ ≤ 140737488355328 ∧ n ≤ 9223372036854775807 then some ⟨.osl nx 0 0 n, [], some (nx, .cells e sz 0 ys)⟩ else none
          | .osl b g off len => (match h b with
            | some (.cells e' sz' g' xs) => if g = g' ∧ off = 0 ∧ e' = e ∧ sz' = sz ∧ xs.length = len * sz ∧ (len + n) * by_ ≤ 140737488355328 ∧ len + n ≤ 9223372036854775807 then
                some ⟨.osl b (g + 1) 0 (len + n), [], some (b, .cells e sz (g + 1) (xs ++ ys))⟩ else none
            | _ => none)
          | _ => none) else none
        | _ => none) else none
      | _, _, _ => none)
    | none => none) else none
  | .delete, [t, _], [mp, k] => (match mp with
    | .map b => (match tmap P t, h b with
      | some (kt, _), some (.map es) => if (tint P kt).isSome = true then (match k with
        | .int kk n => (match mapFind es (.int kk n) with
          | some (some (i, _)) => some ⟨.junk, [], some (b, .map (es.eraseIdx i))⟩
          | some none => some ⟨.junk, [], some (b, .map es)⟩
          | none => none)
        | _ => none) else none
      | _, _ => none)
    | _ => none)
  | _, _, _ => none

def makeX (l c : AV) : Option Nat :=
  match l, c with
  | .int _ n, .int _ n' => if n = n' ∧ 0 ≤ n then some n.toNat else none
  | _, _ => none

def sliceX (sz : Nat) (x : AV) (lo hi : Option AV) : Option AV :=
  match x with
  | .psl _ n xs => (match lo.getD (.int .i64 0) with
    | .int _ l => (match hi.getD (.int .i64 n) with
      | .int _ u => if 0 ≤ l ∧ l ≤ u ∧ u ≤ n ∧ xs.length = n * sz then some (.psl false (u - l).toNat (window xs (l.toNat * sz) ((u - l).toNat * sz))) else none
      | _ => none)
    | _ => none)
  | _ => none

/-- What an operation does, as a function. -/
def effX (P : Program) (eqt : TypeId → Bool) (o : Oper) (ρ : Operand → AV) (h : Nat → Option ABlk) (nx : Nat) : Option E :=
  match o.op with
  | .move x => some ⟨ρ x, [], none⟩
  | .assign x => some ⟨ρ x, [], none⟩
  | .pick c a b => (match ρ c with
    | .bool true => some ⟨ρ a, [], none⟩
    | .bool false => some ⟨ρ b, [], none⟩
    | _ => none)
  | .alloc t => (match tzero P t with
    | some xs => if xs.all cellPure = true then some ⟨.ptr nx 0 0, [], some (nx, .cells t 1 0 xs)⟩ else none
    | none => none)
  | .box t x => (match cellsOf (ρ x) with
    | some xs => some ⟨.ptr nx 0 0, [], some (nx, .cells t 1 0 xs)⟩
    | none => none)
  | .build t parts => (match tzero P t with
    | some zs => if zs.all cellPure = true then (match tarr P t with
      | some (_, e) => (match tsz P e with
        | some sz => (match afill (fun i => some (i * sz, sz)) zs (parts.toList.map fun p => (p.1, ρ p.2)) with
          | some xs => some ⟨.agg xs, [], none⟩
          | none => none)
        | none => none)
      | none => (match tplaces P t with
        | some ps => (match afill (fun i => ps[i]?) zs (parts.toList.map fun p => (p.1, ρ p.2)) with
          | some xs => some ⟨.agg xs, [], none⟩
          | none => none)
        | none => none)) else none
    | none => none)
  | .buildSlice t len parts => (match tslice P t with
    | some e => (match tsz P e, tzero P e with
      | some sz, some zs => if zs.length = sz ∧ 0 < sz ∧ len * sz ≤ 16777216 ∧ zs.all cellPure = true then (match afill (fun i => some (i * sz, sz)) (List.replicate len zs).flatten (parts.toList.map fun p => (p.1, ρ p.2)) with
        | some xs => if xs.all cellPure = true then some ⟨.psl true len xs, [], none⟩ else none
        | none => none) else none
      | _, _ => none)
    | none => none)
  | .load t a => (match ρ a with
    | .ptr b g off => (match h b with
      | some (.cells _ _ g' xs) => if g = g' then (loadX P t xs off).map fun v => ⟨v, [b], none⟩ else none
      | _ => none)
    | .pptr xs i => (loadX P t xs i).map fun v => ⟨v, [], none⟩
    | _ => none)
  | .store t a x => (match ρ a with
    | .ptr b g off => (match h b, cellsOf (ρ x) with
      | some (.cells t' sz g' xs), some ys => if g = g' ∧ some ys.length = tsz P t ∧ off + ys.length ≤ xs.length then some ⟨.junk, [], some (b, .cells t' sz g' (splice xs off ys))⟩ else none
      | _, _ => none)
    | _ => none)
  | .nilCheck x => (match ρ x with
    | .ptr b g off => (match h b with
      | some (.cells _ _ g' _) => if g = g' then some ⟨.ptr b g off, [b], none⟩ else none
      | _ => none)
    | .pptr xs i => some ⟨.pptr xs i, [], none⟩
    | _ => none)
  | .binOp op t x y _ => (binX P eqt op t (ρ x) (ρ y)).map fun v => ⟨v, [], none⟩
  | .unOp op _ x => (unX op (ρ x)).map fun v => ⟨v, [], none⟩
  | .convert s dst x => (match tint P dst, ρ x with
    | some k, .int _ n => if (P.underlying s).isSome = true then (arithX k n).map fun v => ⟨v, [], none⟩ else none
    | _, _ => none)
  | .makeFunc f first captured => (match f with
    | .yield _ => none
    | f => some ⟨.fn f (first.toList.map ρ) (captured.toList.map ρ), [], none⟩)
  | .makeMap _ none => some ⟨.map nx, [], some (nx, .map [])⟩
  | .makeSlice t l c => (match tslice P t with
    | some e => (match tsz P e, tbytes P e, tzero P e with
      | some sz, some by_, some zs => if zs.length = sz ∧ 0 < sz ∧ zs.all cellPure = true then (match makeX (ρ l) (ρ c) with
        | some n => if by_ * n ≤ 281474976710656 ∧ n ≤ 9223372036854775807 then some ⟨.osl nx 0 0 n, [], some (nx, .cells e sz 0 (List.replicate n zs).flatten)⟩ else none
        | none => none) else none
      | _, _, _ => none)
    | none => none)
  | .slice t x lo hi none => (match tslice P t with
    | some e => (match tsz P e with
      | some sz => (sliceX sz (ρ x) (lo.map ρ) (hi.map ρ)).map fun v => ⟨v, [], none⟩
      | none => none)
    | none => none)
  | .fieldAddr s x f => (match tfld P s f with
    | some (off, ft) => (match tsz P ft, ρ x with
      | some sz, .ptr b g o => if 0 < sz then (match h b with
        | some (.cells _ _ g' _) => if g = g' then some ⟨.ptr b g (o + off), [b], none⟩ else none
        | _ => none) else none
      | some sz, .pptr xs i => if 0 < sz then some ⟨.pptr xs (i + off), [], none⟩ else none
      | _, _ => none)
    | none => none)
  | .field t x f => (match tfld P t f, ρ x with
    | some (off, ft), .agg xs => (loadX P ft xs off).map fun v => ⟨v, [], none⟩
    | _, _ => none)
  | .indexAddr t x i => (match ρ i with
    | .int _ i => (match tslice P t with
      | some e => (match tsz P e, ρ x with
        | some sz, .psl _ n xs => if 0 ≤ i ∧ i < n ∧ 0 < xs.length then some ⟨.pptr xs (i.toNat * sz), [], none⟩ else none
        | some sz, .osl b g off len => if 0 ≤ i ∧ i < len then (match h b with
          | some (.cells _ _ g' _) => if g = g' then some ⟨.ptr b g (off + i.toNat * sz), [b], none⟩ else none
          | _ => none) else none
        | _, _ => none)
      | none => (match tarr P t with
        | some (n, e) => (match tsz P e, ρ x with
          | some sz, .ptr b g off => if 0 ≤ i ∧ i < n then (match h b with
            | some (.cells _ _ g' _) => if g = g' then some ⟨.ptr b g (off + i.toNat * sz), [b], none⟩ else none
            | _ => none) else none
          | some sz, .pptr xs o => if 0 ≤ i ∧ i < n then some ⟨.pptr xs (o + i.toNat * sz), [], none⟩ else none
          | _, _ => none)
        | none => none))
    | _ => none)
  | .index t x i => (match ρ i, tarr P t, ρ x with
    | .int _ i, some (n, e), .agg xs => (match tsz P e with
      | some sz => if 0 ≤ i ∧ i < n then (loadX P e xs (i.toNat * sz)).map fun v => ⟨v, [], none⟩ else none
      | none => none)
    | _, _, _ => none)
  | .lookup t x k ok => (match tmap P t, ρ x, ρ k with
    | some (kt, vt), .map b, .int kk n => if (tint P kt).isSome = true then (match h b, tzv P vt with
      | some (.map es), some z => if zeroOK z = true then (match mapFind es (.int kk n) with
        | some (some (_, v)) => some ⟨if ok then .tup [v, .bool true] else v, [b], none⟩
        | some none => some ⟨if ok then .tup [z, .bool false] else z, [b], none⟩
        | none => none) else none
      | _, _ => none) else none
    | _, _, _ => none)
  | .mapUpdate t x k v => (match tmap P t, ρ x, ρ k with
    | some (kt, _), .map b, .int kk n => if (tint P kt).isSome = true then (match h b with
      | some (.map es) => (match mapFind es (.int kk n) with
        | some (some (i, _)) => some ⟨.junk, [], some (b, .map (es.set i (.int kk n, ρ v)))⟩
        | some none => some ⟨.junk, [], some (b, .map (es ++ [(.int kk n, ρ v)]))⟩
        | none => none)
      | _ => none) else none
    | _, _, _ => none)
  | .extract x i => (match ρ x with
    | .tup xs => (xs[i]?).map fun v => ⟨v, [], none⟩
    | _ => none)
  | .call c => (match c.callee with
    | .builtin b => builtinX P b c.argTypes (c.args.toList.map ρ) h nx
    | _ => none)
  | _ => none

/-! ### Statements, calls -/
/-- What calls a function's value: the value, the arguments, the blocks; it leaves the result, the blocks, the numbers of those that were written. -/
abbrev Cv := AV → List AV → List (Option ABlk) → Option (AV × List (Option ABlk) × List Nat)

/-- Blocks, as they were written. -/
def wlog (H : List (Option ABlk)) : List Nat → List (Nat × ABlk)
  | [] => []
  | b :: l => match hget H b with
    | some k => (b, k) :: wlog H l
    | none => wlog H l
def wkeys : List (Nat × ABlk) → List Nat
  | [] => []
  | (b, _) :: l => b :: wkeys l

def mapO (f : AV → Option AV) : List AV → Option (List AV)
  | [] => some []
  | x :: xs => match f x with
    | some y => (match mapO f xs with
      | some ys => some (y :: ys)
      | none => none)
    | none => none
/-- A value as the caller may read it: lists that are changed no more. -/
def outX (h : Nat → Option ABlk) : Nat → AV → Option AV
  | 0, x => if cellPure x = true then some x else none
  | n + 1, x => match x with
    | .osl b g off len => (match h b with
      | some (.cells _ _ g' xs) => if g = g' ∧ off = 0 then (match mapO (outX h n) xs with
        | some ys => some (.psl false len ys)
        | none => none) else none
      | _ => none)
    | x => if cellPure x = true then some x else none
def outAX (h : Nat → Option ABlk) (x : AV) : Option AV :=
  match x with
  | .agg xs => (mapO (outX h 3) xs).map .agg
  | x => outX h 3 x
def outRX (h : Nat → Option ABlk) (x : AV) : Option AV :=
  match x with
  | .tup xs => (mapO (outAX h) xs).map .tup
  | x => outAX h x

/-- A call, with all blocks. -/
def callX (cv : Cv) (fv : AV) (as : List AV) (H : List (Option ABlk)) : Option (Ef × List (Option ABlk)) :=
  match cv fv as H with
  | some (r, H', W) => some (⟨r, [], wlog H' W, true⟩, H')
  | none => none
/-- A call that is handed nothing of one's own, with no blocks. -/
def pcallX (cv : Cv) (g : FuncId) (as : List AV) : Option AV :=
  match cv (.fn (.func g) [] []) as [] with
  | some (r, H', _) => outRX (hget H') r
  | none => none

/-- One operation: what it leaves, and the blocks behind it. pm: functions that are called with no blocks, if nothing of one's own is handed to them. -/
def opX (P : Program) (eqt : TypeId → Bool) (pm : FuncId → Bool) (cv : Cv) (o : Oper) (s : St) : Option (Ef × List (Option ABlk)) :=
  match o.op with
  | .call ⟨.value f, args, _⟩ => (match aev s.T f with
    | .fn (.func g) first caps => if pm g = true ∧ (first ++ args.toList.map (aev s.T) ++ caps).all pureA = true then (match pcallX cv g (first ++ args.toList.map (aev s.T) ++ caps) with
        | some y => some (⟨y, [], [], false⟩, s.H)
        | none => none)
      else callX cv (.fn (.func g) first caps) (args.toList.map (aev s.T)) s.H
    | fv => callX cv fv (args.toList.map (aev s.T)) s.H)
  | _ => match effX P eqt o (aev s.T) (hget s.H) s.H.length with
    | some e => some (lift e, hseto s.H e.wr)
    | none => none

def xops (P : Program) (eqt : TypeId → Bool) (pm : FuncId → Bool) (cv : Cv) (all : Array Oper) : List Oper → St → Option (St × List Ef)
  | [], s => some (s, [])
  | o :: os, s => match guardOf all s.T o with
    | some true => (match opX P eqt pm cv o s with
      | some (e, H') => (match xops P eqt pm cv all os ⟨lseto s.T o.dst e.val, H', s.D⟩ with
        | some (s', es) => some (s', e :: es)
        | none => none)
      | none => none)
    | some false => (match xops P eqt pm cv all os ⟨lseto s.T o.dst (.tup []), s.H, s.D⟩ with
      | some (s', es) => some (s', ⟨.tup [], [], [], false⟩ :: es)
      | none => none)
    | none => none

def wall : List Ef → List Nat
  | [] => []
  | e :: es => wkeys e.wr ++ wall es

def xloop (f : St → Option (Exit × St × List Nat)) : Nat → St → Option (Exit × St × List Nat)
  | 0, _ => none
  | n + 1, s => match f s with
    | some (.normal, s', W) => (match xloop f n s' with
      | some (e, s'', W') => some (e, s'', W ++ W')
      | none => none)
    | r => r

/-- The jump that a round has left. -/
def jumpX : Option Code → Option Exit
  | none => some .normal
  | some .ret => some .ret
  | some (.exit id) => some (.exit id)
  | _ => none

def xcode (P : Program) (eqt : TypeId → Bool) (pm : FuncId → Bool) (cv : Cv) (lf : Nat) (rd : Bool) : Code → St → Option (Exit × St × List Nat)
  | .skip, s => some (.normal, s, [])
  | .region _ ops draw, s => (match xops P eqt pm cv ops ops.toList s with
    | some (s', es) => if draw = true then (if regOK ops = true ∧ heapOK2 ops es = true then some (.normal, s', wall es) else none) else some (.normal, s', wall es)
    | none => none)
  | .seq a b, s => (match xcode P eqt pm cv lf rd a s with
    | some (.normal, s', W) => (match xcode P eqt pm cv lf rd b s' with
      | some (e, s'', W') => some (e, s'', W ++ W')
      | none => none)
    | r => r)
  | .cond c a b, s => (match aev s.T c with
    | .bool true => xcode P eqt pm cv lf rd a s
    | .bool false => xcode P eqt pm cv lf rd b s
    | _ => none)
  | .block id c, s => (match xcode P eqt pm cv lf rd c s with
    | some (.exit i, s', W) => if i = id then some (.normal, s', W) else some (.exit i, s', W)
    | r => r)
  | .loop c, s => xloop (xcode P eqt pm cv lf rd c) lf s
  | .exit id, s => some (.exit id, s, [])
  | .label _, s => some (.normal, s, [])
  | .scope c, s => (match xcode P eqt pm cv lf rd c s with
    | some (.goto _, _, _) => none
    | r => r)
  | .ret, s => some (.ret, s, [])
  | .rangeFunc g ps asg body, s => if rd = true then none else
      (match aev s.T g with
      | .fn (.func gf) first caps => (match cv (.fn (.func gf) first caps) [.fn (.yield (s.H.length + 1)) [] []] (hset (hset s.H s.H.length (.dfr true)) (s.H.length + 1) (.loop .ready none 0 s.T ps asg body s.H.length)) with
        | some (_, H', W) => (match hget H' (s.H.length + 1) with
          | some (.loop .ready pend fn T ps asg body d) => (match jumpX pend with
            | some e => some (e, ⟨s.T, hset H' (s.H.length + 1) (.loop .exhausted pend fn T ps asg body d), s.H.length :: s.D⟩, s.H.length :: (s.H.length + 1) :: W)
            | none => none)
          | some (.loop .done pend fn T ps asg body d) => (match jumpX pend with
            | some e => some (e, ⟨s.T, hset H' (s.H.length + 1) (.loop .exhausted pend fn T ps asg body d), s.H.length :: s.D⟩, s.H.length :: (s.H.length + 1) :: W)
            | none => none)
          | _ => none)
        | none => none)
      | _ => none)
  | _, _ => none

/-- The marks are shut, the results read. -/
def resX (P : Program) (s : St) : List ResultVar → Option (List AV)
  | [] => some []
  | .tmp t :: rs => (resX P s rs).map (lget s.T t :: ·)
  | .cell a t :: rs => match lget s.T a with
    | .ptr b g off => (match hget s.H b with
      | some (.cells _ _ g' xs) => if g = g' then (match loadX P t xs off with
        | some v => (resX P s rs).map (v :: ·)
        | none => none) else none
      | _ => none)
    | _ => none
def shutX : List Nat → List (Option ABlk) → Option (List (Option ABlk))
  | [], H => some H
  | d :: ds, H => match hget H d with
    | some (.dfr true) => shutX ds (hset H d (.dfr false))
    | _ => none

def putArgs : List Tmp → List AV → List AV → Option (List AV)
  | [], [], T => some T
  | p :: ps, x :: xs, T => putArgs ps xs (lset T p x)
  | _, _, _ => none

/-- CALLS: of functions, of yield. -/
def xcall (P : Program) (eqt : TypeId → Bool) (pm ent : FuncId → Bool) (lf : Nat) : Nat → Cv
  | 0, _, _, _ => none
  | n + 1, f, args, H => match f with
    | .fn (.func g) first caps => if ent g = true then (match P.funcs[g]? with
      | some fn => (match fn.body with
        | some c => (match xcode P eqt pm (xcall P eqt pm ent lf n) lf false c ⟨initT (first ++ args ++ caps) fn.ntmps, H, []⟩ with
          | some (.normal, s', W) => (match shutX s'.D s'.H with
            | some H2 => (match resX P ⟨s'.T, H2, []⟩ fn.results.toList with
              | some vs => some (finAV vs, H2, s'.D ++ W)
              | none => none)
            | none => none)
          | some (.ret, s', W) => (match shutX s'.D s'.H with
            | some H2 => (match resX P ⟨s'.T, H2, []⟩ fn.results.toList with
              | some vs => some (finAV vs, H2, s'.D ++ W)
              | none => none)
            | none => none)
          | _ => none)
        | none => none)
      | none => none) else none
    | .fn (.yield b) [] [] => (match hget H b with
      | some (.loop .ready none fn T ps asg body d) => (match putArgs ps.toList args T with
        | some T1 => (match xcode P eqt pm (xcall P eqt pm ent lf n) lf true asg ⟨T1, H, []⟩ with
          | some (.normal, s1, W1) => (match hget s1.H b with
            | some (.loop .ready none fn T ps asg body d) => (match xcode P eqt pm (xcall P eqt pm ent lf n) lf true body ⟨s1.T, hset s1.H b (.loop .busy none fn T ps asg body d), s1.D⟩ with
              | some (.normal, s2, W2) => (match hget s2.H b with
                | some (.loop .busy none fn T ps asg body d) => some (.bool true, hset s2.H b (.loop .ready none fn T ps asg body d), b :: (W1 ++ W2))
                | _ => none)
              | some (.ret, s2, W2) => (match hget s2.H b with
                | some (.loop .busy none fn T ps asg body d) => some (.bool false, hset s2.H b (.loop .done (some .ret) fn T ps asg body d), b :: (W1 ++ W2))
                | _ => none)
              | some (.exit id, s2, W2) => (match hget s2.H b with
                | some (.loop .busy none fn T ps asg body d) => some (.bool false, hset s2.H b (.loop .done (some (.exit id)) fn T ps asg body d), b :: (W1 ++ W2))
                | _ => none)
              | _ => none)
            | _ => none)
          | _ => none)
        | none => none)
      | _ => none)
    | _ => none

end Go.Am
