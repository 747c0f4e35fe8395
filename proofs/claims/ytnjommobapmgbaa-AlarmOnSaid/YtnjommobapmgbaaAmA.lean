/- The abstract machine Am, part A: abstract values, how they stand for the model's values in a world, and that this is kept by the steps of a run. Nothing here speaks of a program. -/
import Derived.Below
import Derived.RangeFuncLeaves
import Derived.OrdersIn
namespace Go.Am
open Go.RowKit

/-- Abstract values: numbers, lists that stay as they are (psl, pptr), references to what the call itself has made (ptr, osl, map). -/
inductive AV where
  | int (k : IntKind) (n : Int)
  | bool (b : Bool)
  | str (s : ByteArray)
  | nilp | nils | nilm | nilf
  | psl (full : Bool) (n : Nat) (xs : List AV)
  | pptr (xs : List AV) (i : Nat)
  | fn (f : Fn) (first caps : List AV)
  | agg (xs : List AV)
  | tup (xs : List AV)
  | ptr (b g off : Nat)
  | osl (b g off len : Nat)
  | map (b : Nat)
  | junk
  deriving Inhabited

/-- Abstract blocks. -/
inductive ABlk where
  | cells (t : TypeId) (sz g : Nat) (xs : List AV)
  | map (es : List (AV × AV))
  | dfr (o : Bool)
  | loop (st : LoopState) (pend : Option Code) (fn : FuncId) (T : List AV) (ps : Array Tmp) (asg body : Code) (d : Nat)
  deriving Inhabited

/-- Where an abstract block lies: the block's number, and how many cells it has. -/
structure Loc where
  c : Nat
  n : Nat

inductive PRep (ok : Nat → Prop) (w : World) : AV → Value → Prop
  | int (k : IntKind) (n : Int) : PRep ok w (.int k n) (.int k n)
  | bool (b : Bool) : PRep ok w (.bool b) (.bool b)
  | str (s : ByteArray) : PRep ok w (.str s) (.string s)
  | nilp : PRep ok w .nilp (.pointer none)
  | nils : PRep ok w .nils (.slice none 0 0)
  | nilm : PRep ok w .nilm (.map none)
  | nilf : PRep ok w .nilf .nilFunc
  | psle {full : Bool} {n : Nat} {a : Option Addr} {cap : Nat} (h1 : n ≤ cap) (h2 : full = true → cap = n) (h3 : a = none → cap = 0) :
      PRep ok w (.psl full n []) (.slice a n cap)
  | psl {full : Bool} {n : Nat} {xs : List AV} {c o cap : Nat} (vs : Nat → Value) (h1 : n ≤ cap) (h2 : full = true → cap = n) (hok : ok c)
      (hc : ∀ j, j < xs.length → w.cell? ⟨c, o + j, none⟩ = some (vs j) ∧ (vs j).oneCell' = true)
      (hr : ∀ j (h : j < xs.length), PRep ok w xs[j] (vs j)) : PRep ok w (.psl full n xs) (.slice (some ⟨c, o, none⟩) n cap)
  | pptr {xs : List AV} {i c o : Nat} (vs : Nat → Value) (hok : ok c)
      (hc : ∀ j, j < xs.length → w.cell? ⟨c, o + j, none⟩ = some (vs j) ∧ (vs j).oneCell' = true)
      (hr : ∀ j (h : j < xs.length), PRep ok w xs[j] (vs j)) : PRep ok w (.pptr xs i) (.pointer (some ⟨c, o + i, none⟩))
  | fn {f : Fn} {xs ys : List AV} (us vs : List Value) (hf : ∀ l, f ≠ .yield l) (h1 : xs.length = us.length) (h2 : ys.length = vs.length)
      (r1 : ∀ j (h : j < xs.length) (h' : j < us.length), PRep ok w xs[j] us[j])
      (r2 : ∀ j (h : j < ys.length) (h' : j < vs.length), PRep ok w ys[j] vs[j]) : PRep ok w (.fn f xs ys) (.func f us.toArray vs.toArray)
  | agg {xs : List AV} (us : List Value) (h1 : xs.length = us.length) (ho : ∀ u ∈ us, u.oneCell' = true)
      (r1 : ∀ j (h : j < xs.length) (h' : j < us.length), PRep ok w xs[j] us[j]) : PRep ok w (.agg xs) (.agg us.toArray)
  | tup {xs : List AV} (us : List Value) (h1 : xs.length = us.length)
      (r1 : ∀ j (h : j < xs.length) (h' : j < us.length), PRep ok w xs[j] us[j]) : PRep ok w (.tup xs) (.tuple us.toArray)

theorem PRep.mono {ok ok' : Nat → Prop} {w w' : World} {x : AV} {v : Value} (h : PRep ok w x v)
    (hw : ∀ c, ok c → w'.heap[c]? = w.heap[c]?) (ho : ∀ c, ok c → ok' c) : PRep ok' w' x v := by
  induction h with
  | int k n => exact .int k n
  | bool b => exact .bool b
  | str s => exact .str s
  | nilp => exact .nilp
  | nils => exact .nils
  | nilm => exact .nilm
  | nilf => exact .nilf
  | psle h1 h2 h3 => exact .psle h1 h2 h3
  | psl vs h1 h2 hok hc hr ih =>
    exact .psl vs h1 h2 (ho _ hok) (fun j hj => ⟨(World.cell?_of_block (hw _ hok)).trans (hc j hj).1, (hc j hj).2⟩) ih
  | pptr vs hok hc hr ih =>
    exact .pptr vs (ho _ hok) (fun j hj => ⟨(World.cell?_of_block (hw _ hok)).trans (hc j hj).1, (hc j hj).2⟩) ih
  | fn us vs hf h1 h2 r1 r2 ih1 ih2 => exact .fn us vs hf h1 h2 ih1 ih2
  | agg us h1 ho r1 ih1 => exact .agg us h1 ho ih1
  | tup us h1 r1 ih1 => exact .tup us h1 ih1

/-- The blocks that lists may lie in: those of the arguments, and all new ones. -/
class Base where
  B : Nat → Prop

variable [Base]

/-- A block that no abstract block lies in. -/
def Ok (m : Nat → Option Loc) (w : World) (c : Nat) : Prop := c < w.heap.size ∧ (∀ b l, m b = some l → l.c ≠ c) ∧ Base.B c

/-- The record of a loop over a function, or the block of its mark. -/
def isRec : ABlk → Bool
  | .loop _ _ _ _ _ _ _ _ => true
  | .dfr _ => true
  | _ => false

inductive Rep (h : Nat → Option ABlk) (m : Nat → Option Loc) (w : World) : AV → Value → Prop
  | pure {x : AV} {v : Value} (p : PRep (Ok m w) w x v) : Rep h m w x v
  | ptr {b g off : Nat} {v : Value} {t : TypeId} {sz g' : Nat} {xs : List AV} (hb : h b = some (.cells t sz g' xs)) (hg : g ≤ g') (ho : v.oneCell' = true)
      (hv : g = g' → ∃ l, m b = some l ∧ v = .pointer (some ⟨l.c, off, none⟩)) : Rep h m w (.ptr b g off) v
  | osl {b g off len : Nat} {v : Value} {t : TypeId} {sz g' : Nat} {xs : List AV} (hb : h b = some (.cells t sz g' xs)) (hg : g ≤ g') (ho : v.oneCell' = true)
      (hv : g = g' → (m b = none ∧ off = 0 ∧ len = 0 ∧ v = .slice none 0 0) ∨
        ∃ l cap, m b = some l ∧ v = .slice (some ⟨l.c, off, none⟩) len cap ∧ len ≤ cap ∧ off + cap * sz = l.n ∧ cap ≤ maxLen) : Rep h m w (.osl b g off len) v
  | map {b : Nat} {es : List (AV × AV)} {l : Loc} (hb : h b = some (.map es)) (hm : m b = some l) : Rep h m w (.map b) (.map (some l.c))
  | yld {b : Nat} {k : ABlk} {l : Loc} (hb : h b = some k) (hk : isRec k = true) (hm : m b = some l) : Rep h m w (.fn (.yield b) [] []) (.func (.yield l.c) #[] #[])
  | fn {f : Fn} {xs ys : List AV} (us vs : List Value) (hf : ∀ l, f ≠ .yield l) (h1 : xs.length = us.length) (h2 : ys.length = vs.length)
      (r1 : ∀ j (h' : j < xs.length) (h'' : j < us.length), Rep h m w xs[j] us[j])
      (r2 : ∀ j (h' : j < ys.length) (h'' : j < vs.length), Rep h m w ys[j] vs[j]) : Rep h m w (.fn f xs ys) (.func f us.toArray vs.toArray)
  | agg {xs : List AV} (us : List Value) (h1 : xs.length = us.length) (ho : ∀ u ∈ us, u.oneCell' = true)
      (r1 : ∀ j (h' : j < xs.length) (h'' : j < us.length), Rep h m w xs[j] us[j]) : Rep h m w (.agg xs) (.agg us.toArray)
  | tup {xs : List AV} (us : List Value) (h1 : xs.length = us.length)
      (r1 : ∀ j (h' : j < xs.length) (h'' : j < us.length), Rep h m w xs[j] us[j]) : Rep h m w (.tup xs) (.tuple us.toArray)
  | junk (v : Value) : Rep h m w .junk v

def upd {α : Type} (f : Nat → α) (b : Nat) (x : α) : Nat → α := fun i => if i = b then x else f i
omit [Base] in
theorem upd_same {α : Type} (f : Nat → α) (b : Nat) (x : α) : upd f b x b = x := by simp [upd]
omit [Base] in
theorem upd_ne {α : Type} (f : Nat → α) {b i : Nat} (x : α) (h : i ≠ b) : upd f b x i = f i := by simp [upd, h]

/-- What a step of the run keeps of the abstract blocks and of the world. -/
structure Ext (h : Nat → Option ABlk) (m : Nat → Option Loc) (w : World) (h' : Nat → Option ABlk) (m' : Nat → Option Loc) (w' : World) : Prop where
  ok : ∀ c, Ok m w c → w'.heap[c]? = w.heap[c]? ∧ Ok m' w' c
  cells : ∀ b t sz g xs, h b = some (.cells t sz g xs) → ∃ g' xs', h' b = some (.cells t sz g' xs') ∧ g ≤ g' ∧ (g = g' → m' b = m b)
  map : ∀ b es, h b = some (.map es) → (∃ es', h' b = some (.map es')) ∧ m' b = m b
  dfr : ∀ b o, h b = some (.dfr o) → (∃ o', h' b = some (.dfr o')) ∧ m' b = m b
  loop : ∀ b st pend fn T ps asg body d, h b = some (.loop st pend fn T ps asg body d) → (∃ st' pend', h' b = some (.loop st' pend' fn T ps asg body d)) ∧ m' b = m b

theorem Ext.refl (h : Nat → Option ABlk) (m : Nat → Option Loc) (w : World) : Ext h m w h m w :=
  ⟨fun _ hc => ⟨rfl, hc⟩, fun _ _ _ g xs hb => ⟨g, xs, hb, Nat.le_refl _, fun _ => rfl⟩, fun _ es hb => ⟨⟨es, hb⟩, rfl⟩, fun _ o hb => ⟨⟨o, hb⟩, rfl⟩,
   fun _ st pend _ _ _ _ _ _ hb => ⟨⟨st, pend, hb⟩, rfl⟩⟩

theorem Ext.trans {h h' h'' : Nat → Option ABlk} {m m' m'' : Nat → Option Loc} {w w' w'' : World} (a : Ext h m w h' m' w') (c : Ext h' m' w' h'' m'' w'') : Ext h m w h'' m'' w'' := by
  refine ⟨fun x hx => ?_, fun b t sz g xs hb => ?_, fun b es hb => ?_, fun b o hb => ?_, fun b st pend fn T ps asg body d hb => ?_⟩
  · have h1 := a.ok x hx
    have h2 := c.ok x h1.2
    exact ⟨h2.1.trans h1.1, h2.2⟩
  · obtain ⟨g1, xs1, hb1, hg1, hm1⟩ := a.cells b t sz g xs hb
    obtain ⟨g2, xs2, hb2, hg2, hm2⟩ := c.cells b t sz g1 xs1 hb1
    exact ⟨g2, xs2, hb2, Nat.le_trans hg1 hg2, fun e => (hm2 (by omega)).trans (hm1 (by omega))⟩
  · obtain ⟨⟨es1, hb1⟩, hm1⟩ := a.map b es hb
    obtain ⟨hb2, hm2⟩ := c.map b es1 hb1
    exact ⟨hb2, hm2.trans hm1⟩
  · obtain ⟨⟨o1, hb1⟩, hm1⟩ := a.dfr b o hb
    obtain ⟨hb2, hm2⟩ := c.dfr b o1 hb1
    exact ⟨hb2, hm2.trans hm1⟩
  · obtain ⟨⟨st1, pend1, hb1⟩, hm1⟩ := a.loop b st pend fn T ps asg body d hb
    obtain ⟨hb2, hm2⟩ := c.loop b st1 pend1 fn T ps asg body d hb1
    exact ⟨hb2, hm2.trans hm1⟩

theorem Rep.ext {h h' : Nat → Option ABlk} {m m' : Nat → Option Loc} {w w' : World} {x : AV} {v : Value} (r : Rep h m w x v) (e : Ext h m w h' m' w') : Rep h' m' w' x v := by
  induction r with
  | pure p => exact .pure (p.mono (fun c hc => (e.ok c hc).1) (fun c hc => (e.ok c hc).2))
  | ptr hb hg ho hv =>
    obtain ⟨g', xs', hb', hg', hm'⟩ := e.cells _ _ _ _ _ hb
    refine .ptr hb' (Nat.le_trans hg hg') ho (fun eq => ?_)
    obtain ⟨l, h1, h2⟩ := hv (by omega)
    exact ⟨l, (hm' (by omega)).trans h1, h2⟩
  | osl hb hg ho hv =>
    obtain ⟨g', xs', hb', hg', hm'⟩ := e.cells _ _ _ _ _ hb
    refine .osl hb' (Nat.le_trans hg hg') ho (fun eq => ?_)
    rcases hv (by omega) with ⟨h1, h2⟩ | ⟨l, cap, h1, h2⟩
    · exact .inl ⟨(hm' (by omega)).trans h1, h2⟩
    · exact .inr ⟨l, cap, (hm' (by omega)).trans h1, h2⟩
  | map hb hm =>
    obtain ⟨⟨es', hb'⟩, hm'⟩ := e.map _ _ hb
    exact .map hb' (hm'.trans hm)
  | yld hb hk hm =>
    rename_i b k l
    cases k with
    | loop =>
      obtain ⟨⟨st', pend', hb'⟩, hm'⟩ := e.loop _ _ _ _ _ _ _ _ _ hb
      exact .yld hb' rfl (hm'.trans hm)
    | dfr =>
      obtain ⟨⟨o', hb'⟩, hm'⟩ := e.dfr _ _ hb
      exact .yld hb' rfl (hm'.trans hm)
    | cells => cases hk
    | map => cases hk
  | fn us vs hf h1 h2 r1 r2 ih1 ih2 => exact .fn us vs hf h1 h2 ih1 ih2
  | agg us h1 ho r1 ih1 => exact .agg us h1 ho ih1
  | tup us h1 r1 ih1 => exact .tup us h1 ih1
  | junk v => exact .junk v

/-- An abstract block stands for a block of the world. -/
def BRep (h : Nat → Option ABlk) (m : Nat → Option Loc) (w : World) (b : Nat) : ABlk → Prop
  | .cells t _ _ xs => (m b = none ∧ xs = []) ∨ ∃ l arr, m b = some l ∧ w.heap[l.c]? = some (.cells arr t (0, 0)) ∧ arr.size = l.n ∧ xs.length ≤ l.n ∧
      ∀ j (hj : j < xs.length), ∃ v, arr[j]? = some v ∧ v.oneCell' = true ∧ Rep h m w xs[j] v
  | .map es => ∃ l arr clk, m b = some l ∧ w.heap[l.c]? = some (.map arr clk) ∧ arr.size = es.length ∧
      ∀ j (hj : j < es.length), ∃ e, arr[j]? = some e ∧ Rep h m w (es[j]).1 e.key ∧ Rep h m w (es[j]).2 e.val
  | .dfr o => ∃ l, m b = some l ∧ w.heap[l.c]? = some (.deferred (if o then some [] else none))
  | .loop st pend fn T ps asg body d => ∃ l r ld, m b = some l ∧ w.heap[l.c]? = some (.loop r) ∧ r.state = st ∧ r.pending = pend ∧ r.fn = r.fn ∧ r.params = ps ∧ r.assign = asg ∧ r.body = body ∧
      m d = some ld ∧ r.defers = ld.c ∧ r.tmps.size = T.length ∧ ∀ j (hj : j < T.length), ∃ v, r.tmps[j]? = some v ∧ Rep h m w T[j] v

/-- The world agrees with the abstract blocks; what lay there at the start (w0) is as it was. -/
structure Good (w0 : World) (h : Nat → Option ABlk) (m : Nat → Option Loc) (w : World) : Prop where
  below : Below w0.heap.size w0 w
  base : ∀ b l, m b = some l → w0.heap.size ≤ l.c
  inj : ∀ b b' l l', m b = some l → m b' = some l' → l.c = l'.c → b = b'
  supp : ∀ b l, m b = some l → ∃ k, h b = some k
  blk : ∀ b k, h b = some k → BRep h m w b k
  dloop : ∀ b st pend fn T ps asg body d, h b = some (.loop st pend fn T ps asg body d) → ∃ o, h d = some (.dfr o)
  fresh : ∀ c, w0.heap.size ≤ c → Base.B c

omit [Base] in
theorem lt_of_heap {w : World} {c : Nat} {o : Obj} (h : w.heap[c]? = some o) : c < w.heap.size := (Array.getElem?_eq_some_iff.1 h).1

theorem BRep.lt {h : Nat → Option ABlk} {m : Nat → Option Loc} {w : World} {b : Nat} {k : ABlk} (r : BRep h m w b k) {l : Loc} (hl : m b = some l) : l.c < w.heap.size := by
  cases k with
  | cells t sz g xs =>
    rcases r with ⟨h1, _⟩ | ⟨l', arr, h1, h2, _⟩
    · rw [h1] at hl; cases hl
    · rw [h1] at hl; cases hl; exact lt_of_heap h2
  | map es => obtain ⟨l', arr, clk, h1, h2, _⟩ := r; rw [h1] at hl; cases hl; exact lt_of_heap h2
  | dfr o => obtain ⟨l', h1, h2⟩ := r; rw [h1] at hl; cases hl; exact lt_of_heap h2
  | loop st pend fn T ps asg body d => obtain ⟨l', r', ld, h1, h2, _⟩ := r; rw [h1] at hl; cases hl; exact lt_of_heap h2

theorem Good.lt {w0 : World} {h : Nat → Option ABlk} {m : Nat → Option Loc} {w : World} (g : Good w0 h m w) {b : Nat} {l : Loc} (hl : m b = some l) : l.c < w.heap.size := by
  obtain ⟨k, hk⟩ := g.supp b l hl
  exact (g.blk b k hk).lt hl

/-- A block is kept where the world's block is as it was and the values stand as they stood. -/
theorem BRep.ext {h h' : Nat → Option ABlk} {m m' : Nat → Option Loc} {w w' : World} {b : Nat} {k : ABlk} (r : BRep h m w b k) (e : Ext h m w h' m' w') (hm : m' b = m b)
    (hw : ∀ l, m b = some l → w'.heap[l.c]? = w.heap[l.c]?)
    (hd : ∀ st pend fn T ps asg body d, k = .loop st pend fn T ps asg body d → m' d = m d) : BRep h' m' w' b k := by
  cases k with
  | cells t sz g xs =>
    rcases r with ⟨h1, h2⟩ | ⟨l, arr, h1, h2, h3, h4, h5⟩
    · exact .inl ⟨hm.trans h1, h2⟩
    · refine .inr ⟨l, arr, hm.trans h1, (hw l h1).trans h2, h3, h4, fun j hj => ?_⟩
      obtain ⟨v, hv, ho, hr⟩ := h5 j hj
      exact ⟨v, hv, ho, hr.ext e⟩
  | map es =>
    obtain ⟨l, arr, clk, h1, h2, h3, h4⟩ := r
    refine ⟨l, arr, clk, hm.trans h1, (hw l h1).trans h2, h3, fun j hj => ?_⟩
    obtain ⟨x, hx, hk, hv⟩ := h4 j hj
    exact ⟨x, hx, hk.ext e, hv.ext e⟩
  | dfr o => obtain ⟨l, h1, h2⟩ := r; exact ⟨l, hm.trans h1, (hw l h1).trans h2⟩
  | loop st pend fn T ps asg body d =>
    obtain ⟨l, r', ld, h1, h2, a1, a2, a3, a4, a5, a6, a7, a8, a9, a10⟩ := r
    refine ⟨l, r', ld, hm.trans h1, (hw l h1).trans h2, a1, a2, a3, a4, a5, a6, (hd _ _ _ _ _ _ _ _ rfl).trans a7, a8, a9, fun j hj => ?_⟩
    obtain ⟨v, hv, hr⟩ := a10 j hj
    exact ⟨v, hv, hr.ext e⟩

/-- New memory that nobody of the abstract blocks knows: a callee's, a literal's. -/
theorem Good.garbage {w0 : World} {h : Nat → Option ABlk} {m : Nat → Option Loc} {w w' : World} (g : Good w0 h m w) (hb : Below w.heap.size w w') :
    Good w0 h m w' ∧ Ext h m w h m w' := by
  have e : Ext h m w h m w' := by
    refine ⟨fun c hc => ⟨hb.block c hc.1, ⟨Nat.lt_of_lt_of_le hc.1 hb.size, hc.2⟩⟩, fun _ _ _ g xs hb => ⟨g, xs, hb, Nat.le_refl _, fun _ => rfl⟩, fun _ es hb => ⟨⟨es, hb⟩, rfl⟩, fun _ o hb => ⟨⟨o, hb⟩, rfl⟩,
      fun _ st pend _ _ _ _ _ _ hb => ⟨⟨st, pend, hb⟩, rfl⟩⟩
  refine ⟨⟨g.below.trans (hb.mono g.below.size), g.base, g.inj, g.supp, fun b k hk => (g.blk b k hk).ext e rfl (fun l hl => hb.block _ (g.lt hl)) (fun _ _ _ _ _ _ _ _ _ => rfl), g.dloop, g.fresh⟩, e⟩

/-- Two kinds of abstract blocks of which the second may come in the first's place. -/
def Fits (k k' : ABlk) (moved : Prop) : Prop :=
  match k, k' with
  | .cells t sz g _, .cells t' sz' g' _ => t' = t ∧ sz' = sz ∧ g ≤ g' ∧ (g = g' → ¬ moved)
  | .map _, .map _ => ¬ moved
  | .dfr _, .dfr _ => ¬ moved
  | .loop _ _ fn T ps asg body d, .loop _ _ fn' T' ps' asg' body' d' => fn' = fn ∧ T' = T ∧ ps' = ps ∧ asg' = asg ∧ body' = body ∧ d' = d ∧ ¬ moved
  | _, _ => False

section put
variable {w0 : World} {h : Nat → Option ABlk} {m : Nat → Option Loc} {w w' : World} {b : Nat} {k : ABlk} {l' : Loc}

/-- ONE ABSTRACT BLOCK IS MADE, OR WRITTEN ANEW, OR MOVED: what stays. -/
theorem ext_put (_g : Good w0 h m w) (hsize : w.heap.size ≤ w'.heap.size)
    (hsame : ∀ c, c < w.heap.size → (∀ l, m b = some l → l.c ≠ c) → w'.heap[c]? = w.heap[c]?)
    (hl : m b = some l' ∨ w.heap.size ≤ l'.c)
    (hk : ∀ k0, h b = some k0 → Fits k0 k (m b ≠ some l')) :
    Ext h m w (upd h b (some k)) (upd m b (some l')) w' := by
  refine ⟨fun c hc => ⟨hsame c hc.1 (fun l hml => hc.2.1 b l hml), Nat.lt_of_lt_of_le hc.1 hsize, fun b' l0 hb' => ?_, hc.2.2⟩, fun b' t sz g0 xs hb' => ?_, fun b' es hb' => ?_, fun b' o hb' => ?_, fun b' st pend fn T ps asg body d hb' => ?_⟩
  · by_cases hbb : b' = b
    · subst hbb
      rw [upd_same] at hb'
      cases hb'
      rcases hl with hl | hl
      · exact hc.2.1 b' l' hl
      · have := hc.1; omega
    · rw [upd_ne _ _ hbb] at hb'; exact hc.2.1 b' l0 hb'
  · by_cases hbb : b' = b
    · subst hbb
      have hf := hk _ hb'
      cases k with
      | cells t' sz' g' xs' =>
        obtain ⟨rfl, rfl, h3, h4⟩ := hf
        exact ⟨g', xs', upd_same _ _ _, h3, fun e => by rw [upd_same]; exact (Classical.not_not.1 (h4 e)).symm⟩
      | map es => exact hf.elim
      | dfr o => exact hf.elim
      | loop st pend fn T ps asg body d => exact hf.elim
    · exact ⟨g0, xs, by rw [upd_ne _ _ hbb]; exact hb', Nat.le_refl _, fun _ => upd_ne _ _ hbb⟩
  · by_cases hbb : b' = b
    · subst hbb
      have hf := hk _ hb'
      cases k with
      | cells t' sz' g' xs' => exact hf.elim
      | map es' => exact ⟨⟨es', upd_same _ _ _⟩, by rw [upd_same]; exact (Classical.not_not.1 hf).symm⟩
      | dfr o => exact hf.elim
      | loop st pend fn T ps asg body d => exact hf.elim
    · exact ⟨⟨es, by rw [upd_ne _ _ hbb]; exact hb'⟩, upd_ne _ _ hbb⟩
  · by_cases hbb : b' = b
    · subst hbb
      have hf := hk _ hb'
      cases k with
      | cells t' sz' g' xs' => exact hf.elim
      | map es' => exact hf.elim
      | dfr o' => exact ⟨⟨o', upd_same _ _ _⟩, by rw [upd_same]; exact (Classical.not_not.1 hf).symm⟩
      | loop st pend fn T ps asg body d => exact hf.elim
    · exact ⟨⟨o, by rw [upd_ne _ _ hbb]; exact hb'⟩, upd_ne _ _ hbb⟩
  · by_cases hbb : b' = b
    · subst hbb
      have hf := hk _ hb'
      cases k with
      | cells t' sz' g' xs' => exact hf.elim
      | map es' => exact hf.elim
      | dfr o' => exact hf.elim
      | loop st' pend' fn' T' ps' asg' body' d' =>
        obtain ⟨rfl, rfl, rfl, rfl, rfl, rfl, h7⟩ := hf
        exact ⟨⟨st', pend', upd_same _ _ _⟩, by rw [upd_same]; exact (Classical.not_not.1 h7).symm⟩
    · exact ⟨⟨st, pend, by rw [upd_ne _ _ hbb]; exact hb'⟩, upd_ne _ _ hbb⟩

theorem good_put (g : Good w0 h m w) (hos : w'.os = w.os) (htape : w'.tape = w.tape) (hout : w'.output = w.output) (hsize : w.heap.size ≤ w'.heap.size)
    (hsame : ∀ c, c < w.heap.size → (∀ l, m b = some l → l.c ≠ c) → w'.heap[c]? = w.heap[c]?)
    (hl : m b = some l' ∨ w.heap.size ≤ l'.c)
    (hk : ∀ k0, h b = some k0 → Fits k0 k (m b ≠ some l'))
    (hb : BRep (upd h b (some k)) (upd m b (some l')) w' b k)
    (hd : ∀ st pend fn T ps asg body d, k = .loop st pend fn T ps asg body d → ∃ o, h d = some (.dfr o)) : Good w0 (upd h b (some k)) (upd m b (some l')) w' := by
  have e := ext_put (k := k) (w' := w') (l' := l') g hsize hsame hl hk
  have hbase : ∀ b' l, upd m b (some l') b' = some l → w0.heap.size ≤ l.c := by
    intro b' l hml
    by_cases hbb : b' = b
    · subst hbb
      rw [upd_same] at hml; cases hml
      rcases hl with hl | hl
      · exact g.base b' l' hl
      · exact Nat.le_trans g.below.size hl
    · rw [upd_ne _ _ hbb] at hml; exact g.base b' l hml
  refine ⟨⟨hos.trans g.below.os, htape.trans g.below.tape, hout.trans g.below.output, Nat.le_trans g.below.size hsize, fun c hc => ?_⟩, hbase, fun b1 b2 l1 l2 h1 h2 hc => ?_, fun b' l hml => ?_, fun b' k' hk' => ?_, fun b' st pend fn T ps asg body d hb' => ?_, g.fresh⟩
  · have hlt : c < w.heap.size := Nat.lt_of_lt_of_le hc g.below.size
    rw [hsame c hlt (fun l hml e => by have := g.base b l hml; omega)]
    exact g.below.block c hc
  · by_cases e1 : b1 = b
    · by_cases e2 : b2 = b
      · exact e1.trans e2.symm
      · subst e1
        rw [upd_same] at h1; cases h1
        rw [upd_ne _ _ e2] at h2
        rcases hl with hl | hl
        · exact g.inj _ _ _ _ hl h2 hc
        · have := g.lt h2; omega
    · rw [upd_ne _ _ e1] at h1
      by_cases e2 : b2 = b
      · subst e2
        rw [upd_same] at h2; cases h2
        rcases hl with hl | hl
        · exact g.inj _ _ _ _ h1 hl hc
        · have := g.lt h1; omega
      · rw [upd_ne _ _ e2] at h2
        exact g.inj _ _ _ _ h1 h2 hc
  · by_cases hbb : b' = b
    · subst hbb; exact ⟨k, upd_same _ _ _⟩
    · rw [upd_ne _ _ hbb] at hml; rw [upd_ne _ _ hbb]; exact g.supp b' l hml
  · by_cases hbb : b' = b
    · subst hbb
      rw [upd_same] at hk'; cases hk'; exact hb
    · rw [upd_ne _ _ hbb] at hk'
      refine (g.blk b' k' hk').ext e (upd_ne _ _ hbb) (fun l hml => hsame _ (g.lt hml) (fun l2 hm2 e => hbb (g.inj _ _ _ _ hml hm2 e.symm))) (fun st pend fn T ps asg body d ek => ?_)
      by_cases hdb : d = b
      · subst hdb
        subst ek
        obtain ⟨o, ho⟩ := g.dloop _ _ _ _ _ _ _ _ _ hk'
        exact (e.dfr _ _ ho).2
      · exact upd_ne _ _ hdb
  · by_cases hbb : b' = b
    · subst hbb
      rw [upd_same] at hb'; cases hb'
      obtain ⟨o, ho⟩ := hd _ _ _ _ _ _ _ _ rfl
      obtain ⟨⟨o', ho'⟩, _⟩ := e.dfr _ _ ho
      exact ⟨o', ho'⟩
    · rw [upd_ne _ _ hbb] at hb'
      obtain ⟨o, ho⟩ := g.dloop _ _ _ _ _ _ _ _ _ hb'
      obtain ⟨⟨o', ho'⟩, _⟩ := e.dfr _ _ ho
      exact ⟨o', ho'⟩
end put

end Go.Am
