/- Parts AmA, AmB, AmC, AmD, AmE, AmF, AmG, AmH, AmI, AmJ, AmK, AmL, AmM of the proof, one behind the other. No statement is proved here. -/
import Derived.Below
import Derived.RangeFuncLeaves
import Derived.OrdersIn
import Derived.Laws.Tables
import Derived.Laws.CopyRow
import Derived.Laws.AppendOwn
import Derived.Laws.StructEq
import Derived.Laws.Cells
import Derived.Laws.MakeOwn
import Derived.ChangeKeysEq
import Derived.StillTail
set_option linter.unusedVariables false -- all
set_option linter.unusedSimpArgs false
/- The abstract machine Am, part A: abstract values, how they stand for the model's values in a world, and that this is kept by the steps of a run. Nothing here speaks of a program. -/
namespace Go.Am
open Go.RowKit
/-- Abstract values: numbers, lists and maps that stay as they are (psl, pptr, pmap), references to what the call itself has made (ptr, osl, map). -/
inductive AV where
  | int (k : IntKind) (n : Int)
  | bool (b : Bool)
  | str (s : ByteArray)
  | nilp | nils | nilm | nilf
  | psl (full : Bool) (n : Nat) (xs : List AV)
  | pptr (xs : List AV) (i : Nat)
  | pmap (es : List (AV × AV))
  | fn (f : Fn) (first caps : List AV)
  | agg (xs : List AV)
  | tup (xs : List AV)
  | ptr (b g off : Nat)
  | osl (b g off len : Nat)
  | oslc (b g off len cap : Nat)
  | map (b : Nat)
  | junk
  deriving Inhabited
/-- Abstract blocks. -/
inductive ABlk where
  | cells (t : TypeId) (sz g : Nat) (xs : List AV)
  | map (es : List (AV × AV))
  | dfr (o : Bool)
  | loop (st : LoopState) (pend : Option Code) (fn : FuncId) (T : List AV) (ps : Array Tmp) (asg body : Code) (d : Nat)
  deriving Inhabited
/-- Where an abstract block lies: the block's number, and how many cells it has. -/
structure Loc where
  c : Nat
  n : Nat
inductive PRep (ok : Nat → Prop) (w : World) : AV → Value → Prop
  | int (k : IntKind) (n : Int) : PRep ok w (.int k n) (.int k n)
  | bool (b : Bool) : PRep ok w (.bool b) (.bool b)
  | str (s : ByteArray) : PRep ok w (.str s) (.string s)
  | nilp : PRep ok w .nilp (.pointer none)
  | nils : PRep ok w .nils (.slice none 0 0)
  | nilm : PRep ok w .nilm (.map none)
  | nilf : PRep ok w .nilf .nilFunc
  | psle {full : Bool} {n : Nat} {a : Option Addr} {cap : Nat} (h1 : n ≤ cap) (h2 : full = true → cap = n) (h3 : a = none → cap = 0) :
      PRep ok w (.psl full n []) (.slice a n cap)
  | psl {full : Bool} {n : Nat} {xs : List AV} {c o cap : Nat} (vs : Nat → Value) (h1 : n ≤ cap) (h2 : full = true → cap = n) (hok : ok c)
      (hc : ∀ j, j < xs.length → w.cell? ⟨c, o + j, none⟩ = some (vs j) ∧ (vs j).oneCell' = true)
      (hr : ∀ j (h : j < xs.length), PRep ok w xs[j] (vs j)) : PRep ok w (.psl full n xs) (.slice (some ⟨c, o, none⟩) n cap)
  | pptr {xs : List AV} {i c o : Nat} (vs : Nat → Value) (hok : ok c)
      (hc : ∀ j, j < xs.length → w.cell? ⟨c, o + j, none⟩ = some (vs j) ∧ (vs j).oneCell' = true)
      (hr : ∀ j (h : j < xs.length), PRep ok w xs[j] (vs j)) : PRep ok w (.pptr xs i) (.pointer (some ⟨c, o + i, none⟩))
  | pmap {es : List (AV × AV)} {c clk : Nat} {arr : Array MapEntry} (hok : ok c) (hh : w.heap[c]? = some (.map arr clk)) (hs : arr.size = es.length)
      (hk : ∀ j (h : j < es.length) (h' : j < arr.size), PRep ok w (es[j]).1 (arr[j]).key) (hv : ∀ j (h : j < es.length) (h' : j < arr.size), PRep ok w (es[j]).2 (arr[j]).val) : PRep ok w (.pmap es) (.map (some c))
  | fn {f : Fn} {xs ys : List AV} (us vs : List Value) (hf : ∀ l, f ≠ .yield l) (h1 : xs.length = us.length) (h2 : ys.length = vs.length)
      (r1 : ∀ j (h : j < xs.length) (h' : j < us.length), PRep ok w xs[j] us[j])
      (r2 : ∀ j (h : j < ys.length) (h' : j < vs.length), PRep ok w ys[j] vs[j]) : PRep ok w (.fn f xs ys) (.func f us.toArray vs.toArray)
  | agg {xs : List AV} (us : List Value) (h1 : xs.length = us.length) (ho : ∀ u ∈ us, u.oneCell' = true)
      (r1 : ∀ j (h : j < xs.length) (h' : j < us.length), PRep ok w xs[j] us[j]) : PRep ok w (.agg xs) (.agg us.toArray)
  | tup {xs : List AV} (us : List Value) (h1 : xs.length = us.length)
      (r1 : ∀ j (h : j < xs.length) (h' : j < us.length), PRep ok w xs[j] us[j]) : PRep ok w (.tup xs) (.tuple us.toArray)
theorem PRep.mono {ok ok' : Nat → Prop} {w w' : World} {x : AV} {v : Value} (h : PRep ok w x v)
    (hw : ∀ c, ok c → w'.heap[c]? = w.heap[c]?) (ho : ∀ c, ok c → ok' c) : PRep ok' w' x v := by
  induction h with
  | int k n => exact .int k n
  | bool b => exact .bool b
  | str s => exact .str s
  | nilp => exact .nilp
  | nils => exact .nils
  | nilm => exact .nilm
  | nilf => exact .nilf
  | psle h1 h2 h3 => exact .psle h1 h2 h3
  | psl vs h1 h2 hok hc hr ih =>
    exact .psl vs h1 h2 (ho _ hok) (fun j hj => ⟨(World.cell?_of_block (hw _ hok)).trans (hc j hj).1, (hc j hj).2⟩) ih
  | pptr vs hok hc hr ih =>
    exact .pptr vs (ho _ hok) (fun j hj => ⟨(World.cell?_of_block (hw _ hok)).trans (hc j hj).1, (hc j hj).2⟩) ih
  | pmap hok hh hs hk hv ihk ihv => exact .pmap (ho _ hok) ((hw _ hok).trans hh) hs ihk ihv
  | fn us vs hf h1 h2 r1 r2 ih1 ih2 => exact .fn us vs hf h1 h2 ih1 ih2
  | agg us h1 ho r1 ih1 => exact .agg us h1 ho ih1
  | tup us h1 r1 ih1 => exact .tup us h1 ih1
/-- The blocks that lists may lie in: those of the arguments, and all new ones. -/
class Base where
  B : Nat → Prop
variable [Base]
/-- A block that no abstract block lies in. -/
def Un (m : Nat → Option Loc) (w : World) (c : Nat) : Prop := c < w.heap.size ∧ ∀ b l, m b = some l → l.c ≠ c
/-- Likewise, where lists may lie. -/
def Ok (m : Nat → Option Loc) (w : World) (c : Nat) : Prop := c < w.heap.size ∧ (∀ b l, m b = some l → l.c ≠ c) ∧ Base.B c
theorem Ok.un {m : Nat → Option Loc} {w : World} {c : Nat} (h : Ok m w c) : Un m w c := ⟨h.1, h.2.1⟩
theorem Un.ok {m : Nat → Option Loc} {w : World} {c : Nat} (h : Un m w c) (hb : Base.B c) : Ok m w c := ⟨h.1, h.2, hb⟩
/-- The record of a loop over a function, or the block of its mark. -/
def isRec : ABlk → Bool
  | .loop _ _ _ _ _ _ _ _ => true
  | .dfr _ => true
  | _ => false
inductive Rep (h : Nat → Option ABlk) (m : Nat → Option Loc) (w : World) : AV → Value → Prop
  | pure {x : AV} {v : Value} (p : PRep (Ok m w) w x v) : Rep h m w x v
  | ptr {b g off : Nat} {v : Value} {t : TypeId} {sz g' : Nat} {xs : List AV} (hb : h b = some (.cells t sz g' xs)) (hg : g ≤ g') (ho : v.oneCell' = true)
      (hv : g = g' → ∃ l, m b = some l ∧ v = .pointer (some ⟨l.c, off, none⟩)) : Rep h m w (.ptr b g off) v
  | osl {b g off len : Nat} {v : Value} {t : TypeId} {sz g' : Nat} {xs : List AV} (hb : h b = some (.cells t sz g' xs)) (hg : g ≤ g') (ho : v.oneCell' = true)
      (hv : g = g' → (m b = none ∧ off = 0 ∧ len = 0 ∧ v = .slice none 0 0) ∨
        ∃ l cap, m b = some l ∧ v = .slice (some ⟨l.c, off, none⟩) len cap ∧ len ≤ cap ∧ off + cap * sz ≤ l.n ∧ cap ≤ maxLen) : Rep h m w (.osl b g off len) v
  | oslc {b g off len cap : Nat} {v : Value} {t : TypeId} {sz g' : Nat} {xs : List AV} (hb : h b = some (.cells t sz g' xs)) (hg : g ≤ g') (ho : v.oneCell' = true)
      (hv : g = g' → ∃ l, m b = some l ∧ v = .slice (some ⟨l.c, off, none⟩) len cap ∧ len ≤ cap ∧ off + cap * sz ≤ l.n ∧ cap ≤ maxLen) : Rep h m w (.oslc b g off len cap) v
  | map {b : Nat} {es : List (AV × AV)} {l : Loc} (hb : h b = some (.map es)) (hm : m b = some l) : Rep h m w (.map b) (.map (some l.c))
  | yld {b : Nat} {k : ABlk} {l : Loc} (hb : h b = some k) (hk : isRec k = true) (hm : m b = some l) : Rep h m w (.fn (.yield b) [] []) (.func (.yield l.c) #[] #[])
  | fn {f : Fn} {xs ys : List AV} (us vs : List Value) (hf : ∀ l, f ≠ .yield l) (h1 : xs.length = us.length) (h2 : ys.length = vs.length)
      (r1 : ∀ j (h' : j < xs.length) (h'' : j < us.length), Rep h m w xs[j] us[j])
      (r2 : ∀ j (h' : j < ys.length) (h'' : j < vs.length), Rep h m w ys[j] vs[j]) : Rep h m w (.fn f xs ys) (.func f us.toArray vs.toArray)
  | agg {xs : List AV} (us : List Value) (h1 : xs.length = us.length) (ho : ∀ u ∈ us, u.oneCell' = true)
      (r1 : ∀ j (h' : j < xs.length) (h'' : j < us.length), Rep h m w xs[j] us[j]) : Rep h m w (.agg xs) (.agg us.toArray)
  | tup {xs : List AV} (us : List Value) (h1 : xs.length = us.length)
      (r1 : ∀ j (h' : j < xs.length) (h'' : j < us.length), Rep h m w xs[j] us[j]) : Rep h m w (.tup xs) (.tuple us.toArray)
  | junk (v : Value) : Rep h m w .junk v
def upd {α : Type} (f : Nat → α) (b : Nat) (x : α) : Nat → α := fun i => if i = b then x else f i
omit [Base] in
theorem upd_same {α : Type} (f : Nat → α) (b : Nat) (x : α) : upd f b x b = x := by simp [upd]
omit [Base] in
theorem upd_ne {α : Type} (f : Nat → α) {b i : Nat} (x : α) (h : i ≠ b) : upd f b x i = f i := by simp [upd, h]
/-- What a step of the run keeps of the abstract blocks and of the world. -/
structure Ext (h : Nat → Option ABlk) (m : Nat → Option Loc) (w : World) (h' : Nat → Option ABlk) (m' : Nat → Option Loc) (w' : World) : Prop where
  ok : ∀ c, Un m w c → w'.heap[c]? = w.heap[c]? ∧ Un m' w' c
  cells : ∀ b t sz g xs, h b = some (.cells t sz g xs) → ∃ g' xs', h' b = some (.cells t sz g' xs') ∧ g ≤ g' ∧ (g = g' → m' b = m b)
  map : ∀ b es, h b = some (.map es) → (∃ es', h' b = some (.map es')) ∧ m' b = m b
  dfr : ∀ b o, h b = some (.dfr o) → (∃ o', h' b = some (.dfr o')) ∧ m' b = m b
  loop : ∀ b st pend fn T ps asg body d, h b = some (.loop st pend fn T ps asg body d) → (∃ st' pend', h' b = some (.loop st' pend' fn T ps asg body d)) ∧ m' b = m b
omit [Base] in
theorem Ext.refl (h : Nat → Option ABlk) (m : Nat → Option Loc) (w : World) : Ext h m w h m w :=
  ⟨fun _ hc => ⟨rfl, hc⟩, fun _ _ _ g xs hb => ⟨g, xs, hb, Nat.le_refl _, fun _ => rfl⟩, fun _ es hb => ⟨⟨es, hb⟩, rfl⟩, fun _ o hb => ⟨⟨o, hb⟩, rfl⟩,
   fun _ st pend _ _ _ _ _ _ hb => ⟨⟨st, pend, hb⟩, rfl⟩⟩
omit [Base] in
theorem Ext.trans {h h' h'' : Nat → Option ABlk} {m m' m'' : Nat → Option Loc} {w w' w'' : World} (a : Ext h m w h' m' w') (c : Ext h' m' w' h'' m'' w'') : Ext h m w h'' m'' w'' := by
  refine ⟨fun x hx => ?_, fun b t sz g xs hb => ?_, fun b es hb => ?_, fun b o hb => ?_, fun b st pend fn T ps asg body d hb => ?_⟩
  · have h1 := a.ok x hx
    have h2 := c.ok x h1.2
    exact ⟨h2.1.trans h1.1, h2.2⟩
  · obtain ⟨g1, xs1, hb1, hg1, hm1⟩ := a.cells b t sz g xs hb
    obtain ⟨g2, xs2, hb2, hg2, hm2⟩ := c.cells b t sz g1 xs1 hb1
    exact ⟨g2, xs2, hb2, Nat.le_trans hg1 hg2, fun e => (hm2 (by omega)).trans (hm1 (by omega))⟩
  · obtain ⟨⟨es1, hb1⟩, hm1⟩ := a.map b es hb
    obtain ⟨hb2, hm2⟩ := c.map b es1 hb1
    exact ⟨hb2, hm2.trans hm1⟩
  · obtain ⟨⟨o1, hb1⟩, hm1⟩ := a.dfr b o hb
    obtain ⟨hb2, hm2⟩ := c.dfr b o1 hb1
    exact ⟨hb2, hm2.trans hm1⟩
  · obtain ⟨⟨st1, pend1, hb1⟩, hm1⟩ := a.loop b st pend fn T ps asg body d hb
    obtain ⟨hb2, hm2⟩ := c.loop b st1 pend1 fn T ps asg body d hb1
    exact ⟨hb2, hm2.trans hm1⟩
theorem Rep.ext {h h' : Nat → Option ABlk} {m m' : Nat → Option Loc} {w w' : World} {x : AV} {v : Value} (r : Rep h m w x v) (e : Ext h m w h' m' w') : Rep h' m' w' x v := by
  induction r with
  | pure p => exact .pure (p.mono (fun c hc => (e.ok c hc.un).1) (fun c hc => (e.ok c hc.un).2.ok hc.2.2))
  | ptr hb hg ho hv =>
    obtain ⟨g', xs', hb', hg', hm'⟩ := e.cells _ _ _ _ _ hb
    refine .ptr hb' (Nat.le_trans hg hg') ho (fun eq => ?_)
    obtain ⟨l, h1, h2⟩ := hv (by omega)
    exact ⟨l, (hm' (by omega)).trans h1, h2⟩
  | osl hb hg ho hv =>
    obtain ⟨g', xs', hb', hg', hm'⟩ := e.cells _ _ _ _ _ hb
    refine .osl hb' (Nat.le_trans hg hg') ho (fun eq => ?_)
    rcases hv (by omega) with ⟨h1, h2⟩ | ⟨l, cap, h1, h2⟩
    · exact .inl ⟨(hm' (by omega)).trans h1, h2⟩
    · exact .inr ⟨l, cap, (hm' (by omega)).trans h1, h2⟩
  | oslc hb hg ho hv =>
    obtain ⟨g', xs', hb', hg', hm'⟩ := e.cells _ _ _ _ _ hb
    refine .oslc hb' (Nat.le_trans hg hg') ho (fun eq => ?_)
    obtain ⟨l, h1, h2⟩ := hv (by omega)
    exact ⟨l, (hm' (by omega)).trans h1, h2⟩
  | map hb hm =>
    obtain ⟨⟨es', hb'⟩, hm'⟩ := e.map _ _ hb
    exact .map hb' (hm'.trans hm)
  | yld hb hk hm =>
    rename_i b k l
    cases k with
    | loop =>
      obtain ⟨⟨st', pend', hb'⟩, hm'⟩ := e.loop _ _ _ _ _ _ _ _ _ hb
      exact .yld hb' rfl (hm'.trans hm)
    | dfr =>
      obtain ⟨⟨o', hb'⟩, hm'⟩ := e.dfr _ _ hb
      exact .yld hb' rfl (hm'.trans hm)
    | cells => cases hk
    | map => cases hk
  | fn us vs hf h1 h2 r1 r2 ih1 ih2 => exact .fn us vs hf h1 h2 ih1 ih2
  | agg us h1 ho r1 ih1 => exact .agg us h1 ho ih1
  | tup us h1 r1 ih1 => exact .tup us h1 ih1
  | junk v => exact .junk v
/-- An abstract block stands for a block of the world. -/
def BRep (h : Nat → Option ABlk) (m : Nat → Option Loc) (w : World) (b : Nat) : ABlk → Prop
  | .cells t _ _ xs => (m b = none ∧ xs = []) ∨ ∃ l arr, m b = some l ∧ w.heap[l.c]? = some (.cells arr t (0, 0)) ∧ arr.size = l.n ∧ xs.length ≤ l.n ∧
      ∀ j (hj : j < xs.length), ∃ v, arr[j]? = some v ∧ v.oneCell' = true ∧ Rep h m w xs[j] v
  | .map es => ∃ l arr clk, m b = some l ∧ w.heap[l.c]? = some (.map arr clk) ∧ arr.size = es.length ∧
      ∀ j (hj : j < es.length), ∃ e, arr[j]? = some e ∧ Rep h m w (es[j]).1 e.key ∧ Rep h m w (es[j]).2 e.val
  | .dfr o => ∃ l, m b = some l ∧ w.heap[l.c]? = some (.deferred (if o then some [] else none))
  | .loop st pend fn T ps asg body d => ∃ l r ld, m b = some l ∧ w.heap[l.c]? = some (.loop r) ∧ r.state = st ∧ r.pending = pend ∧ r.fn = r.fn ∧ r.params = ps ∧ r.assign = asg ∧ r.body = body ∧
      m d = some ld ∧ r.defers = ld.c ∧ r.tmps.size = T.length ∧ ∀ j (hj : j < T.length), ∃ v, r.tmps[j]? = some v ∧ Rep h m w T[j] v
/-- The world agrees with the abstract blocks; what lay there at the start (w0) is as it was. -/
structure Good (w0 : World) (h : Nat → Option ABlk) (m : Nat → Option Loc) (w : World) : Prop where
  below : Below w0.heap.size w0 w
  base : ∀ b l, m b = some l → w0.heap.size ≤ l.c
  inj : ∀ b b' l l', m b = some l → m b' = some l' → l.c = l'.c → b = b'
  supp : ∀ b l, m b = some l → ∃ k, h b = some k
  blk : ∀ b k, h b = some k → BRep h m w b k
  dloop : ∀ b st pend fn T ps asg body d, h b = some (.loop st pend fn T ps asg body d) → ∃ o, h d = some (.dfr o)
  fresh : ∀ c, ((∃ b l, m b = some l ∧ l.c = c) ∨ w.heap.size ≤ c) → Base.B c
omit [Base] in
theorem lt_of_heap {w : World} {c : Nat} {o : Obj} (h : w.heap[c]? = some o) : c < w.heap.size := (Array.getElem?_eq_some_iff.1 h).1
theorem BRep.lt {h : Nat → Option ABlk} {m : Nat → Option Loc} {w : World} {b : Nat} {k : ABlk} (r : BRep h m w b k) {l : Loc} (hl : m b = some l) : l.c < w.heap.size := by
  cases k with
  | cells t sz g xs =>
    rcases r with ⟨h1, _⟩ | ⟨l', arr, h1, h2, _⟩
    · rw [h1] at hl; cases hl
    · rw [h1] at hl; cases hl; exact lt_of_heap h2
  | map es => obtain ⟨l', arr, clk, h1, h2, _⟩ := r; rw [h1] at hl; cases hl; exact lt_of_heap h2
  | dfr o => obtain ⟨l', h1, h2⟩ := r; rw [h1] at hl; cases hl; exact lt_of_heap h2
  | loop st pend fn T ps asg body d => obtain ⟨l', r', ld, h1, h2, _⟩ := r; rw [h1] at hl; cases hl; exact lt_of_heap h2
theorem Good.lt {w0 : World} {h : Nat → Option ABlk} {m : Nat → Option Loc} {w : World} (g : Good w0 h m w) {b : Nat} {l : Loc} (hl : m b = some l) : l.c < w.heap.size := by
  obtain ⟨k, hk⟩ := g.supp b l hl
  exact (g.blk b k hk).lt hl
/-- A block is kept where the world's block is as it was and the values stand as they stood. -/
theorem BRep.ext {h h' : Nat → Option ABlk} {m m' : Nat → Option Loc} {w w' : World} {b : Nat} {k : ABlk} (r : BRep h m w b k) (e : Ext h m w h' m' w') (hm : m' b = m b)
    (hw : ∀ l, m b = some l → w'.heap[l.c]? = w.heap[l.c]?)
    (hd : ∀ st pend fn T ps asg body d, k = .loop st pend fn T ps asg body d → m' d = m d) : BRep h' m' w' b k := by
  cases k with
  | cells t sz g xs =>
    rcases r with ⟨h1, h2⟩ | ⟨l, arr, h1, h2, h3, h4, h5⟩
    · exact .inl ⟨hm.trans h1, h2⟩
    · refine .inr ⟨l, arr, hm.trans h1, (hw l h1).trans h2, h3, h4, fun j hj => ?_⟩
      obtain ⟨v, hv, ho, hr⟩ := h5 j hj
      exact ⟨v, hv, ho, hr.ext e⟩
  | map es =>
    obtain ⟨l, arr, clk, h1, h2, h3, h4⟩ := r
    refine ⟨l, arr, clk, hm.trans h1, (hw l h1).trans h2, h3, fun j hj => ?_⟩
    obtain ⟨x, hx, hk, hv⟩ := h4 j hj
    exact ⟨x, hx, hk.ext e, hv.ext e⟩
  | dfr o => obtain ⟨l, h1, h2⟩ := r; exact ⟨l, hm.trans h1, (hw l h1).trans h2⟩
  | loop st pend fn T ps asg body d =>
    obtain ⟨l, r', ld, h1, h2, a1, a2, a3, a4, a5, a6, a7, a8, a9, a10⟩ := r
    refine ⟨l, r', ld, hm.trans h1, (hw l h1).trans h2, a1, a2, a3, a4, a5, a6, (hd _ _ _ _ _ _ _ _ rfl).trans a7, a8, a9, fun j hj => ?_⟩
    obtain ⟨v, hv, hr⟩ := a10 j hj
    exact ⟨v, hv, hr.ext e⟩
/-- New memory that nobody of the abstract blocks knows: a callee's, a literal's. -/
theorem Good.garbage {w0 : World} {h : Nat → Option ABlk} {m : Nat → Option Loc} {w w' : World} (g : Good w0 h m w) (hb : Below w.heap.size w w') :
    Good w0 h m w' ∧ Ext h m w h m w' := by
  have e : Ext h m w h m w' := by
    refine ⟨fun c hc => ⟨hb.block c hc.1, ⟨Nat.lt_of_lt_of_le hc.1 hb.size, hc.2⟩⟩, fun _ _ _ g xs hb => ⟨g, xs, hb, Nat.le_refl _, fun _ => rfl⟩, fun _ es hb => ⟨⟨es, hb⟩, rfl⟩, fun _ o hb => ⟨⟨o, hb⟩, rfl⟩,
      fun _ st pend _ _ _ _ _ _ hb => ⟨⟨st, pend, hb⟩, rfl⟩⟩
  refine ⟨⟨g.below.trans (hb.mono g.below.size), g.base, g.inj, g.supp, fun b k hk => (g.blk b k hk).ext e rfl (fun l hl => hb.block _ (g.lt hl)) (fun _ _ _ _ _ _ _ _ _ => rfl), g.dloop, fun c hc => g.fresh c (hc.imp id (Nat.le_trans hb.size))⟩, e⟩
/-- Two kinds of abstract blocks of which the second may come in the first's place. -/
def Fits (k k' : ABlk) (moved : Prop) : Prop :=
  match k, k' with
  | .cells t sz g _, .cells t' sz' g' _ => t' = t ∧ sz' = sz ∧ g ≤ g' ∧ (g = g' → ¬ moved)
  | .map _, .map _ => ¬ moved
  | .dfr _, .dfr _ => ¬ moved
  | .loop _ _ fn T ps asg body d, .loop _ _ fn' T' ps' asg' body' d' => fn' = fn ∧ T' = T ∧ ps' = ps ∧ asg' = asg ∧ body' = body ∧ d' = d ∧ ¬ moved
  | _, _ => False
section put
variable {w0 : World} {h : Nat → Option ABlk} {m : Nat → Option Loc} {w w' : World} {b : Nat} {k : ABlk} {l' : Loc}
/-- ONE ABSTRACT BLOCK IS MADE, OR WRITTEN ANEW, OR MOVED: what stays. -/
theorem ext_put (_g : Good w0 h m w) (hsize : w.heap.size ≤ w'.heap.size)
    (hsame : ∀ c, c < w.heap.size → (∀ l, m b = some l → l.c ≠ c) → w'.heap[c]? = w.heap[c]?)
    (hl : m b = some l' ∨ w.heap.size ≤ l'.c)
    (hk : ∀ k0, h b = some k0 → Fits k0 k (m b ≠ some l')) :
    Ext h m w (upd h b (some k)) (upd m b (some l')) w' := by
  refine ⟨fun c hc => ⟨hsame c hc.1 (fun l hml => hc.2 b l hml), Nat.lt_of_lt_of_le hc.1 hsize, fun b' l0 hb' => ?_⟩, fun b' t sz g0 xs hb' => ?_, fun b' es hb' => ?_, fun b' o hb' => ?_, fun b' st pend fn T ps asg body d hb' => ?_⟩
  · by_cases hbb : b' = b
    · subst hbb
      rw [upd_same] at hb'
      cases hb'
      rcases hl with hl | hl
      · exact hc.2 b' l' hl
      · have := hc.1; omega
    · rw [upd_ne _ _ hbb] at hb'; exact hc.2 b' l0 hb'
  · by_cases hbb : b' = b
    · subst hbb
      have hf := hk _ hb'
      cases k with
      | cells t' sz' g' xs' =>
        obtain ⟨rfl, rfl, h3, h4⟩ := hf
        exact ⟨g', xs', upd_same _ _ _, h3, fun e => by rw [upd_same]; exact (Classical.not_not.1 (h4 e)).symm⟩
      | map es => exact hf.elim
      | dfr o => exact hf.elim
      | loop st pend fn T ps asg body d => exact hf.elim
    · exact ⟨g0, xs, by rw [upd_ne _ _ hbb]; exact hb', Nat.le_refl _, fun _ => upd_ne _ _ hbb⟩
  · by_cases hbb : b' = b
    · subst hbb
      have hf := hk _ hb'
      cases k with
      | cells t' sz' g' xs' => exact hf.elim
      | map es' => exact ⟨⟨es', upd_same _ _ _⟩, by rw [upd_same]; exact (Classical.not_not.1 hf).symm⟩
      | dfr o => exact hf.elim
      | loop st pend fn T ps asg body d => exact hf.elim
    · exact ⟨⟨es, by rw [upd_ne _ _ hbb]; exact hb'⟩, upd_ne _ _ hbb⟩
  · by_cases hbb : b' = b
    · subst hbb
      have hf := hk _ hb'
      cases k with
      | cells t' sz' g' xs' => exact hf.elim
      | map es' => exact hf.elim
      | dfr o' => exact ⟨⟨o', upd_same _ _ _⟩, by rw [upd_same]; exact (Classical.not_not.1 hf).symm⟩
      | loop st pend fn T ps asg body d => exact hf.elim
    · exact ⟨⟨o, by rw [upd_ne _ _ hbb]; exact hb'⟩, upd_ne _ _ hbb⟩
  · by_cases hbb : b' = b
    · subst hbb
      have hf := hk _ hb'
      cases k with
      | cells t' sz' g' xs' => exact hf.elim
      | map es' => exact hf.elim
      | dfr o' => exact hf.elim
      | loop st' pend' fn' T' ps' asg' body' d' =>
        obtain ⟨rfl, rfl, rfl, rfl, rfl, rfl, h7⟩ := hf
        exact ⟨⟨st', pend', upd_same _ _ _⟩, by rw [upd_same]; exact (Classical.not_not.1 h7).symm⟩
    · exact ⟨⟨st, pend, by rw [upd_ne _ _ hbb]; exact hb'⟩, upd_ne _ _ hbb⟩
theorem good_put (g : Good w0 h m w) (hos : w'.os = w.os) (htape : w'.tape = w.tape) (hout : w'.output = w.output) (hsize : w.heap.size ≤ w'.heap.size)
    (hsame : ∀ c, c < w.heap.size → (∀ l, m b = some l → l.c ≠ c) → w'.heap[c]? = w.heap[c]?)
    (hl : m b = some l' ∨ w.heap.size ≤ l'.c)
    (hk : ∀ k0, h b = some k0 → Fits k0 k (m b ≠ some l'))
    (hb : BRep (upd h b (some k)) (upd m b (some l')) w' b k)
    (hd : ∀ st pend fn T ps asg body d, k = .loop st pend fn T ps asg body d → ∃ o, h d = some (.dfr o)) : Good w0 (upd h b (some k)) (upd m b (some l')) w' := by
  have e := ext_put (k := k) (w' := w') (l' := l') g hsize hsame hl hk
  have hbase : ∀ b' l, upd m b (some l') b' = some l → w0.heap.size ≤ l.c := by
    intro b' l hml
    by_cases hbb : b' = b
    · subst hbb
      rw [upd_same] at hml; cases hml
      rcases hl with hl | hl
      · exact g.base b' l' hl
      · exact Nat.le_trans g.below.size hl
    · rw [upd_ne _ _ hbb] at hml; exact g.base b' l hml
  refine ⟨⟨hos.trans g.below.os, htape.trans g.below.tape, hout.trans g.below.output, Nat.le_trans g.below.size hsize, fun c hc => ?_⟩, hbase, fun b1 b2 l1 l2 h1 h2 hc => ?_, fun b' l hml => ?_, fun b' k' hk' => ?_, fun b' st pend fn T ps asg body d hb' => ?_, fun c hc => ?_⟩
  · have hlt : c < w.heap.size := Nat.lt_of_lt_of_le hc g.below.size
    rw [hsame c hlt (fun l hml e => by have := g.base b l hml; omega)]
    exact g.below.block c hc
  · by_cases e1 : b1 = b
    · by_cases e2 : b2 = b
      · exact e1.trans e2.symm
      · subst e1
        rw [upd_same] at h1; cases h1
        rw [upd_ne _ _ e2] at h2
        rcases hl with hl | hl
        · exact g.inj _ _ _ _ hl h2 hc
        · have := g.lt h2; omega
    · rw [upd_ne _ _ e1] at h1
      by_cases e2 : b2 = b
      · subst e2
        rw [upd_same] at h2; cases h2
        rcases hl with hl | hl
        · exact g.inj _ _ _ _ h1 hl hc
        · have := g.lt h1; omega
      · rw [upd_ne _ _ e2] at h2
        exact g.inj _ _ _ _ h1 h2 hc
  · by_cases hbb : b' = b
    · subst hbb; exact ⟨k, upd_same _ _ _⟩
    · rw [upd_ne _ _ hbb] at hml; rw [upd_ne _ _ hbb]; exact g.supp b' l hml
  · by_cases hbb : b' = b
    · subst hbb
      rw [upd_same] at hk'; cases hk'; exact hb
    · rw [upd_ne _ _ hbb] at hk'
      refine (g.blk b' k' hk').ext e (upd_ne _ _ hbb) (fun l hml => hsame _ (g.lt hml) (fun l2 hm2 e => hbb (g.inj _ _ _ _ hml hm2 e.symm))) (fun st pend fn T ps asg body d ek => ?_)
      by_cases hdb : d = b
      · subst hdb
        subst ek
        obtain ⟨o, ho⟩ := g.dloop _ _ _ _ _ _ _ _ _ hk'
        exact (e.dfr _ _ ho).2
      · exact upd_ne _ _ hdb
  · by_cases hbb : b' = b
    · subst hbb
      rw [upd_same] at hb'; cases hb'
      obtain ⟨o, ho⟩ := hd _ _ _ _ _ _ _ _ rfl
      obtain ⟨⟨o', ho'⟩, _⟩ := e.dfr _ _ ho
      exact ⟨o', ho'⟩
    · rw [upd_ne _ _ hbb] at hb'
      obtain ⟨o, ho⟩ := g.dloop _ _ _ _ _ _ _ _ _ hb'
      obtain ⟨⟨o', ho'⟩, _⟩ := e.dfr _ _ ho
      exact ⟨o', ho'⟩
  · rcases hc with ⟨b', l, hml, he⟩ | hc
    · by_cases hbb : b' = b
      · subst hbb
        rw [upd_same] at hml; cases hml
        rcases hl with hl | hl
        · exact g.fresh c (.inl ⟨b', l', hl, he⟩)
        · exact g.fresh c (.inr (by omega))
      · rw [upd_ne _ _ hbb] at hml
        exact g.fresh c (.inl ⟨b', l, hml, he⟩)
    · exact g.fresh c (.inr (by omega))
end put
end Go.Am

/- The abstract machine Am, part B: what each operation of the model does to abstract values and blocks (effK), the contracts of calls (CallS). -/
namespace Go.Am
open Go.RowKit
/-- The fence that lets everything in; r: the loop whose round this is. -/
def FW (r : Option Nat) : Fence := { fn := fun _ => True, depth := none, alive := false, round := r }
def lget : List AV → Nat → AV
  | [], _ => .junk
  | x :: _, 0 => x
  | _ :: t, n + 1 => lget t n
def lset : List AV → Nat → AV → List AV
  | [], _, _ => []
  | _ :: t, 0, y => y :: t
  | x :: t, n + 1, y => x :: lset t n y
def constAV : Value → AV
  | .bool b => .bool b
  | .int k n => .int k n
  | .string s => .str s
  | .pointer none => .nilp
  | .slice none 0 0 => .nils
  | .map none => .nilm
  | .nilFunc => .nilf
  | _ => .junk
def aev (T : List AV) : Operand → AV
  | .tmp t => lget T t
  | .const v => constAV v
  | .global _ => .junk
  | .func f => .fn (.func f) [] []
/-- The cells of a value. -/
def cellsOf : AV → Option (List AV)
  | .agg xs => some xs
  | .tup _ => none
  | .junk => none
  | .int k n => some [.int k n]
  | .bool b => some [.bool b]
  | .str s => some [.str s]
  | .nilp => some [.nilp]
  | .nils => some [.nils]
  | .nilm => some [.nilm]
  | .nilf => some [.nilf]
  | .psl f n xs => some [.psl f n xs]
  | .pptr xs i => some [.pptr xs i]
  | .pmap es => some [.pmap es]
  | .fn f xs ys => some [.fn f xs ys]
  | .ptr b g o => some [.ptr b g o]
  | .osl b g o l => some [.osl b g o l]
  | .oslc b g o l c => some [.oslc b g o l c]
  | .map b => some [.map b]
/-- A cell that leads to nothing that the call itself has made. -/
def cellPure : AV → Bool
  | .int _ _ => true
  | .bool _ => true
  | .str _ => true
  | .nilp => true
  | .nils => true
  | .nilm => true
  | .nilf => true
  | .psl _ _ _ => true
  | .pptr _ _ => true
  | .pmap _ => true
  | .fn (.func _) xs ys => xs.isEmpty && ys.isEmpty
  | .fn (.method _) _ _ => false
  | .fn (.methodOf _ _) _ _ => false
  | .fn (.via _ _ _ _) _ _ => false
  | .fn (.yield _) _ _ => false
  | .agg _ => false
  | .tup _ => false
  | .ptr _ _ _ => false
  | .osl _ _ _ _ => false
  | .oslc _ _ _ _ _ => false
  | .map _ => false
  | .junk => false
/-- Tables of the program. -/
def tsz (P : Program) (t : TypeId) : Option Nat := (P.info? t).map (·.size)
def tagg (P : Program) (t : TypeId) : Option Bool := (P.underlying t).map fun d => match d with | .struct _ | .array _ _ => true | _ => false
def tint (P : Program) (t : TypeId) : Option IntKind := (P.underlying t).bind fun d => match d with | .int k => some k | _ => none
def tslice (P : Program) (t : TypeId) : Option TypeId := (P.underlying t).bind fun d => match d with | .slice e => some e | _ => none
def tarr (P : Program) (t : TypeId) : Option (Nat × TypeId) := (P.underlying t).bind fun d => match d with | .array n e => some (n, e) | _ => none
def tmap (P : Program) (t : TypeId) : Option (TypeId × TypeId) := (P.underlying t).bind fun d => match d with | .map k e => some (k, e) | _ => none
def tfld (P : Program) (t : TypeId) (f : Nat) : Option (Nat × TypeId) := (P.underlying t).bind fun d => match d with | .struct fs => (fs[f]?).map fun x => (x.offset, x.type) | _ => none
def tbytes (P : Program) (t : TypeId) : Option Nat := (P.info? t).map (·.bytes)
def tplaces (P : Program) (t : TypeId) : Option (List (Nat × Nat)) := (P.underlying t).bind fun d => match d with | .struct fs => fs.toList.mapM (fun f => (P.info? f.type).map fun i => (f.offset, i.size)) | _ => none
/-- The zero value's cells, as abstract values. -/
def tzero (P : Program) (t : TypeId) : Option (List AV) := ((P.info? t).bind (·.zero)).map fun v => v.cells.toList.map constAV
def zeroAV : Value → AV
  | .agg cs => .agg (cs.toList.map constAV)
  | v => constAV v
def zeroOK : AV → Bool
  | .agg xs => xs.all cellPure
  | x => cellPure x
/-- The zero value. -/
def tzv (P : Program) (t : TypeId) : Option AV := ((P.info? t).bind (·.zero)).map zeroAV
/-- A pure call: it reads its arguments, leaves what lay there as it was, and hands back r in new memory. -/
def Enters (P : Program) (f : FuncId) : Prop := ∀ (w : World) (args : Array Value), (callFunc f args).run P w = .ok (.enter f args) w
def CallS (P : Program) (f : FuncId) (args : List AV) (r : AV) : Prop :=
  Enters P f ∧ ∀ (w : World) (vs : List Value) (ok : Nat → Prop), (∀ c, ok c → c < w.heap.size) → args.length = vs.length → (∀ j (h : j < args.length) (h' : j < vs.length), PRep ok w args[j] vs[j]) →
    CallsIn (FW none) 0 P f vs.toArray w fun e w' => ∃ v, e = .returned v ∧ PRep (fun c => ok c ∨ (w.heap.size ≤ c ∧ c < w'.heap.size)) w' r v ∧ Below w.heap.size w w'
def CallK (P : Program) (f : FuncId) (args : List AV) (K : AV → Prop) : Prop := ∃ r, CallS P f args r ∧ K r
/-- What an operation leaves: its value, the blocks that it looked into, the block that it wrote. -/
structure E where
  val : AV
  rd : List Nat
  wr : Option (Nat × ABlk)
def updo (h : Nat → Option ABlk) : Option (Nat × ABlk) → Nat → Option ABlk
  | none => h
  | some (b, k) => upd h b (some k)
def arith (k : IntKind) (r : Int) (K : AV → Prop) : Prop :=
  match k with
  | .i64 => (-9223372036854775808 ≤ r ∧ r ≤ 9223372036854775807) ∧ K (.int .i64 r)
  | .i8 => K (.int .i8 (IntKind.i8.wrap r))
  | .i16 => K (.int .i16 (IntKind.i16.wrap r))
  | .i32 => K (.int .i32 (IntKind.i32.wrap r))
  | .u8 => K (.int .u8 (IntKind.u8.wrap r))
  | .u16 => K (.int .u16 (IntKind.u16.wrap r))
  | .u32 => K (.int .u32 (IntKind.u32.wrap r))
  | .u64 => K (.int .u64 (IntKind.u64.wrap r))
def bits (op : BinOp) (k : IntKind) (a b : Int) (K : AV → Prop) : Prop :=
  match op with
  | .and => K (.int k (k.wrap (BitVec.ofInt k.bits a &&& BitVec.ofInt k.bits b).toNat))
  | .or => K (.int k (k.wrap (BitVec.ofInt k.bits a ||| BitVec.ofInt k.bits b).toNat))
  | .xor => K (.int k (k.wrap (BitVec.ofInt k.bits a ^^^ BitVec.ofInt k.bits b).toNat))
  | .andNot => K (.int k (k.wrap (BitVec.ofInt k.bits a &&& ~~~ BitVec.ofInt k.bits b).toNat))
  | _ => False
def binInt (op : BinOp) (k k' : IntKind) (a b : Int) (K : AV → Prop) : Prop :=
  match op with
  | .shl => 0 ≤ b ∧ K (.int k (k.wrap (a * 2 ^ (min b.toNat k.bits))))
  | .shr => 0 ≤ b ∧ K (.int k (a.fdiv (2 ^ (min b.toNat k.bits))))
  | .add => k = k' ∧ arith k (a + b) K
  | .sub => k = k' ∧ arith k (a - b) K
  | .mul => k = k' ∧ arith k (a * b) K
  | .quo => k = k' ∧ b ≠ 0 ∧ arith k (a.tdiv b) K
  | .rem => k = k' ∧ b ≠ 0 ∧ K (.int k (a.tmod b))
  | .and => k = k' ∧ bits .and k a b K
  | .or => k = k' ∧ bits .or k a b K
  | .xor => k = k' ∧ bits .xor k a b K
  | .andNot => k = k' ∧ bits .andNot k a b K
  | .eql => k = k' ∧ K (.bool (decide (a = b)))
  | .neq => k = k' ∧ K (.bool (!decide (a = b)))
  | .lss => k = k' ∧ K (.bool (decide (a < b)))
  | .leq => k = k' ∧ K (.bool (decide (a ≤ b)))
  | .gtr => k = k' ∧ K (.bool (decide (b < a)))
  | .geq => k = k' ∧ K (.bool (decide (b ≤ a)))
/-- Are two lists of numbers and bools the same? -/
def scalEq : List AV → List AV → Option Bool
  | [], [] => some true
  | .int k a :: xs, .int k' b :: ys => if k = k' then (scalEq xs ys).map (decide (a = b) && ·) else none
  | .bool a :: xs, .bool b :: ys => (scalEq xs ys).map ((a == b) && ·)
  | _, _ => none
def scalVal : AV → Option Value
  | .int k n => some (.int k n)
  | .bool b => some (.bool b)
  | _ => none
def kindB : AV → Bool
  | .bool _ => true
  | _ => false
def flatF (f : TypeId → Option (List Bool)) : List Field → Nat → Option (List Bool)
  | [], _ => some []
  | fd :: fs, off => if (fd.name != "_") = true ∧ fd.offset = off then (match f fd.type with
    | some l => (flatF f fs (off + l.length)).map (l ++ ·)
    | none => none) else none
/-- The cells of a type that is made of numbers (false) and bools (true) alone. -/
def flatT (P : Program) : Nat → TypeId → Option (List Bool)
  | 0, _ => none
  | d + 1, t => match P.underlying t with
    | some (.int _) => if tagg P t = some false ∧ tsz P t = some 1 then some [false] else none
    | some .bool => if tagg P t = some false ∧ tsz P t = some 1 then some [true] else none
    | some (.struct fs) => if P.stoodInHeld t = false ∧ tagg P t = some true then (match flatF (flatT P d) fs.toList 0 with
      | some l => if tsz P t = some l.length then some l else none
      | none => none) else none
    | some (.array n e) => if tagg P t = some true then (match flatT P d e with
      | some l => if tsz P t = some (n * l.length) then some (List.replicate n l).flatten else none
      | none => none) else none
    | _ => none
def tkb (P : Program) (t : TypeId) : Option (List Bool) := if P.eqGuardType P.depth t = false ∧ tagg P t = some true then flatT P 8 t else none
/-- A type whose equality is that of its cells, each a number or a bool. -/
def EqOK (P : Program) (t : TypeId) : Prop :=
  (∀ bs, tkb P t = some bs → P.eqGuardType P.depth t = false) ∧ ∀ (xs ys : List AV) (us vs : List Value) (b : Bool) (w : World), xs.mapM scalVal = some us → ys.mapM scalVal = some vs → tkb P t = some (xs.map kindB) → tkb P t = some (ys.map kindB) → scalEq xs ys = some b →
    (Op.equalIn 10000 t (.agg us.toArray) (.agg vs.toArray)).run P w = .ok b w
def binK (P : Program) (op : BinOp) (t : TypeId) (x y : AV) (K : AV → Prop) : Prop :=
  match x, y with
  | .int k a, .int k' b => binInt op k k' a b K
  | .bool a, .bool b => (match op with
    | .eql => P.underlying t = some .bool ∧ K (.bool (a == b))
    | .neq => P.underlying t = some .bool ∧ K (.bool (!(a == b)))
    | _ => False)
  | .agg xs, .agg ys => EqOK P t ∧ tkb P t = some (xs.map kindB) ∧ tkb P t = some (ys.map kindB) ∧ (match scalEq xs ys with
    | some b => (match op with
      | .eql => K (.bool b)
      | .neq => K (.bool (!b))
      | _ => False)
    | none => False)
  | _, _ => False
def unK (op : UnOp) (x : AV) (K : AV → Prop) : Prop :=
  match op, x with
  | .neg, .int k n => arith k (0 - n) K
  | .not, .bool b => K (.bool (!b))
  | _, _ => False
/-- Cells off on from a list. -/
def window (xs : List AV) (off n : Nat) : List AV := (xs.drop off).take n
def splice (xs : List AV) (off : Nat) (ys : List AV) : List AV := xs.take off ++ ys ++ xs.drop (off + ys.length)
/-- One cell, or a struct's. -/
def loadK (P : Program) (t : TypeId) (xs : List AV) (off : Nat) (K : AV → Prop) : Prop :=
  match tagg P t, tsz P t with
  | some true, some n => off + n ≤ xs.length ∧ K (.agg (window xs off n))
  | some false, some _ => (match xs[off]? with
    | some x => K x
    | none => False)
  | _, _ => False
def afill (place : Nat → Option (Nat × Nat)) : List AV → List (Nat × AV) → Option (List AV)
  | cells, [] => some cells
  | cells, (i, x) :: rest =>
    match place i, cellsOf x with
    | some (off, size), some xs => if xs.length = size ∧ off + size ≤ cells.length then afill place (splice cells off xs) rest else none
    | _, _ => none
/-- A value that leads to nothing that the call itself has made. -/
def pureA : AV → Bool
  | .agg xs => xs.all cellPure
  | .fn (.func _) xs ys => xs.all cellPure && ys.all cellPure
  | x => cellPure x
/-- The abstract value of a fold by max or min. -/
def mm (isMax : Bool) : List AV → (AV → Prop) → Prop
  | [.int k a], K => K (.int k a)
  | [.int k a, .int k' b], K => k = k' ∧ K (.int k (if isMax then (if b > a then b else a) else (if b < a then b else a)))
  | _, _ => False
def mapFind : List (AV × AV) → AV → Option (Option (Nat × AV))
  | [], _ => some none
  | (.int k a, v) :: es, .int k' b => if k = k' then (if a = b then some (some (0, v)) else (mapFind es (.int k' b)).map (·.map fun p => (p.1 + 1, p.2))) else none
  | (.agg ys, v) :: es, .agg xs => (match scalEq xs ys with
    | some true => some (some (0, v))
    | some false => (mapFind es (.agg xs)).map (·.map fun p => (p.1 + 1, p.2))
    | none => none)
  | _, _ => none
/-- A key that the map's type takes: a number, or a struct of numbers. -/
def keyOK (P : Program) (kt : TypeId) : AV → Prop
  | .int _ _ => (tint P kt).isSome = true
  | .agg xs => EqOK P kt ∧ tkb P kt = some (xs.map kindB)
  | _ => False
/-- The entries of a map. -/
def mapOf (x : AV) (h : Nat → Option ABlk) (f : List (AV × AV) → List Nat → Prop) : Prop :=
  match x with
  | .map b => (match h b with
    | some (.map es) => f es [b]
    | _ => False)
  | .pmap es => f es []
  | _ => False
def builtinK (P : Program) (b : Builtin) (ts : Array TypeId) (args : List AV) (h : Nat → Option ABlk) (nx : Nat) (K : E → Prop) : Prop :=
  match b, ts.toList, args with
  | .len, [t], [x] => (match x with
    | .psl _ n _ => (tslice P t).isSome = true ∧ K ⟨.int .i64 n, [], none⟩
    | .nils => (tslice P t).isSome = true ∧ K ⟨.int .i64 0, [], none⟩
    | .osl b g _ len => (tslice P t).isSome = true ∧ (match h b with
      | some (.cells _ _ g' _) => g = g' ∧ K ⟨.int .i64 len, [b], none⟩
      | _ => False)
    | .map b => (tmap P t).isSome = true ∧ (match h b with
      | some (.map es) => K ⟨.int .i64 es.length, [b], none⟩
      | _ => False)
    | _ => False)
  | .max, _, xs => mm true xs fun v => K ⟨v, [], none⟩
  | .min, _, xs => mm false xs fun v => K ⟨v, [], none⟩
  | .append, [t, t'], [s, x] => t = t' ∧ (match tslice P t with
    | some e => (match tsz P e, tbytes P e, tzero P e with
      | some sz, some by_, some zs => zs.length = sz ∧ 0 < sz ∧ (match x with
        | .psl _ n ys => ys.length = n * sz ∧ (match s with
          | .nils => n * by_ ≤ 140737488355328 ∧ n ≤ 9223372036854775807 ∧ K ⟨.osl nx 0 0 n, [], some (nx, .cells e sz 0 ys)⟩
          | .osl b g off len => (match h b with
            | some (.cells e' sz' g' xs) => g = g' ∧ off = 0 ∧ e' = e ∧ sz' = sz ∧ xs.length = len * sz ∧ (len + n) * by_ ≤ 140737488355328 ∧ len + n ≤ 9223372036854775807 ∧
                K ⟨.osl b (g + 1) 0 (len + n), [], some (b, .cells e sz (g + 1) (xs ++ ys))⟩
            | _ => False)
          | .psl true len xs => (0 < len ∧ 0 < n ∧ xs.length = len * sz ∧ (len + n) * by_ ≤ 140737488355328 ∧ len + n ≤ 9223372036854775807 ∧ K ⟨.osl nx 0 0 (len + n), [], some (nx, .cells e sz 0 (xs ++ ys))⟩) ∨
              (len = 0 ∧ xs = [] ∧ n * by_ ≤ 140737488355328 ∧ n ≤ 9223372036854775807 ∧ (n = 0 → K ⟨.psl true 0 [], [], some (nx, .cells e sz 0 [])⟩) ∧ (0 < n → K ⟨.osl nx 0 0 n, [], some (nx, .cells e sz 0 ys)⟩))
          | _ => False)
        | _ => False)
      | _, _, _ => False)
    | none => False)
  | .delete, [t, _], [mp, k] => (match mp with
    | .map b => (match tmap P t, h b with
      | some (kt, _), some (.map es) => (tint P kt).isSome = true ∧ (match k with
        | .int kk n => (match mapFind es (.int kk n) with
          | some (some (i, _)) => K ⟨.junk, [], some (b, .map (es.eraseIdx i))⟩
          | some none => K ⟨.junk, [], some (b, .map es)⟩
          | none => False)
        | _ => False)
      | _, _ => False)
    | _ => False)
  | _, _, _ => False
def makeK (l c : AV) (K : Nat → Prop) : Prop :=
  match l, c with
  | .int _ n, .int _ n' => n = n' ∧ 0 ≤ n ∧ K n.toNat
  | _, _ => False
def sliceK (sz : Nat) (x : AV) (lo hi : Option AV) (K : AV → Prop) : Prop :=
  match x with
  | .psl _ n xs => (match lo.getD (.int .i64 0) with
    | .int _ l => (match hi.getD (.int .i64 n) with
      | .int _ u => 0 ≤ l ∧ l ≤ u ∧ u ≤ n ∧ xs.length = n * sz ∧ K (.psl false (u - l).toNat (window xs (l.toNat * sz) ((u - l).toNat * sz)))
      | _ => False)
    | _ => False)
  | _ => False
def cutO (sz b g off len : Nat) (lo hi : Option AV) (K : AV → Prop) : Prop :=
  match lo.getD (.int .i64 0) with
  | .int _ l => (match hi.getD (.int .i64 len) with
    | .int _ u => 0 ≤ l ∧ l ≤ u ∧ u ≤ len ∧ (l = 0 ∨ l < len) ∧ K (.osl b g (off + l.toNat * sz) (u - l).toNat)
    | _ => False)
  | _ => False
/-- A byte of a text. -/
def chrK (s : ByteArray) (i : Int) (k : UInt8 → Prop) : Prop :=
  match (if 0 ≤ i then s[i.toNat]? else none) with
  | some b => k b
  | none => False
/-- What an operation does. -/
def effK (P : Program) (o : Oper) (ρ : Operand → AV) (h : Nat → Option ABlk) (nx : Nat) (K : E → Prop) : Prop :=
  match o.op with
  | .move x => K ⟨ρ x, [], none⟩
  | .assign x => K ⟨ρ x, [], none⟩
  | .pick c a b => (match ρ c with
    | .bool true => K ⟨ρ a, [], none⟩
    | .bool false => K ⟨ρ b, [], none⟩
    | _ => False)
  | .alloc t => (match tzero P t with
    | some xs => (∀ x ∈ xs, cellPure x = true) ∧ K ⟨.ptr nx 0 0, [], some (nx, .cells t 1 0 xs)⟩
    | none => False)
  | .box t x => (match cellsOf (ρ x) with
    | some xs => K ⟨.ptr nx 0 0, [], some (nx, .cells t 1 0 xs)⟩
    | none => False)
  | .build t parts => (match tzero P t with
    | some zs => (∀ x ∈ zs, cellPure x = true) ∧ (match tarr P t with
      | some (_, e) => (match tsz P e with
        | some sz => (match afill (fun i => some (i * sz, sz)) zs (parts.toList.map fun p => (p.1, ρ p.2)) with
          | some xs => K ⟨.agg xs, [], none⟩
          | none => False)
        | none => False)
      | none => (match tplaces P t with
        | some ps => (match afill (fun i => ps[i]?) zs (parts.toList.map fun p => (p.1, ρ p.2)) with
          | some xs => K ⟨.agg xs, [], none⟩
          | none => False)
        | none => False))
    | none => False)
  | .buildSlice t len parts => (match tslice P t with
    | some e => (match tsz P e, tzero P e with
      | some sz, some zs => zs.length = sz ∧ 0 < sz ∧ len * sz ≤ 16777216 ∧ (∀ x ∈ zs, cellPure x = true) ∧ (match afill (fun i => some (i * sz, sz)) (List.replicate len zs).flatten (parts.toList.map fun p => (p.1, ρ p.2)) with
        | some xs => (∀ x ∈ xs, cellPure x = true) ∧ K ⟨.psl true len xs, [], none⟩
        | none => False)
      | _, _ => False)
    | none => False)
  | .load t a => (match ρ a with
    | .ptr b g off => (match h b with
      | some (.cells _ _ g' xs) => g = g' ∧ loadK P t xs off fun v => K ⟨v, [b], none⟩
      | _ => False)
    | .pptr xs i => loadK P t xs i fun v => K ⟨v, [], none⟩
    | _ => False)
  | .store t a x => (match ρ a with
    | .ptr b g off => (match h b, cellsOf (ρ x) with
      | some (.cells t' sz g' xs), some ys => g = g' ∧ some ys.length = tsz P t ∧ off + ys.length ≤ xs.length ∧ K ⟨.junk, [], some (b, .cells t' sz g' (splice xs off ys))⟩
      | _, _ => False)
    | _ => False)
  | .nilCheck x => (match ρ x with
    | .ptr b g off => (match h b with
      | some (.cells _ _ g' _) => g = g' ∧ K ⟨.ptr b g off, [b], none⟩
      | _ => False)
    | .pptr xs i => K ⟨.pptr xs i, [], none⟩
    | _ => False)
  | .binOp op t x y _ => binK P op t (ρ x) (ρ y) fun v => K ⟨v, [], none⟩
  | .unOp op _ x => unK op (ρ x) fun v => K ⟨v, [], none⟩
  | .convert s dst x => (match tint P dst, ρ x with
    | some k, .int _ n => (P.underlying s).isSome = true ∧ arith k n fun v => K ⟨v, [], none⟩
    | _, _ => False)
  | .makeFunc f first captured => (∀ l, f ≠ .yield l) ∧ K ⟨.fn f (first.toList.map ρ) (captured.toList.map ρ), [], none⟩
  | .makeMap _ none => K ⟨.map nx, [], some (nx, .map [])⟩
  | .makeSlice t l c => (match tslice P t with
    | some e => (match tsz P e, tbytes P e, tzero P e with
      | some sz, some by_, some zs => zs.length = sz ∧ 0 < sz ∧ (∀ x ∈ zs, cellPure x = true) ∧ makeK (ρ l) (ρ c) fun n =>
          by_ * n ≤ 281474976710656 ∧ n ≤ 9223372036854775807 ∧ K ⟨.osl nx 0 0 n, [], some (nx, .cells e sz 0 (List.replicate n zs).flatten)⟩
      | _, _, _ => False)
    | none => False)
  | .slice t x lo hi none => (match tslice P t with
    | some e => (match tsz P e with
      | some sz => (match ρ x with
        | .osl b g off len => (match h b with
          | some (.cells _ sz' g' _) => g = g' ∧ sz' = sz ∧ cutO sz b g off len (lo.map ρ) (hi.map ρ) fun v => K ⟨v, [b], none⟩
          | _ => False)
        | y => sliceK sz y (lo.map ρ) (hi.map ρ) fun v => K ⟨v, [], none⟩)
      | none => False)
    | none => False)
  | .fieldAddr s x f => (match tfld P s f with
    | some (off, ft) => (match tsz P ft, ρ x with
      | some sz, .ptr b g o => 0 < sz ∧ (match h b with
        | some (.cells _ _ g' _) => g = g' ∧ K ⟨.ptr b g (o + off), [b], none⟩
        | _ => False)
      | some sz, .pptr xs i => 0 < sz ∧ K ⟨.pptr xs (i + off), [], none⟩
      | _, _ => False)
    | none => False)
  | .field t x f => (match tfld P t f, ρ x with
    | some (off, ft), .agg xs => loadK P ft xs off fun v => K ⟨v, [], none⟩
    | _, _ => False)
  | .indexAddr t x i => (match ρ i with
    | .int _ i => (match tslice P t with
      | some e => (match tsz P e, ρ x with
        | some sz, .psl _ n xs => 0 ≤ i ∧ i < n ∧ 0 < xs.length ∧ K ⟨.pptr xs (i.toNat * sz), [], none⟩
        | some sz, .osl b g off len => 0 ≤ i ∧ i < len ∧ (match h b with
          | some (.cells _ _ g' _) => g = g' ∧ K ⟨.ptr b g (off + i.toNat * sz), [b], none⟩
          | _ => False)
        | _, _ => False)
      | none => (match tarr P t with
        | some (n, e) => (match tsz P e, ρ x with
          | some sz, .ptr b g off => 0 ≤ i ∧ i < n ∧ (match h b with
            | some (.cells _ _ g' _) => g = g' ∧ K ⟨.ptr b g (off + i.toNat * sz), [b], none⟩
            | _ => False)
          | some sz, .pptr xs o => 0 ≤ i ∧ i < n ∧ K ⟨.pptr xs (o + i.toNat * sz), [], none⟩
          | _, _ => False)
        | none => False))
    | _ => False)
  | .index t x i => (match ρ i, tarr P t, ρ x with
    | .int _ i, some (n, e), .agg xs => (match tsz P e with
      | some sz => 0 ≤ i ∧ i < n ∧ loadK P e xs (i.toNat * sz) fun v => K ⟨v, [], none⟩
      | none => False)
    | .int _ i, none, .str s => P.underlying t = some .string ∧ chrK s i fun b => K ⟨.int .u8 b.toNat, [], none⟩
    | _, _, _ => False)
  | .lookup t x k ok => (match tmap P t with
    | some (kt, vt) => (match tzv P vt with
      | some z => keyOK P kt (ρ k) ∧ zeroOK z = true ∧ mapOf (ρ x) h fun es rd => (match mapFind es (ρ k) with
        | some (some (_, v)) => K ⟨if ok then .tup [v, .bool true] else v, rd, none⟩
        | some none => K ⟨if ok then .tup [z, .bool false] else z, rd, none⟩
        | none => False)
      | none => False)
    | none => False)
  | .mapUpdate t x k v => (match tmap P t with
    | some (kt, _) => (match ρ x with
      | .map b => keyOK P kt (ρ k) ∧ (match h b with
        | some (.map es) => (match mapFind es (ρ k) with
          | some (some (i, _)) => K ⟨.junk, [], some (b, .map (es.set i (ρ k, ρ v)))⟩
          | some none => K ⟨.junk, [], some (b, .map (es ++ [(ρ k, ρ v)]))⟩
          | none => False)
        | _ => False)
      | _ => False)
    | none => False)
  | .extract x i => (match ρ x with
    | .tup xs => (match xs[i]? with
      | some v => K ⟨v, [], none⟩
      | none => False)
    | _ => False)
  | .call c => (match c.callee with
    | .builtin b => builtinK P b c.argTypes (c.args.toList.map ρ) h nx K
    | .value f => (match ρ f with
      | .fn (.func g) first caps => (∀ x ∈ first ++ c.args.toList.map ρ ++ caps, pureA x = true) ∧ CallK P g (first ++ c.args.toList.map ρ ++ caps) fun r => K ⟨r, [], none⟩
      | _ => False)
    | _ => False)
  | _ => False
end Go.Am

/- The abstract machine Am, part C: each operation does to the world what effK says. -/
namespace Go.Am
open Go.RowKit
variable [Base]
section inv
variable {h : Nat → Option ABlk} {m : Nat → Option Loc} {w : World} {v : Value}
theorem rep_int {k : IntKind} {n : Int} (r : Rep h m w (.int k n) v) : v = .int k n := by cases r with | pure p => cases p; rfl
theorem rep_str {s : ByteArray} (r : Rep h m w (.str s) v) : v = .string s := by cases r with | pure p => cases p; rfl
theorem rep_bool {b : Bool} (r : Rep h m w (.bool b) v) : v = .bool b := by cases r with | pure p => cases p; rfl
theorem rep_nils (r : Rep h m w .nils v) : v = .slice none 0 0 := by cases r with | pure p => cases p; rfl
theorem rep_psl {f : Bool} {n : Nat} {xs : List AV} (r : Rep h m w (.psl f n xs) v) : PRep (Ok m w) w (.psl f n xs) v := by cases r with | pure p => exact p
theorem rep_pptr {xs : List AV} {i : Nat} (r : Rep h m w (.pptr xs i) v) : PRep (Ok m w) w (.pptr xs i) v := by cases r with | pure p => exact p
theorem rep_agg {xs : List AV} (r : Rep h m w (.agg xs) v) : ∃ us : List Value, v = .agg us.toArray ∧ xs.length = us.length ∧ (∀ u ∈ us, u.oneCell' = true) ∧ ∀ j (h' : j < xs.length) (h'' : j < us.length), Rep h m w xs[j] us[j] := by
  cases r with
  | pure p => cases p with | agg us h1 ho r1 => exact ⟨us, rfl, h1, ho, fun j a b => .pure (r1 j a b)⟩
  | agg us h1 ho r1 => exact ⟨us, rfl, h1, ho, r1⟩
theorem rep_tup {xs : List AV} (r : Rep h m w (.tup xs) v) : ∃ us : List Value, v = .tuple us.toArray ∧ xs.length = us.length ∧ ∀ j (h' : j < xs.length) (h'' : j < us.length), Rep h m w xs[j] us[j] := by
  cases r with
  | pure p => cases p with | tup us h1 r1 => exact ⟨us, rfl, h1, fun j a b => .pure (r1 j a b)⟩
  | tup us h1 r1 => exact ⟨us, rfl, h1, r1⟩
theorem rep_fn {f : FuncId} {xs ys : List AV} (r : Rep h m w (.fn (.func f) xs ys) v) : ∃ us vs : List Value, v = .func (.func f) us.toArray vs.toArray ∧ xs.length = us.length ∧ ys.length = vs.length ∧
    (∀ j (h' : j < xs.length) (h'' : j < us.length), Rep h m w xs[j] us[j]) ∧ ∀ j (h' : j < ys.length) (h'' : j < vs.length), Rep h m w ys[j] vs[j] := by
  cases r with
  | pure p => cases p with | fn us vs hf h1 h2 r1 r2 => exact ⟨us, vs, rfl, h1, h2, fun j a b => .pure (r1 j a b), fun j a b => .pure (r2 j a b)⟩
  | fn us vs hf h1 h2 r1 r2 => exact ⟨us, vs, rfl, h1, h2, r1, r2⟩
theorem rep_map {b : Nat} (r : Rep h m w (.map b) v) : ∃ l, m b = some l ∧ v = .map (some l.c) := by
  cases r with
  | pure p => cases p
  | map hb hm => exact ⟨_, hm, rfl⟩
theorem rep_ptr {b g off : Nat} (r : Rep h m w (.ptr b g off) v) {t : TypeId} {sz : Nat} {xs : List AV} (hb : h b = some (.cells t sz g xs)) : ∃ l, m b = some l ∧ v = .pointer (some ⟨l.c, off, none⟩) := by
  cases r with
  | pure p => cases p
  | ptr hb' hg ho hv => rw [hb] at hb'; cases hb'; exact hv rfl
theorem rep_osl {b g off len : Nat} (r : Rep h m w (.osl b g off len) v) {t : TypeId} {sz : Nat} {xs : List AV} (hb : h b = some (.cells t sz g xs)) :
    (m b = none ∧ off = 0 ∧ len = 0 ∧ v = .slice none 0 0) ∨ ∃ l cap, m b = some l ∧ v = .slice (some ⟨l.c, off, none⟩) len cap ∧ len ≤ cap ∧ off + cap * sz ≤ l.n ∧ cap ≤ maxLen := by
  cases r with
  | pure p => cases p
  | osl hb' hg ho hv => rw [hb] at hb'; cases hb'; exact hv rfl
/-- The cells of a value. -/
theorem rep_cells {x : AV} {xs : List AV} (r : Rep h m w x v) (hx : cellsOf x = some xs) : ∃ us : List Value, v.cells = us.toArray ∧ xs.length = us.length ∧ (∀ u ∈ us, u.oneCell' = true) ∧ ∀ j (h' : j < xs.length) (h'' : j < us.length), Rep h m w xs[j] us[j] := by
  have one : ∀ {x : AV} {v : Value}, Rep h m w x v → v.oneCell' = true → ∃ us : List Value, v.cells = us.toArray ∧ [x].length = us.length ∧ (∀ u ∈ us, u.oneCell' = true) ∧ ∀ j (h' : j < [x].length) (h'' : j < us.length), Rep h m w [x][j] us[j] := by
    intro x v r ho
    refine ⟨[v], by cases v <;> first | rfl | simp [Value.oneCell'] at ho, rfl, by simp [ho], fun j h' h'' => ?_⟩
    have : j = 0 := by simp at h'; omega
    subst this
    exact r
  cases x <;> simp only [cellsOf, Option.some.injEq, reduceCtorEq] at hx
  case agg ys =>
    subst hx
    obtain ⟨us, rfl, h1, h2, h3⟩ := rep_agg r
    exact ⟨us, rfl, h1, h2, h3⟩
  all_goals subst hx
  case int => exact one r (by rw [rep_int r]; rfl)
  case bool => exact one r (by rw [rep_bool r]; rfl)
  case psl => exact one r (by cases rep_psl r <;> rfl)
  case pptr => exact one r (by cases rep_pptr r <;> rfl)
  case map => obtain ⟨l, _, rfl⟩ := rep_map r; exact one r rfl
  case ptr => exact one r (by cases r with | pure p => cases p | ptr hb' hg ho hv => exact ho)
  case osl => exact one r (by cases r with | pure p => cases p | osl hb' hg ho hv => exact ho)
  case oslc => exact one r (by cases r with | pure p => cases p | oslc hb' hg ho hv => exact ho)
  case fn => exact one r (by cases r with | pure p => cases p; rfl | yld => rfl | fn => rfl)
  all_goals exact one r (by cases r with | pure p => cases p; rfl)
theorem prep_pure {x : AV} (r : Rep h m w x v) (hx : cellPure x = true) : PRep (Ok m w) w x v := by
  cases r with
  | pure p => exact p
  | ptr => simp [cellPure] at hx
  | osl => simp [cellPure] at hx
  | oslc => simp [cellPure] at hx
  | map => simp [cellPure] at hx
  | yld hb hk hm => exact absurd hx (by simp [cellPure])
  | fn us vs hf h1 h2 r1 r2 =>
    rename_i f _ _
    cases f <;> simp only [cellPure, Bool.and_eq_true, List.isEmpty_iff, Bool.false_eq_true] at hx
    obtain ⟨rfl, rfl⟩ := hx
    exact .fn us vs hf h1 h2 (fun j h' => by simp at h') (fun j h' => by simp at h')
  | agg => simp [cellPure] at hx
  | tup => simp [cellPure] at hx
  | junk => simp [cellPure] at hx
omit [Base] in
theorem const_rep {ok : Nat → Prop} {u : Value} (hu : cellPure (constAV u) = true) : PRep ok w (constAV u) u ∧ u.oneCell' = true := by
  unfold constAV at hu ⊢
  split <;> first | exact ⟨.bool _, rfl⟩ | exact ⟨.int _ _, rfl⟩ | exact ⟨.str _, rfl⟩ | exact ⟨.nilp, rfl⟩ | exact ⟨.nils, rfl⟩ | exact ⟨.nilm, rfl⟩ | exact ⟨.nilf, rfl⟩ | (simp [cellPure] at hu)
end inv
def OpOK (P : Program) (w0 : World) (r : Option Nat) (o : Oper) (ρ : Operand → AV) (h : Nat → Option ABlk) (e : E) : Prop :=
  ∀ (h' : Nat → Option ABlk) (m : Nat → Option Loc) (w : World) (a : Act) (next : Act → World → Prop) (Q : Exit → Act → World → Prop),
    (∀ b, b ∈ e.rd → h' b = h b) → (∀ b k, e.wr = some (b, k) → h' b = h b) → Good w0 h' m w → (∀ x, x ∈ o.op.operands → Rep h' m w (ρ x) (a.eval x)) →
    (∀ v w' m', Good w0 (updo h' e.wr) m' w' → Ext h' m w (updo h' e.wr) m' w' → Rep (updo h' e.wr) m' w' e.val v → next (a.put o.dst v) w') → o.wpIn (FW r) 0 P a w next Q
section ops
variable {P : Program} {w0 : World} {r : Option Nat} {o : Oper} {ρ : Operand → AV} {h : Nat → Option ABlk} {nx : Nat} {K : E → Prop}
omit [Base] in
theorem wp_val {a : Act} {w w' : World} {v : Value} {next : Act → World → Prop} {Q : Exit → Act → World → Prop} (hnd : ∀ c, o.op ≠ .defer c)
    (hrun : (execOp a.eval o).run P w = .ok (.value v) w') (hn : next (a.put o.dst v) w') : o.wpIn (FW r) 0 P a w next Q :=
  ⟨fun _ _ => trivial, by rw [Oper.semAt_eq _ _ _ hnd, hrun]; exact hn⟩
omit [Base] in
theorem wp_skip {a : Act} {w w' : World} {next : Act → World → Prop} {Q : Exit → Act → World → Prop} (hnd : ∀ c, o.op ≠ .defer c)
    (hrun : (execOp a.eval o).run P w = .ok .skip w') (hn : next (a.put o.dst undef) w') : o.wpIn (FW r) 0 P a w next Q :=
  ⟨fun _ _ => trivial, by rw [Oper.semAt_eq _ _ _ hnd, hrun]; exact hn⟩
/-- An operation that only computes, or looks at blocks. -/
theorem ok_pure {x : AV} {rd : List Nat} (hnd : ∀ c, o.op ≠ .defer c)
    (hr : ∀ (h' : Nat → Option ABlk) (m : Nat → Option Loc) (w : World) (a : Act), (∀ b, b ∈ rd → h' b = h b) → Good w0 h' m w → (∀ x, x ∈ o.op.operands → Rep h' m w (ρ x) (a.eval x)) →
      ∃ v, (execOp a.eval o).run P w = .ok (.value v) w ∧ Rep h' m w x v) : OpOK P w0 r o ρ h ⟨x, rd, none⟩ := by
  intro h' m w a next Q hrd _ hg hop hnext
  obtain ⟨v, hrun, hv⟩ := hr h' m w a hrd hg hop
  exact wp_val hnd hrun (hnext v w m hg (Ext.refl _ _ _) hv)
theorem sound_move {x : Operand} (ho : o.op = .move x) : OpOK P w0 r o ρ h ⟨ρ x, [], none⟩ :=
  ok_pure (by simp [ho]) fun h' m w a _ _ hop => ⟨a.eval x, by simp [execOp, ho], hop x (by simp [ho, Op.operands])⟩
theorem sound_assign {x : Operand} (ho : o.op = .assign x) : OpOK P w0 r o ρ h ⟨ρ x, [], none⟩ :=
  ok_pure (by simp [ho]) fun h' m w a _ _ hop => ⟨a.eval x, by simp [execOp, ho], hop x (by simp [ho, Op.operands])⟩
theorem sound_pick {c x y : Operand} {b : Bool} (ho : o.op = .pick c x y) (hc : ρ c = .bool b) : OpOK P w0 r o ρ h ⟨if b then ρ x else ρ y, [], none⟩ :=
  ok_pure (by simp [ho]) fun h' m w a _ _ hop => by
    have h1 := hop c (by simp [ho, Op.operands])
    rw [hc] at h1
    have h2 := rep_bool h1
    refine ⟨if b then a.eval x else a.eval y, by simp [execOp, ho, h2, asBool], ?_⟩
    cases b
    · exact hop y (by simp [ho, Op.operands])
    · exact hop x (by simp [ho, Op.operands])
theorem sound_extract {x : Operand} {i : Nat} {xs : List AV} {y : AV} (ho : o.op = .extract x i) (hx : ρ x = .tup xs) (hy : xs[i]? = some y) : OpOK P w0 r o ρ h ⟨y, [], none⟩ :=
  ok_pure (by simp [ho]) fun h' m w a _ _ hop => by
    have h1 := hop x (by simp [ho, Op.operands])
    rw [hx] at h1
    obtain ⟨us, h2, h3, h4⟩ := rep_tup h1
    obtain ⟨hi, hxi⟩ := List.getElem?_eq_some_iff.1 hy
    have hi' : i < us.length := by omega
    refine ⟨us[i], by simp [execOp, ho, h2, Instr.extract, hi'], ?_⟩
    rw [← hxi]
    exact h4 i hi hi'
end ops
end Go.Am

/- The abstract machine Am, part D: operations that only compute. -/
namespace Go.Am
open Go.RowKit
variable [Base]
section
variable {P : Program} {w0 : World} {r : Option Nat} {o : Oper} {ρ : Operand → AV} {h : Nat → Option ABlk}
omit [Base] in
theorem wrap_i64 {n : Int} (h1 : -9223372036854775808 ≤ n) (h2 : n ≤ 9223372036854775807) : IntKind.i64.wrap n = n := by
  simp only [IntKind.wrap, IntKind.bits, IntKind.signed, Bool.true_and]
  split <;> rename_i hh <;> simp at hh <;> omega
omit [Base] in
theorem arith_sound {k : IntKind} {n : Int} {K : AV → Prop} (hk : arith k n K) : K (.int k (k.wrap n)) := by
  cases k <;> simp only [arith] at hk <;> first | exact hk | (rw [wrap_i64 hk.1.1 hk.1.2]; exact hk.2)
omit [Base] in
theorem bits_sound {op : BinOp} {k : IntKind} {a b : Int} {K : AV → Prop} (hk : bits op k a b K) : ∃ n, K (.int k n) ∧ ∀ w : World, (Op.intBits op k a b).run P w = .ok (.int k n) w := by
  cases op <;> simp only [bits] at hk <;> first | exact hk.elim | exact ⟨_, hk, fun w => rfl⟩
omit [Base] in
theorem binInt_sound {op : BinOp} {t : TypeId} {k k' : IntKind} {a b : Int} {K : AV → Prop} (hk : binInt op k k' a b K) :
    ∃ x v, K x ∧ (∀ w : World, (binOp op t (.int k a) (.int k' b)).run P w = .ok v w) ∧ ∀ ok w, PRep ok w x v := by
  cases op <;> simp only [binInt] at hk
  case add => obtain ⟨rfl, hk⟩ := hk; exact ⟨_, _, arith_sound hk, fun w => by first | (simp [binOp, Op.intArith]; done) | (simp [binOp, Op.intArith]; rfl), fun ok w => .int _ _⟩
  case sub => obtain ⟨rfl, hk⟩ := hk; exact ⟨_, _, arith_sound hk, fun w => by first | (simp [binOp, Op.intArith]; done) | (simp [binOp, Op.intArith]; rfl), fun ok w => .int _ _⟩
  case mul => obtain ⟨rfl, hk⟩ := hk; exact ⟨_, _, arith_sound hk, fun w => by first | (simp [binOp, Op.intArith]; done) | (simp [binOp, Op.intArith]; rfl), fun ok w => .int _ _⟩
  case quo => obtain ⟨rfl, hb, hk⟩ := hk; exact ⟨_, _, arith_sound hk, fun w => by first | (simp [binOp, Op.intDiv, hb]; done) | (simp [binOp, Op.intDiv, hb]; rfl), fun ok w => .int _ _⟩
  case rem => obtain ⟨rfl, hb, hk⟩ := hk; exact ⟨_, _, hk, fun w => by first | (simp [binOp, Op.intDiv, hb]; done) | (simp [binOp, Op.intDiv, hb]; rfl), fun ok w => .int _ _⟩
  case shl => obtain ⟨hb, hk⟩ := hk; exact ⟨_, _, hk, fun w => by first | (simp [binOp, Op.shift, show ¬ b < 0 by omega]; done) | (simp [binOp, Op.shift, show ¬ b < 0 by omega]; rfl), fun ok w => .int _ _⟩
  case shr => obtain ⟨hb, hk⟩ := hk; exact ⟨_, _, hk, fun w => by first | (simp [binOp, Op.shift, show ¬ b < 0 by omega]; done) | (simp [binOp, Op.shift, show ¬ b < 0 by omega]; rfl), fun ok w => .int _ _⟩
  case eql => obtain ⟨rfl, hk⟩ := hk; exact ⟨_, _, hk, fun w => by first | (simp [binOp, Op.intCmp]; done) | (simp [binOp, Op.intCmp]; rfl), fun ok w => .bool _⟩
  case neq => obtain ⟨rfl, hk⟩ := hk; exact ⟨_, _, hk, fun w => by first | (simp [binOp, Op.intCmp]; done) | (simp [binOp, Op.intCmp]; rfl), fun ok w => .bool _⟩
  case lss => obtain ⟨rfl, hk⟩ := hk; exact ⟨_, _, hk, fun w => by first | (simp [binOp, Op.intCmp]; done) | (simp [binOp, Op.intCmp]; rfl), fun ok w => .bool _⟩
  case leq => obtain ⟨rfl, hk⟩ := hk; exact ⟨_, _, hk, fun w => by first | (simp [binOp, Op.intCmp]; done) | (simp [binOp, Op.intCmp]; rfl), fun ok w => .bool _⟩
  case gtr => obtain ⟨rfl, hk⟩ := hk; exact ⟨_, _, hk, fun w => by first | (simp [binOp, Op.intCmp]; done) | (simp [binOp, Op.intCmp]; rfl), fun ok w => .bool _⟩
  case geq => obtain ⟨rfl, hk⟩ := hk; exact ⟨_, _, hk, fun w => by first | (simp [binOp, Op.intCmp]; done) | (simp [binOp, Op.intCmp]; rfl), fun ok w => .bool _⟩
  all_goals
    obtain ⟨rfl, hk⟩ := hk
    obtain ⟨n, h1, h2⟩ := bits_sound (P := P) hk
    exact ⟨_, _, h1, fun w => by simpa [binOp] using h2 w, fun ok w => .int _ _⟩
theorem scalVal_rep {h' : Nat → Option ABlk} {m : Nat → Option Loc} {w : World} : ∀ (xs : List AV) (us : List Value), xs.length = us.length → (∀ j (h1 : j < xs.length) (h2 : j < us.length), Rep h' m w xs[j] us[j]) →
    (∀ x ∈ xs, (scalVal x).isSome = true) → xs.mapM scalVal = some us
  | [], [], _, _, _ => rfl
  | x :: xs, u :: us, hl, hr, hs => by
    have h0 := hr 0 (by simp) (by simp)
    simp only [List.getElem_cons_zero] at h0
    have ih := scalVal_rep xs us (by simpa using hl) (fun j h1 h2 => by have := hr (j + 1) (by simpa using h1) (by simpa using h2); simpa using this) (fun y hy => hs y (by simp [hy]))
    have hx := hs x (by simp)
    cases x <;> simp [scalVal] at hx
    · rw [rep_int h0]; simp [List.mapM_cons, scalVal, ih]
    · rw [rep_bool h0]; simp [List.mapM_cons, scalVal, ih]
omit [Base] in
theorem scalEq_isSome : ∀ (xs ys : List AV) (b : Bool), scalEq xs ys = some b → (∀ x ∈ xs, (scalVal x).isSome = true) ∧ ∀ y ∈ ys, (scalVal y).isSome = true
  | [], [], _, _ => by simp
  | [], y :: ys, _, h => by cases y <;> simp [scalEq] at h
  | x :: xs, [], _, h => by cases x <;> simp [scalEq] at h
  | x :: xs, y :: ys, b, h => by
    cases x <;> cases y <;> simp only [scalEq, reduceCtorEq] at h
    · split at h
      · cases hr : scalEq xs ys with
        | none => simp [hr] at h
        | some b' =>
          obtain ⟨h1, h2⟩ := scalEq_isSome xs ys b' hr
          exact ⟨fun x hx => by rcases List.mem_cons.1 hx with rfl | hx; (· rfl); exact h1 x hx, fun x hx => by rcases List.mem_cons.1 hx with rfl | hx; (· rfl); exact h2 x hx⟩
      · cases h
    · cases hr : scalEq xs ys with
      | none => simp [hr] at h
      | some b' =>
        obtain ⟨h1, h2⟩ := scalEq_isSome xs ys b' hr
        exact ⟨fun x hx => by rcases List.mem_cons.1 hx with rfl | hx; (· rfl); exact h1 x hx, fun x hx => by rcases List.mem_cons.1 hx with rfl | hx; (· rfl); exact h2 x hx⟩
omit [Base] in
theorem run_eqGuard_ints (op : BinOp) (t : TypeId) (x y : Operand) (k k' : IntKind) (a b : Int) (w : World) : (eqGuard op t x y (.int k a) (.int k' b)).run P w = .ok () w := by
  cases op <;> simp [eqGuard]
omit [Base] in
theorem run_eqGuard_bools (op : BinOp) (t : TypeId) (x y : Operand) (a b : Bool) (w : World) : (eqGuard op t x y (.bool a) (.bool b)).run P w = .ok () w := by
  cases op <;> simp [eqGuard]
theorem sound_bin {op : BinOp} {t t' : TypeId} {x y : Operand} {K : E → Prop} (ho : o.op = .binOp op t x y t') (hk : binK P op t (ρ x) (ρ y) fun v => K ⟨v, [], none⟩) :
    ∃ e, K e ∧ OpOK P w0 r o ρ h e := by
  cases hx : ρ x <;> cases hy : ρ y <;> simp only [hx, hy, binK] at hk
  case int.int k a k' b =>
    obtain ⟨z, v, hz, hrun, hp⟩ := binInt_sound (P := P) (t := t) hk
    refine ⟨_, hz, ok_pure (by simp [ho]) fun h' m w ac _ _ hop => ⟨v, ?_, .pure (hp _ _)⟩⟩
    have h1 := hop x (by simp [ho, Op.operands]); rw [hx] at h1
    have h2 := hop y (by simp [ho, Op.operands]); rw [hy] at h2
    simp [execOp, ho, rep_int h1, rep_int h2, run_eqGuard_ints, hrun]
  case bool.bool a b =>
    cases op <;> simp only at hk
    case eql =>
      refine ⟨_, hk.2, ok_pure (by simp [ho]) fun h' m w ac _ _ hop => ⟨.bool (a == b), ?_, .pure (.bool _)⟩⟩
      have h1 := hop x (by simp [ho, Op.operands]); rw [hx] at h1
      have h2 := hop y (by simp [ho, Op.operands]); rw [hy] at h2
      simp [execOp, ho, rep_bool h1, rep_bool h2, run_eqGuard_bools, binOp, Op.equal, Op.maxDepth, run_equalIn_bool' w 9999 t a b hk.1]
    case neq =>
      refine ⟨_, hk.2, ok_pure (by simp [ho]) fun h' m w ac _ _ hop => ⟨.bool (!(a == b)), ?_, .pure (.bool _)⟩⟩
      have h1 := hop x (by simp [ho, Op.operands]); rw [hx] at h1
      have h2 := hop y (by simp [ho, Op.operands]); rw [hy] at h2
      simp [execOp, ho, rep_bool h1, rep_bool h2, run_eqGuard_bools, binOp, Op.equal, Op.maxDepth, run_equalIn_bool' w 9999 t a b hk.1]
    all_goals exact hk.elim
  case agg.agg xs ys =>
    obtain ⟨⟨hq, heq⟩, hlx, hly, hk⟩ := hk
    cases hs : scalEq xs ys with
    | none => simp only [hs] at hk
    | some b =>
      simp only [hs] at hk
      obtain ⟨hsx, hsy⟩ := scalEq_isSome xs ys b hs
      have key : ∀ (h' : Nat → Option ABlk) (m : Nat → Option Loc) (w : World) (ac : Act), (∀ x, x ∈ o.op.operands → Rep h' m w (ρ x) (ac.eval x)) →
          ∃ us vs : Array Value, ac.eval x = .agg us ∧ ac.eval y = .agg vs ∧ (Op.equalIn 10000 t (.agg us) (.agg vs)).run P w = .ok b w := by
        intro h' m w ac hop
        have h1 := hop x (by simp [ho, Op.operands]); rw [hx] at h1
        have h2 := hop y (by simp [ho, Op.operands]); rw [hy] at h2
        obtain ⟨us, e1, l1, _, r1⟩ := rep_agg h1
        obtain ⟨vs, e2, l2, _, r2⟩ := rep_agg h2
        exact ⟨_, _, e1, e2, heq xs ys us vs b w (scalVal_rep xs us l1 r1 hsx) (scalVal_rep ys vs l2 r2 hsy) hlx hly hs⟩
      cases op <;> simp only at hk
      case eql =>
        refine ⟨_, hk, ok_pure (by simp [ho]) fun h' m w ac _ _ hop => ⟨.bool b, ?_, .pure (.bool _)⟩⟩
        obtain ⟨us, vs, e1, e2, hrun⟩ := key h' m w ac hop
        simp [execOp, ho, e1, e2, run_eqGuard_agg w _ t x y us vs (hq _ hlx), run_eql_struct, hrun]
      case neq =>
        refine ⟨_, hk, ok_pure (by simp [ho]) fun h' m w ac _ _ hop => ⟨.bool (!b), ?_, .pure (.bool _)⟩⟩
        obtain ⟨us, vs, e1, e2, hrun⟩ := key h' m w ac hop
        simp [execOp, ho, e1, e2, run_eqGuard_agg w _ t x y us vs (hq _ hlx), run_neq_struct, hrun]
      all_goals exact hk.elim
  all_goals exact hk.elim
theorem sound_un {op : UnOp} {t : TypeId} {x : Operand} {K : E → Prop} (ho : o.op = .unOp op t x) (hk : unK op (ρ x) fun v => K ⟨v, [], none⟩) :
    ∃ e, K e ∧ OpOK P w0 r o ρ h e := by
  cases hx : ρ x <;> cases op <;> simp only [hx, unK] at hk
  case int.neg k n =>
    refine ⟨_, arith_sound hk, ok_pure (by simp [ho]) fun h' m w ac _ _ hop => ⟨.int k (k.wrap (0 - n)), ?_, .pure (.int _ _)⟩⟩
    have h1 := hop x (by simp [ho, Op.operands]); rw [hx] at h1
    simp [execOp, ho, rep_int h1, Op.unary, Op.intArith]
  case bool.not b =>
    refine ⟨_, hk, ok_pure (by simp [ho]) fun h' m w ac _ _ hop => ⟨.bool (!b), ?_, .pure (.bool _)⟩⟩
    have h1 := hop x (by simp [ho, Op.operands]); rw [hx] at h1
    simp [execOp, ho, rep_bool h1, Op.unary]
  all_goals exact hk.elim
omit [Base] in
theorem tint_spec {t : TypeId} {k : IntKind} (h : tint P t = some k) : P.underlying t = some (.int k) := by
  unfold tint at h
  cases hu : P.underlying t with
  | none => simp [hu] at h
  | some d => cases d <;> simp [hu] at h; rw [h]
omit [Base] in
theorem tslice_spec {t e : TypeId} (h : tslice P t = some e) : P.underlying t = some (.slice e) := by
  unfold tslice at h
  cases hu : P.underlying t with
  | none => simp [hu] at h
  | some d => cases d <;> simp [hu] at h; rw [h]
omit [Base] in
theorem tarr_spec {t e : TypeId} {n : Nat} (h : tarr P t = some (n, e)) : P.underlying t = some (.array n e) := by
  unfold tarr at h
  cases hu : P.underlying t with
  | none => simp [hu] at h
  | some d => cases d <;> simp [hu] at h; rw [h.1, h.2]
omit [Base] in
theorem tmap_spec {t k e : TypeId} (h : tmap P t = some (k, e)) : P.underlying t = some (.map k e) := by
  unfold tmap at h
  cases hu : P.underlying t with
  | none => simp [hu] at h
  | some d => cases d <;> simp [hu] at h; rw [h.1, h.2]
omit [Base] in
theorem tfld_spec {t ft : TypeId} {f off : Nat} (h : tfld P t f = some (off, ft)) : ∃ fs x, P.underlying t = some (.struct fs) ∧ fs[f]? = some x ∧ x.offset = off ∧ x.type = ft := by
  unfold tfld at h
  cases hu : P.underlying t with
  | none => simp [hu] at h
  | some d =>
    cases d <;> simp [hu] at h
    obtain ⟨x, hx, h1, h2⟩ := h
    exact ⟨_, x, rfl, hx, h1, h2⟩
omit [Base] in
theorem tsz_spec {t : TypeId} {n : Nat} (h : tsz P t = some n) (w : World) : (sizeOf t).run P w = .ok n w := by
  unfold tsz at h
  cases hi : P.info? t with
  | none => simp [hi] at h
  | some i => simp [hi] at h; simp [sizeOf, typeInfo, hi, h]
omit [Base] in
theorem tagg_spec {t : TypeId} {b : Bool} (h : tagg P t = some b) (w : World) : (isAgg t).run P w = .ok b w := by
  unfold tagg at h
  cases hu : P.underlying t with
  | none => simp [hu] at h
  | some d =>
    simp only [hu, Option.map_some, Option.some.injEq] at h
    cases d <;> simp at h <;> subst h <;> simp [isAgg, run_underlying hu]
theorem sound_convert {s d : TypeId} {x : Operand} {k k0 : IntKind} {n : Int} {K : AV → Prop} (ho : o.op = .convert s d x) (hs : (P.underlying s).isSome = true) (hd : tint P d = some k) (hx : ρ x = .int k0 n) (hk : arith k n K) :
    K (.int k (k.wrap n)) ∧ OpOK P w0 r o ρ h ⟨.int k (k.wrap n), [], none⟩ := by
  refine ⟨arith_sound hk, ok_pure (by simp [ho]) fun h' m w ac _ _ hop => ⟨.int k (k.wrap n), ?_, .pure (.int _ _)⟩⟩
  have h1 := hop x (by simp [ho, Op.operands]); rw [hx] at h1
  obtain ⟨ds, hds⟩ := Option.isSome_iff_exists.1 hs
  simp [execOp, ho, rep_int h1, convert, run_underlying hds, run_underlying (tint_spec hd), Conv.intToInt]
theorem sound_makeFunc {f : Fn} {first caps : Array Operand} (ho : o.op = .makeFunc f first caps) (hf : ∀ l, f ≠ .yield l) : OpOK P w0 r o ρ h ⟨.fn f (first.toList.map ρ) (caps.toList.map ρ), [], none⟩ :=
  ok_pure (by simp [ho]) fun h' m w ac _ _ hop => by
    refine ⟨.func f (first.toList.map ac.eval).toArray (caps.toList.map ac.eval).toArray, by simp [execOp, ho, Instr.makeFunc]; constructor <;> rw [← Array.toList_map, Array.toArray_toList], ?_⟩
    refine .fn _ _ hf (by simp) (by simp) (fun j a b => ?_) (fun j a b => ?_)
    · simp only [List.getElem_map]; exact hop _ (by simp [ho, Op.operands])
    · simp only [List.getElem_map]; exact hop _ (by simp [ho, Op.operands])
end
end Go.Am

/- The abstract machine Am, part E: operations on memory. -/
namespace Go.Am
open Go.RowKit
variable [Base]
section
variable {P : Program} {w0 : World} {r : Option Nat} {o : Oper} {ρ : Operand → AV} {h : Nat → Option ABlk}
omit [Base] in
theorem addr_add (c o n : Nat) : (⟨c, o, none⟩ : Addr).add n = ⟨c, o + n, none⟩ := by
  unfold Addr.add; split <;> simp_all
/-- What a load of type t hands back, of cells xs from off on. -/
def LoadIs (P : Program) (t : TypeId) (xs : List AV) (off : Nat) (x : AV) : Prop :=
  (∃ n, tagg P t = some true ∧ tsz P t = some n ∧ off + n ≤ xs.length ∧ x = .agg (window xs off n)) ∨ (tagg P t = some false ∧ xs[off]? = some x)
omit [Base] in
theorem loadK_is {t : TypeId} {xs : List AV} {off : Nat} {K : AV → Prop} (hk : loadK P t xs off K) : ∃ x, K x ∧ LoadIs P t xs off x := by
  unfold loadK at hk
  cases ha : tagg P t with
  | none => simp [ha] at hk
  | some b =>
    cases hs : tsz P t with
    | none => cases b <;> simp [ha, hs] at hk
    | some n =>
      cases b
      · simp only [ha, hs] at hk
        cases hx : xs[off]? with
        | none => simp [hx] at hk
        | some x => simp only [hx] at hk; exact ⟨x, hk, .inr ⟨ha, hx⟩⟩
      · simp only [ha, hs] at hk
        exact ⟨_, hk.2, .inl ⟨n, ha, hs, hk.1, rfl⟩⟩
omit [Base] in
theorem window_get (xs : List AV) (off n j : Nat) (hj : j < (window xs off n).length) : (window xs off n)[j] = xs[off + j]'(by simp [window] at hj; omega) := by
  simp [window]
omit [Base] in
theorem window_length (xs : List AV) (off n : Nat) (h : off + n ≤ xs.length) : (window xs off n).length = n := by
  simp [window]; omega
section mem
variable {h' : Nat → Option ABlk} {m : Nat → Option Loc} {w : World}
theorem load_run {t : TypeId} {xs : List AV} {off : Nat} {x : AV} {c o : Nat} {vs : Nat → Value} (hl : LoadIs P t xs off x)
    (hc : ∀ j, j < xs.length → w.cell? ⟨c, o + j, none⟩ = some (vs j) ∧ (vs j).oneCell' = true) (hr : ∀ j (hj : j < xs.length), Rep h' m w xs[j] (vs j)) :
    ∃ v, (loadVar t ⟨c, o + off, none⟩).run P w = .ok v w ∧ Rep h' m w x v := by
  rcases hl with ⟨n, ha, hs, hn, rfl⟩ | ⟨ha, hx⟩
  · refine ⟨.agg ((List.range n).map fun j => vs (off + j)).toArray, ?_, ?_⟩
    · simp only [loadVar, Sem.run_bind, tagg_spec ha, Result.andThen_ok, if_true, tsz_spec hs]
      rw [run_loadCells w ⟨c, o + off, none⟩ n (fun j => vs (off + j)) (fun j hj => by rw [addr_add, Nat.add_assoc]; exact (hc (off + j) (by omega)).1)]
      simp
    · refine .agg _ (by simp [window_length xs off n hn]) (fun u hu => ?_) (fun j h1 h2 => ?_)
      · simp only [List.mem_map, List.mem_range] at hu
        obtain ⟨j, hj, rfl⟩ := hu
        exact (hc (off + j) (by omega)).2
      · rw [window_get]
        simp only [List.getElem_map, List.getElem_range]
        exact hr _ _
  · obtain ⟨hi, hxi⟩ := List.getElem?_eq_some_iff.1 hx
    refine ⟨vs off, ?_, ?_⟩
    · simp only [loadVar, Sem.run_bind, tagg_spec ha, Result.andThen_ok, Bool.false_eq_true, if_false]
      simp [run_load, (hc off hi).1]
    · rw [← hxi]; exact hr off hi
theorem part_run {t : TypeId} {xs : List AV} {off : Nat} {x : AV} {us : List Value} (hl : LoadIs P t xs off x) (h1 : xs.length = us.length) (h2 : ∀ u ∈ us, u.oneCell' = true)
    (hr : ∀ j (a : j < xs.length) (b : j < us.length), Rep h' m w xs[j] us[j]) : ∃ v, (part t us.toArray off).run P w = .ok v w ∧ Rep h' m w x v := by
  rcases hl with ⟨n, ha, hs, hn, rfl⟩ | ⟨ha, hx⟩
  · refine ⟨.agg ((us.drop off).take n).toArray, ?_, ?_⟩
    · simp only [part, Sem.run_bind, tagg_spec ha, Result.andThen_ok, if_true, tsz_spec hs]
      simp [List.extract_eq_take_drop]
    · refine .agg _ (by simp [window]; omega) (fun u hu => h2 u (List.mem_of_mem_drop (List.mem_of_mem_take hu))) (fun j a b => ?_)
      rw [window_get]
      simp only [List.getElem_take, List.getElem_drop]
      exact hr _ _ _
  · obtain ⟨hi, hxi⟩ := List.getElem?_eq_some_iff.1 hx
    have hi' : off < us.length := by omega
    refine ⟨us[off], ?_, ?_⟩
    · simp only [part, Sem.run_bind, tagg_spec ha, Result.andThen_ok, Bool.false_eq_true, if_false]
      simp [hi']
    · rw [← hxi]; exact hr off hi hi'
/-- The cells of an abstract block, in the world. -/
theorem blk_cells {b : Nat} {t : TypeId} {sz g : Nat} {xs : List AV} {l : Loc} (hg : Good w0 h' m w) (hb : h' b = some (.cells t sz g xs)) (hl : m b = some l) :
    ∃ arr, w.heap[l.c]? = some (.cells arr t (0, 0)) ∧ arr.size = l.n ∧ xs.length ≤ l.n ∧ ∃ vs : Nat → Value, (∀ j, j < xs.length → arr[j]? = some (vs j)) ∧
      (∀ j, j < xs.length → w.cell? ⟨l.c, 0 + j, none⟩ = some (vs j) ∧ (vs j).oneCell' = true) ∧ ∀ j (hj : j < xs.length), Rep h' m w xs[j] (vs j) := by
  rcases hg.blk b _ hb with ⟨h1, _⟩ | ⟨l', arr, h1, h2, h3, h4, h5⟩
  · rw [h1] at hl; cases hl
  · rw [h1] at hl; cases hl
    refine ⟨arr, h2, h3, h4, fun j => (arr[j]?).getD undef, fun j hj => ?_, fun j hj => ?_, fun j hj => ?_⟩
    · obtain ⟨v, hv, _, _⟩ := h5 j hj; simp [hv]
    · obtain ⟨v, hv, ho, _⟩ := h5 j hj; simp [World.cell?, h2, hv, ho]
    · obtain ⟨v, hv, _, hr⟩ := h5 j hj; simpa [hv] using hr
end mem
theorem sound_load {t : TypeId} {a : Operand} {K : E → Prop} (ho : o.op = .load t a) (hk : effK P o ρ h 0 K) : ∃ e, K e ∧ OpOK P w0 r o ρ h e := by
  simp only [effK, ho] at hk
  cases ha : ρ a <;> simp only [ha] at hk
  case ptr b g off =>
    cases hb : h b with
    | none => simp [hb] at hk
    | some k =>
      cases k <;> simp only [hb] at hk
      case cells t' sz g' xs =>
        obtain ⟨rfl, hk⟩ := hk
        obtain ⟨x, hx, hl⟩ := loadK_is hk
        refine ⟨_, hx, ok_pure (by simp [ho]) fun h' m w ac hrd hg hop => ?_⟩
        have hb' : h' b = some (.cells t' sz g xs) := (hrd b (by simp)).trans hb
        have h1 := hop a (by simp [ho, Op.operands]); rw [ha] at h1
        obtain ⟨l, hm, he⟩ := rep_ptr h1 hb'
        obtain ⟨arr, _, _, _, vs, _, h3, h4⟩ := blk_cells hg hb' hm
        obtain ⟨v, hv, hr⟩ := load_run hl h3 h4
        rw [Nat.zero_add] at hv
        exact ⟨v, by simp [execOp, ho, he, Instr.loadAt, Instr.sureAddr, hv], hr⟩
      all_goals exact hk.elim
  case pptr xs i =>
    obtain ⟨x, hx, hl⟩ := loadK_is hk
    refine ⟨_, hx, ok_pure (by simp [ho]) fun h' m w ac hrd hg hop => ?_⟩
    have h1 := hop a (by simp [ho, Op.operands]); rw [ha] at h1
    have hp := rep_pptr h1
    generalize hv : ac.eval a = va at hp
    cases hp with
    | pptr vs hok hc hr =>
      obtain ⟨v, hv', hr'⟩ := load_run (h' := h') (m := m) hl hc (fun j hj => .pure (hr j hj))
      exact ⟨v, by simp [execOp, ho, hv, Instr.loadAt, Instr.sureAddr, hv'], hr'⟩
  all_goals exact hk.elim
theorem sound_nilCheck {x : Operand} {K : E → Prop} (ho : o.op = .nilCheck x) (hk : effK P o ρ h 0 K) : ∃ e, K e ∧ OpOK P w0 r o ρ h e := by
  simp only [effK, ho] at hk
  cases ha : ρ x <;> simp only [ha] at hk
  case ptr b g off =>
    cases hb : h b with
    | none => simp [hb] at hk
    | some k =>
      cases k <;> simp only [hb] at hk
      case cells t' sz g' xs =>
        obtain ⟨rfl, hk⟩ := hk
        refine ⟨_, hk, ok_pure (by simp [ho]) fun h' m w ac hrd hg hop => ?_⟩
        have hb' : h' b = some (.cells t' sz g xs) := (hrd b (by simp)).trans hb
        have h1 := hop x (by simp [ho, Op.operands]); rw [ha] at h1
        obtain ⟨l, hm, he⟩ := rep_ptr h1 hb'
        exact ⟨_, by simp only [execOp, ho, he]; try rfl, by rw [← he]; exact h1⟩
      all_goals exact hk.elim
  case pptr xs i =>
    refine ⟨_, hk, ok_pure (by simp [ho]) fun h' m w ac hrd hg hop => ?_⟩
    have h1 := hop x (by simp [ho, Op.operands]); rw [ha] at h1
    have hp := rep_pptr h1
    generalize hv : ac.eval x = va at hp h1
    cases hp with
    | pptr vs hok hc hr => exact ⟨_, by simp only [execOp, ho, hv]; try rfl, h1⟩
  all_goals exact hk.elim
theorem sound_field {t : TypeId} {x : Operand} {f : Nat} {K : E → Prop} (ho : o.op = .field t x f) (hk : effK P o ρ h 0 K) : ∃ e, K e ∧ OpOK P w0 r o ρ h e := by
  simp only [effK, ho] at hk
  cases hf : tfld P t f with
  | none => simp [hf] at hk
  | some p =>
    obtain ⟨off, ft⟩ := p
    cases ha : ρ x <;> simp only [hf, ha] at hk
    case agg xs =>
      obtain ⟨y, hy, hl⟩ := loadK_is hk
      refine ⟨_, hy, ok_pure (by simp [ho]) fun h' m w ac hrd hg hop => ?_⟩
      have h1 := hop x (by simp [ho, Op.operands]); rw [ha] at h1
      obtain ⟨us, he, l1, l2, l3⟩ := rep_agg h1
      obtain ⟨v, hv, hr⟩ := part_run hl l1 l2 l3
      obtain ⟨fs, fx, hu, hfx, rfl, rfl⟩ := tfld_spec hf
      exact ⟨v, by simp [execOp, ho, he, Instr.field, run_underlying hu, hfx, asAgg, hv], hr⟩
    all_goals exact hk.elim
theorem sound_index {t : TypeId} {x i : Operand} {K : E → Prop} (ho : o.op = .index t x i) (hk : effK P o ρ h 0 K) : ∃ e, K e ∧ OpOK P w0 r o ρ h e := by
  simp only [effK, ho] at hk
  cases hi : ρ i <;> simp only [hi] at hk
  case int ki n =>
    cases hf : tarr P t with
    | none =>
      cases ha : ρ x <;> simp only [hf, ha] at hk
      case str s =>
        obtain ⟨hu, hk⟩ := hk
        unfold chrK at hk
        split at hk
        · rename_i b hb
          refine ⟨_, hk, ok_pure (by simp [ho]) fun h' m w ac hrd hg hop => ?_⟩
          have h1 := hop x (by simp [ho, Op.operands]); rw [ha] at h1
          have h2 := hop i (by simp [ho, Op.operands]); rw [hi] at h2
          have hv := rep_str h1
          exact ⟨.int .u8 b.toNat, by simp [execOp, ho, hv, rep_int h2, Instr.index, asIntOf, run_underlying hu, hb], .pure (.int _ _)⟩
        · exact hk.elim
      all_goals exact hk.elim
    | some p =>
      obtain ⟨len, e⟩ := p
      cases ha : ρ x <;> simp only [hf, ha] at hk
      case agg xs =>
        cases hs : tsz P e with
        | none => simp [hs] at hk
        | some sz =>
          simp only [hs] at hk
          obtain ⟨h0, hlt, hk⟩ := hk
          obtain ⟨y, hy, hl⟩ := loadK_is hk
          refine ⟨_, hy, ok_pure (by simp [ho]) fun h' m w ac hrd hg hop => ?_⟩
          have h1 := hop x (by simp [ho, Op.operands]); rw [ha] at h1
          have h2 := hop i (by simp [ho, Op.operands]); rw [hi] at h2
          obtain ⟨us, he, l1, l2, l3⟩ := rep_agg h1
          obtain ⟨v, hv, hr⟩ := part_run hl l1 l2 l3
          exact ⟨v, by simp [execOp, ho, he, rep_int h2, Instr.index, asIntOf, run_underlying (tarr_spec hf), h0, hlt, tsz_spec hs, hv], hr⟩
      all_goals exact hk.elim
  all_goals exact hk.elim
omit [Base] in
theorem fieldPlace_run {x : Field} {sz : Nat} (hs : tsz P x.type = some sz) (h0 : 0 < sz) (c o : Nat) (w : World) : (fieldPlace ⟨c, o, none⟩ x).run P w = .ok ⟨c, o + x.offset, none⟩ w := by
  simp only [fieldPlace, Sem.run_bind, tsz_spec hs, Result.andThen_ok, show ¬ sz = 0 by omega, if_false, addr_add]
  rfl
theorem sound_fieldAddr {t : TypeId} {x : Operand} {f : Nat} {K : E → Prop} (ho : o.op = .fieldAddr t x f) (hk : effK P o ρ h 0 K) : ∃ e, K e ∧ OpOK P w0 r o ρ h e := by
  simp only [effK, ho] at hk
  cases hf : tfld P t f with
  | none => simp [hf] at hk
  | some p =>
    obtain ⟨off, ft⟩ := p
    simp only [hf] at hk
    cases hs : tsz P ft with
    | none => simp [hs] at hk
    | some sz =>
      cases ha : ρ x <;> simp only [hs, ha] at hk
      case ptr b g oo =>
        obtain ⟨h0, hk⟩ := hk
        cases hb : h b with
        | none => simp [hb] at hk
        | some k =>
          cases k <;> simp only [hb] at hk
          case cells t' sz' g' xs =>
            obtain ⟨rfl, hk⟩ := hk
            refine ⟨_, hk, ok_pure (by simp [ho]) fun h' m w ac hrd hg hop => ?_⟩
            have hb' : h' b = some (.cells t' sz' g xs) := (hrd b (by simp)).trans hb
            have h1 := hop x (by simp [ho, Op.operands]); rw [ha] at h1
            obtain ⟨l, hm, he⟩ := rep_ptr h1 hb'
            obtain ⟨fs, fx, hu, hfx, rfl, rfl⟩ := tfld_spec hf
            exact ⟨_, by simp [execOp, ho, he, Instr.fieldAt, run_underlying hu, hfx, Instr.sureAddr, fieldPlace_run hs h0]; try rfl, .ptr hb' (Nat.le_refl _) rfl (fun _ => ⟨l, hm, rfl⟩)⟩
          all_goals exact hk.elim
      case pptr xs i =>
        obtain ⟨h0, hk⟩ := hk
        refine ⟨_, hk, ok_pure (by simp [ho]) fun h' m w ac hrd hg hop => ?_⟩
        have h1 := hop x (by simp [ho, Op.operands]); rw [ha] at h1
        have hp := rep_pptr h1
        obtain ⟨fs, fx, hu, hfx, rfl, rfl⟩ := tfld_spec hf
        generalize hv : ac.eval x = va at hp
        cases hp with
        | pptr vs hok hc hr =>
          refine ⟨_, by simp [execOp, ho, hv, Instr.fieldAt, run_underlying hu, hfx, Instr.sureAddr, fieldPlace_run hs h0]; try rfl, ?_⟩
          rw [Nat.add_assoc]
          exact .pure (.pptr vs hok hc hr)
      all_goals exact hk.elim
theorem sound_indexAddr {t : TypeId} {x i : Operand} {K : E → Prop} (ho : o.op = .indexAddr t x i) (hk : effK P o ρ h 0 K) : ∃ e, K e ∧ OpOK P w0 r o ρ h e := by
  simp only [effK, ho] at hk
  cases hi : ρ i <;> simp only [hi] at hk
  case int ki n =>
    cases hsl : tslice P t with
    | some e =>
      simp only [hsl] at hk
      have hu := tslice_spec hsl
      cases hs : tsz P e with
      | none => simp [hs] at hk
      | some sz =>
        cases ha : ρ x <;> simp only [hs, ha] at hk
        case psl full len xs =>
          obtain ⟨h0, hlt, hpos, hk⟩ := hk
          refine ⟨_, hk, ok_pure (by simp [ho]) fun h' m w ac hrd hg hop => ?_⟩
          have h1 := hop x (by simp [ho, Op.operands]); rw [ha] at h1
          have h2 := hop i (by simp [ho, Op.operands]); rw [hi] at h2
          have hp := rep_psl h1
          generalize hv : ac.eval x = va at hp
          cases hp with
          | psle => simp at hpos
          | psl vs _ _ hok hc hr =>
            refine ⟨_, by simp [execOp, ho, hv, rep_int h2, Instr.indexAt, asIntOf, run_underlying hu, h0, hlt, tsz_spec hs, addr_add]; try rfl, .pure (.pptr vs hok hc hr)⟩
        case osl b g off len =>
          obtain ⟨h0, hlt, hk⟩ := hk
          cases hb : h b with
          | none => simp [hb] at hk
          | some k =>
            cases k <;> simp only [hb] at hk
            case cells t' sz' g' xs =>
              obtain ⟨rfl, hk⟩ := hk
              refine ⟨_, hk, ok_pure (by simp [ho]) fun h' m w ac hrd hg hop => ?_⟩
              have hb' : h' b = some (.cells t' sz' g xs) := (hrd b (by simp)).trans hb
              have h1 := hop x (by simp [ho, Op.operands]); rw [ha] at h1
              have h2 := hop i (by simp [ho, Op.operands]); rw [hi] at h2
              rcases rep_osl h1 hb' with ⟨_, _, rfl, _⟩ | ⟨l, cap, hm, he, _⟩
              · simp at hlt; omega
              · exact ⟨_, by simp [execOp, ho, he, rep_int h2, Instr.indexAt, asIntOf, run_underlying hu, h0, hlt, tsz_spec hs, addr_add]; try rfl, .ptr hb' (Nat.le_refl _) rfl (fun _ => ⟨l, hm, rfl⟩)⟩
            all_goals exact hk.elim
        all_goals exact hk.elim
    | none =>
      simp only [hsl] at hk
      cases hf : tarr P t with
      | none => simp [hf] at hk
      | some p =>
        obtain ⟨len, e⟩ := p
        have hu := tarr_spec hf
        simp only [hf] at hk
        cases hs : tsz P e with
        | none => simp [hs] at hk
        | some sz =>
          cases ha : ρ x <;> simp only [hs, ha] at hk
          case ptr b g off =>
            obtain ⟨h0, hlt, hk⟩ := hk
            cases hb : h b with
            | none => simp [hb] at hk
            | some k =>
              cases k <;> simp only [hb] at hk
              case cells t' sz' g' xs =>
                obtain ⟨rfl, hk⟩ := hk
                refine ⟨_, hk, ok_pure (by simp [ho]) fun h' m w ac hrd hg hop => ?_⟩
                have hb' : h' b = some (.cells t' sz' g xs) := (hrd b (by simp)).trans hb
                have h1 := hop x (by simp [ho, Op.operands]); rw [ha] at h1
                have h2 := hop i (by simp [ho, Op.operands]); rw [hi] at h2
                obtain ⟨l, hm, he⟩ := rep_ptr h1 hb'
                exact ⟨_, by simp [execOp, ho, he, rep_int h2, Instr.indexAt, asIntOf, run_underlying hu, Instr.sureAddr, h0, hlt, tsz_spec hs, addr_add]; try rfl, .ptr hb' (Nat.le_refl _) rfl (fun _ => ⟨l, hm, rfl⟩)⟩
              all_goals exact hk.elim
          case pptr xs oo =>
            obtain ⟨h0, hlt, hk⟩ := hk
            refine ⟨_, hk, ok_pure (by simp [ho]) fun h' m w ac hrd hg hop => ?_⟩
            have h1 := hop x (by simp [ho, Op.operands]); rw [ha] at h1
            have h2 := hop i (by simp [ho, Op.operands]); rw [hi] at h2
            have hp := rep_pptr h1
            generalize hv : ac.eval x = va at hp
            cases hp with
            | pptr vs hok hc hr =>
              refine ⟨_, by simp [execOp, ho, hv, rep_int h2, Instr.indexAt, asIntOf, run_underlying hu, Instr.sureAddr, h0, hlt, tsz_spec hs, addr_add]; try rfl, ?_⟩
              rw [Nat.add_assoc]
              exact .pure (.pptr vs hok hc hr)
          all_goals exact hk.elim
  all_goals exact hk.elim
end
end Go.Am

/- The abstract machine Am, part F: operations that write or make memory. -/
namespace Go.Am
open Go.RowKit
variable [Base]
omit [Base] in
theorem spl_get {α : Type} (xs ys : List α) (off j : Nat) (h : off + ys.length ≤ xs.length) :
    (xs.take off ++ ys ++ xs.drop (off + ys.length))[j]? = if j < off then xs[j]? else if j < off + ys.length then ys[j - off]? else xs[j]? := by
  have hl : (xs.take off).length = off := by simp; omega
  split
  · rename_i hj
    rw [List.append_assoc, List.getElem?_append_left (by omega), List.getElem?_take, if_pos hj]
  · rename_i hj
    split
    · rename_i hj2
      rw [List.append_assoc, List.getElem?_append_right (by omega), hl, List.getElem?_append_left (by omega)]
    · rename_i hj2
      rw [List.getElem?_append_right (by simp; omega), List.getElem?_drop]
      congr 1
      simp only [List.length_append, hl]
      omega
omit [Base] in
theorem splice_length (xs ys : List AV) (off : Nat) (h : off + ys.length ≤ xs.length) : (splice xs off ys).length = xs.length := by
  simp [splice]; omega
section
variable {P : Program} {w0 : World} {r : Option Nat} {o : Oper} {ρ : Operand → AV} {h : Nat → Option ABlk}
/-- A list of abstract values stands for a list of values, each of one cell. -/
def RepL (h : Nat → Option ABlk) (m : Nat → Option Loc) (w : World) (xs : List AV) (us : List Value) : Prop :=
  xs.length = us.length ∧ (∀ u ∈ us, u.oneCell' = true) ∧ ∀ j (a : j < xs.length) (b : j < us.length), Rep h m w xs[j] us[j]
theorem RepL.ext {h h' : Nat → Option ABlk} {m m' : Nat → Option Loc} {w w' : World} {xs : List AV} {us : List Value} (a : RepL h m w xs us) (e : Ext h m w h' m' w') : RepL h' m' w' xs us :=
  ⟨a.1, a.2.1, fun j x y => (a.2.2 j x y).ext e⟩
theorem RepL.at {h : Nat → Option ABlk} {m : Nat → Option Loc} {w : World} {xs : List AV} {us : List Value} (a : RepL h m w xs us) {j : Nat} {x : AV} (hj : xs[j]? = some x) :
    ∃ u, us[j]? = some u ∧ u.oneCell' = true ∧ Rep h m w x u := by
  obtain ⟨hi, rfl⟩ := List.getElem?_eq_some_iff.1 hj
  have hi' : j < us.length := by have := a.1; omega
  exact ⟨us[j], by simp [hi'], a.2.1 _ (List.getElem_mem _), a.2.2 j hi hi'⟩
theorem sound_store {t : TypeId} {a x : Operand} {K : E → Prop} (ho : o.op = .store t a x) (hk : effK P o ρ h 0 K) : ∃ e, K e ∧ OpOK P w0 r o ρ h e := by
  simp only [effK, ho] at hk
  cases ha : ρ a <;> simp only [ha] at hk
  case ptr b g off =>
    cases hb : h b with
    | none => simp [hb] at hk
    | some k =>
      cases hx : cellsOf (ρ x) with
      | none => cases k <;> simp [hb, hx] at hk
      | some ys =>
        cases k <;> simp only [hb, hx] at hk
        case cells t' sz g' xs =>
          obtain ⟨rfl, hs, hfit, hk⟩ := hk
          refine ⟨_, hk, fun h' m w ac next Q _ hwr hg hop hnext => ?_⟩
          have hb' : h' b = some (.cells t' sz g xs) := (hwr b _ rfl).trans hb
          have h1 := hop a (by simp [ho, Op.operands]); rw [ha] at h1
          have h2 := hop x (by simp [ho, Op.operands])
          obtain ⟨l, hm, he⟩ := rep_ptr h1 hb'
          obtain ⟨us, hcells, hu⟩ := rep_cells h2 hx
          obtain ⟨arr, hheap, hsize, hlen, vs, hvs, hcell, hrep⟩ := blk_cells hg hb' hm
          have hul : ys.length = us.length := hu.1
          have hrunS := run_storeCells_at P l.c off t' us 0 arr w hheap (by simp; omega) hu.2.1
          simp only [Nat.add_zero] at hrunS
          have hrun : (execOp ac.eval o).run P w = .ok .skip (w.setRow l.c (arr.toList.take off ++ us ++ arr.toList.drop (off + us.length)).toArray) := by
            simp only [execOp, ho, he, Instr.storeAt, Instr.sureAddr, storeVar, Sem.run_bind, Sem.run_pure, Result.andThen_ok, tsz_spec hs.symm, hcells, List.size_toArray, hul, ne_eq, not_true_eq_false, if_false, hrunS]
          have hsame : ∀ c, c < w.heap.size → (∀ l0, m b = some l0 → l0.c ≠ c) → (w.setRow l.c (arr.toList.take off ++ us ++ arr.toList.drop (off + us.length)).toArray).heap[c]? = w.heap[c]? :=
            fun c _ hne => setRow_other w l.c c _ (fun e => hne l hm e.symm)
          have hfits : ∀ k0, h' b = some k0 → Fits k0 (.cells t' sz g (splice xs off ys)) (m b ≠ some l) := by
            intro k0 hk0; rw [hb'] at hk0; cases hk0
            exact ⟨rfl, rfl, Nat.le_refl _, fun _ hne => hne hm⟩
          have e := ext_put (k := .cells t' sz g (splice xs off ys)) (l' := l) hg (Nat.le_of_eq (setRow_size w l.c _).symm) hsame (.inl hm) hfits
          refine wp_skip (by simp [ho]) hrun (hnext _ _ (upd m b (some l)) (good_put hg rfl rfl rfl (Nat.le_of_eq (setRow_size w l.c _).symm) hsame (.inl hm) hfits ?_ (by simp)) e (.junk _))
          refine .inr ⟨l, _, upd_same _ _ _, setRow_heap w l.c arr _ t' _ hheap, by simp; omega, by rw [splice_length _ _ _ hfit]; exact hlen, fun j hj => ?_⟩
          rw [splice_length _ _ _ hfit] at hj
          have key : ∀ x', (splice xs off ys)[j]? = some x' → ∃ v, (arr.toList.take off ++ us ++ arr.toList.drop (off + us.length)).toArray[j]? = some v ∧ v.oneCell' = true ∧
              Rep (upd h' b (some (.cells t' sz g (splice xs off ys)))) (upd m b (some l)) (w.setRow l.c (arr.toList.take off ++ us ++ arr.toList.drop (off + us.length)).toArray) x' v := by
            intro x' hx?
            have hget : (splice xs off ys)[j]? = _ := spl_get xs ys off j hfit
            have hget2 := spl_get arr.toList us off j (by simp; omega)
            rw [hget] at hx?
            have : (arr.toList.take off ++ us ++ arr.toList.drop (off + us.length)).toArray[j]? = if j < off then arr[j]? else if j < off + us.length then us[j - off]? else arr[j]? := by
              simpa using hget2
            rw [this]
            by_cases hj1 : j < off
            · simp only [hj1, if_true] at hx? ⊢
              obtain ⟨hi, hxi⟩ := List.getElem?_eq_some_iff.1 hx?
              rw [← hxi]
              exact ⟨vs j, hvs j hj, (hcell j hj).2, (hrep j hj).ext e⟩
            · simp only [hj1, if_false] at hx? ⊢
              by_cases hj2 : j < off + ys.length
              · have hj2' : j < off + us.length := by omega
                simp only [hj2, hj2', if_true] at hx? ⊢
                obtain ⟨u, h3, h4, h5⟩ := RepL.at hu hx?
                exact ⟨u, h3, h4, h5.ext e⟩
              · have hj2' : ¬ j < off + us.length := by omega
                simp only [hj2, hj2', if_false] at hx? ⊢
                obtain ⟨hi, hxi⟩ := List.getElem?_eq_some_iff.1 hx?
                rw [← hxi]
                exact ⟨vs j, hvs j hj, (hcell j hj).2, (hrep j hj).ext e⟩
          exact key _ (List.getElem?_eq_getElem _)
        all_goals exact hk.elim
  all_goals exact hk.elim
/-- A block of cells in new memory: made, or moved there. -/
theorem good_move {h' : Nat → Option ABlk} {m : Nat → Option Loc} {w w1 : World} {b : Nat} {t : TypeId} {sz g' : Nat} {xs : List AV} {us rest : List Value} (hg : Good w0 h' m w)
    (hb : ∀ k0, h' b = some k0 → ∃ g0 xs0, k0 = .cells t sz g0 xs0 ∧ g0 < g')
    (hw : Below w.heap.size w w1) (hr : RepL h' m w xs us) :
    Good w0 (upd h' b (some (.cells t sz g' xs))) (upd m b (some ⟨w1.heap.size, (us ++ rest).length⟩)) (w1.alloc (.cells (us ++ rest).toArray t)) ∧
    Ext h' m w (upd h' b (some (.cells t sz g' xs))) (upd m b (some ⟨w1.heap.size, (us ++ rest).length⟩)) (w1.alloc (.cells (us ++ rest).toArray t)) := by
  obtain ⟨hg1, e1⟩ := hg.garbage hw
  have hsize : w1.heap.size ≤ (w1.alloc (.cells (us ++ rest).toArray t)).heap.size := by simp
  have hsame : ∀ c, c < w1.heap.size → (∀ l, m b = some l → l.c ≠ c) → (w1.alloc (.cells (us ++ rest).toArray t)).heap[c]? = w1.heap[c]? := fun c hc _ => Below.heap_alloc w1 _ c hc
  have hfits : ∀ k0, h' b = some k0 → Fits k0 (.cells t sz g' xs) (m b ≠ some ⟨w1.heap.size, (us ++ rest).length⟩) := by
    intro k0 hk0
    obtain ⟨g0, xs0, rfl, hlt⟩ := hb k0 hk0
    exact ⟨rfl, rfl, Nat.le_of_lt hlt, fun e => by omega⟩
  have e2 := ext_put (k := .cells t sz g' xs) (l' := ⟨w1.heap.size, (us ++ rest).length⟩) hg1 hsize hsame (.inr (Nat.le_refl _)) hfits
  refine ⟨good_put hg1 rfl rfl rfl hsize hsame (.inr (Nat.le_refl _)) hfits ?_ (by simp), e1.trans e2⟩
  have hr2 := (hr.ext e1).ext e2
  refine .inr ⟨_, _, upd_same _ _ _, Go.heap_alloc_new w1 _, by simp, by have := hr.1; simp; omega, fun j hj => ?_⟩
  obtain ⟨u, h3, h4, h5⟩ := hr2.at (j := j) (x := xs[j]) (by simp [hj])
  refine ⟨u, ?_, h4, h5⟩
  obtain ⟨hi, hu⟩ := List.getElem?_eq_some_iff.1 h3
  simp [List.getElem?_append_left hi, h3]
theorem good_new {h' : Nat → Option ABlk} {m : Nat → Option Loc} {w w1 : World} {b : Nat} {t : TypeId} {sz : Nat} {xs : List AV} {us rest : List Value} (hg : Good w0 h' m w) (hb : h' b = none)
    (hw : Below w.heap.size w w1) (hr : RepL h' m w xs us) :
    Good w0 (upd h' b (some (.cells t sz 0 xs))) (upd m b (some ⟨w1.heap.size, (us ++ rest).length⟩)) (w1.alloc (.cells (us ++ rest).toArray t)) ∧
    Ext h' m w (upd h' b (some (.cells t sz 0 xs))) (upd m b (some ⟨w1.heap.size, (us ++ rest).length⟩)) (w1.alloc (.cells (us ++ rest).toArray t)) :=
  good_move hg (fun k0 hk0 => by rw [hb] at hk0; cases hk0) hw hr
/-- An empty list that lies nowhere (nil). -/
theorem good_virt {h' : Nat → Option ABlk} {m : Nat → Option Loc} {w : World} {b : Nat} {t : TypeId} {sz g' : Nat} (hg : Good w0 h' m w) (hm : m b = none)
    (hb : ∀ k0, h' b = some k0 → ∃ g0 xs0, k0 = .cells t sz g0 xs0 ∧ g0 ≤ g') :
    Good w0 (upd h' b (some (.cells t sz g' []))) m w ∧ Ext h' m w (upd h' b (some (.cells t sz g' []))) m w := by
  have e : Ext h' m w (upd h' b (some (.cells t sz g' []))) m w := by
    refine ⟨fun c hc => ⟨rfl, hc⟩, fun b' t1 sz1 g1 xs1 hb' => ?_, fun b' es hb' => ?_, fun b' o hb' => ?_, fun b' st pend fn T ps asg body d hb' => ?_⟩
    · by_cases hbb : b' = b
      · subst hbb
        obtain ⟨g0, xs0, h1, h2⟩ := hb _ hb'
        cases h1
        exact ⟨g', [], upd_same _ _ _, h2, fun _ => rfl⟩
      · exact ⟨g1, xs1, by rw [upd_ne _ _ hbb]; exact hb', Nat.le_refl _, fun _ => rfl⟩
    · have hbb : b' ≠ b := by rintro rfl; obtain ⟨g0, xs0, h1, _⟩ := hb _ hb'; cases h1
      exact ⟨⟨es, by rw [upd_ne _ _ hbb]; exact hb'⟩, rfl⟩
    · have hbb : b' ≠ b := by rintro rfl; obtain ⟨g0, xs0, h1, _⟩ := hb _ hb'; cases h1
      exact ⟨⟨o, by rw [upd_ne _ _ hbb]; exact hb'⟩, rfl⟩
    · have hbb : b' ≠ b := by rintro rfl; obtain ⟨g0, xs0, h1, _⟩ := hb _ hb'; cases h1
      exact ⟨⟨st, pend, by rw [upd_ne _ _ hbb]; exact hb'⟩, rfl⟩
  refine ⟨⟨hg.below, hg.base, hg.inj, fun b' l hl => ?_, fun b' k hk => ?_, fun b' st pend fn T ps asg body d hb' => ?_, hg.fresh⟩, e⟩
  · have hbb : b' ≠ b := by rintro rfl; rw [hm] at hl; cases hl
    rw [upd_ne _ _ hbb]; exact hg.supp b' l hl
  · by_cases hbb : b' = b
    · subst hbb
      rw [upd_same] at hk; cases hk
      exact .inl ⟨hm, rfl⟩
    · rw [upd_ne _ _ hbb] at hk
      exact (hg.blk b' k hk).ext e rfl (fun _ _ => rfl) (fun _ _ _ _ _ _ _ _ _ => rfl)
  · by_cases hbb : b' = b
    · subst hbb; rw [upd_same] at hb'; cases hb'
    · rw [upd_ne _ _ hbb] at hb'
      obtain ⟨o, ho⟩ := hg.dloop _ _ _ _ _ _ _ _ _ hb'
      obtain ⟨⟨o', ho'⟩, _⟩ := e.dfr _ _ ho
      exact ⟨o', ho'⟩
omit [Base] in
theorem tzero_spec {t : TypeId} {zs : List AV} (h : tzero P t = some zs) : ∃ v, (∀ w : World, (zeroValue t).run P w = .ok v w) ∧ zs = v.cells.toList.map constAV ∧ ∃ i, P.info? t = some i ∧ i.zero = some v := by
  unfold tzero at h
  cases hi : P.info? t with
  | none => simp [hi] at h
  | some i =>
    cases hz : i.zero with
    | none => simp [hi, hz] at h
    | some v =>
      simp [hi, hz] at h
      exact ⟨v, fun w => by simp [zeroValue, typeInfo, hi, hz], h.symm, i, rfl, hz⟩
theorem zero_rep {h' : Nat → Option ABlk} {m : Nat → Option Loc} {w : World} {us : List Value} (hp : ∀ x ∈ us.map constAV, cellPure x = true) : RepL h' m w (us.map constAV) us := by
  refine ⟨by simp, fun u hu => ?_, fun j a b => ?_⟩
  · exact (const_rep (w := w) (ok := fun _ => True) (hp _ (List.mem_map_of_mem hu))).2
  · rw [List.getElem_map]
    exact .pure (const_rep (hp _ (List.mem_map_of_mem (List.getElem_mem _)))).1
theorem sound_alloc {t : TypeId} {nx : Nat} {K : E → Prop} (ho : o.op = .alloc t) (hn : h nx = none) (hk : effK P o ρ h nx K) : ∃ e, K e ∧ OpOK P w0 r o ρ h e := by
  simp only [effK, ho] at hk
  cases hz : tzero P t with
  | none => simp [hz] at hk
  | some zs =>
    simp only [hz] at hk
    obtain ⟨hp, hk⟩ := hk
    refine ⟨_, hk, fun h' m w ac next Q _ hwr hg hop hnext => ?_⟩
    obtain ⟨v, hv, rfl, _⟩ := tzero_spec hz
    have hb' : h' nx = none := (hwr nx _ rfl).trans hn
    obtain ⟨g1, e1⟩ := good_new (t := t) (sz := 1) (rest := []) hg hb' (Below.refl _ w) (zero_rep (h' := h') (m := m) (w := w) hp)
    simp only [List.append_nil] at g1 e1
    refine wp_val (v := .pointer (some ⟨w.heap.size, 0, none⟩)) (w' := w.alloc (.cells v.cells.toList.toArray t)) (by simp [ho]) ?_ (hnext _ _ _ g1 e1 (.ptr (upd_same _ _ _) (Nat.le_refl _) rfl (fun _ => ⟨_, upd_same _ _ _, rfl⟩)))
    simp [execOp, ho, Instr.alloc, hv, newVar, newRow]
theorem sound_box {t : TypeId} {x : Operand} {nx : Nat} {K : E → Prop} (ho : o.op = .box t x) (hn : h nx = none) (hk : effK P o ρ h nx K) : ∃ e, K e ∧ OpOK P w0 r o ρ h e := by
  simp only [effK, ho] at hk
  cases hx : cellsOf (ρ x) with
  | none => simp [hx] at hk
  | some xs =>
    simp only [hx] at hk
    refine ⟨_, hk, fun h' m w ac next Q _ hwr hg hop hnext => ?_⟩
    have hb' : h' nx = none := (hwr nx _ rfl).trans hn
    obtain ⟨us, hcells, hu⟩ := rep_cells (hop x (by simp [ho, Op.operands])) hx
    obtain ⟨g1, e1⟩ := good_new (t := t) (sz := 1) (rest := []) hg hb' (Below.refl _ w) hu
    simp only [List.append_nil] at g1 e1
    refine wp_val (v := .pointer (some ⟨w.heap.size, 0, none⟩)) (w' := w.alloc (.cells us.toArray t)) (by simp [ho]) ?_ (hnext _ _ _ g1 e1 (.ptr (upd_same _ _ _) (Nat.le_refl _) rfl (fun _ => ⟨_, upd_same _ _ _, rfl⟩)))
    simp [execOp, ho, Instr.box, newVar, newRow, hcells]
end
end Go.Am

/- The abstract machine Am, part G: literals, slices, append. -/
namespace Go.Am
open Go.RowKit
variable [Base]
omit [Base] in
theorem foldl_set_get {α : Type} (us : List α) : ∀ (off k : Nat) (arr : Array α) (j : Nat), off + k + us.length ≤ arr.size →
    ((us.zipIdx k).foldl (fun cs (p : α × Nat) => cs.setIfInBounds (off + p.2) p.1) arr)[j]? = if j < off + k then arr[j]? else if j < off + k + us.length then us[j - (off + k)]? else arr[j]? := by
  induction us with
  | nil => intro off k arr j _; simp; intro a b; omega
  | cons u us ih =>
    intro off k arr j h
    simp only [List.length_cons] at h
    simp only [List.zipIdx_cons, List.foldl_cons, List.length_cons]
    rw [ih off (k + 1) _ j (by simp; omega)]
    by_cases h1 : j < off + k
    · rw [if_pos (by omega), if_pos h1, Array.getElem?_setIfInBounds_ne (by omega)]
    · rw [if_neg h1]
      by_cases h2 : j = off + k
      · subst h2
        rw [if_pos (by omega), if_pos (by omega), Array.getElem?_setIfInBounds_self_of_lt (by omega)]
        simp
      · by_cases h3 : j < off + k + (us.length + 1)
        · rw [if_neg (by omega), if_pos (by omega), if_pos h3, show j - (off + k) = (j - (off + (k + 1))) + 1 by omega]
          simp
        · rw [if_neg (by omega), if_neg (by omega), if_neg h3, Array.getElem?_setIfInBounds_ne (by omega)]
omit [Base] in
theorem zipIdx_foldl_toList (us : List Value) (off : Nat) (arr : Array Value) (h : off + us.length ≤ arr.size) :
    (us.toArray.zipIdx.foldl (fun cs (p : Value × Nat) => cs.setIfInBounds (off + p.2) p.1) arr).toList = arr.toList.take off ++ us ++ arr.toList.drop (off + us.length) := by
  apply List.ext_getElem?
  intro j
  rw [spl_get arr.toList us off j (by simpa using h)]
  have := foldl_set_get us off 0 arr j (by simpa using h)
  simp only [Nat.add_zero] at this
  simpa using this
section
variable {P : Program} {w0 : World} {r : Option Nat} {o : Oper} {ρ : Operand → AV} {h : Nat → Option ABlk}
theorem RepL.splice {h : Nat → Option ABlk} {m : Nat → Option Loc} {w : World} {xs ys : List AV} {us vs : List Value} (a : RepL h m w xs us) (b : RepL h m w ys vs) {off : Nat} (hf : off + ys.length ≤ xs.length) :
    RepL h m w (splice xs off ys) (us.take off ++ vs ++ us.drop (off + vs.length)) := by
  have h1 := a.1
  have h2 := b.1
  refine ⟨by rw [splice_length _ _ _ hf]; simp; omega, fun u hu => ?_, fun j ha hb => ?_⟩
  · simp only [List.mem_append] at hu
    rcases hu with (hu | hu) | hu
    · exact a.2.1 u (List.mem_of_mem_take hu)
    · exact b.2.1 u hu
    · exact a.2.1 u (List.mem_of_mem_drop hu)
  · rw [splice_length _ _ _ hf] at ha
    have key : ∀ x u, (Am.splice xs off ys)[j]? = some x → (us.take off ++ vs ++ us.drop (off + vs.length))[j]? = some u → Rep h m w x u := by
      intro x u hx hu
      have hx' : (Am.splice xs off ys)[j]? = _ := spl_get xs ys off j hf
      rw [hx'] at hx
      rw [spl_get us vs off j (by omega)] at hu
      have hat : ∀ {zs : List AV} {ws : List Value} {i : Nat}, RepL h m w zs ws → zs[i]? = some x → ws[i]? = some u → Rep h m w x u := by
        intro zs ws i hr hz hw
        obtain ⟨u', h3, _, h5⟩ := hr.at hz
        rw [h3] at hw; cases hw; exact h5
      by_cases hj1 : j < off
      · simp only [hj1, if_true] at hx hu; exact hat a hx hu
      · simp only [hj1, if_false] at hx hu
        by_cases hj2 : j < off + ys.length
        · have hj2' : j < off + vs.length := by omega
          simp only [hj2, hj2', if_true] at hx hu; exact hat b hx hu
        · have hj2' : ¬ j < off + vs.length := by omega
          simp only [hj2, hj2', if_false] at hx hu; exact hat a hx hu
    exact key _ _ (List.getElem?_eq_getElem _) (List.getElem?_eq_getElem _)
/-- A literal's parts, filled in. -/
theorem fill_sound {h' : Nat → Option ABlk} {m : Nat → Option Loc} {w : World} {place place' : Nat → Option (Nat × Nat)} (hpl : ∀ i, place' i = place i) (ev : Operand → Value) : ∀ (parts : List (Nat × Operand)) (cells xs : List AV) (us : List Value),
    afill place cells (parts.map fun p => (p.1, ρ p.2)) = some xs → RepL h' m w cells us → (∀ p ∈ parts, Rep h' m w (ρ p.2) (ev p.2)) →
    ∃ vs : List Value, Instr.fill place' us.toArray (parts.map fun p => (p.1, ev p.2)) = some vs.toArray ∧ RepL h' m w xs vs
  | [], cells, xs, us, hf, hr, _ => by
    simp only [List.map_nil, afill, Option.some.injEq] at hf
    subst hf
    exact ⟨us, rfl, hr⟩
  | (i, x) :: rest, cells, xs, us, hf, hr, hp => by
    simp only [List.map_cons, afill] at hf
    cases hpi : place i with
    | none => simp [hpi] at hf
    | some q =>
      obtain ⟨off, size⟩ := q
      cases hx : cellsOf (ρ x) with
      | none => simp [hpi, hx] at hf
      | some ys =>
        simp only [hpi, hx] at hf
        split at hf
        · rename_i hc
          obtain ⟨vs, hcells, hv⟩ := rep_cells (hp (i, x) (by simp)) hx
          have hv' : RepL h' m w ys vs := hv
          have hl := hv'.1
          have hl2 := hr.1
          obtain ⟨zs, hz, hrz⟩ := fill_sound hpl ev rest _ xs _ hf (hr.splice hv' (off := off) (by omega)) (fun p hpm => hp p (by simp [hpm]))
          refine ⟨zs, ?_, hrz⟩
          simp only [List.map_cons, Instr.fill, hpl, hpi, hcells, List.size_toArray]
          have hc1 : (decide (vs.length ≠ size) || decide (off + vs.length > us.length)) = false := by simp; omega
          simp only [hc1, Bool.false_eq_true, if_false]
          have hfold := zipIdx_foldl_toList vs off us.toArray (by simp; omega)
          simp only at hfold
          rw [← hz]
          congr 1
          apply Array.toList_inj.1
          rw [hfold]
        · cases hf
theorem sound_build {t : TypeId} {parts : Array (Nat × Operand)} {K : E → Prop} (ho : o.op = .build t parts) (hk : effK P o ρ h 0 K) : ∃ e, K e ∧ OpOK P w0 r o ρ h e := by
  simp only [effK, ho] at hk
  cases hz : tzero P t with
  | none => simp [hz] at hk
  | some zs =>
    simp only [hz] at hk
    obtain ⟨hp, hk⟩ := hk
    obtain ⟨zv, hzv, rfl, it, hit, hitz⟩ := tzero_spec hz
    have fin : ∀ {place place' : Nat → Option (Nat × Nat)} {xs : List AV}, (∀ i, place' i = place i) → afill place (zv.cells.toList.map constAV) (parts.toList.map fun p => (p.1, ρ p.2)) = some xs →
        (∀ q, P.built t q = Instr.fill place' zv.cells q) → OpOK P w0 r o ρ h ⟨.agg xs, [], none⟩ := by
      intro place place' xs hpl hf hb
      refine ok_pure (by simp [ho]) fun h' m w ac hrd hg hop => ?_
      obtain ⟨vs, hfill, hr⟩ := fill_sound (h' := h') (m := m) (w := w) hpl ac.eval parts.toList _ xs zv.cells.toList hf (zero_rep hp) (fun p hpm => hop p.2 (by
        simp only [ho, Op.operands, List.mem_toArray, List.mem_map]
        exact ⟨p, hpm, rfl⟩))
      refine ⟨.agg vs.toArray, ?_, .agg vs hr.1 hr.2.1 hr.2.2⟩
      have hrb := run_build (P := P) w t (parts.map fun (i, x) => (i, ac.eval x)) vs.toArray (by rw [hb]; simpa using hfill)
      simp only [execOp, ho, Sem.run_bind, hrb, Result.andThen_ok]
      rfl
    cases ha : tarr P t with
    | some q =>
      obtain ⟨n, e⟩ := q
      simp only [ha] at hk
      cases hs : tsz P e with
      | none => simp [hs] at hk
      | some sz =>
        simp only [hs] at hk
        cases hf : afill (fun i => some (i * sz, sz)) (zv.cells.toList.map constAV) (parts.toList.map fun p => (p.1, ρ p.2)) with
        | none => simp [hf] at hk
        | some xs =>
          simp only [hf] at hk
          refine ⟨_, hk, fin (fun _ => rfl) hf (fun q => ?_)⟩
          unfold tsz at hs
          cases hie : P.info? e with
          | none => simp [hie] at hs
          | some ie =>
            simp only [hie, Option.map_some, Option.some.injEq] at hs
            subst hs
            simp [Program.built, hit, tarr_spec ha, hitz, hie]
    | none =>
      simp only [ha] at hk
      cases hpl : tplaces P t with
      | none => simp [hpl] at hk
      | some ps =>
        simp only [hpl] at hk
        cases hf : afill (fun i => ps[i]?) (zv.cells.toList.map constAV) (parts.toList.map fun p => (p.1, ρ p.2)) with
        | none => simp [hf] at hk
        | some xs =>
          simp only [hf] at hk
          refine ⟨_, hk, fin (place' := fun i => ps.toArray[i]?) (fun i => by simp) hf (fun q => ?_)⟩
          unfold tplaces at hpl
          cases hu : P.underlying t with
          | none => simp [hu] at hpl
          | some d =>
            cases d <;> simp [hu] at hpl
            simp [Program.built, hit, hu, hitz, hpl]
omit [Base] in
theorem flatten_replicate_get {α : Type} (l : List α) : ∀ (n j : Nat), j < n * l.length → (List.replicate n l).flatten[j]? = l[j % l.length]?
  | 0, j, h => by simp at h
  | n + 1, j, h => by
    have hpos : 0 < l.length := by
      rcases Nat.eq_zero_or_pos l.length with h0 | h0
      · rw [h0] at h; simp at h
      · exact h0
    rw [List.replicate_succ, List.flatten_cons]
    by_cases hj : j < l.length
    · rw [List.getElem?_append_left hj, Nat.mod_eq_of_lt hj]
    · rw [List.getElem?_append_right (by omega), flatten_replicate_get l n (j - l.length) (by rw [Nat.add_mul] at h; omega)]
      rw [← Nat.mod_eq_sub_mod (by omega)]
omit [Base] in
theorem flatten_replicate_length {α : Type} (l : List α) (n : Nat) : (List.replicate n l).flatten.length = n * l.length := by simp
omit [Base] in
theorem zeros_toList (z : Array Value) (n : Nat) (hz : 0 < z.size) : ((Array.range (n * z.size)).map (fun i => z[i % z.size]!)).toList = (List.replicate n z.toList).flatten := by
  apply List.ext_getElem?
  intro j
  by_cases hj : j < n * z.size
  · rw [flatten_replicate_get z.toList n j (by simpa using hj)]
    have hlt : j % z.size < z.size := Nat.mod_lt _ hz
    simp [hj, hlt]
  · rw [List.getElem?_eq_none (by simp; omega), List.getElem?_eq_none (by simp; omega)]
theorem RepL.flatten {h : Nat → Option ABlk} {m : Nat → Option Loc} {w : World} {xs : List AV} {us : List Value} (a : RepL h m w xs us) (n : Nat) : RepL h m w (List.replicate n xs).flatten (List.replicate n us).flatten := by
  refine ⟨by simp [a.1], fun u hu => ?_, fun j h1 h2 => ?_⟩
  · simp only [List.mem_flatten, List.mem_replicate] at hu
    obtain ⟨l, ⟨_, rfl⟩, hu⟩ := hu
    exact a.2.1 u hu
  · have h1' := h1
    simp only [flatten_replicate_length] at h1 h2
    have key : ∀ x u, (List.replicate n xs).flatten[j]? = some x → (List.replicate n us).flatten[j]? = some u → Rep h m w x u := by
      intro x u hx hu
      rw [flatten_replicate_get xs n j h1] at hx
      rw [flatten_replicate_get us n j h2, ← a.1] at hu
      obtain ⟨u', h3, _, h5⟩ := a.at hx
      rw [h3] at hu; cases hu; exact h5
    exact key _ _ (List.getElem?_eq_getElem _) (List.getElem?_eq_getElem _)
theorem lit_rep {h' : Nat → Option ABlk} {m : Nat → Option Loc} {w : World} {n : Nat} {xs : List AV} {us : List Value} {t : TypeId} (hg : Good w0 h' m w) (hr : RepL h' m w xs us) (hp : ∀ x ∈ xs, cellPure x = true) :
    Good w0 h' m (w.alloc (.cells us.toArray t)) ∧ Ext h' m w h' m (w.alloc (.cells us.toArray t)) ∧ Rep h' m (w.alloc (.cells us.toArray t)) (.psl true n xs) (.slice (some ⟨w.heap.size, 0, none⟩) n n) := by
  obtain ⟨g1, e1⟩ := hg.garbage ((Below.refl w.heap.size w).alloc (Nat.le_refl _) (.cells us.toArray t))
  refine ⟨g1, e1, .pure (.psl (fun j => us.getD j undef) (Nat.le_refl _) (fun _ => rfl) ⟨by simp, fun b l hl he => ?_, hg.fresh _ (.inr (Nat.le_refl _))⟩ (fun j hj => ?_) (fun j hj => ?_))⟩
  · have := hg.lt hl; omega
  · have hj' : j < us.length := by have := hr.1; omega
    refine ⟨?_, ?_⟩
    · have := Go.heap_alloc_new w (.cells us.toArray t)
      simp only [World.cell?]
      rw [this]
      simp [hj']
    · simp [hj']; exact hr.2.1 _ (List.getElem_mem _)
  · have hj' : j < us.length := by have := hr.1; omega
    have hx := prep_pure ((hr.ext e1).2.2 j hj hj') (hp _ (List.getElem_mem _))
    simpa [hj'] using hx
theorem sound_buildSlice {t : TypeId} {len : Nat} {parts : Array (Nat × Operand)} {K : E → Prop} (ho : o.op = .buildSlice t len parts) (hk : effK P o ρ h 0 K) : ∃ e, K e ∧ OpOK P w0 r o ρ h e := by
  simp only [effK, ho] at hk
  cases ht : tslice P t with
  | none => simp [ht] at hk
  | some e =>
    simp only [ht] at hk
    cases hs : tsz P e with
    | none => simp [hs] at hk
    | some sz =>
      cases hz : tzero P e with
      | none => simp [hs, hz] at hk
      | some zs =>
        simp only [hs, hz] at hk
        obtain ⟨hzl, hpos, hbig, hp, hk⟩ := hk
        cases hf : afill (fun i => some (i * sz, sz)) (List.replicate len zs).flatten (parts.toList.map fun p => (p.1, ρ p.2)) with
        | none => simp [hf] at hk
        | some xs =>
          simp only [hf] at hk
          obtain ⟨hpx, hk⟩ := hk
          refine ⟨_, hk, fun h' m w ac next Q _ _ hg hop hnext => ?_⟩
          obtain ⟨zv, hzv, rfl, it, hit, hitz⟩ := tzero_spec hz
          have hzsz : zv.cells.size = sz := by simpa using hzl
          obtain ⟨vs, hfill, hr⟩ := fill_sound (h' := h') (m := m) (w := w) (place' := fun i => some (i * sz, sz)) (fun _ => rfl) ac.eval parts.toList _ xs _ hf ((zero_rep hp).flatten len) (fun p hpm => hop p.2 (by
            simp only [ho, Op.operands, List.mem_toArray, List.mem_map]
            exact ⟨p, hpm, rfl⟩))
          obtain ⟨g1, e1, r1⟩ := lit_rep (n := len) (t := e) hg hr hpx
          refine wp_val (by simp [ho]) ?_ (hnext _ _ _ g1 e1 r1)
          have hz2 : ((Array.range (len * sz)).map (fun i => zv.cells[i % zv.cells.size]!)) = (List.replicate len zv.cells.toList).flatten.toArray := by
            apply Array.toList_inj.1
            rw [← hzsz, zeros_toList zv.cells len (by omega)]
          have hn0 : ∀ (q : Sem (Array Value)), (if len * sz = 0 then (pure #[] : Sem (Array Value)) else q).run P w = if len * sz = 0 then .ok #[] w else q.run P w := fun q => by split <;> rfl
          by_cases hl0 : len * sz = 0
          · have hlen : len = 0 := by
              rcases Nat.mul_eq_zero.1 hl0 with h1 | h1
              · exact h1
              · omega
            subst hlen
            simp only [List.replicate_zero, List.flatten_nil] at hfill
            have hr0 : Array.map (fun (_ : Nat) => (default : Value)) (Array.range 0) = #[] := by simp
            have hfill' : Instr.fill (fun i => some (i * sz, sz)) #[] (List.map (fun x => (x.fst, ac.eval x.snd)) parts.toList) = some vs.toArray := hfill
            simp [execOp, ho, Instr.buildSlice, run_underlying (tslice_spec ht), tsz_spec hs, newRow]
            rw [hr0, hfill']
            simp
          · have hnb : ¬ (len * sz > 2 ^ 24) := by omega
            simp only [execOp, ho, Instr.buildSlice, Sem.run_bind, run_underlying (tslice_spec ht), Result.andThen_ok, tsz_spec hs, hnb, if_false, hl0, hzv, Sem.run_pure, hz2]
            have hf2 : Instr.fill (fun i => some (i * sz, sz)) (List.replicate len zv.cells.toList).flatten.toArray (parts.map fun (i, x) => (i, ac.eval x)).toList = some vs.toArray := by simpa using hfill
            simp only [hf2, newRow, Sem.run_bind, run_newObj, Result.andThen_ok, Sem.run_pure]
            rfl
end
end Go.Am

/- The abstract machine Am, part H: slices, append, make, len, min, max. -/
namespace Go.Am
open Go.RowKit
variable [Base]
section
variable {P : Program} {w0 : World} {r : Option Nat} {o : Oper} {ρ : Operand → AV} {h : Nat → Option ABlk}
omit [Base] in
/-- The form of a slice that stays as it is. -/
theorem psl_val {ok : Nat → Prop} {w : World} {full : Bool} {n : Nat} {xs : List AV} {v : Value} (p : PRep ok w (.psl full n xs) v) : ∃ a cap, v = .slice a n cap ∧ n ≤ cap := by
  cases p with
  | psle h1 _ _ => exact ⟨_, _, rfl, h1⟩
  | psl _ h1 _ _ _ _ => exact ⟨_, _, rfl, h1⟩
omit [Base] in
theorem psl_window {ok : Nat → Prop} {w : World} {full : Bool} {n sz l u : Nat} {xs : List AV} {a : Option Addr} {cap : Nat} (p : PRep ok w (.psl full n xs) (.slice a n cap)) (hl : xs.length = n * sz) (h1 : l ≤ u) (h2 : u ≤ n) :
    PRep ok w (.psl false (u - l) (window xs (l * sz) ((u - l) * sz))) (.slice (if cap = l then a else a.map (·.add (l * sz))) (u - l) (cap - l)) := by
  obtain ⟨_, _, hv, hcap⟩ := psl_val p
  cases hv
  by_cases hw : window xs (l * sz) ((u - l) * sz) = []
  · rw [hw]
    refine .psle (by omega) (by simp) (fun ha => ?_)
    cases p with
    | psle _ _ h3 => split at ha; (· have := h3 ha; omega); (· rw [Option.map_eq_none_iff] at ha; have := h3 ha; omega)
    | psl => split at ha <;> simp at ha
  · have hne : 0 < (u - l) * sz := by
      rcases Nat.eq_zero_or_pos ((u - l) * sz) with h0 | h0
      · exact absurd (by simp [window, h0]) hw
      · exact h0
    have hul : l < u := by
      rcases Nat.lt_or_ge l u with h3 | h3
      · exact h3
      · rw [show u - l = 0 by omega] at hne; simp at hne
    have hcl : cap ≠ l := by omega
    have hlen : l * sz + (u - l) * sz ≤ xs.length := by
      rw [hl, ← Nat.add_mul]
      exact Nat.mul_le_mul_right _ (by omega)
    rw [if_neg hcl]
    cases p with
    | psle => simp [window] at hw
    | psl vs _ _ hok hc hr =>
      simp only [Option.map_some, addr_add]
      refine .psl (fun j => vs (l * sz + j)) (by omega) (by simp) hok (fun j hj => ?_) (fun j hj => ?_)
      · rw [window_length _ _ _ hlen] at hj
        rw [Nat.add_assoc]
        exact hc _ (by omega)
      · rw [window_get]
        exact hr _ _
theorem sound_slice {t : TypeId} {x : Operand} {lo hi : Option Operand} {K : E → Prop} (ho : o.op = .slice t x lo hi none) (hk : effK P o ρ h 0 K) : ∃ e, K e ∧ OpOK P w0 r o ρ h e := by
  simp only [effK, ho] at hk
  cases ht : tslice P t with
  | none => simp [ht] at hk
  | some e =>
    simp only [ht] at hk
    cases hs : tsz P e with
    | none => simp [hs] at hk
    | some sz =>
      simp only [hs] at hk
      cases hx : ρ x <;> simp only [hx, sliceK] at hk
      case osl b g off len =>
        cases hb : h b with
        | none => simp [hb] at hk
        | some blk =>
          cases blk <;> simp only [hb] at hk
          case cells t' sz' g' xs =>
            obtain ⟨rfl, rfl, hk⟩ := hk
            unfold cutO at hk
            generalize hlo : (lo.map ρ).getD (.int .i64 0) = lv at hk
            generalize hhi : (hi.map ρ).getD (.int .i64 len) = uv at hk
            cases lv <;> simp only at hk
            case int kl l =>
              cases uv <;> simp only at hk
              case int ku u =>
                obtain ⟨h0, h1, h2, h3, hk⟩ := hk
                refine ⟨_, hk, ok_pure (by simp [ho]) fun h' m w ac hrd hg hop => ?_⟩
                have hb' : h' b = some (.cells t' sz' g xs) := (hrd b (by simp)).trans hb
                have hxr := hop x (by simp [ho, Op.operands]); rw [hx] at hxr
                obtain ⟨l', rfl⟩ := Int.eq_ofNat_of_zero_le h0
                obtain ⟨u', rfl⟩ := Int.eq_ofNat_of_zero_le (show 0 ≤ u by omega)
                have h1' : l' ≤ u' := by omega
                have h2' : u' ≤ len := by omega
                have h3' : l' = 0 ∨ l' < len := by omega
                have he1 : ((u' : Int) - (l' : Int)).toNat = u' - l' := by omega
                have he2 : ((l' : Nat) : Int).toNat = l' := by omega
                rw [he1, he2]
                have hloV : ∀ (q : Operand), lo = some q → ac.eval q = .int kl l' := by
                  intro q hq; subst hq
                  have := hop q (by simp [ho, Op.operands]); simp only [Option.map_some, Option.getD_some] at hlo; rw [hlo] at this; exact rep_int this
                have hhiV : ∀ (q : Operand), hi = some q → ac.eval q = .int ku u' := by
                  intro q hq; subst hq
                  have := hop q (by simp [ho, Op.operands]); simp only [Option.map_some, Option.getD_some] at hhi; rw [hhi] at this; exact rep_int this
                have hbb : ∀ cap, len ≤ cap → (Instr.sliceBounds true len cap (lo.map ac.eval) (hi.map ac.eval) none).run P w = .ok (l', u', cap) w := by
                  intro cap hcap
                  cases hi with
                  | none =>
                    simp only [Option.map_none, Option.getD_none] at hhi; injection hhi with e1 e2; subst e1
                    have hu : u' = len := by omega
                    subst hu
                    cases lo with
                    | none => simp only [Option.map_none, Option.getD_none] at hlo; injection hlo with e3 e4; subst e3; simp [Instr.sliceBounds]; omega
                    | some q => simp [Instr.sliceBounds, hloV q rfl, Instr.sliceBound, asIntOf, h1']
                  | some p =>
                    have hu2 : (u' : Int) ≤ cap := by omega
                    cases lo with
                    | none => simp only [Option.map_none, Option.getD_none] at hlo; injection hlo with e3 e4; subst e3; simp [Instr.sliceBounds, hhiV p rfl, Instr.sliceBound, asIntOf, show u' ≤ cap by omega]; omega
                    | some q => simp [Instr.sliceBounds, hhiV p rfl, hloV q rfl, Instr.sliceBound, asIntOf, h1', show u' ≤ cap by omega]
                rcases rep_osl hxr hb' with ⟨hm, rfl, rfl, hv⟩ | ⟨l, cap, hm, hv, hc1, hc2, hc3⟩
                · have hl0 : l' = 0 := by omega
                  have hu0 : u' = 0 := by omega
                  subst hl0 hu0
                  refine ⟨.slice none 0 0, ?_, .osl hb' (Nat.le_refl _) rfl (fun _ => .inl ⟨hm, by simp, rfl, rfl⟩)⟩
                  simp [execOp, ho, hv, Instr.sliceAt, Sem.run_bind, run_underlying (tslice_spec ht), Result.andThen_ok, Instr.slice, hbb 0 (Nat.le_refl _), tsz_spec hs, Sem.run_pure]
                · have hadd : ∀ n : Nat, (⟨l.c, off, none⟩ : Addr).add n = ⟨l.c, off + n, none⟩ := fun n => addr_add _ _ _
                  refine ⟨.slice (some ⟨l.c, off + l' * sz', none⟩) (u' - l') (cap - l'), ?_, .osl hb' (Nat.le_refl _) rfl (fun _ => .inr ⟨l, cap - l', hm, rfl, by omega, ?_, by omega⟩)⟩
                  · have hif : (if cap = l' then (some ⟨l.c, off, none⟩ : Option Addr) else (some ⟨l.c, off, none⟩ : Option Addr).map (·.add (l' * sz'))) = some ⟨l.c, off + l' * sz', none⟩ := by
                      split
                      · have : l' = 0 := by omega
                        subst this; simp
                      · simp [hadd]
                    simp only [execOp, ho, hv, Instr.sliceAt, Sem.run_bind, run_underlying (tslice_spec ht), Result.andThen_ok, Instr.slice, Option.map_none, hbb cap hc1, tsz_spec hs, Sem.run_pure, hif]
                  · have h5 : l' ≤ cap := by omega
                    have h6 : l' * sz' + (cap - l') * sz' = cap * sz' := by rw [← Nat.add_mul]; congr 1; omega
                    omega
              all_goals exact hk.elim
            all_goals exact hk.elim
          all_goals exact hk.elim
      case psl full n xs =>
        generalize hlo : (lo.map ρ).getD (.int .i64 0) = lv at hk
        generalize hhi : (hi.map ρ).getD (.int .i64 n) = uv at hk
        cases lv <;> simp only at hk
        case int kl l =>
          cases uv <;> simp only at hk
          case int ku u =>
            obtain ⟨h0, h1, h2, hlen, hk⟩ := hk
            refine ⟨_, hk, ok_pure (by simp [ho]) fun h' m w ac _ hg hop => ?_⟩
            have hxr := hop x (by simp [ho, Op.operands]); rw [hx] at hxr
            have hp := rep_psl hxr
            obtain ⟨a, cap, hv, hcap⟩ := psl_val hp
            rw [hv] at hp
            obtain ⟨l', rfl⟩ := Int.eq_ofNat_of_zero_le h0
            obtain ⟨u', rfl⟩ := Int.eq_ofNat_of_zero_le (show 0 ≤ u by omega)
            have h1' : l' ≤ u' := by omega
            have h2' : u' ≤ n := by omega
            have hres := psl_window (sz := sz) hp hlen h1' h2'
            have he1 : ((u' : Int) - (l' : Int)).toNat = u' - l' := by omega
            have he2 : ((l' : Nat) : Int).toNat = l' := by omega
            rw [he1, he2]
            refine ⟨_, ?_, .pure hres⟩
            have hloV : ∀ (q : Operand), lo = some q → ac.eval q = .int kl l' := by
              intro q hq; subst hq
              have := hop q (by simp [ho, Op.operands]); simp only [Option.map_some, Option.getD_some] at hlo; rw [hlo] at this; exact rep_int this
            have hhiV : ∀ (q : Operand), hi = some q → ac.eval q = .int ku u' := by
              intro q hq; subst hq
              have := hop q (by simp [ho, Op.operands]); simp only [Option.map_some, Option.getD_some] at hhi; rw [hhi] at this; exact rep_int this
            have hb : (Instr.sliceBounds true n cap (lo.map ac.eval) (hi.map ac.eval) none).run P w = .ok (l', u', cap) w := by
              cases hi with
              | none =>
                simp only [Option.map_none, Option.getD_none] at hhi; injection hhi with e1 e2; subst e1
                have hu : u' = n := by omega
                subst hu
                cases lo with
                | none => simp only [Option.map_none, Option.getD_none] at hlo; injection hlo with e3 e4; subst e3; simp [Instr.sliceBounds]; omega
                | some q => simp [Instr.sliceBounds, hloV q rfl, Instr.sliceBound, asIntOf, h1']
              | some p =>
                have hu2 : (u' : Int) ≤ cap := by omega
                cases lo with
                | none => simp only [Option.map_none, Option.getD_none] at hlo; injection hlo with e3 e4; subst e3; simp [Instr.sliceBounds, hhiV p rfl, Instr.sliceBound, asIntOf, show u' ≤ cap by omega]; omega
                | some q => simp [Instr.sliceBounds, hhiV p rfl, hloV q rfl, Instr.sliceBound, asIntOf, h1', show u' ≤ cap by omega]
            simp only [execOp, ho, hv, Instr.sliceAt, Sem.run_bind, run_underlying (tslice_spec ht), Result.andThen_ok, Instr.slice, Option.map_none, hb, tsz_spec hs, Sem.run_pure]
          all_goals exact hk.elim
        all_goals exact hk.elim
      all_goals exact hk.elim
end
end Go.Am

/- The abstract machine Am, part I: make, len, min, max, append. -/
namespace Go.Am
open Go.RowKit
variable [Base]
section
variable {P : Program} {w0 : World} {r : Option Nat} {o : Oper} {ρ : Operand → AV} {h : Nat → Option ABlk}
theorem good_map {h' : Nat → Option ABlk} {m : Nat → Option Loc} {w : World} {b : Nat} (hg : Good w0 h' m w) (hb : h' b = none) :
    Good w0 (upd h' b (some (.map []))) (upd m b (some ⟨w.heap.size, 0⟩)) (w.alloc (.map #[] 0)) ∧ Ext h' m w (upd h' b (some (.map []))) (upd m b (some ⟨w.heap.size, 0⟩)) (w.alloc (.map #[] 0)) := by
  have hsize : w.heap.size ≤ (w.alloc (.map #[] 0)).heap.size := by simp
  have hsame : ∀ c, c < w.heap.size → (∀ l, m b = some l → l.c ≠ c) → (w.alloc (.map #[] 0)).heap[c]? = w.heap[c]? := fun c hc _ => Below.heap_alloc w _ c hc
  have hfits : ∀ k0, h' b = some k0 → Fits k0 (.map []) (m b ≠ some ⟨w.heap.size, 0⟩) := by intro k0 hk0; rw [hb] at hk0; cases hk0
  refine ⟨good_put hg rfl rfl rfl hsize hsame (.inr (Nat.le_refl _)) hfits ?_ (by simp), ext_put hg hsize hsame (.inr (Nat.le_refl _)) hfits⟩
  exact ⟨_, _, _, upd_same _ _ _, Go.heap_alloc_new w _, rfl, fun j hj => by simp at hj⟩
theorem sound_makeMap {t : TypeId} {nx : Nat} {K : E → Prop} (ho : o.op = .makeMap t none) (hn : h nx = none) (hk : effK P o ρ h nx K) : ∃ e, K e ∧ OpOK P w0 r o ρ h e := by
  simp only [effK, ho] at hk
  refine ⟨_, hk, fun h' m w ac next Q _ hwr hg hop hnext => ?_⟩
  have hb' : h' nx = none := (hwr nx _ rfl).trans hn
  obtain ⟨g1, e1⟩ := good_map hg hb'
  refine wp_val (v := .map (some w.heap.size)) (w' := w.alloc (.map #[] 0)) (by simp [ho]) ?_ (hnext _ _ _ g1 e1 (.map (upd_same _ _ _) (upd_same _ _ _)))
  simp [execOp, ho, Instr.makeMap]
omit [Base] in
theorem tbytes_spec {t : TypeId} {n : Nat} {i : TypeInfo} (h : tbytes P t = some n) (hi : P.info? t = some i) : i.bytes = n := by
  simpa [tbytes, hi] using h
omit [Base] in
theorem tsz_info {t : TypeId} {n : Nat} {i : TypeInfo} (h : tsz P t = some n) (hi : P.info? t = some i) : i.size = n := by
  simpa [tsz, hi] using h
theorem sound_makeSlice {t : TypeId} {l c : Operand} {nx : Nat} {K : E → Prop} (ho : o.op = .makeSlice t l c) (hn : h nx = none) (hk : effK P o ρ h nx K) : ∃ e, K e ∧ OpOK P w0 r o ρ h e := by
  simp only [effK, ho] at hk
  cases ht : tslice P t with
  | none => simp [ht] at hk
  | some e =>
    simp only [ht] at hk
    cases hs : tsz P e with
    | none => simp [hs] at hk
    | some sz =>
      cases hby : tbytes P e with
      | none => simp [hs, hby] at hk
      | some bys =>
        cases hz : tzero P e with
        | none => simp [hs, hby, hz] at hk
        | some zs =>
          simp only [hs, hby, hz] at hk
          obtain ⟨hzl, hpos, hp, hk⟩ := hk
          cases hl : ρ l <;> cases hc : ρ c <;> simp only [hl, hc, makeK] at hk
          case int.int kl n kc n' =>
            obtain ⟨rfl, h0, hb48, hb63, hk⟩ := hk
            refine ⟨_, hk, fun h' m w ac next Q _ hwr hg hop hnext => ?_⟩
            have hb' : h' nx = none := (hwr nx _ rfl).trans hn
            obtain ⟨zv, hzv, rfl, it, hit, hitz⟩ := tzero_spec hz
            have hzsz : zv.cells.size = sz := by simpa using hzl
            have h1 := hop l (by simp [ho, Op.operands]); rw [hl] at h1
            have h2 := hop c (by simp [ho, Op.operands]); rw [hc] at h2
            obtain ⟨g1, e1⟩ := good_new (t := e) (sz := sz) (rest := []) hg hb' (Below.refl _ w) ((zero_rep (h' := h') (m := m) (w := w) hp).flatten n.toNat)
            simp only [List.append_nil] at g1 e1
            have hbi := tbytes_spec hby hit
            have hsi := tsz_info hs hit
            have hbig : (it.bytes : Int) * n ≤ 281474976710656 := by
              rw [hbi, ← Int.toNat_of_nonneg h0]
              have h : ((bys * n.toNat : Nat) : Int) ≤ 281474976710656 := by omega
              rwa [Int.natCast_mul] at h
            have hrun := run_make (P := P) w t e it zv (tslice_spec ht) hit hitz kl kc n n h0 (Int.le_refl _) hbig (by omega)
            have hz2 : madeCells zv.cells (n.toNat * it.size) = (List.replicate n.toNat zv.cells.toList).flatten.toArray := by
              apply Array.toList_inj.1
              rw [hsi, ← hzsz]
              exact zeros_toList zv.cells n.toNat (by omega)
            rw [hz2] at hrun
            refine wp_val (by simp [ho]) ?_ (hnext _ _ _ g1 e1 (.osl (v := .slice (some ⟨w.heap.size, 0, none⟩) n.toNat n.toNat) (upd_same _ _ _) (Nat.le_refl _) rfl (fun _ => .inr ⟨_, n.toNat, upd_same _ _ _, rfl, Nat.le_refl _, by simp [hzsz], by simp only [maxLen]; omega⟩)))
            simp only [execOp, ho, rep_int h1, rep_int h2, Sem.run_bind, hrun, Result.andThen_ok, Sem.run_pure]
          all_goals exact hk.elim
omit [Base] in
theorem run_call_builtin {b : Builtin} {args : Array Operand} {ts : Array TypeId} (ho : o.op = .call ⟨.builtin b, args, ts⟩) (ac : Act) (w : World) :
    (execOp ac.eval o).run P w = (builtin b ts o.type (args.map fun | .const _ => true | _ => false) (args.map ac.eval)).run P w := by
  simp [execOp, ho, resolve, invoke]
  rfl
theorem sound_len {t : TypeId} {x : Operand} {nx : Nat} {K : E → Prop} (ho : o.op = .call ⟨.builtin .len, #[x], #[t]⟩) (hk : builtinK P .len #[t] [ρ x] h nx K) : ∃ e, K e ∧ OpOK P w0 r o ρ h e := by
  have fin : ∀ (ac : Act) (w : World) (n : Nat), (Builtin.len_ #[t] o.type #[ac.eval x]).run P w = .ok (goInt n) w → (execOp ac.eval o).run P w = .ok (.value (.int .i64 n)) w := by
    intro ac w n hr
    rw [run_call_builtin ho]
    simp [builtin, hr, goInt]
  cases hx : ρ x <;> simp only [builtinK, hx] at hk
  case psl full n xs =>
    obtain ⟨ht, hk⟩ := hk
    obtain ⟨e, ht⟩ := Option.isSome_iff_exists.1 ht
    refine ⟨_, hk, ok_pure (by simp [ho]) fun h' m w ac hrd hg hop => ⟨_, fin ac w n ?_, .pure (.int _ _)⟩⟩
    have h1 := hop x (by simp [ho, Op.operands, Call.operands]); rw [hx] at h1
    obtain ⟨a, cap, hv, _⟩ := psl_val (rep_psl h1)
    simp [Builtin.len_, run_underlying (tslice_spec ht), hv]
  case nils =>
    obtain ⟨ht, hk⟩ := hk
    obtain ⟨e, ht⟩ := Option.isSome_iff_exists.1 ht
    refine ⟨_, hk, ok_pure (by simp [ho]) fun h' m w ac hrd hg hop => ⟨_, fin ac w 0 ?_, .pure (.int _ _)⟩⟩
    have h1 := hop x (by simp [ho, Op.operands, Call.operands]); rw [hx] at h1
    simp [Builtin.len_, run_underlying (tslice_spec ht), rep_nils h1]
  case osl b g off len =>
    obtain ⟨ht, hk⟩ := hk
    obtain ⟨e, ht⟩ := Option.isSome_iff_exists.1 ht
    cases hb : h b with
    | none => simp [hb] at hk
    | some k =>
      cases k <;> simp only [hb] at hk
      case cells t' sz g' xs =>
        obtain ⟨rfl, hk⟩ := hk
        refine ⟨_, hk, ok_pure (by simp [ho]) fun h' m w ac hrd hg hop => ⟨_, fin ac w len ?_, .pure (.int _ _)⟩⟩
        have hb' : h' b = some (.cells t' sz g xs) := (hrd b (by simp)).trans hb
        have h1 := hop x (by simp [ho, Op.operands, Call.operands]); rw [hx] at h1
        rcases rep_osl h1 hb' with ⟨_, _, rfl, hv⟩ | ⟨l, cap, _, hv, _⟩
        · simp [Builtin.len_, run_underlying (tslice_spec ht), hv]
        · simp [Builtin.len_, run_underlying (tslice_spec ht), hv]
      all_goals exact hk.elim
  case map b =>
    obtain ⟨ht, hk⟩ := hk
    obtain ⟨⟨kt, vt⟩, ht⟩ := Option.isSome_iff_exists.1 ht
    cases hb : h b with
    | none => simp [hb] at hk
    | some k =>
      cases k <;> simp only [hb] at hk
      case map es =>
        refine ⟨_, hk, ok_pure (by simp [ho]) fun h' m w ac hrd hg hop => ⟨_, fin ac w es.length ?_, .pure (.int _ _)⟩⟩
        have hb' : h' b = some (.map es) := (hrd b (by simp)).trans hb
        have h1 := hop x (by simp [ho, Op.operands, Call.operands]); rw [hx] at h1
        obtain ⟨l, hm, hv⟩ := rep_map h1
        obtain ⟨l', arr, clk, hm', hheap, hsz, _⟩ := hg.blk b _ hb'
        rw [hm] at hm'; cases hm'
        have hgo : (getObj l.c).run P w = .ok (.map arr clk) w := by simp [getObj, Sem.run, hheap]
        simp only [Builtin.len_, List.getElem?_toArray, List.getElem?_cons_zero, Sem.run_bind, run_underlying (tmap_spec ht), Result.andThen_ok, hv, hgo, Sem.run_pure, hsz]
      all_goals exact hk.elim
  all_goals exact hk.elim
theorem mm_sound {isMax : Bool} {xs : List AV} {K : AV → Prop} (hk : mm isMax xs K) : ∃ k n, K (.int k n) ∧ ∀ (h' : Nat → Option ABlk) (m : Nat → Option Loc) (w : World) (us : List Value), xs.length = us.length →
    (∀ j (a : j < xs.length) (b : j < us.length), Rep h' m w xs[j] us[j]) → (if isMax then Builtin.max_ #[] 0 us.toArray else Builtin.min_ #[] 0 us.toArray).run P w = .ok (.int k n) w := by
  match xs, hk with
  | [.int k a], hk =>
    refine ⟨k, a, hk, fun h' m w us hl hr => ?_⟩
    match us, hl with
    | [u], _ =>
      have h0 := rep_int (hr 0 (by simp) (by simp))
      simp only [List.getElem_cons_zero] at h0
      subst h0
      cases isMax <;> simp [Builtin.max_, Builtin.min_]
  | [.int k a, .int k' b], hk =>
    obtain ⟨rfl, hk⟩ := hk
    refine ⟨k, _, hk, fun h' m w us hl hr => ?_⟩
    match us, hl with
    | [u, v], _ =>
      have h0 := rep_int (hr 0 (by simp) (by simp))
      have h1 := rep_int (hr 1 (by simp) (by simp))
      simp only [List.getElem_cons_zero, List.getElem_cons_succ] at h0 h1
      subst h0 h1
      cases isMax <;> simp [Builtin.max_, Builtin.min_, Builtin.max2, Builtin.min2]
theorem sound_mm {isMax : Bool} {args : Array Operand} {ts : Array TypeId} {K : E → Prop} (ho : o.op = .call ⟨.builtin (if isMax then .max else .min), args, ts⟩) (hk : mm isMax (args.toList.map ρ) fun v => K ⟨v, [], none⟩) :
    ∃ e, K e ∧ OpOK P w0 r o ρ h e := by
  obtain ⟨k, n, hK, hrun⟩ := mm_sound (P := P) hk
  refine ⟨_, hK, ok_pure (by simp [ho]) fun h' m w ac hrd hg hop => ⟨.int k n, ?_, .pure (.int _ _)⟩⟩
  have := hrun h' m w (args.toList.map ac.eval) (by simp) (fun j a b => by
    simp only [List.getElem_map]
    exact hop _ (by simp [ho, Op.operands, Call.operands]))
  rw [run_call_builtin ho]
  have e1 : (args.map ac.eval) = (args.toList.map ac.eval).toArray := by rw [← Array.toList_map, Array.toArray_toList]
  cases isMax
  · simp only [Bool.false_eq_true, if_false] at this ⊢
    simp only [builtin, e1, Sem.run_bind]
    rw [show Builtin.min_ ts o.type (List.map ac.eval args.toList).toArray = Builtin.min_ #[] 0 (List.map ac.eval args.toList).toArray from rfl, this]
    rfl
  · simp only [if_true] at this ⊢
    simp only [builtin, e1, Sem.run_bind]
    rw [show Builtin.max_ ts o.type (List.map ac.eval args.toList).toArray = Builtin.max_ #[] 0 (List.map ac.eval args.toList).toArray from rfl, this]
    rfl
omit [Base] in
/-- Nothing is appended. -/
theorem run_append_zero {t ty e : TypeId} {sz : Nat} (ht : P.underlying t = some (.slice e)) (hs : tsz P e = some sz) (base a : Option Addr) (len cap c : Nat) (hcap : len ≤ cap) (w : World) (hb : ∀ x, base = some x → True) :
    (Builtin.append_ #[t, t] ty #[.slice base len cap, .slice a 0 c]).run P w = .ok (.slice base len cap) w := by
  cases base with
  | none => cases a <;> simp [Builtin.append_, run_underlying ht, tsz_spec hs, Builtin.lenOf, hcap, Builtin.firstCells, loadCells, loadCellsFrom]
  | some x => cases a <;> simp [Builtin.append_, run_underlying ht, tsz_spec hs, Builtin.lenOf, hcap, Builtin.firstCells, loadCells, loadCellsFrom, storeCells]
omit [Base] in
/-- The cells of a slice that stays as it is. -/
theorem psl_news {ok : Nat → Prop} {w : World} {full : Bool} {n : Nat} {xs : List AV} {v : Value} (p : PRep ok w (.psl full n xs) v) (hne : xs ≠ []) :
    ∃ c o cap, ∃ us : List Value, v = .slice (some ⟨c, o, none⟩) n cap ∧ ok c ∧ xs.length = us.length ∧ (∀ j u, us[j]? = some u → w.cell? ((⟨c, o, none⟩ : Addr).add j) = some u) ∧ (∀ u ∈ us, u.oneCell' = true) ∧
      ∀ j (a : j < xs.length) (b : j < us.length), PRep ok w xs[j] us[j] := by
  cases p with
  | psle => exact absurd rfl hne
  | psl vs _ _ hok hc hr =>
    refine ⟨_, _, _, (List.range xs.length).map vs, rfl, hok, by simp, fun j u hu => ?_, fun u hu => ?_, fun j a b => ?_⟩
    · rw [addr_add]
      simp only [List.getElem?_map, Option.map_eq_some_iff] at hu
      obtain ⟨k, hk, rfl⟩ := hu
      obtain ⟨h1, h2⟩ := List.getElem?_eq_some_iff.1 hk
      simp at h1 h2; subst h2
      exact (hc _ h1).1
    · simp only [List.mem_map, List.mem_range] at hu
      obtain ⟨j, hj, rfl⟩ := hu
      exact (hc j hj).2
    · simp only [List.getElem_map, List.getElem_range]
      exact hr j a
theorem RepL.append {h : Nat → Option ABlk} {m : Nat → Option Loc} {w : World} {xs ys : List AV} {us vs : List Value} (a : RepL h m w xs us) (b : RepL h m w ys vs) : RepL h m w (xs ++ ys) (us ++ vs) := by
  refine ⟨by simp [a.1, b.1], fun u hu => ?_, fun j h1 h2 => ?_⟩
  · rcases List.mem_append.1 hu with hu | hu
    · exact a.2.1 u hu
    · exact b.2.1 u hu
  · have key : ∀ x u, (xs ++ ys)[j]? = some x → (us ++ vs)[j]? = some u → Rep h m w x u := by
      intro x u hx hu
      have hl := a.1
      by_cases hj : j < xs.length
      · rw [List.getElem?_append_left hj] at hx
        rw [List.getElem?_append_left (by omega)] at hu
        obtain ⟨u', h3, _, h5⟩ := a.at hx
        rw [h3] at hu; cases hu; exact h5
      · rw [List.getElem?_append_right (by omega)] at hx
        rw [List.getElem?_append_right (by omega), ← hl] at hu
        obtain ⟨u', h3, _, h5⟩ := b.at hx
        rw [h3] at hu; cases hu; exact h5
    exact key _ _ (List.getElem?_eq_getElem _) (List.getElem?_eq_getElem _)
omit [Base] in
theorem grown_size (z : Array Value) (sz n k : Nat) (hz : z.size = sz) (us : List Value) (hu : us.length = n * sz) (hk : n ≤ k) : (us ++ (Builtin.zeroCells z (k - n)).toList).length = k * sz := by
  have : (Builtin.zeroCells z (k - n)).size = (k - n) * sz := by rw [size_zeroCells, hz]
  simp only [List.length_append, hu, Array.length_toList, this, ← Nat.add_mul]
  congr 1; omega
omit [Base] in
theorem below_drew (w : World) : Below w.heap.size w w.drew := (Below.refl _ w).drew
/-- 'append' to a list that the call itself has made, or to nil. -/
theorem append_core {t e : TypeId} {ty : TypeId} {sz bys : Nat} {zs : List AV} {b g n len : Nat} {xs ys : List AV} {full : Bool} {h' : Nat → Option ABlk} {m : Nat → Option Loc} {w : World} {sv xv : Value}
    (ht : tslice P t = some e) (hs : tsz P e = some sz) (hby : tbytes P e = some bys) (hz : tzero P e = some zs) (hzl : zs.length = sz) (hpos : 0 < sz)
    (hyl : ys.length = n * sz) (hxl : xs.length = len * sz) (hbytes : (len + n) * bys ≤ 140737488355328) (h63 : len + n ≤ 9223372036854775807)
    (hg : Good w0 h' m w) (hx : PRep (Ok m w) w (.psl full n ys) xv)
    (hb : (h' b = none ∧ sv = .slice none 0 0 ∧ len = 0 ∧ g = 0) ∨ (∃ g0, h' b = some (.cells e sz g0 xs) ∧ g = g0 + 1 ∧ Rep h' m w (.osl b g0 0 len) sv)) :
    ∃ v w' m', (Builtin.append_ #[t, t] ty #[sv, xv]).run P w = .ok v w' ∧ Good w0 (upd h' b (some (.cells e sz g (xs ++ ys)))) m' w' ∧ Ext h' m w (upd h' b (some (.cells e sz g (xs ++ ys)))) m' w' ∧
      Rep (upd h' b (some (.cells e sz g (xs ++ ys)))) m' w' (.osl b g 0 (len + n)) v := by
  obtain ⟨zv, hzv, rfl, it, hit, hitz⟩ := tzero_spec hz
  have hzsz : zv.cells.size = sz := by simpa using hzl
  have hbi := tbytes_spec hby hit
  have hsi := tsz_info hs hit
  have hu := tslice_spec ht
  have hb0 : ∀ k0, h' b = some k0 → ∃ g0 xs0, k0 = .cells e sz g0 xs0 ∧ g0 < g := by
    intro k0 hk0
    rcases hb with ⟨h1, _⟩ | ⟨g0, h1, h2, _⟩
    · rw [h1] at hk0; cases hk0
    · rw [h1] at hk0; cases hk0; exact ⟨g0, xs, rfl, by omega⟩
  have hb1 : ∀ k0, h' b = some k0 → ∃ g0 xs0, k0 = .cells e sz g0 xs0 ∧ g0 ≤ g := fun k0 hk0 => let ⟨g0, xs0, a, c⟩ := hb0 k0 hk0; ⟨g0, xs0, a, Nat.le_of_lt c⟩
  have hsv : (m b = none ∧ len = 0 ∧ sv = .slice none 0 0 ∧ xs = []) ∨ ∃ l cap, m b = some l ∧ sv = .slice (some ⟨l.c, 0, none⟩) len cap ∧ len ≤ cap ∧ 0 + cap * sz ≤ l.n ∧ cap ≤ maxLen ∧ h' b = some (.cells e sz (g - 1) xs) ∧ 0 < g := by
    rcases hb with ⟨h1, h2, h3, h4⟩ | ⟨g0, h1, h2, h3⟩
    · left
      refine ⟨?_, h3, h2, List.eq_nil_of_length_eq_zero (by rw [hxl, h3]; simp)⟩
      cases hm : m b with
      | none => rfl
      | some l => obtain ⟨k, hk⟩ := hg.supp b l hm; rw [h1] at hk; cases hk
    · rcases rep_osl h3 h1 with ⟨a1, a2, a3, a4⟩ | ⟨l, cap, a1, a2, a3, a4, a5⟩
      · exact .inl ⟨a1, a3, a4, List.eq_nil_of_length_eq_zero (by rw [hxl, a3]; simp)⟩
      · exact .inr ⟨l, cap, a1, a2, a3, a4, a5, by rw [h1, h2]; rfl, by omega⟩
  by_cases hn : n = 0
  · -- nothing comes to it
    subst hn
    have hys : ys = [] := List.eq_nil_of_length_eq_zero (by rw [hyl]; simp)
    subst hys
    obtain ⟨a, cx, hxv, _⟩ := psl_val hx
    subst hxv
    simp only [List.append_nil, Nat.add_zero]
    rcases hsv with ⟨hm, rfl, rfl, rfl⟩ | ⟨l, cap, hm, rfl, hc1, hc2, hc3, hbb, hgp⟩
    · obtain ⟨g1, e1⟩ := good_virt (t := e) (sz := sz) (g' := g) hg hm hb1
      exact ⟨_, w, m, run_append_zero hu hs none a 0 0 cx (Nat.le_refl _) w (fun _ _ => trivial), g1, e1, .osl (upd_same _ _ _) (Nat.le_refl _) rfl (fun _ => .inl ⟨hm, rfl, rfl, rfl⟩)⟩
    · obtain ⟨arr, hheap, hasz, hlen, vs, hvs, hcell, hrep⟩ := blk_cells hg hbb hm
      have hsame : ∀ c, c < w.heap.size → (∀ l, m b = some l → l.c ≠ c) → w.heap[c]? = w.heap[c]? := fun _ _ _ => rfl
      have hfits : ∀ k0, h' b = some k0 → Fits k0 (.cells e sz g xs) (m b ≠ some l) := by
        intro k0 hk0; obtain ⟨g0, xs0, rfl, hlt⟩ := hb0 k0 hk0
        exact ⟨rfl, rfl, Nat.le_of_lt hlt, fun he => by omega⟩
      have e1 := ext_put (k := .cells e sz g xs) (w' := w) (l' := l) hg (Nat.le_refl _) hsame (.inl hm) hfits
      refine ⟨_, w, _, run_append_zero hu hs _ a len cap cx hc1 w (fun _ _ => trivial), good_put hg rfl rfl rfl (Nat.le_refl _) hsame (.inl hm) hfits ?_ (by simp), e1, .osl (upd_same _ _ _) (Nat.le_refl _) rfl (fun _ => .inr ⟨l, cap, upd_same _ _ _, rfl, hc1, hc2, hc3⟩)⟩
      exact .inr ⟨l, arr, upd_same _ _ _, hheap, hasz, hlen, fun j hj => ⟨vs j, hvs j hj, (hcell j hj).2, (hrep j hj).ext e1⟩⟩
  · have hyne : ys ≠ [] := by
      intro he; rw [he] at hyl
      have h0 : n * sz = 0 := hyl.symm
      rcases Nat.mul_eq_zero.1 h0 with h1 | h1 <;> omega
    obtain ⟨c, oo, cx, news, rfl, hok, hnl, hncell, hnone, hnrep⟩ := psl_news hx hyne
    have hnews : RepL h' m w ys news := ⟨hnl, hnone, fun j a b => .pure (hnrep j a b)⟩
    have hnl2 : news.length = n * it.size := by rw [← hnl, hyl, hsi]
    have hbnd : (len + n) * it.bytes ≤ 140737488355328 := by rw [hbi]; exact hbytes
    rcases hsv with ⟨hm, rfl, rfl, rfl⟩ | ⟨l, cap, hm, rfl, hc1, hc2, hc3, hbb, hgp⟩
    · -- nil: a new block
      have hrun := run_append_nil (P := P) w t ty e it zv hu hit hitz ⟨c, oo, none⟩ n cx news hnl2 hncell (by omega) (by omega) (by simp only [Nat.zero_add] at hbnd; omega)
      obtain ⟨g1, e1⟩ := good_move (t := e) (sz := sz) (g' := g) (rest := (Builtin.zeroCells zv.cells (grownCap w n 0 e - n)).toList) hg hb0 (below_drew w) hnews
      have harr : news.toArray ++ Builtin.zeroCells zv.cells (grownCap w n 0 e - n) = (news ++ (Builtin.zeroCells zv.cells (grownCap w n 0 e - n)).toList).toArray := by
        apply Array.toList_inj.1; simp
      rw [harr] at hrun
      have hgc := grownCap_ge w n 0 e
      have hgm := grownCap_le_maxLen w n 0 e (by simp only [maxLen]; omega)
      simp only [List.nil_append, Nat.zero_add]
      refine ⟨_, _, _, hrun, g1, e1, ?_⟩
      refine .osl (upd_same _ _ _) (Nat.le_refl _) rfl (fun _ => .inr ⟨_, grownCap w n 0 e, upd_same _ _ _, rfl, hgc, ?_, hgm⟩)
      rw [Nat.zero_add]
      refine Nat.le_of_eq ?_
      exact (grown_size zv.cells sz n _ hzsz news (by rw [← hnl, hyl]) hgc).symm
    · obtain ⟨arr, hheap, hasz, hlen, vs, hvs, hcell, hrep⟩ := blk_cells hg hbb hm
      have hcur : RepL h' m w xs ((List.range xs.length).map vs) := by
        refine ⟨by simp, fun u hu => ?_, fun j a b => ?_⟩
        · simp only [List.mem_map, List.mem_range] at hu
          obtain ⟨j, hj, rfl⟩ := hu
          exact (hcell j hj).2
        · simp only [List.getElem_map, List.getElem_range]; exact hrep j a
      by_cases hroom : len + n ≤ cap
      · -- there is room
        have hfit : len * it.size + news.length ≤ arr.size := by
          rw [hnl2, hsi, ← Nat.add_mul, hasz]
          have hmr := Nat.mul_le_mul_right sz hroom
          omega
        have hrun := run_append_room (P := P) w t ty e it hu hit l.c len cap arr hheap ⟨c, oo, none⟩ n cx news hnl2 hncell hnone hroom hfit
        rw [hsi, ← hxl] at hrun
        rw [hsi, ← hxl] at hfit
        have hsame : ∀ c', c' < w.heap.size → (∀ l0, m b = some l0 → l0.c ≠ c') → (w.setRow l.c (arr.toList.take xs.length ++ news ++ arr.toList.drop (xs.length + news.length)).toArray).heap[c']? = w.heap[c']? :=
          fun c' _ hne => setRow_other w l.c c' _ (fun he => hne l hm he.symm)
        have hfits : ∀ k0, h' b = some k0 → Fits k0 (.cells e sz g (xs ++ ys)) (m b ≠ some l) := by
          intro k0 hk0; obtain ⟨g0, xs0, rfl, hlt⟩ := hb0 k0 hk0
          exact ⟨rfl, rfl, Nat.le_of_lt hlt, fun he => by omega⟩
        have e1 := ext_put (k := .cells e sz g (xs ++ ys)) (l' := l) hg (Nat.le_of_eq (setRow_size w l.c _).symm) hsame (.inl hm) hfits
        refine ⟨_, _, _, hrun, good_put hg rfl rfl rfl (Nat.le_of_eq (setRow_size w l.c _).symm) hsame (.inl hm) hfits ?_ (by simp), e1, .osl (upd_same _ _ _) (Nat.le_refl _) rfl (fun _ => .inr ⟨l, cap, upd_same _ _ _, rfl, hroom, hc2, hc3⟩)⟩
        refine .inr ⟨l, _, upd_same _ _ _, setRow_heap w l.c arr _ e _ hheap, by simp; omega, by simp [hnl]; omega, fun j hj => ?_⟩
        have hxx : (xs ++ ys)[j]? = some ((xs ++ ys)[j]'hj) := List.getElem?_eq_getElem hj
        have hget := spl_get arr.toList news xs.length j (by simpa using hfit)
        have hga : (arr.toList.take xs.length ++ news ++ arr.toList.drop (xs.length + news.length)).toArray[j]? = if j < xs.length then arr[j]? else if j < xs.length + news.length then news[j - xs.length]? else arr[j]? := by simpa using hget
        rw [hga]
        by_cases hj1 : j < xs.length
        · simp only [hj1, if_true]
          rw [List.getElem?_append_left hj1] at hxx
          obtain ⟨_, hxi⟩ := List.getElem?_eq_some_iff.1 hxx
          rw [← hxi]
          exact ⟨vs j, hvs j hj1, (hcell j hj1).2, (hrep j hj1).ext e1⟩
        · have hj2 : j < xs.length + news.length := by simp at hj; omega
          simp only [hj1, hj2, if_true, if_false]
          rw [List.getElem?_append_right (by omega)] at hxx
          obtain ⟨u, h3, h4, h5⟩ := hnews.at hxx
          exact ⟨u, h3, h4, h5.ext e1⟩
      · -- it grows
        have holds : ∀ j u, ((List.range xs.length).map vs)[j]? = some u → w.cell? ((⟨l.c, 0, none⟩ : Addr).add j) = some u := by
          intro j u hu
          rw [addr_add]
          simp only [List.getElem?_map, Option.map_eq_some_iff] at hu
          obtain ⟨k, hk, rfl⟩ := hu
          obtain ⟨h1, h2⟩ := List.getElem?_eq_some_iff.1 hk
          simp at h1 h2; subst h2
          exact (hcell _ h1).1
        have hrun := run_append_grow (P := P) w t ty e it zv hu hit hitz ⟨l.c, 0, none⟩ len cap ((List.range xs.length).map vs) (by simp [hxl, hsi]) holds ⟨c, oo, none⟩ n cx news hnl2 hncell (by omega) (by omega) (growslice_fits (by omega) hbnd)
        obtain ⟨g1, e1⟩ := good_move (t := e) (sz := sz) (g' := g) (rest := (Builtin.zeroCells zv.cells (grownCap w (len + n) cap e - (len + n))).toList) hg hb0 (below_drew w) (hcur.append hnews)
        have harr : ((List.range xs.length).map vs).toArray ++ news.toArray ++ Builtin.zeroCells zv.cells (grownCap w (len + n) cap e - (len + n)) = ((List.range xs.length).map vs ++ news ++ (Builtin.zeroCells zv.cells (grownCap w (len + n) cap e - (len + n))).toList).toArray := by
          apply Array.toList_inj.1; simp
        rw [harr] at hrun
        have hgc := grownCap_ge w (len + n) cap e
        have hgm := grownCap_le_maxLen w (len + n) cap e (by simp only [maxLen]; omega)
        refine ⟨_, _, _, hrun, g1, e1, ?_⟩
        refine .osl (upd_same _ _ _) (Nat.le_refl _) rfl (fun _ => .inr ⟨_, grownCap w (len + n) cap e, upd_same _ _ _, rfl, hgc, ?_, hgm⟩)
        rw [Nat.zero_add]
        refine Nat.le_of_eq ?_
        exact (grown_size zv.cells sz (len + n) _ hzsz _ (by simp [hxl, hnl2, hsi, Nat.add_mul]) hgc).symm
/-- 'append' to an empty list that stays as it is: a new block. -/
theorem append_psle {t e : TypeId} {ty : TypeId} {sz bys : Nat} {zs : List AV} {b n : Nat} {ys : List AV} {full : Bool} {h' : Nat → Option ABlk} {m : Nat → Option Loc} {w : World} {sv xv : Value}
    (ht : tslice P t = some e) (hs : tsz P e = some sz) (hby : tbytes P e = some bys) (hz : tzero P e = some zs) (hzl : zs.length = sz) (hpos : 0 < sz)
    (hyl : ys.length = n * sz) (hbytes : n * bys ≤ 140737488355328) (h63 : n ≤ 9223372036854775807) (hn0 : 0 < n)
    (hg : Good w0 h' m w) (hsv : PRep (Ok m w) w (.psl true 0 []) sv) (hx : PRep (Ok m w) w (.psl full n ys) xv) (hb : h' b = none) :
    ∃ v w' m', (Builtin.append_ #[t, t] ty #[sv, xv]).run P w = .ok v w' ∧ Good w0 (upd h' b (some (.cells e sz 0 ys))) m' w' ∧ Ext h' m w (upd h' b (some (.cells e sz 0 ys))) m' w' ∧
      Rep (upd h' b (some (.cells e sz 0 ys))) m' w' (.osl b 0 0 n) v := by
  obtain ⟨zv, hzv, rfl, it, hit, hitz⟩ := tzero_spec hz
  have hzsz : zv.cells.size = sz := by simpa using hzl
  have hbi := tbytes_spec hby hit
  have hsi := tsz_info hs hit
  have hu := tslice_spec ht
  have hb0 : ∀ k0, h' b = some k0 → ∃ g0 xs0, k0 = .cells e sz g0 xs0 ∧ g0 < 0 := fun k0 hk0 => by rw [hb] at hk0; cases hk0
  have hyne : ys ≠ [] := by
    intro he; rw [he] at hyl
    have h0 : n * sz = 0 := hyl.symm
    rcases Nat.mul_eq_zero.1 h0 with h1 | h1 <;> omega
  obtain ⟨c, oo, cx, news, rfl, hok, hnl, hncell, hnone, hnrep⟩ := psl_news hx hyne
  have hnews : RepL h' m w ys news := ⟨hnl, hnone, fun j a b => .pure (hnrep j a b)⟩
  have hnl2 : news.length = n * it.size := by rw [← hnl, hyl, hsi]
  have hbnd : n * it.bytes ≤ 140737488355328 := by rw [hbi]; exact hbytes
  have hform : ∃ a, sv = .slice a 0 0 := by
    cases hsv with
    | psle _ h2 _ => exact ⟨_, by rw [h2 rfl]⟩
    | psl _ _ h2 _ _ _ => exact ⟨_, by rw [h2 rfl]⟩
  obtain ⟨a, rfl⟩ := hform
  obtain ⟨g1, e1⟩ := good_move (t := e) (sz := sz) (g' := 0) (rest := (Builtin.zeroCells zv.cells (grownCap w n 0 e - n)).toList) hg hb0 (below_drew w) hnews
  have harr : news.toArray ++ Builtin.zeroCells zv.cells (grownCap w n 0 e - n) = (news ++ (Builtin.zeroCells zv.cells (grownCap w n 0 e - n)).toList).toArray := by
    apply Array.toList_inj.1; simp
  have hgc := grownCap_ge w n 0 e
  have hgm := grownCap_le_maxLen w n 0 e (by simp only [maxLen]; omega)
  have hrun : (Builtin.append_ #[t, t] ty #[.slice a 0 0, .slice (some ⟨c, oo, none⟩) n cx]).run P w = .ok (.slice (some ⟨w.heap.size, 0, none⟩) n (grownCap w n 0 e)) (w.drew.alloc (.cells (news ++ (Builtin.zeroCells zv.cells (grownCap w n 0 e - n)).toList).toArray e)) := by
    rw [← harr]
    cases a with
    | none => exact run_append_nil (P := P) w t ty e it zv hu hit hitz ⟨c, oo, none⟩ n cx news hnl2 hncell (by omega) (by omega) (by omega)
    | some x =>
      have := run_append_grow (P := P) w t ty e it zv hu hit hitz x 0 0 [] (by simp) (fun j v hj => by simp at hj) ⟨c, oo, none⟩ n cx news hnl2 hncell (by omega) (by omega) (growslice_fits (by omega) (by rw [Nat.zero_add]; exact hbnd))
      simpa only [Nat.zero_add, List.append_nil, List.nil_append, Array.empty_append] using this
  refine ⟨_, _, _, hrun, g1, e1, ?_⟩
  refine .osl (upd_same _ _ _) (Nat.le_refl _) rfl (fun _ => .inr ⟨_, grownCap w n 0 e, upd_same _ _ _, rfl, hgc, ?_, hgm⟩)
  rw [Nat.zero_add]
  refine Nat.le_of_eq ?_
  exact (grown_size zv.cells sz n _ hzsz _ (by rw [hnl2, hsi]) hgc).symm
/-- Nothing is appended to a list that stays as it is. -/
theorem append_pslz {t e : TypeId} {ty : TypeId} {sz : Nat} {b : Nat} {ys : List AV} {full : Bool} {h' : Nat → Option ABlk} {m : Nat → Option Loc} {w : World} {sv xv : Value}
    (ht : tslice P t = some e) (hs : tsz P e = some sz)
    (hg : Good w0 h' m w) (hsv : PRep (Ok m w) w (.psl true 0 []) sv) (hx : PRep (Ok m w) w (.psl full 0 ys) xv) (hb : h' b = none) :
    (Builtin.append_ #[t, t] ty #[sv, xv]).run P w = .ok sv w ∧ Good w0 (upd h' b (some (.cells e sz 0 []))) m w ∧ Ext h' m w (upd h' b (some (.cells e sz 0 []))) m w := by
  have hu := tslice_spec ht
  have hform : ∃ a, sv = .slice a 0 0 := by
    cases hsv with
    | psle _ h2 _ => exact ⟨_, by rw [h2 rfl]⟩
    | psl _ _ h2 _ _ _ => exact ⟨_, by rw [h2 rfl]⟩
  obtain ⟨a, rfl⟩ := hform
  obtain ⟨a2, cx, hxv, _⟩ := psl_val hx
  subst hxv
  have hm : m b = none := by
    cases hm : m b with
    | none => rfl
    | some l => obtain ⟨k, hk⟩ := hg.supp b l hm; rw [hb] at hk; cases hk
  obtain ⟨g1, e1⟩ := good_virt (t := e) (sz := sz) (g' := 0) hg hm (fun k0 hk0 => by rw [hb] at hk0; cases hk0)
  exact ⟨run_append_zero hu hs a a2 0 0 cx (Nat.le_refl _) w (fun _ _ => trivial), g1, e1⟩
/-- 'append' to a list that stays as it is, and has no room: a new block. -/
theorem append_psl {t e : TypeId} {ty : TypeId} {sz bys : Nat} {zs : List AV} {b n len : Nat} {xs ys : List AV} {full : Bool} {h' : Nat → Option ABlk} {m : Nat → Option Loc} {w : World} {sv xv : Value}
    (ht : tslice P t = some e) (hs : tsz P e = some sz) (hby : tbytes P e = some bys) (hz : tzero P e = some zs) (hzl : zs.length = sz) (hpos : 0 < sz)
    (hyl : ys.length = n * sz) (hxl : xs.length = len * sz) (hbytes : (len + n) * bys ≤ 140737488355328) (h63 : len + n ≤ 9223372036854775807) (hl0 : 0 < len) (hn0 : 0 < n)
    (hg : Good w0 h' m w) (hsv : PRep (Ok m w) w (.psl true len xs) sv) (hx : PRep (Ok m w) w (.psl full n ys) xv) (hb : h' b = none) :
    ∃ v w' m', (Builtin.append_ #[t, t] ty #[sv, xv]).run P w = .ok v w' ∧ Good w0 (upd h' b (some (.cells e sz 0 (xs ++ ys)))) m' w' ∧ Ext h' m w (upd h' b (some (.cells e sz 0 (xs ++ ys)))) m' w' ∧
      Rep (upd h' b (some (.cells e sz 0 (xs ++ ys)))) m' w' (.osl b 0 0 (len + n)) v := by
  obtain ⟨zv, hzv, rfl, it, hit, hitz⟩ := tzero_spec hz
  have hzsz : zv.cells.size = sz := by simpa using hzl
  have hbi := tbytes_spec hby hit
  have hsi := tsz_info hs hit
  have hu := tslice_spec ht
  have hb0 : ∀ k0, h' b = some k0 → ∃ g0 xs0, k0 = .cells e sz g0 xs0 ∧ g0 < 0 := fun k0 hk0 => by rw [hb] at hk0; cases hk0
  have hne : ∀ {k : Nat} {zs : List AV}, 0 < k → zs.length = k * sz → zs ≠ [] := by
    intro k zs hk hl he
    rw [he] at hl
    have h0 : k * sz = 0 := hl.symm
    rcases Nat.mul_eq_zero.1 h0 with h1 | h1 <;> omega
  obtain ⟨c, oo, cx, news, rfl, hok, hnl, hncell, hnone, hnrep⟩ := psl_news hx (hne hn0 hyl)
  have hcap : ∀ {a : Option Addr} {cap : Nat}, PRep (Ok m w) w (.psl true len xs) (.slice a len cap) → cap = len := by
    intro a cap p
    cases p with
    | psle _ h2 _ => exact h2 rfl
    | psl _ _ h2 _ _ _ => exact h2 rfl
  have hsv0 := hsv
  obtain ⟨c1, o1, cap, olds, rfl, hok1, hol, hocell, hoone, horep⟩ := psl_news hsv (hne hl0 hxl)
  have hcl := hcap hsv0
  subst hcl
  have hnews : RepL h' m w ys news := ⟨hnl, hnone, fun j a b => .pure (hnrep j a b)⟩
  have hcur : RepL h' m w xs olds := ⟨hol, hoone, fun j a b => .pure (horep j a b)⟩
  have hnl2 : news.length = n * it.size := by rw [← hnl, hyl, hsi]
  have hbnd : (cap + n) * it.bytes ≤ 140737488355328 := by rw [hbi]; exact hbytes
  have hrun := run_append_grow (P := P) w t ty e it zv hu hit hitz ⟨c1, o1, none⟩ cap cap olds (by rw [← hol, hxl, hsi]) hocell ⟨c, oo, none⟩ n cx news hnl2 hncell (by omega) (by omega) (growslice_fits (by omega) hbnd)
  obtain ⟨g1, e1⟩ := good_move (t := e) (sz := sz) (g' := 0) (rest := (Builtin.zeroCells zv.cells (grownCap w (cap + n) cap e - (cap + n))).toList) hg hb0 (below_drew w) (hcur.append hnews)
  have harr : olds.toArray ++ news.toArray ++ Builtin.zeroCells zv.cells (grownCap w (cap + n) cap e - (cap + n)) = (olds ++ news ++ (Builtin.zeroCells zv.cells (grownCap w (cap + n) cap e - (cap + n))).toList).toArray := by
    apply Array.toList_inj.1; simp
  rw [harr] at hrun
  have hgc := grownCap_ge w (cap + n) cap e
  have hgm := grownCap_le_maxLen w (cap + n) cap e (by simp only [maxLen]; omega)
  refine ⟨_, _, _, hrun, g1, e1, ?_⟩
  refine .osl (upd_same _ _ _) (Nat.le_refl _) rfl (fun _ => .inr ⟨_, grownCap w (cap + n) cap e, upd_same _ _ _, rfl, hgc, ?_, hgm⟩)
  rw [Nat.zero_add]
  refine Nat.le_of_eq ?_
  exact (grown_size zv.cells sz (cap + n) _ hzsz _ (by rw [List.length_append, ← hol, hxl, hnl2, hsi, Nat.add_mul]) hgc).symm
end
end Go.Am

/- The abstract machine Am, part J: maps, calls; every operation. -/
namespace Go.Am
open Go.RowKit
/-- Cells as a value of a type. -/
def Val (P : Program) (t : TypeId) (us : List Value) (v : Value) : Prop := (tagg P t = some true ∧ v = .agg us.toArray) ∨ (tagg P t = some false ∧ us = [v])
section
variable {P : Program}
theorem part_val {t : TypeId} {b : Bool} {n off : Nat} {us : List Value} (ht : tagg P t = some b) (hs : tsz P t = some n) (hn : b = false → n = 1) (hl : off + n ≤ us.length) (w : World) :
    ∃ v, (part t us.toArray off).run P w = .ok v w ∧ Val P t ((us.drop off).take n) v := by
  have hi : ∃ i, P.info? t = some i ∧ i.size = n := by
    unfold tsz at hs; exact Option.map_eq_some_iff.1 hs
  obtain ⟨i, hi, hin⟩ := hi
  unfold part
  cases b
  · have hn1 := hn rfl
    subst hn1
    have hlt : off < us.length := by omega
    refine ⟨us[off], ?_, .inr ⟨ht, ?_⟩⟩
    · simp only [Sem.run_bind, tagg_spec ht, Result.andThen_ok, Bool.false_eq_true, if_false]
      simp [hlt]
    · rw [List.drop_eq_getElem_cons hlt]; rfl
  · refine ⟨.agg ((us.drop off).take n).toArray, ?_, .inl ⟨ht, rfl⟩⟩
    simp only [Sem.run_bind, tagg_spec ht, Result.andThen_ok, if_true, run_sizeOf w hi, Sem.run_pure]
    have : P.cellsOf t = n := by simp [Program.cellsOf, hi, hin]
    rw [this]
    simp [List.take_drop, Nat.add_comm]
theorem flat_info {d : Nat} {t : TypeId} {bs : List Bool} (h : flatT P d t = some bs) : ∃ b, tagg P t = some b ∧ tsz P t = some bs.length ∧ (b = false → bs.length = 1) := by
  cases d with
  | zero => simp [flatT] at h
  | succ d =>
    simp only [flatT] at h
    split at h
    · split at h
      · rename_i hc; cases h; exact ⟨false, hc.1, hc.2, fun _ => rfl⟩
      · cases h
    · split at h
      · rename_i hc; cases h; exact ⟨false, hc.1, hc.2, fun _ => rfl⟩
      · cases h
    · split at h
      · rename_i hc
        split at h
        · split at h
          · rename_i hs; cases h; exact ⟨true, hc.2, hs, by simp⟩
          · cases h
        · cases h
      · cases h
    · split at h
      · rename_i hc
        split at h
        · split at h
          · rename_i hs; cases h; exact ⟨true, hc, by rw [hs]; simp, by simp⟩
          · cases h
        · cases h
      · cases h
    · cases h
theorem flatF_each {F : TypeId → Option (List Bool)} : ∀ (fs : List Field) (off : Nat) (bs : List Bool), flatF F fs off = some bs → ∀ f ∈ fs, f.name ≠ "_" ∧ ∃ l, F f.type = some l ∧ f.offset + l.length ≤ off + bs.length
  | [], _, _, _, f, hf => by simp at hf
  | g :: fs, off, bs, h, f, hf => by
    simp only [flatF] at h
    split at h
    · rename_i hc
      obtain ⟨hname, rfl⟩ := hc
      split at h
      · rename_i l hcf
        obtain ⟨bs', hfs, hbs⟩ := Option.map_eq_some_iff.1 h
        subst hbs
        rcases List.mem_cons.1 hf with rfl | hf
        · exact ⟨by simpa using hname, l, hcf, by simp⟩
        · obtain ⟨h1, l', h2, h3⟩ := flatF_each fs _ _ hfs f hf
          exact ⟨h1, l', h2, by simp only [List.length_append]; omega⟩
      · cases h
    · cases h
theorem checkKey_flat (em : Bool) (w : World) : ∀ (d : Nat) (t : TypeId) (bs : List Bool), flatT P d t = some bs → ∀ (k : Nat) (us : List Value) (v : Value), Val P t us v → us.length = bs.length → (Instr.checkKey em (d + k) t v).run P w = .ok () w := by
  intro d
  induction d with
  | zero => intro t bs h; simp [flatT] at h
  | succ d ih =>
    intro t bs h k us v hv hlen
    rw [show d + 1 + k = (d + k) + 1 by omega, Instr.checkKey]
    simp only [flatT] at h
    split at h
    · rename_i q hq
      cases v <;> simp [run_underlying hq]
    · rename_i hq
      cases v <;> simp [run_underlying hq]
    · rename_i fs hfs
      split at h
      · rename_i hc
        split at h
        · rename_i l hn'
          split at h
          · rename_i hs; cases h
            rcases hv with ⟨_, rfl⟩ | ⟨h1, _⟩
            · have each := flatF_each _ _ _ hn'
              simp only [Sem.run_bind, run_underlying hfs, Result.andThen_ok]
              rw [← Array.forIn_toList]
              generalize fs.toList = L at each
              induction L with
              | nil => simp
              | cons f L ihL =>
                obtain ⟨hname, l', hl, hle⟩ := each f (by simp)
                obtain ⟨bb, g1, g2, g3⟩ := flat_info hl
                obtain ⟨u, p1, p2⟩ := part_val (us := us) (off := f.offset) g1 g2 g3 (by omega) w
                have hq := ih f.type l' hl k _ u p2 (by simp; omega)
                simp only [List.forIn_cons, Sem.run_bind, hname, ne_eq, not_false_eq_true, if_true, Result.andThen_ok, p1, hq, Sem.run_pure]
                exact ihL (fun y hy => each y (by simp [hy]))
            · rw [hc.2] at h1; cases h1
          · cases h
        · cases h
      · cases h
    · rename_i n e hm
      split at h
      · rename_i hc
        split at h
        · rename_i l hce
          split at h
          · rename_i hs; cases h
            rcases hv with ⟨_, rfl⟩ | ⟨h1, _⟩
            · obtain ⟨bb, g1, g2, g3⟩ := flat_info hce
              have hi : ∃ i, P.info? e = some i ∧ i.size = l.length := by
                unfold tsz at g2; exact Option.map_eq_some_iff.1 g2
              obtain ⟨i, hi, hin⟩ := hi
              have hcell : P.cellsOf e = l.length := by simp [Program.cellsOf, hi, hin]
              have hlen' : us.length = n * l.length := by rw [hlen]; simp
              simp only [Sem.run_bind, run_underlying hm, Result.andThen_ok]
              simp only [Std.Legacy.Range.forIn_eq_forIn_range', Std.Legacy.Range.size, Nat.sub_zero, Nat.add_one_sub_one, Nat.div_one]
              have each : ∀ j ∈ List.range' 0 n, j < n := by intro j hj; simpa using hj
              generalize List.range' 0 n = is at each
              induction is with
              | nil => simp
              | cons j is ihL =>
                have hj := each j (by simp)
                have hle : j * l.length + l.length ≤ us.length := by
                  rw [hlen', show j * l.length + l.length = (j + 1) * l.length by rw [Nat.add_mul, Nat.one_mul]]
                  exact Nat.mul_le_mul_right _ hj
                obtain ⟨u, p1, p2⟩ := part_val (us := us) (off := j * l.length) g1 g2 g3 hle w
                have hq := ih e l hce k _ u p2 (by simp; omega)
                rw [← hcell] at p1
                simp only [List.forIn_cons, Sem.run_bind, run_sizeOf w hi, Result.andThen_ok, p1, hq, Sem.run_pure]
                exact ihL (fun y hy => each y (by simp [hy]))
            · rw [hc] at h1; cases h1
          · cases h
        · cases h
      · cases h
    · cases h
end
variable [Base]
section
variable {P : Program} {w0 : World} {r : Option Nat} {o : Oper} {ρ : Operand → AV} {h : Nat → Option ABlk}
theorem sound_append {t t' : TypeId} {s x : Operand} {nx : Nat} {K : E → Prop} (ho : o.op = .call ⟨.builtin .append, #[s, x], #[t, t']⟩) (hn : h nx = none) (hk : builtinK P .append #[t, t'] [ρ s, ρ x] h nx K) : ∃ e, K e ∧ OpOK P w0 r o ρ h e := by
  simp only [builtinK] at hk
  obtain ⟨rfl, hk⟩ := hk
  cases ht : tslice P t with
  | none => simp [ht] at hk
  | some e =>
    simp only [ht] at hk
    cases hs : tsz P e with
    | none => simp [hs] at hk
    | some sz =>
      cases hby : tbytes P e with
      | none => simp [hs, hby] at hk
      | some bys =>
        cases hz : tzero P e with
        | none => simp [hs, hby, hz] at hk
        | some zs =>
          simp only [hs, hby, hz] at hk
          obtain ⟨hzl, hpos, hk⟩ := hk
          have hrunE : ∀ (ac : Act) (w w' : World) (v : Value), (Builtin.append_ #[t, t] o.type #[ac.eval s, ac.eval x]).run P w = .ok v w' → (execOp ac.eval o).run P w = .ok (.value v) w' := by
            intro ac w w' v hr
            rw [run_call_builtin ho]
            simp only [builtin, Sem.run_bind]
            have : (#[s, x].map ac.eval) = #[ac.eval s, ac.eval x] := by simp
            rw [this, hr]
            rfl
          cases hx : ρ x <;> simp only [hx] at hk
          case psl full n ys =>
            obtain ⟨hyl, hk⟩ := hk
            cases hsv : ρ s <;> simp only [hsv] at hk
            case nils =>
              obtain ⟨hb, h63, hk⟩ := hk
              refine ⟨_, hk, fun h' m w ac next Q _ hwr hg hop hnext => ?_⟩
              have hb' : h' nx = none := (hwr nx _ rfl).trans hn
              have h1 := hop s (by simp [ho, Op.operands, Call.operands]); rw [hsv] at h1
              have h2 := hop x (by simp [ho, Op.operands, Call.operands]); rw [hx] at h2
              obtain ⟨v, w', m', hrun, g1, e1, r1⟩ := append_core (ty := o.type) (b := nx) (g := 0) (len := 0) (xs := []) (sv := ac.eval s) ht hs hby hz hzl hpos hyl (by simp) (by simpa using hb) (by simpa using h63) hg (rep_psl h2) (.inl ⟨hb', rep_nils h1, rfl, rfl⟩)
              simp only [List.nil_append, Nat.zero_add] at g1 e1 r1
              exact wp_val (by simp [ho]) (hrunE ac w w' v hrun) (hnext _ _ _ g1 e1 r1)
            case osl b g off len =>
              cases hb : h b with
              | none => simp [hb] at hk
              | some k =>
                cases k <;> simp only [hb] at hk
                case cells e' sz' g' xs =>
                  obtain ⟨rfl, rfl, rfl, rfl, hxl, hbb, h63, hk⟩ := hk
                  refine ⟨_, hk, fun h' m w ac next Q _ hwr hg hop hnext => ?_⟩
                  have hb' : h' b = some (.cells e' sz' g xs) := (hwr b _ rfl).trans hb
                  have h1 := hop s (by simp [ho, Op.operands, Call.operands]); rw [hsv] at h1
                  have h2 := hop x (by simp [ho, Op.operands, Call.operands]); rw [hx] at h2
                  obtain ⟨v, w', m', hrun, g1, e1, r1⟩ := append_core (ty := o.type) (g := g + 1) (sv := ac.eval s) ht hs hby hz hzl hpos hyl hxl hbb h63 hg (rep_psl h2) (.inr ⟨g, hb', rfl, h1⟩)
                  exact wp_val (by simp [ho]) (hrunE ac w w' v hrun) (hnext _ _ _ g1 e1 r1)
                all_goals exact hk.elim
            case psl fl len xs =>
              cases fl
              · exact hk.elim
              · rcases hk with ⟨hl0, hn0, hxl, hbb, h63, hk⟩ | ⟨rfl, rfl, hbb, h63, hk0, hk1⟩
                · refine ⟨_, hk, fun h' m w ac next Q _ hwr hg hop hnext => ?_⟩
                  have hb' : h' nx = none := (hwr nx _ rfl).trans hn
                  have h1 := hop s (by simp [ho, Op.operands, Call.operands]); rw [hsv] at h1
                  have h2 := hop x (by simp [ho, Op.operands, Call.operands]); rw [hx] at h2
                  obtain ⟨v, w', m', hrun, g1, e1, r1⟩ := append_psl (ty := o.type) ht hs hby hz hzl hpos hyl hxl hbb h63 hl0 hn0 hg (rep_psl h1) (rep_psl h2) hb'
                  exact wp_val (by simp [ho]) (hrunE ac w w' v hrun) (hnext _ _ _ g1 e1 r1)
                · rcases Nat.eq_zero_or_pos n with rfl | hn0
                  · refine ⟨_, hk0 rfl, fun h' m w ac next Q _ hwr hg hop hnext => ?_⟩
                    have hb' : h' nx = none := (hwr nx _ rfl).trans hn
                    have h1 := hop s (by simp [ho, Op.operands, Call.operands]); rw [hsv] at h1
                    have h2 := hop x (by simp [ho, Op.operands, Call.operands]); rw [hx] at h2
                    obtain ⟨hrun, g1, e1⟩ := append_pslz (ty := o.type) (e := e) (sz := sz) ht hs hg (rep_psl h1) (rep_psl h2) hb'
                    exact wp_val (by simp [ho]) (hrunE ac w w _ hrun) (hnext _ _ _ g1 e1 (.pure (rep_psl h1)))
                  · refine ⟨_, hk1 hn0, fun h' m w ac next Q _ hwr hg hop hnext => ?_⟩
                    have hb' : h' nx = none := (hwr nx _ rfl).trans hn
                    have h1 := hop s (by simp [ho, Op.operands, Call.operands]); rw [hsv] at h1
                    have h2 := hop x (by simp [ho, Op.operands, Call.operands]); rw [hx] at h2
                    obtain ⟨v, w', m', hrun, g1, e1, r1⟩ := append_psle (ty := o.type) ht hs hby hz hzl hpos hyl hbb h63 hn0 hg (rep_psl h1) (rep_psl h2) hb'
                    exact wp_val (by simp [ho]) (hrunE ac w w' v hrun) (hnext _ _ _ g1 e1 r1)
            all_goals exact hk.elim
          all_goals exact hk.elim
/-- The entry of an integer key. -/
theorem mapFind_run {h' : Nat → Option ABlk} {m : Nat → Option Loc} {w : World} {kt : TypeId} {kk kk' : IntKind} {n : Int} (hu : P.underlying kt = some (.int kk')) : ∀ (es : List (AV × AV)) (arr : List MapEntry) (f : Option (Nat × AV)) (i0 : Nat),
    mapFind es (.int kk n) = some f → es.length = arr.length → (∀ j (a : j < es.length) (b : j < arr.length), Rep h' m w (es[j]).1 (arr[j]).key ∧ Rep h' m w (es[j]).2 (arr[j]).val) →
    (f = none → Instr.findNow (.int kk') (.int kk n) arr i0 = some none) ∧
    (∀ i v, f = some (i, v) → i < es.length ∧ ∃ u, Instr.findNow (.int kk') (.int kk n) arr i0 = some (some (i0 + i, u)) ∧ Rep h' m w v u ∧ ∃ e, arr[i]? = some e ∧ e.key = .int kk n)
  | [], [], f, i0, hf, _, _ => by
    simp only [mapFind, Option.some.injEq] at hf
    subst hf
    exact ⟨fun _ => rfl, fun i v hv => by cases hv⟩
  | (k0, v0) :: es, e0 :: arr, f, i0, hf, hl, hr => by
    have h0 := hr 0 (by simp) (by simp)
    simp only [List.getElem_cons_zero] at h0
    cases k0 <;> simp only [mapFind, reduceCtorEq] at hf
    case int kx a =>
      split at hf
      · rename_i hkk; subst hkk
        have hke := rep_int h0.1
        split at hf
        · rename_i han; subst han
          simp only [Option.some.injEq] at hf; subst hf
          refine ⟨(fun hh => by cases hh), fun i v hv => ?_⟩
          simp only [Option.some.injEq, Prod.mk.injEq] at hv
          obtain ⟨rfl, rfl⟩ := hv
          refine ⟨by simp, e0.val, ?_, h0.2, e0, by simp, hke⟩
          simp [Instr.findNow, hke, Instr.sameNow]
        · rename_i han
          cases hrec : mapFind es (.int kx n) with
          | none => simp [hrec] at hf
          | some f' =>
            simp only [hrec, Option.map_some, Option.some.injEq] at hf
            obtain ⟨ih1, ih2⟩ := mapFind_run hu es arr f' (i0 + 1) hrec (by simpa using hl) (fun j a b => by have := hr (j + 1) (by simpa using a) (by simpa using b); simpa using this)
            have hstep : Instr.findNow (.int kk') (.int kx n) (e0 :: arr) i0 = Instr.findNow (.int kk') (.int kx n) arr (i0 + 1) := by
              have : (n == a) = false := by simp; exact fun h => han h.symm
              simp [Instr.findNow, hke, Instr.sameNow, this]
            refine ⟨fun hh => ?_, fun i v hv => ?_⟩
            · rw [hstep]; apply ih1
              cases f' with
              | none => rfl
              | some q => rw [hh] at hf; simp at hf
            · cases f' with
              | none => rw [hv] at hf; simp at hf
              | some q =>
                obtain ⟨q1, q2⟩ := q
                rw [hv] at hf
                simp only [Option.map_some, Option.some.injEq, Prod.mk.injEq] at hf
                obtain ⟨rfl, rfl⟩ := hf
                obtain ⟨hi, u, h1, h2, e, h3, h4⟩ := ih2 q1 q2 rfl
                exact ⟨by simp; omega, u, by rw [hstep, h1]; congr 2; congr 1; omega, h2, e, by simpa using h3, h4⟩
      · cases hf
omit [Base] in
theorem run_getMap {w : World} {c clk : Nat} {arr : Array MapEntry} (hh : w.heap[c]? = some (.map arr clk)) : (getObj c).run P w = .ok (.map arr clk) w := by simp [getObj, Sem.run, hh]
omit [Base] in
theorem run_checkKey_int {kt : TypeId} {kk kk' : IntKind} {n : Int} (hu : P.underlying kt = some (.int kk')) (em : Bool) (w : World) : (Instr.checkKey em 10000 kt (.int kk n)).run P w = .ok () w := by
  rw [show (10000 : Nat) = 9999 + 1 from rfl, Instr.checkKey]
  simp [run_underlying hu]
omit [Base] in
theorem run_findKey_int {kt : TypeId} {kk kk' : IntKind} {n : Int} (hu : P.underlying kt = some (.int kk')) {arr : List MapEntry} {f : Option (Nat × Value)} (hf : Instr.findNow (.int kk') (.int kk n) arr 0 = some f) (w : World) :
    (Instr.findKey kt (.int kk n) arr).run P w = .ok f w := by
  simp [Instr.findKey, run_underlying hu, hf]
theorem blk_map {h' : Nat → Option ABlk} {m : Nat → Option Loc} {w : World} {b : Nat} {es : List (AV × AV)} {l : Loc} (hg : Good w0 h' m w) (hb : h' b = some (.map es)) (hl : m b = some l) :
    ∃ arr clk, w.heap[l.c]? = some (.map arr clk) ∧ arr.size = es.length ∧ ∀ j (a : j < es.length) (c : j < arr.toList.length), Rep h' m w (es[j]).1 (arr.toList[j]).key ∧ Rep h' m w (es[j]).2 (arr.toList[j]).val := by
  obtain ⟨l', arr, clk, h1, h2, h3, h4⟩ := hg.blk b _ hb
  rw [h1] at hl; cases hl
  refine ⟨arr, clk, h2, h3, fun j a c => ?_⟩
  obtain ⟨e, he, hk, hv⟩ := h4 j a
  have : arr.toList[j] = e := by
    have h5 : arr.toList[j]? = some e := by simpa using he
    exact (List.getElem?_eq_some_iff.1 h5).2
  rw [this]; exact ⟨hk, hv⟩
theorem tzv_spec {t : TypeId} {z : AV} (h : tzv P t = some z) (hz : zeroOK z = true) : ∃ v, (∀ w : World, (zeroValue t).run P w = .ok v w) ∧ ∀ (h' : Nat → Option ABlk) (m : Nat → Option Loc) (w : World), Rep h' m w z v := by
  unfold tzv at h
  cases hi : P.info? t with
  | none => simp [hi] at h
  | some i =>
    cases hzz : i.zero with
    | none => simp [hi, hzz] at h
    | some v =>
      simp only [hi, hzz, Option.bind_some, Option.map_some, Option.some.injEq] at h
      refine ⟨v, fun w => by simp [zeroValue, typeInfo, hi, hzz], fun h' m w => ?_⟩
      have hc : ∀ u, zeroAV u = constAV u → zeroAV u = z → Rep h' m w z u := by
        intro u hu1 hu2
        rw [hu1] at hu2
        subst hu2
        refine .pure (const_rep ?_).1
        cases hca : constAV u <;> rw [hca] at hz <;> simp_all [zeroOK, cellPure]
        unfold constAV at hca; split at hca <;> cases hca
      cases v
      case agg cs =>
        simp only [zeroAV] at h
        subst h
        simp only [zeroOK, List.all_eq_true] at hz
        have := zero_rep (h' := h') (m := m) (w := w) (us := cs.toList) hz
        exact .agg cs.toList this.1 this.2.1 this.2.2
      all_goals exact hc _ rfl h
/-- The entries of a map, wherever it lies. -/
theorem mapOf_spec {x : AV} {f : List (AV × AV) → List Nat → Prop} (hk : mapOf x h f) : ∃ es rd, f es rd ∧ ∀ (h' : Nat → Option ABlk) (m : Nat → Option Loc) (w : World) (v : Value), (∀ b ∈ rd, h' b = h b) → Good w0 h' m w → Rep h' m w x v →
    ∃ c arr clk, v = .map (some c) ∧ w.heap[c]? = some (.map arr clk) ∧ arr.size = es.length ∧ ∀ j (a : j < es.length) (d : j < arr.toList.length), Rep h' m w (es[j]).1 (arr.toList[j]).key ∧ Rep h' m w (es[j]).2 (arr.toList[j]).val := by
  cases x <;> simp only [mapOf] at hk
  case map b =>
    cases hb : h b with
    | none => simp [hb] at hk
    | some blk =>
      cases blk <;> simp only [hb] at hk
      case map es =>
        refine ⟨es, [b], hk, fun h' m w v hrd hg hr => ?_⟩
        have hb' : h' b = some (.map es) := (hrd b (by simp)).trans hb
        obtain ⟨l, hm, hv⟩ := rep_map hr
        obtain ⟨arr, clk, h1, h2, h3⟩ := blk_map hg hb' hm
        exact ⟨l.c, arr, clk, hv, h1, h2, h3⟩
      all_goals exact hk.elim
  case pmap es =>
    refine ⟨es, [], hk, fun h' m w v _ _ hr => ?_⟩
    cases hr with
    | pure p =>
      cases p with
      | pmap hok hh hs hk hv =>
        refine ⟨_, _, _, rfl, hh, hs, fun j a d => ⟨?_, ?_⟩⟩
        · rw [Array.getElem_toList]; exact .pure (hk j a (by simpa using d))
        · rw [Array.getElem_toList]; exact .pure (hv j a (by simpa using d))
  all_goals exact hk.elim
omit [Base] in
/-- Two lists of numbers that are alike. -/
theorem scal_bits : ∀ (xs ys : List AV) (us vs : List Value), scalEq xs ys = some true → xs.mapM scalVal = some us → ys.mapM scalVal = some vs → us.length = vs.length ∧ ∀ p ∈ vs.zip us, ∀ d, Instr.sameBits d p.1 p.2 = true
  | [], [], us, vs, _, hx, hy => by simp at hx hy; subst hx hy; simp
  | [], y :: ys, _, _, h, _, _ => by cases y <;> simp [scalEq] at h
  | x :: xs, [], _, _, h, _, _ => by cases x <;> simp [scalEq] at h
  | x :: xs, y :: ys, us, vs, h, hx, hy => by
    simp only [List.mapM_cons, Option.bind_eq_bind, Option.bind_eq_some_iff, Option.pure_def, Option.some.injEq] at hx hy
    obtain ⟨u, hu, us', hus, rfl⟩ := hx
    obtain ⟨v, hv, vs', hvs, rfl⟩ := hy
    cases x <;> cases y <;> simp only [scalEq, reduceCtorEq] at h <;> simp only [scalVal, Option.some.injEq, reduceCtorEq] at hu hv <;> subst hu <;> subst hv
    · split at h
      · rename_i hkk; subst hkk
        cases hr : scalEq xs ys with
        | none => simp [hr] at h
        | some q =>
          simp only [hr, Option.map_some, Option.some.injEq, Bool.and_eq_true, decide_eq_true_eq] at h
          obtain ⟨rfl, rfl⟩ := h
          obtain ⟨h1, h2⟩ := scal_bits xs ys us' vs' hr hus hvs
          refine ⟨by simp [h1], fun p hp d => ?_⟩
          simp only [List.zip_cons_cons, List.mem_cons] at hp
          rcases hp with rfl | hp
          · cases d <;> simp [Instr.sameBits]
          · exact h2 p hp d
      · cases h
    · cases hr : scalEq xs ys with
      | none => simp [hr] at h
      | some q =>
        simp only [hr, Option.map_some, Option.some.injEq, Bool.and_eq_true, beq_iff_eq] at h
        obtain ⟨rfl, rfl⟩ := h
        obtain ⟨h1, h2⟩ := scal_bits xs ys us' vs' hr hus hvs
        refine ⟨by simp [h1], fun p hp d => ?_⟩
        simp only [List.zip_cons_cons, List.mem_cons] at hp
        rcases hp with rfl | hp
        · cases d <;> simp [Instr.sameBits]
        · exact h2 p hp d
omit [Base] in
theorem scal_kinds : ∀ (xs ys : List AV) (b : Bool), scalEq xs ys = some b → xs.map kindB = ys.map kindB
  | [], [], _, _ => rfl
  | [], y :: ys, _, h => by cases y <;> simp [scalEq] at h
  | x :: xs, [], _, h => by cases x <;> simp [scalEq] at h
  | x :: xs, y :: ys, b, h => by
    cases x <;> cases y <;> simp only [scalEq, reduceCtorEq] at h
    · split at h
      · cases hr : scalEq xs ys with
        | none => simp [hr] at h
        | some q => simp [kindB, scal_kinds xs ys q hr]
      · cases h
    · cases hr : scalEq xs ys with
      | none => simp [hr] at h
      | some q => simp [kindB, scal_kinds xs ys q hr]
/-- A struct of numbers, asked of a map. -/
theorem asking_run {h' : Nat → Option ABlk} {m : Nat → Option Loc} {w : World} {kt : TypeId} {xs : List AV} {kv : Value} (heq : EqOK P kt) (kx : tkb P kt = some (xs.map kindB)) (hkv : Rep h' m w (.agg xs) kv) : ∀ (es : List (AV × AV)) (arr : List MapEntry) (f : Option (Nat × AV)) (i0 : Nat),
    mapFind es (.agg xs) = some f → es.length = arr.length → (∀ j (a : j < es.length) (b : j < arr.length), Rep h' m w (es[j]).1 (arr[j]).key ∧ Rep h' m w (es[j]).2 (arr[j]).val) →
    (f = none → (Instr.findAsking kt kv arr i0).run P w = .ok none w) ∧
    (∀ i v, f = some (i, v) → i < es.length ∧ ∃ u, (Instr.findAsking kt kv arr i0).run P w = .ok (some (i0 + i, u)) w ∧ Rep h' m w v u ∧ ∃ e, arr[i]? = some e ∧ Instr.sameBits 10000 e.key kv = true)
  | [], [], f, i0, hf, _, _ => by
    simp only [mapFind, Option.some.injEq] at hf
    subst hf
    exact ⟨fun _ => by simp [Instr.findAsking], fun i v hv => by cases hv⟩
  | (k0, v0) :: es, e0 :: arr, f, i0, hf, hl, hr => by
    have h0 := hr 0 (by simp) (by simp)
    simp only [List.getElem_cons_zero] at h0
    cases k0 <;> simp only [mapFind, reduceCtorEq] at hf
    case agg ys =>
      cases hs : scalEq xs ys with
      | none => simp [hs] at hf
      | some b =>
        obtain ⟨us, rfl, l1, _, r1⟩ := rep_agg hkv
        obtain ⟨vs, hve, l2, _, r2⟩ := rep_agg h0.1
        obtain ⟨s1, s2⟩ := scalEq_isSome xs ys b hs
        have q1 := scalVal_rep xs us l1 r1 s1
        have q2 := scalVal_rep ys vs l2 r2 s2
        have ky : tkb P kt = some (ys.map kindB) := by rw [kx, scal_kinds xs ys b hs]
        have hrun := heq.2 xs ys us vs b w q1 q2 kx ky hs
        have hrun' : (Op.equal kt (.agg us.toArray) e0.key).run P w = .ok b w := by rw [hve]; exact hrun
        cases b
        · simp only [hs] at hf
          cases hrec : mapFind es (.agg xs) with
          | none => simp [hrec] at hf
          | some f' =>
            simp only [hrec, Option.map_some, Option.some.injEq] at hf
            obtain ⟨ih1, ih2⟩ := asking_run heq kx hkv es arr f' (i0 + 1) hrec (by simpa using hl) (fun j a b => by have := hr (j + 1) (by simpa using a) (by simpa using b); simpa using this)
            have hstep : (Instr.findAsking kt (.agg us.toArray) (e0 :: arr) i0).run P w = (Instr.findAsking kt (.agg us.toArray) arr (i0 + 1)).run P w := by
              simp [Instr.findAsking, hrun']
            refine ⟨fun hh => ?_, fun i v hv => ?_⟩
            · rw [hstep]; apply ih1
              cases f' with
              | none => rfl
              | some q => rw [hh] at hf; simp at hf
            · cases f' with
              | none => rw [hv] at hf; simp at hf
              | some q =>
                obtain ⟨q1, q2⟩ := q
                rw [hv] at hf
                simp only [Option.map_some, Option.some.injEq, Prod.mk.injEq] at hf
                obtain ⟨rfl, rfl⟩ := hf
                obtain ⟨hi, u, h1, h2, e, h3, h4⟩ := ih2 q1 q2 rfl
                exact ⟨by simp; omega, u, by rw [hstep, h1, show i0 + 1 + q1 = i0 + (q1 + 1) by omega], h2, e, by simpa using h3, h4⟩
        · simp only [hs, Option.some.injEq] at hf
          subst hf
          refine ⟨(fun hh => by cases hh), fun i v hv => ?_⟩
          simp only [Option.some.injEq, Prod.mk.injEq] at hv
          obtain ⟨rfl, rfl⟩ := hv
          refine ⟨by simp, e0.val, by simp [Instr.findAsking, hrun'], h0.2, e0, by simp, ?_⟩
          obtain ⟨c1, c2⟩ := scal_bits xs ys us vs hs q1 q2
          rw [hve]
          show Instr.sameBits (9999 + 1) _ _ = true
          simp only [Instr.sameBits, List.size_toArray, c1, beq_self_eq_true, Bool.true_and, List.all_eq_true]
          intro p hp
          obtain ⟨pa, pb⟩ := p
          exact c2 (pa, pb) hp 9999
/-- Is a key there? -/
theorem find_run {h' : Nat → Option ABlk} {m : Nat → Option Loc} {w : World} {kt : TypeId} {k : AV} {kv : Value} (hk : keyOK P kt k) (hkv : Rep h' m w k kv) {es : List (AV × AV)} {arr : Array MapEntry} {f : Option (Nat × AV)}
    (hf : mapFind es k = some f) (hl : arr.size = es.length) (hr : ∀ j (a : j < es.length) (b : j < arr.toList.length), Rep h' m w (es[j]).1 (arr.toList[j]).key ∧ Rep h' m w (es[j]).2 (arr.toList[j]).val) :
    (∀ em, (Instr.checkKey em 10000 kt kv).run P w = .ok () w) ∧ (f = none → (Instr.findKey kt kv arr.toList).run P w = .ok none w) ∧
    (∀ i v, f = some (i, v) → i < es.length ∧ ∃ u, (Instr.findKey kt kv arr.toList).run P w = .ok (some (i, u)) w ∧ Rep h' m w v u ∧ ∃ e, arr[i]? = some e ∧ Instr.sameBits 10000 e.key kv = true) := by
  cases k <;> simp only [keyOK] at hk
  case int kk n =>
    obtain ⟨kk', hki⟩ := Option.isSome_iff_exists.1 hk
    have hu := tint_spec hki
    have hv := rep_int hkv
    subst hv
    obtain ⟨f1, f2⟩ := mapFind_run hu es arr.toList f 0 hf (by simpa using hl.symm) hr
    refine ⟨fun em => run_checkKey_int hu em w, fun hn => run_findKey_int hu (f1 hn) w, fun i v hv => ?_⟩
    obtain ⟨a1, u, a2, a3, e, a4, a5⟩ := f2 i v hv
    refine ⟨a1, u, ?_, a3, e, by simpa using a4, by rw [a5]; simp [Instr.sameBits]⟩
    have := run_findKey_int hu a2 w
    simpa using this
  case agg xs =>
    obtain ⟨heq, kx⟩ := hk
    have kx0 := kx
    obtain ⟨us, rfl, l1, _, r1⟩ := rep_agg hkv
    obtain ⟨f1, f2⟩ := asking_run heq kx hkv es arr.toList f 0 hf (by simpa using hl.symm) hr
    unfold tkb at kx
    split at kx
    · rename_i hc
      have hagg : tagg P kt = some true := hc.2
      have hnow : ∀ (l : List MapEntry), (Instr.findKey kt (.agg us.toArray) l).run P w = (Instr.findAsking kt (.agg us.toArray) l).run P w := by
        intro l
        unfold tagg at hagg
        obtain ⟨dd, hdd, _⟩ := Option.map_eq_some_iff.1 hagg
        cases l with
        | nil => simp [Instr.findKey, run_underlying hdd, Instr.findNow, Instr.findAsking]
        | cons e l =>
          have : Instr.sameNow dd (.agg us.toArray) e.key = none := by cases dd <;> rfl
          simp [Instr.findKey, run_underlying hdd, Instr.findNow, this]
      refine ⟨fun em => ?_, fun hn => by rw [hnow]; exact f1 hn, fun i v hv => ?_⟩
      · exact checkKey_flat em w 8 kt _ kx 9992 us _ (.inl ⟨hagg, rfl⟩) (by simpa using l1.symm)
      · obtain ⟨a1, u, a2, a3, e, a4, a5⟩ := f2 i v hv
        exact ⟨a1, u, by rw [hnow, a2, Nat.zero_add], a3, e, by simpa using a4, a5⟩
    · cases kx
  all_goals exact hk.elim
theorem sound_lookup {t : TypeId} {x k : Operand} {ok : Bool} {K : E → Prop} (ho : o.op = .lookup t x k ok) (hk : effK P o ρ h 0 K) : ∃ e, K e ∧ OpOK P w0 r o ρ h e := by
  simp only [effK, ho] at hk
  cases ht : tmap P t with
  | none => simp [ht] at hk
  | some q =>
    obtain ⟨kt, vt⟩ := q
    cases hz : tzv P vt with
    | none => simp [ht, hz] at hk
    | some z =>
      simp only [ht, hz] at hk
      obtain ⟨hkey, hzok, hk⟩ := hk
      obtain ⟨es, rd, hk, hspec⟩ := mapOf_spec (w0 := w0) hk
      cases hf : mapFind es (ρ k) with
      | none => simp [hf] at hk
      | some f =>
        obtain ⟨zv, hzv, hzr⟩ := tzv_spec hz hzok
        have main : ∀ {x' : AV}, K ⟨if ok then .tup [x', .bool f.isSome] else x', rd, none⟩ → (f = none → x' = z) → (∀ i v, f = some (i, v) → x' = v) → ∃ e, K e ∧ OpOK P w0 r o ρ h e := by
          intro x' hK hno hyes
          refine ⟨_, hK, ok_pure (by simp [ho]) fun h' m w ac hrd hg hop => ?_⟩
          have h1 := hop x (by simp [ho, Op.operands])
          have h2 := hop k (by simp [ho, Op.operands])
          obtain ⟨c, arr, clk, hv, hheap, hsz, hrep⟩ := hspec h' m w _ hrd hg h1
          obtain ⟨hck, f1, f2⟩ := find_run hkey h2 hf hsz hrep
          have hfin : ∀ u, Rep h' m w x' u → Rep h' m w (if ok then .tup [x', .bool f.isSome] else x') (if ok then .tuple #[u, .bool f.isSome] else u) := by
            intro u hu'
            cases ok
            · exact hu'
            · refine .tup [u, .bool f.isSome] rfl (fun j a b => ?_)
              match j, a with
              | 0, _ => exact hu'
              | 1, _ => exact .pure (.bool _)
          cases f with
          | none =>
            refine ⟨_, ?_, hfin zv (by rw [hno rfl]; exact hzr _ _ _)⟩
            simp only [execOp, ho, hv, Instr.lookup, Sem.run_bind, run_underlying (tmap_spec ht), Result.andThen_ok, run_getMap hheap, Sem.run_pure, hck, f1 rfl, hzv]
            rfl
          | some q =>
            obtain ⟨i, v⟩ := q
            obtain ⟨_, u, hfu, hru, _⟩ := f2 i v rfl
            rw [hyes i v rfl] at hfin ⊢
            refine ⟨_, ?_, hfin u hru⟩
            simp only [execOp, ho, hv, Instr.lookup, Sem.run_bind, run_underlying (tmap_spec ht), Result.andThen_ok, run_getMap hheap, Sem.run_pure, hck, hfu]
            rfl
        cases f with
        | some q =>
          obtain ⟨i, v⟩ := q
          simp only [hf] at hk
          exact main (x' := v) hk (by simp) (by simp)
        | none =>
          simp only [hf] at hk
          exact main (x' := z) hk (fun _ => rfl) (by simp)
omit [Base] in
theorem run_setMap {w : World} {c clk : Nat} {arr : Array MapEntry} (ob : Obj) (hh : w.heap[c]? = some (.map arr clk)) : (setObj c ob).run P w = .ok () { w with heap := w.heap.setIfInBounds c ob } := by simp [setObj, Sem.run, hh]
/-- A map is written anew. -/
theorem good_setMap {h' : Nat → Option ABlk} {m : Nat → Option Loc} {w : World} {b clk clk' : Nat} {es es' : List (AV × AV)} {l : Loc} {arr arr' : Array MapEntry} (hg : Good w0 h' m w) (hb : h' b = some (.map es)) (hm : m b = some l)
    (hheap : w.heap[l.c]? = some (.map arr clk)) (hsz : arr'.size = es'.length)
    (hr : ∀ j (hj : j < es'.length), ∃ e, arr'[j]? = some e ∧ Rep h' m w (es'[j]).1 e.key ∧ Rep h' m w (es'[j]).2 e.val) :
    Good w0 (upd h' b (some (.map es'))) (upd m b (some l)) { w with heap := w.heap.setIfInBounds l.c (.map arr' clk') } ∧ Ext h' m w (upd h' b (some (.map es'))) (upd m b (some l)) { w with heap := w.heap.setIfInBounds l.c (.map arr' clk') } := by
  have hsize : w.heap.size ≤ ({ w with heap := w.heap.setIfInBounds l.c (.map arr' clk') } : World).heap.size := by simp
  have hsame : ∀ c, c < w.heap.size → (∀ l0, m b = some l0 → l0.c ≠ c) → ({ w with heap := w.heap.setIfInBounds l.c (.map arr' clk') } : World).heap[c]? = w.heap[c]? :=
    fun c _ hne => Array.getElem?_setIfInBounds_ne (hne l hm)
  have hfits : ∀ k0, h' b = some k0 → Fits k0 (.map es') (m b ≠ some l) := by intro k0 hk0; rw [hb] at hk0; cases hk0; exact fun hne => hne hm
  have e1 := ext_put (k := .map es') (l' := l) hg hsize hsame (.inl hm) hfits
  refine ⟨good_put hg rfl rfl rfl hsize hsame (.inl hm) hfits ?_ (by simp), e1⟩
  refine ⟨l, arr', clk', upd_same _ _ _, Array.getElem?_setIfInBounds_self_of_lt (lt_of_heap hheap), hsz, fun j hj => ?_⟩
  obtain ⟨e, h1, h2, h3⟩ := hr j hj
  exact ⟨e, h1, h2.ext e1, h3.ext e1⟩
theorem sound_mapUpdate {t : TypeId} {x k v : Operand} {K : E → Prop} (ho : o.op = .mapUpdate t x k v) (hk : effK P o ρ h 0 K) : ∃ e, K e ∧ OpOK P w0 r o ρ h e := by
  simp only [effK, ho] at hk
  cases ht : tmap P t with
  | none => simp [ht] at hk
  | some q =>
    obtain ⟨kt, vt⟩ := q
    cases hx : ρ x <;> simp only [ht, hx] at hk
    case map b =>
      obtain ⟨hkey, hk⟩ := hk
      cases hb : h b with
      | none => simp [hb] at hk
      | some blk =>
        cases blk <;> simp only [hb] at hk
        case map es =>
          cases hf : mapFind es (ρ k) with
          | none => simp [hf] at hk
          | some f =>
            cases f with
            | none =>
              simp only [hf] at hk
              refine ⟨_, hk, fun h' m w ac next Q _ hwr hg hop hnext => ?_⟩
              have hb' : h' b = some (.map es) := (hwr b _ rfl).trans hb
              have h1 := hop x (by simp [ho, Op.operands]); rw [hx] at h1
              have h2 := hop k (by simp [ho, Op.operands])
              have h3 := hop v (by simp [ho, Op.operands])
              obtain ⟨l, hm, hv⟩ := rep_map h1
              obtain ⟨arr, clk, hheap, hsz, hrep⟩ := blk_map hg hb' hm
              obtain ⟨hck, f1, _⟩ := find_run hkey h2 hf hsz hrep
              obtain ⟨g1, e1⟩ := good_setMap (es' := es ++ [(ρ k, ρ v)]) (arr' := arr.push { key := ac.eval k, val := ac.eval v, born := clk }) (clk' := clk + 1) hg hb' hm hheap (by simp [hsz]) (fun j hj => by
                by_cases hj1 : j < es.length
                · have hj2 : j < arr.toList.length := by simpa [hsz] using hj1
                  refine ⟨arr.toList[j], ?_, ?_⟩
                  · rw [Array.getElem?_push, if_neg (by omega)]; simp
                  · rw [List.getElem_append_left hj1]; exact hrep j hj1 hj2
                · have hj3 : j = es.length := by simp at hj; omega
                  subst hj3
                  refine ⟨_, by rw [Array.getElem?_push, if_pos (by omega)], ?_⟩
                  simp only [List.getElem_append_right (Nat.le_refl _), Nat.sub_self, List.getElem_cons_zero]
                  exact ⟨h2, h3⟩)
              refine wp_skip (by simp [ho]) ?_ (hnext _ _ _ g1 e1 (.junk _))
              simp only [execOp, ho, hv, Instr.mapUpdate, Sem.run_bind, run_underlying (tmap_spec ht), Result.andThen_ok, run_getMap hheap, hck, f1 rfl, run_setMap _ hheap, Sem.run_pure]
            | some q =>
              obtain ⟨i, v0⟩ := q
              simp only [hf] at hk
              refine ⟨_, hk, fun h' m w ac next Q _ hwr hg hop hnext => ?_⟩
              have hb' : h' b = some (.map es) := (hwr b _ rfl).trans hb
              have h1 := hop x (by simp [ho, Op.operands]); rw [hx] at h1
              have h2 := hop k (by simp [ho, Op.operands])
              have h3 := hop v (by simp [ho, Op.operands])
              obtain ⟨l, hm, hv⟩ := rep_map h1
              obtain ⟨arr, clk, hheap, hsz, hrep⟩ := blk_map hg hb' hm
              obtain ⟨hck, _, f2⟩ := find_run hkey h2 hf hsz hrep
              obtain ⟨hi, u, hfu, _, en, hen', hek⟩ := f2 i v0 rfl
              obtain ⟨g1, e1⟩ := good_setMap (es' := es.set i (ρ k, ρ v)) (arr' := arr.modify i fun e => { e with key := ac.eval k, val := ac.eval v }) (clk' := clk) hg hb' hm hheap (by simp [hsz]) (fun j hj => by
                have hj1 : j < es.length := by simpa using hj
                have hj2 : j < arr.toList.length := by simpa [hsz] using hj1
                have hj3 : j < arr.size := by simpa using hj2
                by_cases hji : j = i
                · subst hji
                  refine ⟨{ en with key := ac.eval k, val := ac.eval v }, ?_, ?_⟩
                  · rw [Array.getElem?_modify, if_pos rfl, hen']; rfl
                  · simp only [List.getElem_set_self]
                    exact ⟨h2, h3⟩
                · refine ⟨arr.toList[j], ?_, ?_⟩
                  · rw [Array.getElem?_modify, if_neg (fun h => hji h.symm)]; simp
                  · rw [List.getElem_set_ne (fun h => hji h.symm)]; exact hrep j hj1 hj2)
              refine wp_skip (by simp [ho]) ?_ (hnext _ _ _ g1 e1 (.junk _))
              have hkeep : (Instr.keyThatStays (((arr[i]?).map (·.key)).getD (ac.eval k)) (ac.eval k)).run P w = .ok (ac.eval k) w := by
                rw [hen']
                simp [Instr.keyThatStays, hek]
              simp only [execOp, ho, hv, Instr.mapUpdate, Sem.run_bind, run_underlying (tmap_spec ht), Result.andThen_ok, run_getMap hheap, hck, hfu, hkeep, run_setMap _ hheap, Sem.run_pure]
        all_goals exact hk.elim
    all_goals exact hk.elim
theorem sound_delete {t t' : TypeId} {x k : Operand} {nx : Nat} {K : E → Prop} (ho : o.op = .call ⟨.builtin .delete, #[x, k], #[t, t']⟩) (hk : builtinK P .delete #[t, t'] [ρ x, ρ k] h nx K) : ∃ e, K e ∧ OpOK P w0 r o ρ h e := by
  cases hx : ρ x <;> simp only [builtinK, hx] at hk
  case map b =>
    cases ht : tmap P t with
    | none => simp [ht] at hk
    | some q =>
      obtain ⟨kt, vt⟩ := q
      cases hb : h b with
      | none => simp [ht, hb] at hk
      | some blk =>
        cases blk <;> simp only [ht, hb] at hk
        case map es =>
          obtain ⟨hki, hk⟩ := hk
          obtain ⟨kk', hki⟩ := Option.isSome_iff_exists.1 hki
          have hu := tint_spec hki
          cases hkk : ρ k <;> simp only [hkk] at hk
          case int kk n =>
            cases hf : mapFind es (.int kk n) with
            | none => simp [hf] at hk
            | some f =>
              have hrunE : ∀ (ac : Act) (w w' : World), (Builtin.delete_ #[t, t'] o.type #[ac.eval x, ac.eval k]).run P w = .ok (.tuple #[]) w' → (execOp ac.eval o).run P w = .ok (.value (.tuple #[])) w' := by
                intro ac w w' hr
                rw [run_call_builtin ho]
                simp only [builtin, Sem.run_bind]
                have : (#[x, k].map ac.eval) = #[ac.eval x, ac.eval k] := by simp
                rw [this, hr]
                rfl
              cases f with
              | none =>
                simp only [hf] at hk
                refine ⟨_, hk, fun h' m w ac next Q _ hwr hg hop hnext => ?_⟩
                have hb' : h' b = some (.map es) := (hwr b _ rfl).trans hb
                have h1 := hop x (by simp [ho, Op.operands, Call.operands]); rw [hx] at h1
                have h2 := hop k (by simp [ho, Op.operands, Call.operands]); rw [hkk] at h2
                obtain ⟨l, hm, hv⟩ := rep_map h1
                obtain ⟨arr, clk, hheap, hsz, hrep⟩ := blk_map hg hb' hm
                obtain ⟨f1, _⟩ := mapFind_run hu es arr.toList none 0 hf (by simpa using hsz.symm) hrep
                obtain ⟨g1, e1⟩ := good_setMap (es' := es) (arr' := arr) (clk' := clk) hg hb' hm hheap hsz (fun j hj => by
                  have hj2 : j < arr.toList.length := by simpa [hsz] using hj
                  exact ⟨arr.toList[j], by simp, hrep j hj hj2⟩)
                refine wp_val (by simp [ho]) (hrunE ac w _ ?_) (hnext _ _ _ g1 e1 (.junk _))
                simp only [Builtin.delete_, List.getElem?_toArray, List.getElem?_cons_zero, List.getElem?_cons_succ, hv, rep_int h2, Sem.run_bind, run_underlying (tmap_spec ht), Result.andThen_ok, run_getMap hheap, run_checkKey_int hu, run_findKey_int hu (f1 rfl), run_setMap _ hheap, Sem.run_pure]
              | some q =>
                obtain ⟨i, v0⟩ := q
                simp only [hf] at hk
                refine ⟨_, hk, fun h' m w ac next Q _ hwr hg hop hnext => ?_⟩
                have hb' : h' b = some (.map es) := (hwr b _ rfl).trans hb
                have h1 := hop x (by simp [ho, Op.operands, Call.operands]); rw [hx] at h1
                have h2 := hop k (by simp [ho, Op.operands, Call.operands]); rw [hkk] at h2
                obtain ⟨l, hm, hv⟩ := rep_map h1
                obtain ⟨arr, clk, hheap, hsz, hrep⟩ := blk_map hg hb' hm
                obtain ⟨_, f2⟩ := mapFind_run hu es arr.toList _ 0 hf (by simpa using hsz.symm) hrep
                obtain ⟨hi, u, hfu, _, _⟩ := f2 i v0 rfl
                have hi' : i < arr.size := by omega
                obtain ⟨g1, e1⟩ := good_setMap (es' := es.eraseIdx i) (arr' := arr.eraseIdxIfInBounds i) (clk' := clk) hg hb' hm hheap (by rw [← Array.length_toList, Array.toList_eraseIdxIfInBounds]; simp [List.length_eraseIdx, hsz]) (fun j hj => by
                  have hjl : j < (es.eraseIdx i).length := hj
                  rw [List.length_eraseIdx, if_pos hi] at hjl
                  have hget : (arr.eraseIdxIfInBounds i)[j]? = if j < i then arr[j]? else arr[j + 1]? := by
                    rw [← Array.getElem?_toList, Array.toList_eraseIdxIfInBounds, List.getElem?_eraseIdx]
                    simp
                  have hxs : ∀ y, (es.eraseIdx i)[j]? = some y → ∃ e, (arr.eraseIdxIfInBounds i)[j]? = some e ∧ Rep h' m w y.1 e.key ∧ Rep h' m w y.2 e.val := by
                    intro y hy
                    rw [List.getElem?_eraseIdx] at hy
                    rw [hget]
                    by_cases hji : j < i
                    · simp only [hji, if_true] at hy ⊢
                      obtain ⟨a1, rfl⟩ := List.getElem?_eq_some_iff.1 hy
                      have a2 : j < arr.toList.length := by simp; omega
                      exact ⟨arr.toList[j], by simp, hrep j a1 a2⟩
                    · simp only [hji, if_false] at hy ⊢
                      obtain ⟨a1, rfl⟩ := List.getElem?_eq_some_iff.1 hy
                      have a2 : j + 1 < arr.toList.length := by simp; omega
                      exact ⟨arr.toList[j + 1], by simp, hrep (j + 1) a1 a2⟩
                  exact hxs _ (List.getElem?_eq_getElem _))
                refine wp_val (by simp [ho]) (hrunE ac w _ ?_) (hnext _ _ _ g1 e1 (.junk _))
                simp only [Nat.zero_add] at hfu
                simp only [Builtin.delete_, List.getElem?_toArray, List.getElem?_cons_zero, List.getElem?_cons_succ, hv, rep_int h2, Sem.run_bind, run_underlying (tmap_spec ht), Result.andThen_ok, run_getMap hheap, run_checkKey_int hu, run_findKey_int hu hfu, run_setMap _ hheap, Sem.run_pure]
          all_goals exact hk.elim
        all_goals exact hk.elim
  all_goals exact hk.elim
end
end Go.Am

/- The abstract machine Am, part K: calls; every operation. -/
namespace Go.Am
open Go.RowKit
variable [Base]
section
variable {P : Program} {w0 : World} {r : Option Nat} {o : Oper} {ρ : Operand → AV} {h : Nat → Option ABlk}
theorem pure_prep {h' : Nat → Option ABlk} {m : Nat → Option Loc} {w : World} {x : AV} {v : Value} (r : Rep h' m w x v) (hx : pureA x = true) : PRep (Ok m w) w x v := by
  cases x
  case agg xs =>
    simp only [pureA, List.all_eq_true] at hx
    obtain ⟨us, rfl, l1, l2, l3⟩ := rep_agg r
    exact .agg us l1 l2 (fun j a b => prep_pure (l3 j a b) (hx _ (List.getElem_mem _)))
  case fn f xs ys =>
    cases f
    case func g =>
      simp only [pureA, Bool.and_eq_true, List.all_eq_true] at hx
      cases r with
      | pure p => exact p
      | fn us vs hf h1 h2 r1 r2 => exact .fn us vs hf h1 h2 (fun j a b => prep_pure (r1 j a b) (hx.1 _ (List.getElem_mem _))) (fun j a b => prep_pure (r2 j a b) (hx.2 _ (List.getElem_mem _)))
    all_goals exact prep_pure r hx
  all_goals exact prep_pure r hx
omit [Base] in
theorem wp_call {a : Act} {w : World} {f : FuncId} {args : Array Value} {next : Act → World → Prop} {Q : Exit → Act → World → Prop} {R : Ending → World → Prop} (hnd : ∀ c, o.op ≠ .defer c)
    (hrun : (execOp a.eval o).run P w = .ok (.enter f args) w) (hc : CallsIn (FW none) 0 P f args w R) (hR : ∀ e w', R e w' → ∃ v, e = .returned v ∧ next (a.put o.dst v) w') : o.wpIn (FW r) 0 P a w next Q := by
  refine ⟨fun _ _ => trivial, ?_⟩
  rw [Oper.semAt_eq _ _ _ hnd, hrun]
  refine ⟨fun hh => by simp [FW] at hh, ?_⟩
  have hc' : CallsIn (FW r) 0 P f args w R := hc
  refine hc'.mono fun e w' he => ?_
  obtain ⟨v, rfl, hv⟩ := hR e w' he
  exact hv
omit [Base] in
theorem getElem_append3 {α : Type} {β : Type} {R : α → β → Prop} {xs ys zs : List α} {us vs ws : List β} (h1 : xs.length = us.length) (h2 : ys.length = vs.length)
    (r1 : ∀ j (a : j < xs.length) (b : j < us.length), R xs[j] us[j]) (r2 : ∀ j (a : j < ys.length) (b : j < vs.length), R ys[j] vs[j]) (r3 : ∀ j (a : j < zs.length) (b : j < ws.length), R zs[j] ws[j]) :
    ∀ j (a : j < (xs ++ ys ++ zs).length) (b : j < (us ++ vs ++ ws).length), R (xs ++ ys ++ zs)[j] (us ++ vs ++ ws)[j] := by
  intro j a b
  have key : ∀ x u, (xs ++ ys ++ zs)[j]? = some x → (us ++ vs ++ ws)[j]? = some u → R x u := by
    intro x u hx hu
    rw [List.append_assoc] at hx hu
    by_cases hj : j < xs.length
    · rw [List.getElem?_append_left hj] at hx
      rw [List.getElem?_append_left (by omega)] at hu
      obtain ⟨a1, rfl⟩ := List.getElem?_eq_some_iff.1 hx
      obtain ⟨b1, rfl⟩ := List.getElem?_eq_some_iff.1 hu
      exact r1 _ _ _
    · rw [List.getElem?_append_right (by omega)] at hx
      rw [List.getElem?_append_right (by omega), ← h1] at hu
      by_cases hj2 : j - xs.length < ys.length
      · rw [List.getElem?_append_left hj2] at hx
        rw [List.getElem?_append_left (by omega)] at hu
        obtain ⟨a1, rfl⟩ := List.getElem?_eq_some_iff.1 hx
        obtain ⟨b1, rfl⟩ := List.getElem?_eq_some_iff.1 hu
        exact r2 _ _ _
      · rw [List.getElem?_append_right (by omega)] at hx
        rw [List.getElem?_append_right (by omega), ← h2] at hu
        obtain ⟨a1, rfl⟩ := List.getElem?_eq_some_iff.1 hx
        obtain ⟨b1, rfl⟩ := List.getElem?_eq_some_iff.1 hu
        exact r3 _ _ _
  exact key _ _ (List.getElem?_eq_getElem _) (List.getElem?_eq_getElem _)
theorem sound_call {f : Operand} {args : Array Operand} {ts : Array TypeId} {K : E → Prop} {nx : Nat} (ho : o.op = .call ⟨.value f, args, ts⟩) (hk : effK P o ρ h nx K) : ∃ e, K e ∧ OpOK P w0 r o ρ h e := by
  simp only [effK, ho] at hk
  cases hf : ρ f <;> simp only [hf] at hk
  case fn fnn first caps =>
    cases fnn <;> simp only at hk
    case func g =>
      obtain ⟨hp, res, ⟨hent, hcall⟩, hK⟩ := hk
      refine ⟨_, hK, fun h' m w ac next Q hrd _ hg hop hnext => ?_⟩
      have h1 := hop f (by simp [ho, Op.operands, Call.operands]); rw [hf] at h1
      obtain ⟨us, vs, he, l1, l2, r1, r2⟩ := rep_fn h1
      have hargs : ∀ j (a : j < (args.toList.map ρ).length) (c : j < (args.toList.map ac.eval).length), Rep h' m w (args.toList.map ρ)[j] (args.toList.map ac.eval)[j] := by
        intro j a c
        simp only [List.getElem_map]
        exact hop _ (by simp [ho, Op.operands, Call.operands])
      have hlen : (first ++ args.toList.map ρ ++ caps).length = (us ++ args.toList.map ac.eval ++ vs).length := by simp [l1, l2]
      have hreps := getElem_append3 l1 (by simp) r1 hargs r2
      have hc := hcall w (us ++ args.toList.map ac.eval ++ vs) (Ok m w) (fun c hc => hc.1) hlen (fun j a b => pure_prep (hreps j a b) (hp _ (List.getElem_mem _)))
      have hrun : (execOp ac.eval o).run P w = .ok (.enter g (us ++ args.toList.map ac.eval ++ vs).toArray) w := by
        have e1 : us.toArray ++ args.map ac.eval ++ vs.toArray = (us ++ args.toList.map ac.eval ++ vs).toArray := by
          apply Array.toList_inj.1; simp
        simp only [execOp, ho, resolve, he, Deferred.ofValue, Sem.run_bind, Sem.run_pure, Result.andThen_ok, invoke]
        rw [e1]
        exact hent w _
      refine wp_call (by simp [ho]) hrun hc (fun e w' hR => ?_)
      obtain ⟨v, rfl, hv, hb⟩ := hR
      obtain ⟨g1, e1⟩ := hg.garbage hb
      refine ⟨v, rfl, hnext v w' m g1 e1 (.pure (hv.mono (fun _ _ => rfl) (fun c hc => ?_)))⟩
      rcases hc with hc | hc
      · exact ⟨Nat.lt_of_lt_of_le hc.1 hb.size, hc.2⟩
      · refine ⟨hc.2, fun b l hl he => ?_, hg.fresh _ (.inr hc.1)⟩
        have := hg.lt hl
        omega
    all_goals exact hk.elim
  all_goals exact hk.elim
/-- EVERY OPERATION. -/
theorem effK_sound {nx : Nat} {K : E → Prop} (hn : h nx = none) (hk : effK P o ρ h nx K) : ∃ e, K e ∧ OpOK P w0 r o ρ h e := by
  cases ho : o.op
  case move x => simp only [effK, ho] at hk; exact ⟨_, hk, sound_move ho⟩
  case assign x => simp only [effK, ho] at hk; exact ⟨_, hk, sound_assign ho⟩
  case pick c a b =>
    simp only [effK, ho] at hk
    cases hc : ρ c <;> simp only [hc] at hk
    case bool q =>
      have := sound_pick (P := P) (w0 := w0) (r := r) (h := h) ho hc
      cases q
      · exact ⟨_, hk, by simpa using this⟩
      · exact ⟨_, hk, by simpa using this⟩
    all_goals exact hk.elim
  case alloc t => exact sound_alloc ho hn hk
  case box t x => exact sound_box ho hn hk
  case build t ps => exact sound_build ho (by simp only [effK, ho] at hk ⊢; exact hk)
  case buildSlice t n ps => exact sound_buildSlice ho (by simp only [effK, ho] at hk ⊢; exact hk)
  case load t a => exact sound_load ho (by simp only [effK, ho] at hk ⊢; exact hk)
  case store t a x => exact sound_store ho (by simp only [effK, ho] at hk ⊢; exact hk)
  case nilCheck x => exact sound_nilCheck ho (by simp only [effK, ho] at hk ⊢; exact hk)
  case binOp op t x y t' => simp only [effK, ho] at hk; exact sound_bin ho hk
  case unOp op t x => simp only [effK, ho] at hk; exact sound_un ho hk
  case convert s d x =>
    simp only [effK, ho] at hk
    cases hd : tint P d with
    | none => simp [hd] at hk
    | some k =>
      cases hx : ρ x <;> simp only [hd, hx] at hk
      case int k0 n =>
        obtain ⟨hs, hk⟩ := hk
        obtain ⟨h1, h2⟩ := sound_convert (w0 := w0) (r := r) (h := h) (K := fun v => K ⟨v, [], none⟩) ho hs hd hx hk
        exact ⟨_, h1, h2⟩
      all_goals exact hk.elim
  case makeFunc f a b => simp only [effK, ho] at hk; exact ⟨_, hk.2, sound_makeFunc ho hk.1⟩
  case makeMap t q =>
    cases q with
    | none => exact sound_makeMap ho hn hk
    | some q => simp only [effK, ho] at hk
  case makeSlice t l c => exact sound_makeSlice ho hn hk
  case slice t x lo hi mx =>
    cases mx with
    | none => exact sound_slice ho (by simp only [effK, ho] at hk ⊢; exact hk)
    | some q => simp only [effK, ho] at hk
  case fieldAddr s x f => exact sound_fieldAddr ho (by simp only [effK, ho] at hk ⊢; exact hk)
  case field t x f => exact sound_field ho (by simp only [effK, ho] at hk ⊢; exact hk)
  case indexAddr t x i => exact sound_indexAddr ho (by simp only [effK, ho] at hk ⊢; exact hk)
  case index t x i => exact sound_index ho (by simp only [effK, ho] at hk ⊢; exact hk)
  case lookup t x k ok => exact sound_lookup ho (by simp only [effK, ho] at hk ⊢; exact hk)
  case mapUpdate t x k v => exact sound_mapUpdate ho (by simp only [effK, ho] at hk ⊢; exact hk)
  case extract x i =>
    simp only [effK, ho] at hk
    cases hx : ρ x <;> simp only [hx] at hk
    case tup xs =>
      cases hy : xs[i]? with
      | none => simp [hy] at hk
      | some y => simp only [hy] at hk; exact ⟨_, hk, sound_extract ho hx hy⟩
    all_goals exact hk.elim
  case call c =>
    obtain ⟨callee, args, ts⟩ := c
    cases callee
    case value f => exact sound_call ho hk
    case invoke a b => simp only [effK, ho] at hk
    case builtin b =>
      simp only [effK, ho] at hk
      obtain ⟨tl⟩ := ts
      obtain ⟨al⟩ := args
      cases b
      case max => simp only [builtinK] at hk; exact sound_mm (isMax := true) ho hk
      case min => simp only [builtinK] at hk; exact sound_mm (isMax := false) ho hk
      case len =>
        match tl, al with
        | [t], [x] => exact sound_len (nx := nx) ho hk
        | [], _ => simp only [builtinK] at hk
        | [_], [] => simp only [builtinK, List.map_nil] at hk
        | [_], _ :: _ :: _ => simp only [builtinK, List.map_cons] at hk
        | _ :: _ :: _, _ => simp only [builtinK] at hk
      case append =>
        match tl, al with
        | [t, t'], [x, y] => exact sound_append ho hn hk
        | [], _ => simp only [builtinK] at hk
        | [_], _ => simp only [builtinK] at hk
        | [_, _], [] => simp only [builtinK, List.map_nil] at hk
        | [_, _], [_] => simp only [builtinK, List.map_cons, List.map_nil] at hk
        | [_, _], _ :: _ :: _ :: _ => simp only [builtinK, List.map_cons] at hk
        | _ :: _ :: _ :: _, _ => simp only [builtinK] at hk
      case delete =>
        match tl, al with
        | [t, t'], [x, y] => exact sound_delete (nx := nx) ho hk
        | [], _ => simp only [builtinK] at hk
        | [_], _ => simp only [builtinK] at hk
        | [_, _], [] => simp only [builtinK, List.map_nil] at hk
        | [_, _], [_] => simp only [builtinK, List.map_cons, List.map_nil] at hk
        | [_, _], _ :: _ :: _ :: _ => simp only [builtinK, List.map_cons] at hk
        | _ :: _ :: _ :: _, _ => simp only [builtinK] at hk
      all_goals (simp only [builtinK] at hk)
  all_goals (simp only [effK, ho] at hk)
end
end Go.Am

/- The abstract machine Am, part L: states, the operations of a region in the order of the text, and in whatever order is drawn. -/
namespace Go.Am
open Go.RowKit
variable [Base]
/-- Abstract states: temporaries, blocks, the marks of loops over functions. -/
structure St where
  T : List AV
  H : List (Option ABlk)
  D : List Nat
def hget : List (Option ABlk) → Nat → Option ABlk
  | [], _ => none
  | x :: _, 0 => x
  | _ :: t, n + 1 => hget t n
def hset : List (Option ABlk) → Nat → ABlk → List (Option ABlk)
  | [], 0, k => [some k]
  | [], n + 1, k => none :: hset [] n k
  | _ :: t, 0, k => some k :: t
  | x :: t, n + 1, k => x :: hset t n k
def hseto (H : List (Option ABlk)) : Option (Nat × ABlk) → List (Option ABlk)
  | none => H
  | some (b, k) => hset H b k
def lseto (T : List AV) : Option Nat → AV → List AV
  | none, _ => T
  | some d, v => lset T d v
omit [Base] in
theorem hget_set : ∀ (H : List (Option ABlk)) (b i : Nat) (k : ABlk), hget (hset H b k) i = if i = b then some k else hget H i
  | [], 0, 0, k => rfl
  | [], 0, i + 1, k => by simp [hset, hget]
  | [], b + 1, 0, k => by simp [hset, hget]
  | [], b + 1, i + 1, k => by simp [hset, hget, hget_set [] b i k]
  | x :: t, 0, 0, k => by simp [hset, hget]
  | x :: t, 0, i + 1, k => by simp [hset, hget]
  | x :: t, b + 1, 0, k => by simp [hset, hget]
  | x :: t, b + 1, i + 1, k => by simp [hset, hget, hget_set t b i k]
omit [Base] in
theorem hget_seto (H : List (Option ABlk)) (wr : Option (Nat × ABlk)) : hget (hseto H wr) = updo (hget H) wr := by
  cases wr with
  | none => rfl
  | some p => obtain ⟨b, k⟩ := p; funext i; simp only [hseto, updo, upd, hget_set]
omit [Base] in
theorem hget_length (H : List (Option ABlk)) (i : Nat) (h : H.length ≤ i) : hget H i = none := by
  induction H generalizing i with
  | nil => rfl
  | cons x t ih =>
    cases i with
    | zero => simp at h
    | succ i => simp only [hget]; exact ih i (by simpa using h)
omit [Base] in
theorem lget_get (T : List AV) (i : Nat) : lget T i = (T[i]?).getD .junk := by
  induction T generalizing i with
  | nil => simp [lget]
  | cons x t ih =>
    cases i with
    | zero => simp [lget]
    | succ i => simp [lget, ih]
omit [Base] in
theorem lset_eq (T : List AV) (i : Nat) (v : AV) : lset T i v = T.set i v := by
  induction T generalizing i with
  | nil => simp [lset]
  | cons x t ih =>
    cases i with
    | zero => simp [lset]
    | succ i => simp [lset, ih]
omit [Base] in
theorem lset_length (T : List AV) (i : Nat) (v : AV) : (lset T i v).length = T.length := by rw [lset_eq]; simp
omit [Base] in
theorem lseto_length (T : List AV) (d : Option Nat) (v : AV) : (lseto T d v).length = T.length := by cases d <;> simp [lseto, lset_length]
omit [Base] in
theorem lget_set (T : List AV) (i j : Nat) (v : AV) : lget (lset T i v) j = if i = j ∧ j < T.length then v else lget T j := by
  rw [lget_get, lget_get, lset_eq, List.getElem?_set]
  by_cases h : i = j
  · subst h
    by_cases h2 : i < T.length <;> simp [h2]
  · simp [h]
/-- Whether a guarded operation runs. -/
def guardOf (all : Array Oper) (T : List AV) (o : Oper) : Option Bool :=
  match o.guard with
  | none => some true
  | some (j, want) => match (all[j]?).bind (·.dst) with
    | some d => match lget T d with
      | .bool b => some (b == want)
      | .tup _ => some false
      | _ => none
    | none => none
def splitB (v : AV) (k : AV → Prop) : Prop :=
  match v with
  | .bool b => (b = true → k (.bool true)) ∧ (b = false → k (.bool false))
  | v => k v
/-- THE OPERATIONS OF A REGION, IN THE ORDER OF THE TEXT. -/
def evOps (P : Program) (all : Array Oper) : List Oper → St → List E → (St → List E → Prop) → Prop
  | [], s, tr, K => K s tr
  | o :: os, s, tr, K =>
    match guardOf all s.T o with
    | some true => effK P o (aev s.T) (hget s.H) s.H.length fun e => splitB e.val fun v => evOps P all os ⟨lseto s.T o.dst v, hseto s.H e.wr, s.D⟩ (tr ++ [⟨v, e.rd, e.wr⟩]) K
    | some false => evOps P all os ⟨lseto s.T o.dst (.tup []), s.H, s.D⟩ (tr ++ [⟨.tup [], [], none⟩]) K
    | none => False
/-- The trace of a region. -/
inductive Trace (P : Program) (w0 : World) (r : Option Nat) (all : Array Oper) : Nat → St → List E → St → Prop
  | nil (i : Nat) (s : St) : Trace P w0 r all i s [] s
  | run {i : Nat} {s s' : St} {o : Oper} {e : E} {es : List E} (ho : all[i]? = some o) (hg : guardOf all s.T o = some true) (hok : OpOK P w0 r o (aev s.T) (hget s.H) e)
      (rest : Trace P w0 r all (i + 1) ⟨lseto s.T o.dst e.val, hseto s.H e.wr, s.D⟩ es s') : Trace P w0 r all i s (e :: es) s'
  | skip {i : Nat} {s s' : St} {o : Oper} {es : List E} (ho : all[i]? = some o) (hg : guardOf all s.T o = some false)
      (rest : Trace P w0 r all (i + 1) ⟨lseto s.T o.dst (.tup []), s.H, s.D⟩ es s') : Trace P w0 r all i s (⟨.tup [], [], none⟩ :: es) s'
section
variable {P : Program} {w0 : World} {r : Option Nat} {all : Array Oper}
theorem ev_trace : ∀ (os : List Oper) (i : Nat) (s : St) (tr : List E) (K : St → List E → Prop), (∀ k, k < os.length → os[k]? = all[i + k]?) → evOps P all os s tr K →
    ∃ es s', Trace P w0 r all i s es s' ∧ es.length = os.length ∧ K s' (tr ++ es)
  | [], i, s, tr, K, _, hk => ⟨[], s, .nil i s, rfl, by simpa [evOps] using hk⟩
  | o :: os, i, s, tr, K, hos, hk => by
    have ho : all[i]? = some o := by have := hos 0 (by simp); simpa using this.symm
    have hos' : ∀ k, k < os.length → os[k]? = all[i + 1 + k]? := fun k hk => by have := hos (k + 1) (by simpa using hk); simp only [List.getElem?_cons_succ] at this; rw [this]; congr 1; omega
    unfold evOps at hk
    cases hg : guardOf all s.T o with
    | none => simp [hg] at hk
    | some b =>
      cases b
      · simp only [hg] at hk
        obtain ⟨es, s', h1, h2, h3⟩ := ev_trace os (i + 1) _ _ K hos' hk
        exact ⟨_ :: es, s', .skip ho hg h1, by simp [h2], by simpa using h3⟩
      · simp only [hg] at hk
        obtain ⟨e, hk, hok⟩ := effK_sound (w0 := w0) (r := r) (hget_length s.H _ (Nat.le_refl _)) hk
        have fin : evOps P all os ⟨lseto s.T o.dst e.val, hseto s.H e.wr, s.D⟩ (tr ++ [⟨e.val, e.rd, e.wr⟩]) K → ∃ es s', Trace P w0 r all i s es s' ∧ es.length = (o :: os).length ∧ K s' (tr ++ es) := by
          intro hk
          obtain ⟨es, s', h1, h2, h3⟩ := ev_trace os (i + 1) _ _ K hos' hk
          exact ⟨e :: es, s', .run ho hg hok h1, by simp [h2], by simpa using h3⟩
        unfold splitB at hk
        split at hk
        · rename_i b hb
          cases b
          · exact fin (by rw [hb]; exact hk.2 rfl)
          · exact fin (by rw [hb]; exact hk.1 rfl)
        · exact fin hk
/-- Marks that are hidden: they were made by the call, nothing leads to them, they are open. -/
def HidR (w0 : World) (X : List Nat) (m : Nat → Option Loc) (w : World) : Prop := X.Nodup ∧ ∀ c ∈ X, w0.heap.size ≤ c ∧ Un m w c ∧ w.heap[c]? = some (.deferred (some []))
omit [Base] in
theorem HidR.ext {w0 : World} {X : List Nat} {h h' : Nat → Option ABlk} {m m' : Nat → Option Loc} {w w' : World} (r : HidR w0 X m w) (e : Ext h m w h' m' w') : HidR w0 X m' w' :=
  ⟨r.1, fun c hc => let ⟨a, b, d⟩ := r.2 c hc; ⟨a, (e.ok c b).2, (e.ok c b).1.trans d⟩⟩
omit [Base] in
theorem HidR.nil {w0 : World} {m : Nat → Option Loc} {w : World} : HidR w0 [] m w := ⟨by simp, by simp⟩
/-- What holds of the temporaries; the hidden marks (X). -/
structure SatM (w0 : World) (X : List Nat) (Tf : Nat → AV) (len : Nat) (h : Nat → Option ABlk) (D : List Nat) (m : Nat → Option Loc) (a : Act) (w : World) : Prop where
  good : Good w0 h m w
  size : a.tmps.size = len
  tmps : ∀ j, j < len → ∃ v, a.tmps[j]? = some v ∧ Rep h m w (Tf j) v
  roots : HidR w0 X m w
  marks : ∃ ls : List Loc, ls.length = D.length ∧ (∀ j (a : j < D.length) (b : j < ls.length), m D[j] = some ls[j] ∧ ∃ o, h D[j] = some (.dfr o)) ∧ a.defers = (ls.map fun l => { target := .collected l.c, args := #[] }) ++ X.map fun c => { target := .collected c, args := #[] }
omit [Base] in
theorem constAV_cases (v : Value) : constAV v = .junk ∨ cellPure (constAV v) = true := by
  unfold constAV; split <;> first | exact .inl rfl | exact .inr rfl
theorem SatM.eval {X : List Nat} {Tf : Nat → AV} {len : Nat} {h : Nat → Option ABlk} {D : List Nat} {m : Nat → Option Loc} {a : Act} {w : World} (s : SatM w0 X Tf len h D m a w) (T : List AV) (hlen : T.length = len) (x : Operand)
    (hx : ∀ t, x = .tmp t → t < len → Tf t = lget T t) : Rep h m w (aev T x) (a.eval x) := by
  cases x with
  | tmp t =>
    simp only [aev, Act.eval]
    rcases Nat.lt_or_ge t len with ht | ht
    · obtain ⟨v, hv, hr⟩ := s.tmps t ht
      rw [← hx t rfl ht]
      simpa [hv] using hr
    · have : lget T t = .junk := by rw [lget_get, List.getElem?_eq_none (by rw [hlen]; exact ht)]; rfl
      rw [this]; exact .junk _
  | const v =>
    simp only [aev, Act.eval]
    rcases constAV_cases v with hc | hc
    · rw [hc]; exact .junk _
    · exact .pure (const_rep hc).1
  | global g => exact .junk _
  | func f => exact .pure (.fn [] [] (by simp) rfl rfl (fun j h => by simp at h) (fun j h => by simp at h))
theorem SatM.put {X : List Nat} {Tf Tf' : Nat → AV} {len : Nat} {h h' : Nat → Option ABlk} {D : List Nat} {m m' : Nat → Option Loc} {a : Act} {w w' : World} {d : Option Nat} {x : AV} {v : Value} (s : SatM w0 X Tf len h D m a w)
    (g : Good w0 h' m' w') (e : Ext h m w h' m' w') (hv : Rep h' m' w' x v) (hT : ∀ j, j < len → Tf' j = if d = some j then x else Tf j) : SatM w0 X Tf' len h' D m' (a.put d v) w' := by
  refine ⟨g, ?_, fun j hj => ?_, s.roots.ext e, ?_⟩
  · cases d <;> simp [Act.put, s.size]
  · obtain ⟨u, hu, hr⟩ := s.tmps j hj
    rw [hT j hj]
    cases d with
    | none => exact ⟨u, hu, by simpa using hr.ext e⟩
    | some d =>
      by_cases hd : d = j
      · subst hd
        refine ⟨v, ?_, by simpa using hv⟩
        simp only [Act.put]
        exact Array.getElem?_setIfInBounds_self_of_lt (by rw [s.size]; exact hj)
      · refine ⟨u, ?_, by simpa [hd] using hr.ext e⟩
        simp only [Act.put]
        rw [Array.getElem?_setIfInBounds_ne hd]; exact hu
  · obtain ⟨ls, h1, h2, h3⟩ := s.marks
    refine ⟨ls, h1, fun j a b => ?_, by cases d <;> simpa [Act.put] using h3⟩
    obtain ⟨h4, o, h5⟩ := h2 j a b
    obtain ⟨⟨o', h6⟩, h7⟩ := e.dfr _ _ h5
    exact ⟨h7.trans h4, o', h6⟩
theorem rep_undef {h : Nat → Option ABlk} {m : Nat → Option Loc} {w : World} : Rep h m w (.tup []) undef := .pure (.tup [] rfl (fun j h => by simp at h))
theorem guard_wanted {X : List Nat} {Tf : Nat → AV} {len : Nat} {h : Nat → Option ABlk} {D : List Nat} {m : Nat → Option Loc} {a : Act} {w : World} (s : SatM w0 X Tf len h D m a w) {T : List AV} (hlen : T.length = len) {o : Oper} {b : Bool}
    (hg : guardOf all T o = some b) (hx : ∀ j want d, o.guard = some (j, want) → (all[j]?).bind (·.dst) = some d → d < len → Tf d = lget T d) : Region.wanted o (yielded all a.tmps) = b := by
  unfold guardOf at hg
  unfold Region.wanted
  cases hgd : o.guard with
  | none => simp [hgd] at hg; simp [hg]
  | some p =>
    obtain ⟨j, want⟩ := p
    simp only [hgd] at hg
    cases hd : (all[j]?).bind (·.dst) with
    | none => simp [hd] at hg
    | some d =>
      simp only [hd] at hg
      cases hl : lget T d <;> simp only [hl, reduceCtorEq] at hg
      case bool q =>
        have hdl : d < len := by
          rcases Nat.lt_or_ge d len with h1 | h1
          · exact h1
          · rw [lget_get, List.getElem?_eq_none (by omega)] at hl; cases hl
        obtain ⟨v, hv, hr⟩ := s.tmps d hdl
        rw [hx j want d hgd hd hdl, hl] at hr
        have := rep_bool hr
        subst this
        simp only [Option.some.injEq] at hg
        simp [yielded, hd, hv, ← hg]
      case tup q =>
        have hdl : d < len := by
          rcases Nat.lt_or_ge d len with h1 | h1
          · exact h1
          · rw [lget_get, List.getElem?_eq_none (by omega)] at hl; cases hl
        obtain ⟨v, hv, hr⟩ := s.tmps d hdl
        rw [hx j want d hgd hd hdl, hl] at hr
        obtain ⟨us, rfl, _⟩ := rep_tup hr
        simp only [Option.some.injEq] at hg
        simp [yielded, hd, hv, ← hg]
end
end Go.Am

/- The abstract machine Am, part M: a region that draws its order: every order comes to what the order of the text comes to. -/
namespace Go.Am
open Go.RowKit
variable [Base]
/-- Does operation j wait for operation i (directly, or through others)? -/
def depB (all : Array Oper) : Nat → Nat → Nat → Bool
  | 0, _, _ => false
  | n + 1, j, i => match all[j]? with
    | none => false
    | some o => o.after.any (fun e => Region.binds .any e && e.on == i) || o.after.any (fun e => Region.binds .any e && depB all n e.on i)
/-- The temporaries that an operation looks at. -/
def looks (all : Array Oper) (i : Nat) : List Tmp := match all[i]? with | some o => o.looksAt all | none => []
def dsts (all : Array Oper) (i : Nat) : Option Tmp := (all[i]?).bind (·.dst)
/-- Two operations of which one writes a temporary that the other looks at, or writes too. -/
def slotConf (all : Array Oper) (i j : Nat) : Bool :=
  (match dsts all i with
   | some d => (looks all j).contains d || dsts all j == some d
   | none => false) ||
  (match dsts all j with
   | some d => (looks all i).contains d
   | none => false)
def regOK (all : Array Oper) : Bool :=
  (List.range all.size).all fun j => (match all[j]? with
    | some o => o.after.all fun e => !Region.binds .any e || decide (e.on < j)
    | none => true) &&
  (List.range j).all fun i => !slotConf all i j || depB all 3 j i
/-- Two operations of which one writes a block that the other looks at, or writes too. -/
def heapConf (e f : E) : Bool :=
  (match e.wr with
   | some (b, _) => f.rd.contains b || (match f.wr with | some (c, _) => b == c | none => false)
   | none => false) ||
  (match f.wr with
   | some (c, _) => e.rd.contains c
   | none => false)
def heapOK (all : Array Oper) (es : List E) : Bool :=
  (List.range all.size).all fun j => (List.range j).all fun i => match es[i]?, es[j]? with
    | some e, some f => !heapConf e f || depB all 3 j i
    | _, _ => true
section
variable {P : Program} {w0 : World} {r : Option Nat} {all : Array Oper}
def hD (s : St) (es : List E) (L : Nat → Bool) : Nat → Nat → Option ABlk
  | 0, b => hget s.H b
  | k + 1, b => match es[k]? with
    | some e => if L k = true then updo (hD s es L k) e.wr b else hD s es L k b
    | none => hD s es L k b
omit [Base] in
theorem depB_spec {L : Nat → Bool} (hcl : ∀ j o, all[j]? = some o → L j = true → ∀ e ∈ o.after, Region.binds .any e = true → L e.on = true) : ∀ (n j i : Nat) (o : Oper), all[j]? = some o →
    (∀ e ∈ o.after, Region.binds .any e = true → L e.on = true) → depB all n j i = true → L i = true
  | 0, _, _, _, _, _, h => by simp [depB] at h
  | n + 1, j, i, o, ho, hed, h => by
    simp only [depB, ho, Bool.or_eq_true, Array.any_eq_true', Bool.and_eq_true, beq_iff_eq] at h
    rcases h with ⟨e, he, hb, rfl⟩ | ⟨e, he, hb, hd⟩
    · exact hed e he hb
    · have hL := hed e he hb
      cases ho2 : all[e.on]? with
      | none => cases n <;> simp [depB, ho2] at hd
      | some o2 => exact depB_spec hcl n e.on i o2 ho2 (hcl e.on o2 ho2 hL) hd
omit [Base] in
theorem countP_lt {p q : Nat → Bool} {i : Nat} : ∀ (l : List Nat), i ∈ l → (∀ j, q j = true → p j = true) → p i = true → q i = false → l.countP q < l.countP p
  | [], h, _, _, _ => by simp at h
  | x :: l, h, hs, hp, hq => by
    have hle : l.countP q ≤ l.countP p := List.countP_mono_left (fun j _ => hs j)
    rcases List.mem_cons.1 h with rfl | h
    · simp only [List.countP_cons, hp, hq, if_true, Bool.false_eq_true, if_false]; omega
    · have ih := countP_lt l h hs hp hq
      simp only [List.countP_cons]
      by_cases hx : q x = true
      · simp only [hx, hs x hx, if_true]; omega
      · by_cases hx2 : p x = true
        · simp [hx, hx2]; omega
        · simp [hx, hx2]; omega
end
end Go.Am
