/- From the reading of a law's arguments to abstract values; the law from its contract. -/
import Derived.Test.YtnjommobapmgbaaAmQ
import Derived.ProofKit
import Derived.Carry
import Derived.Deep.Slices
namespace Go.Am
set_option linter.unusedSimpArgs false
set_option linter.unusedVariables false
open Go.RowKit Go.ChangeShapes Go.WideShapes Go.Deep

/-- Cells that stand for abstract cells. -/
def RL (w : World) (xs : List AV) (cs : List Value) : Prop := xs.length = cs.length ∧ ∀ j (h : j < xs.length) (h' : j < cs.length), PRep (fun c => c < w.heap.size) w xs[j] cs[j] ∧ cs[j].oneCell' = true
theorem RL.nil {w : World} : RL w [] [] := ⟨rfl, fun j h => by simp at h⟩
theorem RL.append {w : World} {xs ys : List AV} {cs ds : List Value} (a : RL w xs cs) (b : RL w ys ds) : RL w (xs ++ ys) (cs ++ ds) := by
  refine ⟨by simp [a.1, b.1], fun j h h' => ?_⟩
  by_cases hj : j < xs.length
  · rw [List.getElem_append_left hj, List.getElem_append_left (by have := a.1; omega)]
    exact a.2 j hj (by have := a.1; omega)
  · simp only [List.length_append] at h
    have e : cs.length = xs.length := a.1.symm
    rw [List.getElem_append_right (by omega), List.getElem_append_right (by omega)]
    simp only [e]
    exact b.2 (j - xs.length) (by omega) (by have := b.1; omega)
theorem RL.one {w : World} {x : AV} {c : Value} (p : PRep (fun c => c < w.heap.size) w x c) (o : c.oneCell' = true) : RL w [x] [c] :=
  ⟨rfl, fun j h h' => by have : j = 0 := by simp at h; omega
                         subst this; exact ⟨p, o⟩⟩

/-- Whatever can be read as data of a type stands for some a. -/
structure Reads (P : Program) (t : TypeId) {α : Type} (sz : Nat) (enc : α → List AV) (ok : α → Prop) : Prop where
  cells : P.cellsOf t = sz
  len : ∀ a, (enc a).length = sz
  read : ∀ {H : Type} {en : TypeId × Value → H} {w : World} {base : Nat} {sp : Nat → Bool} {held : Bool} {fuel : Nat} {cs : List Value} {x : DataW H × List MemPlace},
    DataW.trod en P w base sp held fuel t cs = some x → ∃ a, ok a ∧ RL w (enc a) cs

/-- What an integer of a kind is. -/
def okI (k : IntKind) (n : Int) : Prop := (Lit.int k n).wf = true

theorem reads_int {P : Program} {t : TypeId} {k : IntKind} (hu : P.underlying t = some (.int k)) (hc : P.cellsOf t = 1) : Reads P t 1 (fun n : Int => [.int k n]) (okI k) := by
  refine ⟨hc, fun _ => rfl, fun {H en w base sp held fuel cs x} h => ?_⟩
  obtain ⟨n, rfl, _, hw⟩ := DataW.trod_int hu h
  exact ⟨n, hw, RL.one (.int _ _) rfl⟩

theorem reads_bool {P : Program} {t : TypeId} (hu : P.underlying t = some .bool) (hc : P.cellsOf t = 1) : Reads P t 1 (fun b : Bool => [.bool b]) (fun _ => True) := by
  refine ⟨hc, fun _ => rfl, fun {H en w base sp held fuel cs x} h => ?_⟩
  obtain ⟨b, rfl, _⟩ := DataW.trod_bool hu h
  exact ⟨b, trivial, RL.one (.bool _) rfl⟩

theorem cell_plain {w : World} {a : Addr} {v : Value} (h : w.cell? a = some v) : a.spot = none ∧ a.block < w.heap.size := by
  unfold World.cell? at h
  split at h
  · rename_i c t z hb
    refine ⟨?_, lt_of_heap hb⟩
    split at h
    · cases h
    · rename_i hs; cases hsp : a.spot with
      | none => rfl
      | some q => simp [hsp] at hs
  · cases h

theorem add_add' (a : Addr) (i j : Nat) : (a.add i).add j = a.add (i + j) := by
  unfold Addr.add
  by_cases hi : i = 0
  · subst hi; simp
  · by_cases hj : j = 0
    · subst hj; simp
    · simp [hi, hj, Nat.add_assoc]
theorem add_none (b o j : Nat) : (⟨b, o, none⟩ : Addr).add j = ⟨b, o + j, none⟩ := by
  unfold Addr.add
  by_cases hj : j = 0
  · subst hj; simp
  · simp [hj]

theorem reads_slice {P : Program} {t e : TypeId} {α : Type} {sz : Nat} {enc : α → List AV} {ok : α → Prop} (hu : P.underlying t = some (.slice e)) (hc : P.cellsOf t = 1) (hz : 0 < sz) (r : Reads P e sz enc ok) :
    Reads P t 1 (fun l : List α => [.psl false l.length (l.flatMap enc)]) (fun l => l.length ≤ 9223372036854775807 ∧ ∀ a ∈ l, ok a) := by
  refine ⟨hc, fun _ => rfl, fun {H en w base sp held fuel cs x} h => ?_⟩
  rcases open_slice hu h with ⟨rfl, _⟩ | ⟨a, len, cap, m, n, D, Pl, rfl, hb, hl, hm, hmm, hx, hi⟩
  · exact ⟨[], ⟨by simp, by simp⟩, RL.one (.psle (Nat.le_refl _) (by simp) (by simp)) rfl⟩
  · have hlm : len ≤ m := by rw [hmm]; split <;> omega
    rw [r.cells] at hi
    have key : ∀ k, k ≤ len → ∃ l : List α, l.length = k ∧ (∀ b ∈ l, ok b) ∧ (l.flatMap enc).length = k * sz ∧ ∀ j (hj : j < (l.flatMap enc).length), ∃ v, w.cell? (a.add j) = some v ∧ v.oneCell' = true ∧ PRep (fun c => c < w.heap.size) w (l.flatMap enc)[j] v := by
      intro k
      induction k with
      | zero => intro _; exact ⟨[], rfl, by simp, by simp, fun j hj => by simp at hj⟩
      | succ k ih =>
        intro hk
        obtain ⟨l, l1, l2, l3, l4⟩ := ih (by omega)
        obtain ⟨cs', c1, c2⟩ := hi k (by omega)
        obtain ⟨b, b1, b2⟩ := r.read c2
        obtain ⟨_, d1, d2⟩ := World.cells?_some c1
        have hlen := r.len b
        have hfm : (l ++ [b]).flatMap enc = l.flatMap enc ++ enc b := by simp
        refine ⟨l ++ [b], by simp [l1], ?_, by rw [hfm, List.length_append, l3, hlen, Nat.add_mul, Nat.one_mul], fun j hj => ?_⟩
        · intro x hx
          rcases List.mem_append.1 hx with h | h
          · exact l2 x h
          · simp at h; subst h; exact b1
        · have hj' : j < (l.flatMap enc ++ enc b).length := by rw [← hfm]; exact hj
          have he : ((l ++ [b]).flatMap enc)[j] = (l.flatMap enc ++ enc b)[j] := by simp only [hfm]
          rw [he]
          by_cases hjl : j < (l.flatMap enc).length
          · rw [List.getElem_append_left hjl]
            exact l4 j hjl
          · rw [List.length_append] at hj'
            rw [List.getElem_append_right (by omega)]
            have ho : j - (l.flatMap enc).length < sz := by omega
            have hcell := d2 (j - (l.flatMap enc).length) ho
            rw [add_add', l3, show k * sz + (j - k * sz) = j by omega] at hcell
            have hjc : j - (l.flatMap enc).length < cs'.length := by omega
            refine ⟨cs'[j - (l.flatMap enc).length], ?_, (b2.2 _ (by omega) hjc).2, (b2.2 _ (by omega) hjc).1⟩
            rw [hcell, ← l3]
            exact List.getElem?_eq_getElem hjc
    obtain ⟨l, l1, l2, l3, l4⟩ := key len (Nat.le_refl _)
    refine ⟨l, ⟨by rw [l1]; unfold maxLen at hm; omega, l2⟩, RL.one ?_ rfl⟩
    cases hxs : l.flatMap enc with
    | nil => rw [l1]; exact .psle hl (by simp) (by simp)
    | cons y ys =>
      rw [← hxs, l1]
      have h0 : 0 < (l.flatMap enc).length := by rw [hxs]; simp
      obtain ⟨v0, v1, _, _⟩ := l4 0 h0
      obtain ⟨p1, p2⟩ := cell_plain v1
      obtain ⟨ab, ao, asp⟩ := a
      have p1' : asp = none := by simpa [Addr.add] using p1
      have p2' : ab < w.heap.size := by simpa [Addr.add] using p2
      subst p1'
      refine .psl (fun j => (w.cell? ⟨ab, ao + j, none⟩).getD undef) hl (by simp) p2' (fun j hj => ?_) (fun j hj => ?_)
      · obtain ⟨v, q1, q2, _⟩ := l4 j hj
        rw [add_none] at q1
        rw [q1]; exact ⟨rfl, q2⟩
      · obtain ⟨v, q1, _, q3⟩ := l4 j hj
        rw [add_none] at q1
        rw [q1]; exact q3

/-- The fields of a struct. -/
structure ReadsF (P : Program) (fs : List Field) (off : Nat) {α : Type} (sz : Nat) (enc : α → List AV) (ok : α → Prop) : Prop where
  len : ∀ a, (enc a).length = sz
  read : ∀ {H : Type} {en : TypeId × Value → H} {w : World} {base : Nat} {sp : Nat → Bool} {held : Bool} {n : Nat} {cs : List Value}, off + sz ≤ cs.length →
    (∀ f ∈ fs, ∃ x : DataW H × List MemPlace, DataW.trod en P w base sp held n f.type ((cs.drop f.offset).take (P.cellsOf f.type)) = some x) → ∃ a, ok a ∧ RL w (enc a) ((cs.drop off).take sz)
theorem readsF_nil {P : Program} {off : Nat} : ReadsF P [] off 0 (fun _ : Unit => []) (fun _ => True) := ⟨fun _ => rfl, fun _ _ => ⟨(), trivial, by simpa using RL.nil⟩⟩
theorem readsF_cons {P : Program} {f : Field} {fs : List Field} {off : Nat} {α β : Type} {s1 s2 : Nat} {e1 : α → List AV} {e2 : β → List AV} {k1 : α → Prop} {k2 : β → Prop} (ho : f.offset = off) (r1 : Reads P f.type s1 e1 k1) (r2 : ReadsF P fs (off + s1) s2 e2 k2) :
    ReadsF P (f :: fs) off (s1 + s2) (fun p : α × β => e1 p.1 ++ e2 p.2) (fun p => k1 p.1 ∧ k2 p.2) := by
  refine ⟨fun p => by simp [r1.len, r2.len], fun {H en w base sp held n cs} hl h => ?_⟩
  obtain ⟨x, hx⟩ := h f (by simp)
  rw [ho, r1.cells] at hx
  obtain ⟨a, a1, a2⟩ := r1.read hx
  obtain ⟨b, b1, b2⟩ := r2.read (en := en) (w := w) (base := base) (sp := sp) (held := held) (n := n) (cs := cs) (by omega) (fun g hg => h g (by simp [hg]))
  refine ⟨(a, b), ⟨a1, b1⟩, ?_⟩
  have : (cs.drop off).take (s1 + s2) = (cs.drop off).take s1 ++ (cs.drop (off + s1)).take s2 := by rw [List.take_add, List.drop_drop]
  rw [this]
  exact a2.append b2
theorem reads_struct {P : Program} {t : TypeId} {fs : Array Field} {α : Type} {sz : Nat} {enc : α → List AV} {ok : α → Prop} (hu : P.underlying t = some (.struct fs)) (hc : P.cellsOf t = sz) (r : ReadsF P fs.toList 0 sz enc ok) : Reads P t sz enc ok := by
  refine ⟨hc, r.len, fun {H en w base sp held fuel cs x} h => ?_⟩
  obtain ⟨xs, n, _, _, hl, hxl, hf⟩ := DataW.trod_struct hu h
  obtain ⟨a, a1, a2⟩ := r.read (en := en) (w := w) (base := base) (sp := sp) (held := held) (n := n) (cs := cs) (by rw [hl, hc]; omega) (fun f hf' => by
    obtain ⟨i, hi, rfl⟩ := List.mem_iff_getElem.1 hf'
    have h1 := hf i fs[i] (by simp at hi; simp [hi])
    have hi' : i < xs.length := by rw [hxl]; simpa using hi
    rw [List.getElem?_eq_getElem hi'] at h1
    exact ⟨_, by simpa using h1⟩)
  refine ⟨a, a1, ?_⟩
  rwa [List.drop_zero, List.take_of_length_le (by rw [hl, hc]; omega)] at a2
theorem Reads.conv {P : Program} {t : TypeId} {α β : Type} {sz : Nat} {enc : α → List AV} {ok : α → Prop} (r : Reads P t sz enc ok) (g : α → β) (enc' : β → List AV) (ok' : β → Prop) (hl : ∀ b, (enc' b).length = sz) (he : ∀ a, enc' (g a) = enc a) (hk : ∀ a, ok a → ok' (g a)) : Reads P t sz enc' ok' :=
  ⟨r.cells, hl, fun h => let ⟨a, a1, a2⟩ := r.read h; ⟨g a, hk a a1, by rw [he]; exact a2⟩⟩

/-! ### Arguments -/
section
variable {H : Type} {en : TypeId × Value → H} {P : Program} {w : World} {base : Nat} {sp : Nat → Bool} {held : Bool}
theorem arg_struct {rc : Reach} {b0 : Nat} {t : TypeId} {fs : Array Field} {v : Value} {d : DataW H} {p : List MemPlace} {α : Type} {sz : Nat} {enc : α → List AV} {ok : α → Prop} (hu : P.underlying t = some (.struct fs)) (r : Reads P t sz enc ok)
    (hv : Value.okWide P w rc b0 t v) (h : DataW.Trod en P w base sp held t v d p) : ∃ a, ok a ∧ PRep (fun c => c < w.heap.size) w (.agg (enc a)) v := by
  unfold Value.okWide at hv
  rw [hu] at hv
  obtain ⟨cs, rfl, hcs, _⟩ := hv
  obtain ⟨fuel, hf⟩ := h
  obtain ⟨a, a1, a2⟩ := r.read hf
  refine ⟨a, a1, ?_⟩
  obtain ⟨l⟩ := cs
  simp only [Value.cells] at a2
  exact .agg l a2.1 (fun u hu => by obtain ⟨j, hj, rfl⟩ := List.mem_iff_getElem.1 hu; exact (a2.2 j (by rw [a2.1]; exact hj) hj).2) (fun j h1 h2 => (a2.2 j h1 h2).1)
theorem arg_one {t : TypeId} {v : Value} {d : DataW H} {p : List MemPlace} {α : Type} {x : α → AV} {ok : α → Prop} (r : Reads P t 1 (fun a => [x a]) ok) (hv : v.cells.toList = [v]) (h : DataW.Trod en P w base sp held t v d p) : ∃ a, ok a ∧ PRep (fun c => c < w.heap.size) w (x a) v := by
  obtain ⟨fuel, hf⟩ := h
  rw [hv] at hf
  obtain ⟨a, a1, a2⟩ := r.read hf
  exact ⟨a, a1, (a2.2 0 (by simp) (by simp)).1⟩
end

/-! ### The law from its contract -/
section
variable {H : Type} {en : TypeId × Value → H} {P : Program}
theorem trodAll_below (hl : laidOutB P = true) {W W' : World} (hb : Below W.heap.size W W') : ∀ {ts : List TypeId} {vs : List Value} {ds : List (DataW H)} {ps : List MemPlace}, (∀ t ∈ ts, P.readableRec t = true ∧ t < P.types.size) →
    DataW.TrodAll en P W 0 (fun _ => true) true ts vs ds ps → (∀ x ∈ ps, x.block < W.heap.size) → DataW.TrodAll en P W' 0 (fun b => decide (b < W.heap.size)) true ts vs ds ps
  | [], [], [], _, _, h, _ => h
  | t :: ts, v :: vs, d :: ds, ps, hr, h, hlt => by
    obtain ⟨p, q, h1, h2, rfl⟩ := h
    exact ⟨p, q, Below.trod hl (hr t (by simp)).1 (hr t (by simp)).2 h1 hb (fun x hx => hlt x (by simp [hx])), trodAll_below hl hb (fun t' ht' => hr t' (by simp [ht'])) h2 (fun x hx => hlt x (by simp [hx])), rfl⟩
  | [], [], _ :: _, _, _, h, _ => h.elim
  | [], _ :: _, _, _, _, h, _ => by cases ‹List (DataW H)› <;> exact h.elim
  | _ :: _, [], _, _, _, h, _ => by cases ‹List (DataW H)› <;> exact h.elim
  | _ :: _, _ :: _, [], _, _, h, _ => h.elim

/-- What a law leaves: true; nothing of what lay there is changed. -/
theorem post_law {f : Func} {s : ChangeSpec} {W W' : World} {args : Array Value} {ds : List (DataW H)} {before : List MemPlace} {tb : TypeId} (hl : laidOutB P = true) (hr : ∀ t ∈ f.params.toList, P.readableRec t = true ∧ t < P.types.size)
    (hW : DataW.Whole en P f.params.toList s.vars false W args.toList ds [] before) (hv : s.vars = []) (hfa : (s.fn H (ds ++ [])).args = ds) (hfr : (s.fn H (ds ++ [])).results = [.lit (.bool true)]) (hfv : (s.fn H (ds ++ [])).vars = [])
    (hrt : f.resultTypes = #[tb]) (htb : P.underlying tb = some .bool) (hb : Below W.heap.size W W') : s.post en P f false true false false W args (.bool true) W' := by
  have hW' := hW
  obtain ⟨p, q, hA, hV, rfl, hz, hn⟩ := hW
  have hq : q = [] := by rw [hv] at hV; exact hV
  subst hq
  have hlt : ∀ x ∈ p ++ [], x.block < W.heap.size := fun x hx => hW'.lt x hx
  refine ⟨ds, [], p ++ [], [], p, [], hW', ?_, ?_, ?_, World.keptBut_mono (fun x hx => ⟨hx, .inr (.inl (by simpa using hx))⟩) (hb.frame (· ∈ p ++ [])), by simp⟩
  · rw [hfr, hrt]
    exact trodAll_mk1 (shut_bool htb true)
  · rw [hfa]
    exact trodAll_below hl hb hr hA (fun x hx => hlt x (by simpa using hx))
  · rw [hfv, hv]; rfl

theorem calls_law {f : FuncId} {xs : List AV} {vs : List Value} {W : World} (h : CallS P f xs (.bool true)) (hl : xs.length = vs.length) (hr : ∀ j (a : j < xs.length) (b : j < vs.length), PRep (fun c => c < W.heap.size) W xs[j] vs[j]) :
    Calls P f vs.toArray W fun e W' => e = .returned (.bool true) ∧ Below W.heap.size W W' := by
  refine (callsIn_wide (n := 0)).1 ((h.2 W vs (fun c => c < W.heap.size) (fun _ hc => hc) hl hr).mono ?_)
  rintro e W' ⟨v, rfl, hv, hb⟩
  cases hv
  exact ⟨rfl, hb⟩
end
end Go.Am
