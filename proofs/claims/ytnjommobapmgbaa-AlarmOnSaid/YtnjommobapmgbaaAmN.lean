/- The abstract machine Am, part N: statements; functions. -/
import Derived.Test.YtnjommobapmgbaaAmM
namespace Go.Am
open Go.RowKit
variable [Base]

/-- WHAT A STATEMENT COMES TO, SAID OF ABSTRACT STATES. -/
def AWP (P : Program) (w0 : World) (r : Option Nat) (X : List (AV × Value)) (c : Code) (s : St) (Q : Exit → St → Prop) : Prop :=
  ∀ a w, Sat w0 X s a w → c.wpIn (FW r) 0 P (fun e a' w' => ∃ s', Q e s' ∧ Sat w0 X s' a' w') a w

section
variable {P : Program} {w0 : World} {r : Option Nat} {X : List (AV × Value)} {s : St} {Q : Exit → St → Prop}

theorem AWP.mono {c : Code} {Q' : Exit → St → Prop} (h : AWP P w0 r X c s Q) (hq : ∀ e s, Q e s → Q' e s) : AWP P w0 r X c s Q' :=
  fun a w hs => wpIn_mono (h a w hs) fun _ _ _ ⟨s', h1, h2⟩ => ⟨s', hq _ _ h1, h2⟩

theorem awp_skip (h : Q .normal s) : AWP P w0 r X .skip s Q := fun _ _ hs => wpIn_skip ⟨s, h, hs⟩
theorem awp_exit {id : Nat} (h : Q (.exit id) s) : AWP P w0 r X (.exit id) s Q := fun _ _ hs => wpIn_exit ⟨s, h, hs⟩
theorem awp_ret (h : Q .ret s) : AWP P w0 r X .ret s Q := fun _ _ hs => wpIn_ret ⟨s, h, hs⟩

/-- What follows stands behind K. -/
def thenQ (K : St → Prop) (Q : Exit → St → Prop) : Exit → St → Prop
  | .normal, s => K s
  | e, s => Q e s

theorem awp_seq {a b : Code} (h : ∀ K : St → Prop, (∀ s, AWP P w0 r X b s Q → K s) → AWP P w0 r X a s (thenQ K Q)) : AWP P w0 r X (.seq a b) s Q := by
  intro ac w hs
  refine wpIn_seq (wpIn_mono (h (fun s => AWP P w0 r X b s Q) (fun _ h => h) ac w hs) ?_)
  rintro e a' w' ⟨s', h1, h2⟩
  cases e with
  | normal => exact h1 a' w' h2
  | exit id => exact ⟨s', h1, h2⟩
  | goto l => exact ⟨s', h1, h2⟩
  | ret => exact ⟨s', h1, h2⟩
  | panic c => exact ⟨s', h1, h2⟩
  | outgrown => exact ⟨s', h1, h2⟩

theorem sat_bool {c : Operand} {b : Bool} (hc : aev s.T c = .bool b) {a : Act} {w : World} (hs : Sat w0 X s a w) : a.eval c = .bool b := by
  obtain ⟨m, hs⟩ := hs
  have := hs.eval s.T rfl c (fun _ _ _ => rfl)
  rw [hc] at this
  exact rep_bool this

theorem awp_cond {c : Operand} {x y : Code} {b : Bool} (hc : aev s.T c = .bool b) (h1 : b = true → AWP P w0 r X x s Q) (h2 : b = false → AWP P w0 r X y s Q) : AWP P w0 r X (.cond c x y) s Q :=
  fun a w hs => wpIn_cond_split (sat_bool hc hs) (fun h => h1 h a w hs) (fun h => h2 h a w hs)
theorem awp_cond_true {c : Operand} {x y : Code} (hc : aev s.T c = .bool true) (h1 : AWP P w0 r X x s Q) : AWP P w0 r X (.cond c x y) s Q := awp_cond hc (fun _ => h1) (fun h => by cases h)
theorem awp_cond_false {c : Operand} {x y : Code} (hc : aev s.T c = .bool false) (h2 : AWP P w0 r X y s Q) : AWP P w0 r X (.cond c x y) s Q := awp_cond hc (fun h => by cases h) (fun _ => h2)

def blockQ (id : Nat) (Q : Exit → St → Prop) : Exit → St → Prop
  | .exit i, s => if i = id then Q .normal s else Q (.exit i) s
  | e, s => Q e s

theorem awp_block {id : Nat} {c : Code} (h : AWP P w0 r X c s (blockQ id Q)) : AWP P w0 r X (.block id c) s Q := by
  intro ac w hs
  refine wpIn_block (wpIn_mono (h ac w hs) ?_)
  rintro e a' w' ⟨s', h1, h2⟩
  cases e with
  | exit i =>
    simp only [blockQ] at h1
    simp only [Exit.inBlock]
    split at h1
    · rename_i hi; rw [if_pos hi]; exact ⟨s', h1, h2⟩
    · rename_i hi; rw [if_neg hi]; exact ⟨s', h1, h2⟩
  | normal => exact ⟨s', h1, h2⟩
  | goto l => exact ⟨s', h1, h2⟩
  | ret => exact ⟨s', h1, h2⟩
  | panic c => exact ⟨s', h1, h2⟩
  | outgrown => exact ⟨s', h1, h2⟩

/-- A region whose order is that of the text. -/
theorem awp_region {id : Nat} {ops : List Oper} (h : evOps P ops.toArray ops s [] fun s' _ => Q .normal s') : AWP P w0 r X (.region id ops.toArray false) s Q := by
  intro a w hs
  obtain ⟨es, s', ht, hl, hk⟩ := ev_trace (w0 := w0) (r := r) ops 0 s [] _ (fun k => by simp) h
  refine wpIn_region ?_
  have := trace_seq (X := X) (Q := fun e a' w' => ∃ s', Q e s' ∧ Sat w0 X s' a' w') ht (fun a w hs => ⟨s', hk, hs⟩) a w hs
  rw [hl] at this
  simpa [List.range_eq_range'] using this

/-- A region that draws its order. -/
theorem awp_draw {id : Nat} {ops : List Oper} (hm : P.follows .mixedOrders = true) (hc : regOK ops.toArray = true) (h : evOps P ops.toArray ops s [] fun s' es => heapOK ops.toArray es = true ∧ Q .normal s') :
    AWP P w0 r X (.region id ops.toArray true) s Q := by
  intro a w hs
  obtain ⟨es, s', ht, hl, hk1, hk2⟩ := ev_trace (w0 := w0) (r := r) ops 0 s [] _ (fun k => by simp) h
  simp only [List.nil_append] at hk1
  exact draw_sound hm ht (by simpa using hl) hc hk1 (fun a w hs => ⟨s', hk2, hs⟩) a w hs

/-- A value that is known no more, or one that says less. -/
def avLe (x y : AV) : Prop := y = .junk ∨ x = y

/-- A state that says less. -/
structure Le (s s' : St) : Prop where
  len : s'.T.length = s.T.length
  tmp : ∀ j, j < s.T.length → avLe (lget s.T j) (lget s'.T j)
  blk : hget s'.H = hget s.H
  d : s'.D = s.D

theorem Sat.le {s s' : St} {a : Act} {w : World} (hs : Sat w0 X s a w) (h : Le s s') : Sat w0 X s' a w := by
  obtain ⟨m, hs⟩ := hs
  refine ⟨m, ?_⟩
  rw [h.blk, h.len, h.d]
  refine ⟨hs.good, hs.size, fun j hj => ?_, hs.roots, hs.marks⟩
  obtain ⟨v, hv, hr⟩ := hs.tmps j hj
  rcases h.tmp j hj with he | he
  · rw [he]; exact ⟨v, hv, .junk _⟩
  · rw [← he]; exact ⟨v, hv, hr⟩

omit [Base] in
/-- A loop whose measure is a ghost's. -/
theorem wpIn_loop_g {F : Fence} {n : Nat} {c : Code} {γ : Type} {QQ : Exit → Act → World → Prop} {a : Act} {w : World} (I : γ → Act → World → Prop) (μ : γ → Nat) (g0 : γ) (h₀ : I g0 a w)
    (round : ∀ g a w, I g a w → c.wpIn F n P (Exit.then (fun a' w' => ∃ g', μ g' < μ g ∧ I g' a' w') QQ) a w) : (Code.loop c).wpIn F n P QQ a w := by
  intro b k cs hro hb hr
  have key : ∀ j g a w, μ g = j → I g a w →
      ∃ e a' w', QQ e a' w' ∧ ArrivesIn (Machine.fenced P F) P (lone (b.atR a (.code c :: .inLoop c :: k)) cs w) b k cs e a' w' := by
    intro j
    induction j using Nat.strongRecOn with
    | _ j ih =>
      intro g a w hn hI
      obtain ⟨e, a₁, w₁, hq, harr⟩ := round g a w hI b (.inLoop c :: k) cs hro hb hr
      cases e with
      | normal =>
        obtain ⟨g', hlt, hI₁⟩ := hq
        obtain ⟨e₂, a₂, w₂, hq₂, harr₂⟩ := ih (μ g') (hn ▸ hlt) g' a₁ w₁ rfl hI₁
        exact ⟨e₂, a₂, w₂, hq₂, .of_steps (StepsIn.trans harr (.one (fenced_calm hb hr rfl) stepR_inLoop)) harr₂⟩
      | exit id => exact ⟨_, a₁, w₁, hq, .pass (x := .inLoop c) rfl (fun _ _ => .inl (by simp)) harr⟩
      | goto l => exact ⟨_, a₁, w₁, hq, .pass (x := .inLoop c) rfl (fun _ _ => .inl (by simp)) harr⟩
      | ret => exact ⟨_, a₁, w₁, hq, .pass (x := .inLoop c) rfl (fun _ _ => .inl (by simp)) harr⟩
      | panic ch => exact ⟨_, a₁, w₁, hq, .pass (x := .inLoop c) rfl (fun _ _ => .inl (by simp)) harr⟩
      | outgrown => exact ⟨_, a₁, w₁, hq, .pass (x := .inLoop c) rfl (fun _ _ => .inl (by simp)) harr⟩
  obtain ⟨e, a', w', hq, harr⟩ := key _ g0 a w rfl h₀
  exact ⟨e, a', w', hq, .of_steps (.one (fenced_calm hb hr rfl) stepR_loop) harr⟩

/-- A LOOP: I says which states come at the head of a round, by a ghost g; μ goes down. -/
theorem awp_loop {c : Code} {γ : Type} (I : γ → St) (μ : γ → Nat) (g0 : γ) (h0 : Le s (I g0))
    (round : ∀ g, AWP P w0 r X c (I g) (thenQ (fun s' => ∃ g', μ g' < μ g ∧ Le s' (I g')) Q)) : AWP P w0 r X (.loop c) s Q := by
  intro a w hs
  refine wpIn_loop_g (fun g a w => Sat w0 X (I g) a w) μ g0 (hs.le h0) (fun g a w hI => wpIn_mono (round g a w hI) ?_)
  rintro e a' w' ⟨s', h1, h2⟩
  cases e with
  | normal => obtain ⟨g', hlt, hle⟩ := h1; exact ⟨g', hlt, h2.le hle⟩
  | exit id => exact ⟨s', h1, h2⟩
  | goto l => exact ⟨s', h1, h2⟩
  | ret => exact ⟨s', h1, h2⟩
  | panic c => exact ⟨s', h1, h2⟩
  | outgrown => exact ⟨s', h1, h2⟩

end
end Go.Am
