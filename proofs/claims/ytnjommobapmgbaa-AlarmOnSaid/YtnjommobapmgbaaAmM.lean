/- The abstract machine Am, part M: a region that draws its order: every order comes to what the order of the text comes to. -/
import Derived.Test.YtnjommobapmgbaaAmL
import Derived.StillTail
namespace Go.Am
open Go.RowKit
variable [Base]

/-- Does operation j wait for operation i (directly, or through others)? -/
def depB (all : Array Oper) : Nat → Nat → Nat → Bool
  | 0, _, _ => false
  | n + 1, j, i => match all[j]? with
    | none => false
    | some o => o.after.any (fun e => Region.binds .any e && e.on == i) || o.after.any (fun e => Region.binds .any e && depB all n e.on i)

/-- The temporaries that an operation looks at. -/
def looks (all : Array Oper) (i : Nat) : List Tmp := match all[i]? with | some o => o.looksAt all | none => []
def dsts (all : Array Oper) (i : Nat) : Option Tmp := (all[i]?).bind (·.dst)

/-- Two operations of which one writes a temporary that the other looks at, or writes too. -/
def slotConf (all : Array Oper) (i j : Nat) : Bool :=
  (match dsts all i with
   | some d => (looks all j).contains d || dsts all j == some d
   | none => false) ||
  (match dsts all j with
   | some d => (looks all i).contains d
   | none => false)

def regOK (all : Array Oper) : Bool :=
  (List.range all.size).all fun j => (match all[j]? with
    | some o => o.after.all fun e => !Region.binds .any e || decide (e.on < j)
    | none => true) &&
  (List.range j).all fun i => !slotConf all i j || depB all 3 j i

/-- Two operations of which one writes a block that the other looks at, or writes too. -/
def heapConf (e f : E) : Bool :=
  (match e.wr with
   | some (b, _) => f.rd.contains b || (match f.wr with | some (c, _) => b == c | none => false)
   | none => false) ||
  (match f.wr with
   | some (c, _) => e.rd.contains c
   | none => false)

def heapOK (all : Array Oper) (es : List E) : Bool :=
  (List.range all.size).all fun j => (List.range j).all fun i => match es[i]?, es[j]? with
    | some e, some f => !heapConf e f || depB all 3 j i
    | _, _ => true

section
variable {P : Program} {w0 : World} {r : Option Nat} {all : Array Oper}

/-- The states on the way, in the order of the text. -/
def sAt (all : Array Oper) : Nat → St → List E → Nat → St
  | _, s, [], _ => s
  | _, s, _ :: _, 0 => s
  | i, s, e :: es, k + 1 => sAt all (i + 1) ⟨lseto s.T (dsts all i) e.val, hseto s.H e.wr, s.D⟩ es k

omit [Base] in
theorem sAt_zero (all : Array Oper) (i : Nat) (s : St) (es : List E) : sAt all i s es 0 = s := by cases es <;> rfl

omit [Base] in
theorem sAt_succ : ∀ (es : List E) (i : Nat) (s : St) (k : Nat) (e : E), es[k]? = some e →
    sAt all i s es (k + 1) = ⟨lseto (sAt all i s es k).T (dsts all (i + k)) e.val, hseto (sAt all i s es k).H e.wr, (sAt all i s es k).D⟩
  | [], _, _, _, _, h => by simp at h
  | e0 :: es, i, s, 0, e, h => by simp at h; subst h; simp [sAt, sAt_zero]
  | e0 :: es, i, s, k + 1, e, h => by
    have ih := sAt_succ es (i + 1) ⟨lseto s.T (dsts all i) e0.val, hseto s.H e0.wr, s.D⟩ k e (by simpa using h)
    rw [show i + 1 + k = i + (k + 1) by omega] at ih
    exact ih

theorem trace_at : ∀ {i : Nat} {s s' : St} {es : List E}, Trace P w0 r all i s es s' → s' = sAt all i s es es.length ∧ ∀ k e, es[k]? = some e → ∃ o, all[i + k]? = some o ∧
    ((guardOf all (sAt all i s es k).T o = some true ∧ OpOK P w0 r o (aev (sAt all i s es k).T) (hget (sAt all i s es k).H) e) ∨ (guardOf all (sAt all i s es k).T o = some false ∧ e = ⟨.tup [], [], none⟩)) := by
  intro i s s' es ht
  induction ht with
  | nil i s => exact ⟨rfl, fun k e h => by simp at h⟩
  | run ho hg hok rest ih =>
    rename_i i s s' o e es
    have hd : dsts all i = o.dst := by simp [dsts, ho]
    refine ⟨by simp only [List.length_cons, sAt]; rw [hd]; exact ih.1, fun k e' h => ?_⟩
    cases k with
    | zero => simp at h; subst h; exact ⟨o, by simpa using ho, .inl ⟨by simpa [sAt] using hg, by simpa [sAt] using hok⟩⟩
    | succ k =>
      obtain ⟨o', ho', h'⟩ := ih.2 k e' (by simpa using h)
      refine ⟨o', by rw [← ho']; congr 1; omega, ?_⟩
      simp only [sAt]; rw [hd]; exact h'
  | skip ho hg rest ih =>
    rename_i i s s' o es
    have hd : dsts all i = o.dst := by simp [dsts, ho]
    refine ⟨by simp only [List.length_cons, sAt]; rw [hd]; exact ih.1, fun k e' h => ?_⟩
    cases k with
    | zero => simp at h; subst h; exact ⟨o, by simpa using ho, .inr ⟨by simpa [sAt] using hg, rfl⟩⟩
    | succ k =>
      obtain ⟨o', ho', h'⟩ := ih.2 k e' (by simpa using h)
      refine ⟨o', by rw [← ho']; congr 1; omega, ?_⟩
      simp only [sAt]; rw [hd]; exact h'

/-- The temporaries when the operations of L have been carried out. -/
def tD (all : Array Oper) (s : St) (es : List E) (L : Nat → Bool) : Nat → Nat → AV
  | 0, t => lget s.T t
  | k + 1, t => match es[k]? with
    | some e => if L k = true ∧ dsts all k = some t then e.val else tD all s es L k t
    | none => tD all s es L k t
def hD (s : St) (es : List E) (L : Nat → Bool) : Nat → Nat → Option ABlk
  | 0, b => hget s.H b
  | k + 1, b => match es[k]? with
    | some e => if L k = true then updo (hD s es L k) e.wr b else hD s es L k b
    | none => hD s es L k b

omit [Base] in
theorem tD_text (s : St) (es : List E) : ∀ k, k ≤ es.length → (sAt all 0 s es k).T.length = s.T.length ∧ ∀ t, t < s.T.length → lget (sAt all 0 s es k).T t = tD all s es (fun _ => true) k t
  | 0, _ => by simp [sAt_zero, tD]
  | k + 1, hk => by
    obtain ⟨h1, h2⟩ := tD_text s es k (by omega)
    have he : es[k]? = some es[k] := List.getElem?_eq_getElem (by omega)
    rw [sAt_succ es 0 s k _ he]
    refine ⟨by simp [lseto_length, h1], fun t ht => ?_⟩
    simp only [Nat.zero_add, tD, he, true_and]
    cases hd : dsts all k with
    | none => simp [lseto, h2 t ht]
    | some d =>
      simp only [lseto, lget_set, Option.some.injEq]
      by_cases hdt : d = t
      · subst hdt; rw [if_pos ⟨rfl, by omega⟩, if_pos rfl]
      · rw [if_neg (fun h => hdt h.1), if_neg hdt]; exact h2 t ht

omit [Base] in
theorem hD_text (s : St) (es : List E) : ∀ k, k ≤ es.length → ∀ b, hget (sAt all 0 s es k).H b = hD s es (fun _ => true) k b
  | 0, _, b => by simp [sAt_zero, hD]
  | k + 1, hk, b => by
    have ih := hD_text s es k (by omega)
    have he : es[k]? = some es[k] := List.getElem?_eq_getElem (by omega)
    rw [sAt_succ es 0 s k _ he]
    simp only [hget_seto, hD, he, if_true]
    rw [show hget (sAt all 0 s es k).H = hD s es (fun _ => true) k from funext ih]

omit [Base] in
/-- A temporary that operation i looks at: the others that write it have come before, or have not come. -/
theorem tD_at (s : St) (es : List E) (L : Nat → Bool) (t i : Nat) (h1 : ∀ k, k < i → dsts all k = some t → L k = true) (h2 : ∀ k, i ≤ k → dsts all k = some t → L k = false) :
    ∀ n, i ≤ n → tD all s es L n t = tD all s es (fun _ => true) i t := by
  have below : ∀ k, k ≤ i → tD all s es L k t = tD all s es (fun _ => true) k t := by
    intro k
    induction k with
    | zero => intro _; rfl
    | succ k ih =>
      intro hk
      simp only [tD, true_and]
      cases he : es[k]? with
      | none => exact ih (by omega)
      | some e =>
        by_cases hd : dsts all k = some t
        · simp only [hd, and_true]
          rw [if_pos (h1 k (by omega) hd), if_pos trivial]
        · simp only [hd, and_false, if_false]; exact ih (by omega)
  intro n
  induction n with
  | zero => intro h; have : i = 0 := by omega
            subst this; rfl
  | succ n ih =>
    intro h
    by_cases hi : i = n + 1
    · rw [← hi]; exact below i (Nat.le_refl _)
    · simp only [tD]
      cases he : es[n]? with
      | none => exact ih (by omega)
      | some e =>
        have : ¬ (L n = true ∧ dsts all n = some t) := by
          rintro ⟨ha, hb⟩
          rw [h2 n (by omega) hb] at ha; cases ha
        simp only [this, if_false]
        exact ih (by omega)

omit [Base] in
theorem hD_at (s : St) (es : List E) (L : Nat → Bool) (b i : Nat) (h1 : ∀ k e blk, k < i → es[k]? = some e → e.wr = some (b, blk) → L k = true) (h2 : ∀ k e blk, i ≤ k → es[k]? = some e → e.wr = some (b, blk) → L k = false) :
    ∀ n, i ≤ n → hD s es L n b = hD s es (fun _ => true) i b := by
  have stay : ∀ (f : Nat → Option ABlk) (e : E), (∀ blk, e.wr ≠ some (b, blk)) → updo f e.wr b = f b := by
    intro f e hne
    cases hw : e.wr with
    | none => rfl
    | some p =>
      obtain ⟨c, blk⟩ := p
      simp only [updo]
      exact upd_ne _ _ (fun he => hne blk (by rw [hw, he]))
  have below : ∀ k, k ≤ i → hD s es L k b = hD s es (fun _ => true) k b := by
    intro k
    induction k with
    | zero => intro _; rfl
    | succ k ih =>
      intro hk
      simp only [hD, if_true]
      cases he : es[k]? with
      | none => exact ih (by omega)
      | some e =>
        simp only
        by_cases hw : ∃ blk, e.wr = some (b, blk)
        · obtain ⟨blk, hw⟩ := hw
          rw [if_pos (h1 k e blk (by omega) he hw), hw]
          simp [updo, upd_same]
        · have hne : ∀ blk, e.wr ≠ some (b, blk) := fun blk hb => hw ⟨blk, hb⟩
          rw [stay _ e hne, stay _ e hne]
          split <;> exact ih (by omega)
  intro n
  induction n with
  | zero => intro h; have : i = 0 := by omega
            subst this; rfl
  | succ n ih =>
    intro h
    by_cases hi : i = n + 1
    · rw [← hi]; exact below i (Nat.le_refl _)
    · simp only [hD]
      cases he : es[n]? with
      | none => exact ih (by omega)
      | some e =>
        simp only
        by_cases hw : ∃ blk, e.wr = some (b, blk)
        · obtain ⟨blk, hw⟩ := hw
          rw [if_neg (by rw [h2 n e blk (by omega) he hw]; simp)]
          exact ih (by omega)
        · rw [stay _ e (fun blk hb => hw ⟨blk, hb⟩)]
          split <;> exact ih (by omega)

omit [Base] in
/-- One operation more. -/
theorem tD_add (s : St) (es : List E) (L L' : Nat → Bool) (i : Nat) (e : E) (he : es[i]? = some e) (hL : ∀ k, k ≠ i → L' k = L k) (hLi : L' i = true) (h0 : L i = false) (t : Nat)
    (h2 : dsts all i = some t → ∀ k, i < k → dsts all k = some t → L k = false) : ∀ n, tD all s es L' n t = if i < n ∧ dsts all i = some t then e.val else tD all s es L n t
  | 0 => by simp [tD]
  | n + 1 => by
    have ih := tD_add s es L L' i e he hL hLi h0 t h2 n
    simp only [tD]
    by_cases hni : n = i
    · subst hni
      simp only [he, hLi, true_and, h0, Bool.false_eq_true, false_and, if_false, Nat.lt_succ_self]
      rw [ih]
      by_cases hd : dsts all n = some t
      · simp [hd]
      · simp [hd]
    · cases hen : es[n]? with
      | none =>
        simp only
        rw [ih]
        by_cases hd : i < n
        · simp [hd, show i < n + 1 by omega]
        · have : ¬ i < n + 1 := by omega
          simp [hd, this]
      | some e' =>
        simp only [hL n hni]
        rw [ih]
        by_cases hc : L n = true ∧ dsts all n = some t
        · simp only [hc]
          by_cases hd : i < n + 1 ∧ dsts all i = some t
          · have := h2 hd.2 n (by omega) hc.2
            rw [hc.1] at this; cases this
          · simp [hd]
        · simp only [hc, if_false]
          by_cases hd : i < n
          · simp [hd, show i < n + 1 by omega]
          · have : ¬ i < n + 1 := by omega
            simp [hd, this]

omit [Base] in
theorem hD_add (s : St) (es : List E) (L L' : Nat → Bool) (i : Nat) (e : E) (he : es[i]? = some e) (hL : ∀ k, k ≠ i → L' k = L k) (hLi : L' i = true) (h0 : L i = false)
    (h2 : ∀ b blk, e.wr = some (b, blk) → ∀ k f blk', i < k → es[k]? = some f → f.wr = some (b, blk') → L k = false) : ∀ n, i < n → hD s es L' n = updo (hD s es L n) e.wr := by
  have below : ∀ n, n ≤ i → hD s es L' n = hD s es L n := by
    intro n
    induction n with
    | zero => intro _; rfl
    | succ n ih =>
      intro hn
      funext b
      simp only [hD, hL n (by omega), ih (by omega)]
  intro n
  induction n with
  | zero => intro h; omega
  | succ n ih =>
    intro hn
    funext b
    by_cases hni : n = i
    · subst hni
      have hx : hD s es L (n + 1) = hD s es L n := by funext b'; simp only [hD, he, h0, Bool.false_eq_true, if_false]
      rw [hx]
      simp only [hD, he, hLi, if_true, below n (Nat.le_refl _)]
    · have ih := ih (by omega)
      cases hen : es[n]? with
      | none =>
        have hx : hD s es L (n + 1) = hD s es L n := by funext b'; simp only [hD, hen]
        rw [hx]
        simp only [hD, hen, ih]
      | some f =>
        by_cases hLn : L n = true
        · have hx : hD s es L (n + 1) = updo (hD s es L n) f.wr := by funext b'; simp only [hD, hen, hLn, if_true]
          have hx' : hD s es L' (n + 1) b = updo (hD s es L' n) f.wr b := by simp only [hD, hen, hL n hni, hLn, if_true]
          rw [hx, hx', ih]
          cases hw : e.wr with
          | none => rfl
          | some p =>
            obtain ⟨c, blk⟩ := p
            cases hwf : f.wr with
            | none => rfl
            | some q =>
              obtain ⟨c', blk'⟩ := q
              simp only [updo, upd]
              by_cases hcc : c' = c
              · subst hcc
                have := h2 c' blk hw n f blk' (by omega) hen hwf
                rw [hLn] at this; cases this
              · by_cases hb1 : b = c
                · subst hb1; simp [Ne.symm hcc]
                · simp [hb1]
        · have hx : hD s es L (n + 1) = hD s es L n := by funext b'; simp [hD, hen, hLn]
          have hx' : hD s es L' (n + 1) b = hD s es L' n b := by simp [hD, hen, hL n hni, hLn]
          rw [hx, hx', ih]

omit [Base] in
theorem depB_spec {L : Nat → Bool} (hcl : ∀ j o, all[j]? = some o → L j = true → ∀ e ∈ o.after, Region.binds .any e = true → L e.on = true) : ∀ (n j i : Nat) (o : Oper), all[j]? = some o →
    (∀ e ∈ o.after, Region.binds .any e = true → L e.on = true) → depB all n j i = true → L i = true
  | 0, _, _, _, _, _, h => by simp [depB] at h
  | n + 1, j, i, o, ho, hed, h => by
    simp only [depB, ho, Bool.or_eq_true, Array.any_eq_true', Bool.and_eq_true, beq_iff_eq] at h
    rcases h with ⟨e, he, hb, rfl⟩ | ⟨e, he, hb, hd⟩
    · exact hed e he hb
    · have hL := hed e he hb
      cases ho2 : all[e.on]? with
      | none => cases n <;> simp [depB, ho2] at hd
      | some o2 => exact depB_spec hcl n e.on i o2 ho2 (hcl e.on o2 ho2 hL) hd

omit [Base] in
theorem countP_lt {p q : Nat → Bool} {i : Nat} : ∀ (l : List Nat), i ∈ l → (∀ j, q j = true → p j = true) → p i = true → q i = false → l.countP q < l.countP p
  | [], h, _, _, _ => by simp at h
  | x :: l, h, hs, hp, hq => by
    have hle : l.countP q ≤ l.countP p := List.countP_mono_left (fun j _ => hs j)
    rcases List.mem_cons.1 h with rfl | h
    · simp only [List.countP_cons, hp, hq, if_true, Bool.false_eq_true, if_false]; omega
    · have ih := countP_lt l h hs hp hq
      simp only [List.countP_cons]
      by_cases hx : q x = true
      · simp only [hx, hs x hx, if_true]; omega
      · by_cases hx2 : p x = true
        · simp [hx, hx2]; omega
        · simp [hx, hx2]; omega

omit [Base] in
theorem tD_congr (s : St) (es : List E) (L L' : Nat → Bool) (t : Nat) : ∀ n, (∀ k, k < n → L k = L' k) → tD all s es L n t = tD all s es L' n t
  | 0, _ => rfl
  | n + 1, h => by simp only [tD, h n (by omega), tD_congr s es L L' t n (fun k hk => h k (by omega))]
omit [Base] in
theorem hD_congr (s : St) (es : List E) (L L' : Nat → Bool) : ∀ n, (∀ k, k < n → L k = L' k) → hD s es L n = hD s es L' n
  | 0, _ => rfl
  | n + 1, h => by funext b; simp only [hD, h n (by omega), hD_congr s es L L' n (fun k hk => h k (by omega))]
omit [Base] in
theorem tD_none (s : St) (es : List E) (t : Nat) : ∀ n, tD all s es (fun _ => false) n t = lget s.T t
  | 0 => rfl
  | n + 1 => by simp only [tD, Bool.false_eq_true, false_and, if_false]; split <;> exact tD_none s es t n
omit [Base] in
theorem hD_none (s : St) (es : List E) : ∀ n, hD s es (fun _ => false) n = hget s.H
  | 0 => rfl
  | n + 1 => by funext b; simp only [hD, Bool.false_eq_true, if_false]; split <;> rw [hD_none s es n]
omit [Base] in
theorem sAt_D : ∀ (es : List E) (i : Nat) (s : St) (k : Nat), (sAt all i s es k).D = s.D
  | [], _, _, _ => by simp [sAt]
  | _ :: _, _, _, 0 => rfl
  | _ :: es, i, s, k + 1 => by simp only [sAt]; exact sAt_D es (i + 1) _ k

/-- WHATEVER ORDER IS DRAWN. -/
theorem draw_sound {X : List (AV × Value)} {Q : Exit → Act → World → Prop} {s s' : St} {es : List E} {id : Nat} (hm : P.follows .mixedOrders = true) (tr : Trace P w0 r all 0 s es s') (hl : es.length = all.size)
    (hc : regOK all = true) (hh : heapOK all es = true) (hQ : ∀ a w, Sat w0 X s' a w → Q .normal a w) (a : Act) (w : World) (hs : Sat w0 X s a w) : (Code.region id all true).wpIn (FW r) 0 P Q a w := by
  obtain ⟨hs', hat⟩ := trace_at tr
  simp only [Nat.zero_add] at hat
  -- the closed facts
  simp only [regOK, List.all_eq_true, List.mem_range, Bool.and_eq_true] at hc
  have hdown : ∀ j o, all[j]? = some o → ∀ e ∈ o.after, Region.binds .any e = true → e.on < j := by
    intro j o ho e he hb
    have hj : j < all.size := (Array.getElem?_eq_some_iff.1 ho).1
    have := (hc j hj).1
    simp only [ho, Array.all_eq_true_iff_forall_mem, Bool.or_eq_true, Bool.not_eq_true', decide_eq_true_eq] at this
    exact (this e he).resolve_left (by simp [hb])
  have hslot : ∀ i j, i < j → j < all.size → slotConf all i j = true → depB all 3 j i = true := by
    intro i j hij hj hcf
    have := (hc j hj).2 i hij
    simpa [hcf] using this
  have hheap : ∀ i j e f, i < j → j < all.size → es[i]? = some e → es[j]? = some f → heapConf e f = true → depB all 3 j i = true := by
    intro i j e f hij hj hi hj' hcf
    simp only [heapOK, List.all_eq_true, List.mem_range] at hh
    have := hh j hj i hij
    simpa [hi, hj', hcf] using this
  refine wpIn_region_any hm ?_
  have hdst : ∀ k t, dsts all k = some t → k < all.size := by
    intro k t hk
    cases ho : all[k]? with
    | none => simp [dsts, ho] at hk
    | some o => exact (Array.getElem?_eq_some_iff.1 ho).1
  -- all have come: the state behind the region
  have done : ∀ (listed : Array Bool) (a : Act) (w : World), (∀ j, j < all.size → listed.getD j false = true) →
      SatF w0 X (tD all s es (fun j => listed.getD j false) all.size) s.T.length (hD s es (fun j => listed.getD j false) all.size) s.D a w → Q .normal a w := by
    intro listed a w hall ⟨m, hsat⟩
    refine hQ a w ⟨m, ?_⟩
    have hlen := (tD_text (all := all) s es es.length (Nat.le_refl _)).1
    have hD' : hget s'.H = hD s es (fun j => listed.getD j false) all.size := by
      funext b
      rw [hs', hD_text s es es.length (Nat.le_refl _) b, hl]
      rw [hD_congr s es (fun j => listed.getD j false) (fun _ => true) all.size (fun k hk => hall k hk)]
    have hTl : s'.T.length = s.T.length := by rw [hs']; exact hlen
    refine ⟨by rw [hD']; exact hsat.good, by rw [hTl]; exact hsat.size, fun j hj => ?_, fun p hp => by rw [hD']; exact hsat.roots p hp, by rw [hD', hs', sAt_D]; exact hsat.marks⟩
    rw [hTl] at hj
    obtain ⟨v, hv, hr⟩ := hsat.tmps j hj
    refine ⟨v, hv, ?_⟩
    rw [hD', hs', (tD_text (all := all) s es es.length (Nat.le_refl _)).2 j hj, hl]
    rw [tD_congr s es (fun _ => true) (fun j => listed.getD j false) j all.size (fun k hk => (hall k hk).symm)]
    exact hr
  -- the walk over every order
  have key : ∀ (fuel : Nat) (listed : Array Bool) (a : Act) (w : World), listed.size = all.size → (∀ j o, all[j]? = some o → listed.getD j false = true → ∀ e ∈ o.after, Region.binds .any e = true → listed.getD e.on false = true) →
      (List.range all.size).countP (fun j => !listed.getD j true) ≤ fuel →
      SatF w0 X (tD all s es (fun j => listed.getD j false) all.size) s.T.length (hD s es (fun j => listed.getD j false) all.size) s.D a w →
      wpAnyIn (FW r) 0 P .any all Q fuel listed a w := by
    intro fuel
    induction fuel with
    | zero =>
      intro listed a w hsz hcl hcnt hsat
      have hall : ∀ j, j < all.size → listed.getD j true = true := by
        intro j hj
        cases hg : listed.getD j true with
        | true => rfl
        | false =>
          have : 0 < (List.range all.size).countP (fun j => !listed.getD j true) := List.countP_pos_iff.2 ⟨j, List.mem_range.2 hj, by simp only [hg]; rfl⟩
          omega
      refine ⟨?_, done listed a w (fun j hj => ?_) hsat⟩
      · apply List.eq_nil_iff_forall_not_mem.2
        intro j hj
        obtain ⟨h1, o, ho, _⟩ := mem_ready.1 hj
        rw [hall j (Array.getElem?_eq_some_iff.1 ho).1] at h1; cases h1
      · have := hall j hj
        have hjs : j < listed.size := by omega
        simp [hjs] at this ⊢; exact this
    | succ fuel ih =>
      intro listed a w hsz hcl hcnt hsat
      refine ⟨fun hnil => done listed a w (fun j hj => ?_) hsat, fun i hi => ?_⟩
      · induction j using Nat.strongRecOn with
        | _ j ihj =>
          cases hg : listed.getD j false with
          | true => rfl
          | false =>
            obtain ⟨o, ho⟩ : ∃ o, all[j]? = some o := ⟨all[j], Array.getElem?_eq_getElem hj⟩
            have : j ∈ Region.ready .any all listed := mem_ready.2 ⟨getD_in (by omega) hg, o, ho, fun e he hb => ihj e.on (hdown j o ho e he hb) (by have := hdown j o ho e he hb; omega)⟩
            rw [hnil] at this; cases this
      · obtain ⟨hun, o, ho, hed⟩ := mem_ready.1 hi
        have hin : i < all.size := (Array.getElem?_eq_some_iff.1 ho).1
        have hi0 : listed.getD i false = false := getD_both hun
        obtain ⟨e, he⟩ : ∃ e, es[i]? = some e := ⟨es[i]'(by omega), List.getElem?_eq_getElem (by omega)⟩
        obtain ⟨o', ho', hcase⟩ := hat i e he
        rw [ho] at ho'; cases ho'
        have hafter : ∀ k, depB all 3 i k = true → listed.getD k false = true := fun k hk => depB_spec (L := fun j => listed.getD j false) hcl 3 i k o ho hed hk
        have hlate : ∀ k, i < k → k < all.size → depB all 3 k i = true → listed.getD k false = false := by
          intro k hik hk hd
          cases hg : listed.getD k false with
          | false => rfl
          | true =>
            obtain ⟨ok, hok⟩ : ∃ o, all[k]? = some o := ⟨all[k], Array.getElem?_eq_getElem hk⟩
            have := depB_spec (L := fun j => listed.getD j false) hcl 3 k i ok hok (hcl k ok hok hg) hd
            simp only [hi0, Bool.false_eq_true] at this
        have hdi : dsts all i = o.dst := by simp [dsts, ho]
        have hli : looks all i = o.looksAt all := by simp [looks, ho]
        have hTlen := (tD_text (all := all) s es i (by omega)).1
        have hslotT : ∀ t, t ∈ o.looksAt all → t < s.T.length → tD all s es (fun j => listed.getD j false) all.size t = lget (sAt all 0 s es i).T t := by
          intro t ht htl
          rw [(tD_text (all := all) s es i (by omega)).2 t htl]
          refine tD_at s es _ t i (fun k hk hd => hafter k (hslot k i hk hin ?_)) (fun k hk hd => ?_) all.size (by omega)
          · simp [slotConf, hd, hli, ht]
          · rcases Nat.eq_or_lt_of_le hk with rfl | hk
            · exact hi0
            · refine hlate k hk (hdst k t hd) (hslot i k hk (hdst k t hd) ?_)
              simp [slotConf, hd, hli, ht]
        have his : i < listed.size := by omega
        have hset : (listed.setIfInBounds i true).getD i false = true := by simp [his]
        have hset2 : (listed.setIfInBounds i true).getD i true = true := by simp [his]
        have hheapB : ∀ b, (b ∈ e.rd ∨ ∃ blk, e.wr = some (b, blk)) → hD s es (fun j => listed.getD j false) all.size b = hget (sAt all 0 s es i).H b := by
          intro b hb
          rw [hD_text s es i (by omega) b]
          refine hD_at s es _ b i (fun k f blk hk hf hw => hafter k (hheap k i f e hk hin hf he ?_)) (fun k f blk hk hf hw => ?_) all.size (by omega)
          · simp only [heapConf, hw]
            rcases hb with hb | ⟨blk', hb⟩
            · simp [hb]
            · simp [hb]
          · have hkn : k < all.size := by have := (List.getElem?_eq_some_iff.1 hf).1; omega
            rcases Nat.eq_or_lt_of_le hk with rfl | hk
            · exact hi0
            · refine hlate k hk hkn (hheap i k e f hk hkn he hf ?_)
              simp only [heapConf, hw]
              rcases hb with hb | ⟨blk', hb⟩
              · simp [hb]
              · simp [hb]
        obtain ⟨m, hsat⟩ := hsat
        have hnextT : ∀ t, t < s.T.length → tD all s es (fun j => (listed.setIfInBounds i true).getD j false) all.size t = if o.dst = some t then e.val else tD all s es (fun j => listed.getD j false) all.size t := by
          intro t _
          have hadd := tD_add (all := all) s es (fun j => listed.getD j false) (fun j => (listed.setIfInBounds i true).getD j false) i e he (fun k hk => getD_set_ne false (Ne.symm hk)) hset hi0 t (fun hd k hk hdk => hlate k hk (hdst k t hdk) (hslot i k hk (hdst k t hdk) (by simp [slotConf, hd, hdk]))) all.size
          rw [hadd, hdi]
          simp [hin]
        have hnextH : hD s es (fun j => (listed.setIfInBounds i true).getD j false) all.size = updo (hD s es (fun j => listed.getD j false) all.size) e.wr := by
          refine hD_add s es (fun j => listed.getD j false) _ i e he (fun k hk => getD_set_ne false (Ne.symm hk)) hset hi0 (fun b blk hb k f blk' hk hf hw => ?_) all.size hin
          have hkn : k < all.size := by have := (List.getElem?_eq_some_iff.1 hf).1; omega
          exact hlate k hk hkn (hheap i k e f hk hkn he hf (by simp [heapConf, hb, hw]))
        have hgo : ∀ (v : Value) (w' : World) (m' : Nat → Option Loc), Good w0 (updo (hD s es (fun j => listed.getD j false) all.size) e.wr) m' w' → Ext (hD s es (fun j => listed.getD j false) all.size) m w (updo (hD s es (fun j => listed.getD j false) all.size) e.wr) m' w' →
            Rep (updo (hD s es (fun j => listed.getD j false) all.size) e.wr) m' w' e.val v → wpAnyIn (FW r) 0 P .any all Q fuel (listed.setIfInBounds i true) (a.put o.dst v) w' := by
          intro v w' m' g1 e1 r1
          refine ih _ _ _ (by simp [hsz]) (fun j oj hj hlj e' he' hb' => ?_) ?_ ⟨m', ?_⟩
          · by_cases hij : i = j
            · subst hij
              rw [ho] at hj; cases hj
              exact getD_set_true (hed e' he' hb')
            · rw [getD_set_ne false hij] at hlj
              exact getD_set_true (hcl j oj hj hlj e' he' hb')
          · have := countP_lt (p := fun j => !listed.getD j true) (q := fun j => !(listed.setIfInBounds i true).getD j true) (i := i) (List.range all.size) (List.mem_range.2 hin) (fun j hj => ?_) (by simp only [hun]; rfl) (by simp only [hset2]; rfl)
            · omega
            · by_cases hij : i = j
              · subst hij; simp only [hun]; rfl
              · rw [getD_set_ne true hij] at hj; exact hj
          · rw [hnextH]
            exact hsat.put g1 e1 r1 (fun j hj => hnextT j hj)
        unfold wpOpIn
        simp only [ho]
        have hwant : ∀ b, guardOf all (sAt all 0 s es i).T o = some b → Region.wanted o (yielded all a.tmps) = b := fun b hb =>
          guard_wanted hsat hTlen hb (fun j want d hgd hd hdl => hslotT d (by simp [Oper.looksAt, hgd, hd]) hdl)
        rcases hcase with ⟨hgd, hok⟩ | ⟨hgd, rfl⟩
        · rw [hwant true hgd, if_pos rfl]
          refine hok _ m w a _ Q (fun b hb => hheapB b (.inl hb)) (fun b blk hb => hheapB b (.inr ⟨blk, hb⟩)) hsat.good (fun x hx => hsat.eval _ hTlen x (fun t ht htl => hslotT t ?_ htl)) hgo
          subst ht
          simp only [Oper.looksAt, List.mem_append, List.mem_filterMap]
          exact .inl ⟨.tmp t, by simpa using hx, rfl⟩
        · rw [hwant false hgd, if_neg (by simp)]
          exact ⟨fun _ _ => trivial, hgo undef w m hsat.good (Ext.refl _ _ _) rep_undef⟩
  obtain ⟨m, hs⟩ := hs
  refine key all.size _ a _ (by simp) (fun j o _ hj => by rw [getD_replicate_false] at hj; cases hj) ?_ ⟨m, ?_⟩
  · exact Nat.le_trans List.countP_le_length (by simp)
  · have hf : (fun j => (Array.replicate all.size false).getD j false) = fun _ => false := funext fun j => getD_replicate_false _ _
    rw [hf, hD_none]
    have ht : tD all s es (fun _ => false) all.size = lget s.T := funext fun t => tD_none s es t _
    rw [ht]
    obtain ⟨g1, e1⟩ := hs.good.garbage (below_drew w)
    exact ⟨g1, hs.size, fun j hj => let ⟨v, hv, hr⟩ := hs.tmps j hj; ⟨v, hv, hr.ext e1⟩, fun p hp => (hs.roots p hp).ext e1, hs.marks⟩

end
end Go.Am
