/- The abstract machine Am, part Q: the contract of a function from its body. -/
import Derived.Test.YtnjommobapmgbaaAmP
namespace Go.Am
open Go.RowKit

def subL : List AV → List AV → Prop
  | [], [] => True
  | x :: xs, y :: ys => avSub x y ∧ y ≠ .junk ∧ subL xs ys
  | [], _ :: _ => False
  | _ :: _, [] => False

/-- The second result says no more than the first. -/
def resSub (x y : AV) : Prop :=
  match x, y with
  | .tup xs, .tup ys => subL xs ys
  | .agg xs, .agg ys => subL xs ys
  | x, y => avSub x y ∧ y ≠ .junk

theorem prep_sub {ok : Nat → Prop} {w : World} {x y : AV} {v : Value} (r : PRep ok w x v) (hs : avSub x y) (hj : y ≠ .junk) : PRep ok w y v := by
  cases y
  case junk => exact absurd rfl hj
  case psl f n ys =>
    rcases hs with rfl | ⟨rfl, rfl⟩ | ⟨rfl, rfl, rfl⟩
    · exact r
    · cases r with
      | psle h1 h2 h3 => exact .psle h1 (by simp) h3
      | psl vs h1 h2 hok hc hr => exact .psl vs h1 (by simp) hok hc hr
    · cases r; exact .psle (Nat.le_refl _) (fun _ => rfl) (fun _ => rfl)
  all_goals (have hs' : x = _ := hs; rw [← hs']; exact r)

theorem subL_spec : ∀ {xs ys : List AV}, subL xs ys → ys.length = xs.length ∧ ∀ j (a : j < xs.length) (b : j < ys.length), avSub xs[j] ys[j] ∧ ys[j] ≠ .junk
  | [], [], _ => ⟨rfl, fun j a => by simp at a⟩
  | x :: xs, y :: ys, h => by
    obtain ⟨h1, h2, h3⟩ := h
    obtain ⟨h4, h5⟩ := subL_spec h3
    refine ⟨by simp [h4], fun j a b => ?_⟩
    cases j with
    | zero => exact ⟨h1, h2⟩
    | succ j => exact h5 j (by simpa using a) (by simpa using b)
  | [], _ :: _, h => h.elim
  | _ :: _, [], h => h.elim

theorem prep_resSub {ok : Nat → Prop} {w : World} {x y : AV} {v : Value} (r : PRep ok w x v) (hs : resSub x y) : PRep ok w y v := by
  cases r
  case tup xs us h1 r1 =>
    cases y <;> simp only [resSub] at hs
    case tup ys =>
      obtain ⟨h2, h3⟩ := subL_spec hs
      exact .tup us (by omega) (fun j a b => prep_sub (r1 j (by omega) b) (h3 j (by omega) a).1 (h3 j (by omega) a).2)
    all_goals exact prep_sub (.tup us h1 r1) hs.1 hs.2
  case agg xs us h1 ho r1 =>
    cases y <;> simp only [resSub] at hs
    case agg ys =>
      obtain ⟨h2, h3⟩ := subL_spec hs
      exact .agg us (by omega) ho (fun j a b => prep_sub (r1 j (by omega) b) (h3 j (by omega) a).1 (h3 j (by omega) a).2)
    all_goals exact prep_sub (.agg us h1 ho r1) hs.1 hs.2
  all_goals (first
    | exact prep_sub (.int _ _) hs.1 hs.2 | exact prep_sub (.bool _) hs.1 hs.2 | exact prep_sub (.str _) hs.1 hs.2
    | exact prep_sub .nilp hs.1 hs.2 | exact prep_sub .nils hs.1 hs.2 | exact prep_sub .nilm hs.1 hs.2 | exact prep_sub .nilf hs.1 hs.2
    | exact prep_sub (.psle ‹_› ‹_› ‹_›) hs.1 hs.2
    | exact prep_sub (.psl _ ‹_› ‹_› ‹_› ‹_› ‹_›) hs.1 hs.2
    | exact prep_sub (.pptr _ ‹_› ‹_› ‹_›) hs.1 hs.2
    | exact prep_sub (.fn _ _ ‹_› ‹_› ‹_› ‹_› ‹_›) hs.1 hs.2)

def junks : Nat → List AV
  | 0 => []
  | n + 1 => .junk :: junks n

/-- The state at a function's head. -/
def initT (args : List AV) (n : Nat) : List AV := args ++ junks (n - args.length)

theorem lget_append {xs ys : List AV} (j : Nat) : lget (xs ++ ys) j = if h : j < xs.length then xs[j] else lget ys (j - xs.length) := by
  induction xs generalizing j with
  | nil => simp
  | cons x xs ih =>
    cases j with
    | zero => simp [lget]
    | succ j => simp [lget, ih]

theorem lget_junks (n j : Nat) : lget (junks n) j = .junk := by
  induction n generalizing j with
  | zero => rfl
  | succ n ih => cases j with
    | zero => rfl
    | succ j => exact ih j

theorem junks_length (n : Nat) : (junks n).length = n := by
  induction n with
  | zero => rfl
  | succ n ih => simp [junks, ih]

/-- **A FUNCTION's CONTRACT, FROM ITS BODY.** -/
theorem callS_of_awp {P : Program} {f : FuncId} {fn : Func} {c : Code} {args : List AV} {r : AV} (he : Enters P f) (hf : P.funcs[f]? = some fn) (hb : fn.body = some c)
    (h : ∀ [Base] (w0 : World), AWP P w0 none [] c ⟨initT args fn.ntmps, [], []⟩ (retQ P fn.results.toList (fun y => resSub y r))) : CallS P f args r := by
  refine ⟨he, fun w vs ok hok hlen hrep => ?_⟩
  letI : Base := ⟨fun c => ok c ∨ w.heap.size ≤ c⟩
  refine callsIn_of_wp_marks hf hb trivial ?_
  have hsat : Sat w [] ⟨initT args fn.ntmps, [], []⟩ { tmps := vs.toArray ++ Array.replicate (fn.ntmps - vs.toArray.size) undef, defers := [] } w := by
    refine ⟨fun _ => none, ⟨⟨Below.refl _ _, by simp, by simp, by simp, fun b k hk => by simp [hget] at hk, fun b st pend fn T ps asg body d hk => by simp [hget] at hk, fun c hc => .inr hc⟩, ?_, fun j hj => ?_, by simp, [], rfl, fun j a => by simp at a, rfl⟩⟩
    · simp [initT, junks_length, hlen]
    · simp only [initT, List.length_append, junks_length] at hj
      rw [initT, lget_append]
      by_cases hj' : j < args.length
      · refine ⟨vs[j], ?_, ?_⟩
        · rw [Array.getElem?_append_left (by simpa using (by omega : j < vs.length))]; simp
        · rw [dif_pos hj']
          exact .pure ((hrep j hj' (by omega)).mono (fun _ _ => rfl) (fun c hc => ⟨hok c hc, by simp, .inl hc⟩))
      · refine ⟨undef, ?_, ?_⟩
        · rw [Array.getElem?_append_right (by simpa using (by omega : vs.length ≤ j))]
          rw [Array.getElem?_replicate, if_pos (by simp; omega)]
        · rw [dif_neg hj', lget_junks]; exact .junk _
  refine wpIn_mono (h w _ w hsat) ?_
  rintro e a' w' ⟨s', hq, hs'⟩
  have key : shut P s'.D s' (fun s => resK P s fn.results.toList fun xs => outs (hget s.H) xs fun ys => resSub (finAV ys) r) →
      LeavesInM (FW none) 0 P fn a'.tmps (fun e w' => ∃ v, e = .returned v ∧ PRep (fun c => ok c ∨ (w.heap.size ≤ c ∧ c < w'.heap.size)) w' r v ∧ Below w.heap.size w w') a'.defers .returning w' := by
    intro hk
    refine leaves_sound (R := fun y => resSub y r) s'.D s' a' w' rfl hk hs' (fun y v w'' hy hp hbel => ⟨v, rfl, (prep_resSub hp hy).mono (fun _ _ => rfl) (fun c hc => ?_), hbel⟩)
    rcases hc with ⟨h1 | h1, h2⟩
    · exact .inl h1
    · exact .inr ⟨h1, h2⟩
  cases e with
  | normal => exact key hq
  | ret => exact key hq
  | exit id => exact hq.elim
  | goto l => exact hq.elim
  | panic c => exact hq.elim
  | outgrown => exact hq.elim

end Go.Am
