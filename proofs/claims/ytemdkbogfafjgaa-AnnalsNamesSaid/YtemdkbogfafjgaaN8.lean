/- Parts UeC, UfS, UgS, UiD, UhS of the proof, one behind the other. No statement is proved here. -/
import Derived.Test.YtemdkbogfafjgaaN5
import Derived.Test.YtemdkbogfafjgaaN7
import Derived.Test.YtemdkbogfafjgaaN4
set_option linter.unusedVariables false -- all
set_option linter.unusedSimpArgs false
namespace Go.Am
open Go.RowKit Go.Proofs
attribute [local irreducible] AWP zO Kt goK CallK zT zR SemF SemY Imp
set_option maxRecDepth 4000
set_option linter.unusedSimpArgs false
set_option linter.unusedVariables false
set_option maxHeartbeats 1600000
structure SuP where
 a : Int
 b : Int
def suIn (t : Ann) (p : SuP) : Prop := (0 ≤ p.a ∧ p.a < t.reports.length) ∧ (0 ≤ p.b ∧ p.b < t.reports.length)
def suOK (p : SuP) (v : Bool × Bool) : Prop := True
def suS (p : SuP) (v : Bool × Bool) (pl dy : List Int) : (Bool × Bool) × Bool :=
 if pl.getD p.a.toNat 0 = pl.getD p.b.toNat 0 then ((true, v.2), !v.2) else ((v.1, true), !v.1)
theorem su_ok (t : Ann) (p : SuP) : ∀ (v : Bool × Bool) (pl dy : List Int), suOK p v → PDOK pl dy → suOK p (suS p v pl dy).1 := fun _ _ _ _ _ => trivial
theorem su_c (t : Ann) (p : SuP) (v : Bool × Bool) (pl dy : List Int) (K : List (Key × Bool)) (ht : AnnOK t) (hp : suIn t p) (hv : suOK p v) (hd : PDOK pl dy) :
 SemF Try.prog 64 [.ptr 4 0 0, .ptr 0 0 0, .ptr 1 0 0, .ptr 2 0 0, .ptr 3 0 0] [some (.cells 3 1 0 [.int .i64 p.a]), some (.cells 3 1 0 [.int .i64 p.b]), some (.cells 4 1 0 [.bool v.1]), some (.cells 4 1 0 [.bool v.2]), some (.cells 115 1 0 (seG t 5 pl dy)), some (.map (kmC K))] (.bool (suS p v pl dy).2)
  [some (.cells 3 1 0 [.int .i64 p.a]), some (.cells 3 1 0 [.int .i64 p.b]), some (.cells 4 1 0 [.bool (suS p v pl dy).1.1]), some (.cells 4 1 0 [.bool (suS p v pl dy).1.2]), some (.cells 115 1 0 (seG t 5 pl dy)), some (.map (kmC K))] := by
 have hr := ht.reports
 have h1 := hd.lpl
 have h2 := hd.ldy
 obtain ⟨a, b⟩ := p
 obtain ⟨⟨a0, a1⟩, b0, b1⟩ := hp
 simp only at a0 a1 b0 b1
 obtain ⟨i, rfl⟩ := Int.eq_ofNat_of_zero_le a0
 obtain ⟨j, rfl⟩ := Int.eq_ofNat_of_zero_le b0
 obtain ⟨sm, ap⟩ := v
 have hi := fun x y z u K => se_pl (x := x) (y := y) (z := z) (u := u) (S := pl) (F := dy) (i := i) (K := K) (by omega)
 have hj := fun x y z u K => se_pl (x := x) (y := y) (z := z) (u := u) (S := pl) (F := dy) (i := j) (K := K) (by omega)
 unfold suS
 simp only [Int.toNat_natCast]
 by_cases he : pl.getD i 0 = pl.getD j 0
 ·simp only [he, if_true]
  simp only [seG, slR, slC]
  (refine zH (ys := [.bool (!ap)]) (fun w args => Try.call64 ..) Try.func64 rfl (fun w0 m0 wz => ?_); simp only [Try.ntmps64, Try.results64, zN, zP, zU, zV, slR, slC, zL, sl, List.toList_toArray, List.cons_append, List.nil_append, List.length_cons, List.length_nil, Nat.reduceAdd, Nat.reduceSub])
  (repeat' (first
 | ((omega))
 | ((exfalso; omega))
 | refine zC ?_
 | refine kt ?_
 | refine And.intro ?_ ?_
 | ((first | refine awp_stp rfl ?_ | refine awp_draw (by kernel_rfl) (by kernel_rfl) ?_ | refine Imp.le2 ?_ | refine go_split (fun _h => ?_) (fun _h => ?_)) <;> try simp (maxSteps := 4000000) only [go_sem, seval, hi, hj, he, decide_true])
 | intro _h
 | refine zA ?_
 | refine zB ?_
 | refine zF ?_ ?_
 | (show zE _ _ = true; kernel_rfl)
 | (show zD _ _ = true; kernel_rfl)
 | (omega)))
  all_goals (rw [_h]; rfl)
 ·simp only [he, if_false]
  simp only [seG, slR, slC]
  (refine zH (ys := [.bool (!sm)]) (fun w args => Try.call64 ..) Try.func64 rfl (fun w0 m0 wz => ?_); simp only [Try.ntmps64, Try.results64, zN, zP, zU, zV, slR, slC, zL, sl, List.toList_toArray, List.cons_append, List.nil_append, List.length_cons, List.length_nil, Nat.reduceAdd, Nat.reduceSub])
  (repeat' (first
 | ((omega))
 | ((exfalso; omega))
 | refine zC ?_
 | refine kt ?_
 | refine And.intro ?_ ?_
 | ((first | refine awp_stp rfl ?_ | refine awp_draw (by kernel_rfl) (by kernel_rfl) ?_ | refine Imp.le2 ?_ | refine go_split (fun _h => ?_) (fun _h => ?_)) <;> try simp (maxSteps := 4000000) only [go_sem, seval, hi, hj, he, decide_false])
 | intro _h
 | refine zA ?_
 | refine zB ?_
 | refine zF ?_ ?_
 | (show zE _ _ = true; kernel_rfl)
 | (show zD _ _ = true; kernel_rfl)
 | (omega)))
  all_goals (rw [_h]; rfl)
end Go.Am
namespace Go.Am
open Go.RowKit Go.Proofs
attribute [local irreducible] AWP zO Kt goK CallK zT zR SemF SemY Imp
set_option maxRecDepth 4000
set_option linter.unusedSimpArgs false
set_option linter.unusedVariables false
set_option maxHeartbeats 6400000
def heS (t : Ann) (p : SuP) (a : EA (Bool × Bool)) : List (Option ABlk) :=
 [some (.cells 3 1 0 [.int .i64 p.a]), some (.cells 3 1 0 [.int .i64 p.b]), some (.cells 4 1 0 [.bool a.v.1]), some (.cells 4 1 0 [.bool a.v.2])] ++ [some (.cells 35 1 0 (zL t)), some (.cells 105 1 0 [.fn (.func 64) [] [.ptr 0 0 0, .ptr 1 0 0, .ptr 2 0 0, .ptr 3 0 0]]), some (.map (kmC a.K)), some (.cells 115 1 0 (seG t 6 a.pl a.dy)), some (.cells 99 1 0 [.ptr 7 0 0]), some (.cells 131 1 0 [.fn (.func 85) [.ptr 7 0 0] []]), some (.cells 132 1 0 [.fn (.func 86) [] [.ptr 5 0 0, .ptr 8 0 0, .ptr 4 0 0, .ptr 9 0 0, .ptr 10 0 0]])]
def ehS (t : Ann) (p : SuP) (s : Ste) (place : Int) (fd : Bool) (a : EA (Bool × Bool)) : List (Option ABlk) :=
 heS t p a ++ [some (.cells 136 1 0 (stC s)), some (.cells 3 1 0 [.int .i64 place]), some (.cells 4 1 0 [.bool fd]), some (.cells 4 1 0 [.bool false]), some (.cells 35 1 0 (zL t)), some (.cells 136 1 0 (stC s))]
def etS : List AV := mkT 88 [(2, .ptr 5 0 0), (3, .ptr 8 0 0), (4, .ptr 4 0 0), (5, .ptr 9 0 0), (6, .ptr 10 0 0), (7, .ptr 11 0 0), (8, .ptr 12 0 0), (9, .ptr 13 0 0), (10, .ptr 14 0 0), (31, .fn (.func 107) [] [.ptr 16 0 0, .ptr 15 0 0])]
theorem eachS_c (t : Ann) (p : SuP) (ht : AnnOK t) (hV : suIn t p) : ∀ (f : Nat) (s : Ste) (place : Int) (a : EA (Bool × Bool)), SteOK t s → s.rest < f → 0 ≤ place → place + s.rest ≤ 1000 → EAOK (suOK p) a → 
 SemF Try.prog 86 [.agg (stC s), .int .i64 place, .ptr 5 0 0, .ptr 8 0 0, .ptr 4 0 0, .ptr 9 0 0, .ptr 10 0 0] (heS t p a) (.tup [.bool (eachM t (suS p) f s place a).1.1, .bool (eachM t (suS p) f s place a).1.2]) (heS t p (eachM t (suS p) f s place a).2) := by
 intro f
 induction f with
 | zero => intro s place a _ h; omega
 | succ f ih =>
   intro s place a hs hf hp0 hp ha
   have hok := eachM_ok (step := (suS p)) ht (su_ok t p) (f + 1) s place a hs hp0 hp ha
   have hr := ht.reports
   by_cases h0 : s.rest = 0
   ·have e : eachM t (suS p) (f + 1) s place a = ((true, ((suS p) a.v a.pl a.dy).2), { a with v := ((suS p) a.v a.pl a.dy).1 }) := by simp only [eachM]; rw [if_pos h0]
    rw [e]
    have hv := su_c t p a.v a.pl a.dy a.K ht hV ha.1 ha.2
    have e0 : ((s.rest : Int) = 0) = True := eq_true (by omega)
    generalize (suS p) a.v a.pl a.dy = R at *
    obtain ⟨v2, more⟩ := R
    simp only [heS, seG, stC, zL, slR, slC, List.cons_append, List.nil_append] at hv ⊢
    (refine zH (ys := [.bool true, .bool more]) (fun w args => Try.call86 ..) Try.func86 rfl (fun w0 m0 wz => ?_); simp only [Try.ntmps86, Try.results86, zN, zP, zU, zV, slR, slC, zL, sl, List.toList_toArray, List.cons_append, List.nil_append, List.length_cons, List.length_nil, Nat.reduceAdd, Nat.reduceSub])
    (repeat' (first
 | (refine zJ 2 rfl ?_; simp (maxSteps := 4000000) only [go_sem, seval, List.take_succ_cons, List.take_zero, e0, decide_true]; (repeat refine And.intro (by omega) ?_); refine zQ (hv) [0, 1, 2, 3, 7, 6] rfl ?_ ?_ rfl ?_ <;> try simp (maxSteps := 4000000) only [go_sem, seval, Nat.lt_irrefl, e0, decide_true] <;> try decide)
 | refine zC ?_
 | refine kt ?_
 | refine And.intro ?_ ?_
 | ((first | refine awp_stp rfl ?_ | refine awp_draw (by kernel_rfl) (by kernel_rfl) ?_ | refine Imp.le2 ?_ | refine go_split (fun _h => ?_) (fun _h => ?_)) <;> try simp (maxSteps := 4000000) only [go_sem, seval, e0, decide_true])
 | intro _h
 | refine zA ?_
 | refine zB ?_
 | refine zF ?_ ?_
 | (show zE _ _ = true; kernel_rfl)
 | (show zD _ _ = true; kernel_rfl)
 | (omega)))
    all_goals trace_state
   ·have e0 : ((s.rest : Int) = 0) = False := eq_false (by omega)
    have h256 : s.rest < 256 := Nat.lt_of_lt_of_le hs.rest (show 2 ^ t.reports.length ≤ 2 ^ 8 from Nat.pow_le_pow_right (by omega) (by omega))
    have hst := stt_win hs.sl hs.fl
    have hsn := stt_len hs.sl hs.fl
    have hks : getS a.K s = gmGet a.K ⟨s, hs.sl, hs.fl⟩ := by unfold getS; rw [dif_pos ⟨hs.sl, hs.fl⟩]
    by_cases hlost : getS a.K s = some true
    ·have e : eachM t (suS p) (f + 1) s place a = ((false, true), a) := by simp only [eachM]; rw [if_neg h0, if_pos hlost]
     rw [e]
     have hmg := fun z (f : AV → Bool → Prop) => mget_ks (z := z) (f := f) (hks ▸ hlost)
     simp only [keyV, stC] at hmg
     have hkey := fun (a d : Int) => keyS (a := a) (d := d) hs.sl hs.fl
     simp only [heS, seG, stC, zL, slR, slC, List.cons_append, List.nil_append]
     (refine zH (ys := [.bool false, .bool true]) (fun w args => Try.call86 ..) Try.func86 rfl (fun w0 m0 wz => ?_); simp only [Try.ntmps86, Try.results86, zN, zP, zU, zV, slR, slC, zL, sl, List.toList_toArray, List.cons_append, List.nil_append, List.length_cons, List.length_nil, Nat.reduceAdd, Nat.reduceSub])
     (repeat' (first
 | ((show zeroOK _ = true; rfl))
 | ((exact hkey _ _))
 | ((exact absurd ‹true = false› (by simp)))
 | refine zC ?_
 | refine kt ?_
 | refine And.intro ?_ ?_
 | ((first | refine awp_stp rfl ?_ | refine awp_draw3 (by kernel_rfl) (by kernel_rfl) ?_ | refine Imp.le2 ?_ | refine go_split (fun _h => ?_) (fun _h => ?_)) <;> try simp (maxSteps := 4000000) only [go_sem, seval, e0, decide_false, hmg, hst, hsn])
 | intro _h
 | refine zA ?_
 | refine zB ?_
 | refine zF ?_ ?_
 | (show heapOK3 _ _ _ = true; kernel_rfl)
 | (show zE _ _ = true; kernel_rfl)
 | (show zD _ _ = true; kernel_rfl)
 | (omega)))
     all_goals (exact absurd _h (by simp))
    ·obtain ⟨b, hmg⟩ : ∃ b : Bool, ∀ (f : AV → Bool → Prop), mgetK (kmC a.K) (keyV ⟨s, hs.sl, hs.fl⟩) (.bool false) f = f (.bool false) b := by
      rw [hks] at hlost
      cases hg : gmGet a.K ⟨s, hs.sl, hs.fl⟩ with
      | none => exact ⟨false, fun f => mget_kn hg⟩
      | some b =>
        cases b with
        | true => exact absurd hg hlost
        | false => exact ⟨true, fun f => mget_ks hg⟩
     have hnx := next_c t s
     have hkey := fun (a d : Int) => keyS (a := a) (d := d) hs.sl hs.fl
     have e : eachM t (suS p) (f + 1) s place a = endM s (goE (oneM t (eachM t (suS p) f) s place) (candN t s.rest s.rest) false a) := by simp only [eachM]; rw [if_neg h0, if_neg hlost]
     rw [e] at hok ⊢
     obtain ⟨⟨⟨fE, mE⟩, aE⟩, hE⟩ : ∃ r, goE (oneM t (eachM t (suS p) f) s place) (candN t s.rest s.rest) false a = r := ⟨_, rfl⟩
     rw [hE] at hok ⊢
     simp only [keyV, stC] at hmg
     have hpE : PDOK aE.pl aE.dy := by
      unfold endM at hok
      split at hok
      ·exact hok.2
      ·exact hok.2
     clear e hok
     obtain ⟨st, pend, ex, hcase⟩ : ∃ (st : LoopState) (pend : Option Code) (ex : Exit), (mE = true ∧ st = .ready ∧ pend = none ∧ ex = .normal) ∨ (mE = false ∧ st = .done ∧ pend = some .ret ∧ ex = .ret) := by
      cases mE
      ·exact ⟨.done, some .ret, .ret, .inr ⟨rfl, rfl, rfl, rfl⟩⟩
      ·exact ⟨.ready, none, .normal, .inl ⟨rfl, rfl, rfl, rfl⟩⟩
     have e1 : (endM s ((fE, mE), aE)).1.1 = fE := by unfold endM; cases mE <;> rfl
     have e2 : (endM s ((fE, mE), aE)).1.2 = mE := by unfold endM; cases mE <;> rfl
     rw [e1, e2]
     simp only [heS, seG, stC, zL, slR, slC, List.cons_append, List.nil_append] at hnx ⊢
     (refine zH (ys := [.bool fE, .bool mE]) (fun w args => Try.call86 ..) Try.func86 rfl (fun w0 m0 wz => ?_); simp only [Try.ntmps86, Try.results86, zN, zP, zU, zV, slR, slC, zL, sl, List.toList_toArray, List.cons_append, List.nil_append, List.length_cons, List.length_nil, Nat.reduceAdd, Nat.reduceSub])
     (repeat' (first
 | ((show zeroOK _ = true; rfl))
 | ((exact hkey _ _))
 | (refine zJ 2 rfl ?_; simp (maxSteps := 4000000) only [go_sem, seval, List.take_succ_cons, List.take_zero, e0, decide_false, hmg, hst, hsn]; (repeat refine And.intro (by omega) ?_); refine zQ (hnx) [] rfl ?_ ?_ ?_ ?_ <;> try simp (maxSteps := 4000000) only [go_sem, seval, Nat.lt_irrefl, e0, decide_false, hmg, hst, hsn] <;> try decide)
 | refine zC ?_
 | refine kt ?_
 | refine And.intro ?_ ?_
 | ((first | refine awp_stp rfl ?_ | refine awp_draw3 (by kernel_rfl) (by kernel_rfl) ?_ | refine Imp.le2 ?_ | refine go_split (fun _h => ?_) (fun _h => ?_)) <;> try simp (maxSteps := 4000000) only [go_sem, seval, e0, decide_false, hmg, hst, hsn])
 | intro _h
 | refine zA ?_
 | refine zB ?_
 | refine zF ?_ ?_
 | (show heapOK3 _ _ _ = true; kernel_rfl)
 | (show zE _ _ = true; kernel_rfl)
 | (show zD _ _ = true; kernel_rfl)
 | (omega)))
     try any_goals (exfalso; simp at _h; done)
     refine AWP.le2 (s' := ⟨etS, ehS t p s place false a, []⟩) (by simp only [etS, ehS, heS, seG, stC, zL, slR, slC, List.cons_append, List.nil_append]; simp (maxSteps := 4000000) only [go_sem, seval]) ?_
     refine awp_rangeZ (gf := 107) (first := []) (caps := [.ptr 16 0 0, .ptr 15 0 0]) (by simp only [etS]; simp (maxSteps := 4000000) only [go_sem, seval]) 17 rfl ?_
     intro ca cb hca hcb
     refine ⟨.tup [], ehS t p s place fE aE ++ [some (.dfr true), some (.loop st pend 0 etS #[32] ca cb 17)], st, pend, ex, ?_, ?_, ?_, ?_, ?_⟩
     ·simp only [etS, ehS, heS, seG, stC, zL, slR, slC, List.cons_append, List.nil_append]; simp (maxSteps := 4000000) only [go_sem, seval]
      (refine zH (ys := []) (fun w args => Try.call107 ..) Try.func107 rfl (fun w0 m0 wz => ?_); simp only [Try.ntmps107, Try.results107, zN, zP, zU, zV, slR, slC, zL, sl, List.toList_toArray, List.cons_append, List.nil_append, List.length_cons, List.length_nil, Nat.reduceAdd, Nat.reduceSub])
      (repeat' (first
 | refine zC ?_
 | refine kt ?_
 | refine And.intro ?_ ?_
 | ((first | refine awp_stp rfl ?_ | refine awp_draw (by kernel_rfl) (by kernel_rfl) ?_ | refine Imp.le2 ?_ | refine go_split (fun _h => ?_) (fun _h => ?_)) <;> try simp (maxSteps := 4000000) only [go_sem, seval])
 | intro _h
 | refine zA ?_
 | refine zB ?_
 | refine zF ?_ ?_
 | (show zE _ _ = true; kernel_rfl)
 | (show zD _ _ = true; kernel_rfl)
 | (omega)))
      refine awp_loopJ (fun x : Nat × Bool × EA (Bool × Bool) => x.1 &&& s.rest = x.1 ∧ EAOK (suOK p) x.2.2 ∧ goE (oneM t (eachM t (suS p) f) s place) (candN t s.rest x.1) x.2.1 x.2.2 = ((fE, mE), aE))
       (fun x => ⟨mkT 54 [(0, .fn (.yield 18) [] []), (1, .ptr 16 0 0), (2, .ptr 15 0 0), (4, .int .u8 (x.1 : Nat))], ehS t p s place x.2.1 x.2.2 ++ [some (.dfr true), some (.loop .ready none 0 etS #[32] ca cb 17)], []⟩) (fun x => x.1) (s.rest, false, a) ⟨Nat.and_self _, ha, hE⟩ (.le2 ?_) ?_
      ·simp only [etS, ehS, heS, seG, stC, zL, slR, slC, List.cons_append, List.nil_append]; simp (maxSteps := 4000000) only [go_sem, seval]
       try (first | rfl | exact ⟨rfl, rfl⟩)
      ·rintro ⟨x, fd, a1⟩ ⟨hx, ha1, hF⟩
       simp only at hx ha1 hF
       by_cases hx0 : x = 0
       ·subst hx0
        rw [candN_zero] at hF
        simp only [goE, Prod.mk.injEq] at hF
        obtain ⟨⟨h1, h2⟩, h3⟩ := hF
        subst h1 h2 h3
        rcases hcase with ⟨_, h2, h3, h4⟩ | ⟨h, _⟩
        ·subst h2 h3 h4
         simp only [etS, ehS, heS, seG, stC, zL, slR, slC, List.cons_append, List.nil_append]; simp (maxSteps := 4000000) only [go_sem, seval]
         (repeat' (first
 | ((exfalso; omega))
 | refine zC ?_
 | refine kt ?_
 | refine And.intro ?_ ?_
 | ((first | refine awp_stp rfl ?_ | refine awp_draw (by kernel_rfl) (by kernel_rfl) ?_ | refine Imp.le2 ?_ | refine go_split (fun _h => ?_) (fun _h => ?_)) <;> try simp (maxSteps := 4000000) only [go_sem, seval])
 | intro _h
 | refine zA ?_
 | refine zB ?_
 | refine zF ?_ ?_
 | (show zE _ _ = true; kernel_rfl)
 | (show zD _ _ = true; kernel_rfl)
 | (omega)))
         all_goals trace_state
        ·exact absurd h (by simp)
       ·rw [candN_step hx0] at hF
        have hxr : x ≤ s.rest := by
         have : x &&& s.rest ≤ s.rest := Nat.and_le_right
         rw [hx] at this; exact this
        have hxn : x < 2 ^ t.reports.length := by have := hs.rest; omega
        have hx8 : x < 256 := by omega
        have htz := tz_in hx0 hxn hr.2
        have htc := tz_c x hx8
        have hso : (t.reports.getD (tz x) default).slope = slopeO t x := rfl
        have e5 : IntKind.u8.wrap ((x : Int) - 1) = ((x - 1 : Nat) : Int) := sub_nat hx8 hx0
        have e6 : u8and ((x - 1 : Nat) : Int) (s.rest : Nat) = (((x - 1) &&& s.rest : Nat) : Int) := u8and_nat (by omega) h256
        have hax : (x - 1) &&& s.rest ≤ x - 1 := Nat.and_le_left
        have hxx : ((x - 1) &&& s.rest) &&& s.rest = (x - 1) &&& s.rest := by rw [Nat.and_assoc, Nat.and_self]
        simp only [etS, ehS, heS, seG, stC, zL, slR, slC, List.cons_append, List.nil_append]; simp (maxSteps := 4000000) only [go_sem, seval]
        (repeat' (first
 | ((exfalso; omega))
 | ((omega))
 | refine zC ?_
 | refine kt ?_
 | refine And.intro ?_ ?_
 | ((first | refine awp_stp rfl ?_ | refine awp_draw (by kernel_rfl) (by kernel_rfl) ?_ | refine Imp.le2 ?_ | refine callK_of (htc) ?_ | refine go_split (fun _h => ?_) (fun _h => ?_)) <;> try simp (maxSteps := 4000000) only [go_sem, seval, hso])
 | intro _h
 | refine zA ?_
 | refine zB ?_
 | refine zF ?_ ?_
 | (show zE _ _ = true; kernel_rfl)
 | (show zD _ _ = true; kernel_rfl)
 | (omega)))
        refine awp_loopN t.reports.length (fun i => ⟨mkT 54 [(0, .fn (.yield 18) [] []), (1, .ptr 16 0 0), (2, .ptr 15 0 0), (4, .int .u8 (x : Nat)), (5, .int .i64 (slopeO t x)), (6, .bool (sameK t x i)), (26, slR t.reports), (27, .int .i64 t.reports.length), (28, .int .i64 i)], ehS t p s place fd a1 ++ [some (.dfr true), some (.loop .ready none 0 etS #[32] ca cb 17)], []⟩) (.le2 ?_) ?_
        ·simp only [etS, ehS, heS, seG, stC, zL, slR, slC, List.cons_append, List.nil_append, sameK]; simp (maxSteps := 4000000) only [go_sem, seval]
         try (first | rfl | exact ⟨rfl, rfl⟩)
        ·intro i hi
         rcases Nat.lt_or_eq_of_le hi with hi1 | hi1
         ·have hin := inS_c x i hx8 (by omega)
          obtain ⟨q, hq⟩ : ∃ q, sameK t x i = q := ⟨_, rfl⟩
          obtain ⟨b, hb⟩ : ∃ b, x.testBit i = b := ⟨_, rfl⟩
          obtain ⟨z, hz⟩ : ∃ z, slopeO t x = z := ⟨_, rfl⟩
          have hss : sameK t x (i + 1) = (q && (!b || decide ((t.reports.getD i default).slope = z))) := by simp only [sameK, hq, hb, hz]
          rw [hss, hq, hz]
          rw [hb] at hin
          clear hss hq hz hb hF
          cases q
          ·simp only [etS, ehS, heS, seG, stC, zL, slR, slC, List.cons_append, List.nil_append, Bool.false_and]; simp (maxSteps := 4000000) only [go_sem, seval]
           (repeat' (first
 | ((exfalso; omega))
 | ((omega))
 | refine zC ?_
 | refine kt ?_
 | refine And.intro ?_ ?_
 | ((first | refine awp_stp rfl ?_ | refine awp_draw (by kernel_rfl) (by kernel_rfl) ?_ | refine Imp.le2 ?_ | refine go_split (fun _h => ?_) (fun _h => ?_)) <;> try simp (maxSteps := 4000000) only [go_sem, seval])
 | intro _h
 | refine zA ?_
 | refine zB ?_
 | refine zF ?_ ?_
 | (show zE _ _ = true; kernel_rfl)
 | (show zD _ _ = true; kernel_rfl)
 | (omega)))
           all_goals trace_state
          ·cases b
           ·simp only [etS, ehS, heS, seG, stC, zL, slR, slC, List.cons_append, List.nil_append, Bool.not_false, Bool.true_or, Bool.true_and]; simp (maxSteps := 4000000) only [go_sem, seval]
            (repeat' (first
 | ((exfalso; omega))
 | ((omega))
 | refine zC ?_
 | refine kt ?_
 | refine And.intro ?_ ?_
 | ((first | refine awp_stp rfl ?_ | refine awp_draw (by kernel_rfl) (by kernel_rfl) ?_ | refine Imp.le2 ?_ | refine callK_of (hin) ?_ | refine go_split (fun _h => ?_) (fun _h => ?_)) <;> try simp (maxSteps := 4000000) only [go_sem, seval])
 | intro _h
 | refine zA ?_
 | refine zB ?_
 | refine zF ?_ ?_
 | (show zE _ _ = true; kernel_rfl)
 | (show zD _ _ = true; kernel_rfl)
 | (omega)))
            all_goals trace_state
           ·by_cases hsl : (t.reports.getD i default).slope = z
            ·simp only [etS, ehS, heS, seG, stC, zL, slR, slC, List.cons_append, List.nil_append, Bool.not_true, Bool.false_or, Bool.true_and, hsl, decide_true]; simp (maxSteps := 4000000) only [go_sem, seval]
             (repeat' (first
 | ((exfalso; omega))
 | ((omega))
 | refine zC ?_
 | refine kt ?_
 | refine And.intro ?_ ?_
 | ((first | refine awp_stp rfl ?_ | refine awp_draw (by kernel_rfl) (by kernel_rfl) ?_ | refine Imp.le2 ?_ | refine callK_of (hin) ?_ | refine go_split (fun _h => ?_) (fun _h => ?_)) <;> try simp (maxSteps := 4000000) only [go_sem, seval, hsl, decide_true])
 | intro _h
 | refine zA ?_
 | refine zB ?_
 | refine zF ?_ ?_
 | (show zE _ _ = true; kernel_rfl)
 | (show zD _ _ = true; kernel_rfl)
 | (omega)))
             all_goals trace_state
            ·simp only [etS, ehS, heS, seG, stC, zL, slR, slC, List.cons_append, List.nil_append, Bool.not_true, Bool.false_or, Bool.true_and, hsl, decide_false]; simp (maxSteps := 4000000) only [go_sem, seval]
             (repeat' (first
 | ((exfalso; omega))
 | ((omega))
 | refine zC ?_
 | refine kt ?_
 | refine And.intro ?_ ?_
 | ((first | refine awp_stp rfl ?_ | refine awp_draw (by kernel_rfl) (by kernel_rfl) ?_ | refine Imp.le2 ?_ | refine callK_of (hin) ?_ | refine go_split (fun _h => ?_) (fun _h => ?_)) <;> try simp (maxSteps := 4000000) only [go_sem, seval, hsl, decide_false])
 | intro _h
 | refine zA ?_
 | refine zB ?_
 | refine zF ?_ ?_
 | (show zE _ _ = true; kernel_rfl)
 | (show zD _ _ = true; kernel_rfl)
 | (omega)))
             all_goals trace_state
         ·subst hi1
          cases hG : sameK t x t.reports.length with
          | false =>
            rw [hG, if_neg (by simp)] at hF
            simp only [etS, ehS, heS, seG, stC, zL, slR, slC, List.cons_append, List.nil_append]; simp (maxSteps := 4000000) only [go_sem, seval]
            (repeat' (first
 | ((exfalso; omega))
 | ((omega))
 | refine zC ?_
 | refine kt ?_
 | refine And.intro ?_ ?_
 | ((first | refine awp_stp rfl ?_ | refine awp_draw (by kernel_rfl) (by kernel_rfl) ?_ | refine Imp.le2 ?_ | refine go_split (fun _h => ?_) (fun _h => ?_)) <;> try simp (maxSteps := 4000000) only [go_sem, seval, e5, e6])
 | intro _h
 | refine zA ?_
 | refine zB ?_
 | refine zF ?_ ?_
 | (show zE _ _ = true; kernel_rfl)
 | (show zD _ _ = true; kernel_rfl)
 | (omega)))
            refine ⟨((x - 1) &&& s.rest, fd, a1), ⟨hxx, ha1, hF⟩, by simp only; omega, .le2 ?_⟩
            simp only [etS, ehS, heS, seG, stC, zL, slR, slC, List.cons_append, List.nil_append]; simp (maxSteps := 4000000) only [go_sem, seval]
            try (first | rfl | exact ⟨rfl, rfl⟩)
          | true =>
            rw [hG, if_pos rfl] at hF
            simp only [goE] at hF
            have hmay := may_c t s x a1.pl a1.dy a1.K ht hs hx0 hxn
            obtain ⟨hl1, hl2⟩ := mayS_len ht hs hx0 hxn
            have hst2 := stt_win hl1 hl2
            have hsn2 := stt_len hl1 hl2
            by_cases hm : (mayS t s x).2 = true
            ·obtain ⟨m1, m2, m3⟩ := mayS_ok ht hs hx0 hx hm
             have h1 : oneM t (eachM t (suS p) f) s place x a1 = eachM t (suS p) f (mayS t s x).1 (place + 1) (putE t x place (mayS t s x).1.day a1) := by unfold oneM; rw [if_pos hm]
             have hao : EAOK (suOK p) (putE t x place (mayS t s x).1.day a1) := ⟨ha1.1, ha1.2.put hr.2 ⟨hp0, by omega⟩ m3⟩
             have hih := ih (mayS t s x).1 (place + 1) (putE t x place (mayS t s x).1.day a1) m1 (by omega) (by omega) (by omega) hao
             have hok1 := eachM_ok (step := (suS p)) ht (su_ok t p) f (mayS t s x).1 (place + 1) (putE t x place (mayS t s x).1.day a1) m1 (by omega) (by omega) hao
             have hq1 := ha1.2.lpl
             have hq2 := ha1.2.ldy
             rw [h1] at hF
             rw [hm] at hmay
             clear h1 hao m1 hG
             generalize (mayS t s x).1 = to at *
             obtain ⟨⟨⟨he1, mo⟩, a2⟩, hr2⟩ : ∃ r, eachM t (suS p) f to (place + 1) (putE t x place to.day a1) = r := ⟨_, rfl⟩
             rw [hr2] at hih hF hok1
             simp only [etS, ehS, heS, seG, stC, zL, slR, slC, List.cons_append, List.nil_append, seC] at hmay
             simp only at hF hih hok1
             have hF0 := hF
             cases mo with
             | true =>
               rw [if_pos rfl] at hF
               simp only [etS, ehS, heS, seG, stC, zL, slR, slC, List.cons_append, List.nil_append]; simp (maxSteps := 4000000) only [go_sem, seval]
               (repeat' (first
 | ((exfalso; omega))
 | ((omega))
 | ((refine zJ (id := 10) 4 rfl ?_; simp (maxSteps := 4000000) only [go_sem, seval, List.take_succ_cons, List.take_zero]; refine callH_yield true (ehS t p s place (fd || he1) a2 ++ [some (.dfr true), some (.loop .ready none 0 etS #[32] ca cb 17)]) ?_ ?_ <;> simp only [etS, ehS, heS, seG, stC, zL, slR, slC, List.cons_append, List.nil_append] <;> (try simp (maxSteps := 4000000) only [go_sem, seval])))
 | refine zC ?_
 | refine kt ?_
 | refine And.intro ?_ ?_
 | ((first | refine awp_stp rfl ?_ | refine awp_draw (by kernel_rfl) (by kernel_rfl) ?_ | refine Imp.le2 ?_ | refine go_split (fun _h => ?_) (fun _h => ?_)) <;> try simp (maxSteps := 4000000) only [go_sem, seval, e5, e6])
 | intro _h
 | refine zA ?_
 | refine zB ?_
 | refine zF ?_ ?_
 | (show zE _ _ = true; kernel_rfl)
 | (show zD _ _ = true; kernel_rfl)
 | (omega)))
               ·refine semY_of_awpZ rfl rfl ?_
                intro B w0 l m w
                refine awp_code hca ?_
                (repeat' (first
 | refine zC ?_
 | refine kt ?_
 | refine And.intro ?_ ?_
 | ((first | refine awp_stp rfl ?_ | refine awp_draw (by kernel_rfl) (by kernel_rfl) ?_ | refine Imp.le2 ?_ | refine go_split (fun _h => ?_) (fun _h => ?_)) <;> try simp (maxSteps := 4000000) only [go_sem, seval])
 | intro _h
 | refine zA ?_
 | refine zB ?_
 | refine zF ?_ ?_
 | (show zE _ _ = true; kernel_rfl)
 | (show zD _ _ = true; kernel_rfl)
 | (omega)))
                refine awp_code hcb ?_
                (repeat' (first
 | (refine zJ 3 rfl ?_; simp (maxSteps := 4000000) only [go_sem, seval, List.take_succ_cons, List.take_zero, hst, hsn, hst2, hsn2]; (repeat refine And.intro (by omega) ?_); refine zQ (hmay) [7, 6] rfl ?_ ?_ ?_ ?_ <;> try simp (maxSteps := 4000000) only [go_sem, seval, Nat.lt_irrefl, hst, hsn, hst2, hsn2] <;> try decide)
 | refine zC ?_
 | refine kt ?_
 | refine And.intro ?_ ?_
 | ((first | refine awp_stp rfl ?_ | refine awp_draw (by kernel_rfl) (by kernel_rfl) ?_ | refine Imp.le2 ?_ | refine go_split (fun _h => ?_) (fun _h => ?_)) <;> try simp (maxSteps := 4000000) only [go_sem, seval, hst, hsn, hst2, hsn2])
 | intro _h
 | refine zA ?_
 | refine zB ?_
 | refine zF ?_ ?_
 | (show zE _ _ = true; kernel_rfl)
 | (show zD _ _ = true; kernel_rfl)
 | (omega)))
                refine awp_loopN t.reports.length (fun j => ⟨mkT 88 [(2, .ptr 5 0 0), (3, .ptr 8 0 0), (4, .ptr 4 0 0), (5, .ptr 9 0 0), (6, .ptr 10 0 0), (7, .ptr 11 0 0), (8, .ptr 12 0 0), (9, .ptr 13 0 0), (10, .ptr 14 0 0), (11, .int .u8 (x : Nat)), (12, .ptr 19 0 0), (44, .int .i64 t.reports.length), (45, .int .i64 j)], ehS t p s place fd ⟨a1.v, wrM x place j a1.pl, wrM x to.day j a1.dy, a1.K⟩ ++ [some (.dfr true), some (.loop .busy none 0 etS #[32] ca cb 17), some (.cells 136 1 0 (stC to))], []⟩) (.le2 ?_) ?_
                ·simp only [etS, ehS, heS, seG, stC, zL, slR, slC, List.cons_append, List.nil_append, wrM]; simp (maxSteps := 4000000) only [go_sem, seval]
                 try (first | rfl | exact ⟨rfl, rfl⟩)
                ·intro j hj
                 have hS1 := wrM_length (now := x) (x := place) (l := a1.pl) (k := j) (by rw [hq1]; omega)
                 have hF1 := wrM_length (now := x) (x := to.day) (l := a1.dy) (k := j) (by rw [hq2]; omega)
                 rw [hq1] at hS1
                 rw [hq2] at hF1
                 rcases Nat.lt_or_eq_of_le hj with hj1 | hj1
                 ·have hin := inS_c x j hx8 (by omega)
                  simp only [wrM]
                  generalize wrM x place j a1.pl = S1 at *
                  generalize wrM x to.day j a1.dy = F1 at *
                  have hss := fun x y z u v => ss_pl (x := x) (y := y) (z := z) (u := u) (S := S1) (F := F1) (i := j) (v := v) (by omega)
                  have hsd := fun x y z u v w => ss_dy (x := x) (y := y) (z := z) (u := u) (S := isp S1 j v) (F := F1) (i := j) (v := w) (by rw [isp_length (by omega)]; exact hS1) (by omega)
                  have hle1 := se_len hS1 hF1
                  have hle2 := fun v => se_len (S := isp S1 j v) (F := F1) (by rw [isp_length (by omega)]; exact hS1) hF1
                  generalize x.testBit j = b at *
                  cases b
                  ·simp only [etS, ehS, heS, seG, stC, zL, slR, slC, List.cons_append, List.nil_append, Bool.false_eq_true, if_false]; simp (maxSteps := 4000000) only [go_sem, seval]
                   (repeat' (first
 | ((exfalso; omega))
 | ((omega))
 | refine zC ?_
 | refine kt ?_
 | refine And.intro ?_ ?_
 | ((first | refine awp_stp rfl ?_ | refine awp_draw (by kernel_rfl) (by kernel_rfl) ?_ | refine Imp.le2 ?_ | refine callK_of (hin) ?_ | refine go_split (fun _h => ?_) (fun _h => ?_)) <;> try simp (maxSteps := 4000000) only [go_sem, seval])
 | intro _h
 | refine zA ?_
 | refine zB ?_
 | refine zF ?_ ?_
 | (show zE _ _ = true; kernel_rfl)
 | (show zD _ _ = true; kernel_rfl)
 | (omega)))
                   all_goals trace_state
                  ·simp only [etS, ehS, heS, seG, stC, zL, slR, slC, List.cons_append, List.nil_append, if_true]; simp (maxSteps := 4000000) only [go_sem, seval]
                   (repeat' (first
 | ((exfalso; omega))
 | ((omega))
 | refine zC ?_
 | refine kt ?_
 | refine And.intro ?_ ?_
 | ((first | refine awp_stp rfl ?_ | refine awp_draw3 (by kernel_rfl) (by kernel_rfl) ?_ | refine Imp.le2 ?_ | refine callK_of (hin) ?_ | refine go_split (fun _h => ?_) (fun _h => ?_)) <;> try simp (maxSteps := 4000000) only [go_sem, seval, hss, hsd, hle1, hle2])
 | intro _h
 | refine zA ?_
 | refine zB ?_
 | refine zF ?_ ?_
 | (show heapOK3 _ _ _ = true; kernel_rfl)
 | (show zE _ _ = true; kernel_rfl)
 | (show zD _ _ = true; kernel_rfl)
 | (omega)))
                   all_goals trace_state
                 ·subst hj1
                  simp only [putE] at hih
                  generalize wrM x place t.reports.length a1.pl = S1 at *
                  generalize wrM x to.day t.reports.length a1.dy = F1 at *
                  clear hF hF0
                  cases fd
                  all_goals
                   simp only [etS, ehS, heS, seG, stC, zL, slR, slC, List.cons_append, List.nil_append, Bool.true_or, Bool.false_or] at hih ⊢
                   simp (maxSteps := 4000000) only [go_sem, seval]
                   (repeat' (first
 | (refine zJ 4 rfl ?_; simp (maxSteps := 4000000) only [go_sem, seval, List.take_succ_cons, List.take_zero, hst2, hsn2]; (repeat refine And.intro (by omega) ?_); refine zQ (hih) [0, 1, 2, 3, 4, 5, 6, 7, 8, 9, 10] rfl ?_ ?_ ?_ ?_ <;> try simp (maxSteps := 4000000) only [go_sem, seval, Nat.lt_irrefl, hst2, hsn2] <;> try decide)
 | ((exfalso; omega))
 | ((omega))
 | refine zC ?_
 | refine kt ?_
 | refine And.intro ?_ ?_
 | ((first | refine awp_stp rfl ?_ | refine awp_draw (by kernel_rfl) (by kernel_rfl) ?_ | refine Imp.le2 ?_ | refine go_split (fun _h => ?_) (fun _h => ?_)) <;> try simp (maxSteps := 4000000) only [go_sem, seval, hst2, hsn2])
 | intro _h
 | refine zA ?_
 | refine zB ?_
 | refine zF ?_ ?_
 | (show zE _ _ = true; kernel_rfl)
 | (show zD _ _ = true; kernel_rfl)
 | (omega)))
                  all_goals first | (rw [_h]; done) | trace_state
               ·refine ⟨((x - 1) &&& s.rest, fd || he1, a2), ⟨hxx, hok1, hF⟩, by simp only; omega, .le2 ?_⟩
                simp only [etS, ehS, heS, seG, stC, zL, slR, slC, List.cons_append, List.nil_append]; simp (maxSteps := 4000000) only [go_sem, seval]
                try (first | rfl | exact ⟨rfl, rfl⟩)
             | false =>
               rw [if_neg (by simp)] at hF
               simp only [Prod.mk.injEq] at hF
               obtain ⟨⟨g1, g2⟩, g3⟩ := hF
               rcases hcase with ⟨h, _⟩ | ⟨_, h2, h3, h4⟩
               ·rw [h] at g2; cases g2
               subst g1 g2 g3 h2 h3 h4
               have hF := hF0
               simp only [etS, ehS, heS, seG, stC, zL, slR, slC, List.cons_append, List.nil_append]; simp (maxSteps := 4000000) only [go_sem, seval]
               (repeat' (first
 | ((exfalso; omega))
 | ((omega))
 | ((refine zJ (id := 10) 4 rfl ?_; simp (maxSteps := 4000000) only [go_sem, seval, List.take_succ_cons, List.take_zero]; refine callH_yield false (ehS t p s place (fd || he1) a2 ++ [some (.dfr true), some (.loop .done (some .ret) 0 etS #[32] ca cb 17)]) ?_ ?_ <;> simp only [etS, ehS, heS, seG, stC, zL, slR, slC, List.cons_append, List.nil_append] <;> (try simp (maxSteps := 4000000) only [go_sem, seval])))
 | refine zC ?_
 | refine kt ?_
 | refine And.intro ?_ ?_
 | ((first | refine awp_stp rfl ?_ | refine awp_draw (by kernel_rfl) (by kernel_rfl) ?_ | refine Imp.le2 ?_ | refine go_split (fun _h => ?_) (fun _h => ?_)) <;> try simp (maxSteps := 4000000) only [go_sem, seval, e5, e6])
 | intro _h
 | refine zA ?_
 | refine zB ?_
 | refine zF ?_ ?_
 | (show zE _ _ = true; kernel_rfl)
 | (show zD _ _ = true; kernel_rfl)
 | (omega)))
               ·refine semY_of_awpZ rfl rfl ?_
                intro B w0 l m w
                refine awp_code hca ?_
                (repeat' (first
 | refine zC ?_
 | refine kt ?_
 | refine And.intro ?_ ?_
 | ((first | refine awp_stp rfl ?_ | refine awp_draw (by kernel_rfl) (by kernel_rfl) ?_ | refine Imp.le2 ?_ | refine go_split (fun _h => ?_) (fun _h => ?_)) <;> try simp (maxSteps := 4000000) only [go_sem, seval])
 | intro _h
 | refine zA ?_
 | refine zB ?_
 | refine zF ?_ ?_
 | (show zE _ _ = true; kernel_rfl)
 | (show zD _ _ = true; kernel_rfl)
 | (omega)))
                refine awp_code hcb ?_
                (repeat' (first
 | (refine zJ 3 rfl ?_; simp (maxSteps := 4000000) only [go_sem, seval, List.take_succ_cons, List.take_zero, hst, hsn, hst2, hsn2]; (repeat refine And.intro (by omega) ?_); refine zQ (hmay) [7, 6] rfl ?_ ?_ ?_ ?_ <;> try simp (maxSteps := 4000000) only [go_sem, seval, Nat.lt_irrefl, hst, hsn, hst2, hsn2] <;> try decide)
 | refine zC ?_
 | refine kt ?_
 | refine And.intro ?_ ?_
 | ((first | refine awp_stp rfl ?_ | refine awp_draw (by kernel_rfl) (by kernel_rfl) ?_ | refine Imp.le2 ?_ | refine go_split (fun _h => ?_) (fun _h => ?_)) <;> try simp (maxSteps := 4000000) only [go_sem, seval, hst, hsn, hst2, hsn2])
 | intro _h
 | refine zA ?_
 | refine zB ?_
 | refine zF ?_ ?_
 | (show zE _ _ = true; kernel_rfl)
 | (show zD _ _ = true; kernel_rfl)
 | (omega)))
                refine awp_loopN t.reports.length (fun j => ⟨mkT 88 [(2, .ptr 5 0 0), (3, .ptr 8 0 0), (4, .ptr 4 0 0), (5, .ptr 9 0 0), (6, .ptr 10 0 0), (7, .ptr 11 0 0), (8, .ptr 12 0 0), (9, .ptr 13 0 0), (10, .ptr 14 0 0), (11, .int .u8 (x : Nat)), (12, .ptr 19 0 0), (44, .int .i64 t.reports.length), (45, .int .i64 j)], ehS t p s place fd ⟨a1.v, wrM x place j a1.pl, wrM x to.day j a1.dy, a1.K⟩ ++ [some (.dfr true), some (.loop .busy none 0 etS #[32] ca cb 17), some (.cells 136 1 0 (stC to))], []⟩) (.le2 ?_) ?_
                ·simp only [etS, ehS, heS, seG, stC, zL, slR, slC, List.cons_append, List.nil_append, wrM]; simp (maxSteps := 4000000) only [go_sem, seval]
                 try (first | rfl | exact ⟨rfl, rfl⟩)
                ·intro j hj
                 have hS1 := wrM_length (now := x) (x := place) (l := a1.pl) (k := j) (by rw [hq1]; omega)
                 have hF1 := wrM_length (now := x) (x := to.day) (l := a1.dy) (k := j) (by rw [hq2]; omega)
                 rw [hq1] at hS1
                 rw [hq2] at hF1
                 rcases Nat.lt_or_eq_of_le hj with hj1 | hj1
                 ·have hin := inS_c x j hx8 (by omega)
                  simp only [wrM]
                  generalize wrM x place j a1.pl = S1 at *
                  generalize wrM x to.day j a1.dy = F1 at *
                  have hss := fun x y z u v => ss_pl (x := x) (y := y) (z := z) (u := u) (S := S1) (F := F1) (i := j) (v := v) (by omega)
                  have hsd := fun x y z u v w => ss_dy (x := x) (y := y) (z := z) (u := u) (S := isp S1 j v) (F := F1) (i := j) (v := w) (by rw [isp_length (by omega)]; exact hS1) (by omega)
                  have hle1 := se_len hS1 hF1
                  have hle2 := fun v => se_len (S := isp S1 j v) (F := F1) (by rw [isp_length (by omega)]; exact hS1) hF1
                  generalize x.testBit j = b at *
                  cases b
                  ·simp only [etS, ehS, heS, seG, stC, zL, slR, slC, List.cons_append, List.nil_append, Bool.false_eq_true, if_false]; simp (maxSteps := 4000000) only [go_sem, seval]
                   (repeat' (first
 | ((exfalso; omega))
 | ((omega))
 | refine zC ?_
 | refine kt ?_
 | refine And.intro ?_ ?_
 | ((first | refine awp_stp rfl ?_ | refine awp_draw (by kernel_rfl) (by kernel_rfl) ?_ | refine Imp.le2 ?_ | refine callK_of (hin) ?_ | refine go_split (fun _h => ?_) (fun _h => ?_)) <;> try simp (maxSteps := 4000000) only [go_sem, seval])
 | intro _h
 | refine zA ?_
 | refine zB ?_
 | refine zF ?_ ?_
 | (show zE _ _ = true; kernel_rfl)
 | (show zD _ _ = true; kernel_rfl)
 | (omega)))
                   all_goals trace_state
                  ·simp only [etS, ehS, heS, seG, stC, zL, slR, slC, List.cons_append, List.nil_append, if_true]; simp (maxSteps := 4000000) only [go_sem, seval]
                   (repeat' (first
 | ((exfalso; omega))
 | ((omega))
 | refine zC ?_
 | refine kt ?_
 | refine And.intro ?_ ?_
 | ((first | refine awp_stp rfl ?_ | refine awp_draw3 (by kernel_rfl) (by kernel_rfl) ?_ | refine Imp.le2 ?_ | refine callK_of (hin) ?_ | refine go_split (fun _h => ?_) (fun _h => ?_)) <;> try simp (maxSteps := 4000000) only [go_sem, seval, hss, hsd, hle1, hle2])
 | intro _h
 | refine zA ?_
 | refine zB ?_
 | refine zF ?_ ?_
 | (show heapOK3 _ _ _ = true; kernel_rfl)
 | (show zE _ _ = true; kernel_rfl)
 | (show zD _ _ = true; kernel_rfl)
 | (omega)))
                   all_goals trace_state
                 ·subst hj1
                  simp only [putE] at hih
                  generalize wrM x place t.reports.length a1.pl = S1 at *
                  generalize wrM x to.day t.reports.length a1.dy = F1 at *
                  clear hF hF0
                  cases fd
                  all_goals
                   simp only [etS, ehS, heS, seG, stC, zL, slR, slC, List.cons_append, List.nil_append, Bool.true_or, Bool.false_or] at hih ⊢
                   simp (maxSteps := 4000000) only [go_sem, seval]
                   (repeat' (first
 | (refine zJ 4 rfl ?_; simp (maxSteps := 4000000) only [go_sem, seval, List.take_succ_cons, List.take_zero, hst2, hsn2]; (repeat refine And.intro (by omega) ?_); refine zQ (hih) [0, 1, 2, 3, 4, 5, 6, 7, 8, 9, 10] rfl ?_ ?_ ?_ ?_ <;> try simp (maxSteps := 4000000) only [go_sem, seval, Nat.lt_irrefl, hst2, hsn2] <;> try decide)
 | ((exfalso; omega))
 | ((omega))
 | refine zC ?_
 | refine kt ?_
 | refine And.intro ?_ ?_
 | ((first | refine awp_stp rfl ?_ | refine awp_draw (by kernel_rfl) (by kernel_rfl) ?_ | refine Imp.le2 ?_ | refine go_split (fun _h => ?_) (fun _h => ?_)) <;> try simp (maxSteps := 4000000) only [go_sem, seval, hst2, hsn2])
 | intro _h
 | refine zA ?_
 | refine zB ?_
 | refine zF ?_ ?_
 | (show zE _ _ = true; kernel_rfl)
 | (show zD _ _ = true; kernel_rfl)
 | (omega)))
                  all_goals first | (rw [_h]; done) | trace_state
               all_goals trace_state
            ·have h1 : oneM t (eachM t (suS p) f) s place x a1 = ((false, true), a1) := by unfold oneM; rw [if_neg hm]
             rw [h1] at hF
             simp only [if_true, Bool.or_false] at hF
             rw [Bool.not_eq_true] at hm
             rw [hm] at hmay
             generalize (mayS t s x).1 = to at *
             simp only [etS, ehS, heS, seG, stC, zL, slR, slC, List.cons_append, List.nil_append, seC] at hmay ⊢
             simp (maxSteps := 4000000) only [go_sem, seval]
             (repeat' (first
 | ((exfalso; omega))
 | ((omega))
 | ((refine zJ (id := 10) 4 rfl ?_; simp (maxSteps := 4000000) only [go_sem, seval, List.take_succ_cons, List.take_zero]; refine callH_yield true (ehS t p s place fd a1 ++ [some (.dfr true), some (.loop .ready none 0 etS #[32] ca cb 17)]) ?_ ?_ <;> simp only [etS, ehS, heS, seG, stC, zL, slR, slC, List.cons_append, List.nil_append] <;> (try simp (maxSteps := 4000000) only [go_sem, seval])))
 | refine zC ?_
 | refine kt ?_
 | refine And.intro ?_ ?_
 | ((first | refine awp_stp rfl ?_ | refine awp_draw (by kernel_rfl) (by kernel_rfl) ?_ | refine Imp.le2 ?_ | refine go_split (fun _h => ?_) (fun _h => ?_)) <;> try simp (maxSteps := 4000000) only [go_sem, seval, e5, e6])
 | intro _h
 | refine zA ?_
 | refine zB ?_
 | refine zF ?_ ?_
 | (show zE _ _ = true; kernel_rfl)
 | (show zD _ _ = true; kernel_rfl)
 | (omega)))
             ·refine semY_of_awpZ rfl rfl ?_
              intro B w0 l m w
              refine awp_code hca ?_
              (repeat' (first
 | refine zC ?_
 | refine kt ?_
 | refine And.intro ?_ ?_
 | ((first | refine awp_stp rfl ?_ | refine awp_draw (by kernel_rfl) (by kernel_rfl) ?_ | refine Imp.le2 ?_ | refine go_split (fun _h => ?_) (fun _h => ?_)) <;> try simp (maxSteps := 4000000) only [go_sem, seval])
 | intro _h
 | refine zA ?_
 | refine zB ?_
 | refine zF ?_ ?_
 | (show zE _ _ = true; kernel_rfl)
 | (show zD _ _ = true; kernel_rfl)
 | (omega)))
              refine awp_code hcb ?_
              (repeat' (first
 | (refine zJ 3 rfl ?_; simp (maxSteps := 4000000) only [go_sem, seval, List.take_succ_cons, List.take_zero, hst, hsn, hst2, hsn2]; (repeat refine And.intro (by omega) ?_); refine zQ (hmay) [7, 6] rfl ?_ ?_ ?_ ?_ <;> try simp (maxSteps := 4000000) only [go_sem, seval, Nat.lt_irrefl, hst, hsn, hst2, hsn2] <;> try decide)
 | refine zC ?_
 | refine kt ?_
 | refine And.intro ?_ ?_
 | ((first | refine awp_stp rfl ?_ | refine awp_draw (by kernel_rfl) (by kernel_rfl) ?_ | refine Imp.le2 ?_ | refine go_split (fun _h => ?_) (fun _h => ?_)) <;> try simp (maxSteps := 4000000) only [go_sem, seval, hst, hsn, hst2, hsn2])
 | intro _h
 | refine zA ?_
 | refine zB ?_
 | refine zF ?_ ?_
 | (show zE _ _ = true; kernel_rfl)
 | (show zD _ _ = true; kernel_rfl)
 | (omega)))
              all_goals trace_state
             ·refine ⟨((x - 1) &&& s.rest, fd, a1), ⟨hxx, ha1, hF⟩, by simp only; omega, .le2 ?_⟩
              simp only [etS, ehS, heS, seG, stC, zL, slR, slC, List.cons_append, List.nil_append]; simp (maxSteps := 4000000) only [go_sem, seval]
              try (first | rfl | exact ⟨rfl, rfl⟩)
     ·rfl
     ·rcases hcase with ⟨_, h, _, _⟩ | ⟨_, h, _, _⟩ <;> (rw [h]; simp)
     ·rcases hcase with ⟨_, _, h1, h2⟩ | ⟨_, _, h1, h2⟩ <;> (rw [h1, h2]; rfl)
     ·rcases hcase with ⟨h1, h2, h3, h4⟩ | ⟨h1, h2, h3, h4⟩
      ·subst h1 h2 h3 h4
       have e3 : (endM s ((fE, true), aE)).2 = { aE with K := gmPut aE.K ⟨s, hs.sl, hs.fl⟩ (!fE) } := by
        unfold endM putS; rw [if_pos rfl, dif_pos ⟨hs.sl, hs.fl⟩]
       rw [e3]
       have hmu1 := fun (f : List (AV × AV) → Prop) => mup_km (m := aE.K) (k := ⟨s, hs.sl, hs.fl⟩) (v := true) (f := f)
       have hmu2 := fun (f : List (AV × AV) → Prop) => mup_km (m := aE.K) (k := ⟨s, hs.sl, hs.fl⟩) (v := false) (f := f)
       simp only [keyV, stC] at hmu1 hmu2
       cases fE
       all_goals
        simp only [Bool.not_true, Bool.not_false]
        simp only [etS, ehS, heS, seG, stC, zL, slR, slC, List.cons_append, List.nil_append]; simp (maxSteps := 4000000) only [go_sem, seval]
        (repeat' (first
 | ((exact hkey _ _))
 | refine zC ?_
 | refine kt ?_
 | refine And.intro ?_ ?_
 | ((first | refine awp_stp rfl ?_ | refine awp_draw (by kernel_rfl) (by kernel_rfl) ?_ | refine Imp.le2 ?_ | refine go_split (fun _h => ?_) (fun _h => ?_)) <;> try simp (maxSteps := 4000000) only [go_sem, seval, hst, hsn, hmu1, hmu2])
 | intro _h
 | refine zA ?_
 | refine zB ?_
 | refine zF ?_ ?_
 | (show zE _ _ = true; kernel_rfl)
 | (show zD _ _ = true; kernel_rfl)
 | (omega)))
       all_goals trace_state
      ·subst h1 h2 h3 h4
       have e3 : (endM s ((fE, false), aE)).2 = aE := by
        unfold endM; rw [if_neg (by simp)]
       rw [e3]
       simp only [etS, ehS, heS, seG, stC, zL, slR, slC, List.cons_append, List.nil_append]; simp (maxSteps := 4000000) only [go_sem, seval]
       (repeat' (first
 | refine zC ?_
 | refine kt ?_
 | refine And.intro ?_ ?_
 | ((first | refine awp_stp rfl ?_ | refine awp_draw (by kernel_rfl) (by kernel_rfl) ?_ | refine Imp.le2 ?_ | refine go_split (fun _h => ?_) (fun _h => ?_)) <;> try simp (maxSteps := 4000000) only [go_sem, seval])
 | intro _h
 | refine zA ?_
 | refine zB ?_
 | refine zF ?_ ?_
 | (show zE _ _ = true; kernel_rfl)
 | (show zD _ _ = true; kernel_rfl)
 | (omega)))
       all_goals trace_state
end Go.Am
namespace Go.Am
open Go.RowKit Go.Proofs
attribute [local irreducible] AWP zO Kt goK CallK zT zR SemF SemY Imp
set_option maxRecDepth 4000
set_option linter.unusedSimpArgs false
set_option linter.unusedVariables false
set_option maxHeartbeats 6400000
theorem allS_c (t : Ann) (p : SuP) (ht : AnnOK t) (hV : suIn t p) (v : Bool × Bool) (hv : (suOK p) v) : SemF Try.prog 51 [.agg (zL t), .fn (.func 64) [] [.ptr 0 0 0, .ptr 1 0 0, .ptr 2 0 0, .ptr 3 0 0]] [some (.cells 3 1 0 [.int .i64 p.a]), some (.cells 3 1 0 [.int .i64 p.b]), some (.cells 4 1 0 [.bool v.1]), some (.cells 4 1 0 [.bool v.2])] (.tup []) [some (.cells 3 1 0 [.int .i64 p.a]), some (.cells 3 1 0 [.int .i64 p.b]), some (.cells 4 1 0 [.bool (allM t (suS p) v).2.v.1]), some (.cells 4 1 0 [.bool (allM t (suS p) v).2.v.2])] := by
 have h128 : (begS t).rest < 128 := by
  show 2 ^ t.reports.length - 1 < 128
  have : 2 ^ t.reports.length ≤ 2 ^ 7 := Nat.pow_le_pow_right (by omega) ht.reports.2
  omega
 have hm := eachS_c t p ht hV 128 (begS t) 0 ⟨v, zer7, zer7, []⟩ (begS_ok ht) h128 (Int.le_refl _) (by omega) ⟨hv, zer_ok⟩
 have hbe := begin_c t ht.reports.2
 have hz : (zS zer7 ++ zS zer7) = [.int .i64 0, .int .i64 0, .int .i64 0, .int .i64 0, .int .i64 0, .int .i64 0, .int .i64 0, .int .i64 0, .int .i64 0, .int .i64 0, .int .i64 0, .int .i64 0, .int .i64 0, .int .i64 0] := rfl
 unfold allM
 generalize (eachM t (suS p) 128 (begS t) 0 ⟨v, zer7, zer7, []⟩) = R at *
 obtain ⟨⟨f1, m1⟩, vE, plE, dyE, KE⟩ := R
 simp only [heS, seG, hz, kmC_nil2, zL, slR, slC, List.cons_append, List.nil_append] at hm hbe ⊢
 generalize (begS t) = st at *
 simp only [stC] at hm hbe
 (refine zH (ys := []) (fun w args => Try.call51 ..) Try.func51 rfl (fun w0 m0 wz => ?_); simp only [Try.ntmps51, Try.results51, zN, zP, zU, zV, slR, slC, zL, sl, List.toList_toArray, List.cons_append, List.nil_append, List.length_cons, List.length_nil, Nat.reduceAdd, Nat.reduceSub])
 (repeat' (first
 | refine zC ?_
 | refine kt ?_
 | refine And.intro ?_ ?_
 | ((first | refine awp_stp rfl ?_ | refine Imp.le2 ?_ | refine go_split (fun _h => ?_) (fun _h => ?_)) <;> try simp (maxSteps := 4000000) only [go_sem, seval])
 | intro _h
 | refine zA ?_
 | refine zB ?_
 | refine zF ?_ ?_
 | (show zE _ _ = true; kernel_rfl)
 | (show zD _ _ = true; kernel_rfl)
 | (omega)))
 ((repeat refine zC ?_); refine awp_draws [(3, [2, 3, 6, 7])] (by kernel_rfl) (by kernel_rfl) ?_; simp (maxSteps := 4000000) only [go_sem, seval, sg_cons, sg_nil, List.take_succ_cons, List.take_zero, List.drop_succ_cons, List.drop_zero])
 (repeat' (first
 | refine zC ?_
 | refine kt ?_
 | refine And.intro ?_ ?_
 | ((first | refine awp_stp rfl ?_ | refine Imp.le2 ?_ | refine callK_of (hbe) ?_ | refine go_split (fun _h => ?_) (fun _h => ?_)) <;> try simp (maxSteps := 4000000) only [go_sem, seval])
 | intro _h
 | refine zA ?_
 | refine zB ?_
 | refine zF ?_ ?_
 | (show zE _ _ = true; kernel_rfl)
 | (show zD _ _ = true; kernel_rfl)
 | (omega)))
 (refine zQ (hm) [0, 1, 2, 3, 4, 5, 6, 7, 8, 9, 10] rfl (by simp (maxSteps := 4000000) only [go_sem, seval]) (by simp (maxSteps := 4000000) only [go_sem, seval, Nat.lt_irrefl] <;> decide) (by simp (maxSteps := 4000000) only [go_sem, seval]) ?_; simp (maxSteps := 4000000) only [go_sem, seval]; refine And.intro (frm_of (by repeat (first | exact rfl | exact ⟨_, rfl⟩ | refine And.intro ?_ ?_))) ?_; try simp (maxSteps := 4000000) only [go_sem, seval, sg_cons, sg_nil, List.take_succ_cons, List.take_zero, List.drop_succ_cons, List.drop_zero])
 (repeat' (first
 | refine zC ?_
 | refine kt ?_
 | refine And.intro ?_ ?_
 | ((first | refine awp_stp rfl ?_ | refine Imp.le2 ?_ | refine go_split (fun _h => ?_) (fun _h => ?_)) <;> try simp (maxSteps := 4000000) only [go_sem, seval])
 | intro _h
 | refine zA ?_
 | refine zB ?_
 | refine zF ?_ ?_
 | (show zE _ _ = true; kernel_rfl)
 | (show zD _ _ = true; kernel_rfl)
 | (omega)))
 all_goals trace_state
end Go.Am
namespace Go.Am
open Go.RowKit Go.Proofs
set_option linter.unusedSimpArgs false
set_option linter.unusedVariables false
def suV (t : Ann) (p : SuP) : Bool × Bool := (allM t (suS p) (false, false)).2.v
def eqQ (p : SuP) (q : List Int × List Int) : Bool := decide (q.1.getD p.a.toNat 0 = q.1.getD p.b.toNat 0)
theorem su_vis {p : SuP} : ∀ {l : List (List Int × List Int)} {v : Bool × Bool}, (visL (gOf (suS p)) l v).1 = (v.1 || l.any (eqQ p), v.2 || l.any fun q => !eqQ p q)
 | [], (a, b) => by simp [visL]
 | q :: l, (a, b) => by
   simp only [visL, List.any_cons]
   have ih := fun v => su_vis (p := p) (l := l) (v := v)
   have hg : gOf (suS p) (a, b) q = if eqQ p q = true then ((true, b), !b) else ((a, true), !a) := by
    unfold gOf suS eqQ
    simp only [decide_eq_true_eq]
   rw [hg]
   cases he : eqQ p q with
   | true =>
     simp only [if_true, ih]
     cases b <;> simp [ih]
   | false =>
     simp only [Bool.false_eq_true, if_false, ih]
     cases a <;> simp [ih]
theorem su_resp {t : Ann} {p : SuP} (hp : suIn t p) : Resp t (suS p) := fun v pl dy pl' dy' h1 _ => by
 obtain ⟨⟨a0, a1⟩, b0, b1⟩ := hp
 unfold suS
 rw [h1 p.a.toNat (by omega), h1 p.b.toNat (by omega)]
structure SureS (t : Ann) (i k : Nat) (v : Bool × Bool) : Prop where
 one : v.1 = true ↔ ∃ C D, Chr t C D ∧ C i = C k
 other : v.2 = true ↔ ∃ C D, Chr t C D ∧ C i ≠ C k
theorem suV_spec {t : Ann} (ht : AnnOK t) {p : SuP} (hp : suIn t p) : SureS t p.a.toNat p.b.toNat (suV t p) := by
 have h := all_spec ht (su_resp hp) (false, false)
 rw [su_vis] at h
 obtain ⟨⟨a0, a1⟩, b0, b1⟩ := hp
 have e : suV t p = (false || ((runsA t).map (canon t)).any (eqQ p), false || ((runsA t).map (canon t)).any fun q => !eqQ p q) := h
 rw [e]
 have hq : ∀ r, eqQ p (canon t r) = decide (placeOf 0 r p.a.toNat = placeOf 0 r p.b.toNat) := fun r => by
  unfold eqQ canon
  simp only
  rw [tabD (by omega), tabD (by omega)]
 simp only [Bool.false_or]
 constructor
 ·rw [List.any_eq_true]
  constructor
  ·rintro ⟨q, hq1, hq2⟩
   obtain ⟨r, hr, rfl⟩ := List.mem_map.1 hq1
   rw [hq r] at hq2
   exact ⟨_, _, runs_chr ht hr, of_decide_eq_true hq2⟩
  ·rintro ⟨C, D, hc, he⟩
   obtain ⟨r, hr, _, h3⟩ := chr_runs ht hc
   exact ⟨_, List.mem_map.2 ⟨r, hr, rfl⟩, by rw [hq r]; exact decide_eq_true ((h3 _ _ (by omega) (by omega)).2 he)⟩
 ·rw [List.any_eq_true]
  constructor
  ·rintro ⟨q, hq1, hq2⟩
   obtain ⟨r, hr, rfl⟩ := List.mem_map.1 hq1
   rw [hq r] at hq2
   exact ⟨_, _, runs_chr ht hr, by simpa using hq2⟩
  ·rintro ⟨C, D, hc, he⟩
   obtain ⟨r, hr, _, h3⟩ := chr_runs ht hc
   refine ⟨_, List.mem_map.2 ⟨r, hr, rfl⟩, ?_⟩
   rw [hq r]
   have : ¬ placeOf 0 r p.a.toNat = placeOf 0 r p.b.toNat := fun h => he ((h3 _ _ (by omega) (by omega)).1 h)
   simp [this]
end Go.Am
namespace Go.Am
open Go.RowKit Go.Proofs
attribute [local irreducible] AWP zO Kt goK CallK zT zR SemF SemY Imp
set_option maxRecDepth 4000
set_option linter.unusedSimpArgs false
set_option linter.unusedVariables false
set_option maxHeartbeats 1600000
def sureE (t : Ann) (a b : Int) : Int := if faultA t = 0 then (if (0 ≤ a ∧ a < t.reports.length) ∧ (0 ≤ b ∧ b < t.reports.length) ∧ a ≠ b then (if suV t ⟨a, b⟩ = (false, false) then 9 else 0) else 2) else faultA t
def sureV (t : Ann) (a b : Int) : Int := if sureE t a b = 0 then (if (suV t ⟨a, b⟩).1 = true then (if (suV t ⟨a, b⟩).2 = true then 3 else 1) else 2) else 0
theorem Surely_c (t : Ann) (a b : Int) (hb : annOK t) (ht : faultA t = 0 → AnnOK t) : zO Try.prog 27 [.agg (zL t), .int .i64 a, .int .i64 b] (.tup [.int .u8 (sureV t a b), .int .i64 (sureE t a b)]) := by
 have hch := check_c t hb
 unfold sureV sureE
 by_cases h0 : faultA t = 0
 ·have ht := ht h0
  have hr := ht.reports
  rw [if_pos h0]
  rw [h0] at hch
  by_cases hin : (0 ≤ a ∧ a < t.reports.length) ∧ (0 ≤ b ∧ b < t.reports.length) ∧ a ≠ b
  ·rw [if_pos hin]
   obtain ⟨h1, h2, h3⟩ := hin
   have h := allS_c t ⟨a, b⟩ ht ⟨h1, h2⟩ (false, false) trivial
   have e : (allM t (suS ⟨a, b⟩) (false, false)).2.v = suV t ⟨a, b⟩ := rfl
   rw [e] at h
   generalize suV t ⟨a, b⟩ = V at *
   obtain ⟨x, y⟩ := V
   simp only [zL, slR, slC] at h hch ⊢
   cases x <;> cases y
   all_goals
    simp only [Prod.mk.injEq, reduceCtorEq, false_and, and_false, and_self, if_true, if_false, Bool.false_eq_true]
    (refine zG (fun w args => Try.call27 ..) Try.func27 rfl (fun w0 m0 wz => ?_); simp only [Try.ntmps27, Try.results27, zN, zP, zU, zV, slR, slC, zL, sl, List.toList_toArray, List.cons_append, List.nil_append, List.length_cons, List.length_nil, Nat.reduceAdd, Nat.reduceSub])
    (repeat' (first
 | (refine zJ 2 rfl ?_; simp (maxSteps := 4000000) only [go_sem, seval, List.take_succ_cons, List.take_zero]; (repeat refine And.intro (by omega) ?_); refine zQ (h) [1, 2, 3, 4] rfl ?_ ?_ rfl ?_ <;> try simp (maxSteps := 4000000) only [go_sem, seval, Nat.lt_irrefl] <;> try decide)
 | ((omega))
 | ((exfalso; omega))
 | refine zC ?_
 | refine kt ?_
 | refine And.intro ?_ ?_
 | ((first | refine awp_stp rfl ?_ | refine awp_draw (by kernel_rfl) (by kernel_rfl) ?_ | refine Imp.le2 ?_ | refine callK_of (hch) ?_ | refine callK_of (within_c _ _ _) ?_ | refine go_split (fun _h => ?_) (fun _h => ?_)) <;> try simp (maxSteps := 4000000) only [go_sem, seval])
 | intro _h
 | refine zA ?_
 | refine zB ?_
 | refine zF ?_ ?_
 | (show zE _ _ = true; kernel_rfl)
 | (show zD _ _ = true; kernel_rfl)
 | (omega)))
    all_goals first | (exfalso; simp at _h; done) | trace_state
  ·rw [if_neg hin, if_neg (by omega)]
   simp only [zL, slR, slC] at hch ⊢
   (refine zG (fun w args => Try.call27 ..) Try.func27 rfl (fun w0 m0 wz => ?_); simp only [Try.ntmps27, Try.results27, zN, zP, zU, zV, slR, slC, zL, sl, List.toList_toArray, List.cons_append, List.nil_append, List.length_cons, List.length_nil, Nat.reduceAdd, Nat.reduceSub])
   (repeat' (first
 | ((exfalso; omega))
 | ((omega))
 | refine zC ?_
 | refine kt ?_
 | refine And.intro ?_ ?_
 | ((first | refine awp_stp rfl ?_ | refine awp_draw (by kernel_rfl) (by kernel_rfl) ?_ | refine Imp.le2 ?_ | refine callK_of (hch) ?_ | refine callK_of (within_c _ _ _) ?_ | refine go_split (fun _h => ?_) (fun _h => ?_)) <;> try simp (maxSteps := 4000000) only [go_sem, seval])
 | intro _h
 | refine zA ?_
 | refine zB ?_
 | refine zF ?_ ?_
 | (show zE _ _ = true; kernel_rfl)
 | (show zD _ _ = true; kernel_rfl)
 | (omega)))
   all_goals trace_state
 ·rw [if_neg h0, if_neg h0]
  simp only [zL, slR, slC] at hch ⊢
  (refine zG (fun w args => Try.call27 ..) Try.func27 rfl (fun w0 m0 wz => ?_); simp only [Try.ntmps27, Try.results27, zN, zP, zU, zV, slR, slC, zL, sl, List.toList_toArray, List.cons_append, List.nil_append, List.length_cons, List.length_nil, Nat.reduceAdd, Nat.reduceSub])
  (repeat' (first
 | refine zC ?_
 | refine kt ?_
 | refine And.intro ?_ ?_
 | ((first | refine awp_stp rfl ?_ | refine awp_draw (by kernel_rfl) (by kernel_rfl) ?_ | refine Imp.le2 ?_ | refine callK_of (hch) ?_ | refine go_split (fun _h => ?_) (fun _h => ?_)) <;> try simp (maxSteps := 4000000) only [go_sem, seval])
 | intro _h
 | refine zA ?_
 | refine zB ?_
 | refine zF ?_ ?_
 | (show zE _ _ = true; kernel_rfl)
 | (show zD _ _ = true; kernel_rfl)
 | (omega)))
  all_goals first | (exfalso; simp at _h; omega) | trace_state
end Go.Am
