/- Parts UfS, UgS, UhS, UkP, VwH of the proof, one behind the other. No statement is proved here. -/
import Derived.Test.YtemdkbogfafjgaaW9
import Derived.Test.YtemdkbogfafjgaaW4
import Derived.Test.YtemdkbogfafjgaaWb
set_option linter.unusedVariables false -- all
set_option linter.unusedSimpArgs false
/- Contracts of the annals functions: all orders of slides, with a visitor (printed by gtue.py). -/
namespace Go.Am
open Go.RowKit Go.Proofs
attribute [local irreducible] AWP CallS Kt goK CallK stepK evOps SemF SemY Imp
set_option maxRecDepth 4000
set_option linter.unusedSimpArgs false
set_option linter.unusedVariables false
set_option maxHeartbeats 6400000
def heS (t : Ann) (p : SuP) (a : EA (Bool × Bool)) : List (Option ABlk) :=
  [some (.cells 3 1 0 [.int .i64 p.a]), some (.cells 3 1 0 [.int .i64 p.b]), some (.cells 4 1 0 [.bool a.v.1]), some (.cells 4 1 0 [.bool a.v.2])] ++ [some (.cells 35 1 0 (annC t)), some (.cells 105 1 0 [.fn (.func 64) [] [.ptr 0 0 0, .ptr 1 0 0, .ptr 2 0 0, .ptr 3 0 0]]), some (.map (kmC a.K)), some (.cells 115 1 0 (seG t 6 a.pl a.dy)), some (.cells 99 1 0 [.ptr 7 0 0]), some (.cells 131 1 0 [.fn (.func 85) [.ptr 7 0 0] []]), some (.cells 132 1 0 [.fn (.func 86) [] [.ptr 5 0 0, .ptr 8 0 0, .ptr 4 0 0, .ptr 9 0 0, .ptr 10 0 0]])]
def ehS (t : Ann) (p : SuP) (s : Ste) (place : Int) (fd : Bool) (a : EA (Bool × Bool)) : List (Option ABlk) :=
  heS t p a ++ [some (.cells 136 1 0 (stC s)), some (.cells 3 1 0 [.int .i64 place]), some (.cells 4 1 0 [.bool fd]), some (.cells 4 1 0 [.bool false]), some (.cells 35 1 0 (annC t)), some (.cells 136 1 0 (stC s))]
def etS : List AV := mkT 88 [(2, .ptr 5 0 0), (3, .ptr 8 0 0), (4, .ptr 4 0 0), (5, .ptr 9 0 0), (6, .ptr 10 0 0), (7, .ptr 11 0 0), (8, .ptr 12 0 0), (9, .ptr 13 0 0), (10, .ptr 14 0 0), (31, .fn (.func 107) [] [.ptr 16 0 0, .ptr 15 0 0])]
theorem eachS_c (t : Ann) (p : SuP) (ht : AnnOK t) (hV : suIn t p) : ∀ (f : Nat) (s : Ste) (place : Int) (a : EA (Bool × Bool)), SteOK t s → s.rest < f → 0 ≤ place → place + s.rest ≤ 1000 → EAOK (suOK p) a → 
    SemF Try.prog 86 [.agg (stC s), .int .i64 place, .ptr 5 0 0, .ptr 8 0 0, .ptr 4 0 0, .ptr 9 0 0, .ptr 10 0 0] (heS t p a) (.tup [.bool (eachM t (suS p) f s place a).1.1, .bool (eachM t (suS p) f s place a).1.2]) (heS t p (eachM t (suS p) f s place a).2) := by
  intro f
  induction f with
  | zero => intro s place a _ h; omega
  | succ f ih =>
    intro s place a hs hf hp0 hp ha
    have hok := eachM_ok (step := (suS p)) ht (su_ok t p) (f + 1) s place a hs hp0 hp ha
    have hr := ht.reports
    by_cases h0 : s.rest = 0
    · have e : eachM t (suS p) (f + 1) s place a = ((true, ((suS p) a.v a.pl a.dy).2), { a with v := ((suS p) a.v a.pl a.dy).1 }) := by simp only [eachM]; rw [if_pos h0]
      rw [e]
      have hv := su_c t p a.v a.pl a.dy a.K ht hV ha.1 ha.2
      have e0 : ((s.rest : Int) = 0) = True := eq_true (by omega)
      generalize (suS p) a.v a.pl a.dy = R at *
      obtain ⟨v2, more⟩ := R
      simp only [heS, seG, stC, annC, slR, slC, List.cons_append, List.nil_append] at hv ⊢
      (refine semF_of_awp (ys := [.bool true, .bool more]) (fun w args => Try.call86 ..) Try.func86 rfl (fun w0 m0 wz => ?_); simp only [Try.ntmps86, Try.results86, initT, junks, rptC, clmC, slR, slC, annC, sl, List.toList_toArray, List.cons_append, List.nil_append, List.length_cons, List.length_nil, Nat.reduceAdd, Nat.reduceSub])
      (repeat' (first
    | (refine awp_ownN 2 rfl ?_; simp (maxSteps := 4000000) only [go_sem, seval, List.take_succ_cons, List.take_zero, e0, decide_true]; (repeat refine And.intro (by omega) ?_); refine own_go (hv) [0, 1, 2, 3, 7, 6] rfl ?_ ?_ rfl ?_ <;> try simp (maxSteps := 4000000) only [go_sem, seval, Nat.lt_irrefl, e0, decide_true] <;> try decide)
    | (refine awp_seqK ?_)
    | (refine kt ?_)
    | (refine And.intro ?_ ?_)
    | ((first | refine awp_region ?_ | refine awp_draw (by kernel_rfl) (by kernel_rfl) ?_ | refine Imp.le2 ?_ | refine awp_label ?_ | refine awp_skip ?_ | refine awp_exit ?_ | refine awp_cd ?_ | refine awp_ret ?_ | refine go_split (fun _h => ?_) (fun _h => ?_)) <;> try simp (maxSteps := 4000000) only [go_sem, seval, e0, decide_true])
    | (intro _h)
    | (refine awp_block ?_)
    | (refine awp_scope ?_)
    | (refine cond_b (fun _h => ?_) (fun _h => ?_))
    | (show heapOK _ _ = true; kernel_rfl)
    | (show heapOK2 _ _ = true; kernel_rfl)
    | (omega)))
      all_goals trace_state
    · have e0 : ((s.rest : Int) = 0) = False := eq_false (by omega)
      have h256 : s.rest < 256 := Nat.lt_of_lt_of_le hs.rest (show 2 ^ t.reports.length ≤ 2 ^ 8 from Nat.pow_le_pow_right (by omega) (by omega))
      have hst := stt_win hs.sl hs.fl
      have hsn := stt_len hs.sl hs.fl
      have hks : getS a.K s = gmGet a.K ⟨s, hs.sl, hs.fl⟩ := by unfold getS; rw [dif_pos ⟨hs.sl, hs.fl⟩]
      by_cases hlost : getS a.K s = some true
      · have e : eachM t (suS p) (f + 1) s place a = ((false, true), a) := by simp only [eachM]; rw [if_neg h0, if_pos hlost]
        rw [e]
        have hmg := fun z (f : AV → Bool → Prop) => mget_ks (z := z) (f := f) (hks ▸ hlost)
        simp only [keyV, stC] at hmg
        have hkey := fun (a d : Int) => keyS (a := a) (d := d) hs.sl hs.fl
        simp only [heS, seG, stC, annC, slR, slC, List.cons_append, List.nil_append]
        (refine semF_of_awp (ys := [.bool false, .bool true]) (fun w args => Try.call86 ..) Try.func86 rfl (fun w0 m0 wz => ?_); simp only [Try.ntmps86, Try.results86, initT, junks, rptC, clmC, slR, slC, annC, sl, List.toList_toArray, List.cons_append, List.nil_append, List.length_cons, List.length_nil, Nat.reduceAdd, Nat.reduceSub])
        (repeat' (first
    | ((show zeroOK _ = true; rfl))
    | ((exact hkey _ _))
    | ((exact absurd ‹true = false› (by simp)))
    | (refine awp_seqK ?_)
    | (refine kt ?_)
    | (refine And.intro ?_ ?_)
    | ((first | refine awp_region ?_ | refine awp_draw3 (by kernel_rfl) (by kernel_rfl) ?_ | refine Imp.le2 ?_ | refine awp_label ?_ | refine awp_skip ?_ | refine awp_exit ?_ | refine awp_cd ?_ | refine awp_ret ?_ | refine go_split (fun _h => ?_) (fun _h => ?_)) <;> try simp (maxSteps := 4000000) only [go_sem, seval, e0, decide_false, hmg, hst, hsn])
    | (intro _h)
    | (refine awp_block ?_)
    | (refine awp_scope ?_)
    | (refine cond_b (fun _h => ?_) (fun _h => ?_))
    | (show heapOK3 _ _ _ = true; kernel_rfl)
    | (show heapOK _ _ = true; kernel_rfl)
    | (show heapOK2 _ _ = true; kernel_rfl)
    | (omega)))
        all_goals (exact absurd _h (by simp))
      · obtain ⟨b, hmg⟩ : ∃ b : Bool, ∀ (f : AV → Bool → Prop), mgetK (kmC a.K) (keyV ⟨s, hs.sl, hs.fl⟩) (.bool false) f = f (.bool false) b := by
          rw [hks] at hlost
          cases hg : gmGet a.K ⟨s, hs.sl, hs.fl⟩ with
          | none => exact ⟨false, fun f => mget_kn hg⟩
          | some b =>
            cases b with
            | true => exact absurd hg hlost
            | false => exact ⟨true, fun f => mget_ks hg⟩
        have hnx := next_c t s
        have hkey := fun (a d : Int) => keyS (a := a) (d := d) hs.sl hs.fl
        have e : eachM t (suS p) (f + 1) s place a = endM s (goE (oneM t (eachM t (suS p) f) s place) (candN t s.rest s.rest) false a) := by simp only [eachM]; rw [if_neg h0, if_neg hlost]
        rw [e] at hok ⊢
        obtain ⟨⟨⟨fE, mE⟩, aE⟩, hE⟩ : ∃ r, goE (oneM t (eachM t (suS p) f) s place) (candN t s.rest s.rest) false a = r := ⟨_, rfl⟩
        rw [hE] at hok ⊢
        simp only [keyV, stC] at hmg
        have hpE : PDOK aE.pl aE.dy := by
          unfold endM at hok
          split at hok
          · exact hok.2
          · exact hok.2
        clear e hok
        obtain ⟨st, pend, ex, hcase⟩ : ∃ (st : LoopState) (pend : Option Code) (ex : Exit), (mE = true ∧ st = .ready ∧ pend = none ∧ ex = .normal) ∨ (mE = false ∧ st = .done ∧ pend = some .ret ∧ ex = .ret) := by
          cases mE
          · exact ⟨.done, some .ret, .ret, .inr ⟨rfl, rfl, rfl, rfl⟩⟩
          · exact ⟨.ready, none, .normal, .inl ⟨rfl, rfl, rfl, rfl⟩⟩
        have e1 : (endM s ((fE, mE), aE)).1.1 = fE := by unfold endM; cases mE <;> rfl
        have e2 : (endM s ((fE, mE), aE)).1.2 = mE := by unfold endM; cases mE <;> rfl
        rw [e1, e2]
        simp only [heS, seG, stC, annC, slR, slC, List.cons_append, List.nil_append] at hnx ⊢
        (refine semF_of_awp (ys := [.bool fE, .bool mE]) (fun w args => Try.call86 ..) Try.func86 rfl (fun w0 m0 wz => ?_); simp only [Try.ntmps86, Try.results86, initT, junks, rptC, clmC, slR, slC, annC, sl, List.toList_toArray, List.cons_append, List.nil_append, List.length_cons, List.length_nil, Nat.reduceAdd, Nat.reduceSub])
        (repeat' (first
    | ((show zeroOK _ = true; rfl))
    | ((exact hkey _ _))
    | (refine awp_ownN 2 rfl ?_; simp (maxSteps := 4000000) only [go_sem, seval, List.take_succ_cons, List.take_zero, e0, decide_false, hmg, hst, hsn]; (repeat refine And.intro (by omega) ?_); refine own_go (hnx) [] rfl ?_ ?_ ?_ ?_ <;> try simp (maxSteps := 4000000) only [go_sem, seval, Nat.lt_irrefl, e0, decide_false, hmg, hst, hsn] <;> try decide)
    | (refine awp_seqK ?_)
    | (refine kt ?_)
    | (refine And.intro ?_ ?_)
    | ((first | refine awp_region ?_ | refine awp_draw3 (by kernel_rfl) (by kernel_rfl) ?_ | refine Imp.le2 ?_ | refine awp_label ?_ | refine awp_skip ?_ | refine awp_exit ?_ | refine awp_cd ?_ | refine awp_ret ?_ | refine go_split (fun _h => ?_) (fun _h => ?_)) <;> try simp (maxSteps := 4000000) only [go_sem, seval, e0, decide_false, hmg, hst, hsn])
    | (intro _h)
    | (refine awp_block ?_)
    | (refine awp_scope ?_)
    | (refine cond_b (fun _h => ?_) (fun _h => ?_))
    | (show heapOK3 _ _ _ = true; kernel_rfl)
    | (show heapOK _ _ = true; kernel_rfl)
    | (show heapOK2 _ _ = true; kernel_rfl)
    | (omega)))
        try any_goals (exfalso; simp at _h; done)
        refine AWP.le2 (s' := ⟨etS, ehS t p s place false a, []⟩) (by simp only [etS, ehS, heS, seG, stC, annC, slR, slC, List.cons_append, List.nil_append]; simp (maxSteps := 4000000) only [go_sem, seval]) ?_
        refine awp_rangeZ (gf := 107) (first := []) (caps := [.ptr 16 0 0, .ptr 15 0 0]) (by simp only [etS]; simp (maxSteps := 4000000) only [go_sem, seval]) 17 rfl ?_
        intro ca cb hca hcb
        refine ⟨.tup [], ehS t p s place fE aE ++ [some (.dfr true), some (.loop st pend 0 etS #[32] ca cb 17)], st, pend, ex, ?_, ?_, ?_, ?_, ?_⟩
        · simp only [etS, ehS, heS, seG, stC, annC, slR, slC, List.cons_append, List.nil_append]; simp (maxSteps := 4000000) only [go_sem, seval]
          (refine semF_of_awp (ys := []) (fun w args => Try.call107 ..) Try.func107 rfl (fun w0 m0 wz => ?_); simp only [Try.ntmps107, Try.results107, initT, junks, rptC, clmC, slR, slC, annC, sl, List.toList_toArray, List.cons_append, List.nil_append, List.length_cons, List.length_nil, Nat.reduceAdd, Nat.reduceSub])
          (repeat' (first
    | (refine awp_seqK ?_)
    | (refine kt ?_)
    | (refine And.intro ?_ ?_)
    | ((first | refine awp_region ?_ | refine awp_draw (by kernel_rfl) (by kernel_rfl) ?_ | refine Imp.le2 ?_ | refine awp_label ?_ | refine awp_skip ?_ | refine awp_exit ?_ | refine awp_cd ?_ | refine awp_ret ?_ | refine go_split (fun _h => ?_) (fun _h => ?_)) <;> try simp (maxSteps := 4000000) only [go_sem, seval])
    | (intro _h)
    | (refine awp_block ?_)
    | (refine awp_scope ?_)
    | (refine cond_b (fun _h => ?_) (fun _h => ?_))
    | (show heapOK _ _ = true; kernel_rfl)
    | (show heapOK2 _ _ = true; kernel_rfl)
    | (omega)))
          refine awp_loopJ (fun x : Nat × Bool × EA (Bool × Bool) => x.1 &&& s.rest = x.1 ∧ EAOK (suOK p) x.2.2 ∧ goE (oneM t (eachM t (suS p) f) s place) (candN t s.rest x.1) x.2.1 x.2.2 = ((fE, mE), aE))
            (fun x => ⟨mkT 54 [(0, .fn (.yield 18) [] []), (1, .ptr 16 0 0), (2, .ptr 15 0 0), (4, .int .u8 (x.1 : Nat))], ehS t p s place x.2.1 x.2.2 ++ [some (.dfr true), some (.loop .ready none 0 etS #[32] ca cb 17)], []⟩) (fun x => x.1) (s.rest, false, a) ⟨Nat.and_self _, ha, hE⟩ (.le2 ?_) ?_
          · simp only [etS, ehS, heS, seG, stC, annC, slR, slC, List.cons_append, List.nil_append]; simp (maxSteps := 4000000) only [go_sem, seval]
            try (first | rfl | exact ⟨rfl, rfl⟩)
          · rintro ⟨x, fd, a1⟩ ⟨hx, ha1, hF⟩
            simp only at hx ha1 hF
            by_cases hx0 : x = 0
            · subst hx0
              rw [candN_zero] at hF
              simp only [goE, Prod.mk.injEq] at hF
              obtain ⟨⟨h1, h2⟩, h3⟩ := hF
              subst h1 h2 h3
              rcases hcase with ⟨_, h2, h3, h4⟩ | ⟨h, _⟩
              · subst h2 h3 h4
                simp only [etS, ehS, heS, seG, stC, annC, slR, slC, List.cons_append, List.nil_append]; simp (maxSteps := 4000000) only [go_sem, seval]
                (repeat' (first
    | ((exfalso; omega))
    | (refine awp_seqK ?_)
    | (refine kt ?_)
    | (refine And.intro ?_ ?_)
    | ((first | refine awp_region ?_ | refine awp_draw (by kernel_rfl) (by kernel_rfl) ?_ | refine Imp.le2 ?_ | refine awp_label ?_ | refine awp_skip ?_ | refine awp_exit ?_ | refine awp_cd ?_ | refine awp_ret ?_ | refine go_split (fun _h => ?_) (fun _h => ?_)) <;> try simp (maxSteps := 4000000) only [go_sem, seval])
    | (intro _h)
    | (refine awp_block ?_)
    | (refine awp_scope ?_)
    | (refine cond_b (fun _h => ?_) (fun _h => ?_))
    | (show heapOK _ _ = true; kernel_rfl)
    | (show heapOK2 _ _ = true; kernel_rfl)
    | (omega)))
                all_goals trace_state
              · exact absurd h (by simp)
            · rw [candN_step hx0] at hF
              have hxr : x ≤ s.rest := by
                have : x &&& s.rest ≤ s.rest := Nat.and_le_right
                rw [hx] at this; exact this
              have hxn : x < 2 ^ t.reports.length := by have := hs.rest; omega
              have hx8 : x < 256 := by omega
              have htz := tz_in hx0 hxn hr.2
              have htc := tz_c x hx8
              have hso : (t.reports.getD (tz x) default).slope = slopeO t x := rfl
              have e5 : IntKind.u8.wrap ((x : Int) - 1) = ((x - 1 : Nat) : Int) := sub_nat hx8 hx0
              have e6 : u8and ((x - 1 : Nat) : Int) (s.rest : Nat) = (((x - 1) &&& s.rest : Nat) : Int) := u8and_nat (by omega) h256
              have hax : (x - 1) &&& s.rest ≤ x - 1 := Nat.and_le_left
              have hxx : ((x - 1) &&& s.rest) &&& s.rest = (x - 1) &&& s.rest := by rw [Nat.and_assoc, Nat.and_self]
              simp only [etS, ehS, heS, seG, stC, annC, slR, slC, List.cons_append, List.nil_append]; simp (maxSteps := 4000000) only [go_sem, seval]
              (repeat' (first
    | ((exfalso; omega))
    | ((omega))
    | (refine awp_seqK ?_)
    | (refine kt ?_)
    | (refine And.intro ?_ ?_)
    | ((first | refine awp_region ?_ | refine awp_draw (by kernel_rfl) (by kernel_rfl) ?_ | refine Imp.le2 ?_ | refine awp_label ?_ | refine awp_skip ?_ | refine awp_exit ?_ | refine awp_cd ?_ | refine awp_ret ?_ | refine callK_of (htc) ?_ | refine go_split (fun _h => ?_) (fun _h => ?_)) <;> try simp (maxSteps := 4000000) only [go_sem, seval, hso])
    | (intro _h)
    | (refine awp_block ?_)
    | (refine awp_scope ?_)
    | (refine cond_b (fun _h => ?_) (fun _h => ?_))
    | (show heapOK _ _ = true; kernel_rfl)
    | (show heapOK2 _ _ = true; kernel_rfl)
    | (omega)))
              refine awp_loopN t.reports.length (fun i => ⟨mkT 54 [(0, .fn (.yield 18) [] []), (1, .ptr 16 0 0), (2, .ptr 15 0 0), (4, .int .u8 (x : Nat)), (5, .int .i64 (slopeO t x)), (6, .bool (sameK t x i)), (26, slR t.reports), (27, .int .i64 t.reports.length), (28, .int .i64 i)], ehS t p s place fd a1 ++ [some (.dfr true), some (.loop .ready none 0 etS #[32] ca cb 17)], []⟩) (.le2 ?_) ?_
              · simp only [etS, ehS, heS, seG, stC, annC, slR, slC, List.cons_append, List.nil_append, sameK]; simp (maxSteps := 4000000) only [go_sem, seval]
                try (first | rfl | exact ⟨rfl, rfl⟩)
              · intro i hi
                rcases Nat.lt_or_eq_of_le hi with hi1 | hi1
                · have hin := inS_c x i hx8 (by omega)
                  obtain ⟨q, hq⟩ : ∃ q, sameK t x i = q := ⟨_, rfl⟩
                  obtain ⟨b, hb⟩ : ∃ b, x.testBit i = b := ⟨_, rfl⟩
                  obtain ⟨z, hz⟩ : ∃ z, slopeO t x = z := ⟨_, rfl⟩
                  have hss : sameK t x (i + 1) = (q && (!b || decide ((t.reports.getD i default).slope = z))) := by simp only [sameK, hq, hb, hz]
                  rw [hss, hq, hz]
                  rw [hb] at hin
                  clear hss hq hz hb hF
                  cases q
                  · simp only [etS, ehS, heS, seG, stC, annC, slR, slC, List.cons_append, List.nil_append, Bool.false_and]; simp (maxSteps := 4000000) only [go_sem, seval]
                    (repeat' (first
    | ((exfalso; omega))
    | ((omega))
    | (refine awp_seqK ?_)
    | (refine kt ?_)
    | (refine And.intro ?_ ?_)
    | ((first | refine awp_region ?_ | refine awp_draw (by kernel_rfl) (by kernel_rfl) ?_ | refine Imp.le2 ?_ | refine awp_label ?_ | refine awp_skip ?_ | refine awp_exit ?_ | refine awp_cd ?_ | refine awp_ret ?_ | refine go_split (fun _h => ?_) (fun _h => ?_)) <;> try simp (maxSteps := 4000000) only [go_sem, seval])
    | (intro _h)
    | (refine awp_block ?_)
    | (refine awp_scope ?_)
    | (refine cond_b (fun _h => ?_) (fun _h => ?_))
    | (show heapOK _ _ = true; kernel_rfl)
    | (show heapOK2 _ _ = true; kernel_rfl)
    | (omega)))
                    all_goals trace_state
                  · cases b
                    · simp only [etS, ehS, heS, seG, stC, annC, slR, slC, List.cons_append, List.nil_append, Bool.not_false, Bool.true_or, Bool.true_and]; simp (maxSteps := 4000000) only [go_sem, seval]
                      (repeat' (first
    | ((exfalso; omega))
    | ((omega))
    | (refine awp_seqK ?_)
    | (refine kt ?_)
    | (refine And.intro ?_ ?_)
    | ((first | refine awp_region ?_ | refine awp_draw (by kernel_rfl) (by kernel_rfl) ?_ | refine Imp.le2 ?_ | refine awp_label ?_ | refine awp_skip ?_ | refine awp_exit ?_ | refine awp_cd ?_ | refine awp_ret ?_ | refine callK_of (hin) ?_ | refine go_split (fun _h => ?_) (fun _h => ?_)) <;> try simp (maxSteps := 4000000) only [go_sem, seval])
    | (intro _h)
    | (refine awp_block ?_)
    | (refine awp_scope ?_)
    | (refine cond_b (fun _h => ?_) (fun _h => ?_))
    | (show heapOK _ _ = true; kernel_rfl)
    | (show heapOK2 _ _ = true; kernel_rfl)
    | (omega)))
                      all_goals trace_state
                    · by_cases hsl : (t.reports.getD i default).slope = z
                      · simp only [etS, ehS, heS, seG, stC, annC, slR, slC, List.cons_append, List.nil_append, Bool.not_true, Bool.false_or, Bool.true_and, hsl, decide_true]; simp (maxSteps := 4000000) only [go_sem, seval]
                        (repeat' (first
    | ((exfalso; omega))
    | ((omega))
    | (refine awp_seqK ?_)
    | (refine kt ?_)
    | (refine And.intro ?_ ?_)
    | ((first | refine awp_region ?_ | refine awp_draw (by kernel_rfl) (by kernel_rfl) ?_ | refine Imp.le2 ?_ | refine awp_label ?_ | refine awp_skip ?_ | refine awp_exit ?_ | refine awp_cd ?_ | refine awp_ret ?_ | refine callK_of (hin) ?_ | refine go_split (fun _h => ?_) (fun _h => ?_)) <;> try simp (maxSteps := 4000000) only [go_sem, seval, hsl, decide_true])
    | (intro _h)
    | (refine awp_block ?_)
    | (refine awp_scope ?_)
    | (refine cond_b (fun _h => ?_) (fun _h => ?_))
    | (show heapOK _ _ = true; kernel_rfl)
    | (show heapOK2 _ _ = true; kernel_rfl)
    | (omega)))
                        all_goals trace_state
                      · simp only [etS, ehS, heS, seG, stC, annC, slR, slC, List.cons_append, List.nil_append, Bool.not_true, Bool.false_or, Bool.true_and, hsl, decide_false]; simp (maxSteps := 4000000) only [go_sem, seval]
                        (repeat' (first
    | ((exfalso; omega))
    | ((omega))
    | (refine awp_seqK ?_)
    | (refine kt ?_)
    | (refine And.intro ?_ ?_)
    | ((first | refine awp_region ?_ | refine awp_draw (by kernel_rfl) (by kernel_rfl) ?_ | refine Imp.le2 ?_ | refine awp_label ?_ | refine awp_skip ?_ | refine awp_exit ?_ | refine awp_cd ?_ | refine awp_ret ?_ | refine callK_of (hin) ?_ | refine go_split (fun _h => ?_) (fun _h => ?_)) <;> try simp (maxSteps := 4000000) only [go_sem, seval, hsl, decide_false])
    | (intro _h)
    | (refine awp_block ?_)
    | (refine awp_scope ?_)
    | (refine cond_b (fun _h => ?_) (fun _h => ?_))
    | (show heapOK _ _ = true; kernel_rfl)
    | (show heapOK2 _ _ = true; kernel_rfl)
    | (omega)))
                        all_goals trace_state
                · subst hi1
                  cases hG : sameK t x t.reports.length with
                  | false =>
                    rw [hG, if_neg (by simp)] at hF
                    simp only [etS, ehS, heS, seG, stC, annC, slR, slC, List.cons_append, List.nil_append]; simp (maxSteps := 4000000) only [go_sem, seval]
                    (repeat' (first
    | ((exfalso; omega))
    | ((omega))
    | (refine awp_seqK ?_)
    | (refine kt ?_)
    | (refine And.intro ?_ ?_)
    | ((first | refine awp_region ?_ | refine awp_draw (by kernel_rfl) (by kernel_rfl) ?_ | refine Imp.le2 ?_ | refine awp_label ?_ | refine awp_skip ?_ | refine awp_exit ?_ | refine awp_cd ?_ | refine awp_ret ?_ | refine go_split (fun _h => ?_) (fun _h => ?_)) <;> try simp (maxSteps := 4000000) only [go_sem, seval, e5, e6])
    | (intro _h)
    | (refine awp_block ?_)
    | (refine awp_scope ?_)
    | (refine cond_b (fun _h => ?_) (fun _h => ?_))
    | (show heapOK _ _ = true; kernel_rfl)
    | (show heapOK2 _ _ = true; kernel_rfl)
    | (omega)))
                    refine ⟨((x - 1) &&& s.rest, fd, a1), ⟨hxx, ha1, hF⟩, by simp only; omega, .le2 ?_⟩
                    simp only [etS, ehS, heS, seG, stC, annC, slR, slC, List.cons_append, List.nil_append]; simp (maxSteps := 4000000) only [go_sem, seval]
                    try (first | rfl | exact ⟨rfl, rfl⟩)
                  | true =>
                    rw [hG, if_pos rfl] at hF
                    simp only [goE] at hF
                    have hmay := may_c t s x a1.pl a1.dy a1.K ht hs hx0 hxn
                    obtain ⟨hl1, hl2⟩ := mayS_len ht hs hx0 hxn
                    have hst2 := stt_win hl1 hl2
                    have hsn2 := stt_len hl1 hl2
                    by_cases hm : (mayS t s x).2 = true
                    · obtain ⟨m1, m2, m3⟩ := mayS_ok ht hs hx0 hx hm
                      have h1 : oneM t (eachM t (suS p) f) s place x a1 = eachM t (suS p) f (mayS t s x).1 (place + 1) (putE t x place (mayS t s x).1.day a1) := by unfold oneM; rw [if_pos hm]
                      have hao : EAOK (suOK p) (putE t x place (mayS t s x).1.day a1) := ⟨ha1.1, ha1.2.put hr.2 ⟨hp0, by omega⟩ m3⟩
                      have hih := ih (mayS t s x).1 (place + 1) (putE t x place (mayS t s x).1.day a1) m1 (by omega) (by omega) (by omega) hao
                      have hok1 := eachM_ok (step := (suS p)) ht (su_ok t p) f (mayS t s x).1 (place + 1) (putE t x place (mayS t s x).1.day a1) m1 (by omega) (by omega) hao
                      have hq1 := ha1.2.lpl
                      have hq2 := ha1.2.ldy
                      rw [h1] at hF
                      rw [hm] at hmay
                      clear h1 hao m1 hG
                      generalize (mayS t s x).1 = to at *
                      obtain ⟨⟨⟨he1, mo⟩, a2⟩, hr2⟩ : ∃ r, eachM t (suS p) f to (place + 1) (putE t x place to.day a1) = r := ⟨_, rfl⟩
                      rw [hr2] at hih hF hok1
                      simp only [etS, ehS, heS, seG, stC, annC, slR, slC, List.cons_append, List.nil_append, seC] at hmay
                      simp only at hF hih hok1
                      have hF0 := hF
                      cases mo with
                      | true =>
                        rw [if_pos rfl] at hF
                        simp only [etS, ehS, heS, seG, stC, annC, slR, slC, List.cons_append, List.nil_append]; simp (maxSteps := 4000000) only [go_sem, seval]
                        (repeat' (first
    | ((exfalso; omega))
    | ((omega))
    | ((refine awp_ownN (id := 10) 4 rfl ?_; simp (maxSteps := 4000000) only [go_sem, seval, List.take_succ_cons, List.take_zero]; refine callH_yield true (ehS t p s place (fd || he1) a2 ++ [some (.dfr true), some (.loop .ready none 0 etS #[32] ca cb 17)]) ?_ ?_ <;> simp only [etS, ehS, heS, seG, stC, annC, slR, slC, List.cons_append, List.nil_append] <;> (try simp (maxSteps := 4000000) only [go_sem, seval])))
    | (refine awp_seqK ?_)
    | (refine kt ?_)
    | (refine And.intro ?_ ?_)
    | ((first | refine awp_region ?_ | refine awp_draw (by kernel_rfl) (by kernel_rfl) ?_ | refine Imp.le2 ?_ | refine awp_label ?_ | refine awp_skip ?_ | refine awp_exit ?_ | refine awp_cd ?_ | refine awp_ret ?_ | refine go_split (fun _h => ?_) (fun _h => ?_)) <;> try simp (maxSteps := 4000000) only [go_sem, seval, e5, e6])
    | (intro _h)
    | (refine awp_block ?_)
    | (refine awp_scope ?_)
    | (refine cond_b (fun _h => ?_) (fun _h => ?_))
    | (show heapOK _ _ = true; kernel_rfl)
    | (show heapOK2 _ _ = true; kernel_rfl)
    | (omega)))
                        · refine semY_of_awpZ rfl rfl ?_
                          intro B w0 l m w
                          refine awp_code hca ?_
                          (repeat' (first
    | (refine awp_seqK ?_)
    | (refine kt ?_)
    | (refine And.intro ?_ ?_)
    | ((first | refine awp_region ?_ | refine awp_draw (by kernel_rfl) (by kernel_rfl) ?_ | refine Imp.le2 ?_ | refine awp_label ?_ | refine awp_skip ?_ | refine awp_exit ?_ | refine awp_cd ?_ | refine awp_ret ?_ | refine go_split (fun _h => ?_) (fun _h => ?_)) <;> try simp (maxSteps := 4000000) only [go_sem, seval])
    | (intro _h)
    | (refine awp_block ?_)
    | (refine awp_scope ?_)
    | (refine cond_b (fun _h => ?_) (fun _h => ?_))
    | (show heapOK _ _ = true; kernel_rfl)
    | (show heapOK2 _ _ = true; kernel_rfl)
    | (omega)))
                          refine awp_code hcb ?_
                          (repeat' (first
    | (refine awp_ownN 3 rfl ?_; simp (maxSteps := 4000000) only [go_sem, seval, List.take_succ_cons, List.take_zero, hst, hsn, hst2, hsn2]; (repeat refine And.intro (by omega) ?_); refine own_go (hmay) [7, 6] rfl ?_ ?_ ?_ ?_ <;> try simp (maxSteps := 4000000) only [go_sem, seval, Nat.lt_irrefl, hst, hsn, hst2, hsn2] <;> try decide)
    | (refine awp_seqK ?_)
    | (refine kt ?_)
    | (refine And.intro ?_ ?_)
    | ((first | refine awp_region ?_ | refine awp_draw (by kernel_rfl) (by kernel_rfl) ?_ | refine Imp.le2 ?_ | refine awp_label ?_ | refine awp_skip ?_ | refine awp_exit ?_ | refine awp_cd ?_ | refine awp_ret ?_ | refine go_split (fun _h => ?_) (fun _h => ?_)) <;> try simp (maxSteps := 4000000) only [go_sem, seval, hst, hsn, hst2, hsn2])
    | (intro _h)
    | (refine awp_block ?_)
    | (refine awp_scope ?_)
    | (refine cond_b (fun _h => ?_) (fun _h => ?_))
    | (show heapOK _ _ = true; kernel_rfl)
    | (show heapOK2 _ _ = true; kernel_rfl)
    | (omega)))
                          refine awp_loopN t.reports.length (fun j => ⟨mkT 88 [(2, .ptr 5 0 0), (3, .ptr 8 0 0), (4, .ptr 4 0 0), (5, .ptr 9 0 0), (6, .ptr 10 0 0), (7, .ptr 11 0 0), (8, .ptr 12 0 0), (9, .ptr 13 0 0), (10, .ptr 14 0 0), (11, .int .u8 (x : Nat)), (12, .ptr 19 0 0), (44, .int .i64 t.reports.length), (45, .int .i64 j)], ehS t p s place fd ⟨a1.v, wrM x place j a1.pl, wrM x to.day j a1.dy, a1.K⟩ ++ [some (.dfr true), some (.loop .busy none 0 etS #[32] ca cb 17), some (.cells 136 1 0 (stC to))], []⟩) (.le2 ?_) ?_
                          · simp only [etS, ehS, heS, seG, stC, annC, slR, slC, List.cons_append, List.nil_append, wrM]; simp (maxSteps := 4000000) only [go_sem, seval]
                            try (first | rfl | exact ⟨rfl, rfl⟩)
                          · intro j hj
                            have hS1 := wrM_length (now := x) (x := place) (l := a1.pl) (k := j) (by rw [hq1]; omega)
                            have hF1 := wrM_length (now := x) (x := to.day) (l := a1.dy) (k := j) (by rw [hq2]; omega)
                            rw [hq1] at hS1
                            rw [hq2] at hF1
                            rcases Nat.lt_or_eq_of_le hj with hj1 | hj1
                            · have hin := inS_c x j hx8 (by omega)
                              simp only [wrM]
                              generalize wrM x place j a1.pl = S1 at *
                              generalize wrM x to.day j a1.dy = F1 at *
                              have hss := fun x y z u v => ss_pl (x := x) (y := y) (z := z) (u := u) (S := S1) (F := F1) (i := j) (v := v) (by omega)
                              have hsd := fun x y z u v w => ss_dy (x := x) (y := y) (z := z) (u := u) (S := isp S1 j v) (F := F1) (i := j) (v := w) (by rw [isp_length (by omega)]; exact hS1) (by omega)
                              have hle1 := se_len hS1 hF1
                              have hle2 := fun v => se_len (S := isp S1 j v) (F := F1) (by rw [isp_length (by omega)]; exact hS1) hF1
                              generalize x.testBit j = b at *
                              cases b
                              · simp only [etS, ehS, heS, seG, stC, annC, slR, slC, List.cons_append, List.nil_append, Bool.false_eq_true, if_false]; simp (maxSteps := 4000000) only [go_sem, seval]
                                (repeat' (first
    | ((exfalso; omega))
    | ((omega))
    | (refine awp_seqK ?_)
    | (refine kt ?_)
    | (refine And.intro ?_ ?_)
    | ((first | refine awp_region ?_ | refine awp_draw (by kernel_rfl) (by kernel_rfl) ?_ | refine Imp.le2 ?_ | refine awp_label ?_ | refine awp_skip ?_ | refine awp_exit ?_ | refine awp_cd ?_ | refine awp_ret ?_ | refine callK_of (hin) ?_ | refine go_split (fun _h => ?_) (fun _h => ?_)) <;> try simp (maxSteps := 4000000) only [go_sem, seval])
    | (intro _h)
    | (refine awp_block ?_)
    | (refine awp_scope ?_)
    | (refine cond_b (fun _h => ?_) (fun _h => ?_))
    | (show heapOK _ _ = true; kernel_rfl)
    | (show heapOK2 _ _ = true; kernel_rfl)
    | (omega)))
                                all_goals trace_state
                              · simp only [etS, ehS, heS, seG, stC, annC, slR, slC, List.cons_append, List.nil_append, if_true]; simp (maxSteps := 4000000) only [go_sem, seval]
                                (repeat' (first
    | ((exfalso; omega))
    | ((omega))
    | (refine awp_seqK ?_)
    | (refine kt ?_)
    | (refine And.intro ?_ ?_)
    | ((first | refine awp_region ?_ | refine awp_draw3 (by kernel_rfl) (by kernel_rfl) ?_ | refine Imp.le2 ?_ | refine awp_label ?_ | refine awp_skip ?_ | refine awp_exit ?_ | refine awp_cd ?_ | refine awp_ret ?_ | refine callK_of (hin) ?_ | refine go_split (fun _h => ?_) (fun _h => ?_)) <;> try simp (maxSteps := 4000000) only [go_sem, seval, hss, hsd, hle1, hle2])
    | (intro _h)
    | (refine awp_block ?_)
    | (refine awp_scope ?_)
    | (refine cond_b (fun _h => ?_) (fun _h => ?_))
    | (show heapOK3 _ _ _ = true; kernel_rfl)
    | (show heapOK _ _ = true; kernel_rfl)
    | (show heapOK2 _ _ = true; kernel_rfl)
    | (omega)))
                                all_goals trace_state
                            · subst hj1
                              simp only [putE] at hih
                              generalize wrM x place t.reports.length a1.pl = S1 at *
                              generalize wrM x to.day t.reports.length a1.dy = F1 at *
                              clear hF hF0
                              cases fd
                              all_goals
                                simp only [etS, ehS, heS, seG, stC, annC, slR, slC, List.cons_append, List.nil_append, Bool.true_or, Bool.false_or] at hih ⊢
                                simp (maxSteps := 4000000) only [go_sem, seval]
                                (repeat' (first
    | (refine awp_ownN 4 rfl ?_; simp (maxSteps := 4000000) only [go_sem, seval, List.take_succ_cons, List.take_zero, hst2, hsn2]; (repeat refine And.intro (by omega) ?_); refine own_go (hih) [0, 1, 2, 3, 4, 5, 6, 7, 8, 9, 10] rfl ?_ ?_ ?_ ?_ <;> try simp (maxSteps := 4000000) only [go_sem, seval, Nat.lt_irrefl, hst2, hsn2] <;> try decide)
    | ((exfalso; omega))
    | ((omega))
    | (refine awp_seqK ?_)
    | (refine kt ?_)
    | (refine And.intro ?_ ?_)
    | ((first | refine awp_region ?_ | refine awp_draw (by kernel_rfl) (by kernel_rfl) ?_ | refine Imp.le2 ?_ | refine awp_label ?_ | refine awp_skip ?_ | refine awp_exit ?_ | refine awp_cd ?_ | refine awp_ret ?_ | refine go_split (fun _h => ?_) (fun _h => ?_)) <;> try simp (maxSteps := 4000000) only [go_sem, seval, hst2, hsn2])
    | (intro _h)
    | (refine awp_block ?_)
    | (refine awp_scope ?_)
    | (refine cond_b (fun _h => ?_) (fun _h => ?_))
    | (show heapOK _ _ = true; kernel_rfl)
    | (show heapOK2 _ _ = true; kernel_rfl)
    | (omega)))
                              all_goals first | (rw [_h]; done) | trace_state
                        · refine ⟨((x - 1) &&& s.rest, fd || he1, a2), ⟨hxx, hok1, hF⟩, by simp only; omega, .le2 ?_⟩
                          simp only [etS, ehS, heS, seG, stC, annC, slR, slC, List.cons_append, List.nil_append]; simp (maxSteps := 4000000) only [go_sem, seval]
                          try (first | rfl | exact ⟨rfl, rfl⟩)
                      | false =>
                        rw [if_neg (by simp)] at hF
                        simp only [Prod.mk.injEq] at hF
                        obtain ⟨⟨g1, g2⟩, g3⟩ := hF
                        rcases hcase with ⟨h, _⟩ | ⟨_, h2, h3, h4⟩
                        · rw [h] at g2; cases g2
                        subst g1 g2 g3 h2 h3 h4
                        have hF := hF0
                        simp only [etS, ehS, heS, seG, stC, annC, slR, slC, List.cons_append, List.nil_append]; simp (maxSteps := 4000000) only [go_sem, seval]
                        (repeat' (first
    | ((exfalso; omega))
    | ((omega))
    | ((refine awp_ownN (id := 10) 4 rfl ?_; simp (maxSteps := 4000000) only [go_sem, seval, List.take_succ_cons, List.take_zero]; refine callH_yield false (ehS t p s place (fd || he1) a2 ++ [some (.dfr true), some (.loop .done (some .ret) 0 etS #[32] ca cb 17)]) ?_ ?_ <;> simp only [etS, ehS, heS, seG, stC, annC, slR, slC, List.cons_append, List.nil_append] <;> (try simp (maxSteps := 4000000) only [go_sem, seval])))
    | (refine awp_seqK ?_)
    | (refine kt ?_)
    | (refine And.intro ?_ ?_)
    | ((first | refine awp_region ?_ | refine awp_draw (by kernel_rfl) (by kernel_rfl) ?_ | refine Imp.le2 ?_ | refine awp_label ?_ | refine awp_skip ?_ | refine awp_exit ?_ | refine awp_cd ?_ | refine awp_ret ?_ | refine go_split (fun _h => ?_) (fun _h => ?_)) <;> try simp (maxSteps := 4000000) only [go_sem, seval, e5, e6])
    | (intro _h)
    | (refine awp_block ?_)
    | (refine awp_scope ?_)
    | (refine cond_b (fun _h => ?_) (fun _h => ?_))
    | (show heapOK _ _ = true; kernel_rfl)
    | (show heapOK2 _ _ = true; kernel_rfl)
    | (omega)))
                        · refine semY_of_awpZ rfl rfl ?_
                          intro B w0 l m w
                          refine awp_code hca ?_
                          (repeat' (first
    | (refine awp_seqK ?_)
    | (refine kt ?_)
    | (refine And.intro ?_ ?_)
    | ((first | refine awp_region ?_ | refine awp_draw (by kernel_rfl) (by kernel_rfl) ?_ | refine Imp.le2 ?_ | refine awp_label ?_ | refine awp_skip ?_ | refine awp_exit ?_ | refine awp_cd ?_ | refine awp_ret ?_ | refine go_split (fun _h => ?_) (fun _h => ?_)) <;> try simp (maxSteps := 4000000) only [go_sem, seval])
    | (intro _h)
    | (refine awp_block ?_)
    | (refine awp_scope ?_)
    | (refine cond_b (fun _h => ?_) (fun _h => ?_))
    | (show heapOK _ _ = true; kernel_rfl)
    | (show heapOK2 _ _ = true; kernel_rfl)
    | (omega)))
                          refine awp_code hcb ?_
                          (repeat' (first
    | (refine awp_ownN 3 rfl ?_; simp (maxSteps := 4000000) only [go_sem, seval, List.take_succ_cons, List.take_zero, hst, hsn, hst2, hsn2]; (repeat refine And.intro (by omega) ?_); refine own_go (hmay) [7, 6] rfl ?_ ?_ ?_ ?_ <;> try simp (maxSteps := 4000000) only [go_sem, seval, Nat.lt_irrefl, hst, hsn, hst2, hsn2] <;> try decide)
    | (refine awp_seqK ?_)
    | (refine kt ?_)
    | (refine And.intro ?_ ?_)
    | ((first | refine awp_region ?_ | refine awp_draw (by kernel_rfl) (by kernel_rfl) ?_ | refine Imp.le2 ?_ | refine awp_label ?_ | refine awp_skip ?_ | refine awp_exit ?_ | refine awp_cd ?_ | refine awp_ret ?_ | refine go_split (fun _h => ?_) (fun _h => ?_)) <;> try simp (maxSteps := 4000000) only [go_sem, seval, hst, hsn, hst2, hsn2])
    | (intro _h)
    | (refine awp_block ?_)
    | (refine awp_scope ?_)
    | (refine cond_b (fun _h => ?_) (fun _h => ?_))
    | (show heapOK _ _ = true; kernel_rfl)
    | (show heapOK2 _ _ = true; kernel_rfl)
    | (omega)))
                          refine awp_loopN t.reports.length (fun j => ⟨mkT 88 [(2, .ptr 5 0 0), (3, .ptr 8 0 0), (4, .ptr 4 0 0), (5, .ptr 9 0 0), (6, .ptr 10 0 0), (7, .ptr 11 0 0), (8, .ptr 12 0 0), (9, .ptr 13 0 0), (10, .ptr 14 0 0), (11, .int .u8 (x : Nat)), (12, .ptr 19 0 0), (44, .int .i64 t.reports.length), (45, .int .i64 j)], ehS t p s place fd ⟨a1.v, wrM x place j a1.pl, wrM x to.day j a1.dy, a1.K⟩ ++ [some (.dfr true), some (.loop .busy none 0 etS #[32] ca cb 17), some (.cells 136 1 0 (stC to))], []⟩) (.le2 ?_) ?_
                          · simp only [etS, ehS, heS, seG, stC, annC, slR, slC, List.cons_append, List.nil_append, wrM]; simp (maxSteps := 4000000) only [go_sem, seval]
                            try (first | rfl | exact ⟨rfl, rfl⟩)
                          · intro j hj
                            have hS1 := wrM_length (now := x) (x := place) (l := a1.pl) (k := j) (by rw [hq1]; omega)
                            have hF1 := wrM_length (now := x) (x := to.day) (l := a1.dy) (k := j) (by rw [hq2]; omega)
                            rw [hq1] at hS1
                            rw [hq2] at hF1
                            rcases Nat.lt_or_eq_of_le hj with hj1 | hj1
                            · have hin := inS_c x j hx8 (by omega)
                              simp only [wrM]
                              generalize wrM x place j a1.pl = S1 at *
                              generalize wrM x to.day j a1.dy = F1 at *
                              have hss := fun x y z u v => ss_pl (x := x) (y := y) (z := z) (u := u) (S := S1) (F := F1) (i := j) (v := v) (by omega)
                              have hsd := fun x y z u v w => ss_dy (x := x) (y := y) (z := z) (u := u) (S := isp S1 j v) (F := F1) (i := j) (v := w) (by rw [isp_length (by omega)]; exact hS1) (by omega)
                              have hle1 := se_len hS1 hF1
                              have hle2 := fun v => se_len (S := isp S1 j v) (F := F1) (by rw [isp_length (by omega)]; exact hS1) hF1
                              generalize x.testBit j = b at *
                              cases b
                              · simp only [etS, ehS, heS, seG, stC, annC, slR, slC, List.cons_append, List.nil_append, Bool.false_eq_true, if_false]; simp (maxSteps := 4000000) only [go_sem, seval]
                                (repeat' (first
    | ((exfalso; omega))
    | ((omega))
    | (refine awp_seqK ?_)
    | (refine kt ?_)
    | (refine And.intro ?_ ?_)
    | ((first | refine awp_region ?_ | refine awp_draw (by kernel_rfl) (by kernel_rfl) ?_ | refine Imp.le2 ?_ | refine awp_label ?_ | refine awp_skip ?_ | refine awp_exit ?_ | refine awp_cd ?_ | refine awp_ret ?_ | refine callK_of (hin) ?_ | refine go_split (fun _h => ?_) (fun _h => ?_)) <;> try simp (maxSteps := 4000000) only [go_sem, seval])
    | (intro _h)
    | (refine awp_block ?_)
    | (refine awp_scope ?_)
    | (refine cond_b (fun _h => ?_) (fun _h => ?_))
    | (show heapOK _ _ = true; kernel_rfl)
    | (show heapOK2 _ _ = true; kernel_rfl)
    | (omega)))
                                all_goals trace_state
                              · simp only [etS, ehS, heS, seG, stC, annC, slR, slC, List.cons_append, List.nil_append, if_true]; simp (maxSteps := 4000000) only [go_sem, seval]
                                (repeat' (first
    | ((exfalso; omega))
    | ((omega))
    | (refine awp_seqK ?_)
    | (refine kt ?_)
    | (refine And.intro ?_ ?_)
    | ((first | refine awp_region ?_ | refine awp_draw3 (by kernel_rfl) (by kernel_rfl) ?_ | refine Imp.le2 ?_ | refine awp_label ?_ | refine awp_skip ?_ | refine awp_exit ?_ | refine awp_cd ?_ | refine awp_ret ?_ | refine callK_of (hin) ?_ | refine go_split (fun _h => ?_) (fun _h => ?_)) <;> try simp (maxSteps := 4000000) only [go_sem, seval, hss, hsd, hle1, hle2])
    | (intro _h)
    | (refine awp_block ?_)
    | (refine awp_scope ?_)
    | (refine cond_b (fun _h => ?_) (fun _h => ?_))
    | (show heapOK3 _ _ _ = true; kernel_rfl)
    | (show heapOK _ _ = true; kernel_rfl)
    | (show heapOK2 _ _ = true; kernel_rfl)
    | (omega)))
                                all_goals trace_state
                            · subst hj1
                              simp only [putE] at hih
                              generalize wrM x place t.reports.length a1.pl = S1 at *
                              generalize wrM x to.day t.reports.length a1.dy = F1 at *
                              clear hF hF0
                              cases fd
                              all_goals
                                simp only [etS, ehS, heS, seG, stC, annC, slR, slC, List.cons_append, List.nil_append, Bool.true_or, Bool.false_or] at hih ⊢
                                simp (maxSteps := 4000000) only [go_sem, seval]
                                (repeat' (first
    | (refine awp_ownN 4 rfl ?_; simp (maxSteps := 4000000) only [go_sem, seval, List.take_succ_cons, List.take_zero, hst2, hsn2]; (repeat refine And.intro (by omega) ?_); refine own_go (hih) [0, 1, 2, 3, 4, 5, 6, 7, 8, 9, 10] rfl ?_ ?_ ?_ ?_ <;> try simp (maxSteps := 4000000) only [go_sem, seval, Nat.lt_irrefl, hst2, hsn2] <;> try decide)
    | ((exfalso; omega))
    | ((omega))
    | (refine awp_seqK ?_)
    | (refine kt ?_)
    | (refine And.intro ?_ ?_)
    | ((first | refine awp_region ?_ | refine awp_draw (by kernel_rfl) (by kernel_rfl) ?_ | refine Imp.le2 ?_ | refine awp_label ?_ | refine awp_skip ?_ | refine awp_exit ?_ | refine awp_cd ?_ | refine awp_ret ?_ | refine go_split (fun _h => ?_) (fun _h => ?_)) <;> try simp (maxSteps := 4000000) only [go_sem, seval, hst2, hsn2])
    | (intro _h)
    | (refine awp_block ?_)
    | (refine awp_scope ?_)
    | (refine cond_b (fun _h => ?_) (fun _h => ?_))
    | (show heapOK _ _ = true; kernel_rfl)
    | (show heapOK2 _ _ = true; kernel_rfl)
    | (omega)))
                              all_goals first | (rw [_h]; done) | trace_state
                        all_goals trace_state
                    · have h1 : oneM t (eachM t (suS p) f) s place x a1 = ((false, true), a1) := by unfold oneM; rw [if_neg hm]
                      rw [h1] at hF
                      simp only [if_true, Bool.or_false] at hF
                      rw [Bool.not_eq_true] at hm
                      rw [hm] at hmay
                      generalize (mayS t s x).1 = to at *
                      simp only [etS, ehS, heS, seG, stC, annC, slR, slC, List.cons_append, List.nil_append, seC] at hmay ⊢
                      simp (maxSteps := 4000000) only [go_sem, seval]
                      (repeat' (first
    | ((exfalso; omega))
    | ((omega))
    | ((refine awp_ownN (id := 10) 4 rfl ?_; simp (maxSteps := 4000000) only [go_sem, seval, List.take_succ_cons, List.take_zero]; refine callH_yield true (ehS t p s place fd a1 ++ [some (.dfr true), some (.loop .ready none 0 etS #[32] ca cb 17)]) ?_ ?_ <;> simp only [etS, ehS, heS, seG, stC, annC, slR, slC, List.cons_append, List.nil_append] <;> (try simp (maxSteps := 4000000) only [go_sem, seval])))
    | (refine awp_seqK ?_)
    | (refine kt ?_)
    | (refine And.intro ?_ ?_)
    | ((first | refine awp_region ?_ | refine awp_draw (by kernel_rfl) (by kernel_rfl) ?_ | refine Imp.le2 ?_ | refine awp_label ?_ | refine awp_skip ?_ | refine awp_exit ?_ | refine awp_cd ?_ | refine awp_ret ?_ | refine go_split (fun _h => ?_) (fun _h => ?_)) <;> try simp (maxSteps := 4000000) only [go_sem, seval, e5, e6])
    | (intro _h)
    | (refine awp_block ?_)
    | (refine awp_scope ?_)
    | (refine cond_b (fun _h => ?_) (fun _h => ?_))
    | (show heapOK _ _ = true; kernel_rfl)
    | (show heapOK2 _ _ = true; kernel_rfl)
    | (omega)))
                      · refine semY_of_awpZ rfl rfl ?_
                        intro B w0 l m w
                        refine awp_code hca ?_
                        (repeat' (first
    | (refine awp_seqK ?_)
    | (refine kt ?_)
    | (refine And.intro ?_ ?_)
    | ((first | refine awp_region ?_ | refine awp_draw (by kernel_rfl) (by kernel_rfl) ?_ | refine Imp.le2 ?_ | refine awp_label ?_ | refine awp_skip ?_ | refine awp_exit ?_ | refine awp_cd ?_ | refine awp_ret ?_ | refine go_split (fun _h => ?_) (fun _h => ?_)) <;> try simp (maxSteps := 4000000) only [go_sem, seval])
    | (intro _h)
    | (refine awp_block ?_)
    | (refine awp_scope ?_)
    | (refine cond_b (fun _h => ?_) (fun _h => ?_))
    | (show heapOK _ _ = true; kernel_rfl)
    | (show heapOK2 _ _ = true; kernel_rfl)
    | (omega)))
                        refine awp_code hcb ?_
                        (repeat' (first
    | (refine awp_ownN 3 rfl ?_; simp (maxSteps := 4000000) only [go_sem, seval, List.take_succ_cons, List.take_zero, hst, hsn, hst2, hsn2]; (repeat refine And.intro (by omega) ?_); refine own_go (hmay) [7, 6] rfl ?_ ?_ ?_ ?_ <;> try simp (maxSteps := 4000000) only [go_sem, seval, Nat.lt_irrefl, hst, hsn, hst2, hsn2] <;> try decide)
    | (refine awp_seqK ?_)
    | (refine kt ?_)
    | (refine And.intro ?_ ?_)
    | ((first | refine awp_region ?_ | refine awp_draw (by kernel_rfl) (by kernel_rfl) ?_ | refine Imp.le2 ?_ | refine awp_label ?_ | refine awp_skip ?_ | refine awp_exit ?_ | refine awp_cd ?_ | refine awp_ret ?_ | refine go_split (fun _h => ?_) (fun _h => ?_)) <;> try simp (maxSteps := 4000000) only [go_sem, seval, hst, hsn, hst2, hsn2])
    | (intro _h)
    | (refine awp_block ?_)
    | (refine awp_scope ?_)
    | (refine cond_b (fun _h => ?_) (fun _h => ?_))
    | (show heapOK _ _ = true; kernel_rfl)
    | (show heapOK2 _ _ = true; kernel_rfl)
    | (omega)))
                        all_goals trace_state
                      · refine ⟨((x - 1) &&& s.rest, fd, a1), ⟨hxx, ha1, hF⟩, by simp only; omega, .le2 ?_⟩
                        simp only [etS, ehS, heS, seG, stC, annC, slR, slC, List.cons_append, List.nil_append]; simp (maxSteps := 4000000) only [go_sem, seval]
                        try (first | rfl | exact ⟨rfl, rfl⟩)
        · rfl
        · rcases hcase with ⟨_, h, _, _⟩ | ⟨_, h, _, _⟩ <;> (rw [h]; simp)
        · rcases hcase with ⟨_, _, h1, h2⟩ | ⟨_, _, h1, h2⟩ <;> (rw [h1, h2]; rfl)
        · rcases hcase with ⟨h1, h2, h3, h4⟩ | ⟨h1, h2, h3, h4⟩
          · subst h1 h2 h3 h4
            have e3 : (endM s ((fE, true), aE)).2 = { aE with K := gmPut aE.K ⟨s, hs.sl, hs.fl⟩ (!fE) } := by
              unfold endM putS; rw [if_pos rfl, dif_pos ⟨hs.sl, hs.fl⟩]
            rw [e3]
            have hmu1 := fun (f : List (AV × AV) → Prop) => mup_km (m := aE.K) (k := ⟨s, hs.sl, hs.fl⟩) (v := true) (f := f)
            have hmu2 := fun (f : List (AV × AV) → Prop) => mup_km (m := aE.K) (k := ⟨s, hs.sl, hs.fl⟩) (v := false) (f := f)
            simp only [keyV, stC] at hmu1 hmu2
            cases fE
            all_goals
              simp only [Bool.not_true, Bool.not_false]
              simp only [etS, ehS, heS, seG, stC, annC, slR, slC, List.cons_append, List.nil_append]; simp (maxSteps := 4000000) only [go_sem, seval]
              (repeat' (first
    | ((exact hkey _ _))
    | (refine awp_seqK ?_)
    | (refine kt ?_)
    | (refine And.intro ?_ ?_)
    | ((first | refine awp_region ?_ | refine awp_draw (by kernel_rfl) (by kernel_rfl) ?_ | refine Imp.le2 ?_ | refine awp_label ?_ | refine awp_skip ?_ | refine awp_exit ?_ | refine awp_cd ?_ | refine awp_ret ?_ | refine go_split (fun _h => ?_) (fun _h => ?_)) <;> try simp (maxSteps := 4000000) only [go_sem, seval, hst, hsn, hmu1, hmu2])
    | (intro _h)
    | (refine awp_block ?_)
    | (refine awp_scope ?_)
    | (refine cond_b (fun _h => ?_) (fun _h => ?_))
    | (show heapOK _ _ = true; kernel_rfl)
    | (show heapOK2 _ _ = true; kernel_rfl)
    | (omega)))
            all_goals trace_state
          · subst h1 h2 h3 h4
            have e3 : (endM s ((fE, false), aE)).2 = aE := by
              unfold endM; rw [if_neg (by simp)]
            rw [e3]
            simp only [etS, ehS, heS, seG, stC, annC, slR, slC, List.cons_append, List.nil_append]; simp (maxSteps := 4000000) only [go_sem, seval]
            (repeat' (first
    | (refine awp_seqK ?_)
    | (refine kt ?_)
    | (refine And.intro ?_ ?_)
    | ((first | refine awp_region ?_ | refine awp_draw (by kernel_rfl) (by kernel_rfl) ?_ | refine Imp.le2 ?_ | refine awp_label ?_ | refine awp_skip ?_ | refine awp_exit ?_ | refine awp_cd ?_ | refine awp_ret ?_ | refine go_split (fun _h => ?_) (fun _h => ?_)) <;> try simp (maxSteps := 4000000) only [go_sem, seval])
    | (intro _h)
    | (refine awp_block ?_)
    | (refine awp_scope ?_)
    | (refine cond_b (fun _h => ?_) (fun _h => ?_))
    | (show heapOK _ _ = true; kernel_rfl)
    | (show heapOK2 _ _ = true; kernel_rfl)
    | (omega)))
            all_goals trace_state
end Go.Am

/- Contracts of the annals functions: all orders of slides, from the beginning (printed by gtue.py). -/
namespace Go.Am
open Go.RowKit Go.Proofs
attribute [local irreducible] AWP CallS Kt goK CallK stepK evOps SemF SemY Imp
set_option maxRecDepth 4000
set_option linter.unusedSimpArgs false
set_option linter.unusedVariables false
set_option maxHeartbeats 6400000
theorem allS_c (t : Ann) (p : SuP) (ht : AnnOK t) (hV : suIn t p) (v : Bool × Bool) (hv : (suOK p) v) : SemF Try.prog 51 [.agg (annC t), .fn (.func 64) [] [.ptr 0 0 0, .ptr 1 0 0, .ptr 2 0 0, .ptr 3 0 0]] [some (.cells 3 1 0 [.int .i64 p.a]), some (.cells 3 1 0 [.int .i64 p.b]), some (.cells 4 1 0 [.bool v.1]), some (.cells 4 1 0 [.bool v.2])] (.tup []) [some (.cells 3 1 0 [.int .i64 p.a]), some (.cells 3 1 0 [.int .i64 p.b]), some (.cells 4 1 0 [.bool (allM t (suS p) v).2.v.1]), some (.cells 4 1 0 [.bool (allM t (suS p) v).2.v.2])] := by
  have h128 : (begS t).rest < 128 := by
    show 2 ^ t.reports.length - 1 < 128
    have : 2 ^ t.reports.length ≤ 2 ^ 7 := Nat.pow_le_pow_right (by omega) ht.reports.2
    omega
  have hm := eachS_c t p ht hV 128 (begS t) 0 ⟨v, zer7, zer7, []⟩ (begS_ok ht) h128 (Int.le_refl _) (by omega) ⟨hv, zer_ok⟩
  have hbe := begin_c t ht.reports.2
  have hz : (ints zer7 ++ ints zer7) = [.int .i64 0, .int .i64 0, .int .i64 0, .int .i64 0, .int .i64 0, .int .i64 0, .int .i64 0, .int .i64 0, .int .i64 0, .int .i64 0, .int .i64 0, .int .i64 0, .int .i64 0, .int .i64 0] := rfl
  unfold allM
  generalize (eachM t (suS p) 128 (begS t) 0 ⟨v, zer7, zer7, []⟩) = R at *
  obtain ⟨⟨f1, m1⟩, vE, plE, dyE, KE⟩ := R
  simp only [heS, seG, hz, kmC_nil2, annC, slR, slC, List.cons_append, List.nil_append] at hm hbe ⊢
  generalize (begS t) = st at *
  simp only [stC] at hm hbe
  (refine semF_of_awp (ys := []) (fun w args => Try.call51 ..) Try.func51 rfl (fun w0 m0 wz => ?_); simp only [Try.ntmps51, Try.results51, initT, junks, rptC, clmC, slR, slC, annC, sl, List.toList_toArray, List.cons_append, List.nil_append, List.length_cons, List.length_nil, Nat.reduceAdd, Nat.reduceSub])
  (repeat' (first
    | (refine awp_seqK ?_)
    | (refine kt ?_)
    | (refine And.intro ?_ ?_)
    | ((first | refine awp_region ?_ | refine Imp.le2 ?_ | refine awp_label ?_ | refine awp_skip ?_ | refine awp_exit ?_ | refine awp_cd ?_ | refine awp_ret ?_ | refine go_split (fun _h => ?_) (fun _h => ?_)) <;> try simp (maxSteps := 4000000) only [go_sem, seval])
    | (intro _h)
    | (refine awp_block ?_)
    | (refine awp_scope ?_)
    | (refine cond_b (fun _h => ?_) (fun _h => ?_))
    | (show heapOK _ _ = true; kernel_rfl)
    | (show heapOK2 _ _ = true; kernel_rfl)
    | (omega)))
  ((repeat refine awp_seqK ?_); refine awp_draws [(3, [2, 3, 6, 7])] (by kernel_rfl) (by kernel_rfl) ?_; simp (maxSteps := 4000000) only [go_sem, seval, sg_cons, sg_nil, List.take_succ_cons, List.take_zero, List.drop_succ_cons, List.drop_zero])
  (repeat' (first
    | (refine awp_seqK ?_)
    | (refine kt ?_)
    | (refine And.intro ?_ ?_)
    | ((first | refine awp_region ?_ | refine Imp.le2 ?_ | refine awp_label ?_ | refine awp_skip ?_ | refine awp_exit ?_ | refine awp_cd ?_ | refine awp_ret ?_ | refine callK_of (hbe) ?_ | refine go_split (fun _h => ?_) (fun _h => ?_)) <;> try simp (maxSteps := 4000000) only [go_sem, seval])
    | (intro _h)
    | (refine awp_block ?_)
    | (refine awp_scope ?_)
    | (refine cond_b (fun _h => ?_) (fun _h => ?_))
    | (show heapOK _ _ = true; kernel_rfl)
    | (show heapOK2 _ _ = true; kernel_rfl)
    | (omega)))
  (refine own_go (hm) [0, 1, 2, 3, 4, 5, 6, 7, 8, 9, 10] rfl (by simp (maxSteps := 4000000) only [go_sem, seval]) (by simp (maxSteps := 4000000) only [go_sem, seval, Nat.lt_irrefl] <;> decide) (by simp (maxSteps := 4000000) only [go_sem, seval]) ?_; simp (maxSteps := 4000000) only [go_sem, seval]; refine And.intro (frm_of (by repeat (first | exact rfl | exact ⟨_, rfl⟩ | refine And.intro ?_ ?_))) ?_; try simp (maxSteps := 4000000) only [go_sem, seval, sg_cons, sg_nil, List.take_succ_cons, List.take_zero, List.drop_succ_cons, List.drop_zero])
  (repeat' (first
    | (refine awp_seqK ?_)
    | (refine kt ?_)
    | (refine And.intro ?_ ?_)
    | ((first | refine awp_region ?_ | refine Imp.le2 ?_ | refine awp_label ?_ | refine awp_skip ?_ | refine awp_exit ?_ | refine awp_cd ?_ | refine awp_ret ?_ | refine go_split (fun _h => ?_) (fun _h => ?_)) <;> try simp (maxSteps := 4000000) only [go_sem, seval])
    | (intro _h)
    | (refine awp_block ?_)
    | (refine awp_scope ?_)
    | (refine cond_b (fun _h => ?_) (fun _h => ?_))
    | (show heapOK _ _ = true; kernel_rfl)
    | (show heapOK2 _ _ = true; kernel_rfl)
    | (omega)))
  all_goals trace_state
end Go.Am

/- Contracts of the annals functions: Surely. -/
namespace Go.Am
open Go.RowKit Go.Proofs
attribute [local irreducible] AWP CallS Kt goK CallK stepK evOps SemF SemY Imp
set_option maxRecDepth 4000
set_option linter.unusedSimpArgs false
set_option linter.unusedVariables false
set_option maxHeartbeats 1600000
def sureE (t : Ann) (a b : Int) : Int := if faultA t = 0 then (if (0 ≤ a ∧ a < t.reports.length) ∧ (0 ≤ b ∧ b < t.reports.length) ∧ a ≠ b then (if suV t ⟨a, b⟩ = (false, false) then 9 else 0) else 2) else faultA t
def sureV (t : Ann) (a b : Int) : Int := if sureE t a b = 0 then (if (suV t ⟨a, b⟩).1 = true then (if (suV t ⟨a, b⟩).2 = true then 3 else 1) else 2) else 0
theorem Surely_c (t : Ann) (a b : Int) (hb : annOK t) (ht : faultA t = 0 → AnnOK t) : CallS Try.prog 27 [.agg (annC t), .int .i64 a, .int .i64 b] (.tup [.int .u8 (sureV t a b), .int .i64 (sureE t a b)]) := by
  have hch := check_c t hb
  unfold sureV sureE
  by_cases h0 : faultA t = 0
  · have ht := ht h0
    have hr := ht.reports
    rw [if_pos h0]
    rw [h0] at hch
    by_cases hin : (0 ≤ a ∧ a < t.reports.length) ∧ (0 ≤ b ∧ b < t.reports.length) ∧ a ≠ b
    · rw [if_pos hin]
      obtain ⟨h1, h2, h3⟩ := hin
      have h := allS_c t ⟨a, b⟩ ht ⟨h1, h2⟩ (false, false) trivial
      have e : (allM t (suS ⟨a, b⟩) (false, false)).2.v = suV t ⟨a, b⟩ := rfl
      rw [e] at h
      generalize suV t ⟨a, b⟩ = V at *
      obtain ⟨x, y⟩ := V
      simp only [annC, slR, slC] at h hch ⊢
      cases x <;> cases y
      all_goals
        simp only [Prod.mk.injEq, reduceCtorEq, false_and, and_false, and_self, if_true, if_false, Bool.false_eq_true]
        (refine callS_of_awp (fun w args => Try.call27 ..) Try.func27 rfl (fun w0 m0 wz => ?_); simp only [Try.ntmps27, Try.results27, initT, junks, rptC, clmC, slR, slC, annC, sl, List.toList_toArray, List.cons_append, List.nil_append, List.length_cons, List.length_nil, Nat.reduceAdd, Nat.reduceSub])
        (repeat' (first
    | (refine awp_ownN 2 rfl ?_; simp (maxSteps := 4000000) only [go_sem, seval, List.take_succ_cons, List.take_zero]; (repeat refine And.intro (by omega) ?_); refine own_go (h) [1, 2, 3, 4] rfl ?_ ?_ rfl ?_ <;> try simp (maxSteps := 4000000) only [go_sem, seval, Nat.lt_irrefl] <;> try decide)
    | ((omega))
    | ((exfalso; omega))
    | (refine awp_seqK ?_)
    | (refine kt ?_)
    | (refine And.intro ?_ ?_)
    | ((first | refine awp_region ?_ | refine awp_draw (by kernel_rfl) (by kernel_rfl) ?_ | refine Imp.le2 ?_ | refine awp_label ?_ | refine awp_skip ?_ | refine awp_exit ?_ | refine awp_cd ?_ | refine awp_ret ?_ | refine callK_of (hch) ?_ | refine callK_of (within_c _ _ _) ?_ | refine go_split (fun _h => ?_) (fun _h => ?_)) <;> try simp (maxSteps := 4000000) only [go_sem, seval])
    | (intro _h)
    | (refine awp_block ?_)
    | (refine awp_scope ?_)
    | (refine cond_b (fun _h => ?_) (fun _h => ?_))
    | (show heapOK _ _ = true; kernel_rfl)
    | (show heapOK2 _ _ = true; kernel_rfl)
    | (omega)))
        all_goals first | (exfalso; simp at _h; done) | trace_state
    · rw [if_neg hin, if_neg (by omega)]
      simp only [annC, slR, slC] at hch ⊢
      (refine callS_of_awp (fun w args => Try.call27 ..) Try.func27 rfl (fun w0 m0 wz => ?_); simp only [Try.ntmps27, Try.results27, initT, junks, rptC, clmC, slR, slC, annC, sl, List.toList_toArray, List.cons_append, List.nil_append, List.length_cons, List.length_nil, Nat.reduceAdd, Nat.reduceSub])
      (repeat' (first
    | ((exfalso; omega))
    | ((omega))
    | (refine awp_seqK ?_)
    | (refine kt ?_)
    | (refine And.intro ?_ ?_)
    | ((first | refine awp_region ?_ | refine awp_draw (by kernel_rfl) (by kernel_rfl) ?_ | refine Imp.le2 ?_ | refine awp_label ?_ | refine awp_skip ?_ | refine awp_exit ?_ | refine awp_cd ?_ | refine awp_ret ?_ | refine callK_of (hch) ?_ | refine callK_of (within_c _ _ _) ?_ | refine go_split (fun _h => ?_) (fun _h => ?_)) <;> try simp (maxSteps := 4000000) only [go_sem, seval])
    | (intro _h)
    | (refine awp_block ?_)
    | (refine awp_scope ?_)
    | (refine cond_b (fun _h => ?_) (fun _h => ?_))
    | (show heapOK _ _ = true; kernel_rfl)
    | (show heapOK2 _ _ = true; kernel_rfl)
    | (omega)))
      all_goals trace_state
  · rw [if_neg h0, if_neg h0]
    simp only [annC, slR, slC] at hch ⊢
    (refine callS_of_awp (fun w args => Try.call27 ..) Try.func27 rfl (fun w0 m0 wz => ?_); simp only [Try.ntmps27, Try.results27, initT, junks, rptC, clmC, slR, slC, annC, sl, List.toList_toArray, List.cons_append, List.nil_append, List.length_cons, List.length_nil, Nat.reduceAdd, Nat.reduceSub])
    (repeat' (first
    | (refine awp_seqK ?_)
    | (refine kt ?_)
    | (refine And.intro ?_ ?_)
    | ((first | refine awp_region ?_ | refine awp_draw (by kernel_rfl) (by kernel_rfl) ?_ | refine Imp.le2 ?_ | refine awp_label ?_ | refine awp_skip ?_ | refine awp_exit ?_ | refine awp_cd ?_ | refine awp_ret ?_ | refine callK_of (hch) ?_ | refine go_split (fun _h => ?_) (fun _h => ?_)) <;> try simp (maxSteps := 4000000) only [go_sem, seval])
    | (intro _h)
    | (refine awp_block ?_)
    | (refine awp_scope ?_)
    | (refine cond_b (fun _h => ?_) (fun _h => ?_))
    | (show heapOK _ _ = true; kernel_rfl)
    | (show heapOK2 _ _ = true; kernel_rfl)
    | (omega)))
    all_goals first | (exfalso; simp at _h; omega) | trace_state
end Go.Am

/- The law AnnalsSure, as a contract: it returns true, if awake does. -/
namespace Go.Am
open Go.RowKit Go.Proofs
attribute [local irreducible] AWP CallS Kt goK CallK stepK evOps SemF SemY Imp
set_option maxRecDepth 4000
set_option linter.unusedSimpArgs false
set_option linter.unusedVariables false
set_option maxHeartbeats 6400000
theorem sureLaw (hA : CallS Try.prog 17 [] (.bool true)) (t : Ann) (hkd : ∀ c ∈ t.claims, 0 ≤ c.kind) (x y : Int) : CallS Try.prog 4 [.agg (annC t), .int .i64 x, .int .i64 y] (.bool true) := by
  have hfe := few_c t
  cases hF : fewB t with
  | false =>
    rw [hF] at hfe
    simp only [annC, slR, slC] at hfe ⊢
    (refine callS_of_awp (fun w args => Try.call4 ..) Try.func4 rfl (fun w0 m0 wz => ?_); simp only [Try.ntmps4, Try.results4, initT, junks, rptC, clmC, slR, slC, annC, sl, List.toList_toArray, List.cons_append, List.nil_append, List.length_cons, List.length_nil, Nat.reduceAdd, Nat.reduceSub])
    (repeat' (first
    | (refine awp_seqK ?_)
    | (refine kt ?_)
    | (refine And.intro ?_ ?_)
    | ((first | refine awp_region ?_ | refine awp_draw (by kernel_rfl) (by kernel_rfl) ?_ | refine Imp.le2 ?_ | refine awp_label ?_ | refine awp_skip ?_ | refine awp_exit ?_ | refine awp_cd ?_ | refine awp_ret ?_ | refine callK_of (hfe) ?_ | refine callK_of (hA) ?_ | refine go_split (fun _h => ?_) (fun _h => ?_)) <;> try simp (maxSteps := 4000000) only [go_sem, seval])
    | (intro _h)
    | (refine awp_block ?_)
    | (refine awp_scope ?_)
    | (refine cond_b (fun _h => ?_) (fun _h => ?_))
    | (show heapOK _ _ = true; kernel_rfl)
    | (show heapOK2 _ _ = true; kernel_rfl)
    | (omega)))
    all_goals trace_state
  | true =>
    rw [hF] at hfe
    obtain ⟨hb, hn4⟩ := few_ok hF
    have han := annals_c t hb
    have hfa := fault_c t hb
    have hsu := Surely_c t x y hb (fun h => faultA_ok hkd h)
    by_cases h0 : faultA t = 0
    · have ht := faultA_ok hkd h0
      have hn4 := hn4 h0
      have hr := ht.reports
      have hix := in_c x 0 ((t.reports.length : Int) - 1)
      have hiy := in_c y 0 ((t.reports.length : Int) - 1)
      rw [h0] at hfa
      by_cases hin : (0 ≤ x ∧ x < t.reports.length) ∧ (0 ≤ y ∧ y < t.reports.length) ∧ x ≠ y
      · obtain ⟨hx, hy, hxy⟩ := hin
        obtain ⟨i, rfl⟩ := Int.eq_ofNat_of_zero_le hx.1
        obtain ⟨k, rfl⟩ := Int.eq_ofNat_of_zero_le hy.1
        have hi : i < t.reports.length := by omega
        have hk : k < t.reports.length := by omega
        obtain ⟨r1, r2, r3, r4, r5, r6, r7⟩ := runs_p ht
        have hwl := ways_few ht hn4
        have r6 := r6 hwl
        have e1 : sureE t i k = if suV t ⟨i, k⟩ = (false, false) then 9 else 0 := by
          unfold sureE; rw [if_pos h0, if_pos ⟨⟨by omega, by omega⟩, ⟨by omega, by omega⟩, by omega⟩]
        have e2 : sureV t i k = if sureE t i k = 0 then (if (suV t ⟨i, k⟩).1 = true then (if (suV t ⟨i, k⟩).2 = true then 3 else 1) else 2) else 0 := rfl
        have hfd := sure_fd ht hi hk
        have hix2 : CallS Try.prog 28 [.int .i64 i, .int .i64 0, .int .i64 ((t.reports.length : Int) - 1)] (.bool true) := by
          have := hix; rw [decide_eq_true (by omega)] at this; exact this
        have hiy2 : CallS Try.prog 28 [.int .i64 k, .int .i64 0, .int .i64 ((t.reports.length : Int) - 1)] (.bool true) := by
          have := hiy; rw [decide_eq_true (by omega)] at this; exact this
        clear hix hiy
        cases hv : (fiV t).1 with
        | false =>
          rw [hv] at hfd
          have hs : suV t ⟨i, k⟩ = (false, false) := by
            have h9 := hfd.symm
            rw [Bool.or_eq_false_iff] at h9
            exact Prod.ext h9.1 h9.2
          rw [e2, e1, if_pos hs, if_neg (by omega)] at hsu
          have hl0 := r3.2 hv
          generalize rsA t = rs at *
          simp only [annC, slR, slC, Go.Am.slU, hl0] at hfe han hfa hsu r1 ⊢
          (refine callS_of_awp (fun w args => Try.call4 ..) Try.func4 rfl (fun w0 m0 wz => ?_); simp only [Try.ntmps4, Try.results4, initT, junks, rptC, clmC, slR, slC, annC, sl, List.toList_toArray, List.cons_append, List.nil_append, List.length_cons, List.length_nil, Nat.reduceAdd, Nat.reduceSub])
          (repeat' (first
    | ((omega))
    | ((exfalso; omega))
    | (refine awp_seqK ?_)
    | (refine kt ?_)
    | (refine And.intro ?_ ?_)
    | ((first | refine awp_region ?_ | refine awp_draw (by kernel_rfl) (by kernel_rfl) ?_ | refine Imp.le2 ?_ | refine awp_label ?_ | refine awp_skip ?_ | refine awp_exit ?_ | refine awp_cd ?_ | refine awp_ret ?_ | refine callK_of (hfe) ?_ | refine callK_of (han) ?_ | refine callK_of (hfa) ?_ | refine callK_of (hsu) ?_ | refine callK_of (hix2) ?_ | refine callK_of (hiy2) ?_ | refine callK_of (r1) ?_ | refine callK_of (hA) ?_ | refine go_split (fun _h => ?_) (fun _h => ?_)) <;> try simp (maxSteps := 4000000) only [go_sem, seval])
    | (intro _h)
    | (refine awp_block ?_)
    | (refine awp_scope ?_)
    | (refine cond_b (fun _h => ?_) (fun _h => ?_))
    | (show heapOK _ _ = true; kernel_rfl)
    | (show heapOK2 _ _ = true; kernel_rfl)
    | (omega)))
          all_goals trace_state
        | true =>
          rw [hv] at hfd
          have hs : ¬ suV t ⟨i, k⟩ = (false, false) := fun h9 => by rw [h9] at hfd; cases hfd
          have hse := sure_eq ht hwl hi hk hv
          rw [e2, e1, if_neg hs, if_pos rfl, ← hse] at hsu
          have hl0 : ¬ (rsA t).length = 0 := fun h9 => by have := r3.1 h9; rw [hv] at this; cases this
          have hwr := WaysR_c (rsA t) r2 r4
          have hsr := SurelyR_c (waV t).1 i k t.reports.length (fun s hs => by
            obtain ⟨C, D, _, rfl⟩ := (waV_spec ht).2.mem s hs
            exact SL_len) hi hk (by omega)
          rw [r6] at hwr
          generalize sureR (waV t).1 i k = V at *
          generalize (waV t).1 = L at *
          generalize rsA t = rs at *
          simp only [annC, slR, slC, Go.Am.slU, slW] at hfe han hfa hsu r1 hwr hsr ⊢
          (refine callS_of_awp (fun w args => Try.call4 ..) Try.func4 rfl (fun w0 m0 wz => ?_); simp only [Try.ntmps4, Try.results4, initT, junks, rptC, clmC, slR, slC, annC, sl, List.toList_toArray, List.cons_append, List.nil_append, List.length_cons, List.length_nil, Nat.reduceAdd, Nat.reduceSub])
          (repeat' (first
    | ((omega))
    | ((exfalso; omega))
    | (refine awp_seqK ?_)
    | (refine kt ?_)
    | (refine And.intro ?_ ?_)
    | ((first | refine awp_region ?_ | refine awp_draw (by kernel_rfl) (by kernel_rfl) ?_ | refine Imp.le2 ?_ | refine awp_label ?_ | refine awp_skip ?_ | refine awp_exit ?_ | refine awp_cd ?_ | refine awp_ret ?_ | refine callK_of (hfe) ?_ | refine callK_of (han) ?_ | refine callK_of (hfa) ?_ | refine callK_of (hsu) ?_ | refine callK_of (hix2) ?_ | refine callK_of (hiy2) ?_ | refine callK_of (r1) ?_ | refine callK_of (hwr) ?_ | refine callK_of (hsr) ?_ | refine callK_of (hA) ?_ | refine go_split (fun _h => ?_) (fun _h => ?_)) <;> try simp (maxSteps := 4000000) only [go_sem, seval])
    | (intro _h)
    | (refine awp_block ?_)
    | (refine awp_scope ?_)
    | (refine cond_b (fun _h => ?_) (fun _h => ?_))
    | (show heapOK _ _ = true; kernel_rfl)
    | (show heapOK2 _ _ = true; kernel_rfl)
    | (omega)))
          all_goals trace_state
      · have e1 : sureE t x y = 2 := by unfold sureE; rw [if_pos h0, if_neg hin]
        have e2 : sureV t x y = 0 := by unfold sureV; rw [e1, if_neg (by omega)]
        rw [e1, e2] at hsu
        simp only [annC, slR, slC] at hfe han hfa hsu ⊢
        (refine callS_of_awp (fun w args => Try.call4 ..) Try.func4 rfl (fun w0 m0 wz => ?_); simp only [Try.ntmps4, Try.results4, initT, junks, rptC, clmC, slR, slC, annC, sl, List.toList_toArray, List.cons_append, List.nil_append, List.length_cons, List.length_nil, Nat.reduceAdd, Nat.reduceSub])
        (repeat' (first
    | ((omega))
    | ((exfalso; omega))
    | (refine awp_seqK ?_)
    | (refine kt ?_)
    | (refine And.intro ?_ ?_)
    | ((first | refine awp_region ?_ | refine awp_draw (by kernel_rfl) (by kernel_rfl) ?_ | refine Imp.le2 ?_ | refine awp_label ?_ | refine awp_skip ?_ | refine awp_exit ?_ | refine awp_cd ?_ | refine awp_ret ?_ | refine callK_of (hfe) ?_ | refine callK_of (han) ?_ | refine callK_of (hfa) ?_ | refine callK_of (hsu) ?_ | refine callK_of (hix) ?_ | refine callK_of (hiy) ?_ | refine callK_of (hA) ?_ | refine go_split (fun _h => ?_) (fun _h => ?_)) <;> try simp (maxSteps := 4000000) only [go_sem, seval])
    | (intro _h)
    | (refine awp_block ?_)
    | (refine awp_scope ?_)
    | (refine cond_b (fun _h => ?_) (fun _h => ?_))
    | (show heapOK _ _ = true; kernel_rfl)
    | (show heapOK2 _ _ = true; kernel_rfl)
    | (omega)))
        all_goals trace_state
    · have e1 : sureE t x y = faultA t := by unfold sureE; rw [if_neg h0]
      have e2 : sureV t x y = 0 := by unfold sureV; rw [e1, if_neg h0]
      rw [e1, e2] at hsu
      generalize faultA t = e at *
      simp only [annC, slR, slC] at hfe han hfa hsu ⊢
      (refine callS_of_awp (fun w args => Try.call4 ..) Try.func4 rfl (fun w0 m0 wz => ?_); simp only [Try.ntmps4, Try.results4, initT, junks, rptC, clmC, slR, slC, annC, sl, List.toList_toArray, List.cons_append, List.nil_append, List.length_cons, List.length_nil, Nat.reduceAdd, Nat.reduceSub])
      (repeat' (first
    | ((omega))
    | ((exfalso; omega))
    | (refine awp_seqK ?_)
    | (refine kt ?_)
    | (refine And.intro ?_ ?_)
    | ((first | refine awp_region ?_ | refine awp_draw (by kernel_rfl) (by kernel_rfl) ?_ | refine Imp.le2 ?_ | refine awp_label ?_ | refine awp_skip ?_ | refine awp_exit ?_ | refine awp_cd ?_ | refine awp_ret ?_ | refine callK_of (hfe) ?_ | refine callK_of (han) ?_ | refine callK_of (hfa) ?_ | refine callK_of (hsu) ?_ | refine callK_of (hA) ?_ | refine go_split (fun _h => ?_) (fun _h => ?_)) <;> try simp (maxSteps := 4000000) only [go_sem, seval])
    | (intro _h)
    | (refine awp_block ?_)
    | (refine awp_scope ?_)
    | (refine cond_b (fun _h => ?_) (fun _h => ?_))
    | (show heapOK _ _ = true; kernel_rfl)
    | (show heapOK2 _ _ = true; kernel_rfl)
    | (omega)))
      all_goals trace_state
end Go.Am

/- The law AnnalsSure, as a contract: it returns true. -/
namespace Go.Am
open Go.RowKit Go.Proofs
theorem annalsSure_c (t : Ann) (x y : Int) (ht : AnnR t) : CallS Try.prog 4 [.agg (annC t), .int .i64 x, .int .i64 y] (.bool true) :=
  sureLaw awake_c t (fun c hc => (ht.claims c hc).1.1) x y
end Go.Am
