/- Parts TqH of the proof, one behind the other. No statement is proved here. -/
import Derived.Test.YtghlpjfpfjpddaaFb
import Derived.Test.YtghlpjfpfjpddaaFc
import Derived.Test.YtghlpjfpfjpddaaFd
import Derived.Test.YtghlpjfpfjpddaaFe
/- The law AwayTurned, as a contract: it returns true. -/
namespace Go.Am
open Go.RowKit Go.Proofs
attribute [local irreducible] AWP CallS Kt goK CallK stepK evOps SemF SemY Imp
set_option maxRecDepth 4000
set_option linter.unusedSimpArgs false
set_option linter.unusedVariables false
set_option maxHeartbeats 3200000

theorem awayTurned_c (t : Town) (wa hs : Int) (h1 : 0 ≤ wa ∧ wa ≤ 255) (h2 : 0 ≤ hs ∧ hs ≤ 255) : CallS Try.prog 5 [.agg (townC t), .int .u8 wa, .int .u8 hs] (.bool true) := by
  cases hR : readyB t with
  | false =>
    have hre := ready_c t
    have hA := awake_c
    rw [hR] at hre
    simp only [slB, townC, slH, slL] at hre ⊢
    (refine callS_of_awp (fun w args => Try.call5 ..) Try.func5 rfl (fun w0 m0 wz => ?_); simp only [Try.ntmps5, Try.results5, initT, junks, homeC, hallC, slH, slL, townC, sl, List.toList_toArray, List.cons_append, List.nil_append, List.length_cons, List.length_nil, Nat.reduceAdd, Nat.reduceSub])
    (repeat' (first
    | (refine awp_seqK ?_)
    | (refine kt ?_)
    | (refine And.intro ?_ ?_)
    | ((first | refine awp_region ?_ | refine awp_draw (by kernel_rfl) (by kernel_rfl) ?_ | refine Imp.le2 ?_ | refine awp_label ?_ | refine awp_skip ?_ | refine awp_exit ?_ | refine awp_cd ?_ | refine awp_ret ?_ | refine callK_of (hre) ?_ | refine callK_of (hA) ?_ | refine go_split (fun _h => ?_) (fun _h => ?_)) <;> try simp (maxSteps := 4000000) only [go_sem, seval])
    | (intro _h)
    | (refine awp_block ?_)
    | (refine awp_scope ?_)
    | (refine cond_b (fun _h => ?_) (fun _h => ?_))
    | (show heapOK _ _ = true; kernel_rfl)
    | (show heapOK2 _ _ = true; kernel_rfl)
    | (omega)))
  | true =>
    rcases Nat.eq_zero_or_pos t.halls.length with hm | hm
    · by_cases hE : planE t = 0
      · exact turned_m0p t wa hs h1 hR hm hE
      · exact turned_m0n t wa hs h1 hR hm hE
    · by_cases hE : planE t = 0
      · exact turned_mp t wa hs h1 h2 hR hm hE
      · exact turned_mn t wa hs h1 h2 hR hm hE
end Go.Am
