/- What a call of the law FnExactBreakStep comes to: true, and nothing that lay in memory is changed. -/
import Derived.Test.YteiamophnfkgmaaXx5
import Derived.Test.YteiamophnfkgmaaPBreak
namespace Go.Proofs.Yteiamophnfkgmaa.X
open Go.RowKit Go.Proofs.YteiamophnfkgmaaW.PrintWords Go.Proofs.YteiamophnfkgmaaW.PrintLast Go.Proofs.YteiamophnfkgmaaW.PrintMore
set_option linter.unusedVariables false

theorem walk_FnExactBreakStep (n : Int) (A1 : Option Addr) (c1 : Nat) (l1 : List Int) (A2 : Option Addr) (c2 : Nat) (l2 : List Int) (x : Int) (w : World) (hn : (Lit.int .i64 n).wf = true)
    (hr1 : Kd.C (Kd.int .i64) w A1 l1.length l1) (hc1 : l1.length ≤ c1) (hm1 : l1.length ≤ maxLen) (hw1 : ∀ n ∈ l1, (Lit.int .i64 n).wf = true)
    (hr2 : Kd.C (Kd.int .i64) w A2 l2.length l2) (hc2 : l2.length ≤ c2) (hm2 : l2.length ≤ maxLen) (hw2 : ∀ n ∈ l2, (Lit.int .i64 n).wf = true) (hx : (Lit.int .i64 x).wf = true) :
    Calls Try.prog 3 #[.agg #[.int .i64 n, .slice A1 l1.length c1, .slice A2 l2.length c2], .int .i64 x] w fun e w' => e = .returned (.bool true) ∧ Below w.heap.size w w' := by
  obtain ⟨k, h⟩ := law_BreakStep n l1 l2 x (by simpa [maxLen] using hm1) (by simpa [maxLen] using hm2)
  exact laws_FnExactBreakStep.calls k n A1 c1 l1 A2 c2 l2 x w hr1 hc1 hr2 hc2 h
end Go.Proofs.Yteiamophnfkgmaa.X
