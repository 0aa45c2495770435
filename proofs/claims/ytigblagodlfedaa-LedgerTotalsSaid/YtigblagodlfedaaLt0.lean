/- What the numbers of a ledger come to, in the reference, case by case. -/
import Derived.Test.YtigblagodlfedaaRows
import Derived.Test.YtigblagodlfedaaSyt
import Derived.Test.YtigblagodlfedaaLt
namespace Go.Proofs.Ytigblagodlfedaa.Lt
open Go.RowKit
open Sx (Env evF callF AS Known PF Val Holds)
theorem r0 : Sx.allK (Sx.tellsK E8.bs) E8.bs (callF Try.prog E8 (evF Try.prog E8 3000) 8 (AS.mvs Sx.tellsP.sh 0 0 0) {} (Sx.factsOf [(.bin .lt (.var 0) (.lit 0), true), (.bin .lt (.var 2) (.lit 0), true), (.bin .lt (.var 1) (.lit 0), true)])) = true := by kernel_rfl
theorem r1 : Sx.allK (Sx.tellsK E8.bs) E8.bs (callF Try.prog E8 (evF Try.prog E8 3000) 8 (AS.mvs Sx.tellsP.sh 0 0 0) {} (Sx.factsOf [(.bin .lt (.var 0) (.lit 0), true), (.bin .lt (.var 2) (.lit 0), true), (.bin .lt (.var 1) (.lit 0), false), (.bin .eq (.var 1) (.lit 0), true)])) = true := by kernel_rfl
theorem r2 : Sx.allK (Sx.tellsK E8.bs) E8.bs (callF Try.prog E8 (evF Try.prog E8 3000) 8 (AS.mvs Sx.tellsP.sh 0 0 0) {} (Sx.factsOf [(.bin .lt (.var 0) (.lit 0), true), (.bin .lt (.var 2) (.lit 0), true), (.bin .lt (.var 1) (.lit 0), false), (.bin .eq (.var 1) (.lit 0), false)])) = true := by kernel_rfl
theorem r3 : Sx.allK (Sx.tellsK E8.bs) E8.bs (callF Try.prog E8 (evF Try.prog E8 3000) 8 (AS.mvs Sx.tellsP.sh 0 0 0) {} (Sx.factsOf [(.bin .lt (.var 0) (.lit 0), true), (.bin .lt (.var 2) (.lit 0), false), (.bin .eq (.var 2) (.lit 0), true), (.bin .lt (.var 1) (.lit 0), true)])) = true := by kernel_rfl
theorem r4 : Sx.allK (Sx.tellsK E8.bs) E8.bs (callF Try.prog E8 (evF Try.prog E8 3000) 8 (AS.mvs Sx.tellsP.sh 0 0 0) {} (Sx.factsOf [(.bin .lt (.var 0) (.lit 0), true), (.bin .lt (.var 2) (.lit 0), false), (.bin .eq (.var 2) (.lit 0), true), (.bin .lt (.var 1) (.lit 0), false), (.bin .eq (.var 1) (.lit 0), true)])) = true := by kernel_rfl
theorem r5 : Sx.allK (Sx.tellsK E8.bs) E8.bs (callF Try.prog E8 (evF Try.prog E8 3000) 8 (AS.mvs Sx.tellsP.sh 0 0 0) {} (Sx.factsOf [(.bin .lt (.var 0) (.lit 0), true), (.bin .lt (.var 2) (.lit 0), false), (.bin .eq (.var 2) (.lit 0), true), (.bin .lt (.var 1) (.lit 0), false), (.bin .eq (.var 1) (.lit 0), false)])) = true := by kernel_rfl
theorem r6 : Sx.allK (Sx.tellsK E8.bs) E8.bs (callF Try.prog E8 (evF Try.prog E8 3000) 8 (AS.mvs Sx.tellsP.sh 0 0 0) {} (Sx.factsOf [(.bin .lt (.var 0) (.lit 0), true), (.bin .lt (.var 2) (.lit 0), false), (.bin .eq (.var 2) (.lit 0), false), (.bin .lt (.var 1) (.lit 0), true)])) = true := by kernel_rfl
theorem r7 : Sx.allK (Sx.tellsK E8.bs) E8.bs (callF Try.prog E8 (evF Try.prog E8 3000) 8 (AS.mvs Sx.tellsP.sh 0 0 0) {} (Sx.factsOf [(.bin .lt (.var 0) (.lit 0), true), (.bin .lt (.var 2) (.lit 0), false), (.bin .eq (.var 2) (.lit 0), false), (.bin .lt (.var 1) (.lit 0), false), (.bin .eq (.var 1) (.lit 0), true)])) = true := by kernel_rfl
theorem r8 : Sx.allK (Sx.tellsK E8.bs) E8.bs (callF Try.prog E8 (evF Try.prog E8 3000) 8 (AS.mvs Sx.tellsP.sh 0 0 0) {} (Sx.factsOf [(.bin .lt (.var 0) (.lit 0), true), (.bin .lt (.var 2) (.lit 0), false), (.bin .eq (.var 2) (.lit 0), false), (.bin .lt (.var 1) (.lit 0), false), (.bin .eq (.var 1) (.lit 0), false)])) = true := by kernel_rfl
end Go.Proofs.Ytigblagodlfedaa.Lt
