/- 'ReactLittle' of chapter 15 holds as stated: for every input the law returns true, and each argument reads afterwards as before, for every world it is called in. -/
import Derived.Test.YtpnclloaimepbaaReactLittleP0
import Derived.Test.YtpnclloaimepbaaReactLittleP1
import Derived.Test.YtpnclloaimepbaaReactLittleP2
import Derived.Test.YtpnclloaimepbaaReactLittleP3
import Derived.Test.YtpnclloaimepbaaReactLittleP4
import Derived.Test.YtpnclloaimepbaaReactLittleP5
namespace Go.Proofs.Ytpnclloaimepbaa.reactLittle
open Go.ChangeShapes Go.WideShapes Go.ChangeAt Go.RowKit
open Sx (Env evF callF AS Both)
set_option linter.unusedVariables false
theorem cover (ρ : Sx.Val) (_ : (AS.bdsJ shapes 0).hold ρ) : ∃ c ∈ cases, ∀ p ∈ c, p.1.T ρ = p.2 := by
  cases h0 : Sx.E.T ρ (.bin .eq (.var 0) (.lit 13)) with
  | true =>
    cases h1 : Sx.E.T ρ (.bin .lt (.var 1) (.lit 1)) with
    | true =>
      cases h2 : Sx.E.T ρ (.bin .and (.bin (.gb 0) (.var 2) (.var 3)) (.un (.fb 3) (.var 2))) with
      | true =>
        cases h3 : Sx.E.T ρ (.bin .and (.bin (.gb 0) (.var 4) (.var 5)) (.un (.fb 3) (.var 4))) with
        | true =>
          cases h4 : Sx.E.T ρ (.bin .and (.bin (.gb 0) (.var 6) (.var 7)) (.un (.fb 3) (.var 6))) with
          | true =>
            cases h5 : Sx.E.T ρ (.bin .and (.bin (.gb 0) (.var 8) (.var 9)) (.un (.fb 3) (.var 8))) with
            | true =>
              exact ⟨_, List.mem_cons_self, (Sx.forall_cons h0 (Sx.forall_cons h1 (Sx.forall_cons h2 (Sx.forall_cons h3 (Sx.forall_cons h4 (Sx.forall_cons h5 Sx.forall_nil))))))⟩
            | false =>
              exact ⟨_, (List.mem_cons_of_mem _ List.mem_cons_self), (Sx.forall_cons h0 (Sx.forall_cons h1 (Sx.forall_cons h2 (Sx.forall_cons h3 (Sx.forall_cons h4 (Sx.forall_cons h5 Sx.forall_nil))))))⟩
          | false =>
            cases h5 : Sx.E.T ρ (.bin .and (.bin (.gb 0) (.var 8) (.var 9)) (.un (.fb 3) (.var 8))) with
            | true =>
              exact ⟨_, (List.mem_cons_of_mem _ (List.mem_cons_of_mem _ List.mem_cons_self)), (Sx.forall_cons h0 (Sx.forall_cons h1 (Sx.forall_cons h2 (Sx.forall_cons h3 (Sx.forall_cons h4 (Sx.forall_cons h5 Sx.forall_nil))))))⟩
            | false =>
              exact ⟨_, (List.mem_cons_of_mem _ (List.mem_cons_of_mem _ (List.mem_cons_of_mem _ List.mem_cons_self))), (Sx.forall_cons h0 (Sx.forall_cons h1 (Sx.forall_cons h2 (Sx.forall_cons h3 (Sx.forall_cons h4 (Sx.forall_cons h5 Sx.forall_nil))))))⟩
        | false =>
          cases h4 : Sx.E.T ρ (.bin .and (.bin (.gb 0) (.var 6) (.var 7)) (.un (.fb 3) (.var 6))) with
          | true =>
            cases h5 : Sx.E.T ρ (.bin .and (.bin (.gb 0) (.var 8) (.var 9)) (.un (.fb 3) (.var 8))) with
            | true =>
              exact ⟨_, (List.mem_cons_of_mem _ (List.mem_cons_of_mem _ (List.mem_cons_of_mem _ (List.mem_cons_of_mem _ List.mem_cons_self)))), (Sx.forall_cons h0 (Sx.forall_cons h1 (Sx.forall_cons h2 (Sx.forall_cons h3 (Sx.forall_cons h4 (Sx.forall_cons h5 Sx.forall_nil))))))⟩
            | false =>
              exact ⟨_, (List.mem_cons_of_mem _ (List.mem_cons_of_mem _ (List.mem_cons_of_mem _ (List.mem_cons_of_mem _ (List.mem_cons_of_mem _ List.mem_cons_self))))), (Sx.forall_cons h0 (Sx.forall_cons h1 (Sx.forall_cons h2 (Sx.forall_cons h3 (Sx.forall_cons h4 (Sx.forall_cons h5 Sx.forall_nil))))))⟩
          | false =>
            cases h5 : Sx.E.T ρ (.bin .and (.bin (.gb 0) (.var 8) (.var 9)) (.un (.fb 3) (.var 8))) with
            | true =>
              exact ⟨_, (List.mem_cons_of_mem _ (List.mem_cons_of_mem _ (List.mem_cons_of_mem _ (List.mem_cons_of_mem _ (List.mem_cons_of_mem _ (List.mem_cons_of_mem _ List.mem_cons_self)))))), (Sx.forall_cons h0 (Sx.forall_cons h1 (Sx.forall_cons h2 (Sx.forall_cons h3 (Sx.forall_cons h4 (Sx.forall_cons h5 Sx.forall_nil))))))⟩
            | false =>
              exact ⟨_, (List.mem_cons_of_mem _ (List.mem_cons_of_mem _ (List.mem_cons_of_mem _ (List.mem_cons_of_mem _ (List.mem_cons_of_mem _ (List.mem_cons_of_mem _ (List.mem_cons_of_mem _ List.mem_cons_self))))))), (Sx.forall_cons h0 (Sx.forall_cons h1 (Sx.forall_cons h2 (Sx.forall_cons h3 (Sx.forall_cons h4 (Sx.forall_cons h5 Sx.forall_nil))))))⟩
      | false =>
        cases h3 : Sx.E.T ρ (.bin .and (.bin (.gb 0) (.var 4) (.var 5)) (.un (.fb 3) (.var 4))) with
        | true =>
          cases h4 : Sx.E.T ρ (.bin .and (.bin (.gb 0) (.var 6) (.var 7)) (.un (.fb 3) (.var 6))) with
          | true =>
            cases h5 : Sx.E.T ρ (.bin .and (.bin (.gb 0) (.var 8) (.var 9)) (.un (.fb 3) (.var 8))) with
            | true =>
              exact ⟨_, (List.mem_cons_of_mem _ (List.mem_cons_of_mem _ (List.mem_cons_of_mem _ (List.mem_cons_of_mem _ (List.mem_cons_of_mem _ (List.mem_cons_of_mem _ (List.mem_cons_of_mem _ (List.mem_cons_of_mem _ List.mem_cons_self)))))))), (Sx.forall_cons h0 (Sx.forall_cons h1 (Sx.forall_cons h2 (Sx.forall_cons h3 (Sx.forall_cons h4 (Sx.forall_cons h5 Sx.forall_nil))))))⟩
            | false =>
              exact ⟨_, (List.mem_cons_of_mem _ (List.mem_cons_of_mem _ (List.mem_cons_of_mem _ (List.mem_cons_of_mem _ (List.mem_cons_of_mem _ (List.mem_cons_of_mem _ (List.mem_cons_of_mem _ (List.mem_cons_of_mem _ (List.mem_cons_of_mem _ List.mem_cons_self))))))))), (Sx.forall_cons h0 (Sx.forall_cons h1 (Sx.forall_cons h2 (Sx.forall_cons h3 (Sx.forall_cons h4 (Sx.forall_cons h5 Sx.forall_nil))))))⟩
          | false =>
            cases h5 : Sx.E.T ρ (.bin .and (.bin (.gb 0) (.var 8) (.var 9)) (.un (.fb 3) (.var 8))) with
            | true =>
              exact ⟨_, (List.mem_cons_of_mem _ (List.mem_cons_of_mem _ (List.mem_cons_of_mem _ (List.mem_cons_of_mem _ (List.mem_cons_of_mem _ (List.mem_cons_of_mem _ (List.mem_cons_of_mem _ (List.mem_cons_of_mem _ (List.mem_cons_of_mem _ (List.mem_cons_of_mem _ List.mem_cons_self)))))))))), (Sx.forall_cons h0 (Sx.forall_cons h1 (Sx.forall_cons h2 (Sx.forall_cons h3 (Sx.forall_cons h4 (Sx.forall_cons h5 Sx.forall_nil))))))⟩
            | false =>
              exact ⟨_, (List.mem_cons_of_mem _ (List.mem_cons_of_mem _ (List.mem_cons_of_mem _ (List.mem_cons_of_mem _ (List.mem_cons_of_mem _ (List.mem_cons_of_mem _ (List.mem_cons_of_mem _ (List.mem_cons_of_mem _ (List.mem_cons_of_mem _ (List.mem_cons_of_mem _ (List.mem_cons_of_mem _ List.mem_cons_self))))))))))), (Sx.forall_cons h0 (Sx.forall_cons h1 (Sx.forall_cons h2 (Sx.forall_cons h3 (Sx.forall_cons h4 (Sx.forall_cons h5 Sx.forall_nil))))))⟩
        | false =>
          cases h4 : Sx.E.T ρ (.bin .and (.bin (.gb 0) (.var 6) (.var 7)) (.un (.fb 3) (.var 6))) with
          | true =>
            cases h5 : Sx.E.T ρ (.bin .and (.bin (.gb 0) (.var 8) (.var 9)) (.un (.fb 3) (.var 8))) with
            | true =>
              exact ⟨_, (List.mem_cons_of_mem _ (List.mem_cons_of_mem _ (List.mem_cons_of_mem _ (List.mem_cons_of_mem _ (List.mem_cons_of_mem _ (List.mem_cons_of_mem _ (List.mem_cons_of_mem _ (List.mem_cons_of_mem _ (List.mem_cons_of_mem _ (List.mem_cons_of_mem _ (List.mem_cons_of_mem _ (List.mem_cons_of_mem _ List.mem_cons_self)))))))))))), (Sx.forall_cons h0 (Sx.forall_cons h1 (Sx.forall_cons h2 (Sx.forall_cons h3 (Sx.forall_cons h4 (Sx.forall_cons h5 Sx.forall_nil))))))⟩
            | false =>
              exact ⟨_, (List.mem_cons_of_mem _ (List.mem_cons_of_mem _ (List.mem_cons_of_mem _ (List.mem_cons_of_mem _ (List.mem_cons_of_mem _ (List.mem_cons_of_mem _ (List.mem_cons_of_mem _ (List.mem_cons_of_mem _ (List.mem_cons_of_mem _ (List.mem_cons_of_mem _ (List.mem_cons_of_mem _ (List.mem_cons_of_mem _ (List.mem_cons_of_mem _ List.mem_cons_self))))))))))))), (Sx.forall_cons h0 (Sx.forall_cons h1 (Sx.forall_cons h2 (Sx.forall_cons h3 (Sx.forall_cons h4 (Sx.forall_cons h5 Sx.forall_nil))))))⟩
          | false =>
            cases h5 : Sx.E.T ρ (.bin .and (.bin (.gb 0) (.var 8) (.var 9)) (.un (.fb 3) (.var 8))) with
            | true =>
              exact ⟨_, (List.mem_cons_of_mem _ (List.mem_cons_of_mem _ (List.mem_cons_of_mem _ (List.mem_cons_of_mem _ (List.mem_cons_of_mem _ (List.mem_cons_of_mem _ (List.mem_cons_of_mem _ (List.mem_cons_of_mem _ (List.mem_cons_of_mem _ (List.mem_cons_of_mem _ (List.mem_cons_of_mem _ (List.mem_cons_of_mem _ (List.mem_cons_of_mem _ (List.mem_cons_of_mem _ List.mem_cons_self)))))))))))))), (Sx.forall_cons h0 (Sx.forall_cons h1 (Sx.forall_cons h2 (Sx.forall_cons h3 (Sx.forall_cons h4 (Sx.forall_cons h5 Sx.forall_nil))))))⟩
            | false =>
              exact ⟨_, (List.mem_cons_of_mem _ (List.mem_cons_of_mem _ (List.mem_cons_of_mem _ (List.mem_cons_of_mem _ (List.mem_cons_of_mem _ (List.mem_cons_of_mem _ (List.mem_cons_of_mem _ (List.mem_cons_of_mem _ (List.mem_cons_of_mem _ (List.mem_cons_of_mem _ (List.mem_cons_of_mem _ (List.mem_cons_of_mem _ (List.mem_cons_of_mem _ (List.mem_cons_of_mem _ (List.mem_cons_of_mem _ List.mem_cons_self))))))))))))))), (Sx.forall_cons h0 (Sx.forall_cons h1 (Sx.forall_cons h2 (Sx.forall_cons h3 (Sx.forall_cons h4 (Sx.forall_cons h5 Sx.forall_nil))))))⟩
    | false =>
      cases h2 : Sx.E.T ρ (.bin .lt (.var 1) (.lit 7)) with
      | true =>
        cases h3 : Sx.E.T ρ (.bin .and (.bin (.gb 0) (.var 2) (.var 3)) (.un (.fb 3) (.var 2))) with
        | true =>
          cases h4 : Sx.E.T ρ (.bin .and (.bin (.gb 0) (.var 4) (.var 5)) (.un (.fb 3) (.var 4))) with
          | true =>
            cases h5 : Sx.E.T ρ (.bin .and (.bin (.gb 0) (.var 6) (.var 7)) (.un (.fb 3) (.var 6))) with
            | true =>
              cases h6 : Sx.E.T ρ (.bin .and (.bin (.gb 0) (.var 8) (.var 9)) (.un (.fb 3) (.var 8))) with
              | true =>
                exact ⟨_, (List.mem_cons_of_mem _ (List.mem_cons_of_mem _ (List.mem_cons_of_mem _ (List.mem_cons_of_mem _ (List.mem_cons_of_mem _ (List.mem_cons_of_mem _ (List.mem_cons_of_mem _ (List.mem_cons_of_mem _ (List.mem_cons_of_mem _ (List.mem_cons_of_mem _ (List.mem_cons_of_mem _ (List.mem_cons_of_mem _ (List.mem_cons_of_mem _ (List.mem_cons_of_mem _ (List.mem_cons_of_mem _ (List.mem_cons_of_mem _ List.mem_cons_self)))))))))))))))), (Sx.forall_cons h0 (Sx.forall_cons h1 (Sx.forall_cons h2 (Sx.forall_cons h3 (Sx.forall_cons h4 (Sx.forall_cons h5 (Sx.forall_cons h6 Sx.forall_nil)))))))⟩
              | false =>
                exact ⟨_, (List.mem_cons_of_mem _ (List.mem_cons_of_mem _ (List.mem_cons_of_mem _ (List.mem_cons_of_mem _ (List.mem_cons_of_mem _ (List.mem_cons_of_mem _ (List.mem_cons_of_mem _ (List.mem_cons_of_mem _ (List.mem_cons_of_mem _ (List.mem_cons_of_mem _ (List.mem_cons_of_mem _ (List.mem_cons_of_mem _ (List.mem_cons_of_mem _ (List.mem_cons_of_mem _ (List.mem_cons_of_mem _ (List.mem_cons_of_mem _ (List.mem_cons_of_mem _ List.mem_cons_self))))))))))))))))), (Sx.forall_cons h0 (Sx.forall_cons h1 (Sx.forall_cons h2 (Sx.forall_cons h3 (Sx.forall_cons h4 (Sx.forall_cons h5 (Sx.forall_cons h6 Sx.forall_nil)))))))⟩
            | false =>
              cases h6 : Sx.E.T ρ (.bin .and (.bin (.gb 0) (.var 8) (.var 9)) (.un (.fb 3) (.var 8))) with
              | true =>
                exact ⟨_, (List.mem_cons_of_mem _ (List.mem_cons_of_mem _ (List.mem_cons_of_mem _ (List.mem_cons_of_mem _ (List.mem_cons_of_mem _ (List.mem_cons_of_mem _ (List.mem_cons_of_mem _ (List.mem_cons_of_mem _ (List.mem_cons_of_mem _ (List.mem_cons_of_mem _ (List.mem_cons_of_mem _ (List.mem_cons_of_mem _ (List.mem_cons_of_mem _ (List.mem_cons_of_mem _ (List.mem_cons_of_mem _ (List.mem_cons_of_mem _ (List.mem_cons_of_mem _ (List.mem_cons_of_mem _ List.mem_cons_self)))))))))))))))))), (Sx.forall_cons h0 (Sx.forall_cons h1 (Sx.forall_cons h2 (Sx.forall_cons h3 (Sx.forall_cons h4 (Sx.forall_cons h5 (Sx.forall_cons h6 Sx.forall_nil)))))))⟩
              | false =>
                exact ⟨_, (List.mem_cons_of_mem _ (List.mem_cons_of_mem _ (List.mem_cons_of_mem _ (List.mem_cons_of_mem _ (List.mem_cons_of_mem _ (List.mem_cons_of_mem _ (List.mem_cons_of_mem _ (List.mem_cons_of_mem _ (List.mem_cons_of_mem _ (List.mem_cons_of_mem _ (List.mem_cons_of_mem _ (List.mem_cons_of_mem _ (List.mem_cons_of_mem _ (List.mem_cons_of_mem _ (List.mem_cons_of_mem _ (List.mem_cons_of_mem _ (List.mem_cons_of_mem _ (List.mem_cons_of_mem _ (List.mem_cons_of_mem _ List.mem_cons_self))))))))))))))))))), (Sx.forall_cons h0 (Sx.forall_cons h1 (Sx.forall_cons h2 (Sx.forall_cons h3 (Sx.forall_cons h4 (Sx.forall_cons h5 (Sx.forall_cons h6 Sx.forall_nil)))))))⟩
          | false =>
            cases h5 : Sx.E.T ρ (.bin .and (.bin (.gb 0) (.var 6) (.var 7)) (.un (.fb 3) (.var 6))) with
            | true =>
              cases h6 : Sx.E.T ρ (.bin .and (.bin (.gb 0) (.var 8) (.var 9)) (.un (.fb 3) (.var 8))) with
              | true =>
                exact ⟨_, (List.mem_cons_of_mem _ (List.mem_cons_of_mem _ (List.mem_cons_of_mem _ (List.mem_cons_of_mem _ (List.mem_cons_of_mem _ (List.mem_cons_of_mem _ (List.mem_cons_of_mem _ (List.mem_cons_of_mem _ (List.mem_cons_of_mem _ (List.mem_cons_of_mem _ (List.mem_cons_of_mem _ (List.mem_cons_of_mem _ (List.mem_cons_of_mem _ (List.mem_cons_of_mem _ (List.mem_cons_of_mem _ (List.mem_cons_of_mem _ (List.mem_cons_of_mem _ (List.mem_cons_of_mem _ (List.mem_cons_of_mem _ (List.mem_cons_of_mem _ List.mem_cons_self)))))))))))))))))))), (Sx.forall_cons h0 (Sx.forall_cons h1 (Sx.forall_cons h2 (Sx.forall_cons h3 (Sx.forall_cons h4 (Sx.forall_cons h5 (Sx.forall_cons h6 Sx.forall_nil)))))))⟩
              | false =>
                exact ⟨_, (List.mem_cons_of_mem _ (List.mem_cons_of_mem _ (List.mem_cons_of_mem _ (List.mem_cons_of_mem _ (List.mem_cons_of_mem _ (List.mem_cons_of_mem _ (List.mem_cons_of_mem _ (List.mem_cons_of_mem _ (List.mem_cons_of_mem _ (List.mem_cons_of_mem _ (List.mem_cons_of_mem _ (List.mem_cons_of_mem _ (List.mem_cons_of_mem _ (List.mem_cons_of_mem _ (List.mem_cons_of_mem _ (List.mem_cons_of_mem _ (List.mem_cons_of_mem _ (List.mem_cons_of_mem _ (List.mem_cons_of_mem _ (List.mem_cons_of_mem _ (List.mem_cons_of_mem _ List.mem_cons_self))))))))))))))))))))), (Sx.forall_cons h0 (Sx.forall_cons h1 (Sx.forall_cons h2 (Sx.forall_cons h3 (Sx.forall_cons h4 (Sx.forall_cons h5 (Sx.forall_cons h6 Sx.forall_nil)))))))⟩
            | false =>
              cases h6 : Sx.E.T ρ (.bin .and (.bin (.gb 0) (.var 8) (.var 9)) (.un (.fb 3) (.var 8))) with
              | true =>
                exact ⟨_, (List.mem_cons_of_mem _ (List.mem_cons_of_mem _ (List.mem_cons_of_mem _ (List.mem_cons_of_mem _ (List.mem_cons_of_mem _ (List.mem_cons_of_mem _ (List.mem_cons_of_mem _ (List.mem_cons_of_mem _ (List.mem_cons_of_mem _ (List.mem_cons_of_mem _ (List.mem_cons_of_mem _ (List.mem_cons_of_mem _ (List.mem_cons_of_mem _ (List.mem_cons_of_mem _ (List.mem_cons_of_mem _ (List.mem_cons_of_mem _ (List.mem_cons_of_mem _ (List.mem_cons_of_mem _ (List.mem_cons_of_mem _ (List.mem_cons_of_mem _ (List.mem_cons_of_mem _ (List.mem_cons_of_mem _ List.mem_cons_self)))))))))))))))))))))), (Sx.forall_cons h0 (Sx.forall_cons h1 (Sx.forall_cons h2 (Sx.forall_cons h3 (Sx.forall_cons h4 (Sx.forall_cons h5 (Sx.forall_cons h6 Sx.forall_nil)))))))⟩
              | false =>
                exact ⟨_, (List.mem_cons_of_mem _ (List.mem_cons_of_mem _ (List.mem_cons_of_mem _ (List.mem_cons_of_mem _ (List.mem_cons_of_mem _ (List.mem_cons_of_mem _ (List.mem_cons_of_mem _ (List.mem_cons_of_mem _ (List.mem_cons_of_mem _ (List.mem_cons_of_mem _ (List.mem_cons_of_mem _ (List.mem_cons_of_mem _ (List.mem_cons_of_mem _ (List.mem_cons_of_mem _ (List.mem_cons_of_mem _ (List.mem_cons_of_mem _ (List.mem_cons_of_mem _ (List.mem_cons_of_mem _ (List.mem_cons_of_mem _ (List.mem_cons_of_mem _ (List.mem_cons_of_mem _ (List.mem_cons_of_mem _ (List.mem_cons_of_mem _ List.mem_cons_self))))))))))))))))))))))), (Sx.forall_cons h0 (Sx.forall_cons h1 (Sx.forall_cons h2 (Sx.forall_cons h3 (Sx.forall_cons h4 (Sx.forall_cons h5 (Sx.forall_cons h6 Sx.forall_nil)))))))⟩
        | false =>
          cases h4 : Sx.E.T ρ (.bin .and (.bin (.gb 0) (.var 4) (.var 5)) (.un (.fb 3) (.var 4))) with
          | true =>
            cases h5 : Sx.E.T ρ (.bin .and (.bin (.gb 0) (.var 6) (.var 7)) (.un (.fb 3) (.var 6))) with
            | true =>
              cases h6 : Sx.E.T ρ (.bin .and (.bin (.gb 0) (.var 8) (.var 9)) (.un (.fb 3) (.var 8))) with
              | true =>
                exact ⟨_, (List.mem_cons_of_mem _ (List.mem_cons_of_mem _ (List.mem_cons_of_mem _ (List.mem_cons_of_mem _ (List.mem_cons_of_mem _ (List.mem_cons_of_mem _ (List.mem_cons_of_mem _ (List.mem_cons_of_mem _ (List.mem_cons_of_mem _ (List.mem_cons_of_mem _ (List.mem_cons_of_mem _ (List.mem_cons_of_mem _ (List.mem_cons_of_mem _ (List.mem_cons_of_mem _ (List.mem_cons_of_mem _ (List.mem_cons_of_mem _ (List.mem_cons_of_mem _ (List.mem_cons_of_mem _ (List.mem_cons_of_mem _ (List.mem_cons_of_mem _ (List.mem_cons_of_mem _ (List.mem_cons_of_mem _ (List.mem_cons_of_mem _ (List.mem_cons_of_mem _ List.mem_cons_self)))))))))))))))))))))))), (Sx.forall_cons h0 (Sx.forall_cons h1 (Sx.forall_cons h2 (Sx.forall_cons h3 (Sx.forall_cons h4 (Sx.forall_cons h5 (Sx.forall_cons h6 Sx.forall_nil)))))))⟩
              | false =>
                exact ⟨_, (List.mem_cons_of_mem _ (List.mem_cons_of_mem _ (List.mem_cons_of_mem _ (List.mem_cons_of_mem _ (List.mem_cons_of_mem _ (List.mem_cons_of_mem _ (List.mem_cons_of_mem _ (List.mem_cons_of_mem _ (List.mem_cons_of_mem _ (List.mem_cons_of_mem _ (List.mem_cons_of_mem _ (List.mem_cons_of_mem _ (List.mem_cons_of_mem _ (List.mem_cons_of_mem _ (List.mem_cons_of_mem _ (List.mem_cons_of_mem _ (List.mem_cons_of_mem _ (List.mem_cons_of_mem _ (List.mem_cons_of_mem _ (List.mem_cons_of_mem _ (List.mem_cons_of_mem _ (List.mem_cons_of_mem _ (List.mem_cons_of_mem _ (List.mem_cons_of_mem _ (List.mem_cons_of_mem _ List.mem_cons_self))))))))))))))))))))))))), (Sx.forall_cons h0 (Sx.forall_cons h1 (Sx.forall_cons h2 (Sx.forall_cons h3 (Sx.forall_cons h4 (Sx.forall_cons h5 (Sx.forall_cons h6 Sx.forall_nil)))))))⟩
            | false =>
              cases h6 : Sx.E.T ρ (.bin .and (.bin (.gb 0) (.var 8) (.var 9)) (.un (.fb 3) (.var 8))) with
              | true =>
                exact ⟨_, (List.mem_cons_of_mem _ (List.mem_cons_of_mem _ (List.mem_cons_of_mem _ (List.mem_cons_of_mem _ (List.mem_cons_of_mem _ (List.mem_cons_of_mem _ (List.mem_cons_of_mem _ (List.mem_cons_of_mem _ (List.mem_cons_of_mem _ (List.mem_cons_of_mem _ (List.mem_cons_of_mem _ (List.mem_cons_of_mem _ (List.mem_cons_of_mem _ (List.mem_cons_of_mem _ (List.mem_cons_of_mem _ (List.mem_cons_of_mem _ (List.mem_cons_of_mem _ (List.mem_cons_of_mem _ (List.mem_cons_of_mem _ (List.mem_cons_of_mem _ (List.mem_cons_of_mem _ (List.mem_cons_of_mem _ (List.mem_cons_of_mem _ (List.mem_cons_of_mem _ (List.mem_cons_of_mem _ (List.mem_cons_of_mem _ List.mem_cons_self)))))))))))))))))))))))))), (Sx.forall_cons h0 (Sx.forall_cons h1 (Sx.forall_cons h2 (Sx.forall_cons h3 (Sx.forall_cons h4 (Sx.forall_cons h5 (Sx.forall_cons h6 Sx.forall_nil)))))))⟩
              | false =>
                exact ⟨_, (List.mem_cons_of_mem _ (List.mem_cons_of_mem _ (List.mem_cons_of_mem _ (List.mem_cons_of_mem _ (List.mem_cons_of_mem _ (List.mem_cons_of_mem _ (List.mem_cons_of_mem _ (List.mem_cons_of_mem _ (List.mem_cons_of_mem _ (List.mem_cons_of_mem _ (List.mem_cons_of_mem _ (List.mem_cons_of_mem _ (List.mem_cons_of_mem _ (List.mem_cons_of_mem _ (List.mem_cons_of_mem _ (List.mem_cons_of_mem _ (List.mem_cons_of_mem _ (List.mem_cons_of_mem _ (List.mem_cons_of_mem _ (List.mem_cons_of_mem _ (List.mem_cons_of_mem _ (List.mem_cons_of_mem _ (List.mem_cons_of_mem _ (List.mem_cons_of_mem _ (List.mem_cons_of_mem _ (List.mem_cons_of_mem _ (List.mem_cons_of_mem _ List.mem_cons_self))))))))))))))))))))))))))), (Sx.forall_cons h0 (Sx.forall_cons h1 (Sx.forall_cons h2 (Sx.forall_cons h3 (Sx.forall_cons h4 (Sx.forall_cons h5 (Sx.forall_cons h6 Sx.forall_nil)))))))⟩
          | false =>
            cases h5 : Sx.E.T ρ (.bin .and (.bin (.gb 0) (.var 6) (.var 7)) (.un (.fb 3) (.var 6))) with
            | true =>
              cases h6 : Sx.E.T ρ (.bin .and (.bin (.gb 0) (.var 8) (.var 9)) (.un (.fb 3) (.var 8))) with
              | true =>
                exact ⟨_, (List.mem_cons_of_mem _ (List.mem_cons_of_mem _ (List.mem_cons_of_mem _ (List.mem_cons_of_mem _ (List.mem_cons_of_mem _ (List.mem_cons_of_mem _ (List.mem_cons_of_mem _ (List.mem_cons_of_mem _ (List.mem_cons_of_mem _ (List.mem_cons_of_mem _ (List.mem_cons_of_mem _ (List.mem_cons_of_mem _ (List.mem_cons_of_mem _ (List.mem_cons_of_mem _ (List.mem_cons_of_mem _ (List.mem_cons_of_mem _ (List.mem_cons_of_mem _ (List.mem_cons_of_mem _ (List.mem_cons_of_mem _ (List.mem_cons_of_mem _ (List.mem_cons_of_mem _ (List.mem_cons_of_mem _ (List.mem_cons_of_mem _ (List.mem_cons_of_mem _ (List.mem_cons_of_mem _ (List.mem_cons_of_mem _ (List.mem_cons_of_mem _ (List.mem_cons_of_mem _ List.mem_cons_self)))))))))))))))))))))))))))), (Sx.forall_cons h0 (Sx.forall_cons h1 (Sx.forall_cons h2 (Sx.forall_cons h3 (Sx.forall_cons h4 (Sx.forall_cons h5 (Sx.forall_cons h6 Sx.forall_nil)))))))⟩
              | false =>
                exact ⟨_, (List.mem_cons_of_mem _ (List.mem_cons_of_mem _ (List.mem_cons_of_mem _ (List.mem_cons_of_mem _ (List.mem_cons_of_mem _ (List.mem_cons_of_mem _ (List.mem_cons_of_mem _ (List.mem_cons_of_mem _ (List.mem_cons_of_mem _ (List.mem_cons_of_mem _ (List.mem_cons_of_mem _ (List.mem_cons_of_mem _ (List.mem_cons_of_mem _ (List.mem_cons_of_mem _ (List.mem_cons_of_mem _ (List.mem_cons_of_mem _ (List.mem_cons_of_mem _ (List.mem_cons_of_mem _ (List.mem_cons_of_mem _ (List.mem_cons_of_mem _ (List.mem_cons_of_mem _ (List.mem_cons_of_mem _ (List.mem_cons_of_mem _ (List.mem_cons_of_mem _ (List.mem_cons_of_mem _ (List.mem_cons_of_mem _ (List.mem_cons_of_mem _ (List.mem_cons_of_mem _ (List.mem_cons_of_mem _ List.mem_cons_self))))))))))))))))))))))))))))), (Sx.forall_cons h0 (Sx.forall_cons h1 (Sx.forall_cons h2 (Sx.forall_cons h3 (Sx.forall_cons h4 (Sx.forall_cons h5 (Sx.forall_cons h6 Sx.forall_nil)))))))⟩
            | false =>
              cases h6 : Sx.E.T ρ (.bin .and (.bin (.gb 0) (.var 8) (.var 9)) (.un (.fb 3) (.var 8))) with
              | true =>
                exact ⟨_, (List.mem_cons_of_mem _ (List.mem_cons_of_mem _ (List.mem_cons_of_mem _ (List.mem_cons_of_mem _ (List.mem_cons_of_mem _ (List.mem_cons_of_mem _ (List.mem_cons_of_mem _ (List.mem_cons_of_mem _ (List.mem_cons_of_mem _ (List.mem_cons_of_mem _ (List.mem_cons_of_mem _ (List.mem_cons_of_mem _ (List.mem_cons_of_mem _ (List.mem_cons_of_mem _ (List.mem_cons_of_mem _ (List.mem_cons_of_mem _ (List.mem_cons_of_mem _ (List.mem_cons_of_mem _ (List.mem_cons_of_mem _ (List.mem_cons_of_mem _ (List.mem_cons_of_mem _ (List.mem_cons_of_mem _ (List.mem_cons_of_mem _ (List.mem_cons_of_mem _ (List.mem_cons_of_mem _ (List.mem_cons_of_mem _ (List.mem_cons_of_mem _ (List.mem_cons_of_mem _ (List.mem_cons_of_mem _ (List.mem_cons_of_mem _ List.mem_cons_self)))))))))))))))))))))))))))))), (Sx.forall_cons h0 (Sx.forall_cons h1 (Sx.forall_cons h2 (Sx.forall_cons h3 (Sx.forall_cons h4 (Sx.forall_cons h5 (Sx.forall_cons h6 Sx.forall_nil)))))))⟩
              | false =>
                exact ⟨_, (List.mem_cons_of_mem _ (List.mem_cons_of_mem _ (List.mem_cons_of_mem _ (List.mem_cons_of_mem _ (List.mem_cons_of_mem _ (List.mem_cons_of_mem _ (List.mem_cons_of_mem _ (List.mem_cons_of_mem _ (List.mem_cons_of_mem _ (List.mem_cons_of_mem _ (List.mem_cons_of_mem _ (List.mem_cons_of_mem _ (List.mem_cons_of_mem _ (List.mem_cons_of_mem _ (List.mem_cons_of_mem _ (List.mem_cons_of_mem _ (List.mem_cons_of_mem _ (List.mem_cons_of_mem _ (List.mem_cons_of_mem _ (List.mem_cons_of_mem _ (List.mem_cons_of_mem _ (List.mem_cons_of_mem _ (List.mem_cons_of_mem _ (List.mem_cons_of_mem _ (List.mem_cons_of_mem _ (List.mem_cons_of_mem _ (List.mem_cons_of_mem _ (List.mem_cons_of_mem _ (List.mem_cons_of_mem _ (List.mem_cons_of_mem _ (List.mem_cons_of_mem _ List.mem_cons_self))))))))))))))))))))))))))))))), (Sx.forall_cons h0 (Sx.forall_cons h1 (Sx.forall_cons h2 (Sx.forall_cons h3 (Sx.forall_cons h4 (Sx.forall_cons h5 (Sx.forall_cons h6 Sx.forall_nil)))))))⟩
      | false =>
        exact ⟨_, (List.mem_cons_of_mem _ (List.mem_cons_of_mem _ (List.mem_cons_of_mem _ (List.mem_cons_of_mem _ (List.mem_cons_of_mem _ (List.mem_cons_of_mem _ (List.mem_cons_of_mem _ (List.mem_cons_of_mem _ (List.mem_cons_of_mem _ (List.mem_cons_of_mem _ (List.mem_cons_of_mem _ (List.mem_cons_of_mem _ (List.mem_cons_of_mem _ (List.mem_cons_of_mem _ (List.mem_cons_of_mem _ (List.mem_cons_of_mem _ (List.mem_cons_of_mem _ (List.mem_cons_of_mem _ (List.mem_cons_of_mem _ (List.mem_cons_of_mem _ (List.mem_cons_of_mem _ (List.mem_cons_of_mem _ (List.mem_cons_of_mem _ (List.mem_cons_of_mem _ (List.mem_cons_of_mem _ (List.mem_cons_of_mem _ (List.mem_cons_of_mem _ (List.mem_cons_of_mem _ (List.mem_cons_of_mem _ (List.mem_cons_of_mem _ (List.mem_cons_of_mem _ (List.mem_cons_of_mem _ List.mem_cons_self)))))))))))))))))))))))))))))))), (Sx.forall_cons h0 (Sx.forall_cons h1 (Sx.forall_cons h2 Sx.forall_nil)))⟩
  | false =>
    cases h1 : Sx.E.T ρ (.bin .eq (.var 0) (.lit 14)) with
    | true =>
      cases h2 : Sx.E.T ρ (.bin .lt (.bin .mod (.var 23) (.lit 6)) (.lit 1)) with
      | true =>
        exact ⟨_, (List.mem_cons_of_mem _ (List.mem_cons_of_mem _ (List.mem_cons_of_mem _ (List.mem_cons_of_mem _ (List.mem_cons_of_mem _ (List.mem_cons_of_mem _ (List.mem_cons_of_mem _ (List.mem_cons_of_mem _ (List.mem_cons_of_mem _ (List.mem_cons_of_mem _ (List.mem_cons_of_mem _ (List.mem_cons_of_mem _ (List.mem_cons_of_mem _ (List.mem_cons_of_mem _ (List.mem_cons_of_mem _ (List.mem_cons_of_mem _ (List.mem_cons_of_mem _ (List.mem_cons_of_mem _ (List.mem_cons_of_mem _ (List.mem_cons_of_mem _ (List.mem_cons_of_mem _ (List.mem_cons_of_mem _ (List.mem_cons_of_mem _ (List.mem_cons_of_mem _ (List.mem_cons_of_mem _ (List.mem_cons_of_mem _ (List.mem_cons_of_mem _ (List.mem_cons_of_mem _ (List.mem_cons_of_mem _ (List.mem_cons_of_mem _ (List.mem_cons_of_mem _ (List.mem_cons_of_mem _ (List.mem_cons_of_mem _ List.mem_cons_self))))))))))))))))))))))))))))))))), (Sx.forall_cons h0 (Sx.forall_cons h1 (Sx.forall_cons h2 Sx.forall_nil)))⟩
      | false =>
        cases h3 : Sx.E.T ρ (.bin .lt (.bin .mod (.var 23) (.lit 6)) (.lit 2)) with
        | true =>
          exact ⟨_, (List.mem_cons_of_mem _ (List.mem_cons_of_mem _ (List.mem_cons_of_mem _ (List.mem_cons_of_mem _ (List.mem_cons_of_mem _ (List.mem_cons_of_mem _ (List.mem_cons_of_mem _ (List.mem_cons_of_mem _ (List.mem_cons_of_mem _ (List.mem_cons_of_mem _ (List.mem_cons_of_mem _ (List.mem_cons_of_mem _ (List.mem_cons_of_mem _ (List.mem_cons_of_mem _ (List.mem_cons_of_mem _ (List.mem_cons_of_mem _ (List.mem_cons_of_mem _ (List.mem_cons_of_mem _ (List.mem_cons_of_mem _ (List.mem_cons_of_mem _ (List.mem_cons_of_mem _ (List.mem_cons_of_mem _ (List.mem_cons_of_mem _ (List.mem_cons_of_mem _ (List.mem_cons_of_mem _ (List.mem_cons_of_mem _ (List.mem_cons_of_mem _ (List.mem_cons_of_mem _ (List.mem_cons_of_mem _ (List.mem_cons_of_mem _ (List.mem_cons_of_mem _ (List.mem_cons_of_mem _ (List.mem_cons_of_mem _ (List.mem_cons_of_mem _ List.mem_cons_self)))))))))))))))))))))))))))))))))), (Sx.forall_cons h0 (Sx.forall_cons h1 (Sx.forall_cons h2 (Sx.forall_cons h3 Sx.forall_nil))))⟩
        | false =>
          cases h4 : Sx.E.T ρ (.bin .lt (.bin .mod (.var 23) (.lit 6)) (.lit 3)) with
          | true =>
            exact ⟨_, (List.mem_cons_of_mem _ (List.mem_cons_of_mem _ (List.mem_cons_of_mem _ (List.mem_cons_of_mem _ (List.mem_cons_of_mem _ (List.mem_cons_of_mem _ (List.mem_cons_of_mem _ (List.mem_cons_of_mem _ (List.mem_cons_of_mem _ (List.mem_cons_of_mem _ (List.mem_cons_of_mem _ (List.mem_cons_of_mem _ (List.mem_cons_of_mem _ (List.mem_cons_of_mem _ (List.mem_cons_of_mem _ (List.mem_cons_of_mem _ (List.mem_cons_of_mem _ (List.mem_cons_of_mem _ (List.mem_cons_of_mem _ (List.mem_cons_of_mem _ (List.mem_cons_of_mem _ (List.mem_cons_of_mem _ (List.mem_cons_of_mem _ (List.mem_cons_of_mem _ (List.mem_cons_of_mem _ (List.mem_cons_of_mem _ (List.mem_cons_of_mem _ (List.mem_cons_of_mem _ (List.mem_cons_of_mem _ (List.mem_cons_of_mem _ (List.mem_cons_of_mem _ (List.mem_cons_of_mem _ (List.mem_cons_of_mem _ (List.mem_cons_of_mem _ (List.mem_cons_of_mem _ List.mem_cons_self))))))))))))))))))))))))))))))))))), (Sx.forall_cons h0 (Sx.forall_cons h1 (Sx.forall_cons h2 (Sx.forall_cons h3 (Sx.forall_cons h4 Sx.forall_nil)))))⟩
          | false =>
            cases h5 : Sx.E.T ρ (.bin .lt (.bin .mod (.var 23) (.lit 6)) (.lit 4)) with
            | true =>
              exact ⟨_, (List.mem_cons_of_mem _ (List.mem_cons_of_mem _ (List.mem_cons_of_mem _ (List.mem_cons_of_mem _ (List.mem_cons_of_mem _ (List.mem_cons_of_mem _ (List.mem_cons_of_mem _ (List.mem_cons_of_mem _ (List.mem_cons_of_mem _ (List.mem_cons_of_mem _ (List.mem_cons_of_mem _ (List.mem_cons_of_mem _ (List.mem_cons_of_mem _ (List.mem_cons_of_mem _ (List.mem_cons_of_mem _ (List.mem_cons_of_mem _ (List.mem_cons_of_mem _ (List.mem_cons_of_mem _ (List.mem_cons_of_mem _ (List.mem_cons_of_mem _ (List.mem_cons_of_mem _ (List.mem_cons_of_mem _ (List.mem_cons_of_mem _ (List.mem_cons_of_mem _ (List.mem_cons_of_mem _ (List.mem_cons_of_mem _ (List.mem_cons_of_mem _ (List.mem_cons_of_mem _ (List.mem_cons_of_mem _ (List.mem_cons_of_mem _ (List.mem_cons_of_mem _ (List.mem_cons_of_mem _ (List.mem_cons_of_mem _ (List.mem_cons_of_mem _ (List.mem_cons_of_mem _ (List.mem_cons_of_mem _ List.mem_cons_self)))))))))))))))))))))))))))))))))))), (Sx.forall_cons h0 (Sx.forall_cons h1 (Sx.forall_cons h2 (Sx.forall_cons h3 (Sx.forall_cons h4 (Sx.forall_cons h5 Sx.forall_nil))))))⟩
            | false =>
              cases h6 : Sx.E.T ρ (.bin .lt (.bin .mod (.var 23) (.lit 6)) (.lit 5)) with
              | true =>
                exact ⟨_, (List.mem_cons_of_mem _ (List.mem_cons_of_mem _ (List.mem_cons_of_mem _ (List.mem_cons_of_mem _ (List.mem_cons_of_mem _ (List.mem_cons_of_mem _ (List.mem_cons_of_mem _ (List.mem_cons_of_mem _ (List.mem_cons_of_mem _ (List.mem_cons_of_mem _ (List.mem_cons_of_mem _ (List.mem_cons_of_mem _ (List.mem_cons_of_mem _ (List.mem_cons_of_mem _ (List.mem_cons_of_mem _ (List.mem_cons_of_mem _ (List.mem_cons_of_mem _ (List.mem_cons_of_mem _ (List.mem_cons_of_mem _ (List.mem_cons_of_mem _ (List.mem_cons_of_mem _ (List.mem_cons_of_mem _ (List.mem_cons_of_mem _ (List.mem_cons_of_mem _ (List.mem_cons_of_mem _ (List.mem_cons_of_mem _ (List.mem_cons_of_mem _ (List.mem_cons_of_mem _ (List.mem_cons_of_mem _ (List.mem_cons_of_mem _ (List.mem_cons_of_mem _ (List.mem_cons_of_mem _ (List.mem_cons_of_mem _ (List.mem_cons_of_mem _ (List.mem_cons_of_mem _ (List.mem_cons_of_mem _ (List.mem_cons_of_mem _ List.mem_cons_self))))))))))))))))))))))))))))))))))))), (Sx.forall_cons h0 (Sx.forall_cons h1 (Sx.forall_cons h2 (Sx.forall_cons h3 (Sx.forall_cons h4 (Sx.forall_cons h5 (Sx.forall_cons h6 Sx.forall_nil)))))))⟩
              | false =>
                exact ⟨_, (List.mem_cons_of_mem _ (List.mem_cons_of_mem _ (List.mem_cons_of_mem _ (List.mem_cons_of_mem _ (List.mem_cons_of_mem _ (List.mem_cons_of_mem _ (List.mem_cons_of_mem _ (List.mem_cons_of_mem _ (List.mem_cons_of_mem _ (List.mem_cons_of_mem _ (List.mem_cons_of_mem _ (List.mem_cons_of_mem _ (List.mem_cons_of_mem _ (List.mem_cons_of_mem _ (List.mem_cons_of_mem _ (List.mem_cons_of_mem _ (List.mem_cons_of_mem _ (List.mem_cons_of_mem _ (List.mem_cons_of_mem _ (List.mem_cons_of_mem _ (List.mem_cons_of_mem _ (List.mem_cons_of_mem _ (List.mem_cons_of_mem _ (List.mem_cons_of_mem _ (List.mem_cons_of_mem _ (List.mem_cons_of_mem _ (List.mem_cons_of_mem _ (List.mem_cons_of_mem _ (List.mem_cons_of_mem _ (List.mem_cons_of_mem _ (List.mem_cons_of_mem _ (List.mem_cons_of_mem _ (List.mem_cons_of_mem _ (List.mem_cons_of_mem _ (List.mem_cons_of_mem _ (List.mem_cons_of_mem _ (List.mem_cons_of_mem _ (List.mem_cons_of_mem _ List.mem_cons_self)))))))))))))))))))))))))))))))))))))), (Sx.forall_cons h0 (Sx.forall_cons h1 (Sx.forall_cons h2 (Sx.forall_cons h3 (Sx.forall_cons h4 (Sx.forall_cons h5 (Sx.forall_cons h6 Sx.forall_nil)))))))⟩
    | false =>
      exact ⟨_, (List.mem_cons_of_mem _ (List.mem_cons_of_mem _ (List.mem_cons_of_mem _ (List.mem_cons_of_mem _ (List.mem_cons_of_mem _ (List.mem_cons_of_mem _ (List.mem_cons_of_mem _ (List.mem_cons_of_mem _ (List.mem_cons_of_mem _ (List.mem_cons_of_mem _ (List.mem_cons_of_mem _ (List.mem_cons_of_mem _ (List.mem_cons_of_mem _ (List.mem_cons_of_mem _ (List.mem_cons_of_mem _ (List.mem_cons_of_mem _ (List.mem_cons_of_mem _ (List.mem_cons_of_mem _ (List.mem_cons_of_mem _ (List.mem_cons_of_mem _ (List.mem_cons_of_mem _ (List.mem_cons_of_mem _ (List.mem_cons_of_mem _ (List.mem_cons_of_mem _ (List.mem_cons_of_mem _ (List.mem_cons_of_mem _ (List.mem_cons_of_mem _ (List.mem_cons_of_mem _ (List.mem_cons_of_mem _ (List.mem_cons_of_mem _ (List.mem_cons_of_mem _ (List.mem_cons_of_mem _ (List.mem_cons_of_mem _ (List.mem_cons_of_mem _ (List.mem_cons_of_mem _ (List.mem_cons_of_mem _ (List.mem_cons_of_mem _ (List.mem_cons_of_mem _ (List.mem_cons_of_mem _ List.mem_cons_self))))))))))))))))))))))))))))))))))))))), (Sx.forall_cons h0 (Sx.forall_cons h1 Sx.forall_nil))⟩
theorem walk (vs : List Value) (hv : Both AS.fits shapes vs) (w : World) : Calls Try.prog 7 vs.toArray w fun e w' => e = .returned (.bool true) ∧ Below w.heap.size w w' :=
  Sx.law_pro (E := En) Try.checked.mixed enOk (Sx.tabC_sound (Rc.jT_ok Sx.least_of_hold)) (Sx.tabC_sure (Rc.jT_ok Sx.least_of_hold)) (Sx.pro_least (l := shapes) (b := 0) (by decide)) cases cover (Sx.forall_cons runs0 (Sx.forall_cons runs1 (Sx.forall_cons runs2 (Sx.forall_cons runs3 (Sx.forall_cons runs4 (Sx.forall_cons runs5 (Sx.forall_cons runs6 (Sx.forall_cons runs7 (Sx.forall_cons runs8 (Sx.forall_cons runs9 (Sx.forall_cons runs10 (Sx.forall_cons runs11 (Sx.forall_cons runs12 (Sx.forall_cons runs13 (Sx.forall_cons runs14 (Sx.forall_cons runs15 (Sx.forall_cons runs16 (Sx.forall_cons runs17 (Sx.forall_cons runs18 (Sx.forall_cons runs19 (Sx.forall_cons runs20 (Sx.forall_cons runs21 (Sx.forall_cons runs22 (Sx.forall_cons runs23 (Sx.forall_cons runs24 (Sx.forall_cons runs25 (Sx.forall_cons runs26 (Sx.forall_cons runs27 (Sx.forall_cons runs28 (Sx.forall_cons runs29 (Sx.forall_cons runs30 (Sx.forall_cons runs31 (Sx.forall_cons runs32 (Sx.forall_cons runs33 (Sx.forall_cons runs34 (Sx.forall_cons runs35 (Sx.forall_cons runs36 (Sx.forall_cons runs37 (Sx.forall_cons runs38 (Sx.forall_cons runs39 Sx.forall_nil)))))))))))))))))))))))))))))))))))))))) hv w

set_option maxRecDepth 100000 in
theorem lifted (os : Os) (started : os.Started) (H : Type) (enc : TypeId × Value → H) :
    ReturnsInHanded {} Try.checked os 7 .any (Rows.reactLittleSpec.pre6 enc Try.prog Try.f7 Rows.reactLittleRow.domain false) (Rows.reactLittleSpec.post enc Try.prog Try.f7 false true false false) := by
  refine returnsInHanded_of_change (C := Try.checked) own started (by kernel_rfl) Try.func7
    (ChangeSpec.witness6 (enc := enc) (C := Try.checked) false ⟨#[], #[.agg #[.int .u8 0, .int .u8 0, .int .u8 0, .int .u8 0, .int .u8 0, .int .u8 0, .int .u8 0, .int .u8 0, .int .u8 0, .int .u8 0, .int .u8 0, .int .u8 0, .int .u8 0, .int .u8 0, .int .u8 0, .int .u8 0, .int .u8 0, .int .u8 0, .int .u8 0, .int .u8 0, .int .u8 0, .int .u8 0, .int .u8 0, .int .u64 0], .int .u8 0, .int .u64 0, .agg #[.int .u8 0, .int .u8 0, .int .u8 0, .int .u8 0, .int .u8 0, .int .u8 0, .int .u8 0, .int .u8 0]], []⟩ 8 (by kernel_rfl) (by kernel_rfl) (by kernel_rfl) (by kernel_rfl)) ?_
  intro W base args ds gs before hval0 hW hcnd _
  have hval : ∀ (j : Nat) t v, Try.f7.params[j]? = some t → args[j]? = some v → Value.okWide Try.prog W .any base t v := hval0
  have hW' := hW
  obtain ⟨p, q, hA0, hV, rfl, hfz, hnd⟩ := hW
  have hA : DataW.TrodAll enc Try.prog W 0 (fun _ => true) true Try.f7.params.toList args.toList ds p := hA0
  rw [Try.params7] at hA hval
  obtain ⟨v0, vs0, d0, ds0, p0, q0, hargs, rfl, rfl, h0, r0⟩ := trodAll_cons hA
  obtain ⟨v1, vs1, d1, ds1, p1, q1, rfl, rfl, rfl, h1, r1⟩ := trodAll_cons r0
  obtain ⟨v2, vs2, d2, ds2, p2, q2, rfl, rfl, rfl, h2, r2⟩ := trodAll_cons r1
  obtain ⟨v3, vs3, d3, ds3, p3, q3, rfl, rfl, rfl, h3, r3⟩ := trodAll_cons r2
  obtain ⟨rfl, rfl, rfl⟩ := trodAll_nil r3
  obtain rfl : args = #[v0, v1, v2, v3] := by cases args; simp_all
  obtain ⟨rfl, rfl⟩ := trodVars_none hV
  have lt0 : ∀ x ∈ p0, x.block < W.heap.size := by obtain ⟨m, hm⟩ := h0; exact DataW.trod_lt m _ _ _ hm
  have lt1 : ∀ x ∈ p1, x.block < W.heap.size := by obtain ⟨m, hm⟩ := h1; exact DataW.trod_lt m _ _ _ hm
  have lt2 : ∀ x ∈ p2, x.block < W.heap.size := by obtain ⟨m, hm⟩ := h2; exact DataW.trod_lt m _ _ _ hm
  have lt3 : ∀ x ∈ p3, x.block < W.heap.size := by obtain ⟨m, hm⟩ := h3; exact DataW.trod_lt m _ _ _ hm
  have hfit : Both AS.fits shapes [v0, v1, v2, v3] := (.cons (AS.fits_of (by kernel_rfl) (hval 0 _ v0 rfl rfl)) (.cons (AS.fits_of (by kernel_rfl) (hval 1 _ v1 rfl rfl)) (.cons (AS.fits_of (by kernel_rfl) (hval 2 _ v2 rfl rfl)) (.cons (AS.fits_of (by kernel_rfl) (hval 3 _ v3 rfl rfl)) .nil))))
  clear hA0 hval0
  refine (walk _ hfit W).mono fun e W' ⟨he, bel⟩ => ?_
  subst he
  exact ⟨_, rfl, _, _, _, [], _, [], hW', trodAll_mk1 (shut_bool Try.underlying4 _), (trodAll_cons_mk (Below.trod laidOut (by kernel_rfl) (of_decide_eq_true (by kernel_rfl)) h0 bel lt0) (trodAll_cons_mk (Below.trod laidOut (by kernel_rfl) (of_decide_eq_true (by kernel_rfl)) h1 bel lt1) (trodAll_cons_mk (Below.trod laidOut (by kernel_rfl) (of_decide_eq_true (by kernel_rfl)) h2 bel lt2) (trodAll_cons_mk (Below.trod laidOut (by kernel_rfl) (of_decide_eq_true (by kernel_rfl)) h3 bel lt3) trodAll_mk0)))), rfl, bel.frame _, fun h => by cases h⟩

theorem over : Rows.reactLittleRow.holds Try.pinned (OpenSpec.ofChange Rows.reactLittleSpec) :=
  OpenClaim.holds_of_wide 7 Try.f7 rfl rfl rfl rfl rfl rfl rfl ⟨rfl, rfl, rfl, rfl, rfl⟩ rfl rfl rfl rfl rfl (by kernel_rfl) Try.func7 (by kernel_rfl)
    (of_decide_eq_true (by kernel_rfl)) (by unfold Func.isWrapper; first | (rw [if_pos (by decide +kernel)]; kernel_rfl) | (rw [if_neg (by decide +kernel)]; exact ⟨rfl, rfl⟩))
    (fun os started H enc _ => lifted os started H enc)

/-- THE STATEMENT. -/
theorem proved : Rows.ReactLittleSaid := over
#print axioms proved
end Go.Proofs.Ytpnclloaimepbaa.reactLittle
