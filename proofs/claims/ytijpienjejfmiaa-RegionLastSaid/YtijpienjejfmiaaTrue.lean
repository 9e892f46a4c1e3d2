/-
  What a law's call ends in: true, and new memory alone.
-/
import Derived.Test.YtijpienjejfmiaaHeap
namespace Go.Proofs.Ytijpienjejfmiaa
open Go Go.RowKit

def TrueRes (w : World) (e : Ending) (w' : World) : Prop := e = .returned (.bool true) ∧ w.grownBy w' none
end Go.Proofs.Ytijpienjejfmiaa
