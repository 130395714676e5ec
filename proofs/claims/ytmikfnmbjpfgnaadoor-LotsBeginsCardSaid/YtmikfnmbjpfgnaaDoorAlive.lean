/- 'alive', the laws' own example, returns true, in whatever memory it is called. Conditions: none. -/
import Derived.Test.YtmikfnmbjpfgnaaDoorAxL
import Derived.Test.YtmikfnmbjpfgnaaDoorProg
import Derived.KernelRfl
namespace Go.Proofs.YtmikfnmbjpfgnaaDoor
open Go Go.RowKit Ax

theorem mixed : Tryd.prog.follows .mixedOrders = true := by kernel_rfl

def saysTrue : Option (Value × AH × Nat) → Bool
  | some (.bool true, _, _) => true
  | _ => false

theorem alive_run : true = saysTrue (acall Tryd.prog noTab 400 6 #[] heap0 0) := by kernel_rfl

theorem alive_calls (w : World) : Calls Tryd.prog 6 #[] w fun e w' => e = .returned (.bool true) ∧ Below w.heap.size w w' := by
  have h := alive_run.symm
  unfold saysTrue at h
  split at h
  · rename_i H' nx hr
    exact calls_plain mixed hr rfl rfl w
  · exact absurd h (by simp)

#print axioms alive_calls

end Go.Proofs.YtmikfnmbjpfgnaaDoor
