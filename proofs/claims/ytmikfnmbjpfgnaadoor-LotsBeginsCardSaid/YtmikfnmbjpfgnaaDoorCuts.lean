/- The two cuts' contracts. Conditions: none. -/
import Derived.Test.YtmikfnmbjpfgnaaDoorAxB
import Derived.Test.YtmikfnmbjpfgnaaDoorProg
import Derived.Tactics
import Derived.Tactics2
namespace Go.Proofs.YtmikfnmbjpfgnaaDoor
open Go Go.RowKit

theorem max2_i (x y : Int) : Builtin.max2 (.int .i64 x) (.int .i64 y) = pure (.int .i64 (if x < y then y else x)) := by simp only [Builtin.max2, gt_iff_lt]
theorem min2_i (x y : Int) : Builtin.min2 (.int .i64 x) (.int .i64 y) = pure (.int .i64 (if y < x then y else x)) := by simp only [Builtin.min2]
theorem max_2 (ats : Array TypeId) (ty : TypeId) (a b : Value) : Builtin.max_ ats ty #[a, b] = (Builtin.max2 a b >>= fun s => pure s) := by simp only [Builtin.max_, List.foldlM_cons, List.foldlM_nil]
theorem min_2 (ats : Array TypeId) (ty : TypeId) (a b : Value) : Builtin.min_ ats ty #[a, b] = (Builtin.min2 a b >>= fun s => pure s) := by simp only [Builtin.min_, List.foldlM_cons, List.foldlM_nil]
attribute [local go_sem] max2_i min2_i max_2 min_2

/-- Between two numbers. -/
def clamp (n a b : Int) : Int := if n < a then a else if n > b then b else n

theorem cut15 (n a b : Int) (hab : a ≤ b) (w : World) : Calls Tryd.prog 15 #[.int .i64 n, .int .i64 a, .int .i64 b] w fun e w' => e = .returned (.int .i64 (clamp n a b)) ∧ Below w.heap.size w w' := by
  have key : (if b < (if a < n then n else a) then b else (if a < n then n else a)) = clamp n a b := by
    unfold clamp
    repeat' split
    all_goals omega
  go_enter Tryd.func15, Tryd.ntmps15
  go_wp2
  all_goals go_ret
  all_goals exact ⟨rfl, Below.refl _ _⟩

theorem cut8 (n a b : Int) (w : World) : Calls Tryd.prog 8 #[.int .i64 n, .int .i64 a, .int .i64 b] w fun e w' => e = .returned (.int .i64 (clamp n a b)) ∧ Below w.heap.size w w' := by
  unfold clamp
  by_cases c1 : n < a
  · have d1 : decide (n < a) = true := decide_eq_true c1
    rw [if_pos c1]
    go_enter Tryd.func8, Tryd.ntmps8
    go_wp2
    go_ret
    exact ⟨rfl, Below.refl _ _⟩
  · have d1 : decide (n < a) = false := decide_eq_false c1
    rw [if_neg c1]
    by_cases c2 : n > b
    · have d2 : decide (b < n) = true := decide_eq_true c2
      rw [if_pos c2]
      go_enter Tryd.func8, Tryd.ntmps8
      go_wp2
      go_ret
      exact ⟨rfl, Below.refl _ _⟩
    · have d2 : decide (b < n) = false := decide_eq_false c2
      rw [if_neg c2]
      go_enter Tryd.func8, Tryd.ntmps8
      go_wp2
      go_ret
      exact ⟨rfl, Below.refl _ _⟩

end Go.Proofs.YtmikfnmbjpfgnaaDoor
