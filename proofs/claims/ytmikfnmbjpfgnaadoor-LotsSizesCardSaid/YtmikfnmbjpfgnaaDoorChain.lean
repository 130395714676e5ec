/- 'lots.Chain' in every memory: how many functions its job holds, and the rest. Conditions: none. -/
import Derived.Test.YtmikfnmbjpfgnaaDoorTab
namespace Go.Proofs.YtmikfnmbjpfgnaaDoor
open Go Go.RowKit Ax

def chainLines (c : Int) : List Line := [⟨15, 0, 0, 10, .int .i64 c⟩]

def chainSays (c : Int) : Option (Value × AH × Nat) → Bool
  | some (.agg ⟨[.slice _ l _, .int .i64 m, .slice none 0 0, .int .i64 p, .int .i64 q]⟩, _, _) => decide ((l : Int) = c + 1) && eqI m 0 && eqI p 300 && eqI q 500
  | _ => false

theorem chain_runs : true = ([0, 1, 2, 3, 4, 5, 6, 7, 8, 9, 10] : List Int).all fun c => chainSays c (acall Tryd.prog (lineTab (chainLines c)) 400 9 #[sym 0, .int .i64 300, .int .i64 500] heap0 0) := by kernel_rfl

theorem clamp_mem (n a b : Int) (h : a ≤ b) : a ≤ clamp n a b ∧ clamp n a b ≤ b := by
  unfold clamp
  repeat' split
  all_goals omega

/-- A job of that many functions. -/
def jobOf (x : Option Addr) (cap : Nat) (l : Nat) : Value := .agg #[.slice x l cap, .int .i64 0, .slice none 0 0, .int .i64 300, .int .i64 500]

theorem chain_calls (n : Int) (w : World) : Calls Tryd.prog 9 #[.int .i64 n, .int .i64 300, .int .i64 500] w fun e w' => ∃ x cap l, e = .returned (jobOf x cap l) ∧ (l : Int) = clamp n 0 10 + 1 ∧ Below w.heap.size w w' := by
  obtain ⟨h0, h10⟩ := clamp_mem n 0 10 (by decide)
  have hc : chainSays (clamp n 0 10) (acall Tryd.prog (lineTab (chainLines (clamp n 0 10))) 400 9 #[sym 0, .int .i64 300, .int .i64 500] heap0 0) = true := by
    refine List.all_eq_true.1 chain_runs.symm _ ?_
    have : clamp n 0 10 = 0 ∨ clamp n 0 10 = 1 ∨ clamp n 0 10 = 2 ∨ clamp n 0 10 = 3 ∨ clamp n 0 10 = 4 ∨ clamp n 0 10 = 5 ∨ clamp n 0 10 = 6 ∨ clamp n 0 10 = 7 ∨ clamp n 0 10 = 8 ∨ clamp n 0 10 = 9 ∨ clamp n 0 10 = 10 := by omega
    simpa using this
  have htab : TabOK Tryd.prog (symEnv [n]) (lineTab (chainLines (clamp n 0 10))) := lineTab_ok fun r hr => by
    obtain rfl : r = ⟨15, 0, 0, 10, .int .i64 (clamp n 0 10)⟩ := by simpa [chainLines] using hr
    refine ⟨n, rfl, fun w => (cut15 n 0 10 (by decide) w).mono ?_⟩
    rintro e w' ⟨rfl, hb⟩
    exact ⟨_, rfl, V2.int _ _, hb⟩
  unfold chainSays at hc
  split at hc
  · rename_i x l cap m p q H' nx hrun
    simp only [Bool.and_eq_true, decide_eq_true_eq, eqI_eq, beq_iff_eq] at hc
    obtain ⟨⟨⟨h1, rfl⟩, rfl⟩, rfl⟩ := hc
    refine (acall_ok mixed htab 400 9 _ heap0 0 _ _ _ hrun w.heap.size (symEnv [n]) #[.int .i64 n, .int .i64 300, .int .i64 500] w (Env.le_refl _) (.cons (.sym (symEnv_at rfl)) (.cons (V2.int _ _) (.cons (V2.int _ _) .nil))) (heap0_ok _ w)).mono ?_
    rintro e w' ⟨v', ρ', rfl, _, h2, _, h4⟩
    cases h2 with
    | sc h2 =>
      cases h2 with
      | sc h2 => nomatch h2
      | agg h2 =>
        cases h2 with
        | cons k0 h2 =>
          obtain ⟨x', cap', rfl⟩ := (V2.of0 k0).slice_inv
          cases h2 with
          | cons k1 h2 =>
            obtain rfl := (V2.of0 k1).plain rfl
            cases h2 with
            | cons k2 h2 =>
              obtain rfl := (V2.of0 k2).nil_inv
              cases h2 with
              | cons k3 h2 =>
                obtain rfl := (V2.of0 k3).plain rfl
                cases h2 with
                | cons k4 h2 =>
                  obtain rfl := (V2.of0 k4).plain rfl
                  cases h2 with
                  | nil => exact ⟨x', cap', l, rfl, h1, h4⟩
  · exact absurd hc (by simp)

end Go.Proofs.YtmikfnmbjpfgnaaDoor
