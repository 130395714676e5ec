/- 'LotsScripts' returns true, whatever its numbers, in every memory. Conditions: none. -/
import Derived.Test.YtmikfnmbjpfgnaaDoorLots
import Derived.Test.YtmikfnmbjpfgnaaDoorQ5
namespace Go.Proofs.YtmikfnmbjpfgnaaDoor.Q
open Go.RowKit Go.Proofs.YtmikfnmbjpfgnaaDoorW.PrintWords Go.Proofs.YtmikfnmbjpfgnaaDoorW.PrintLast Go.Proofs.YtmikfnmbjpfgnaaDoorW.PrintMore

theorem sameLoop (L : List S38) (hL : L.length ≤ 10000) : ∀ (d k : Nat) (i : Int), d = ((L.length : Int) - i).toNat → 0 ≤ i → d < k → gleanerlaw30_LotsScripts.l0 k L L i = some true
  | 0, k, i, hd, h0, hk => by
    obtain ⟨k, rfl⟩ : ∃ q, k = q + 1 := ⟨k - 1, by omega⟩
    rw [gleanerlaw30_LotsScripts.l0, if_neg (by omega)]
  | d + 1, k, i, hd, h0, hk => by
    obtain ⟨k, rfl⟩ : ∃ q, k = q + 1 := ⟨k - 1, by omega⟩
    rw [gleanerlaw30_LotsScripts.l0, if_pos (by omega), if_pos h0, if_pos (by omega), if_neg (by simp), wrap_one h0 (by omega), sameLoop L hL d k (i + 1) (by omega) (by omega) (by omega)]

theorem scriptsPure : gleanerlaw30_LotsScripts.Pure := by
  intro seed nodes n _ _ _
  refine ⟨20000 + 1, ?_⟩
  have hj : ∀ b : Bool, gleanerlaw30_LotsScripts.j0 (20000 + 1) seed nodes n true b = some true := by
    intro b
    rw [gleanerlaw30_LotsScripts.j0]
    cases b with
    | true => rw [if_pos rfl]
    | false =>
      have hL := scriptOf_length seed nodes n
      rw [if_neg (by decide), lotsScript (by decide), refScript (by decide)]
      simp only [Option.bind_some, if_true]
      rw [sameLoop _ hL (scriptOf seed nodes n).length 20000 0 (by omega) (by decide) (by omega)]
  unfold gleanerlaw30_LotsScripts.f gleanerlaw30_alive.f
  simp only [Option.bind_some, hj, ite_self]

end Go.Proofs.YtmikfnmbjpfgnaaDoor.Q
namespace Go.Proofs.YtmikfnmbjpfgnaaDoor

open Go Go.RowKit in
theorem scripts_calls (a0 a1 a2 : Int) (w : World) (w0 : (Lit.int .i64 a0).wf = true) (w1 : (Lit.int .i64 a1).wf = true) (w2 : (Lit.int .i64 a2).wf = true) : Calls Tryd.prog 4 #[.int .i64 a0, .int .i64 a1, .int .i64 a2] w fun e w' => e = .returned (.bool true) ∧ Below w.heap.size w w' :=
  Q.gleanerlaw30_LotsScripts.walk Q.scriptsPure a0 a1 a2 w w0 w1 w2

end Go.Proofs.YtmikfnmbjpfgnaaDoor
