/- 'LotsBegins' returns true, whatever its numbers, in every memory. Conditions: none. -/
import Derived.Test.YtmikfnmbjpfgnaaDoorFine
import Derived.Test.YtmikfnmbjpfgnaaDoorQ6
namespace Go.Proofs.YtmikfnmbjpfgnaaDoor.Q
open Go.RowKit Go.Proofs.YtmikfnmbjpfgnaaDoorW.PrintWords Go.Proofs.YtmikfnmbjpfgnaaDoorW.PrintLast Go.Proofs.YtmikfnmbjpfgnaaDoorW.PrintMore

theorem begins_loop {m n : Int} {L M : List S38} (hm : 1 ≤ m) (hL : (L.length : Int) = n) (hM : M.length ≤ 1000) (hsame : ∀ i : Int, 0 ≤ i → i < n → rd_T38 M i = rd_T38 L i)
    (hf : ∀ i : Int, 0 ≤ i → i < (M.length : Int) → Fine m (rd_T38 M i)) {k : Nat} {t : ByteArray} (hp : gleanerref14_Print.f k M = some t) (ht : M.length ≤ t.size) :
    ∀ (d : Nat) (i : Int), d = ((M.length : Int) - i).toNat → 0 ≤ i → gleanerlaw30_LotsBegins.l0 (k + d + 1) m n L M i = some true
  | 0, i, hd, h0 => by
    rw [gleanerlaw30_LotsBegins.l0, if_neg (by omega), hp]
    simp only [Option.bind_some]
    by_cases he : t.toList = []
    · rw [if_pos he]
      have hz : t.size = 0 := by
        rw [ByteArray.toList_eq] at he
        have := congrArg List.length he
        simpa using this
      rw [show M.length = 0 by omega]
      rfl
    · rw [if_neg he]
  | d + 1, i, hd, h0 => by
    have hi : i < (M.length : Int) := by omega
    obtain ⟨b1, b2, b3, b4, b5, b6, b7, b8⟩ := (hf i h0 hi).bounds hm
    have ih := begins_loop hm hL hM hsame hf hp ht d (i + 1) (by omega) (by omega)
    have hw := wrap_one h0 (by omega)
    rw [show k + (d + 1) + 1 = (k + d + 1) + 1 by omega, gleanerlaw30_LotsBegins.l0, if_pos hi, if_pos h0]
    by_cases hn : i < n
    · rw [if_pos hn, if_pos (by omega), if_neg (by rw [hsame i h0 hn]; simp), if_neg (by omega), if_neg (by omega), if_neg (by omega), if_neg (by omega), if_neg (by omega), if_neg (by omega), if_neg (by omega), if_neg (by omega), hw, ih]
    · rw [if_neg hn, if_neg (by omega), if_neg (by omega), if_neg (by omega), if_neg (by omega), if_neg (by omega), if_neg (by omega), if_neg (by omega), if_neg (by omega), hw, ih]

theorem begins_j0 (seed m n more : Int) (hm : 1 ≤ m) (hm' : m ≤ 16) (hn : 0 ≤ n) (hn' : n ≤ 300) (hr : 0 ≤ more) (hr' : more ≤ 300) : gleanerlaw30_LotsBegins.j0 20000 seed m n more true false = some true := by
  have c1 : clamp m 1 16 = m := by unfold clamp; rw [if_neg (by omega), if_neg (by omega)]
  have c2 : clamp n 0 10000 = n := by unfold clamp; rw [if_neg (by omega), if_neg (by omega)]
  have c3 : clamp (n + more) 0 10000 = n + more := by unfold clamp; rw [if_neg (by omega), if_neg (by omega)]
  have hw : wrap64 (n + more) = n + more := by unfold wrap64; omega
  have hA : scriptOf seed m n = runOf m n.toNat (seedOf seed) := by unfold scriptOf; rw [c1, c2]
  have hB : scriptOf seed m (n + more) = runOf m (n.toNat + more.toNat) (seedOf seed) := by unfold scriptOf; rw [c1, c3, show (n + more).toNat = n.toNat + more.toNat by omega]
  have lA : (runOf m n.toNat (seedOf seed)).length = n.toNat := runOf_length _ _ _
  have lB : (runOf m (n.toNat + more.toNat) (seedOf seed)).length = n.toNat + more.toNat := runOf_length _ _ _
  have hsame : ∀ i : Int, 0 ≤ i → i < n → rd_T38 (runOf m (n.toNat + more.toNat) (seedOf seed)) i = rd_T38 (runOf m n.toNat (seedOf seed)) i := fun i h0 h1 => runOf_begin more.toNat n.toNat _ _ (by omega)
  have hf : ∀ i : Int, 0 ≤ i → i < ((runOf m (n.toNat + more.toNat) (seedOf seed)).length : Int) → Fine m (rd_T38 (runOf m (n.toNat + more.toNat) (seedOf seed)) i) := fun i h0 h1 => runOf_fine hm _ _ _ (by rw [lB] at h1; omega)
  obtain ⟨t, ht, hts⟩ := print_all hm' (by omega) hf (n.toNat + more.toNat) (⟨#[]⟩ : ByteArray) 0 (by omega) (by decide) (by have : (⟨#[]⟩ : ByteArray).size = 0 := rfl; omega)
  have hp : gleanerref14_Print.f 3000 (runOf m (n.toNat + more.toNat) (seedOf seed)) = some t := more_print (by omega) ht
  have hl := begins_loop hm (by omega) (by omega) hsame hf hp (by omega) (n.toNat + more.toNat) 0 (by omega) (by decide)
  have hl' : gleanerlaw30_LotsBegins.l0 19998 m n (runOf m n.toNat (seedOf seed)) (runOf m (n.toNat + more.toNat) (seedOf seed)) 0 = some true :=
    at_rounds (g := fun k => gleanerlaw30_LotsBegins.l0 k m n (runOf m n.toNat (seedOf seed)) (runOf m (n.toNat + more.toNat) (seedOf seed)) 0) (fun k => (gleanerlaw30_LotsBegins.mono_l k).2.2 _ _ _ _ _) (by omega) hl
  rw [show (20000 : Nat) = 19999 + 1 from rfl, gleanerlaw30_LotsBegins.j0, if_neg (by decide), hw, lotsScript (by decide), lotsScript (by decide)]
  simp only [Option.bind_some]
  rw [hA, hB, if_pos (by omega), show (19999 : Nat) = 19998 + 1 from rfl, gleanerlaw30_LotsBegins.j1, if_neg (by rw [lB]; simp; omega), hl']

theorem begins_true (seed m n more : Int) : gleanerlaw30_LotsBegins.j0 20000 seed m n more true true = some true := by
  rw [show (20000 : Nat) = 19999 + 1 from rfl, gleanerlaw30_LotsBegins.j0, if_pos rfl]

theorem beginsPure : gleanerlaw30_LotsBegins.Pure := by
  intro seed m n more _ _ _ _
  refine ⟨20000, ?_⟩
  unfold gleanerlaw30_LotsBegins.f gleanerlaw30_alive.f
  simp only [Option.bind_some, if_true]
  by_cases h1 : m < 1
  · rw [if_pos h1, begins_true]
  rw [if_neg h1]
  by_cases h2 : m > 16
  · rw [if_pos h2, begins_true]
  rw [if_neg h2]
  by_cases h3 : n < 0
  · rw [if_pos h3, begins_true]
  rw [if_neg h3]
  by_cases h4 : n > 300
  · rw [if_pos h4, begins_true]
  rw [if_neg h4]
  by_cases h5 : more < 0
  · rw [if_pos h5, begins_true]
  rw [if_neg h5]
  by_cases h6 : more > 300
  · rw [decide_eq_true h6, begins_true]
  · rw [decide_eq_false h6, begins_j0 seed m n more (by omega) (by omega) (by omega) (by omega) (by omega) (by omega)]

end Go.Proofs.YtmikfnmbjpfgnaaDoor.Q
namespace Go.Proofs.YtmikfnmbjpfgnaaDoor

open Go Go.RowKit in
theorem begins_calls (a0 a1 a2 a3 : Int) (w : World) (w0 : (Lit.int .i64 a0).wf = true) (w1 : (Lit.int .i64 a1).wf = true) (w2 : (Lit.int .i64 a2).wf = true) (w3 : (Lit.int .i64 a3).wf = true) : Calls Tryd.prog 5 #[.int .i64 a0, .int .i64 a1, .int .i64 a2, .int .i64 a3] w fun e w' => e = .returned (.bool true) ∧ Below w.heap.size w w' :=
  Q.gleanerlaw30_LotsBegins.walk Q.beginsPure a0 a1 a2 a3 w w0 w1 w2 w3

end Go.Proofs.YtmikfnmbjpfgnaaDoor
