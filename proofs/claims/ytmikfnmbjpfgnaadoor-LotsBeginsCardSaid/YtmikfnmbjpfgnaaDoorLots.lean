/- The plain law of the two makers of scripts: both make the same list of steps. Conditions: none. -/
import Derived.Test.YtmikfnmbjpfgnaaDoorQ1
import Derived.Test.YtmikfnmbjpfgnaaDoorQ3
import Derived.Test.YtmikfnmbjpfgnaaDoorCuts
namespace Go.Proofs.YtmikfnmbjpfgnaaDoor.Q
open Go.RowKit Go.Proofs.YtmikfnmbjpfgnaaDoorW.PrintWords Go.Proofs.YtmikfnmbjpfgnaaDoorW.PrintLast Go.Proofs.YtmikfnmbjpfgnaaDoorW.PrintMore

def seedOf (s : Int) : Int := Go.bits .and .i64 s 4294967295
def nxt (s : Int) : Int := Go.bits .and .i64 (wrap64 ((wrap64 (s * 1664525)) + 1013904223)) 4294967295
def drw (s a : Int) : Int := Int.tmod (nxt s / 256) a

theorem drawR {s a : Int} (h : 1 ≤ a) : gleanerref14_Draw.f s a = some (nxt s, drw s a) := by
  unfold gleanerref14_Draw.f
  rw [if_neg (by omega), if_neg (by omega)]
  rfl
theorem drawL {s a : Int} (h : 1 ≤ a) : draw_Draws_Draw.f s a = some (drw s a, nxt s) := by
  unfold draw_Draws_Draw.f
  rw [if_neg (by omega)]
  rfl

def stepOf (m s : Int) : Int × S38 :=
  if drw s 100 < 45 then (nxt (nxt s), ⟨1, drw (nxt s) m, 0, 0⟩)
  else if drw s 100 < 60 then (nxt s, ⟨2, 0, 0, 0⟩)
  else if drw s 100 < 85 then (nxt (nxt s), ⟨3, 0, drw (nxt s) 4, 0⟩)
  else if drw s 100 < 90 then (nxt (nxt s), ⟨4, 0, drw (nxt s) 4, 0⟩)
  else if drw s 100 < 94 then (nxt (nxt s), ⟨5, 0, drw (nxt s) 4, 0⟩)
  else if drw s 100 < 98 then (nxt (nxt (nxt s)), ⟨6, 0, drw (nxt s) 4, drw (nxt (nxt s)) 200⟩)
  else (nxt (nxt s), ⟨7, drw (nxt s) m, 0, 0⟩)

theorem h100 : (1 : Int) ≤ 100 := by decide
theorem h4 : (1 : Int) ≤ 4 := by decide
theorem h200 : (1 : Int) ≤ 200 := by decide

theorem refRound {k : Nat} {m n s i : Int} {l : List S38} (hm : 1 ≤ m) (hi : i < n) (hl : l.length < 4398046511104) :
    gleanerref14_Script.l0 (k + 1) m n s l i = gleanerref14_Script.l0 k m n (stepOf m s).1 (l ++ [(stepOf m s).2]) (wrap64 (i + 1)) := by
  rw [gleanerref14_Script.l0, if_pos hi]
  simp only [drawR h100, drawR hm, drawR h4, drawR h200, Option.bind_some, if_pos hl]
  unfold stepOf
  by_cases c1 : drw s 100 < 45
  · simp only [if_pos c1]
  by_cases c2 : drw s 100 < 60
  · simp only [if_neg c1, if_pos c2]
  by_cases c3 : drw s 100 < 85
  · simp only [if_neg c1, if_neg c2, if_pos c3]
  by_cases c4 : drw s 100 < 90
  · simp only [if_neg c1, if_neg c2, if_neg c3, if_pos c4]
  by_cases c5 : drw s 100 < 94
  · simp only [if_neg c1, if_neg c2, if_neg c3, if_neg c4, if_pos c5]
  by_cases c6 : drw s 100 < 98
  · simp only [if_neg c1, if_neg c2, if_neg c3, if_neg c4, if_neg c5, if_pos c6]
  · simp only [if_neg c1, if_neg c2, if_neg c3, if_neg c4, if_neg c5, if_neg c6]

theorem lotsRound {k : Nat} {m n s i : Int} {l : List S38} (hm : 1 ≤ m) (hi : i < n) (hl : l.length < 4398046511104) :
    lots_Script.l0 (k + 1) m l n i s = lots_Script.l0 k m (l ++ [(stepOf m s).2]) n (wrap64 (i + 1)) (stepOf m s).1 := by
  rw [lots_Script.l0, if_pos hi]
  simp only [drawL h100, drawL hm, drawL h4, drawL h200, Option.bind_some, if_pos hl]
  unfold stepOf
  by_cases c1 : drw s 100 < 45
  · simp only [if_pos c1]
  by_cases c2 : drw s 100 < 60
  · simp only [if_neg c1, if_pos c2]
  by_cases c3 : drw s 100 < 85
  · simp only [if_neg c1, if_neg c2, if_pos c3]
  by_cases c4 : drw s 100 < 90
  · simp only [if_neg c1, if_neg c2, if_neg c3, if_pos c4]
  by_cases c5 : drw s 100 < 94
  · simp only [if_neg c1, if_neg c2, if_neg c3, if_neg c4, if_pos c5]
  by_cases c6 : drw s 100 < 98
  · simp only [if_neg c1, if_neg c2, if_neg c3, if_neg c4, if_neg c5, if_pos c6]
  · simp only [if_neg c1, if_neg c2, if_neg c3, if_neg c4, if_neg c5, if_neg c6]

def runOf (m : Int) : Nat → Int → List S38
  | 0, _ => []
  | n + 1, s => (stepOf m s).2 :: runOf m n (stepOf m s).1

theorem runOf_length (m : Int) : ∀ (n : Nat) (s : Int), (runOf m n s).length = n
  | 0, _ => rfl
  | n + 1, s => by simp [runOf, runOf_length m n]

theorem wrap_one {i : Int} (h0 : 0 ≤ i) (h1 : i ≤ 100000) : wrap64 (i + 1) = i + 1 := by unfold wrap64; omega

theorem refLoop {m n : Int} (hm : 1 ≤ m) (hn : n ≤ 10000) : ∀ (d k : Nat) (s i : Int) (l : List S38), d = (n - i).toNat → 0 ≤ i → l.length + d ≤ 20000 → d < k → gleanerref14_Script.l0 k m n s l i = some (l ++ runOf m d s)
  | 0, k, s, i, l, hd, h0, hl, hk => by
    obtain ⟨k, rfl⟩ : ∃ q, k = q + 1 := ⟨k - 1, by omega⟩
    rw [gleanerref14_Script.l0, if_neg (by omega)]
    simp [runOf]
  | d + 1, k, s, i, l, hd, h0, hl, hk => by
    obtain ⟨k, rfl⟩ : ∃ q, k = q + 1 := ⟨k - 1, by omega⟩
    rw [refRound hm (by omega) (by omega), wrap_one h0 (by omega), refLoop hm hn d k _ (i + 1) _ (by omega) (by omega) (by simp only [List.length_append, List.length_cons, List.length_nil]; omega) (by omega)]
    simp [runOf]

theorem lotsLoop {m n : Int} (hm : 1 ≤ m) (hn : n ≤ 10000) : ∀ (d k : Nat) (s i : Int) (l : List S38), d = (n - i).toNat → 0 ≤ i → l.length + d ≤ 20000 → d < k → lots_Script.l0 k m l n i s = some (l ++ runOf m d s)
  | 0, k, s, i, l, hd, h0, hl, hk => by
    obtain ⟨k, rfl⟩ : ∃ q, k = q + 1 := ⟨k - 1, by omega⟩
    rw [lots_Script.l0, if_neg (by omega)]
    simp [runOf]
  | d + 1, k, s, i, l, hd, h0, hl, hk => by
    obtain ⟨k, rfl⟩ : ∃ q, k = q + 1 := ⟨k - 1, by omega⟩
    rw [lotsRound hm (by omega) (by omega), wrap_one h0 (by omega), lotsLoop hm hn d k _ (i + 1) _ (by omega) (by omega) (by simp only [List.length_append, List.length_cons, List.length_nil]; omega) (by omega)]
    simp [runOf]

/-- The script of a seed. -/
def scriptOf (seed nodes n : Int) : List S38 := runOf (clamp nodes 1 16) (clamp n 0 10000).toNat (seedOf seed)

theorem clamp_bounds (n a b : Int) (h : a ≤ b) : a ≤ clamp n a b ∧ clamp n a b ≤ b := by
  unfold clamp
  repeat' split
  all_goals omega

theorem scriptOf_length (seed nodes n : Int) : (scriptOf seed nodes n).length ≤ 10000 := by
  unfold scriptOf
  rw [runOf_length]
  have := clamp_bounds n 0 10000 (by decide)
  omega

theorem refScript {k : Nat} (hk : 10010 ≤ k) (seed nodes n : Int) : gleanerref14_Script.f k seed nodes n = some (scriptOf seed nodes n) := by
  obtain ⟨k, rfl⟩ : ∃ q, k = q + 3 := ⟨k - 3, by omega⟩
  have key2 : ∀ m z : Int, 1 ≤ m → z ≤ 10000 → gleanerref14_Script.j2 (k + 1) seed m z = some (runOf m z.toNat (seedOf seed)) := by
    intro m z h1 h2
    rw [gleanerref14_Script.j2, refLoop h1 h2 z.toNat k _ 0 [] (by simp) (by decide) (by simp; omega) (by omega)]
    rfl
  have key1 : ∀ m : Int, 1 ≤ m → gleanerref14_Script.j1 (k + 2) seed m n = some (runOf m (clamp n 0 10000).toNat (seedOf seed)) := by
    intro m h1
    rw [gleanerref14_Script.j1]
    unfold clamp
    by_cases h : n > 10000
    · rw [if_pos h, key2 m 10000 h1 (by decide), if_neg (by omega), if_pos h]
    · rw [if_neg h, key2 m n h1 (by omega)]
      by_cases h' : n < 0
      · rw [if_pos h', show n.toNat = 0 by omega]
        rfl
      · rw [if_neg h', if_neg h]
  have key0 : ∀ m : Int, 1 ≤ m → gleanerref14_Script.j0 (k + 3) seed m n = some (runOf (if m > 16 then 16 else m) (clamp n 0 10000).toNat (seedOf seed)) := by
    intro m h1
    rw [gleanerref14_Script.j0]
    by_cases h : m > 16
    · rw [if_pos h, if_pos h, key1 16 (by decide)]
    · rw [if_neg h, if_neg h, key1 m h1]
  unfold gleanerref14_Script.f scriptOf
  by_cases h : nodes < 1
  · rw [if_pos h, key0 1 (by decide), show clamp nodes 1 16 = 1 by unfold clamp; rw [if_pos h]]
    rfl
  · rw [if_neg h, key0 nodes (by omega), show clamp nodes 1 16 = if nodes > 16 then 16 else nodes by unfold clamp; rw [if_neg h]]

theorem cutIs (n a b : Int) (h : a ≤ b) : lots_cut.f n a b = some (clamp n a b) := by
  unfold lots_cut.f mn mx clamp
  congr 1
  repeat' split
  all_goals omega

theorem lotsScript {k : Nat} (hk : 10010 ≤ k) (seed nodes n : Int) : lots_Script.f k seed nodes n = some (scriptOf seed nodes n) := by
  have h1 := clamp_bounds nodes 1 16 (by decide)
  have h2 := clamp_bounds n 0 10000 (by decide)
  unfold lots_Script.f draw_From.f scriptOf
  rw [cutIs nodes 1 16 (by decide), cutIs n 0 10000 (by decide)]
  simp only [Option.bind_some]
  rw [lotsLoop h1.1 h2.2 (clamp n 0 10000).toNat k _ 0 [] (by simp) (by decide) (by simp; omega) (by omega)]
  rfl

end Go.Proofs.YtmikfnmbjpfgnaaDoor.Q
