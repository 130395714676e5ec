/- Regions in the text's order stand for the model's. Conditions: none. -/
import Derived.Test.YtmikfnmbjpfgnaaDoorAxF
namespace Go.Proofs.YtmikfnmbjpfgnaaDoor.Ax
open Go Go.RowKit

variable {P : Program} {B : Nat} {ρ0 ρ : Env} {H : AH} {w : World}

def Good (s : St) : Prop := ∃ d, Tr.perf d s.fr ∧ s.n ≤ 2 ^ d

structure FR (ρ0 : Env) (B : Nat) (ρ : Env) (s : St) (a : Act) (w : World) : Prop where
  base : Env.le ρ0 ρ
  size : a.tmps.size = s.n
  good : Good s
  vals : ∀ t, V2 ρ (s.get t) (a.tmps.getD t undef)
  defers : a.defers = []
  heap : HR B ρ s.H w

theorem V2.undef : V2 ρ undef undef := .tup .nil

theorem closed2_ok {v : Value} (h : closed2 v = true) : V2 ρ v v := by
  unfold closed2 at h
  split at h
  · exact .tup .nil
  · rename_i cs
    exact .sc (.agg (by simpa using all_closed h))
  · exact .cl h

theorem FR.ev {s : St} {a : Act} (h : FR ρ0 B ρ s a w) (x : Operand) : V2 ρ (s.ev x) (a.eval x) := by
  cases x with
  | tmp t => exact h.vals t
  | const v =>
    show V2 ρ (bif closed2 v then v else poison) v
    cases hc : closed2 v
    · exact .poison
    · exact closed2_ok hc
  | global g => exact .poison
  | func f => exact .cl rfl

theorem FR.mono {s : St} {a : Act} {ρ' : Env} {w' : World} {H' : AH} {nx : Nat} (h : FR ρ0 B ρ s a w) (hl : Env.le ρ ρ') (hr : HR B ρ' H' w') : FR ρ0 B ρ' { s with H := H', nx } a w' :=
  ⟨Env.le_trans h.base hl, h.size, h.good, fun t => (h.vals t).mono hl, h.defers, hr⟩

theorem get_put {s s' : St} {d : Nat} {v : Value} (hg : Good s) (h : s.put (some d) v = some s') : d < s.n ∧ s' = { s with fr := s.fr.put v d } ∧ Good s' ∧ ∀ t, s'.get t = if t = d then v else s.get t := by
  unfold St.put at h
  simp only at h
  cases hd : Nat.blt d s.n
  · rw [hd] at h; exact absurd h (by simp)
  rw [hd] at h
  simp only [cond_true, Option.some.injEq] at h
  subst h
  have hd' := blt_iff.1 hd
  obtain ⟨k, hp, hn⟩ := hg
  refine ⟨hd', rfl, ⟨k, Tr.perf_put _ _ _ _ hp, hn⟩, fun t => ?_⟩
  unfold St.get
  simp only
  cases ht : Nat.blt t s.n
  · have : ¬ t < s.n := fun h => by rw [blt_iff.2 h] at ht; exact absurd ht (by decide)
    rw [if_neg (by omega)]
    rfl
  · have := blt_iff.1 ht
    simp only [cond_true]
    rw [Tr.get_put v k s.fr d t hp (by omega) (by omega)]
    by_cases e : d = t
    · rw [if_pos e, if_pos e.symm]
    · rw [if_neg e, if_neg (Ne.symm e)]

theorem FR.put {s s' : St} {a : Act} {dst : Option Tmp} {v v' : Value} (h : FR ρ0 B ρ s a w) (hv : V2 ρ v v') (hp : s.put dst v = some s') : FR ρ0 B ρ s' (a.put dst v') w := by
  cases dst with
  | none =>
    simp only [St.put, Option.some.injEq] at hp
    subst hp
    exact h
  | some d =>
    obtain ⟨hd, rfl, hg, hget⟩ := get_put h.good hp
    refine ⟨h.base, by simp [Act.put, h.size], hg, fun t => ?_, h.defers, h.heap⟩
    rw [hget t]
    by_cases e : t = d
    · subst e
      rw [if_pos rfl]
      simp only [Act.put, Array.getD_eq_getD_getElem?]
      rw [Array.getElem?_setIfInBounds, if_pos rfl, if_pos (by rw [h.size]; exact hd)]
      exact hv
    · rw [if_neg e]
      simp only [Act.put, Array.getD_eq_getD_getElem?]
      rw [Array.getElem?_setIfInBounds, if_neg (Ne.symm e)]
      have := h.vals t
      rw [Array.getD_eq_getD_getElem?] at this
      exact this

theorem want_ok {ops : Array Oper} {s : St} {a : Act} {o : Oper} {b : Bool} (h : FR ρ0 B ρ s a w) (hw : awant ops s o = some b) : Region.wanted o (yielded ops a.tmps) = b := by
  unfold awant at hw
  unfold Region.wanted
  split at hw
  · rename_i hg; simp only [Option.some.injEq] at hw; rw [hg]; exact hw
  · rename_i j want hg
    rw [hg]
    simp only
    split at hw
    · rename_i hd
      simp only [Option.some.injEq] at hw
      subst hw
      simp only [yielded, hd]
      rfl
    · rename_i d hd
      have hv := h.vals d
      rw [Array.getD_eq_getD_getElem?] at hv
      split at hw
      · rename_i c hc
        rw [hc] at hv
        simp only [Option.some.injEq] at hw
        subst hw
        have hv' := hv.bool_inv
        have hlt : a.tmps[d]? = some (.bool c) := by
          cases hx : a.tmps[d]? with
          | none => rw [hx] at hv'; exact absurd hv' (by simp [undef])
          | some u => rw [hx] at hv'; simp at hv'; rw [hv']
        simp only [yielded, hd, Option.bind_some, hlt]
        cases c <;> cases want <;> rfl
      · rename_i vs hc
        rw [hc] at hv
        simp only [Option.some.injEq] at hw
        subst hw
        obtain ⟨vs', hv', _⟩ := tup_inv hv
        cases hx : a.tmps[d]? with
        | none => simp only [yielded, hd, Option.bind_some, hx]; rfl
        | some u =>
          rw [hx] at hv'
          simp at hv'
          subst hv'
          simp only [yielded, hd, Option.bind_some, hx]
          rfl
      · exact absurd hw (by simp)

/-- What is asked of the contracts of the functions that are called. -/
def CallOK (P : Program) (ρ0 : Env) (call : ACall) : Prop :=
  ∀ f args H nx v H' nx', call f args H nx = some (v, H', nx') → ∀ B ρ (args' : Array Value) w, Env.le ρ0 ρ → All2 (V2 ρ) args.toList args'.toList → HR B ρ H w →
    Calls P f args' w fun e w' => ∃ v' ρ', e = .returned v' ∧ Env.le ρ ρ' ∧ V2 ρ' v v' ∧ HR B ρ' H' w' ∧ Below B w w'

section
variable {call : ACall} {ops : Array Oper} {Q : Exit → Act → World → Prop}

theorem step_ok (hcall : CallOK P ρ0 call) {id i : Nat} {o : Oper} {s s' : St} {a : Act} {K : Act → World → Prop} (ho : ops[i]? = some o) (hs : astepO P call id ops o s = some s') (h : FR ρ0 B ρ s a w)
    (hk : ∀ ρ' a' w', Env.le ρ ρ' → FR ρ0 B ρ' s' a' w' → Below B w w' → K a' w') : wpOp P ops Q i K a w := by
  unfold astepO at hs
  split at hs
  · rename_i v H1 nx hv
    unfold aval at hv
    split at hv
    · rename_i hw
      have hw' := want_ok h hw
      unfold wpOp
      simp only [ho, hw', if_true]
      left
      split at hv
      · rename_i v2 H2 he
        simp only [Option.some.injEq, Prod.mk.injEq] at hv
        obtain ⟨rfl, rfl, rfl⟩ := hv
        obtain ⟨n, v', w', ρ', g1, g2, g3, g4, g5, g6⟩ := aeff_val he h.ev h.heap
        unfold Oper.wp
        rw [g1]
        have hfr := (h.mono (nx := s.nx) g3 g5).put g4 hs
        rcases g2 with rfl | ⟨rfl, rfl⟩
        · exact hk ρ' _ w' g3 hfr g6
        · exact hk ρ' _ w' g3 hfr g6
      · rename_i f args he
        obtain ⟨args', g1, g2⟩ := aeff_enter (w := w) he (fun f => rfl) h.ev
        unfold Oper.wp
        rw [g1]
        refine (hcall f args s.H s.nx v H1 nx hv B ρ args' w h.base g2 h.heap).mono ?_
        rintro e w' ⟨v', ρ', rfl, k1, k2, k3, k4⟩
        exact hk ρ' _ w' k1 ((h.mono (nx := nx) k1 k3).put k2 hs) k4
      · exact absurd hv (by simp)
    · rename_i hw
      have hw' := want_ok h hw
      simp only [Option.some.injEq, Prod.mk.injEq] at hv
      obtain ⟨rfl, rfl, rfl⟩ := hv
      unfold wpOp
      simp only [ho, hw', Bool.false_eq_true, if_false]
      exact hk ρ _ w (Env.le_refl _) (h.put V2.undef hs) (Below.refl _ _)
    · exact absurd hv (by simp)
  · exact absurd hs (by simp)

theorem list_ok (hcall : CallOK P ρ0 call) {rb : Nat} : ∀ (l : List Nat) {s s' : St} {a : Act} {ρ : Env} {w : World}, alist (astep P call rb ops) l s = some s' → FR ρ0 B ρ s a w →
    (∀ ρ' a' w', Env.le ρ ρ' → FR ρ0 B ρ' s' a' w' → Below B w w' → Q .normal a' w') → wpOps P ops Q l a w
  | [], s, s', a, ρ, w, hs, h, hq => by
    simp only [alist, Option.some.injEq] at hs
    subst hs
    exact hq ρ a w (Env.le_refl _) h (Below.refl _ _)
  | i :: l, s, s', a, ρ, w, hs, h, hq => by
    simp only [alist] at hs
    obtain ⟨s1, h1, h2⟩ := Option.bind_eq_some_iff.1 hs
    unfold astep at h1
    split at h1
    · exact absurd h1 (by simp)
    · rename_i o ho
      rw [wpOps_cons]
      refine step_ok hcall ho h1 h fun ρ' a' w' k1 k2 k3 => ?_
      exact list_ok hcall l h2 k2 fun ρ2 a2 w2 g1 g2 g3 => hq ρ2 a2 w2 (Env.le_trans k1 g1) g2 (k3.trans g3)

theorem text_list {rb : Nat} : ∀ (l : List Oper) (k : Nat) {s s' : St}, (∀ j, l[j]? = ops[k + j]?) → atext P call ops l (rb + k) s = some s' → alist (astep P call rb ops) (List.range' k l.length) s = some s'
  | [], k, s, s', _, h => by simpa [atext, alist] using h
  | o :: l, k, s, s', hl, h => by
    unfold atext at h
    split at h
    · rename_i s1 h1
      have ho : ops[k]? = some o := by have := hl 0; simpa using this.symm
      have ih := text_list l (k + 1) (s := s1) (s' := s') (fun j => by have := hl (j + 1); simp at this; rw [this]; congr 1; omega) (by rw [← Nat.add_assoc]; exact h)
      simp only [List.length_cons, List.range'_succ, alist]
      rw [show astep P call rb ops k s = some s1 from by unfold astep; rw [ho]; exact h1]
      exact ih
    · exact absurd h (by simp)

theorem text_range {rb : Nat} {s s' : St} (h : atext P call ops ops.toList rb s = some s') : alist (astep P call rb ops) (List.range ops.size) s = some s' := by
  have := text_list (P := P) (call := call) (ops := ops) (rb := rb) ops.toList 0 (s := s) (s' := s') (fun j => by simp) h
  rw [List.range_eq_range']
  simpa using this

end
end Go.Proofs.YtmikfnmbjpfgnaaDoor.Ax
