/- Whole functions: what the abstract run tells holds of the model's. Conditions: none. -/
import Derived.Test.YtmikfnmbjpfgnaaDoorAxJ
namespace Go.Proofs.YtmikfnmbjpfgnaaDoor.Ax
open Go Go.RowKit

variable {P : Program} {ρ0 : Env} {call : ACall} {ops : Array Oper}

def CallP (call : ACall) : Prop := ∀ f args H nx v H' nx', call f args H nx = some (v, H', nx') → Tr.perf 11 H → Tr.perf 11 H'

def Fine (s : St) : Prop := Good s ∧ Tr.perf 11 s.H

theorem step_fine (hcp : CallP call) {id : Nat} {o : Oper} {s s' : St} (h : astepO P call id ops o s = some s') (hf : Fine s) : Fine s' := by
  unfold astepO at h
  split at h
  · rename_i v H nx hv
    refine ⟨good_put (show Good { s with H, nx } from hf.1) h, ?_⟩
    rw [(put_H h).1]
    unfold aval at hv
    split at hv
    · split at hv
      · rename_i v2 H2 he
        simp only [Option.some.injEq, Prod.mk.injEq] at hv
        obtain ⟨_, rfl, _⟩ := hv
        exact aeff_perf he hf.2
      · exact hcp _ _ _ _ _ _ _ hv hf.2
      · exact absurd hv (by simp)
    · simp only [Option.some.injEq, Prod.mk.injEq] at hv
      obtain ⟨_, rfl, _⟩ := hv
      exact hf.2
    · exact absurd hv (by simp)
  · exact absurd h (by simp)

theorem astep_fine (hcp : CallP call) {rb i : Nat} {s s' : St} (h : astep P call rb ops i s = some s') (hf : Fine s) : Fine s' := by
  unfold astep at h
  split at h
  · exact absurd h (by simp)
  · exact step_fine hcp h hf

theorem alist_fine (hcp : CallP call) {rb : Nat} : ∀ (l : List Nat) {s s' : St}, alist (astep P call rb ops) l s = some s' → Fine s → Fine s'
  | [], s, s', h, hf => by simp only [alist, Option.some.injEq] at h; subst h; exact hf
  | i :: l, s, s', h, hf => by
    simp only [alist] at h
    obtain ⟨s1, h1, h2⟩ := Option.bind_eq_some_iff.1 h
    exact alist_fine hcp l h2 (astep_fine hcp h1 hf)

theorem move_ok {rb e : Nat} {oe : Oper} (hoe : ops[e]? = some oe) : ∀ (l1 l2 : List Nat) {s r : St}, Good s → (isLoad oe.op = true → Tr.perf 11 s.H) → (∀ j ∈ l1, ∃ oj, ops[j]? = some oj ∧ indep ops oe oj = true) →
    alist (astep P call rb ops) (e :: (l1 ++ l2)) s = some r → alist (astep P call rb ops) (l1 ++ e :: l2) s = some r
  | [], l2, s, r, _, _, _, h => h
  | j :: l1, l2, s, r, hg, hp, hi, h => by
    simp only [List.cons_append, alist] at h
    obtain ⟨s1, h1, h⟩ := Option.bind_eq_some_iff.1 h
    obtain ⟨s2, h2, h3⟩ := Option.bind_eq_some_iff.1 h
    obtain ⟨oj, hoj, hin⟩ := hi j (by simp)
    obtain ⟨s1', g1, g2, g3, g4⟩ := swap hoe hoj hin hg hp h1 h2
    simp only [List.cons_append, alist]
    rw [g1]
    refine move_ok hoe l1 l2 g3 g4 (fun x hx => hi x (by simp [hx])) ?_
    simp only [alist]
    rw [g2]
    exact h3

theorem explore_ok (hcp : CallP call) {rb : Nat} : ∀ (k : Nat) {listed : Array Bool} {s r : St} {l : List Nat}, listed.size = ops.size → Closed ops listed → unl ops listed ≤ k → Fine s →
    explore (astep P call rb ops) ops k listed s = some r → IsLin ops k listed l → alist (astep P call rb ops) l s = some r := by
  intro k
  induction k with
  | zero =>
    intro listed s r l hs hc hu hf h hl
    simp only [IsLin] at hl
    subst hl
    unfold explore at h
    split at h
    · exact h
    · exact absurd h (by simp)
  | succ k ih =>
    intro listed s r l hs hc hu hf h hl
    unfold explore at h
    split at h
    · rename_i hr
      rcases hl with ⟨_, rfl⟩ | ⟨j, l', hj, _⟩
      · exact h
      · rw [hr] at hj; simp at hj
    · rename_i i is hr
      split at h
      · rename_i e he
        have hmem : e ∈ Region.ready .any ops listed := by rw [hr]; exact List.mem_of_find?_eq_some he
        have heag : eager ops listed e = true := List.find?_some he
        obtain ⟨l1, l2, rfl, g1, g2⟩ := bubble k hs hc hu hmem hl
        obtain ⟨s1, h1, h2⟩ := Option.bind_eq_some_iff.1 h
        have hrest := ih (by simpa using hs) (closed_set hs hc hmem) (by have := unl_set hs hmem; omega) (astep_fine hcp h1 hf) h2 g1
        unfold eager at heag
        split at heag
        · exact absurd heag (by simp)
        · rename_i oe hoe
          refine move_ok hoe l1 l2 hf.1 (fun _ => hf.2) (fun j hj => ?_) (by simp only [alist]; rw [h1]; exact hrest)
          obtain ⟨k1, k2, ⟨oj, hoj⟩, k3, k4⟩ := g2 j hj
          refine ⟨oj, hoj, ?_⟩
          have := (List.all_eq_true.1 heag) j (List.mem_range.2 k3)
          rw [k2] at this
          simp only [Bool.false_or, Bool.or_eq_true, beq_iff, hoj] at this
          rcases this with h | h | h
          · exact absurd h k1
          · exact absurd (behind_ok h) k4
          · exact h
      · rcases hl with ⟨hnil, _⟩ | ⟨j, l', hj, rfl, hl'⟩
        · rw [hr] at hnil; exact absurd hnil (by simp)
        · have hu' := unl_set hs hj
          have hc' := closed_set hs hc hj
          split at h
          · exact absurd h (by simp)
          · rename_i r0 hr0
            simp only [cond_eq_ite] at h
            split at h
            · rename_i hall
              simp only [Option.some.injEq] at h
              subst h
              rw [hr] at hj
              rcases List.mem_cons.1 hj with rfl | hj
              · obtain ⟨s1, h1, h2⟩ := Option.bind_eq_some_iff.1 hr0
                simp only [alist]
                rw [h1]
                exact ih (by simpa using hs) hc' (by omega) (astep_fine hcp h1 hf) h2 hl'
              · have := (List.all_eq_true.1 hall) j hj
                split at this
                · rename_i r1 hr1
                  have hreq := stEq_ok this
                  subst hreq
                  obtain ⟨s1, h1, h2⟩ := Option.bind_eq_some_iff.1 hr1
                  simp only [alist]
                  rw [h1]
                  exact ih (by simpa using hs) hc' (by omega) (astep_fine hcp h1 hf) h2 hl'
                · exact absurd this (by simp)
            · exact absurd h (by simp)

def lst (n : Nat) : Nat → Array Bool
  | 0 => Array.replicate n false
  | i + 1 => (lst n i).setIfInBounds i true

theorem lst_size (n : Nat) : ∀ i, (lst n i).size = n
  | 0 => by simp [lst]
  | i + 1 => by simp [lst, lst_size n i]

theorem lst_get (n : Nat) : ∀ i, i ≤ n → ∀ j d, j < n → (lst n i).getD j d = decide (j < i)
  | 0, _, j, d, hj => by
    simp only [lst, Array.getD_eq_getD_getElem?]
    rw [Array.getElem?_replicate, if_pos hj]
    simp
  | i + 1, hi, j, d, hj => by
    simp only [lst]
    rw [getD_set (by rw [lst_size]; omega), lst_get n i (by omega) j d hj]
    by_cases e : j = i
    · rw [if_pos e]; simp; omega
    · rw [if_neg e]
      apply bool_eq
      simp; omega

theorem lst_unl (ops : Array Oper) (i : Nat) (hi : i ≤ ops.size) : unl ops (lst ops.size i) ≤ ops.size - i := by
  unfold unl
  have h : ((List.range ops.size).filter fun j => !(lst ops.size i).getD j true).length = ((List.range ops.size).filter fun j => decide (i ≤ j)).length := by
    congr 1
    apply List.filter_congr
    intro x hx
    rw [lst_get _ i hi x true (List.mem_range.1 hx)]
    apply bool_eq
    simp
  rw [h]
  have key : ∀ n, ((List.range n).filter fun j => decide (i ≤ j)).length ≤ n - i := by
    intro n
    induction n with
    | zero => simp
    | succ n ih =>
      rw [List.range_succ, List.filter_append, List.length_append]
      by_cases e : i ≤ n
      · simp [e]; omega
      · simp [e]; omega
  exact key _

theorem fast_ok (hcp : CallP call) {rb : Nat} (hfast : fast ops = true) : ∀ (k i : Nat) {s r : St} {l : List Nat}, i + k = ops.size → Closed ops (lst ops.size i) → Fine s →
    alist (astep P call rb ops) (List.range' i k) s = some r → IsLin ops k (lst ops.size i) l → alist (astep P call rb ops) l s = some r := by
  intro k
  induction k with
  | zero =>
    intro i s r l hik hcl hf h hl
    simp only [IsLin] at hl
    subst hl
    simpa [alist] using h
  | succ k ih =>
    intro i s r l hik hcl hf h hl
    have hi : i < ops.size := by omega
    have hfi := (List.all_eq_true.1 hfast) i (List.mem_range.2 hi)
    split at hfi
    · exact absurd hfi (by simp)
    · rename_i a ha
      simp only [Bool.and_eq_true] at hfi
      obtain ⟨hf1, hf2⟩ := hfi
      have hmem : i ∈ Region.ready .any ops (lst ops.size i) := by
        rw [ready_mem]
        refine ⟨hi, by rw [lst_get _ i (by omega) i true hi]; simp, a, ha, fun e he hb => ?_⟩
        have := (List.all_eq_true.1 hf1) e (by simpa using he)
        rw [hb] at this
        simp only [Bool.not_true, Bool.false_or, blt_iff] at this
        rw [lst_get _ i (by omega) e.on false (by omega)]
        simp [this]
      obtain ⟨l1, l2, rfl, g1, g2⟩ := bubble k (lst_size _ _) hcl (by have := lst_unl ops i (by omega); omega) hmem hl
      simp only [List.range'_succ, alist] at h
      obtain ⟨s1, h1, h2⟩ := Option.bind_eq_some_iff.1 h
      have hrest := ih (i + 1) (by omega) (closed_set (lst_size _ _) hcl hmem) (astep_fine hcp h1 hf) h2 g1
      refine move_ok ha l1 l2 hf.1 (fun _ => hf.2) (fun j hj => ?_) (by simp only [alist]; rw [h1]; exact hrest)
      obtain ⟨k1, k2, ⟨oj, hoj⟩, k3, k4⟩ := g2 j hj
      refine ⟨oj, hoj, ?_⟩
      rw [lst_get _ i (by omega) j true k3] at k2
      have := (List.all_eq_true.1 hf2) j (List.mem_range.2 k3)
      simp only [Bool.or_eq_true, ble_iff, hoj] at this
      have hji : ¬ j < i := of_decide_eq_false k2
      rcases this with h | h | h
      · exact absurd h (by omega)
      · exact absurd (behind_ok h) k4
      · exact h

/-! ### Code -/

def AX.ex : AX → Exit
  | .normal => .normal
  | .exit id => .exit id
  | .ret => .ret

def Post (ρ0 : Env) (B : Nat) (ρ : Env) (w : World) (e : AX) (s' : St) : Exit → Act → World → Prop := fun ex a' w' => ex = e.ex ∧ ∃ ρ', Env.le ρ ρ' ∧ FR ρ0 B ρ' s' a' w' ∧ Below B w w'

def WpC (P : Program) (n : Nat) (Q : Exit → Act → World → Prop) : Code → Act → World → Prop
  | .loop body => Code.rounds P body Q n
  | c => c.wp P Q

theorem WpC.wp {n : Nat} {Q : Exit → Act → World → Prop} {c : Code} {a : Act} {w : World} (h : WpC P n Q c a w) : c.wp P Q a w := by
  cases c <;> first | exact h | exact wp_loop_rounds n h

theorem rounds_mono {c : Code} {Q Q' : Exit → Act → World → Prop} (hq : ∀ e a w, Q e a w → Q' e a w) : ∀ (n : Nat) {a : Act} {w : World}, Code.rounds P c Q n a w → Code.rounds P c Q' n a w
  | 0, _, _, h => h
  | n + 1, _, _, h => wp_mono h fun e a w he => by
    cases e <;> first | exact rounds_mono hq n he | exact hq _ _ _ he

theorem Post.trans {ρ0 : Env} {B : Nat} {ρ ρ1 : Env} {w w1 : World} {e : AX} {s' : St} (hl : Env.le ρ ρ1) (hb : Below B w w1) {ex : Exit} {a' : Act} {w' : World} (h : Post ρ0 B ρ1 w1 e s' ex a' w') : Post ρ0 B ρ w e s' ex a' w' := by
  obtain ⟨h1, ρ', h2, h3, h4⟩ := h
  exact ⟨h1, ρ', Env.le_trans hl h2, h3, hb.trans h4⟩

def RunOK (P : Program) (ρ0 : Env) (run : ARun) : Prop := ∀ c s e s', run c s = some (e, s') → (Fine s → Fine s') ∧ ∃ n, ∀ B ρ a w, FR ρ0 B ρ s a w → WpC P n (Post ρ0 B ρ w e s') c a w

theorem FR.fine {B : Nat} {ρ : Env} {s : St} {a : Act} {w : World} (h : FR ρ0 B ρ s a w) : Fine s := ⟨h.good, h.heap.perf⟩

theorem region_ok (hm : P.follows .mixedOrders = true) (hcall : CallOK P ρ0 call) (hcp : CallP call) {id : Nat} {draw : Bool} {s s' : St} {nx : Nat}
    (h : (bif draw && !fast ops then explore (astep P call s.nx ops) ops ops.size (Array.replicate ops.size false) { s with nx := nx } else atext P call ops ops.toList s.nx { s with nx := nx }) = some s') :
    (Fine s → Fine s') ∧ ∀ B ρ a w, FR ρ0 B ρ s a w → (Code.region id ops draw).wp P (Post ρ0 B ρ w .normal s') a w := by
  have hfr : ∀ {B ρ a w}, FR ρ0 B ρ s a w → FR ρ0 B ρ { s with nx := nx } a w := fun h => ⟨h.base, h.size, h.good, h.vals, h.defers, h.heap⟩
  have hdone : ∀ {B ρ a w l}, FR ρ0 B ρ s a w → alist (astep P call s.nx ops) l { s with nx := nx } = some s' → wpOps P ops (Post ρ0 B ρ w .normal s') l a w := fun hf hl =>
    list_ok hcall _ hl (hfr hf) fun ρ' a' w' k1 k2 k3 => ⟨rfl, ρ', k1, k2, k3⟩
  have hunl0 : unl ops (Array.replicate ops.size false) ≤ ops.size := by
    have := lst_unl ops 0 (by omega)
    simpa [lst] using this
  have hc0 : Closed ops (Array.replicate ops.size false) := fun j hj hl => by
    simp only [Array.getD_eq_getD_getElem?] at hl
    rw [Array.getElem?_replicate, if_pos hj] at hl
    exact absurd hl (by decide)
  cases draw with
  | false =>
    simp only [Bool.false_and, cond_false] at h
    have hl := text_range h
    exact ⟨fun hf => alist_fine hcp _ hl hf, fun B ρ a w hf => wp_region (hdone hf hl)⟩
  | true =>
    have hall : Fine s → ∀ t, alist (astep P call s.nx ops) (Region.linearise.go .any ops ops.size t (Array.replicate ops.size false) []) { s with nx := nx } = some s' := by
      intro hf t
      cases hfast : fast ops
      · rw [hfast] at h
        simp only [Bool.not_false, Bool.and_self, cond_true] at h
        exact explore_ok hcp ops.size (by simp) hc0 hunl0 (show Fine { s with nx := nx } from hf) h (go_lin ops ops.size t _)
      · rw [hfast] at h
        simp only [Bool.not_true, Bool.and_false, cond_false] at h
        have hl := text_range h
        rw [List.range_eq_range'] at hl
        exact fast_ok hcp hfast ops.size 0 (by omega) hc0 (show Fine { s with nx := nx } from hf) hl (go_lin ops ops.size t _)
    refine ⟨fun hf => alist_fine hcp _ (hall hf 0) hf, fun B ρ a w hf => ?_⟩
    refine wp_region_draw fun t => ?_
    simp only [Region.schedule, hm, Bool.true_or, if_true, Region.linearise]
    have hf' : FR ρ0 B ρ s a { w with drawn := w.drawn + 1 } := ⟨hf.base, hf.size, hf.good, hf.vals, hf.defers, hf.heap.heap rfl⟩
    have := hdone hf' (hall hf.fine t)
    have hb : Below B w { w with drawn := w.drawn + 1 } := (Below.refl B w).drew
    refine (list_ok hcall _ (hall hf.fine t) (hfr hf') fun ρ' a' w' k1 k2 k3 => ⟨rfl, ρ', k1, k2, hb.trans k3⟩)

theorem aF_ok (hm : P.follows .mixedOrders = true) (hcall : CallOK P ρ0 call) (hcp : CallP call) {self : ARun} (hself : RunOK P ρ0 self) : RunOK P ρ0 (aF P call self) := by
  intro c s e s' h
  unfold aF at h
  split at h
  · simp only [Option.some.injEq, Prod.mk.injEq] at h
    obtain ⟨rfl, rfl⟩ := h
    exact ⟨id, 0, fun B ρ a w hf => wp_skip ⟨rfl, ρ, Env.le_refl _, hf, Below.refl _ _⟩⟩
  · rename_i id ops draw
    obtain ⟨s1, h1, h2⟩ := some_map h
    simp only [Prod.mk.injEq] at h2
    obtain ⟨rfl, rfl⟩ := h2
    obtain ⟨g1, g2⟩ := region_ok (id := id) hm hcall hcp h1
    exact ⟨g1, 0, g2⟩
  · rename_i x y
    split at h
    · rename_i s1 h1
      obtain ⟨f1, n1, g1⟩ := hself _ _ _ _ h1
      obtain ⟨f2, n2, g2⟩ := hself _ _ _ _ h
      refine ⟨fun hf => f2 (f1 hf), 0, fun B ρ a w hf => ?_⟩
      refine wp_seq (wp_mono (g1 B ρ a w hf).wp ?_)
      rintro ex a1 w1 ⟨rfl, ρ1, k1, k2, k3⟩
      exact wp_mono (g2 B ρ1 a1 w1 k2).wp fun ex a' w' hp => hp.trans k1 k3
    · rename_i hne
      obtain ⟨f1, n1, g1⟩ := hself _ _ _ _ h
      refine ⟨f1, 0, fun B ρ a w hf => ?_⟩
      refine wp_seq (wp_mono (g1 B ρ a w hf).wp ?_)
      rintro ex a1 w1 ⟨rfl, hp⟩
      cases e with
      | normal => exact absurd h (hne s')
      | exit id => exact ⟨rfl, hp⟩
      | ret => exact ⟨rfl, hp⟩
  · rename_i c x y
    split at h
    · rename_i hc
      obtain ⟨f1, n1, g1⟩ := hself _ _ _ _ h
      refine ⟨f1, 0, fun B ρ a w hf => ?_⟩
      have hv := hf.ev c
      rw [hc] at hv
      exact wp_cond_true hv.bool_inv (g1 B ρ a w hf).wp
    · rename_i hc
      obtain ⟨f1, n1, g1⟩ := hself _ _ _ _ h
      refine ⟨f1, 0, fun B ρ a w hf => ?_⟩
      have hv := hf.ev c
      rw [hc] at hv
      exact wp_cond_false hv.bool_inv (g1 B ρ a w hf).wp
    · exact absurd h (by simp)
  · rename_i id body
    split at h
    · rename_i k s1 h1
      obtain ⟨f1, n1, g1⟩ := hself _ _ _ _ h1
      simp only [cond_eq_ite] at h
      split at h
      · rename_i hk
        have hk' := beq_iff.1 hk
        simp only [Option.some.injEq, Prod.mk.injEq] at h
        obtain ⟨rfl, rfl⟩ := h
        refine ⟨f1, 0, fun B ρ a w hf => wp_block (wp_mono (g1 B ρ a w hf).wp ?_)⟩
        rintro ex a1 w1 ⟨rfl, hp⟩
        simp only [AX.ex, Exit.inBlock, if_pos hk']
        exact ⟨rfl, hp⟩
      · rename_i hk
        have hk' : ¬ k = id := fun e => hk (beq_iff.2 e)
        simp only [Option.some.injEq, Prod.mk.injEq] at h
        obtain ⟨rfl, rfl⟩ := h
        refine ⟨f1, 0, fun B ρ a w hf => wp_block (wp_mono (g1 B ρ a w hf).wp ?_)⟩
        rintro ex a1 w1 ⟨rfl, hp⟩
        simp only [AX.ex, Exit.inBlock, if_neg hk']
        exact ⟨rfl, hp⟩
    · rename_i hne
      obtain ⟨f1, n1, g1⟩ := hself _ _ _ _ h
      refine ⟨f1, 0, fun B ρ a w hf => wp_block (wp_mono (g1 B ρ a w hf).wp ?_)⟩
      rintro ex a1 w1 ⟨rfl, hp⟩
      cases e with
      | normal => exact ⟨rfl, hp⟩
      | exit k => exact absurd h (hne k s')
      | ret => exact ⟨rfl, hp⟩
  · rename_i body
    split at h
    · rename_i s1 h1
      obtain ⟨f1, n1, g1⟩ := hself _ _ _ _ h1
      obtain ⟨f2, n2, g2⟩ := hself _ _ _ _ h
      refine ⟨fun hf => f2 (f1 hf), n2 + 1, fun B ρ a w hf => ?_⟩
      show Code.rounds P body _ (n2 + 1) a w
      rw [rounds_succ]
      refine wp_mono (g1 B ρ a w hf).wp ?_
      rintro ex a1 w1 ⟨rfl, ρ1, k1, k2, k3⟩
      exact rounds_mono (fun ex a' w' hp => Post.trans k1 k3 hp) n2 (g2 B ρ1 a1 w1 k2)
    · rename_i hne
      obtain ⟨f1, n1, g1⟩ := hself _ _ _ _ h
      refine ⟨f1, 1, fun B ρ a w hf => ?_⟩
      show Code.rounds P body _ 1 a w
      rw [rounds_succ]
      refine wp_mono (g1 B ρ a w hf).wp ?_
      rintro ex a1 w1 ⟨rfl, hp⟩
      cases e with
      | normal => exact absurd h (hne s')
      | exit k => exact ⟨rfl, hp⟩
      | ret => exact ⟨rfl, hp⟩
  · simp only [Option.some.injEq, Prod.mk.injEq] at h
    obtain ⟨rfl, rfl⟩ := h
    exact ⟨id, 0, fun B ρ a w hf => wp_exit ⟨rfl, ρ, Env.le_refl _, hf, Below.refl _ _⟩⟩
  · simp only [Option.some.injEq, Prod.mk.injEq] at h
    obtain ⟨rfl, rfl⟩ := h
    exact ⟨id, 0, fun B ρ a w hf => wp_ret ⟨rfl, ρ, Env.le_refl _, hf, Below.refl _ _⟩⟩
  · exact absurd h (by simp)

end Go.Proofs.YtmikfnmbjpfgnaaDoor.Ax
