/- Regions whose order is open: whatever the order, the outcome is that of one order. Conditions: none. -/
import Derived.Test.YtmikfnmbjpfgnaaDoorAxG
namespace Go.Proofs.YtmikfnmbjpfgnaaDoor.Ax
open Go Go.RowKit

/-! ### Equal states -/

theorem listEq_ok {α : Type} {eq : α → α → Bool} (he : ∀ a b, eq a b = true → a = b) : ∀ {l m : List α}, listEq eq l m = true → l = m
  | [], [], _ => rfl
  | [], _ :: _, h => by simp [listEq] at h
  | _ :: _, [], h => by simp [listEq] at h
  | a :: l, b :: m, h => by
    simp only [listEq, Bool.and_eq_true] at h
    rw [he _ _ h.1, listEq_ok he h.2]

theorem v0Eq_ok (a b : Value) (h : v0Eq a b = true) : a = b := by
  unfold v0Eq at h
  split at h
  all_goals try simp only [Bool.and_eq_true, decide_eq_true_eq, beq_iff, beq_iff_eq] at h
  · rw [h]
  · rw [h.1, h.2]
  · rename_i x y
    congr 1
    cases x with
    | mk dx => cases y with
      | mk dy => congr 1; exact Array.ext' h
  · rfl
  · rw [h.1, h.2]
  · rw [h.1, h.2]
  · rw [h.1.1.1, h.1.1.2, h.1.2, h.2]
  · rfl
  · rfl
  · rw [h]
  · exact absurd h (by simp)

theorem v1Eq_ok (a b : Value) (h : v1Eq a b = true) : a = b := by
  unfold v1Eq at h
  split at h
  · congr 1; exact Array.ext' (listEq_ok v0Eq_ok h)
  · exact v0Eq_ok _ _ h

theorem v2Eq_ok (a b : Value) (h : v2Eq a b = true) : a = b := by
  unfold v2Eq at h
  split at h
  · congr 1; exact Array.ext' (listEq_ok v1Eq_ok h)
  · exact v1Eq_ok _ _ h

theorem slotEq_ok (a b : Slot) (h : slotEq a b = true) : a = b := by
  unfold slotEq at h
  split at h
  · rfl
  · rfl
  · simp only [Bool.and_eq_true, beq_iff] at h
    rw [h.1, listEq_ok v0Eq_ok h.2]
  · exact absurd h (by simp)

theorem Tr.eqB_ok {α : Type} {eq : α → α → Bool} (he : ∀ a b, eq a b = true → a = b) : ∀ {s t : Tr α}, s.eqB eq t = true → s = t
  | .leaf a, .leaf b, h => by rw [he _ _ h]
  | .leaf _, .node _ _, h => by simp [Tr.eqB] at h
  | .node _ _, .leaf _, h => by simp [Tr.eqB] at h
  | .node l r, .node l' r', h => by
    simp only [Tr.eqB, Bool.and_eq_true] at h
    rw [Tr.eqB_ok he h.1, Tr.eqB_ok he h.2]

theorem stEq_ok {a b : St} (h : stEq a b = true) : a = b := by
  unfold stEq at h
  simp only [Bool.and_eq_true, beq_iff] at h
  obtain ⟨⟨⟨h1, h2⟩, h3⟩, h4⟩ := h
  cases a; cases b
  simp only at h1 h2 h3 h4
  rw [h1, h2, Tr.eqB_ok v2Eq_ok h3, Tr.eqB_ok slotEq_ok h4]

/-! ### Orders -/

def IsLin (ops : Array Oper) : Nat → Array Bool → List Nat → Prop
  | 0, _, l => l = []
  | k + 1, listed, l => (Region.ready .any ops listed = [] ∧ l = []) ∨ ∃ i l', i ∈ Region.ready .any ops listed ∧ l = i :: l' ∧ IsLin ops k (listed.setIfInBounds i true) l'

theorem go_lin (ops : Array Oper) : ∀ (k t : Nat) (listed : Array Bool), IsLin ops k listed (Region.linearise.go .any ops k t listed [])
  | 0, t, listed => by simp [IsLin, Region.linearise.go]
  | k + 1, t, listed => by
    simp only [IsLin, Region.linearise.go]
    change (Region.ready .any ops listed = [] ∧ (match (Region.ready .any ops listed)[t % (Region.ready .any ops listed).length]? with
      | some i => Region.linearise.go .any ops k (t / (Region.ready .any ops listed).length) (listed.setIfInBounds i true) [i]
      | none => [].reverse) = []) ∨ _
    cases hi : (Region.ready .any ops listed)[t % (Region.ready .any ops listed).length]? with
    | none =>
      left
      refine ⟨?_, rfl⟩
      cases hr : Region.ready .any ops listed with
      | nil => rfl
      | cons x xs =>
        rw [hr] at hi
        have hlt : t % (x :: xs).length < (x :: xs).length := Nat.mod_lt _ (by simp)
        rw [List.getElem?_eq_none_iff] at hi
        omega
    | some i =>
      right
      refine ⟨i, Region.linearise.go .any ops k (t / (Region.ready .any ops listed).length) (listed.setIfInBounds i true) [], List.mem_of_getElem? hi, ?_, go_lin ops k _ _⟩
      change (match (Region.ready .any ops listed)[t % (Region.ready .any ops listed).length]? with
        | some i => Region.linearise.go .any ops k (t / (Region.ready .any ops listed).length) (listed.setIfInBounds i true) [i]
        | none => [].reverse) = _
      rw [hi]
      simp only
      rw [linearise_go_acc, List.reverse_singleton, List.singleton_append]

def unl (ops : Array Oper) (listed : Array Bool) : Nat := ((List.range ops.size).filter fun i => !listed.getD i true).length

theorem ready_mem {ops : Array Oper} {listed : Array Bool} {i : Nat} : i ∈ Region.ready .any ops listed ↔ i < ops.size ∧ listed.getD i true = false ∧ ∃ o, ops[i]? = some o ∧ ∀ e ∈ o.after, Region.binds .any e = true → listed.getD e.on false = true := by
  unfold Region.ready
  rw [List.mem_filter, List.mem_range]
  constructor
  · rintro ⟨h1, h2⟩
    simp only [Bool.and_eq_true, Bool.not_eq_true'] at h2
    refine ⟨h1, h2.1, ?_⟩
    cases ho : ops[i]? with
    | none => rw [ho] at h2; simp at h2
    | some o =>
      rw [ho] at h2
      refine ⟨o, rfl, fun e he hb => ?_⟩
      have := h2.2
      simp only [Option.map_some, Option.getD_some] at this
      have h3 := (Array.all_eq_true_iff_forall_mem.1 this) e he
      simpa [hb] using h3
  · rintro ⟨h1, h2, o, ho, h3⟩
    refine ⟨h1, ?_⟩
    simp only [Bool.and_eq_true, Bool.not_eq_true', h2, true_and, ho, Option.map_some, Option.getD_some]
    rw [Array.all_eq_true_iff_forall_mem]
    intro e he
    cases hb : Region.binds .any e
    · rfl
    · simp [h3 e he hb]

theorem getD_set {listed : Array Bool} {i j : Nat} {d : Bool} (hi : i < listed.size) : (listed.setIfInBounds i true).getD j d = if j = i then true else listed.getD j d := by
  simp only [Array.getD_eq_getD_getElem?, Array.getElem?_setIfInBounds]
  by_cases e : i = j
  · subst e; rw [if_pos rfl, if_pos hi, if_pos rfl]; rfl
  · rw [if_neg e, if_neg (Ne.symm e)]

theorem ready_keep {ops : Array Oper} {listed : Array Bool} (hs : listed.size = ops.size) {i j : Nat} (hi : i ∈ Region.ready .any ops listed) (hj : j ∈ Region.ready .any ops listed) (hij : i ≠ j) :
    i ∈ Region.ready .any ops (listed.setIfInBounds j true) := by
  rw [ready_mem] at hi ⊢
  have hjs : j < listed.size := by rw [hs]; exact (ready_mem.1 hj).1
  obtain ⟨h1, h2, o, ho, h3⟩ := hi
  refine ⟨h1, by rw [getD_set hjs, if_neg hij]; exact h2, o, ho, fun e he hb => ?_⟩
  rw [getD_set hjs]
  split
  · rfl
  · exact h3 e he hb

theorem filter_remove {p q : Nat → Bool} {i : Nat} : ∀ {l : List Nat}, l.Nodup → i ∈ l → p i = true → q i = false → (∀ j, j ≠ i → q j = p j) → (l.filter q).length + 1 = (l.filter p).length
  | [], _, h, _, _, _ => by simp at h
  | a :: l, hn, hm, hp, hq, hpq => by
    rw [List.nodup_cons] at hn
    by_cases e : a = i
    · subst e
      rw [List.filter_cons, List.filter_cons, hp, hq]
      simp only [Bool.false_eq_true, if_false, if_true, List.length_cons]
      congr 2
      apply List.filter_congr
      intro x hx
      exact hpq x (fun e => hn.1 (e ▸ hx))
    · have hm' : i ∈ l := by rcases List.mem_cons.1 hm with h | h; exact absurd h.symm e; exact h
      have ih := filter_remove hn.2 hm' hp hq hpq
      rw [List.filter_cons, List.filter_cons, hpq a e]
      split
      · simp only [List.length_cons]; omega
      · exact ih

theorem unl_set {ops : Array Oper} {listed : Array Bool} (hs : listed.size = ops.size) {i : Nat} (hi : i ∈ Region.ready .any ops listed) : unl ops (listed.setIfInBounds i true) + 1 = unl ops listed := by
  obtain ⟨h1, h2, _⟩ := ready_mem.1 hi
  unfold unl
  have his : i < listed.size := by omega
  refine filter_remove List.nodup_range (List.mem_range.2 h1) (by rw [h2]; rfl) ?_ ?_
  · rw [getD_set his, if_pos rfl]; rfl
  · intro j hj
    rw [getD_set his, if_neg hj]

/-- j stands behind e, maybe through others. -/
inductive Reach (ops : Array Oper) (e : Nat) : Nat → Prop
  | one {j : Nat} {o : Oper} {x : Edge} : ops[j]? = some o → x ∈ o.after → Region.binds .any x = true → x.on = e → Reach ops e j
  | step {j : Nat} {o : Oper} {x : Edge} : ops[j]? = some o → x ∈ o.after → Region.binds .any x = true → Reach ops e x.on → Reach ops e j

/-- What stands ahead of a listed one is listed. -/
def Closed (ops : Array Oper) (listed : Array Bool) : Prop :=
  ∀ j, j < ops.size → listed.getD j true = true → ∀ o, ops[j]? = some o → ∀ x ∈ o.after, Region.binds .any x = true → listed.getD x.on false = true

theorem closed_set {ops : Array Oper} {listed : Array Bool} (hs : listed.size = ops.size) (hc : Closed ops listed) {i : Nat} (hi : i ∈ Region.ready .any ops listed) : Closed ops (listed.setIfInBounds i true) := by
  obtain ⟨h1, h2, o, ho, h3⟩ := ready_mem.1 hi
  have his : i < listed.size := by omega
  intro j hj hl oj hoj x hx hb
  rw [getD_set his] at hl ⊢
  split
  · rfl
  · split at hl
    · rename_i e
      subst e
      rw [ho] at hoj
      obtain rfl := Option.some.inj hoj
      exact h3 x hx hb
    · exact hc j hj hl oj hoj x hx hb

theorem not_reach {ops : Array Oper} {listed : Array Bool} (hs : listed.size = ops.size) (hc : Closed ops listed) {e : Nat} (he : e < ops.size) (hu : listed.getD e true = false) {j : Nat} (hr : Reach ops e j) :
    j < ops.size → listed.getD j true = false := by
  have hsame : ∀ k, k < ops.size → listed.getD k false = listed.getD k true := fun k hk => by
    simp only [Array.getD_eq_getD_getElem?, Array.getElem?_eq_getElem (show k < listed.size by omega), Option.getD_some]
  induction hr with
  | one ho hx hb hxe =>
    intro hj
    rename_i j o x
    cases hl : listed.getD j true
    · rfl
    · have := hc j hj hl o ho x hx hb
      rw [hxe, hsame e he, hu] at this
      exact absurd this (by decide)
  | step ho hx hb _ ih =>
    intro hj
    rename_i j o x _
    cases hl : listed.getD j true
    · rfl
    · have := hc j hj hl o ho x hx hb
      by_cases hxs : x.on < ops.size
      · rw [hsame _ hxs, ih hxs] at this
        exact absurd this (by decide)
      · simp only [Array.getD_eq_getD_getElem?, Array.getElem?_eq_none (show listed.size ≤ x.on by omega), Option.getD_none] at this
        exact absurd this (by decide)

theorem or_bit {a b : Nat} {i : Nat} (h : (a ||| b).testBit i = true) : a.testBit i = true ∨ b.testBit i = true := by
  rw [Nat.testBit_or, Bool.or_eq_true] at h; exact h

theorem maskOf_ok {ops : Array Oper} {prev : List Nat} {n : Nat} {o : Oper} (ho : ops[n]? = some o) (hprev : ∀ k, k < n → ∀ i, (prev.getD (n - 1 - k) 0).testBit i = true → Reach ops i k) {i : Nat} (h : (maskOf prev n o).testBit i = true) : Reach ops i n := by
  unfold maskOf at h
  have key : ∀ (l : List Edge) (s : Nat), (∀ e ∈ l, e ∈ o.after) → (s.testBit i = true → Reach ops i n) →
      (l.foldl (fun s e => bif Region.binds .any e && Nat.blt e.on n then s ||| (2 ^ e.on ||| prev.getD (n - 1 - e.on) 0) else s) s).testBit i = true → Reach ops i n := by
    intro l
    induction l with
    | nil => intro s _ hs h; exact hs h
    | cons e l ih =>
      intro s hm hs h
      simp only [List.foldl_cons] at h
      refine ih _ (fun x hx => hm x (by simp [hx])) ?_ h
      intro h2
      cases hb : (Region.binds .any e && Nat.blt e.on n)
      · rw [hb] at h2; exact hs h2
      · rw [hb] at h2
        simp only [cond_true] at h2
        simp only [Bool.and_eq_true, blt_iff] at hb
        rcases or_bit h2 with h2 | h2
        · exact hs h2
        · rcases or_bit h2 with h2 | h2
          · rw [Nat.testBit_two_pow] at h2
            have := of_decide_eq_true h2
            exact .one ho (hm e (by simp)) hb.1 this
          · exact .step ho (hm e (by simp)) hb.1 (hprev e.on hb.2 i h2)
  exact key o.after.toList 0 (fun e he => by simpa using he) (fun h => by simp at h) h

theorem masks_ok {ops : Array Oper} : ∀ (n : Nat) (k : Nat), k < n → ∀ i, ((masks ops n).getD (n - 1 - k) 0).testBit i = true → Reach ops i k
  | 0, k, hk, _, _ => by omega
  | n + 1, k, hk, i, h => by
    unfold masks at h
    by_cases e : k = n
    · subst e
      rw [show k + 1 - 1 - k = 0 from by omega] at h
      simp only [List.getD_cons_zero] at h
      cases ho : ops[k]? with
      | none => rw [ho] at h; simp at h
      | some o =>
        rw [ho] at h
        exact maskOf_ok ho (fun q hq => masks_ok k q hq) h
    · rw [show n + 1 - 1 - k = (n - 1 - k) + 1 from by omega] at h
      simp only [List.getD_cons_succ] at h
      exact masks_ok n k (by omega) i h

theorem behind_ok {ops : Array Oper} {i j : Nat} (h : behind ops i j = true) : Reach ops i j := by
  unfold behind at h
  refine masks_ok (j + 1) j (by omega) i ?_
  rw [show j + 1 - 1 - j = 0 from by omega]
  cases hm : masks ops (j + 1) with
  | nil => rw [hm] at h; simp at h
  | cons a l => rw [hm] at h; exact h

/-- One that is ready may be taken out of wherever it stands. -/
theorem bubble {ops : Array Oper} {e : Nat} : ∀ (k : Nat) {listed : Array Bool} {l : List Nat}, listed.size = ops.size → Closed ops listed → unl ops listed ≤ k + 1 → e ∈ Region.ready .any ops listed → IsLin ops (k + 1) listed l →
    ∃ l1 l2, l = l1 ++ e :: l2 ∧ IsLin ops k (listed.setIfInBounds e true) (l1 ++ l2) ∧
      ∀ j ∈ l1, j ≠ e ∧ listed.getD j true = false ∧ (∃ o, ops[j]? = some o) ∧ j < ops.size ∧ ¬ Reach ops e j := by
  intro k
  induction k with
  | zero =>
    intro listed l hs hc hu he hl
    rcases hl with ⟨h1, _⟩ | ⟨j, l', hj, rfl, hl'⟩
    · rw [h1] at he; simp at he
    · by_cases hje : j = e
      · subst hje; exact ⟨[], l', rfl, hl', by simp⟩
      · have h1 := unl_set hs hj
        have h2 := unl_set (by simpa using hs) (ready_keep hs he hj (Ne.symm hje))
        omega
  | succ k ih =>
    intro listed l hs hc hu he hl
    rcases hl with ⟨h1, _⟩ | ⟨j, l', hj, rfl, hl'⟩
    · rw [h1] at he; simp at he
    · by_cases hje : j = e
      · subst hje; exact ⟨[], l', rfl, hl', by simp⟩
      · have hu1 := unl_set hs hj
        have he' := ready_keep hs he hj (Ne.symm hje)
        have hjs : j < listed.size := by rw [hs]; exact (ready_mem.1 hj).1
        have hc' := closed_set hs hc hj
        obtain ⟨l1, l2, rfl, g1, g2⟩ := ih (by simpa using hs) hc' (by omega) he' hl'
        refine ⟨j :: l1, l2, rfl, .inr ⟨j, l1 ++ l2, ready_keep hs hj he hje, rfl, ?_⟩, ?_⟩
        · rw [Array.setIfInBounds_comm _ _ (Ne.symm hje)]; exact g1
        · intro x hx
          rcases List.mem_cons.1 hx with rfl | hx
          · obtain ⟨h1, h2, o, ho, h3⟩ := ready_mem.1 hj
            obtain ⟨k1, k2, _⟩ := ready_mem.1 he
            refine ⟨hje, h2, ⟨o, ho⟩, h1, fun hr => ?_⟩
            have := not_reach (by simpa using hs) hc' k1 (by rw [getD_set hjs, if_neg (Ne.symm hje)]; exact k2) hr h1
            rw [getD_set hjs, if_pos rfl] at this
            exact absurd this (by decide)
          · obtain ⟨h1, h2, h3, h4, h5⟩ := g2 x hx
            refine ⟨h1, ?_, h3, h4, h5⟩
            rw [getD_set hjs] at h2
            split at h2
            · exact absurd h2 (by decide)
            · exact h2

end Go.Proofs.YtmikfnmbjpfgnaaDoor.Ax
