/- The relation between abstract memory and the model's memory, and how new blocks and writes keep it. Conditions: none. -/
import Derived.Test.YtmikfnmbjpfgnaaDoorAxA
import Derived.Laws.BytesString
namespace Go.Proofs.YtmikfnmbjpfgnaaDoor.Ax
open Go Go.RowKit

theorem blt_iff {a b : Nat} : Nat.blt a b = true ↔ a < b := by rw [Nat.blt_eq]

/-! ### Tries -/

theorem Tr.get_leaf {α : Type} (a : α) (n : Nat) : (Tr.leaf a).get n = a := rfl
theorem Tr.get_node {α : Type} (l r : Tr α) (n : Nat) : (Tr.node l r).get n = if n % 2 = 0 then l.get (n / 2) else r.get (n / 2) := by
  show Bool.rec (motive := fun _ => α) (r.get (n / 2)) (l.get (n / 2)) (Nat.beq (n % 2) 0) = _
  cases h : Nat.beq (n % 2) 0
  · have h' : ¬ n % 2 = 0 := fun e => by rw [e] at h; exact absurd h (by decide)
    rw [if_neg h']
  · rw [if_pos (Nat.eq_of_beq_eq_true h)]
theorem Tr.put_leaf {α : Type} (v a : α) (n : Nat) : (Tr.leaf a).put v n = .leaf v := rfl
theorem Tr.put_node {α : Type} (v : α) (l r : Tr α) (n : Nat) : (Tr.node l r).put v n = if n % 2 = 0 then .node (l.put v (n / 2)) r else .node l (r.put v (n / 2)) := by
  show Bool.rec (motive := fun _ => Tr α) (Tr.node l (r.put v (n / 2))) (.node (l.put v (n / 2)) r) (Nat.beq (n % 2) 0) = _
  cases h : Nat.beq (n % 2) 0
  · have h' : ¬ n % 2 = 0 := fun e => by rw [e] at h; exact absurd h (by decide)
    rw [if_neg h']
  · rw [if_pos (Nat.eq_of_beq_eq_true h)]

def Tr.perf {α : Type} : Nat → Tr α → Prop
  | 0, .leaf _ => True
  | n + 1, .node l r => Tr.perf n l ∧ Tr.perf n r
  | _, _ => False

theorem Tr.perf_full {α : Type} (a : α) : ∀ d, Tr.perf d (Tr.full a d)
  | 0 => trivial
  | d + 1 => ⟨Tr.perf_full a d, Tr.perf_full a d⟩

theorem Tr.get_full {α : Type} (a : α) : ∀ d n, (Tr.full a d).get n = a
  | 0, _ => rfl
  | d + 1, n => by
    show (Tr.node (Tr.full a d) (Tr.full a d)).get n = a
    rw [Tr.get_node, Tr.get_full a d]; split <;> rfl

theorem Tr.perf_put {α : Type} (v : α) : ∀ d (t : Tr α) n, Tr.perf d t → Tr.perf d (t.put v n)
  | 0, .leaf _, _, _ => trivial
  | 0, .node _ _, _, h => h.elim
  | d + 1, .leaf _, _, h => h.elim
  | d + 1, .node l r, n, h => by
    rw [Tr.put_node]; split
    · exact ⟨Tr.perf_put v d l _ h.1, h.2⟩
    · exact ⟨h.1, Tr.perf_put v d r _ h.2⟩

theorem Tr.get_put {α : Type} (v : α) : ∀ d (t : Tr α) i j, Tr.perf d t → i < 2 ^ d → j < 2 ^ d → (t.put v i).get j = if i = j then v else t.get j
  | 0, .leaf a, i, j, _, hi, hj => by
    simp only [Nat.pow_zero] at hi hj
    have : i = j := by omega
    rw [if_pos this]; rfl
  | 0, .node _ _, _, _, h, _, _ => h.elim
  | d + 1, .leaf _, _, _, h, _, _ => h.elim
  | d + 1, .node l r, i, j, h, hi, hj => by
    have hi2 : i / 2 < 2 ^ d := by rw [Nat.pow_succ] at hi; omega
    have hj2 : j / 2 < 2 ^ d := by rw [Nat.pow_succ] at hj; omega
    rw [Tr.put_node]
    by_cases hi0 : i % 2 = 0 <;> by_cases hj0 : j % 2 = 0
    · rw [if_pos hi0, Tr.get_node, if_pos hj0, Tr.get_put v d l _ _ h.1 hi2 hj2, Tr.get_node, if_pos hj0]
      by_cases e : i = j
      · rw [if_pos e, if_pos (by omega)]
      · rw [if_neg e, if_neg (by omega)]
    · rw [if_pos hi0, Tr.get_node, if_neg hj0, Tr.get_node, if_neg hj0, if_neg (by omega)]
    · rw [if_neg hi0, Tr.get_node, if_pos hj0, Tr.get_node, if_pos hj0, if_neg (by omega)]
    · rw [if_neg hi0, Tr.get_node, if_neg hj0, Tr.get_put v d r _ _ h.2 hi2 hj2, Tr.get_node, if_neg hj0]
      by_cases e : i = j
      · rw [if_pos e, if_pos (by omega)]
      · rw [if_neg e, if_neg (by omega)]

theorem top_eq : top = 2 ^ 11 := rfl

theorem AH.at_put {H : AH} {s : Slot} {i j : Nat} (hp : Tr.perf 11 H) (hi : i < top) : AH.at (Tr.put s H i) j = if i = j then s else AH.at H j := by
  unfold AH.at
  cases hj : Nat.blt j top
  · have : ¬ j < top := fun h => by rw [blt_iff.2 h] at hj; exact absurd hj (by decide)
    rw [if_neg (by omega)]; rfl
  · have hj' : j < top := blt_iff.1 hj
    simp only [cond_true]
    rw [Tr.get_put s 11 H i j hp (by rw [← top_eq]; exact hi) (by rw [← top_eq]; exact hj')]

theorem AH.at_lt {H : AH} {j : Nat} (h : AH.at H j ≠ .none) : j < top := by
  unfold AH.at at h
  cases hj : Nat.blt j top
  · rw [hj] at h; exact absurd rfl h
  · exact blt_iff.1 hj

/-! ### Values -/

structure Ent where
  blk : Nat
  base : Nat
  z : Nat
  N : Nat
  val : Int := 0

abbrev Env := Nat → Option Ent

def Env.le (a b : Env) : Prop := ∀ j e, a j = some e → b j = some e
theorem Env.le_refl (a : Env) : Env.le a a := fun _ _ h => h
theorem Env.le_trans {a b c : Env} (h : Env.le a b) (h' : Env.le b c) : Env.le a c := fun j e x => h' j e (h j e x)

inductive All2 {α β : Type} (R : α → β → Prop) : List α → List β → Prop
  | nil : All2 R [] []
  | cons {a b l m} : R a b → All2 R l m → All2 R (a :: l) (b :: m)

section
variable {α β : Type} {R : α → β → Prop}
theorem All2.mono {R' : α → β → Prop} {l : List α} {m : List β} (h : All2 R l m) (hr : ∀ a b, R a b → R' a b) : All2 R' l m := by
  induction h with
  | nil => exact .nil
  | cons h _ ih => exact .cons (hr _ _ h) ih
theorem All2.length {l : List α} {m : List β} (h : All2 R l m) : l.length = m.length := by
  induction h with
  | nil => rfl
  | cons _ _ ih => simp [ih]
theorem All2.get {l : List α} {m : List β} (h : All2 R l m) : ∀ (k : Nat) (c : α), l[k]? = some c → ∃ c', m[k]? = some c' ∧ R c c' := by
  induction h with
  | nil => intro k c h; simp at h
  | cons hr _ ih =>
    intro k c hk
    cases k with
    | zero => simp at hk; subst hk; exact ⟨_, rfl, hr⟩
    | succ k => simp at hk; simpa using ih k c hk
theorem All2.of_get : ∀ {l : List α} {m : List β}, l.length = m.length → (∀ (k : Nat) (c : α), l[k]? = some c → ∃ c', m[k]? = some c' ∧ R c c') → All2 R l m
  | [], [], _, _ => .nil
  | [], _ :: _, h, _ => by simp at h
  | _ :: _, [], h, _ => by simp at h
  | a :: l, b :: m, h, hg => by
    obtain ⟨c', hc, hr⟩ := hg 0 a rfl
    simp at hc; subst hc
    exact .cons hr (All2.of_get (by simpa using h) fun k c hk => by simpa using hg (k + 1) c (by simpa using hk))
theorem All2.append {l l' : List α} {m m' : List β} (h : All2 R l m) (h' : All2 R l' m') : All2 R (l ++ l') (m ++ m') := by
  induction h with
  | nil => exact h'
  | cons hr _ ih => exact .cons hr ih
theorem All2.take {l : List α} {m : List β} (h : All2 R l m) : ∀ n, All2 R (l.take n) (m.take n) := by
  induction h with
  | nil => intro n; simp; exact .nil
  | cons hr _ ih => intro n; cases n with
    | zero => exact .nil
    | succ n => exact .cons hr (ih n)
theorem All2.drop {l : List α} {m : List β} (h : All2 R l m) : ∀ n, All2 R (l.drop n) (m.drop n) := by
  induction h with
  | nil => intro n; simp; exact .nil
  | cons hr ht ih => intro n; cases n with
    | zero => exact .cons hr ht
    | succ n => exact ih n
theorem All2.set {l : List α} {m : List β} (h : All2 R l m) {a : α} {b : β} (hr : R a b) : ∀ n, All2 R (l.set n a) (m.set n b) := by
  induction h with
  | nil => intro n; exact .nil
  | cons h1 ht ih => intro n; cases n with
    | zero => exact .cons hr ht
    | succ n => exact .cons h1 (ih n)
theorem All2.mem_right {l : List α} {m : List β} (h : All2 R l m) {p : β → Prop} (hp : ∀ a b, R a b → p b) : ∀ b ∈ m, p b := by
  induction h with
  | nil => intro b hb; simp at hb
  | cons hr _ ih => intro b hb; rcases List.mem_cons.1 hb with rfl | hb; exact hp _ _ hr; exact ih b hb
end

def capOK (c cap : Nat) : Prop := if c % 2 = 0 then cap = c / 2 else c / 2 ≤ cap

theorem capOK.le {c cap : Nat} (h : capOK c cap) : c / 2 ≤ cap := by
  unfold capOK at h; split at h <;> omega

inductive V0 (ρ : Env) : Value → Value → Prop
  | cl {v} : closed v = true → V0 ρ v v
  | ptr {j o e} : ρ j = some e → V0 ρ (.pointer (some ⟨j, o, none⟩)) (.pointer (some ⟨e.blk, e.base + o, none⟩))
  | sl {j o e len c cap} : ρ j = some e → len ≤ cap → capOK c cap → e.base + o + cap * e.z ≤ e.N →
      V0 ρ (.slice (some ⟨j, o, none⟩) len c) (.slice (some ⟨e.blk, e.base + o, none⟩) len cap)
  | slE {a cap} : V0 ρ (.slice none 0 1) (.slice a 0 cap)
  | ss {k e a cap} {len : Nat} : ρ (top + k) = some e → e.val = (len : Int) → V0 ρ (.map (some k)) (.slice a len cap)

inductive V1 (ρ : Env) : Value → Value → Prop
  | sc {v v'} : V0 ρ v v' → V1 ρ v v'
  | agg {cs cs'} : All2 (V0 ρ) cs cs' → V1 ρ (.agg ⟨cs⟩) (.agg ⟨cs'⟩)

inductive V2 (ρ : Env) : Value → Value → Prop
  | sc {v v'} : V1 ρ v v' → V2 ρ v v'
  | tup {vs vs'} : All2 (V1 ρ) vs vs' → V2 ρ (.tuple ⟨vs⟩) (.tuple ⟨vs'⟩)
  | poison {v} : V2 ρ (.complex .f32 0 0) v
  | sym {k e} : ρ (top + k) = some e → V2 ρ (.complex .f32 (k + 1) 0) (.int .i64 e.val)

theorem V0.mono {ρ ρ' : Env} (hl : Env.le ρ ρ') {v v' : Value} (h : V0 ρ v v') : V0 ρ' v v' := by
  cases h with
  | cl h => exact .cl h
  | ptr h => exact .ptr (hl _ _ h)
  | sl h a b c => exact .sl (hl _ _ h) a b c
  | slE => exact .slE
  | ss h a => exact .ss (hl _ _ h) a
theorem V1.mono {ρ ρ' : Env} (hl : Env.le ρ ρ') {v v' : Value} (h : V1 ρ v v') : V1 ρ' v v' := by
  cases h with
  | sc h => exact .sc (h.mono hl)
  | agg h => exact .agg (h.mono fun _ _ => V0.mono hl)
theorem V2.mono {ρ ρ' : Env} (hl : Env.le ρ ρ') {v v' : Value} (h : V2 ρ v v') : V2 ρ' v v' := by
  cases h with
  | sc h => exact .sc (h.mono hl)
  | tup h => exact .tup (h.mono fun _ _ => V1.mono hl)
  | poison => exact .poison
  | sym h => exact .sym (hl _ _ h)

theorem V2.of0 {ρ : Env} {v v' : Value} (h : V0 ρ v v') : V2 ρ v v' := .sc (.sc h)
theorem V2.cl {ρ : Env} {v : Value} (h : closed v = true) : V2 ρ v v := .of0 (.cl h)
theorem V2.int {ρ : Env} (k : IntKind) (n : Int) : V2 ρ (.int k n) (.int k n) := .cl rfl
theorem V2.bool {ρ : Env} (b : Bool) : V2 ρ (.bool b) (.bool b) := .cl rfl

theorem closed_agg (cs : Array Value) : closed (.agg cs) = false := rfl
theorem closed_one {v : Value} (h : closed v = true) : v.oneCell' = true := by cases v <;> first | rfl | (simp [closed] at h; done)
theorem V0.one {ρ : Env} {v v' : Value} (h : V0 ρ v v') : v'.oneCell' = true := by
  cases h with
  | cl h => exact closed_one h
  | ptr h => rfl
  | sl h a b c => rfl
  | slE => rfl
  | ss h a => rfl
theorem V0.cells {ρ : Env} {v v' : Value} (h : V0 ρ v v') : v.cells = #[v] ∧ v'.cells = #[v'] := by
  cases h with
  | cl h => cases v <;> first | exact ⟨rfl, rfl⟩ | (simp [closed] at h; done)
  | ptr h => exact ⟨rfl, rfl⟩
  | sl h a b c => exact ⟨rfl, rfl⟩
  | slE => exact ⟨rfl, rfl⟩
  | ss h a => exact ⟨rfl, rfl⟩
theorem V1.cells {ρ : Env} {v v' : Value} (h : V1 ρ v v') : All2 (V0 ρ) v.cells.toList v'.cells.toList := by
  cases h with
  | sc h => rw [h.cells.1, h.cells.2]; exact .cons h .nil
  | agg h => exact h
theorem V2.ok {ρ : Env} {v v' : Value} (h : V2 ρ v v') (ho : okV v = true) : V1 ρ v v' := by
  cases h with
  | sc h => exact h
  | tup h => simp [okV] at ho
  | poison => simp [okV] at ho
  | sym h => simp [okV] at ho

/-- Values that are plain stand for themselves. -/
theorem V2.plain {ρ : Env} {v v' : Value} (h : V2 ρ v v') (hp : pv v = true) : v' = v := by
  cases h with
  | sc h => cases h with
    | sc h => cases h with
      | cl h => rfl
      | ptr h => simp [pv] at hp
      | sl h a b c => simp [pv] at hp
      | slE => simp [pv] at hp
      | ss h a => simp [pv] at hp
    | agg h => simp [pv] at hp
  | tup h => simp [pv] at hp
  | poison => simp [pv] at hp
  | sym h => simp [pv] at hp
theorem plain_closed {v : Value} (hp : pv v = true) : closed v = true := by cases v <;> first | rfl | (simp [pv] at hp; done)

theorem V2.ptr_inv {ρ : Env} {j o : Nat} {v' : Value} (h : V2 ρ (.pointer (some ⟨j, o, none⟩)) v') : ∃ e, ρ j = some e ∧ v' = .pointer (some ⟨e.blk, e.base + o, none⟩) := by
  cases h with
  | sc h => cases h with
    | sc h => cases h with
      | cl h => simp [closed] at h
      | ptr h => exact ⟨_, h, rfl⟩
theorem V2.sl_inv {ρ : Env} {j o len c : Nat} {v' : Value} (h : V2 ρ (.slice (some ⟨j, o, none⟩) len c) v') :
    ∃ e cap, ρ j = some e ∧ len ≤ cap ∧ capOK c cap ∧ e.base + o + cap * e.z ≤ e.N ∧ v' = .slice (some ⟨e.blk, e.base + o, none⟩) len cap := by
  cases h with
  | sc h => cases h with
    | sc h => cases h with
      | cl h => simp [closed] at h
      | sl h a b c => exact ⟨_, _, h, a, b, c, rfl⟩
theorem V2.nil_inv {ρ : Env} {v' : Value} (h : V2 ρ (.slice none 0 0) v') : v' = .slice none 0 0 := by
  cases h with
  | sc h => cases h with
    | sc h => cases h with
      | cl h => rfl
theorem V2.slice_inv {ρ : Env} {a : Option Addr} {len c : Nat} {v' : Value} (h : V2 ρ (.slice a len c) v') : ∃ a' cap, v' = .slice a' len cap := by
  cases h with
  | sc h => cases h with
    | sc h => cases h with
      | cl h => exact ⟨_, _, rfl⟩
      | sl h a b c => exact ⟨_, _, rfl⟩
      | slE => exact ⟨_, _, rfl⟩
theorem V2.bool_inv {ρ : Env} {b : Bool} {v' : Value} (h : V2 ρ (.bool b) v') : v' = .bool b := h.plain rfl
theorem V2.sym_inv {ρ : Env} {k : Nat} {v' : Value} (h : V2 ρ (.complex .f32 (k + 1) 0) v') : ∃ e, ρ (top + k) = some e ∧ v' = .int .i64 e.val := by
  cases h with
  | sc h => cases h with
    | sc h => cases h with
      | cl h => simp [closed] at h
  | sym h => exact ⟨_, h, rfl⟩
theorem V2.ss_inv {ρ : Env} {k : Nat} {v' : Value} (h : V2 ρ (.map (some k)) v') : ∃ (e : Ent) (len : Nat) (a : Option Addr) (cap : Nat), ρ (top + k) = some e ∧ e.val = (len : Int) ∧ v' = .slice a len cap := by
  cases h with
  | sc h => cases h with
    | sc h => cases h with
      | cl h => simp [closed] at h
      | ss h a => exact ⟨_, _, _, _, h, a, rfl⟩

/-! ### Memory -/

structure HR (B : Nat) (ρ : Env) (H : AH) (w : World) : Prop where
  perf : Tr.perf 11 H
  size : B ≤ w.heap.size
  ent : ∀ j e, j < top → ρ j = some e → B ≤ e.blk ∧ H.at j ≠ .none ∧ ∃ arr el, w.heap[e.blk]? = some (.cells arr el (0, 0)) ∧ arr.size = e.N
  live : ∀ j z cs, H.at j = .live z cs → ∃ e, ρ j = some e ∧ e.z = z ∧ ∃ arr el, w.heap[e.blk]? = some (.cells arr el (0, 0)) ∧
    ∀ (k : Nat) (c : Value), cs[k]? = some c → ∃ c', arr[e.base + k]? = some c' ∧ V0 ρ c c'
  sep : ∀ i j zi ci zj cj ei ej, i ≠ j → H.at i = .live zi ci → H.at j = .live zj cj → ρ i = some ei → ρ j = some ej → ei.blk ≠ ej.blk

theorem HR.heap {B : Nat} {ρ : Env} {H : AH} {w w' : World} (h : HR B ρ H w) (he : w'.heap = w.heap) : HR B ρ H w' :=
  ⟨h.perf, by rw [he]; exact h.size, fun j e ht hj => by rw [he]; exact h.ent j e ht hj, fun j z cs hj => by rw [he]; exact h.live j z cs hj, h.sep⟩

def Env.add (ρ : Env) (id : Nat) (e : Ent) : Env := fun j => if j = id then some e else ρ j

theorem Env.add_same (ρ : Env) (id : Nat) (e : Ent) : (ρ.add id e) id = some e := if_pos rfl
theorem Env.add_other {ρ : Env} {id j : Nat} {e : Ent} (h : j ≠ id) : (ρ.add id e) j = ρ j := if_neg h
theorem Env.le_add {ρ : Env} {id : Nat} {e : Ent} (h : ρ id = none) : Env.le ρ (ρ.add id e) := fun j e' hj => by
  by_cases hi : j = id
  · rw [hi, h] at hj; exact absurd hj (by simp)
  · rw [Env.add_other hi]; exact hj

theorem HR.fresh {B : Nat} {ρ : Env} {H : AH} {w : World} (h : HR B ρ H w) {id : Nat} (ht : id < top) (hn : H.at id = .none) : ρ id = none := by
  cases he : ρ id with
  | none => rfl
  | some e => exact absurd hn (h.ent id e ht he).2.1

theorem anew_inv {id z : Nat} {cs : List Value} {H H' : AH} (h : anew id z cs H = some H') : H.at id = .none ∧ id < top ∧ H' = Tr.put (.live z cs) H id := by
  unfold anew at h
  split at h
  · rename_i hn
    cases hb : Nat.blt id top
    · rw [hb] at h; exact absurd h (by simp)
    · rw [hb] at h; simp at h; exact ⟨hn, blt_iff.1 hb, h.symm⟩
  · exact absurd h (by simp)

/-- A new block. -/
theorem HR.new {B : Nat} {ρ : Env} {H H' : AH} {w : World} (h : HR B ρ H w) {id z : Nat} {cs : List Value} (ha : anew id z cs H = some H') (arr : Array Value) (el : TypeId)
    (hc : ∀ (k : Nat) (c : Value), cs[k]? = some c → ∃ c', arr[k]? = some c' ∧ V0 ρ c c') :
    Env.le ρ (ρ.add id ⟨w.heap.size, 0, z, arr.size, 0⟩) ∧ HR B (ρ.add id ⟨w.heap.size, 0, z, arr.size, 0⟩) H' (w.alloc (.cells arr el)) := by
  obtain ⟨hn, ht, rfl⟩ := anew_inv ha
  have hf := h.fresh ht hn
  have hle : Env.le ρ (ρ.add id ⟨w.heap.size, 0, z, arr.size, 0⟩) := Env.le_add hf
  have hold : ∀ k, k < w.heap.size → (w.alloc (.cells arr el)).heap[k]? = w.heap[k]? := fun k hk => heap_alloc_old w _ k hk
  have hnew : (w.alloc (.cells arr el)).heap[w.heap.size]? = some (.cells arr el) := heap_alloc_new w _
  have hlt : ∀ {b arr' el'}, w.heap[b]? = some (.cells arr' el' (0, 0)) → b < w.heap.size := fun hb => (Array.getElem?_eq_some_iff.1 hb).1
  refine ⟨hle, Tr.perf_put _ _ _ _ h.perf, by simp; have := h.size; omega, ?_, ?_, ?_⟩
  · intro j e hjt hj
    rw [AH.at_put h.perf ht]
    by_cases hi : j = id
    · subst hi
      rw [Env.add_same] at hj
      obtain rfl := Option.some.inj hj
      exact ⟨h.size, by rw [if_pos rfl]; exact (fun hx => nomatch hx), arr, el, hnew, rfl⟩
    · rw [Env.add_other hi] at hj
      obtain ⟨h1, h2, a, l, h3, h4⟩ := h.ent j e hjt hj
      exact ⟨h1, by rw [if_neg (Ne.symm hi)]; exact h2, a, l, by rw [hold _ (hlt h3)]; exact h3, h4⟩
  · intro j z' cs' hj
    rw [AH.at_put h.perf ht] at hj
    by_cases hi : id = j
    · rw [if_pos hi] at hj
      injection hj with hz hcs
      subst hi hz hcs
      refine ⟨_, Env.add_same _ _ _, rfl, arr, el, hnew, fun k c hk => ?_⟩
      obtain ⟨c', h1, h2⟩ := hc k c hk
      exact ⟨c', by simpa using h1, h2.mono hle⟩
    · rw [if_neg hi] at hj
      obtain ⟨e, h1, h2, a, l, h3, h4⟩ := h.live j z' cs' hj
      refine ⟨e, by rw [Env.add_other (Ne.symm hi)]; exact h1, h2, a, l, by rw [hold _ (hlt h3)]; exact h3, fun k c hk => ?_⟩
      obtain ⟨c', h5, h6⟩ := h4 k c hk
      exact ⟨c', h5, h6.mono hle⟩
  · intro i j zi ci zj cj ei ej hij hi hj hei hej
    rw [AH.at_put h.perf ht] at hi hj
    by_cases hii : id = i
    · rw [← hii, Env.add_same] at hei
      obtain rfl := Option.some.inj hei
      have hjn : j ≠ id := fun e => hij (hii ▸ e.symm ▸ rfl)
      rw [if_neg (Ne.symm hjn)] at hj
      rw [Env.add_other hjn] at hej
      obtain ⟨_, _, a, l, h3, _⟩ := h.ent j ej (AH.at_lt (by rw [hj]; exact (fun hx => nomatch hx))) hej
      exact Ne.symm (Nat.ne_of_lt (hlt h3))
    · rw [if_neg hii] at hi
      rw [Env.add_other (Ne.symm hii)] at hei
      by_cases hjj : id = j
      · rw [← hjj, Env.add_same] at hej
        obtain rfl := Option.some.inj hej
        obtain ⟨_, _, a, l, h3, _⟩ := h.ent i ei (AH.at_lt (by rw [hi]; exact (fun hx => nomatch hx))) hei
        exact Nat.ne_of_lt (hlt h3)
      · rw [if_neg hjj] at hj
        rw [Env.add_other (Ne.symm hjj)] at hej
        exact h.sep i j zi ci zj cj ei ej hij hi hj hei hej

/-- A write into a block that is there. -/
theorem HR.write {B : Nat} {ρ : Env} {H : AH} {w : World} (h : HR B ρ H w) {j z : Nat} {cs cs2 : List Value} {e : Ent} (hj : H.at j = .live z cs) (he : ρ j = some e)
    {arr arr2 : Array Value} {el : TypeId} (hb : w.heap[e.blk]? = some (.cells arr el (0, 0))) (hs : arr2.size = arr.size)
    (hc : ∀ (k : Nat) (c : Value), cs2[k]? = some c → ∃ c', arr2[e.base + k]? = some c' ∧ V0 ρ c c') :
    HR B ρ (Tr.put (.live z cs2) H j) (w.setRow e.blk arr2) := by
  have ht : j < top := AH.at_lt (by rw [hj]; exact (fun hx => nomatch hx))
  have hsame : (w.setRow e.blk arr2).heap[e.blk]? = some (.cells arr2 el (0, 0)) := setRow_heap w e.blk arr arr2 el _ hb
  have hold : ∀ k, k ≠ e.blk → (w.setRow e.blk arr2).heap[k]? = w.heap[k]? := fun k hk => setRow_other w e.blk k arr2 hk
  refine ⟨Tr.perf_put _ _ _ _ h.perf, by simpa using h.size, ?_, ?_, ?_⟩
  · intro i ei hit hi
    obtain ⟨h1, h2, a, l, h3, h4⟩ := h.ent i ei hit hi
    refine ⟨h1, ?_, ?_⟩
    · rw [AH.at_put h.perf ht]
      by_cases hji : j = i
      · rw [if_pos hji]; exact fun hx => nomatch hx
      · rw [if_neg hji]; exact h2
    · by_cases hbk : ei.blk = e.blk
      · rw [hbk] at h3 ⊢
        rw [h3] at hb
        injection hb with hb
        injection hb with hb1 hb2
        exact ⟨arr2, el, hsame, by rw [hs, ← hb1, h4]⟩
      · exact ⟨a, l, by rw [hold _ hbk]; exact h3, h4⟩
  · intro i zi ci hi
    rw [AH.at_put h.perf ht] at hi
    by_cases hji : j = i
    · rw [if_pos hji] at hi
      injection hi with h1 h2
      subst hji h1 h2
      obtain ⟨e', h5, h6, _⟩ := h.live j z cs hj
      rw [he] at h5
      obtain rfl := Option.some.inj h5
      exact ⟨e, he, h6, arr2, el, hsame, hc⟩
    · rw [if_neg hji] at hi
      obtain ⟨ei, h1, h2, a, l, h3, h4⟩ := h.live i zi ci hi
      exact ⟨ei, h1, h2, a, l, by rw [hold _ (h.sep i j zi ci z cs ei e (Ne.symm hji) hi hj h1 he)]; exact h3, h4⟩
  · intro i k zi ci zk ck ei ek hik hi hk hei hek
    rw [AH.at_put h.perf ht] at hi hk
    have back : ∀ {x zx cx}, (if j = x then Slot.live z cs2 else H.at x) = .live zx cx → ∃ zx' cx', H.at x = .live zx' cx' := by
      intro x zx cx hx
      by_cases hjx : j = x
      · exact ⟨z, cs, hjx ▸ hj⟩
      · rw [if_neg hjx] at hx; exact ⟨zx, cx, hx⟩
    obtain ⟨_, _, hi'⟩ := back hi
    obtain ⟨_, _, hk'⟩ := back hk
    exact h.sep i k _ _ _ _ ei ek hik hi' hk' hei hek

/-- An append that stays in its block: the block goes on under another number, the elder number is dead. -/
theorem HR.alias {B : Nat} {ρ : Env} {H H' : AH} {w : World} (h : HR B ρ H w) {j id z off : Nat} {cs cs2 : List Value} {e : Ent} (hj : H.at j = .live z cs) (he : ρ j = some e)
    (ha : anew id z cs2 (Tr.put .dead H j) = some H')
    {arr arr2 : Array Value} {el : TypeId} (hb : w.heap[e.blk]? = some (.cells arr el (0, 0))) (hs : arr2.size = arr.size)
    (hc : ∀ (k : Nat) (c : Value), cs2[k]? = some c → ∃ c', arr2[e.base + off + k]? = some c' ∧ V0 ρ c c') :
    Env.le ρ (ρ.add id ⟨e.blk, e.base + off, z, e.N, 0⟩) ∧ HR B (ρ.add id ⟨e.blk, e.base + off, z, e.N, 0⟩) H' (w.setRow e.blk arr2) := by
  have ht : j < top := AH.at_lt (by rw [hj]; exact (fun hx => nomatch hx))
  have hp2 : Tr.perf 11 (Tr.put .dead H j) := Tr.perf_put _ _ _ _ h.perf
  obtain ⟨hn, hti, rfl⟩ := anew_inv ha
  rw [AH.at_put h.perf ht] at hn
  have hjid : j ≠ id := fun hx => by rw [if_pos hx] at hn; exact nomatch hn
  rw [if_neg hjid] at hn
  have hf := h.fresh hti hn
  have hle : Env.le ρ (ρ.add id ⟨e.blk, e.base + off, z, e.N, 0⟩) := Env.le_add hf
  have hsame : (w.setRow e.blk arr2).heap[e.blk]? = some (.cells arr2 el (0, 0)) := setRow_heap w e.blk arr arr2 el _ hb
  have hold : ∀ k, k ≠ e.blk → (w.setRow e.blk arr2).heap[k]? = w.heap[k]? := fun k hk => setRow_other w e.blk k arr2 hk
  have hN : arr.size = e.N := by
    obtain ⟨_, _, a, l, h3, h4⟩ := h.ent j e ht he
    rw [h3] at hb; injection hb with hb; injection hb with hb1 hb2; rw [← hb1, h4]
  have hat : ∀ i, AH.at (Tr.put (.live z cs2) (Tr.put .dead H j) id) i = if id = i then .live z cs2 else if j = i then .dead else H.at i := fun i => by
    rw [AH.at_put hp2 hti, AH.at_put h.perf ht]
  refine ⟨hle, Tr.perf_put _ _ _ _ hp2, by simpa using h.size, ?_, ?_, ?_⟩
  · intro i ei hit hi
    by_cases hid : i = id
    · subst hid
      rw [Env.add_same] at hi
      obtain rfl := Option.some.inj hi
      exact ⟨(h.ent j e ht he).1, by rw [hat, if_pos rfl]; exact (fun hx => nomatch hx), arr2, el, hsame, by rw [hs, hN]⟩
    · rw [Env.add_other hid] at hi
      obtain ⟨h1, h2, a, l, h3, h4⟩ := h.ent i ei hit hi
      refine ⟨h1, ?_, ?_⟩
      · rw [hat, if_neg (Ne.symm hid)]
        split
        · exact fun hx => nomatch hx
        · exact h2
      · by_cases hbk : ei.blk = e.blk
        · rw [hbk] at h3 ⊢
          rw [h3] at hb
          injection hb with hb
          injection hb with hb1 hb2
          exact ⟨arr2, el, hsame, by rw [hs, ← hb1, h4]⟩
        · exact ⟨a, l, by rw [hold _ hbk]; exact h3, h4⟩
  · intro i zi ci hi
    rw [hat] at hi
    by_cases hid : id = i
    · rw [if_pos hid] at hi
      injection hi with h1 h2
      subst hid h1 h2
      exact ⟨_, Env.add_same _ _ _, rfl, arr2, el, hsame, fun k c hk => by
        obtain ⟨c', h5, h6⟩ := hc k c hk
        exact ⟨c', h5, h6.mono hle⟩⟩
    · rw [if_neg hid] at hi
      by_cases hji : j = i
      · rw [if_pos hji] at hi; exact nomatch hi
      · rw [if_neg hji] at hi
        obtain ⟨ei, h1, h2, a, l, h3, h4⟩ := h.live i zi ci hi
        refine ⟨ei, by rw [Env.add_other (Ne.symm hid)]; exact h1, h2, a, l, by rw [hold _ (h.sep i j zi ci z cs ei e (Ne.symm hji) hi hj h1 he)]; exact h3, fun k c hk => ?_⟩
        obtain ⟨c', h5, h6⟩ := h4 k c hk
        exact ⟨c', h5, h6.mono hle⟩
  · intro i k zi ci zk ck ei ek hik hi hk hei hek
    rw [hat] at hi hk
    by_cases hid : id = i
    · have hkid : k ≠ id := fun e => hik (hid ▸ e.symm ▸ rfl)
      rw [← hid, Env.add_same] at hei
      obtain rfl := Option.some.inj hei
      rw [if_neg (Ne.symm hkid)] at hk
      rw [Env.add_other hkid] at hek
      by_cases hjk : j = k
      · rw [if_pos hjk] at hk; exact nomatch hk
      · rw [if_neg hjk] at hk
        exact h.sep j k _ _ _ _ e ek hjk hj hk he hek
    · rw [if_neg hid] at hi
      rw [Env.add_other (Ne.symm hid)] at hei
      by_cases hji : j = i
      · rw [if_pos hji] at hi; exact nomatch hi
      · rw [if_neg hji] at hi
        by_cases hidk : id = k
        · rw [← hidk, Env.add_same] at hek
          obtain rfl := Option.some.inj hek
          exact h.sep i j _ _ _ _ ei e (Ne.symm hji) hi hj hei he
        · rw [if_neg hidk] at hk
          rw [Env.add_other (Ne.symm hidk)] at hek
          by_cases hjk : j = k
          · rw [if_pos hjk] at hk; exact nomatch hk
          · rw [if_neg hjk] at hk
            exact h.sep i k _ _ _ _ ei ek hik hi hk hei hek

theorem HR.kill {B : Nat} {ρ : Env} {H : AH} {w : World} (h : HR B ρ H w) {j : Nat} (ht : j < top) : HR B ρ (Tr.put .dead H j) w := by
  refine ⟨Tr.perf_put _ _ _ _ h.perf, h.size, ?_, ?_, ?_⟩
  · intro i e hit hi
    obtain ⟨h1, h2, h3⟩ := h.ent i e hit hi
    refine ⟨h1, ?_, h3⟩
    rw [AH.at_put h.perf ht]
    split
    · exact fun hx => nomatch hx
    · exact h2
  · intro i z cs hi
    rw [AH.at_put h.perf ht] at hi
    split at hi
    · exact nomatch hi
    · exact h.live i z cs hi
  · intro i k zi ci zk ck ei ek hik hi hk hei hek
    rw [AH.at_put h.perf ht] at hi hk
    split at hi
    · exact nomatch hi
    split at hk
    · exact nomatch hk
    exact h.sep i k _ _ _ _ ei ek hik hi hk hei hek

/-- Calls that only make new blocks keep the relation. -/
theorem HR.below {B : Nat} {ρ : Env} {H : AH} {w w' : World} (h : HR B ρ H w) (hb : Below w.heap.size w w') : HR B ρ H w' := by
  have hk : ∀ {b : Nat} {arr : Array Value} {el : TypeId}, w.heap[b]? = some (Obj.cells arr el (0, 0)) → w'.heap[b]? = some (Obj.cells arr el (0, 0)) := fun hx => by
    rw [hb.block _ (Array.getElem?_eq_some_iff.1 hx).1]; exact hx
  refine ⟨h.perf, Nat.le_trans h.size hb.size, fun j e hj he => ?_, fun j z cs hj => ?_, h.sep⟩
  · obtain ⟨h1, h2, arr, el, h3, h4⟩ := h.ent j e hj he
    exact ⟨h1, h2, arr, el, hk h3, h4⟩
  · obtain ⟨e, h1, h2, arr, el, h3, h4⟩ := h.live j z cs hj
    exact ⟨e, h1, h2, arr, el, hk h3, h4⟩

theorem below_setRow {B : Nat} {a w : World} (h : Below B a w) {g : Nat} (hg : B ≤ g) (arr : Array Value) : Below B a (w.setRow g arr) :=
  h.trans ⟨rfl, rfl, rfl, by simp, fun k hk => setRow_other w g k arr (by omega)⟩

end Go.Proofs.YtmikfnmbjpfgnaaDoor.Ax
