/- Calls that a table answers: what its rows must hold. Conditions: none. -/
import Derived.Test.YtmikfnmbjpfgnaaDoorAlive
import Derived.Test.YtmikfnmbjpfgnaaDoorCuts
namespace Go.Proofs.YtmikfnmbjpfgnaaDoor
open Go Go.RowKit Ax

/-- Function, named int, two numbers: what comes out. -/
structure Line where
  f : Nat
  k : Nat
  a : Int
  b : Int
  v : Value

def Line.find (f j : Nat) (a b : Int) : List Line → Option Value
  | [] => none
  | r :: l => bif Nat.beq r.f f && Nat.beq (r.k + 1) j && eqI r.a a && eqI r.b b then some r.v else Line.find f j a b l

/-- The table of those lines; 'alive' is in it. -/
def lineTab (l : List Line) : Tab := fun f args =>
  match args with
  | [] => bif Nat.beq f 6 then some (.bool true) else none
  | [.complex .f32 j 0, .int .i64 a, .int .i64 b] => Line.find f j a b l
  | _ => none

/-- What a line says. -/
def Line.ok (σ : List Int) (r : Line) : Prop :=
  ∃ n, σ[r.k]? = some n ∧ ∀ w : World, Calls Tryd.prog r.f #[.int .i64 n, .int .i64 r.a, .int .i64 r.b] w fun e w' => ∃ v', e = .returned v' ∧ V2 (symEnv σ) r.v v' ∧ Below w.heap.size w w'

theorem Line.find_ok {f j : Nat} {a b : Int} {v : Value} : ∀ {l : List Line}, Line.find f j a b l = some v → ∃ r ∈ l, r.f = f ∧ r.k + 1 = j ∧ r.a = a ∧ r.b = b ∧ r.v = v
  | [], h => by simp [Line.find] at h
  | r :: l, h => by
    unfold Line.find at h
    cases hc : (Nat.beq r.f f && Nat.beq (r.k + 1) j && eqI r.a a && eqI r.b b)
    · rw [hc] at h
      obtain ⟨r', h1, h2⟩ := Line.find_ok (l := l) h
      exact ⟨r', List.mem_cons_of_mem _ h1, h2⟩
    · rw [hc] at h
      simp only [Bool.and_eq_true, eqI_eq, beq_iff_eq] at hc
      obtain ⟨⟨⟨h1, h2⟩, h3⟩, h4⟩ := hc
      exact ⟨r, List.mem_cons_self, Nat.eq_of_beq_eq_true h1, Nat.eq_of_beq_eq_true h2, h3, h4, Option.some.inj h⟩

theorem sym_at {σ : List Int} {ρ : Env} {k : Nat} {n : Int} {v' : Value} (hl : Env.le (symEnv σ) ρ) (hk : σ[k]? = some n) (h : V2 ρ (.complex .f32 (k + 1) 0) v') : v' = .int .i64 n := by
  obtain ⟨e, h1, rfl⟩ := h.sym_inv
  have := hl _ _ (symEnv_at hk)
  rw [h1] at this
  rw [Option.some.inj this]

theorem args3 {σ : List Int} {ρ : Env} {k : Nat} {n a b : Int} {args' : Array Value} (hl : Env.le (symEnv σ) ρ) (hk : σ[k]? = some n) (h : All2 (V2 ρ) [.complex .f32 (k + 1) 0, .int .i64 a, .int .i64 b] args'.toList) :
    args' = #[.int .i64 n, .int .i64 a, .int .i64 b] := by
  obtain ⟨l⟩ := args'
  simp only at h
  cases h with
  | cons h0 h =>
    cases h with
    | cons h1 h =>
      cases h with
      | cons h2 h =>
        cases h with
        | nil =>
          obtain rfl := sym_at hl hk h0
          obtain rfl := h1.plain rfl
          obtain rfl := h2.plain rfl
          rfl

theorem lineTab_ok {σ : List Int} {l : List Line} (hl : ∀ r ∈ l, r.ok σ) : TabOK Tryd.prog (symEnv σ) (lineTab l) := by
  intro f args H nx v H' nx' h B ρ args' w hle ha hr
  obtain ⟨u, hu, hx⟩ := some_map h
  simp only [Prod.mk.injEq] at hx
  obtain ⟨rfl, rfl, rfl⟩ := hx
  unfold lineTab at hu
  split at hu
  · rename_i hargs
    cases hf : Nat.beq f 6
    · rw [hf] at hu; exact absurd hu (by simp)
    · rw [hf] at hu
      obtain rfl := Nat.eq_of_beq_eq_true hf
      obtain rfl := Option.some.inj hu
      rw [hargs] at ha
      have : args' = #[] := by
        obtain ⟨l'⟩ := args'
        cases ha with
        | nil => rfl
      subst this
      refine (alive_calls w).mono ?_
      rintro e w' ⟨rfl, hb⟩
      exact ⟨_, ρ, rfl, Env.le_refl _, V2.bool true, hr.below hb, hb.mono hr.size⟩
  · rename_i j a b hargs
    obtain ⟨r, hm, rfl, rfl, rfl, rfl, rfl⟩ := Line.find_ok hu
    obtain ⟨n, hk, hc⟩ := hl r hm
    rw [hargs] at ha
    rw [args3 hle hk ha]
    refine (hc w).mono ?_
    rintro e w' ⟨v', rfl, h2, hb⟩
    exact ⟨_, ρ, rfl, Env.le_refl _, h2.mono hle, hr.below hb, hb.mono hr.size⟩
  · exact absurd hu (by simp)

end Go.Proofs.YtmikfnmbjpfgnaaDoor
