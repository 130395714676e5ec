/- Calls: a contract out of an abstract run. Conditions: none. -/
import Derived.Test.YtmikfnmbjpfgnaaDoorAxK
namespace Go.Proofs.YtmikfnmbjpfgnaaDoor.Ax
open Go Go.RowKit

variable {P : Program} {ρ0 : Env}

theorem putAll_perf {d : Nat} : ∀ (vs : List Value) (i : Nat) {t : Tr Value}, Tr.perf d t → Tr.perf d (putAll vs i t)
  | [], _, _, h => h
  | v :: vs, i, t, h => putAll_perf vs (i + 1) (Tr.perf_put v d t i h)

theorem putAll_get {d : Nat} : ∀ (vs : List Value) (i : Nat) {t : Tr Value}, Tr.perf d t → i + vs.length ≤ 2 ^ d → ∀ j, j < 2 ^ d → (putAll vs i t).get j = if i ≤ j ∧ j < i + vs.length then vs.getD (j - i) undef else t.get j
  | [], i, t, _, _, j, _ => by rw [if_neg (by simp only [List.length_nil]; omega)]; rfl
  | v :: vs, i, t, h, hl, j, hj => by
    simp only [List.length_cons] at hl ⊢
    show (putAll vs (i + 1) (t.put v i)).get j = _
    rw [putAll_get vs (i + 1) (Tr.perf_put v d t i h) (by omega) j hj, Tr.get_put v d t i j h (by omega) hj]
    by_cases h1 : i = j
    · subst h1
      rw [if_neg (by omega), if_pos rfl, if_pos (by omega), Nat.sub_self]
      rfl
    · by_cases h2 : i + 1 ≤ j ∧ j < i + 1 + vs.length
      · rw [if_pos h2, if_pos (by omega)]
        have : j - i = (j - (i + 1)) + 1 := by omega
        rw [this]
        rfl
      · rw [if_neg h2, if_neg h1, if_neg (by omega)]

theorem frame0_ok {B : Nat} {ρ : Env} {H : AH} {w : World} {args args' : Array Value} {n nx : Nat} (ha : All2 (V2 ρ) args.toList args'.toList) (hn : args.size ≤ n) (hl0 : Env.le ρ0 ρ) (hr : HR B ρ H w) :
    FR ρ0 B ρ ⟨frame0 args.toList (Nat.log2 n + 1), n, H, nx⟩ { tmps := args' ++ Array.replicate (n - args'.size) undef, defers := [] } w := by
  have hl := ha.length
  simp only [Array.length_toList] at hl
  have hlog : n < 2 ^ (Nat.log2 n + 1) := Nat.lt_log2_self
  have hp : Tr.perf (Nat.log2 n + 1) (frame0 args.toList (Nat.log2 n + 1)) := putAll_perf _ _ (Tr.perf_full _ _)
  refine ⟨hl0, by simp; omega, ⟨_, hp, Nat.le_of_lt hlog⟩, fun t => ?_, rfl, hr⟩
  unfold St.get
  simp only
  cases ht : Nat.blt t n
  · have hge : ¬ t < n := fun h => by rw [blt_iff.2 h] at ht; exact absurd ht (by decide)
    have : (args' ++ Array.replicate (n - args'.size) undef).getD t undef = undef := by
      rw [Array.getD_eq_getD_getElem?, Array.getElem?_eq_none (by simp; omega)]
      rfl
    rw [this]
    exact V2.undef
  · have hlt := blt_iff.1 ht
    simp only [cond_true]
    unfold frame0
    rw [putAll_get args.toList 0 (Tr.perf_full _ _) (by simp only [Array.length_toList]; omega) t (by omega), Tr.get_full]
    rw [Array.getD_eq_getD_getElem?]
    by_cases h1 : t < args.size
    · rw [if_pos (by simp only [Array.length_toList]; omega), Nat.sub_zero, Array.getElem?_append_left (by omega)]
      obtain ⟨u, k1, k2⟩ := ha.get t args[t] (by simp [h1])
      have k1' : args'[t]? = some u := by simpa using k1
      rw [k1']
      have : args.toList.getD t undef = args[t] := by simp [List.getD, h1]
      rw [this]
      exact k2
    · rw [if_neg (by simp only [Array.length_toList]; omega), Array.getElem?_append_right (by omega), Array.getElem?_replicate, if_pos (by omega)]
      exact V2.undef

theorem result_ok {B : Nat} {ρ : Env} {s : St} {a : Act} {w : World} (hf : FR ρ0 B ρ s a w) (f : ResultVar → Sem Value) (f1 : ∀ t, f (.tmp t) = pure (a.tmps.getD t undef)) (f2 : ∀ p t, f (.cell p t) = (do loadVar t (← asAddr (a.tmps.getD p undef)))) :
    ∀ (l : List ResultVar) {vs : List Value}, aresults P s l = some vs → ∃ vs', (l.mapM f).run P w = .ok vs' w ∧ All2 (V1 ρ) vs vs'
  | [], vs, h => by
    simp only [aresults, Option.some.injEq] at h
    subst h
    exact ⟨[], by simp, .nil⟩
  | r :: l, vs, h => by
    unfold aresults at h
    split at h
    · rename_i v us hv hus
      simp only [Option.some.injEq] at h
      subst h
      obtain ⟨us', k1, k2⟩ := result_ok hf f f1 f2 l hus
      have key : ∃ v', (f r).run P w = .ok v' w ∧ V1 ρ v v' := by
        unfold aresult at hv
        split at hv
        · rename_i t
          simp only [cond_eq_ite] at hv
          split at hv
          · rename_i hok
            simp only [Option.some.injEq] at hv
            subst hv
            exact ⟨_, by rw [f1]; rfl, (hf.vals t).ok hok⟩
          · exact absurd hv (by simp)
        · rename_i p t
          obtain ⟨v', g1, g2⟩ := load_ok (P := P) hv (hf.vals p) hf.heap
          refine ⟨v', ?_, g2⟩
          unfold aload at hv
          split at hv
          · rename_i j off hj
            have hp := hf.vals p
            rw [hj] at hp
            obtain ⟨e, _, he⟩ := hp.ptr_inv
            rw [he] at g1
            rw [f2, he]
            simpa [Instr.loadAt, Instr.sureAddr, asAddr] using g1
          · exact absurd hv (by simp)
      obtain ⟨v', g1, g2⟩ := key
      refine ⟨v' :: us', ?_, .cons g2 k2⟩
      rw [List.mapM_cons, Sem.run_bind, g1]
      simp only [Result.andThen_ok, Sem.run_bind, k1, Sem.run_pure]
    · exact absurd h (by simp)

/-- One result. -/
def resF (tmps : Array Value) : ResultVar → Sem Value
  | .tmp t => pure (tmps.getD t undef)
  | .cell p t => do loadVar t (← asAddr (tmps.getD p undef))

theorem results_run (fn : Func) (tmps : Array Value) (w : World) {vs : List Value} (h : (fn.results.toList.mapM (resF tmps)).run P w = .ok vs w) :
    (results fn tmps).run P w = .ok (if h : vs.toArray.size = 1 then vs.toArray[0] else .tuple vs.toArray) w := by
  have e : (fn.results.mapM (resF tmps)).run P w = .ok vs.toArray w := by
    rw [Array.mapM_eq_mapM_toList, Sem.run_map, h]
    rfl
  have e2 : (results fn tmps).run P w = ((fn.results.mapM (resF tmps)).run P w).andThen fun us w' => .ok (if h : us.size = 1 then us[0] else .tuple us) w' := by
    unfold results
    rw [Sem.run_bind]
    have hF : ∀ {F : ResultVar → Sem Value}, (∀ r, F r = resF tmps r) → fn.results.mapM F = fn.results.mapM (resF tmps) := fun hF => by
      rw [funext hF]
    rw [hF (fun r => by cases r <;> rfl)]
    rfl
  rw [e2, e]
  rfl

theorem pack_ok {ρ : Env} {vs vs' : List Value} (h : All2 (V1 ρ) vs vs') : V2 ρ (pack vs) (if h : vs'.toArray.size = 1 then vs'.toArray[0] else .tuple vs'.toArray) := by
  cases h with
  | nil => exact .tup .nil
  | cons h1 h2 =>
    cases h2 with
    | nil => exact .sc h1
    | cons h3 h4 => exact .tup (.cons h1 (.cons h3 h4))

theorem aC_ok {run : ARun} (hrun : RunOK P ρ0 run) : CallOK P ρ0 (aC P run) ∧ CallP (aC P run) := by
  have key : ∀ f args H nx v H' nx', aC P run f args H nx = some (v, H', nx') → ∃ (fn : Func) (c : Code) (e : AX) (s : St) (vs : List Value), P.funcs[f]? = some fn ∧ fn.body = some c ∧ args.size ≤ fn.ntmps ∧
      run c ⟨frame0 args.toList (Nat.log2 fn.ntmps + 1), fn.ntmps, H, nx⟩ = some (e, s) ∧ (e = .normal ∨ e = .ret) ∧ aresults P s fn.results.toList = some vs ∧ v = pack vs ∧ H' = s.H := by
    intro f args H nx v H' nx' h
    unfold aC at h
    split at h
    · rename_i fn hfn
      split at h
      · rename_i c hc
        simp only [cond_eq_ite] at h
        split at h
        · rename_i hle
          have hle' := ble_iff.1 hle
          split at h
          · rename_i s hs
            obtain ⟨vs, h1, h2⟩ := some_map h
            simp only [Prod.mk.injEq] at h2
            exact ⟨fn, c, .normal, s, vs, hfn, hc, hle', hs, .inl rfl, h1, h2.1.symm, h2.2.1.symm⟩
          · rename_i s hs
            obtain ⟨vs, h1, h2⟩ := some_map h
            simp only [Prod.mk.injEq] at h2
            exact ⟨fn, c, .ret, s, vs, hfn, hc, hle', hs, .inr rfl, h1, h2.1.symm, h2.2.1.symm⟩
          · exact absurd h (by simp)
        · exact absurd h (by simp)
      · exact absurd h (by simp)
    · exact absurd h (by simp)
  constructor
  · intro f args H nx v H' nx' h B ρ args' w hl0 ha hr
    obtain ⟨fn, c, e, s, vs, hfn, hc, hle, hs, he, hvs, rfl, rfl⟩ := key f args H nx v H' nx' h
    obtain ⟨_, n, hw⟩ := hrun _ _ _ _ hs
    refine calls_of_wp hfn hc ?_
    refine wp_mono (hw B ρ _ w (frame0_ok ha hle hl0 hr)).wp ?_
    rintro ex a1 w1 ⟨rfl, ρ1, k1, k2, k3⟩
    obtain ⟨vs', g1, g2⟩ := result_ok (P := P) k2 (resF a1.tmps) (fun t => rfl) (fun p t => rfl) fn.results.toList hvs
    have hres := results_run (P := P) fn a1.tmps w1 g1
    rcases he with rfl | rfl
    · exact ⟨k2.defers, _, hres, _, ρ1, rfl, k1, pack_ok g2, k2.heap, k3⟩
    · exact ⟨k2.defers, _, hres, _, ρ1, rfl, k1, pack_ok g2, k2.heap, k3⟩
  · intro f args H nx v H' nx' h hp
    obtain ⟨fn, c, e, s, vs, hfn, hc, hle, hs, he, hvs, rfl, rfl⟩ := key f args H nx v H' nx' h
    obtain ⟨hf, _⟩ := hrun _ _ _ _ hs
    have hlog : fn.ntmps < 2 ^ (Nat.log2 fn.ntmps + 1) := Nat.lt_log2_self
    exact (hf ⟨⟨_, putAll_perf _ _ (Tr.perf_full _ _), Nat.le_of_lt hlog⟩, hp⟩).2

theorem aT_ok {S : Tab} {call : ACall} (hS : CallOK P ρ0 (fun f args H nx => (S f args.toList).map fun v => (v, H, nx))) (h : CallOK P ρ0 call) (hp : CallP call) : CallOK P ρ0 (aT S call) ∧ CallP (aT S call) := by
  constructor
  · intro f args H nx v H' nx' hx
    unfold aT at hx
    split at hx
    · rename_i u hu
      simp only [Option.some.injEq, Prod.mk.injEq] at hx
      obtain ⟨rfl, rfl, rfl⟩ := hx
      exact hS f args H nx u H nx (by simp only [hu]; rfl)
    · exact h f args H nx v H' nx' hx
  · intro f args H nx v H' nx' hx hpf
    unfold aT at hx
    split at hx
    · simp only [Option.some.injEq, Prod.mk.injEq] at hx
      obtain ⟨rfl, rfl, rfl⟩ := hx
      exact hpf
    · exact hp f args H nx v H' nx' hx hpf

/-- What is asked of a table's rows. -/
def TabOK (P : Program) (ρ0 : Env) (S : Tab) : Prop := CallOK P ρ0 (fun f args H nx => (S f args.toList).map fun v => (v, H, nx))

theorem arun_ok (hm : P.follows .mixedOrders = true) {S : Tab} (hS : TabOK P ρ0 S) : ∀ k, RunOK P ρ0 (arun P S k)
  | 0 => fun c s e s' h => by simp [arun] at h
  | k + 1 => by
    have h := arun_ok hm hS k
    obtain ⟨h1, h2⟩ := aC_ok h
    obtain ⟨h3, h4⟩ := aT_ok hS h1 h2
    exact aF_ok hm h3 h4 h

theorem acall_ok (hm : P.follows .mixedOrders = true) {S : Tab} (hS : TabOK P ρ0 S) (k : Nat) : CallOK P ρ0 (acall P S k) := (aC_ok (arun_ok hm hS k)).1

theorem noTab_ok : TabOK P ρ0 noTab := fun f args H nx v H' nx' h => by simp [noTab] at h

/-- The named ints, and no block. -/
def symEnv (σ : List Int) : Env := fun j => if top ≤ j then (σ[j - top]?).map fun n => ⟨0, 0, 0, 0, n⟩ else none

theorem symEnv_at {σ : List Int} {k : Nat} {n : Int} (h : σ[k]? = some n) : symEnv σ (top + k) = some ⟨0, 0, 0, 0, n⟩ := by
  unfold symEnv
  rw [if_pos (by omega), show top + k - top = k from by omega, h]
  rfl

theorem symEnv_low {σ : List Int} {j : Nat} (h : j < top) : symEnv σ j = none := if_neg (by omega)

theorem heap0_ok (σ : List Int) (w : World) : HR w.heap.size (symEnv σ) heap0 w := by
  have hnone : ∀ j, AH.at heap0 j = .none := fun j => by
    unfold AH.at heap0
    rw [Tr.get_full]
    cases Nat.blt j top <;> rfl
  refine ⟨Tr.perf_full _ _, Nat.le_refl _, fun j e hj h => ?_, fun j z cs h => ?_, fun i j _ _ _ _ _ _ _ h => ?_⟩
  · rw [symEnv_low hj] at h; exact nomatch h
  · rw [hnone] at h; exact nomatch h
  · rw [hnone] at h; exact nomatch h

theorem closed2_all {ρ : Env} : ∀ {l : List Value}, l.all closed2 = true → All2 (V2 ρ) l l
  | [], _ => .nil
  | a :: l, h => by simp only [List.all_cons, Bool.and_eq_true] at h; exact .cons (closed2_ok h.1) (closed2_all h.2)

/-- A call at plain arguments, out of its abstract run: what it gives, plain. -/
theorem calls_plain (hm : P.follows .mixedOrders = true) {k f : Nat} {args : Array Value} {v : Value} {H' : AH} {nx : Nat} (h : acall P noTab k f args heap0 0 = some (v, H', nx)) (ha : args.toList.all closed2 = true) (hv : pv v = true) (w : World) :
    Calls P f args w fun e w' => e = .returned v ∧ Below w.heap.size w w' := by
  refine (acall_ok (ρ0 := symEnv []) hm noTab_ok k f args heap0 0 v H' nx h w.heap.size (symEnv []) args w (Env.le_refl _) (closed2_all ha) (heap0_ok [] w)).mono ?_
  rintro e w' ⟨v', ρ', rfl, _, h2, _, h4⟩
  rw [h2.plain hv]
  exact ⟨rfl, h4⟩

end Go.Proofs.YtmikfnmbjpfgnaaDoor.Ax
