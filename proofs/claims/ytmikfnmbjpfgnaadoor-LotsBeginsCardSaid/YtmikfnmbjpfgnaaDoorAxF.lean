/- Each abstract operation stands for the model's. Conditions: none. -/
import Derived.Test.YtmikfnmbjpfgnaaDoorAxE
import Derived.IntWalk
namespace Go.Proofs.YtmikfnmbjpfgnaaDoor.Ax
open Go Go.RowKit

variable {P : Program} {B : Nat} {ρ : Env} {H : AH} {w : World}

theorem pureIn_ok {α : Type} : ∀ (s : Sem α) (a : α), pureIn P s = some a → s.run P w = .ok a w
  | .pure a, b, h => by simp only [pureIn, Option.some.injEq] at h; subst h; rfl
  | .program k, b, h => by
    simp only [pureIn] at h
    exact pureIn_ok (k P) b h
  | .load .., _, h | .store .., _, h | .new .., _, h | .shape .., _, h | .freeze .., _, h | .frozen .., _, h | .getObj .., _, h | .setObj .., _, h | .choose .., _, h | .sys .., _, h | .mark .., _, h | .halt _, _, h => by simp [pureIn] at h

theorem wrapI_eq (n : Int) : wrapI n = IntKind.i64.wrap n := by
  unfold wrapI
  split
  · rename_i m
    cases hb : Nat.blt m 9223372036854775808
    · rw [cond_false]
    · have := blt_iff.1 hb
      rw [cond_true, IntWalk.i64_in _ (by simp only [Int.ofNat_eq_natCast]; omega)]
  · rename_i m
    cases hb : Nat.blt m 9223372036854775808
    · rw [cond_false]
    · have := blt_iff.1 hb
      rw [cond_true, IntWalk.i64_in _ (by omega)]

theorem bool_eq {a b : Bool} (h : a = true ↔ b = true) : a = b := by cases a <;> cases b <;> simp_all

theorem ltI_eq (a b : Int) : ltI a b = decide (a < b) := by
  apply bool_eq
  rw [decide_eq_true_eq]
  unfold ltI
  split
  · rw [blt_iff]; simp only [Int.ofNat_eq_natCast]; omega
  · simp only [Int.ofNat_eq_natCast, true_iff]; omega
  · simp only [Int.ofNat_eq_natCast, Bool.false_eq_true, false_iff]; omega
  · rw [blt_iff]; omega

theorem eqI_eq (a b : Int) : eqI a b = (a == b) := by
  apply bool_eq
  rw [beq_iff_eq]
  unfold eqI
  split
  · rw [beq_iff]; simp only [Int.ofNat_eq_natCast]; omega
  · rw [beq_iff]; omega
  · rename_i h1 h2
    constructor
    · intro h; exact absurd h (by decide)
    · intro h
      subst h
      cases a with
      | ofNat n => exact absurd rfl (h1 n n rfl)
      | negSucc n => exact absurd rfl (h2 n n rfl)

def Out (P : Program) (B : Nat) (ρ : Env) (w : World) (o : Oper) (ev' : Operand → Value) (v : Value) (H' : AH) : Prop :=
  ∃ nx v' w' ρ', (execOp ev' o).run P w = .ok nx w' ∧ (nx = .value v' ∨ (nx = .skip ∧ v' = undef)) ∧ Env.le ρ ρ' ∧ V2 ρ' v v' ∧ HR B ρ' H' w' ∧ Below B w w'

section
variable {o : Oper} {ev ev' : Operand → Value} {v : Value} {H' : AH}

/-- An operation that only gives a value. -/
theorem Out.read (hr : HR B ρ H w) {v' : Value} (h : (execOp ev' o).run P w = .ok (.value v') w) (hv : V2 ρ v v') : Out P B ρ w o ev' v H :=
  ⟨_, v', w, ρ, h, .inl rfl, Env.le_refl _, hv, hr, Below.refl _ _⟩

theorem pure_out (h : apure P o ev H = some (.val v H')) (he : ∀ x, V2 ρ (ev x) (ev' x)) (hr : HR B ρ H w) : Out P B ρ w o ev' v H' := by
  unfold apure at h
  split at h
  · exact absurd h (by simp)
  · rename_i hns
    cases hp : (o.op.operands.toList.all fun x => pv (ev x))
    · rw [hp] at h; exact absurd h (by simp)
    rw [hp] at h
    simp only [cond_true] at h
    split at h
    · rename_i u hu
      cases hpv : pv u
      · rw [hpv] at h; exact absurd h (by simp)
      rw [hpv] at h
      simp only [cond_true, Option.some.injEq, Eff.val.injEq] at h
      obtain ⟨rfl, rfl⟩ := h
      have hcg : execOp ev' o = execOp ev o := execOp_congr o (fun cs b => hns cs b) fun x hx => (he x).plain (List.all_eq_true.1 hp x (by simpa using hx))
      exact Out.read hr (by rw [hcg]; exact pureIn_ok _ _ hu) (.cl (plain_closed hpv))
    · exact absurd h (by simp)

theorem int_out {op : BinOp} {t t2 : TypeId} {x y : Operand} {a b : Int} (ho : o.op = .binOp op t x y t2) (hx : ev' x = .int .i64 a) (hy : ev' y = .int .i64 b) (h : aint op a b = some v) (hr : HR B ρ H w) :
    Out P B ρ w o ev' v H := by
  have key : (execOp ev' o).run P w = .ok (.value v) w ∧ V2 ρ v v := by
    unfold execOp
    rw [ho]
    simp only [hx, hy]
    have hle : ∀ c d : Int, (!decide (d < c)) = decide (c ≤ d) := fun c d => by apply bool_eq; simp
    cases op <;> simp only [aint, Option.some.injEq] at h
    case add => subst h; exact ⟨by simp [eqGuard, binOp, Op.intArith, wrapI_eq], .cl rfl⟩
    case sub => subst h; exact ⟨by simp [eqGuard, binOp, Op.intArith, wrapI_eq], .cl rfl⟩
    case eql => subst h; exact ⟨by simp [eqGuard, binOp, Op.intCmp, eqI_eq], .cl rfl⟩
    case neq => subst h; exact ⟨by simp [eqGuard, binOp, Op.intCmp, eqI_eq, bne], .cl rfl⟩
    case lss => subst h; exact ⟨by simp [eqGuard, binOp, Op.intCmp, ltI_eq], .cl rfl⟩
    case leq => subst h; exact ⟨by simp only [ltI_eq, hle]; simp [eqGuard, binOp, Op.intCmp], .cl rfl⟩
    case gtr => subst h; exact ⟨by simp [eqGuard, binOp, Op.intCmp, ltI_eq], .cl rfl⟩
    case geq => subst h; exact ⟨by simp only [ltI_eq, hle]; simp [eqGuard, binOp, Op.intCmp], .cl rfl⟩
    all_goals exact absurd h (by simp)
  exact Out.read hr key.1 key.2

theorem sym_out {op : BinOp} {t t2 : TypeId} {x y : Operand} {j k : Nat} (ho : o.op = .binOp op t x y t2) (hx : V2 ρ (.complex .f32 j 0) (ev' x)) (hy : V2 ρ (.complex .f32 k 0) (ev' y)) (h : asym op j k = some v) (hr : HR B ρ H w) :
    Out P B ρ w o ev' v H := by
  unfold asym at h
  cases hc : (Nat.beq j k && Nat.blt 0 j)
  · rw [hc] at h; exact absurd h (by simp)
  rw [hc] at h
  simp only [cond_true] at h
  simp only [Bool.and_eq_true] at hc
  have hjk := beq_iff.1 hc.1
  have hj0 := blt_iff.1 hc.2
  subst hjk
  obtain ⟨m, rfl⟩ : ∃ m, j = m + 1 := ⟨j - 1, by omega⟩
  obtain ⟨e, he, hx'⟩ := hx.sym_inv
  obtain ⟨e2, he2, hy'⟩ := hy.sym_inv
  rw [he] at he2
  obtain rfl := Option.some.inj he2
  have key : (execOp ev' o).run P w = .ok (.value v) w ∧ V2 ρ v v := by
    unfold execOp
    rw [ho]
    simp only [hx', hy']
    split at h
    · simp only [Option.some.injEq] at h; subst h; exact ⟨by simp [eqGuard, binOp, Op.intCmp], .cl rfl⟩
    · simp only [Option.some.injEq] at h; subst h; exact ⟨by simp [eqGuard, binOp, Op.intCmp], .cl rfl⟩
    · exact absurd h (by simp)
  exact Out.read hr key.1 key.2

theorem sameB {o1 : Option Operand} (he : ∀ x, V2 ρ (ev x) (ev' x)) : SameB ρ (o1.map ev) (o1.map ev') := by
  cases o1 with
  | none => exact .inl ⟨rfl, rfl⟩
  | some x => exact .inr ⟨_, _, rfl, rfl, he x⟩

theorem some_map {α β : Type} {x : Option α} {f : α → β} {b : β} (h : x.map f = some b) : ∃ a, x = some a ∧ f a = b := by
  cases x with
  | none => exact absurd h (by simp)
  | some a => exact ⟨a, rfl, by simpa using h⟩

theorem tup_inv {vs : Array Value} {v' : Value} (h : V2 ρ (.tuple vs) v') : ∃ vs' : Array Value, v' = .tuple vs' ∧ All2 (V1 ρ) vs.toList vs'.toList := by
  cases h with
  | sc h1 => cases h1 with
    | sc h0 => cases h0 with
      | cl hc => simp [closed] at hc
  | tup h1 => exact ⟨_, rfl, h1⟩

theorem ptr_inv' {a : Addr} {v' : Value} (h : V2 ρ (.pointer (some a)) v') : ∃ a', v' = .pointer (some a') := by
  cases h with
  | sc h1 => cases h1 with
    | sc h0 => cases h0 with
      | cl hc => simp [closed] at hc
      | ptr hc => exact ⟨_, rfl⟩

theorem Out.make {v' : Value} {w' : World} {ρ' : Env} (h : (execOp ev' o).run P w = .ok (.value v') w') (hl : Env.le ρ ρ') (hv : V2 ρ' v v') (hr : HR B ρ' H' w') (hb : Below B w w') : Out P B ρ w o ev' v H' :=
  ⟨_, v', w', ρ', h, .inl rfl, hl, hv, hr, hb⟩

theorem aeff_val {id : Nat} (h : aeff P id o ev H = some (.val v H')) (he : ∀ x, V2 ρ (ev x) (ev' x)) (hr : HR B ρ H w) : Out P B ρ w o ev' v H' := by
  unfold aeff at h
  split at h
  · rename_i x ho
    simp only [Option.some.injEq, Eff.val.injEq] at h
    obtain ⟨rfl, rfl⟩ := h
    exact Out.read hr (v' := ev' x) (by simp [execOp, ho]) (he x)
  · rename_i x ho
    simp only [Option.some.injEq, Eff.val.injEq] at h
    obtain ⟨rfl, rfl⟩ := h
    exact Out.read hr (v' := ev' x) (by simp [execOp, ho]) (he x)
  · rename_i c a b ho
    split at h
    · rename_i t ht
      simp only [Option.some.injEq, Eff.val.injEq] at h
      obtain ⟨rfl, rfl⟩ := h
      have hc : ev' c = .bool t := by have := he c; rw [ht] at this; exact this.bool_inv
      refine Out.read hr (v' := if t then ev' a else ev' b) (by simp [execOp, ho, hc, asBool]) ?_
      cases t
      · exact he b
      · exact he a
    · exact absurd h (by simp)
  · rename_i t ix ho
    split at h
    · rename_i vs ht
      obtain ⟨u, hu, h2⟩ := some_map h
      simp only [Eff.val.injEq] at h2
      obtain ⟨rfl, rfl⟩ := h2
      have hx := he t
      rw [ht] at hx
      obtain ⟨vs', hv', h1⟩ := tup_inv hx
      obtain ⟨u', g1, g2⟩ := h1.get ix _ (by simpa using hu)
      have g1' : vs'[ix]? = some u' := by simpa using g1
      exact Out.read hr (v' := u') (by simp [execOp, ho, hv', Instr.extract, g1']) (.sc g2)
    · exact absurd h (by simp)
  · rename_i x ho
    split at h
    · rename_i a hx
      simp only [Option.some.injEq, Eff.val.injEq] at h
      obtain ⟨rfl, rfl⟩ := h
      have hx2 := he x
      rw [hx] at hx2
      obtain ⟨a', ha'⟩ := ptr_inv' hx2
      exact Out.read hr (v' := ev' x) (by simp [execOp, ho, ha']) (by rw [← hx]; exact he x)
    · exact absurd h (by simp)
  · rename_i T ho
    split at h
    · rename_i i hi
      split at h
      · rename_i z hz
        cases hc : z.cells.toList.all closed
        · rw [hc] at h; exact absurd h (by simp)
        rw [hc] at h
        simp only [cond_true] at h
        obtain ⟨H1, ha, h2⟩ := some_map h
        simp only [Eff.val.injEq] at h2
        obtain ⟨rfl, rfl⟩ := h2
        obtain ⟨v', w', ρ', g1, g2, g3, g4, g5⟩ := alloc_ok (P := P) hi hz hc ha hr
        exact Out.make (by simp [execOp, ho, g1]) g2 g3 g4 g5
      · exact absurd h (by simp)
    · exact absurd h (by simp)
  · rename_i T x ho
    cases hk : okV (ev x)
    · rw [hk] at h; exact absurd h (by simp)
    rw [hk] at h
    simp only [cond_true] at h
    obtain ⟨H1, ha, h2⟩ := some_map h
    simp only [Eff.val.injEq] at h2
    obtain ⟨rfl, rfl⟩ := h2
    obtain ⟨v', w', ρ', g1, g2, g3, g4, g5⟩ := box_ok (P := P) (T := T) hk ha (he x) hr
    exact Out.make (by simp [execOp, ho, g1]) g2 g3 g4 g5
  · rename_i t parts ho
    obtain ⟨u, hu, h2⟩ := some_map h
    simp only [Eff.val.injEq] at h2
    obtain ⟨rfl, rfl⟩ := h2
    obtain ⟨v', g1, g2⟩ := build_ok (P := P) (w := w) (ev := ev) (ev' := ev') hu (fun p _ => he p.2)
    exact Out.read hr (v' := v') (by simp [execOp, ho, g1]) g2
  · rename_i t len parts ho
    obtain ⟨v', w', ρ', g1, g2, g3, g4, g5⟩ := buildSlice_ok (P := P) (ev := ev) (ev' := ev') h (fun p _ => he p.2) hr
    exact Out.make (by simp [execOp, ho, g1]) g2 g3 g4 g5
  · rename_i t a ho
    obtain ⟨u, hu, h2⟩ := some_map h
    simp only [Eff.val.injEq] at h2
    obtain ⟨rfl, rfl⟩ := h2
    obtain ⟨v', g1, g2⟩ := load_ok (P := P) hu (he a) hr
    exact Out.read hr (v' := v') (by simp [execOp, ho, g1]) (.sc g2)
  · rename_i t a x ho
    obtain ⟨u, hu, h2⟩ := some_map h
    simp only [Eff.val.injEq] at h2
    obtain ⟨rfl, rfl⟩ := h2
    obtain ⟨w', g1, g2, g3⟩ := store_ok (P := P) hu (he a) (he x) hr
    exact ⟨.skip, undef, w', ρ, by simp [execOp, ho, g1], .inr ⟨rfl, rfl⟩, Env.le_refl _, .tup .nil, g2, g3⟩
  · rename_i s x f ho
    obtain ⟨u, hu, h2⟩ := some_map h
    simp only [Eff.val.injEq] at h2
    obtain ⟨rfl, rfl⟩ := h2
    obtain ⟨v', g1, g2⟩ := field_ok (P := P) (w := w) hu (he x)
    exact Out.read hr (v' := v') (by simp [execOp, ho, g1]) g2
  · rename_i t x ix ho
    obtain ⟨u, hu, h2⟩ := some_map h
    simp only [Eff.val.injEq] at h2
    obtain ⟨rfl, rfl⟩ := h2
    obtain ⟨v', g1, g2⟩ := index_ok (P := P) (w := w) hu (he x) (he ix)
    exact Out.read hr (v' := v') (by simp [execOp, ho, g1]) g2
  · rename_i t x lo hi ho
    split at h
    · obtain ⟨u, hu, h2⟩ := some_map h
      simp only [Eff.val.injEq] at h2
      obtain ⟨rfl, rfl⟩ := h2
      obtain ⟨v', g1, g2⟩ := slice_ok (P := P) hu (he x) (sameB he) (sameB he) hr
      exact Out.read hr (v' := v') (by simp [execOp, ho, g1]) g2
    · exact pure_out h he hr
  · rename_i op t x y t2 ho
    split at h
    · rename_i a b hx hy
      have hx' : ev' x = .int .i64 a := by have := he x; rw [hx] at this; exact this.plain rfl
      have hy' : ev' y = .int .i64 b := by have := he y; rw [hy] at this; exact this.plain rfl
      split at h
      · rename_i u hu
        simp only [Option.some.injEq, Eff.val.injEq] at h
        obtain ⟨rfl, rfl⟩ := h
        exact int_out ho hx' hy' hu hr
      · exact pure_out h he hr
    · rename_i j k hx hy
      obtain ⟨u, hu, h2⟩ := some_map h
      simp only [Eff.val.injEq] at h2
      obtain ⟨rfl, rfl⟩ := h2
      have hx2 := he x
      have hy2 := he y
      rw [hx] at hx2
      rw [hy] at hy2
      exact sym_out ho hx2 hy2 hu hr
    · exact pure_out h he hr
  · rename_i src dst x ho
    split at h
    · obtain ⟨u, hu, h2⟩ := some_map h
      simp only [Eff.val.injEq] at h2
      obtain ⟨rfl, rfl⟩ := h2
      obtain ⟨v', g1, g2⟩ := conv_ok (P := P) hu (he x) hr
      exact Out.read hr (v' := v') (by simp [execOp, ho, g1]) g2
    · exact pure_out h he hr
  · rename_i t l c ho
    obtain ⟨v', w', ρ', g1, g2, g3, g4, g5⟩ := makeSlice_ok (P := P) h (he l) (he c) hr
    exact Out.make (by simp [execOp, ho, g1]) g2 g3 g4 g5
  · rename_i f args ts ho
    split at h
    · rename_i fn hf
      cases hb : (fn.body.isSome && (fn.name != "runtime.NumGoroutine"))
      · rw [hb] at h; exact absurd h (by simp)
      · rw [hb] at h; exact absurd h (by simp)
    · exact absurd h (by simp)
  · rename_i x t ho
    split at h
    · rename_i a n c hx
      cases hs : isSlice P t
      · rw [hs] at h; exact absurd h (by simp)
      rw [hs] at h
      simp only [cond_true, Option.some.injEq, Eff.val.injEq] at h
      obtain ⟨rfl, rfl⟩ := h
      have hx2 := he x
      rw [hx] at hx2
      obtain ⟨a', cap, hx'⟩ := hx2.slice_inv
      unfold isSlice at hs
      split at hs
      · rename_i e ht
        exact Out.read hr (v' := goInt n) (by simp [execOp, ho, resolve, invoke, builtin, Builtin.len_, run_underlying ht, hx']) (.cl rfl)
      · exact absurd hs (by simp)
    · rename_i k hx
      cases hs : isSlice P t
      · rw [hs] at h; exact absurd h (by simp)
      rw [hs] at h
      simp only [cond_true, Option.some.injEq, Eff.val.injEq] at h
      obtain ⟨rfl, rfl⟩ := h
      have hx2 := he x
      rw [hx] at hx2
      obtain ⟨e, len, a', cap, h1, h2, hx'⟩ := hx2.ss_inv
      unfold isSlice at hs
      split at hs
      · rename_i et ht
        refine Out.read hr (v' := goInt len) (by simp [execOp, ho, resolve, invoke, builtin, Builtin.len_, run_underlying ht, hx']) ?_
        have := V2.sym h1
        rw [h2] at this
        exact this
      · exact absurd hs (by simp)
    · exact pure_out h he hr
  · rename_i x t ho
    split at h
    · rename_i hx
      cases hs : isSlice P t
      · rw [hs] at h; exact absurd h (by simp)
      rw [hs] at h
      simp only [cond_true, Option.some.injEq, Eff.val.injEq] at h
      obtain ⟨rfl, rfl⟩ := h
      have hx2 := he x
      rw [hx] at hx2
      have hx' := hx2.nil_inv
      unfold isSlice at hs
      split at hs
      · rename_i e ht
        exact Out.read hr (v' := goInt (0 : Nat)) (by simp [execOp, ho, resolve, invoke, builtin, Builtin.cap_, run_underlying ht, hx']) (.cl rfl)
      · exact absurd hs (by simp)
    · exact absurd h (by simp)
  · rename_i s x sT xT ho
    obtain ⟨v', w', ρ', g1, g2, g3, g4, g5⟩ := append_ok (P := P) (ty := o.type) h (he s) (he x) hr
    exact Out.make (by simp [execOp, ho, resolve, invoke, builtin, g1]) g2 g3 g4 g5
  · rename_i d x dT sT ho
    obtain ⟨v', w', g1, g2, g3, g4⟩ := copy_ok (P := P) (sT := sT) (ty := o.type) h (he d) (he x) hr
    exact Out.make (by simp [execOp, ho, resolve, invoke, builtin, g1]) (Env.le_refl _) g2 g3 g4
  · exact pure_out h he hr

theorem no_enter {x : Option AH} {v : Value} {f : Nat} {args : Array Value} (h : x.map (Eff.val v) = some (.enter f args)) : False := by
  obtain ⟨_, _, h2⟩ := some_map h
  exact nomatch h2

theorem no_enter' {x : Option Value} {f : Nat} {args : Array Value} (h : x.map (Eff.val · H) = some (.enter f args)) : False := by
  obtain ⟨_, _, h2⟩ := some_map h
  exact nomatch h2

theorem apure_no {f : Nat} {args : Array Value} (h : apure P o ev H = some (.enter f args)) : False := by
  unfold apure at h
  simp only [cond_eq_ite] at h
  repeat' split at h
  all_goals first | exact nomatch h | exact absurd h (by simp)

theorem abuildSlice_no {id : Nat} {t : TypeId} {len : Nat} {parts : Array (Nat × Value)} {f : Nat} {args : Array Value} (h : abuildSlice P id t len parts H = some (.enter f args)) : False := by
  unfold abuildSlice at h
  simp only [cond_eq_ite] at h
  repeat' split at h
  all_goals first | exact no_enter h | exact absurd h (by simp)

theorem amakeSlice_no {id : Nat} {t : TypeId} {l c : Value} {f : Nat} {args : Array Value} (h : amakeSlice P id t l c H = some (.enter f args)) : False := by
  unfold amakeSlice at h
  simp only [cond_eq_ite] at h
  repeat' split at h
  all_goals first | exact no_enter h | exact absurd h (by simp)

theorem aappend_no {id : Nat} {sT xT : TypeId} {s x : Value} {f : Nat} {args : Array Value} (h : aappend P id sT xT s x H = some (.enter f args)) : False := by
  unfold aappend at h
  simp only [cond_eq_ite] at h
  repeat' split at h
  all_goals first | exact no_enter h | exact absurd h (by simp)

theorem acopy_no {dT : TypeId} {d x : Value} {f : Nat} {args : Array Value} (h : acopy P dT d x H = some (.enter f args)) : False := by
  unfold acopy at h
  simp only [cond_eq_ite] at h
  repeat' split at h
  all_goals first | exact absurd h (by simp)

/-- A call of a Go function. -/
theorem aeff_enter {id f : Nat} {args : Array Value} (h : aeff P id o ev H = some (.enter f args)) (hfun : ∀ f, ev' (.func f) = .func (.func f) #[] #[]) (he : ∀ x, V2 ρ (ev x) (ev' x)) :
    ∃ args' : Array Value, (execOp ev' o).run P w = .ok (.enter f args') w ∧ All2 (V2 ρ) args.toList args'.toList := by
  unfold aeff at h
  split at h
  case h_18 f' as ts ho =>
    split at h
    · rename_i fn hf
      cases hb : (fn.body.isSome && (fn.name != "runtime.NumGoroutine"))
      · rw [hb] at h; exact absurd h (by simp)
      rw [hb] at h
      simp only [cond_true, Option.some.injEq, Eff.enter.injEq] at h
      obtain ⟨rfl, rfl⟩ := h
      simp only [Bool.and_eq_true, bne_iff_ne, ne_eq] at hb
      refine ⟨as.map ev', ?_, ?_⟩
      · have hbn : fn.body.isNone = false := by cases hfb : fn.body <;> simp_all
        simp [execOp, ho, resolve, hfun, Deferred.ofValue, invoke, callFunc, hf, hb.2]
        intro hx
        rw [hx] at hbn
        exact absurd hbn (by simp)
      · simp only [Array.toList_map]
        generalize as.toList = l
        induction l with
        | nil => exact .nil
        | cons x l ih => exact .cons (he x) ih
    · exact absurd h (by simp)
  all_goals (repeat' split at h)
  all_goals first
    | (cases h; done)
    | exact (no_enter h).elim
    | exact (no_enter' h).elim
    | exact (apure_no h).elim
    | exact (abuildSlice_no h).elim
    | exact (amakeSlice_no h).elim
    | exact (aappend_no h).elim
    | exact (acopy_no h).elim
    | (simp only [cond_eq_ite] at h; split at h <;> first | (cases h; done) | exact (no_enter h).elim)

end
end Go.Proofs.YtmikfnmbjpfgnaaDoor.Ax
