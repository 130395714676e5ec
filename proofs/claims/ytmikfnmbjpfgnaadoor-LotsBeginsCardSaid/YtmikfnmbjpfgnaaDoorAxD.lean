/- The abstract operations stand for the model's, part 2: structs that are built, slices that are made, cut, copied. Conditions: none. -/
import Derived.Test.YtmikfnmbjpfgnaaDoorAxC
import Derived.Great.FillDense
namespace Go.Proofs.YtmikfnmbjpfgnaaDoor.Ax
open Go Go.RowKit

variable {P : Program} {B : Nat} {ρ : Env} {H : AH} {w : World}

/-! ### build -/

theorem run_mapM_list {α β : Type} (f : α → Sem β) (g : α → β) (w : World) : ∀ (l : List α), (∀ x ∈ l, (f x).run P w = .ok (g x) w) → (l.mapM f).run P w = .ok (l.map g) w
  | [], _ => by simp
  | a :: l, h => by
    simp [List.mapM_cons, h a (by simp), run_mapM_list f g w l (fun x hx => h x (by simp [hx]))]

theorem fold_ok {off : Nat} {vs vs' : List Value} (hv : All2 (V0 ρ) vs vs') : ∀ (k : Nat) (a a' : Array Value), All2 (V0 ρ) a.toList a'.toList →
    All2 (V0 ρ) ((vs.zipIdx k).foldl (fun cs (p : Value × Nat) => cs.setIfInBounds (off + p.2) p.1) a).toList ((vs'.zipIdx k).foldl (fun cs (p : Value × Nat) => cs.setIfInBounds (off + p.2) p.1) a').toList := by
  induction hv with
  | nil => intro k a a' h; exact h
  | cons hr _ ih =>
    intro k a a' h
    simp only [List.zipIdx_cons, List.foldl_cons]
    exact ih (k + 1) _ _ (by simp only [Array.toList_setIfInBounds]; exact h.set hr _)

theorem fold_size {off : Nat} (vs : List Value) : ∀ (k : Nat) (a : Array Value), ((vs.zipIdx k).foldl (fun cs (p : Value × Nat) => cs.setIfInBounds (off + p.2) p.1) a).size = a.size := by
  induction vs with
  | nil => intro k a; rfl
  | cons v vs ih => intro k a; simp [List.zipIdx_cons, ih]

theorem fill_ok {place : Nat → Option (Nat × Nat)} {l l' : List (Nat × Value)} (hl : All2 (fun p p' => p.1 = p'.1 ∧ V1 ρ p.2 p'.2) l l') :
    ∀ {a a' r : Array Value}, All2 (V0 ρ) a.toList a'.toList → Instr.fill place a l = some r → ∃ r', Instr.fill place a' l' = some r' ∧ All2 (V0 ρ) r.toList r'.toList := by
  induction hl with
  | nil => intro a a' r h hf; simp only [Instr.fill, Option.some.injEq] at hf; subst hf; exact ⟨a', rfl, h⟩
  | cons hp _ ih =>
    rename_i p p' l l' _
    obtain ⟨i, v⟩ := p
    obtain ⟨i', v'⟩ := p'
    obtain ⟨rfl, hv⟩ := hp
    intro a a' r h hf
    have hc := hv.cells
    have hcl := hc.length
    have hal := h.length
    simp only [Array.length_toList] at hcl hal
    unfold Instr.fill at hf ⊢
    dsimp only at hf ⊢
    split at hf
    · exact absurd hf (by simp)
    · rename_i off size hpl
      rw [← hcl, ← hal]
      split at hf
      · exact absurd hf (by simp)
      · rename_i hn
        rw [if_neg hn]
        refine ih ?_ hf
        rw [← Array.foldl_toList, ← Array.foldl_toList, Array.toList_zipIdx, Array.toList_zipIdx]
        exact fold_ok hc 0 a a' h

theorem parts_ok {ev ev' : Operand → Value} {l : List (Nat × Operand)} (he : ∀ p ∈ l, V2 ρ (ev p.2) (ev' p.2)) (ho : ((l.map fun p => (p.1, ev p.2)).all fun p => okV p.2) = true) :
    All2 (fun p p' => p.1 = p'.1 ∧ V1 ρ p.2 p'.2) (l.map fun p => (p.1, ev p.2)) (l.map fun p => (p.1, ev' p.2)) := by
  induction l with
  | nil => exact .nil
  | cons p l ih =>
    simp only [List.map_cons, List.all_cons, Bool.and_eq_true] at ho
    exact .cons ⟨rfl, (he p (by simp)).ok ho.1⟩ (ih (fun q hq => he q (by simp [hq])) ho.2)

theorem build_ok {t : TypeId} {parts : Array (Nat × Operand)} {ev ev' : Operand → Value} {v : Value} (h : abuild P t (parts.map fun p => (p.1, ev p.2)) = some v) (he : ∀ p ∈ parts.toList, V2 ρ (ev p.2) (ev' p.2)) :
    ∃ v', (Instr.build t (parts.map fun p => (p.1, ev' p.2))).run P w = .ok v' w ∧ V2 ρ v v' := by
  unfold abuild at h
  split at h
  · rename_i i fs hi hu
    split at h
    · rename_i z hz
      cases hc : (fs.toList.all (fun f => (P.info? f.type).isSome) && z.cells.toList.all closed && (parts.map fun p => (p.1, ev p.2)).toList.all fun p => okV p.2)
      · rw [hc] at h; exact absurd h (by simp)
      · rw [hc] at h
        simp only [cond_true] at h
        simp only [Bool.and_eq_true, Array.toList_map] at hc
        obtain ⟨⟨h1, h2⟩, h3⟩ := hc
        split at h
        · rename_i cells hf
          simp only [Option.some.injEq] at h
          subst h
          rw [Array.toList_map] at hf
          obtain ⟨r', g1, g2⟩ := fill_ok (parts_ok he h3) (all_closed (ρ := ρ) h2) hf
          refine ⟨.agg r', ?_, .sc (.agg g2)⟩
          have hm : (fs.mapM fun f => (do pure (f.offset, ← sizeOf f.type) : Sem (Nat × Nat))).run P w = .ok (places P fs) w := by
            rw [Array.mapM_eq_mapM_toList, Sem.run_map, run_mapM_list _ (fun f : Field => (f.offset, P.cellsOf f.type)) w fs.toList (fun f hf => by
              have := (List.all_eq_true.1 h1) f hf
              obtain ⟨i', hi'⟩ := Option.isSome_iff_exists.1 this
              simp [run_size hi', Program.cellsOf, hi'])]
            simp only [Result.andThen_ok]
            congr 1
            apply Array.ext'
            simp [places]
          have g1' : Instr.fill (fun x => (places P fs)[x]?) z.cells (parts.map fun p => (p.1, ev' p.2)).toList = some r' := by rw [Array.toList_map]; exact g1
          simp only [Instr.build, Sem.run_bind, run_zero hi hz, run_underlying hu, Result.andThen_ok, hm, g1', Sem.run_pure]
        · exact absurd h (by simp)
    · exact absurd h (by simp)
  · exact absurd h (by simp)

/-! ### buildSlice -/

theorem aparts_ok {size : Nat} : ∀ {l l' : List (Nat × Value)} {k : Nat} {cs : List Value}, All2 (fun p p' => p.1 = p'.1 ∧ V2 ρ p.2 p'.2) l l' → aparts size k l = some cs →
    ∃ vs : List Value, l' = (vs.zipIdx k).map (fun x => (x.2, x.1)) ∧ (∀ v ∈ vs, v.cells.size = size) ∧ All2 (V0 ρ) cs (vs.flatMap fun v => v.cells.toList) ∧ vs.length = l.length
  | _, _, k, cs, .nil, h => by
    simp only [aparts, Option.some.injEq] at h
    subst h
    exact ⟨[], rfl, by simp, .nil, rfl⟩
  | _, _, k, cs, .cons (a := p) (b := p') (l := l) (m := l') hp hl, h => by
    obtain ⟨i, v⟩ := p
    obtain ⟨i', v'⟩ := p'
    obtain ⟨hii, hv⟩ := hp
    simp only at hii hv
    subst hii
    unfold aparts at h
    cases hc : (Nat.beq i k && okV v && Nat.beq v.cells.size size)
    · rw [hc] at h; exact absurd h (by simp)
    · rw [hc] at h
      simp only [cond_true] at h
      simp only [Bool.and_eq_true] at hc
      obtain ⟨⟨h1, h2⟩, h3⟩ := hc
      have hk := beq_iff.1 h1
      subst hk
      split at h
      · rename_i cs' hcs
        simp only [Option.some.injEq] at h
        subst h
        obtain ⟨vs, g1, g2, g3, g4⟩ := aparts_ok hl hcs
        have hvc := (hv.ok h2).cells
        have hvl := hvc.length
        simp only [Array.length_toList] at hvl
        have h3' := beq_iff.1 h3
        refine ⟨v' :: vs, by rw [g1]; rfl, ?_, ?_, by simp [g4]⟩
        · intro u hu
          rcases List.mem_cons.1 hu with rfl | hu
          · omega
          · exact g2 u hu
        · rw [List.flatMap_cons]; exact hvc.append g3
      · exact absurd h (by simp)

theorem buildSlice_ok {id : Nat} {t : TypeId} {len : Nat} {parts : Array (Nat × Operand)} {ev ev' : Operand → Value} {v : Value} {H' : AH}
    (h : abuildSlice P id t len (parts.map fun p => (p.1, ev p.2)) H = some (.val v H')) (he : ∀ p ∈ parts.toList, V2 ρ (ev p.2) (ev' p.2)) (hr : HR B ρ H w) :
    ∃ v' w' ρ', (Instr.buildSlice t len (parts.map fun p => (p.1, ev' p.2))).run P w = .ok v' w' ∧ Env.le ρ ρ' ∧ V2 ρ' v v' ∧ HR B ρ' H' w' ∧ Below B w w' := by
  unfold abuildSlice at h
  split at h
  · rename_i elem hu
    split at h
    · rename_i i hi
      split at h
      · rename_i z hz
        cases hc : (Nat.ble (len * i.size) 65536 && Nat.blt 0 i.size && Nat.beq (parts.map fun p => (p.1, ev p.2)).toList.length len)
        · rw [hc] at h; exact absurd h (by simp)
        · rw [hc] at h
          simp only [cond_true] at h
          simp only [Bool.and_eq_true] at hc
          obtain ⟨⟨h1, h2⟩, h3⟩ := hc
          have h1' := ble_iff.1 h1
          have h2' := blt_iff.1 h2
          have h3' := beq_iff.1 h3
          split at h
          · rename_i cells hf
            cases ha : anew id i.size cells H with
            | none => rw [ha] at h; exact absurd h (by simp)
            | some H1 =>
              rw [ha] at h
              simp only [Option.map_some, Option.some.injEq, Eff.val.injEq] at h
              obtain ⟨rfl, rfl⟩ := h
              rw [Array.toList_map] at hf h3'
              have hall : ∀ (l : List (Nat × Operand)), (∀ p ∈ l, V2 ρ (ev p.2) (ev' p.2)) → All2 (fun p p' => p.1 = p'.1 ∧ V2 ρ p.2 p'.2) (l.map fun p => (p.1, ev p.2)) (l.map fun p => (p.1, ev' p.2)) := by
                intro l
                induction l with
                | nil => intro _; exact .nil
                | cons p l ih => intro hp; exact .cons ⟨rfl, hp p (by simp)⟩ (ih fun q hq => hp q (by simp [hq]))
              obtain ⟨vs, g1, g2, g3, g4⟩ := aparts_ok (hall parts.toList he) hf
              obtain ⟨ρ', k1, k2, k3, k4⟩ := new_ok ha hr (vs.flatMap fun v => v.cells.toList).toArray elem (by simpa using g3)
              have hvl : vs.length = len := by rw [g4, ← h3']
              have hN : (vs.flatMap fun v => v.cells.toList).toArray.size = len * i.size := by
                rw [← hvl]
                clear g1 g3 g4 k1 k2 k3 k4 hvl
                induction vs with
                | nil => simp
                | cons u us ih =>
                  have := ih (fun x hx => g2 x (by simp [hx]))
                  have hu' := g2 u (by simp)
                  simp only [List.size_toArray] at this ⊢
                  rw [List.flatMap_cons, List.length_append, this]
                  simp only [Array.length_toList, List.length_cons, Nat.add_mul, Nat.one_mul]; omega
              refine ⟨.slice (some ⟨w.heap.size, 0, none⟩) len len, _, ρ', ?_, k1, ?_, k2, k4⟩
              · have hfill := Go.Great.fill_whole h2' vs ((Array.range (len * i.size)).map (z.cells[· % z.cells.size]!)) g2 (by simp [hvl])
                rw [← g1, ← Array.toList_map] at hfill
                simp only [Instr.buildSlice, Sem.run_bind, run_underlying hu, Result.andThen_ok, run_size hi]
                rw [if_neg (by simp; omega)]
                by_cases hl0 : len * i.size = 0
                · have hlen : len = 0 := by
                    rcases Nat.mul_eq_zero.1 hl0 with h | h
                    · exact h
                    · omega
                  subst hlen
                  have hvs : vs = [] := List.eq_nil_of_length_eq_zero hvl
                  subst hvs
                  simp only [List.zipIdx_nil, List.map_nil] at hfill g1
                  have hp0 : parts = #[] := by
                    cases parts with
                    | mk l => cases l with
                      | nil => rfl
                      | cons a l => simp at g1
                  subst hp0
                  have hr0 : Array.range 0 = #[] := Array.eq_empty_of_size_eq_zero (by simp)
                  simp [Instr.fill, run_newRow, hr0]
                · simp only [if_neg hl0, Sem.run_bind, run_zero hi hz, Result.andThen_ok, Sem.run_pure, hfill, run_newRow]
              · exact .of0 (.sl (e := ⟨w.heap.size, 0, i.size, _, 0⟩) k3 (Nat.le_refl _) (by simp [capOK]) (by simp [hN]))
          · exact absurd h (by simp)
      · exact absurd h (by simp)
    · exact absurd h (by simp)
  · exact absurd h (by simp)

/-! ### slices of slices -/

theorem bound_inv {o : Option Value} {d n : Nat} (h : bound o d = some n) : (o = none ∧ n = d) ∨ ∃ k i, o = some (.int k i) ∧ 0 ≤ i ∧ n = i.toNat := by
  unfold bound at h
  split at h
  · simp at h; exact .inl ⟨rfl, h.symm⟩
  · rename_i k i
    cases hd : decide (0 ≤ i)
    · rw [hd] at h; exact absurd h (by simp)
    · rw [hd] at h; simp at h; exact .inr ⟨k, i, rfl, of_decide_eq_true hd, h.symm⟩
  · exact absurd h (by simp)

/-- The bounds that are handed in are plain numbers. -/
def SameB (ρ : Env) (o o' : Option Value) : Prop := (o = none ∧ o' = none) ∨ ∃ v v', o = some v ∧ o' = some v' ∧ V2 ρ v v'

theorem bounds_ok {lo lo' hi hi' : Option Value} {len cap l h : Nat} (hlo : SameB ρ lo lo') (hhi : SameB ρ hi hi') (h1 : bound lo 0 = some l) (h2 : bound hi len = some h) (hl : l ≤ h) (hc : h ≤ cap) :
    (Instr.sliceBounds true len cap lo' hi' none).run P w = .ok (l, h, cap) w := by
  rcases bound_inv h2 with ⟨rfl, rfl⟩ | ⟨k, i, rfl, hi0, rfl⟩ <;> rcases bound_inv h1 with ⟨rfl, rfl⟩ | ⟨k2, i2, rfl, hi2, rfl⟩
  · rcases hhi with ⟨_, rfl⟩ | ⟨_, _, h, _⟩
    · rcases hlo with ⟨_, rfl⟩ | ⟨_, _, h, _⟩
      · rfl
      · exact absurd h (by simp)
    · exact absurd h (by simp)
  · rcases hhi with ⟨_, rfl⟩ | ⟨_, _, h, _⟩
    · rcases hlo with ⟨hx, _⟩ | ⟨v, v', hv, rfl, hvv⟩
      · exact absurd hx (by simp)
      · obtain rfl := Option.some.inj hv
        obtain rfl := hvv.plain rfl
        have g : i2 ≤ (h : Int) := by omega
        simp [Instr.sliceBounds, Instr.sliceBound, asIntOf, hi2, g]
    · exact absurd h (by simp)
  · rcases hhi with ⟨h, _⟩ | ⟨v, v', hv, rfl, hvv⟩
    · exact absurd h (by simp)
    · obtain rfl := Option.some.inj hv
      obtain rfl := hvv.plain rfl
      have g : i ≤ (cap : Int) := by omega
      rcases hlo with ⟨_, rfl⟩ | ⟨_, _, h, _⟩
      · simp [Instr.sliceBounds, Instr.sliceBound, asIntOf, hi0, g]
      · exact absurd h (by simp)
  · rcases hhi with ⟨h, _⟩ | ⟨v, v', hv, rfl, hvv⟩
    · exact absurd h (by simp)
    · obtain rfl := Option.some.inj hv
      obtain rfl := hvv.plain rfl
      have g : i ≤ (cap : Int) := by omega
      rcases hlo with ⟨h, _⟩ | ⟨u, u', hu, rfl, huu⟩
      · exact absurd h (by simp)
      · obtain rfl := Option.some.inj hu
        obtain rfl := huu.plain rfl
        have g2 : i2 ≤ i := by omega
        have g3 : max i 0 = i := by omega
        simp [Instr.sliceBounds, Instr.sliceBound, asIntOf, hi0, g, hi2, g2, g3]

theorem sliceAt_eq {t elem : TypeId} (ht : P.underlying t = some (.slice elem)) (x : Value) (lo hi mx : Option Value) (w : World) :
    (Instr.sliceAt t x lo hi mx).run P w = (Instr.slice t x lo hi mx).run P w := by
  simp [Instr.sliceAt, run_underlying ht]

theorem slice_run {t elem : TypeId} {i : TypeInfo} (ht : P.underlying t = some (.slice elem)) (hi : P.info? elem = some i) {a : Option Addr} {len cap l h : Nat} {lo' hi' : Option Value}
    (hb : (Instr.sliceBounds true len cap lo' hi' none).run P w = .ok (l, h, cap) w) :
    (Instr.sliceAt t (.slice a len cap) lo' hi' none).run P w = .ok (.slice (if cap = l then a else a.map (·.add (l * i.size))) (h - l) (cap - l)) w := by
  rw [sliceAt_eq ht]
  simp [Instr.slice, run_underlying ht, hb, run_size hi]

theorem slice_ok {t : TypeId} {x x' v : Value} {lo lo' hi hi' : Option Value} (h : aslice P t x lo hi H = some v) (hx : V2 ρ x x') (hlo : SameB ρ lo lo') (hhi : SameB ρ hi hi') (hr : HR B ρ H w) :
    ∃ v', (Instr.sliceAt t x' lo' hi' none).run P w = .ok v' w ∧ V2 ρ v v' := by
  unfold aslice at h
  split at h
  · rename_i elem ht
    obtain rfl := hx.nil_inv
    split at h
    · rename_i i hi h1 h2
      simp only [Option.some.injEq] at h
      subst h
      exact ⟨_, slice_run ht hi (bounds_ok hlo hhi h1 h2 (Nat.le_refl _) (Nat.le_refl _)), .cl rfl⟩
    · exact absurd h (by simp)
  · rename_i elem j off len c ht
    obtain ⟨e, cap, he, hlc, hcap, hN, rfl⟩ := hx.sl_inv
    split at h
    · rename_i i l hh hi h1 h2
      cases hb : (Nat.ble l hh && (Nat.ble hh len || Nat.ble hh (c / 2)))
      · rw [hb] at h; exact absurd h (by simp)
      · rw [hb] at h
        simp only [cond_true] at h
        simp only [Bool.and_eq_true, Bool.or_eq_true] at hb
        have hl := ble_iff.1 hb.1
        have hc2 := hcap.le
        have hhc : hh ≤ cap := by
          rcases hb.2 with h | h
          · have := ble_iff.1 h; omega
          · have := ble_iff.1 h; omega
        have hrun := slice_run (P := P) (w := w) (a := some ⟨e.blk, e.base + off, none⟩) ht hi (bounds_ok (P := P) (w := w) hlo hhi h1 h2 hl hhc)
        rw [hrun]
        refine ⟨_, rfl, ?_⟩
        cases hl0 : Nat.beq l 0
        · rw [hl0] at h
          simp only [cond_false] at h
          have hl0' : l ≠ 0 := fun e => by rw [e] at hl0; exact absurd hl0 (by decide)
          have hadd : ∀ n, (⟨e.blk, e.base + off, none⟩ : Addr).add n = ⟨e.blk, e.base + (off + n), none⟩ := fun n => by rw [add_mid, Nat.add_assoc]
          split at h
          · rename_i z cs hj
            obtain ⟨e', he', hz, _⟩ := hr.live j z cs hj
            rw [he] at he'; obtain rfl := Option.some.inj he'
            cases hzi : Nat.beq z i.size
            · rw [hzi] at h; exact absurd h (by simp)
            rw [hzi] at h
            simp only [cond_true] at h
            have hzi' := beq_iff.1 hzi
            have hez : e.z = i.size := by omega
            have hmul : l * i.size + (cap - l) * i.size = cap * i.size := by rw [← Nat.add_mul]; congr 1; omega
            rw [hez] at hN
            cases hev : Nat.beq (c % 2) 0
            · rw [hev] at h
              simp only [cond_false] at h
              have hodd : ¬ c % 2 = 0 := fun e => by rw [e] at hev; exact absurd hev (by decide)
              cases hlt : Nat.blt l (c / 2)
              · rw [hlt] at h
                simp only [cond_false] at h
                cases hlh : Nat.beq l hh
                · rw [hlh] at h; exact absurd h (by simp)
                · rw [hlh] at h
                  simp only [cond_true, Option.some.injEq] at h
                  subst h
                  have := beq_iff.1 hlh
                  subst this
                  rw [Nat.sub_self]
                  exact .of0 .slE
              · rw [hlt] at h
                simp only [cond_true, Option.some.injEq] at h
                subst h
                have hlt' := blt_iff.1 hlt
                rw [if_neg (by omega)]
                simp only [Option.map_some, hadd]
                refine .of0 (.sl he (by omega) ?_ (by rw [hez]; omega))
                unfold capOK
                rw [if_neg (by omega)]
                omega
            · rw [hev] at h
              simp only [cond_true] at h
              have heven := beq_iff.1 hev
              have hcc : cap = c / 2 := by unfold capOK at hcap; rw [if_pos heven] at hcap; exact hcap
              cases hcl : Nat.beq (c / 2) l
              · rw [hcl] at h
                simp only [cond_false, Option.some.injEq] at h
                subst h
                have hcl' : ¬ c / 2 = l := fun e => by rw [beq_iff.2 e] at hcl; exact absurd hcl (by decide)
                rw [if_neg (by omega)]
                simp only [Option.map_some, hadd]
                refine .of0 (.sl he (by omega) ?_ (by rw [hez]; omega))
                unfold capOK
                rw [if_pos (by omega)]
                omega
              · rw [hcl] at h
                simp only [cond_true, Option.some.injEq] at h
                subst h
                have hcl' := beq_iff.1 hcl
                rw [if_pos (by omega)]
                refine .of0 (.sl he (by omega) (by simp [capOK]; omega) ?_)
                have : cap - l = 0 := by omega
                rw [this]; omega
          · exact absurd h (by simp)
        · rw [hl0] at h
          simp only [cond_true, Option.some.injEq] at h
          subst h
          have := beq_iff.1 hl0
          subst this
          have e0 : (if cap = 0 then some (⟨e.blk, e.base + off, none⟩ : Addr) else (some (⟨e.blk, e.base + off, none⟩ : Addr)).map (·.add (0 * i.size))) = some ⟨e.blk, e.base + off, none⟩ := by
            split
            · rfl
            · simp [add_mid]
          rw [e0, Nat.sub_zero, Nat.sub_zero]
          exact .of0 (.sl he hhc hcap hN)
    · exact absurd h (by simp)
  · exact absurd h (by simp)

/-! ### make, copy, bytes to a string, len, cap -/

theorem wrap_small {n : Int} (h0 : 0 ≤ n) (h1 : n ≤ 65536) : IntKind.i64.wrap n = n := by
  simp [IntKind.wrap, IntKind.bits, IntKind.signed]; omega

theorem range_all2 {n : Nat} {f g : Nat → Value} (h : ∀ k, V0 ρ (f k) (g k)) : All2 (V0 ρ) ((Array.range n).map f).toList ((Array.range n).map g).toList := by
  refine All2.of_get (by simp) fun k c hk => ?_
  simp only [Array.toList_map, Array.toList_range, List.getElem?_map] at hk ⊢
  cases hr : (List.range n)[k]? with
  | none => rw [hr] at hk; simp at hk
  | some x => rw [hr] at hk; simp at hk; subst hk; exact ⟨g x, by simp, h x⟩

theorem getI_closed {zs : Array Value} (h : zs.toList.all closed = true) (h0 : 0 < zs.size) (k : Nat) : closed zs[k % zs.size]! = true := by
  have hlt : k % zs.size < zs.size := Nat.mod_lt _ h0
  rw [getElem!_pos zs _ hlt]
  exact List.all_eq_true.1 h _ (by simp)

theorem makeSlice_ok {id : Nat} {t : TypeId} {l l' c c' : Value} {v : Value} {H' : AH} (h : amakeSlice P id t l c H = some (.val v H')) (hl : V2 ρ l l') (hc : V2 ρ c c') (hr : HR B ρ H w) :
    ∃ v' w' ρ', (Instr.makeSlice t l' c').run P w = .ok v' w' ∧ Env.le ρ ρ' ∧ V2 ρ' v v' ∧ HR B ρ' H' w' ∧ Below B w w' := by
  unfold amakeSlice at h
  split at h
  · rename_i elem n m hu
    obtain rfl := hl.plain rfl
    obtain rfl := hc.plain rfl
    split at h
    · rename_i i hi
      split at h
      · rename_i z hz
        cases hb : (decide (n = m) && decide (0 ≤ n) && decide (n ≤ 65536) && Nat.ble i.bytes 65536 && Nat.blt 0 i.size && (z.cells.toList.all closed) && Nat.blt 0 z.cells.size)
        · rw [hb] at h; exact absurd h (by simp)
        · rw [hb] at h
          simp only [cond_true] at h
          simp only [Bool.and_eq_true, decide_eq_true_eq] at hb
          obtain ⟨⟨⟨⟨⟨⟨h1, h2⟩, h3⟩, h4⟩, h5⟩, h6⟩, h7⟩ := hb
          subst h1
          have h4' := ble_iff.1 h4
          have h5' := blt_iff.1 h5
          have h7' := blt_iff.1 h7
          cases ha : anew id i.size (zcells z.cells (n.toNat * i.size)) H with
          | none => rw [ha] at h; exact absurd h (by simp)
          | some H1 =>
            rw [ha] at h
            simp only [Option.map_some, Option.some.injEq, Eff.val.injEq] at h
            obtain ⟨rfl, rfl⟩ := h
            obtain ⟨ρ', k1, k2, k3, k4⟩ := new_ok ha hr ((Array.range (n.toNat * i.size)).map (z.cells[· % z.cells.size]!)) elem (range_all2 fun k => .cl (getI_closed h6 h7' k))
            refine ⟨.slice (some ⟨w.heap.size, 0, none⟩) n.toNat n.toNat, _, ρ', ?_, k1, ?_, k2, k4⟩
            · have hw := wrap_small (by omega : 0 ≤ n) h3
              have hbig : ¬ (281474976710656 < (i.bytes : Int) * n) := by
                have := Int.mul_le_mul (show (i.bytes : Int) ≤ 65536 by omega) h3 (by omega) (by omega)
                omega
              have hneg : ¬ n < 0 := by omega
              simp [Instr.makeSlice, run_underlying hu, asInt, asIntOf, run_info hi, hw, run_size hi, run_zero hi hz, hbig, hneg]
              by_cases hn0 : n.toNat * i.size = 0
              · have hr0 : Array.range 0 = #[] := Array.eq_empty_of_size_eq_zero (by simp)
                rw [if_pos hn0, hn0, hr0]
                simp only [Array.map_empty]
                rfl
              · rw [if_neg hn0]
                rfl
            · exact .of0 (.sl (e := ⟨w.heap.size, 0, i.size, _, 0⟩) k3 (Nat.le_refl _) (by simp [capOK]) (by simp))
      · exact absurd h (by simp)
    · exact absurd h (by simp)
  · exact absurd h (by simp)

/-- The cells of what is appended or copied. -/
theorem cells_ok {x x' : Value} {n size : Nat} {cs : List Value} (h : acells x (n * size) H = some cs) (hx : V2 ρ x x') (hr : HR B ρ H w) :
    ∃ cs', (∀ w' : World, w'.heap = w.heap → (Builtin.firstCells size n x').run P w' = .ok cs'.toArray w') ∧ All2 (V0 ρ) cs cs' ∧ cs.length = n * size := by
  unfold acells at h
  split at h
  · rename_i l c
    cases h0 : Nat.beq (n * size) 0
    · rw [h0] at h; exact absurd h (by simp)
    · rw [h0] at h
      simp only [cond_true, Option.some.injEq] at h
      subst h
      have h0' := beq_iff.1 h0
      refine ⟨[], fun w' _ => ?_, .nil, h0'.symm⟩
      obtain ⟨a', cap, rfl⟩ := hx.slice_inv
      cases a' with
      | none => rfl
      | some a => simp [Builtin.firstCells, h0', loadCells, loadCellsFrom]
  · rename_i j off l c
    obtain ⟨e, cap, he, _, _, _, rfl⟩ := hx.sl_inv
    cases h0 : Nat.beq (n * size) 0
    · rw [h0] at h
      simp only [cond_false] at h
      have h0' : n * size ≠ 0 := fun e => by rw [beq_iff.2 e] at h0; exact absurd h0 (by decide)
      split at h
      · rename_i z cs0 hj
        obtain ⟨e', he', _, arr, el, hb, hc⟩ := hr.live j z cs0 hj
        rw [he] at he'; obtain rfl := Option.some.inj he'
        cases hle : Nat.ble (off + n * size) cs0.length
        · rw [hle] at h; exact absurd h (by simp)
        · rw [hle] at h
          simp only [cond_true, Option.some.injEq] at h
          subst h
          have hle' := ble_iff.1 hle
          obtain ⟨h3, h4⟩ := Holds.seg (off := off) (n := n * size) hc hle' (by omega)
          refine ⟨_, fun w' hw => ?_, h3, by simp; omega⟩
          simp only [Builtin.firstCells]
          exact run_loadSeg (by rw [hw]; exact hb) h4
      · exact absurd h (by simp)
    · rw [h0] at h
      simp only [cond_true, Option.some.injEq] at h
      subst h
      have h0' := beq_iff.1 h0
      exact ⟨[], fun w' _ => by simp [Builtin.firstCells, h0', loadCells, loadCellsFrom], .nil, h0'.symm⟩
  · exact absurd h (by simp)

theorem alen_ok {x x' : Value} {n : Nat} (h : alen x = some n) (hx : V2 ρ x x') : ∃ a cap, x' = .slice a n cap := by
  unfold alen at h
  split at h
  · simp only [Option.some.injEq] at h
    subst h
    exact hx.slice_inv
  · exact absurd h (by simp)

theorem copy_ok {dT sT ty : TypeId} {d d' x x' : Value} {v : Value} {H' : AH} (h : acopy P dT d x H = some (.val v H')) (hd : V2 ρ d d') (hx : V2 ρ x x') (hr : HR B ρ H w) :
    ∃ v' w', (Builtin.copy_ #[dT, sT] ty #[d', x']).run P w = .ok v' w' ∧ V2 ρ v v' ∧ HR B ρ H' w' ∧ Below B w w' := by
  unfold acopy at h
  split at h
  · rename_i elem j off dLen c xn hu hxn
    obtain ⟨e, cap, he, _, _, _, rfl⟩ := hd.sl_inv
    obtain ⟨a, xcap, rfl⟩ := alen_ok hxn hx
    split at h
    · rename_i i z cs hi hj
      split at h
      · rename_i new hnew
        cases hle : Nat.ble (off + new.length) cs.length
        · rw [hle] at h; exact absurd h (by simp)
        · rw [hle] at h
          simp only [cond_true, Option.some.injEq, Eff.val.injEq] at h
          obtain ⟨rfl, rfl⟩ := h
          obtain ⟨cs', g1, g2, _⟩ := cells_ok (P := P) hnew hx hr
          obtain ⟨w', k1, k2, k3⟩ := HR.put (P := P) hr hj he g2 (ble_iff.1 hle)
          refine ⟨_, w', ?_, .cl rfl, k2, k3⟩
          simp only [Builtin.copy_]
          simp [run_underlying hu, Builtin.lenOf, run_size hi, g1 w rfl, k1]
      · exact absurd h (by simp)
    · exact absurd h (by simp)
  · exact absurd h (by simp)

theorem bytes_ok : ∀ {l l' : List Value} {ns : List Int}, All2 (V0 ρ) l l' → abytes l = some ns → l' = ns.map (Value.int .u8)
  | _, _, ns, .nil, h => by simp [abytes] at h; subst h; rfl
  | _, _, ns, .cons (a := a) (l := l) (m := m) hr hl, h => by
    unfold abytes at h
    split at h
    · rename_i heq; exact absurd heq (by simp)
    · rename_i n l2 heq
      injection heq with e1 e2
      subst e1 e2
      cases hb : abytes l with
      | none => rw [hb] at h; exact absurd h (by simp)
      | some ms =>
        rw [hb] at h
        simp only [Option.map_some, Option.some.injEq] at h
        subst h
        have := bytes_ok hl hb
        subst this
        have hv : V2 ρ (.int .u8 n) _ := .of0 hr
        obtain rfl := hv.plain rfl
        rfl
    · exact absurd h (by simp)

theorem conv_ok {src dst : TypeId} {x x' v : Value} (h : aconv P src dst x H = some v) (hx : V2 ρ x x') (hr : HR B ρ H w) : ∃ v', (convert src dst x').run P w = .ok v' w ∧ V2 ρ v v' := by
  unfold aconv at h
  split at h
  · rename_i e j off len c hs hd
    obtain ⟨en, cap, he, _, _, _, rfl⟩ := hx.sl_inv
    split at h
    · rename_i z cs hu8 hj
      obtain ⟨e', he', _, arr, el, hb, hc⟩ := hr.live j z cs hj
      rw [he] at he'; obtain rfl := Option.some.inj he'
      cases hle : Nat.ble (off + len) cs.length
      · rw [hle] at h; exact absurd h (by simp)
      · rw [hle] at h
        simp only [cond_true] at h
        have hle' := ble_iff.1 hle
        split at h
        · rename_i ns hns
          simp only [Option.some.injEq] at h
          subst h
          refine ⟨_, ?_, .cl rfl⟩
          rw [run_convert_bytes_string w src dst e _ len cap hs hu8 hd]
          refine run_bytesToString w _ len cap ns ?_
          by_cases hl0 : len = 0
          · subst hl0
            simp [abytes] at hns
            subst hns
            simp [loadCells, loadCellsFrom]
          · obtain ⟨h3, h4⟩ := Holds.seg (off := off) (n := len) hc hle' (by omega)
            rw [run_loadSeg hb h4, bytes_ok h3 hns]
        · exact absurd h (by simp)
    · exact absurd h (by simp)
  · exact absurd h (by simp)

end Go.Proofs.YtmikfnmbjpfgnaaDoor.Ax
