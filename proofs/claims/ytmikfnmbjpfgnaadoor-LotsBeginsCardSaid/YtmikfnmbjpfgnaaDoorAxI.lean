/- Operations that may change places, and the outcome of a region in any order. Conditions: none. -/
import Derived.Test.YtmikfnmbjpfgnaaDoorAxH
namespace Go.Proofs.YtmikfnmbjpfgnaaDoor.Ax
open Go Go.RowKit

variable {P : Program} {H : AH} {o : Oper} {ev ev' : Operand → Value}

theorem all_congr {α : Type} {f g : α → Bool} : ∀ {l : List α}, (∀ x ∈ l, f x = g x) → l.all f = l.all g
  | [], _ => rfl
  | a :: l, h => by simp only [List.all_cons]; rw [h a (by simp), all_congr (fun x hx => h x (by simp [hx]))]

theorem apure_congr (h : ∀ x ∈ o.op.operands, ev x = ev' x) : apure P o ev H = apure P o ev' H := by
  unfold apure
  split
  · rfl
  · rename_i hns
    rw [execOp_congr o (fun cs b => hns cs b) h, all_congr (f := fun x => pv (ev x)) (g := fun x => pv (ev' x)) (fun x hx => by rw [h x (by simpa using hx)])]

theorem map_congr_arr {α β : Type} {f g : α → β} {a : Array α} (h : ∀ x ∈ a, f x = g x) : a.map f = a.map g := Array.map_congr_left h

theorem aeff_congr {id : Nat} (h : ∀ x ∈ o.op.operands, ev x = ev' x) : aeff P id o ev H = aeff P id o ev' H := by
  have hp : apure P o ev H = apure P o ev' H := apure_congr h
  have pairs : ∀ ps : Array (Nat × Operand), (∀ x ∈ ps.map (·.2), ev x = ev' x) → (ps.map fun p => (p.1, ev p.2)) = (ps.map fun p => (p.1, ev' p.2)) := fun ps hq =>
    Array.map_congr_left fun p hm => by
      obtain ⟨i, x⟩ := p
      simp only [hq x (Array.mem_map.2 ⟨(i, x), hm, rfl⟩)]
  unfold aeff
  split
  · rename_i x ho; rw [ho] at h; simp only [h x (by simp [Op.operands])]
  · rename_i x ho; rw [ho] at h; simp only [h x (by simp [Op.operands])]
  · rename_i c a b ho; rw [ho] at h; simp only [h c (by simp [Op.operands]), h a (by simp [Op.operands]), h b (by simp [Op.operands])]
  · rename_i t ix ho; rw [ho] at h; simp only [h t (by simp [Op.operands])]
  · rename_i x ho; rw [ho] at h; simp only [h x (by simp [Op.operands])]
  · rfl
  · rename_i T x ho; rw [ho] at h; simp only [h x (by simp [Op.operands])]
  · rename_i t ps ho; rw [ho] at h; simp only [Op.operands] at h; rw [pairs ps (fun x hx => h x (by simpa using hx))]
  · rename_i t n ps ho; rw [ho] at h; simp only [Op.operands] at h; rw [pairs ps (fun x hx => h x (by simpa using hx))]
  · rename_i t a ho; rw [ho] at h; simp only [h a (by simp [Op.operands])]
  · rename_i t a x ho; rw [ho] at h; simp only [h a (by simp [Op.operands]), h x (by simp [Op.operands])]
  · rename_i s x f ho; rw [ho] at h; simp only [h x (by simp [Op.operands])]
  · rename_i t x ix ho; rw [ho] at h; simp only [h x (by simp [Op.operands]), h ix (by simp [Op.operands])]
  · rename_i t x lo hi ho
    rw [ho] at h
    have e1 := h x (by simp [Op.operands])
    have e2 : lo.map ev = lo.map ev' := by cases lo <;> simp_all [Op.operands]
    have e3 : hi.map ev = hi.map ev' := by cases hi <;> simp_all [Op.operands]
    simp only [e1, e2, e3, hp]
  · rename_i op t x y t2 ho; rw [ho] at h; simp only [h x (by simp [Op.operands]), h y (by simp [Op.operands]), hp]
  · rename_i src dst x ho; rw [ho] at h; simp only [h x (by simp [Op.operands]), hp]
  · rename_i t l c ho; rw [ho] at h; simp only [h l (by simp [Op.operands]), h c (by simp [Op.operands])]
  · rename_i f args ts ho
    rw [ho] at h
    rw [map_congr_arr (fun x hx => h x (by simp [Op.operands, Call.operands, hx]))]
  · rename_i x t ho; rw [ho] at h; simp only [h x (by simp [Op.operands, Call.operands]), hp]
  · rename_i x t ho; rw [ho] at h; simp only [h x (by simp [Op.operands, Call.operands])]
  · rename_i s x sT xT ho; rw [ho] at h; simp only [h s (by simp [Op.operands, Call.operands]), h x (by simp [Op.operands, Call.operands])]
  · rename_i d x dT sT ho; rw [ho] at h; simp only [h d (by simp [Op.operands, Call.operands]), h x (by simp [Op.operands, Call.operands])]
  · exact hp

theorem apure_any {e : Eff} (h : apure P o ev H = some e) : ∃ v, e = .val v H ∧ ∀ H2, apure P o ev H2 = some (.val v H2) := by
  unfold apure at h
  simp only [cond_eq_ite] at h
  split at h
  · exact absurd h (by simp)
  · rename_i hns
    split at h
    · rename_i h1
      split at h
      · rename_i v hv
        split at h
        · rename_i h2
          simp only [Option.some.injEq] at h
          subst h
          refine ⟨v, rfl, fun H2 => ?_⟩
          unfold apure
          split
          · rename_i cs b ho; exact absurd ho (hns cs b)
          · simp only [h1, hv, h2, cond_true]
        · exact absurd h (by simp)
      · exact absurd h (by simp)
    · exact absurd h (by simp)

theorem map_any {x : Option Value} {e : Eff} (h : x.map (Eff.val · H) = some e) : ∃ v, e = .val v H ∧ ∀ H2 : AH, x.map (Eff.val · H2) = some (.val v H2) := by
  obtain ⟨v, rfl, rfl⟩ := some_map h
  exact ⟨v, rfl, fun _ => rfl⟩

theorem pk_ok {id : Nat} {e : Eff} (hk : pkind o.op = true) (h : aeff P id o ev H = some e) : ∃ v, e = .val v H ∧ ∀ id2 H2, aeff P id2 o ev H2 = some (.val v H2) := by
  unfold pkind at hk
  split at hk
  all_goals try (exact absurd hk (by decide))
  · rename_i x ho; simp only [aeff, ho, Option.some.injEq] at h ⊢; subst h; exact ⟨_, rfl, fun _ _ => rfl⟩
  · rename_i x ho; simp only [aeff, ho, Option.some.injEq] at h ⊢; subst h; exact ⟨_, rfl, fun _ _ => rfl⟩
  · rename_i c a b ho
    simp only [aeff, ho] at h ⊢
    split at h
    · simp only [Option.some.injEq] at h; subst h; exact ⟨_, rfl, fun _ _ => rfl⟩
    · exact absurd h (by simp)
  · rename_i t ix ho
    simp only [aeff, ho] at h ⊢
    split at h
    · obtain ⟨v, h1, h2⟩ := map_any h
      exact ⟨v, h1, fun _ => h2⟩
    · exact absurd h (by simp)
  · rename_i x ho
    simp only [aeff, ho] at h ⊢
    split at h
    · simp only [Option.some.injEq] at h; subst h; exact ⟨_, rfl, fun _ _ => rfl⟩
    · exact absurd h (by simp)
  · rename_i t ps ho; simp only [aeff, ho] at h ⊢; obtain ⟨v, h1, h2⟩ := map_any h; exact ⟨v, h1, fun _ => h2⟩
  · rename_i s x f ho; simp only [aeff, ho] at h ⊢; obtain ⟨v, h1, h2⟩ := map_any h; exact ⟨v, h1, fun _ => h2⟩
  · rename_i t x ix ho; simp only [aeff, ho] at h ⊢; obtain ⟨v, h1, h2⟩ := map_any h; exact ⟨v, h1, fun _ => h2⟩
  · rename_i op t x y t2 ho
    simp only [aeff, ho] at h ⊢
    split at h
    · split at h
      · simp only [Option.some.injEq] at h; subst h; exact ⟨_, rfl, fun _ _ => rfl⟩
      · obtain ⟨v, h1, h2⟩ := apure_any h; exact ⟨v, h1, fun _ => h2⟩
    · obtain ⟨v, h1, h2⟩ := map_any h; exact ⟨v, h1, fun _ => h2⟩
    · obtain ⟨v, h1, h2⟩ := apure_any h; exact ⟨v, h1, fun _ => h2⟩
  · rename_i op x2 x ho; simp only [aeff, ho] at h ⊢; obtain ⟨v, h1, h2⟩ := apure_any h; exact ⟨v, h1, fun _ => h2⟩
  · rename_i t x ix ho; simp only [aeff, ho] at h ⊢; obtain ⟨v, h1, h2⟩ := apure_any h; exact ⟨v, h1, fun _ => h2⟩
  · rename_i x t ho
    simp only [aeff, ho] at h ⊢
    split at h
    · simp only [cond_eq_ite] at h ⊢
      split at h
      · rename_i hs; simp only [Option.some.injEq] at h; subst h; exact ⟨_, rfl, fun _ _ => by rw [if_pos hs]⟩
      · exact absurd h (by simp)
    · simp only [cond_eq_ite] at h ⊢
      split at h
      · rename_i hs; simp only [Option.some.injEq] at h; subst h; exact ⟨_, rfl, fun _ _ => by rw [if_pos hs]⟩
      · exact absurd h (by simp)
    · obtain ⟨v, h1, h2⟩ := apure_any h; exact ⟨v, h1, fun _ => h2⟩
  · rename_i x t ho
    simp only [aeff, ho] at h ⊢
    split at h
    · simp only [cond_eq_ite] at h ⊢
      split at h
      · rename_i hs; simp only [Option.some.injEq] at h; subst h; exact ⟨_, rfl, fun _ _ => by rw [if_pos hs]⟩
      · exact absurd h (by simp)
    · exact absurd h (by simp)

/-- What was there is there. -/
def Ext (H H2 : AH) : Prop := ∀ k z cs, H.at k = .live z cs → H2.at k = .live z cs

theorem load_ext {t : TypeId} {a v : Value} {H2 : AH} (h : aload P t a H = some v) (hx : Ext H H2) : aload P t a H2 = some v := by
  unfold aload at h ⊢
  split at h
  · rename_i j off
    split at h
    · rename_i z cs hj
      simp only [hx _ _ _ hj]
      exact h
    · exact absurd h (by simp)
  · exact absurd h (by simp)

theorem slice_ext {t : TypeId} {x v : Value} {lo hi : Option Value} {H2 : AH} (h : aslice P t x lo hi H = some v) (hx : Ext H H2) : aslice P t x lo hi H2 = some v := by
  unfold aslice at h ⊢
  split at h
  · exact h
  · rename_i elem j off len c ht
    split at h
    · rename_i i l hh h1 h2 h3
      simp only [cond_eq_ite] at h ⊢
      split at h
      · rename_i hc
        rw [if_pos hc]
        split at h
        · rename_i hl; rw [if_pos hl]; exact h
        · rename_i hl
          rw [if_neg hl]
          split at h
          · rename_i z cs hj
            simp only [hx _ _ _ hj]
            exact h
          · exact absurd h (by simp)
      · exact absurd h (by simp)
    · exact absurd h (by simp)
  · exact absurd h (by simp)

theorem ld_ok {id : Nat} {e : Eff} (hk : isLoad o.op = true) (h : aeff P id o ev H = some e) : ∃ v, e = .val v H ∧ ∀ id2 H2, Ext H H2 → aeff P id2 o ev H2 = some (.val v H2) := by
  unfold isLoad at hk
  split at hk
  · rename_i t a ho
    simp only [aeff, ho] at h ⊢
    obtain ⟨v, h1, h2⟩ := some_map h
    exact ⟨v, h2.symm, fun _ H2 hx => by rw [load_ext h1 hx]; rfl⟩
  · rename_i t x lo hi ho
    simp only [aeff, ho] at h ⊢
    split at h
    · obtain ⟨v, h1, h2⟩ := some_map h
      exact ⟨v, h2.symm, fun _ H2 hx => by rw [slice_ext h1 hx]; rfl⟩
    · obtain ⟨v, h1, h2⟩ := apure_any h; exact ⟨v, h1, fun _ H2 _ => h2 H2⟩
  · exact absurd hk (by decide)

theorem anew_ext {id z : Nat} {cs : List Value} {H' : AH} (h : anew id z cs H = some H') (hp : Tr.perf 11 H) : Tr.perf 11 H' ∧ Ext H H' := by
  obtain ⟨h1, h2, rfl⟩ := anew_inv h
  refine ⟨Tr.perf_put _ _ _ _ hp, fun k z cs hk => ?_⟩
  rw [AH.at_put hp h2]
  by_cases e : id = k
  · subst e; rw [h1] at hk; exact nomatch hk
  · rw [if_neg e]; exact hk

theorem mild_ok {id : Nat} {e : Eff} (hk : mild o.op = true) (hp : Tr.perf 11 H) (h : aeff P id o ev H = some e) : ∃ v H', e = .val v H' ∧ Tr.perf 11 H' ∧ Ext H H' := by
  unfold mild at hk
  simp only [Bool.or_eq_true] at hk
  rcases hk with hk | hk
  · obtain ⟨v, h1, _⟩ := pk_ok hk h
    exact ⟨v, H, h1, hp, fun _ _ _ h => h⟩
  · split at hk
    · rename_i t a ho
      obtain ⟨v, h1, _⟩ := ld_ok (by rw [ho]; rfl) h
      exact ⟨v, H, h1, hp, fun _ _ _ h => h⟩
    · rename_i T ho
      simp only [aeff, ho] at h
      split at h
      · split at h
        · simp only [cond_eq_ite] at h
          split at h
          · obtain ⟨H', h1, h2⟩ := some_map h
            exact ⟨_, H', h2.symm, anew_ext h1 hp⟩
          · exact absurd h (by simp)
        · exact absurd h (by simp)
      · exact absurd h (by simp)
    · rename_i T x ho
      simp only [aeff, ho, cond_eq_ite] at h
      split at h
      · obtain ⟨H', h1, h2⟩ := some_map h
        exact ⟨_, H', h2.symm, anew_ext h1 hp⟩
      · exact absurd h (by simp)
    · rename_i t n ps ho
      simp only [aeff, ho, abuildSlice, cond_eq_ite] at h
      repeat' split at h
      all_goals first
        | (cases h; done)
        | (obtain ⟨H', h1, h2⟩ := some_map h; exact ⟨_, H', h2.symm, anew_ext h1 hp⟩)
    · rename_i t x lo hi ho
      obtain ⟨v, h1, _⟩ := ld_ok (by rw [ho]; rfl) h
      exact ⟨v, H, h1, hp, fun _ _ _ h => h⟩
    · exact absurd hk (by decide)

end Go.Proofs.YtmikfnmbjpfgnaaDoor.Ax
