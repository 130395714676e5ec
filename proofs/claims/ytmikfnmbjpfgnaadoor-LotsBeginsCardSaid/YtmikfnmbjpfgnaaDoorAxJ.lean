/- Regions in whatever order; whole functions: what the abstract run tells holds of the model's. Conditions: none. -/
import Derived.Test.YtmikfnmbjpfgnaaDoorAxI
namespace Go.Proofs.YtmikfnmbjpfgnaaDoor.Ax
open Go Go.RowKit

variable {P : Program} {call : ACall} {ops : Array Oper}

theorem Tr.put_comm {α : Type} (v u : α) : ∀ d (t : Tr α) i j, Tr.perf d t → i < 2 ^ d → j < 2 ^ d → i ≠ j → (t.put v i).put u j = (t.put u j).put v i
  | 0, .leaf _, i, j, _, hi, hj, hij => by simp at hi hj; omega
  | 0, .node _ _, _, _, h, _, _, _ => h.elim
  | d + 1, .leaf _, _, _, h, _, _, _ => h.elim
  | d + 1, .node l r, i, j, h, hi, hj, hij => by
    have hi2 : i / 2 < 2 ^ d := by rw [Nat.pow_succ] at hi; omega
    have hj2 : j / 2 < 2 ^ d := by rw [Nat.pow_succ] at hj; omega
    by_cases hi0 : i % 2 = 0 <;> by_cases hj0 : j % 2 = 0
    · simp only [Tr.put_node, if_pos hi0, if_pos hj0]
      rw [Tr.put_comm v u d l _ _ h.1 hi2 hj2 (by omega)]
    · simp only [Tr.put_node, if_pos hi0, if_neg hj0]
    · simp only [Tr.put_node, if_neg hi0, if_pos hj0]
    · simp only [Tr.put_node, if_neg hi0, if_neg hj0]
      rw [Tr.put_comm v u d r _ _ h.2 hi2 hj2 (by omega)]

theorem good_put {s s' : St} {d : Option Tmp} {v : Value} (hg : Good s) (h : s.put d v = some s') : Good s' := by
  cases d with
  | none => simp only [St.put, Option.some.injEq] at h; subst h; exact hg
  | some d => exact (get_put hg h).2.2.1

theorem put_H {s s' : St} {d : Option Tmp} {v : Value} (h : s.put d v = some s') : s'.H = s.H ∧ s'.nx = s.nx ∧ s'.n = s.n := by
  cases d with
  | none => simp only [St.put, Option.some.injEq] at h; subst h; exact ⟨rfl, rfl, rfl⟩
  | some d =>
    unfold St.put at h
    simp only [cond_eq_ite] at h
    split at h
    · simp only [Option.some.injEq] at h; subst h; exact ⟨rfl, rfl, rfl⟩
    · exact absurd h (by simp)

theorem put_get {s s' : St} {d : Option Tmp} {v : Value} (hg : Good s) (h : s.put d v = some s') {t : Nat} (ht : d ≠ some t) : s'.get t = s.get t := by
  cases d with
  | none => simp only [St.put, Option.some.injEq] at h; subst h; rfl
  | some d =>
    rw [(get_put hg h).2.2.2 t, if_neg (fun e => ht (by rw [e]))]

theorem ev_congr {s s' : St} {x : Operand} (h : ∀ t, x = .tmp t → s.get t = s'.get t) : s.ev x = s'.ev x := by
  cases x with
  | tmp t => exact h t rfl
  | _ => rfl

theorem aval_congr {id : Nat} {o : Oper} {s s' : St} (h : ∀ d ∈ o.looksAt ops, s.get d = s'.get d) (hH : s.H = s'.H) (hn : s.nx = s'.nx) : aval P call id ops o s = aval P call id ops o s' := by
  have hw : awant ops s o = awant ops s' o := by
    unfold awant
    split
    · rfl
    · rename_i j want hg
      split
      · rfl
      · rename_i d hd
        rw [h d (by unfold Oper.looksAt; rw [hg]; simp only [hd]; simp)]
  have he : ∀ H, aeff P id o s.ev H = aeff P id o s'.ev H := fun H => aeff_congr fun x hx => ev_congr fun t ht => by
    subst ht
    exact h t (List.mem_append_left _ (List.mem_filterMap.2 ⟨.tmp t, by simpa using hx, rfl⟩))
  unfold aval
  rw [hw, hH, hn, he]

theorem load_not {op : Op} (h : isLoad op = true) : pkind op = false := by
  unfold isLoad at h
  split at h
  · rfl
  · rfl
  · exact absurd h (by decide)

/-- Two that don't touch each other may change places. -/
theorem swap {rb i j : Nat} {oi oj : Oper} {s s1 s2 : St} (hoi : ops[i]? = some oi) (hoj : ops[j]? = some oj) (hin : indep ops oi oj = true) (hg : Good s) (hp : isLoad oi.op = true → Tr.perf 11 s.H)
    (h1 : astep P call rb ops i s = some s1) (h2 : astep P call rb ops j s1 = some s2) :
    ∃ s1', astep P call rb ops j s = some s1' ∧ astep P call rb ops i s1' = some s2 ∧ Good s1' ∧ (isLoad oi.op = true → Tr.perf 11 s1'.H) := by
  unfold indep at hin
  simp only [Bool.and_eq_true, Bool.or_eq_true] at hin
  obtain ⟨hap, hk⟩ := hin
  obtain ⟨a1, a2, a3⟩ := Oper.apart_spec hap
  unfold astep at h1 h2 ⊢
  simp only [hoi, hoj] at h1 h2 ⊢
  unfold astepO at h1 h2 ⊢
  split at h1
  rotate_left
  · exact absurd h1 (by simp)
  rename_i v Hi nxi hvi
  -- what i gives, it gives behind j too
  have key : Hi = s.H ∧ nxi = s.nx ∧ ∀ s' : St, (∀ d ∈ oi.looksAt ops, s'.get d = s.get d) → (isLoad oi.op = true → pkind oi.op = false → Ext s.H s'.H) → aval P call (rb + i) ops oi s' = some (v, s'.H, s'.nx) := by
    have hevs : ∀ (s' : St) H, (∀ d ∈ oi.looksAt ops, s'.get d = s.get d) → aeff P (rb + i) oi s'.ev H = aeff P (rb + i) oi s.ev H := fun s' H hd => aeff_congr fun x hx => ev_congr fun t ht => by
      subst ht
      exact hd t (List.mem_append_left _ (List.mem_filterMap.2 ⟨.tmp t, by simpa using hx, rfl⟩))
    have hws : ∀ s' : St, (∀ d ∈ oi.looksAt ops, s'.get d = s.get d) → awant ops s' oi = awant ops s oi := fun s' hd => by
      unfold awant
      split
      · rfl
      · rename_i q want hgd
        split
        · rfl
        · rename_i d hdd
          rw [hd d (by unfold Oper.looksAt; rw [hgd]; simp only [hdd]; simp)]
    unfold aval at hvi
    split at hvi
    · rename_i hw
      rcases Bool.eq_false_or_eq_true (pkind oi.op) with hpk | hpk
      · cases he : aeff P (rb + i) oi s.ev s.H with
        | none => rw [he] at hvi; exact absurd hvi (by simp)
        | some e =>
          obtain ⟨v2, rfl, hall⟩ := pk_ok hpk he
          rw [he] at hvi
          simp only [Option.some.injEq, Prod.mk.injEq] at hvi
          obtain ⟨rfl, rfl, rfl⟩ := hvi
          refine ⟨rfl, rfl, fun s' hd _ => ?_⟩
          unfold aval
          rw [hws s' hd, hw, hevs s' _ hd, hall]
      · have hld : isLoad oi.op = true := by
          rcases hk with hk | hk
          · rw [hk] at hpk; exact absurd hpk (by decide)
          · exact hk.1
        cases he : aeff P (rb + i) oi s.ev s.H with
        | none => rw [he] at hvi; exact absurd hvi (by simp)
        | some e =>
          obtain ⟨v2, rfl, hall⟩ := ld_ok hld he
          rw [he] at hvi
          simp only [Option.some.injEq, Prod.mk.injEq] at hvi
          obtain ⟨rfl, rfl, rfl⟩ := hvi
          refine ⟨rfl, rfl, fun s' hd hx => ?_⟩
          unfold aval
          rw [hws s' hd, hw, hevs s' _ hd, hall _ _ (hx hld hpk)]
    · rename_i hw
      simp only [Option.some.injEq, Prod.mk.injEq] at hvi
      obtain ⟨rfl, rfl, rfl⟩ := hvi
      refine ⟨rfl, rfl, fun s' hd _ => ?_⟩
      unfold aval
      rw [hws s' hd, hw]
    · exact absurd hvi (by simp)
  obtain ⟨rfl, rfl, hkey⟩ := key
  have hs1H := put_H h1
  simp only at hs1H
  split at h2
  rotate_left
  · exact absurd h2 (by simp)
  rename_i u Hj nxj hvj
  have hgi : Good { s with H := s.H, nx := s.nx } := hg
  have hvj' : aval P call (rb + j) ops oj s = some (u, Hj, nxj) := by
    rw [← hvj]
    refine aval_congr (fun d hd => (put_get hgi h1 fun e => a1 d e hd).symm) hs1H.1.symm hs1H.2.1.symm
  rw [hvj']
  simp only
  have hg1 : Good s1 := good_put hgi h1
  have hgj : Good { s1 with H := Hj, nx := nxj } := hg1
  -- j's put on s
  have hput : ∃ s1', St.put { s with H := Hj, nx := nxj } oj.dst u = some s1' := by
    cases hd : oj.dst with
    | none => exact ⟨_, rfl⟩
    | some d =>
      rw [hd] at h2
      have := (get_put hgj h2).1
      simp only at this
      rw [hs1H.2.2] at this
      exact ⟨_, by unfold St.put; simp only; rw [blt_iff.2 this]; rfl⟩
  obtain ⟨s1', hs1'⟩ := hput
  refine ⟨s1', hs1', ?_, good_put (show Good { s with H := Hj, nx := nxj } from hg) hs1', ?_⟩
  · have hH' := put_H hs1'
    simp only at hH'
    have hlook : ∀ d ∈ oi.looksAt ops, s1'.get d = s.get d := fun d hd => put_get (show Good { s with H := Hj, nx := nxj } from hg) hs1' fun e => a3 d e hd
    have hext : isLoad oi.op = true → pkind oi.op = false → Ext s.H s1'.H := by
      intro hld hpk
      rw [hH'.1]
      have hm : mild oj.op = true := by
        rcases hk with hk | hk
        · rw [hk] at hpk; exact absurd hpk (by decide)
        · exact hk.2
      unfold aval at hvj'
      split at hvj'
      · cases he : aeff P (rb + j) oj s.ev s.H with
        | none => rw [he] at hvj'; exact absurd hvj' (by simp)
        | some e =>
          obtain ⟨v2, H2, rfl, _, hx⟩ := mild_ok hm (hp hld) he
          rw [he] at hvj'
          simp only [Option.some.injEq, Prod.mk.injEq] at hvj'
          obtain ⟨_, rfl, _⟩ := hvj'
          exact hx
      · simp only [Option.some.injEq, Prod.mk.injEq] at hvj'
        obtain ⟨_, rfl, _⟩ := hvj'
        exact fun _ _ _ h => h
      · exact absurd hvj' (by simp)
    rw [hkey s1' hlook hext]
    simp only
    -- the two puts
    cases hdi : oi.dst with
    | none =>
      rw [hdi] at h1
      simp only [St.put, Option.some.injEq] at h1
      subst h1
      simp only at h2
      rw [← h2, hs1']
      rfl
    | some di =>
      rw [hdi] at h1
      obtain ⟨hdlt, rfl, _, _⟩ := get_put hgi h1
      cases hdj : oj.dst with
      | none =>
        rw [hdj] at h2 hs1'
        simp only [St.put, Option.some.injEq] at h2 hs1'
        subst h2 hs1'
        unfold St.put
        simp only at hdlt ⊢
        rw [blt_iff.2 hdlt]
        rfl
      | some dj =>
        rw [hdj] at h2 hs1'
        obtain ⟨hjlt, rfl, _, _⟩ := get_put hgj h2
        obtain ⟨hjlt', rfl, _, _⟩ := get_put (show Good { s with H := Hj, nx := nxj } from hg) hs1'
        unfold St.put
        simp only at hdlt hjlt ⊢
        rw [blt_iff.2 hdlt]
        simp only [cond_true, Option.some.injEq, St.mk.injEq, and_true]
        obtain ⟨k, hpf, hn⟩ := hg
        exact Tr.put_comm u v k s.fr dj di hpf (by omega) (by omega) (fun e => a2 di hdi (by rw [hdj, e]))
  · intro hld
    have hH' := put_H hs1'
    simp only at hH'
    rw [hH'.1]
    rcases Bool.eq_false_or_eq_true (mild oj.op) with hm | hm
    · unfold aval at hvj'
      split at hvj'
      · cases he : aeff P (rb + j) oj s.ev s.H with
        | none => rw [he] at hvj'; exact absurd hvj' (by simp)
        | some e =>
          obtain ⟨v2, H2, rfl, hpp, _⟩ := mild_ok hm (hp hld) he
          rw [he] at hvj'
          simp only [Option.some.injEq, Prod.mk.injEq] at hvj'
          obtain ⟨_, rfl, _⟩ := hvj'
          exact hpp
      · simp only [Option.some.injEq, Prod.mk.injEq] at hvj'
        obtain ⟨_, rfl, _⟩ := hvj'
        exact hp hld
      · exact absurd hvj' (by simp)
    · rcases hk with hk | hk
      · rw [load_not hld] at hk; exact absurd hk (by decide)
      · rw [hk.2] at hm; exact absurd hm (by decide)

/-! ### The tries stay whole -/

section
variable {H H' : AH} {o : Oper} {ev : Operand → Value} {v : Value} {id : Nat}

theorem anew_perf {z : Nat} {cs : List Value} (h : anew id z cs H = some H') (hp : Tr.perf 11 H) : Tr.perf 11 H' := (anew_ext h hp).1

theorem map_val {x : Option AH} {u : Value} (h : x.map (Eff.val u) = some (.val v H')) : x = some H' := by
  obtain ⟨a, h1, h2⟩ := some_map h
  simp only [Eff.val.injEq] at h2
  rw [h1, h2.2]

theorem map_same {x : Option Value} (h : x.map (Eff.val · H) = some (.val v H')) : H = H' := by
  obtain ⟨a, h1, h2⟩ := some_map h
  simp only [Eff.val.injEq] at h2
  exact h2.2

theorem val_same {u : Value} (h : some (Eff.val u H) = some (.val v H')) : H = H' := by
  simp only [Option.some.injEq, Eff.val.injEq] at h
  exact h.2

theorem apure_same (h : apure P o ev H = some (.val v H')) : H = H' := by
  obtain ⟨u, h1, _⟩ := apure_any h
  simp only [Eff.val.injEq] at h1
  exact h1.2.symm

theorem aeff_perf (h : aeff P id o ev H = some (.val v H')) (hp : Tr.perf 11 H) : Tr.perf 11 H' := by
  unfold aeff at h
  split at h
  all_goals try simp only [abuildSlice, amakeSlice, aappend, acopy, astore, cond_eq_ite] at h
  all_goals (repeat' split at h)
  all_goals first
    | (cases h; done)
    | (exact val_same h ▸ hp)
    | (exact map_same h ▸ hp)
    | (exact apure_same h ▸ hp)
    | (exact anew_perf (map_val h) hp)
    | (exact anew_perf (map_val h) (Tr.perf_put _ _ _ _ hp))
    | (have := map_val h; cases this; exact Tr.perf_put _ _ _ _ hp)
    | (cases h; exact Tr.perf_put _ _ _ _ hp)
    | (have := map_val h; simp only [Option.some.injEq] at this; subst this; exact Tr.perf_put _ _ _ _ hp)
    | (have := map_val h; split at this <;> first | (cases this; done) | (cases this; exact Tr.perf_put _ _ _ _ hp))

end
end Go.Proofs.YtmikfnmbjpfgnaaDoor.Ax
