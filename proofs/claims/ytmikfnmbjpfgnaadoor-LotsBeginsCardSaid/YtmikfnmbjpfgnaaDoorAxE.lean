/- The abstract operations stand for the model's, part 3: append. Conditions: none. -/
import Derived.Test.YtmikfnmbjpfgnaaDoorAxD
namespace Go.Proofs.YtmikfnmbjpfgnaaDoor.Ax
open Go Go.RowKit

variable {P : Program} {B : Nat} {ρ : Env} {H : AH} {w : World}

/-- What append adds, in the model. -/
def Adds (P : Program) (w : World) (i : TypeInfo) (xT : TypeId) (x' : Value) (n : Nat) (new' : List Value) : Prop :=
  ((∃ k, P.underlying xT = some (.int k)) ∧ x' = .int .i64 (n : Int) ∧ 0 < n * i.size ∧ ∃ z, i.zero = some z ∧ new' = (Builtin.zeroCells z.cells n).toList) ∨
  ((∃ e, P.underlying xT = some (.slice e)) ∧ (∃ a cap, x' = .slice a n cap) ∧ ∀ w' : World, w'.heap = w.heap → (Builtin.firstCells i.size n x').run P w' = .ok new'.toArray w')

theorem zeroCells_size (zs : Array Value) (n : Nat) : (Builtin.zeroCells zs n).size = n * zs.size := by simp [Builtin.zeroCells]

theorem add_ok {i : TypeInfo} {xT : TypeId} {x x' : Value} {n : Nat} {new : List Value} (h : aadd P i xT x H = some (n, new)) (hx : V2 ρ x x') (hr : HR B ρ H w) :
    ∃ new', n ≤ 65536 ∧ All2 (V0 ρ) new new' ∧ new.length = n * i.size ∧ Adds P w i xT x' n new' := by
  unfold aadd at h
  split at h
  · rename_i k hu
    split at h
    · rename_i m z hz
      obtain rfl := hx.plain rfl
      cases hb : (decide (0 ≤ m) && decide (m ≤ 65536) && (z.cells.toList.all closed) && Nat.blt 0 (m.toNat * i.size) && Nat.blt 0 z.cells.size && Nat.beq z.cells.size i.size)
      · rw [hb] at h; exact absurd h (by simp)
      · rw [hb] at h
        simp only [cond_true, Option.some.injEq, Prod.mk.injEq] at h
        obtain ⟨rfl, rfl⟩ := h
        simp only [Bool.and_eq_true, decide_eq_true_eq] at hb
        obtain ⟨⟨⟨⟨⟨h1, h2⟩, h3⟩, h4⟩, h5⟩, h6⟩ := hb
        have h6' := beq_iff.1 h6
        refine ⟨(Builtin.zeroCells z.cells m.toNat).toList, by omega, range_all2 fun k => .cl (getI_closed h3 (blt_iff.1 h5) k), ?_, .inl ⟨⟨k, hu⟩, ?_, blt_iff.1 h4, z, hz, rfl⟩⟩
        · rw [Array.length_toList, zeroCells_size, h6']
        · rw [Int.toNat_of_nonneg h1]
    · exact absurd h (by simp)
  · rename_i e hu
    split at h
    · rename_i m hm
      obtain ⟨a, cap, rfl⟩ := alen_ok hm hx
      split at h
      · rename_i cs hcs
        cases hb : Nat.ble m 65536
        · rw [hb] at h; exact absurd h (by simp)
        · rw [hb] at h
          simp only [cond_true, Option.some.injEq, Prod.mk.injEq] at h
          obtain ⟨rfl, rfl⟩ := h
          obtain ⟨cs', g1, g2, g3⟩ := cells_ok (P := P) hcs hx hr
          exact ⟨cs', ble_iff.1 hb, g2, g3, .inr ⟨⟨e, hu⟩, ⟨a, cap, rfl⟩, g1⟩⟩
      · exact absurd h (by simp)
    · exact absurd h (by simp)
  · exact absurd h (by simp)

/-- append within the capacity. -/
theorem append_in {sT xT ty elem : TypeId} {i : TypeInfo} {x' : Value} {n : Nat} {new' : List Value} (hu : P.underlying sT = some (.slice elem)) (hi : P.info? elem = some i) (hb : i.bytes ≤ 65536)
    (hn : n ≤ 65536) (ha : Adds P w i xT x' n new') {base : Option Addr} {len cap : Nat} (hc : len + n ≤ cap) {w' : World}
    (hs : match base with
      | some a => (storeCells (a.add (len * i.size)) new').run P w = .ok () w'
      | none => w' = w) :
    (Builtin.append_ #[sT, xT] ty #[.slice base len cap, x']).run P w = .ok (.slice base (len + n) cap) w' := by
  rcases ha with ⟨⟨k, hx⟩, rfl, h0, z, hz, rfl⟩ | ⟨⟨e, hx⟩, ⟨a, c, rfl⟩, hf⟩
  · have hw : IntKind.i64.wrap (n : Int) = n := wrap_small (by omega) (by omega)
    have h1 : ¬ ((n : Int) < 0) := by omega
    have h2 : ¬ (281474976710656 < (n : Int) * (i.bytes : Int)) := by
      have := Int.mul_le_mul (show (n : Int) ≤ 65536 by omega) (show (i.bytes : Int) ≤ 65536 by omega) (by omega) (by omega)
      omega
    have h3 : ¬ n * i.size = 0 := by omega
    cases base with
    | none =>
      simp only at hs
      subst hs
      simp [Builtin.append_, run_underlying hu, run_underlying hx, run_size hi, run_info hi, asInt, asIntOf, hw, h1, h2, hc, run_zero hi hz]
    | some a =>
      simp [Builtin.append_, run_underlying hu, run_underlying hx, run_size hi, run_info hi, asInt, asIntOf, hw, h1, h2, hc, run_zero hi hz]
      simp only at hs
      rw [if_neg h3, hs]
      rfl
  · have hfw := hf w rfl
    cases base with
    | none =>
      simp only at hs
      subst hs
      simp [Builtin.append_, run_underlying hu, run_underlying hx, run_size hi, Builtin.lenOf, hc, hfw]
    | some a =>
      simp [Builtin.append_, run_underlying hu, run_underlying hx, run_size hi, Builtin.lenOf, hc, hfw, hs]

/-- append beyond the capacity. -/
theorem append_grow {sT xT ty elem : TypeId} {i : TypeInfo} {x' : Value} {n : Nat} {new' old' : List Value} {z : Value} (hu : P.underlying sT = some (.slice elem)) (hi : P.info? elem = some i) (hz : i.zero = some z) (hzs : z.cells.size = i.size)
    (hb : i.bytes ≤ 65536) (hb0 : 0 < i.bytes) (hn : n ≤ 65536) (ha : Adds P w i xT x' n new') {base : Option Addr} {len cap : Nat} (hl : len ≤ 65536) (hc : cap < len + n)
    (ho : ∀ w' : World, w'.heap = w.heap → (Builtin.firstCells i.size len (.slice base len cap)).run P w' = .ok old'.toArray w') :
    ∃ newCap rest, len + n ≤ newCap ∧ rest.length = (newCap - (len + n)) * i.size ∧
      (Builtin.append_ #[sT, xT] ty #[.slice base len cap, x']).run P w = .ok (.slice (some ⟨w.heap.size, 0, none⟩) (len + n) newCap) (w.drew.alloc (.cells (old' ++ new' ++ rest).toArray elem)) := by
  have hfit : ¬ (281474976710656 < Builtin.nextslicecap (len + n) cap * i.bytes) := by
    have := growslice_fits (bytes := i.bytes) hc (by
      have := Nat.mul_le_mul (show len + n ≤ 131072 by omega) hb
      omega)
    omega
  have hnc : ¬ len + n ≤ cap := by omega
  have hmx : ¬ (9223372036854775807 < (len : Int) + (n : Int)) := by omega
  refine ⟨(Question.appendCap (len + n) cap elem).cut (w.tape w.drawn (.appendCap (len + n) cap elem)), (Builtin.zeroCells z.cells ((Question.appendCap (len + n) cap elem).cut (w.tape w.drawn (.appendCap (len + n) cap elem)) - (len + n))).toList, by simp [Question.cut], by rw [Array.length_toList, zeroCells_size, hzs], ?_⟩
  rcases ha with ⟨⟨k, hx⟩, rfl, h0, z', hz', rfl⟩ | ⟨⟨e, hx⟩, ⟨a, c, rfl⟩, hf⟩
  · rw [hz] at hz'
    obtain rfl := Option.some.inj hz'
    have hw : IntKind.i64.wrap (n : Int) = n := wrap_small (by omega) (by omega)
    have h1 : ¬ ((n : Int) < 0) := by omega
    have h2 : ¬ (281474976710656 < (n : Int) * (i.bytes : Int)) := by
      have := Int.mul_le_mul (show (n : Int) ≤ 65536 by omega) (show (i.bytes : Int) ≤ 65536 by omega) (by omega) (by omega)
      omega
    have h3 : ¬ n * i.size = 0 := by omega
    have how := ho w.drew rfl
    simp [Builtin.append_, run_underlying hu, run_underlying hx, run_size hi, run_info hi, asInt, asIntOf, hw, h1, h2, hnc, run_zero hi hz, hfit, Question.forced]
    rw [if_neg hmx, how]
    simp only [Result.andThen_ok]
    rw [if_neg h3]
    simp [run_newRow]
    congr 2
    apply Array.ext'
    simp
  · have hfw := hf w.drew rfl
    have how := ho w.drew rfl
    have hbz : ¬ i.bytes = 0 := by omega
    simp [Builtin.append_, run_underlying hu, run_underlying hx, run_size hi, run_info hi, Builtin.lenOf, hnc, hfit, Question.forced, hbz, how, hfw, run_zero hi hz]
    rw [run_newRow]
    simp only [Result.andThen_ok]
    congr 3
    apply Array.ext'
    simp

theorem below_drew {a : World} (h : Below B a w) : Below B a w.drew := h.drew

/-- A grown slice: its new block. -/
theorem grown_ok {id : Nat} {size need newCap : Nat} {cs cs' rest : List Value} {el : TypeId} {H' : AH} (ha : anew id size cs H = some H') (hr : HR B ρ H w) (hc : All2 (V0 ρ) cs cs')
    (hl : cs.length = need * size) (hn : need ≤ newCap) (hrest : rest.length = (newCap - need) * size) :
    ∃ ρ', Env.le ρ ρ' ∧ V2 ρ' (.slice (some ⟨id, 0, none⟩) need (2 * need + 1)) (.slice (some ⟨w.heap.size, 0, none⟩) need newCap) ∧
      HR B ρ' H' (w.drew.alloc (.cells (cs' ++ rest).toArray el)) ∧ Below B w (w.drew.alloc (.cells (cs' ++ rest).toArray el)) := by
  have hr' : HR B ρ H w.drew := hr.heap rfl
  have hcl := hc.length
  obtain ⟨h1, h2⟩ := hr'.new ha (cs' ++ rest).toArray el (fun k c hk => by
    obtain ⟨c', g1, g2⟩ := hc.get k c hk
    refine ⟨c', ?_, g2⟩
    rw [List.getElem?_toArray, List.getElem?_append_left ((List.getElem?_eq_some_iff.1 g1).1)]
    exact g1)
  have hmul : need * size + (newCap - need) * size = newCap * size := by rw [← Nat.add_mul]; congr 1; omega
  refine ⟨_, h1, .of0 (.sl (e := ⟨w.heap.size, 0, size, _, 0⟩) (Env.add_same _ _ _) hn ?_ ?_), h2, (Below.refl _ _).drew.alloc hr.size _⟩
  · unfold capOK; rw [if_neg (by omega)]; omega
  · simp only [List.size_toArray, List.length_append]; omega

theorem append_ok {id : Nat} {sT xT ty : TypeId} {s s' x x' : Value} {v : Value} {H' : AH} (h : aappend P id sT xT s x H = some (.val v H')) (hs : V2 ρ s s') (hx : V2 ρ x x') (hr : HR B ρ H w) :
    ∃ v' w' ρ', (Builtin.append_ #[sT, xT] ty #[s', x']).run P w = .ok v' w' ∧ Env.le ρ ρ' ∧ V2 ρ' v v' ∧ HR B ρ' H' w' ∧ Below B w w' := by
  unfold aappend at h
  split at h
  · rename_i elem hu
    split at h
    · rename_i i hi
      cases hz : i.zero with
      | none => rw [hz] at h; simp at h
      | some z =>
      rw [hz] at h
      cases hb : (Nat.ble i.bytes 65536 && Nat.blt 0 i.bytes && Nat.beq z.cells.size i.size)
      · simp only [hb, cond_false] at h; exact absurd h (by simp)
      simp only [hb, cond_true] at h
      simp only [Bool.and_eq_true] at hb
      obtain ⟨⟨hb1, hb2⟩, hb3⟩ := hb
      have hb1' := ble_iff.1 hb1
      have hb2' := blt_iff.1 hb2
      have hzs := beq_iff.1 hb3
      split at h
      · rename_i n new hadd
        obtain ⟨new', hn, hnew, hnl, hadds⟩ := add_ok hadd hx hr
        have hnl' := hnew.length
        split at h
        · obtain rfl := hs.nil_inv
          cases hn0 : Nat.beq n 0
          · rw [hn0] at h
            simp only [cond_false] at h
            have hn0' : n ≠ 0 := fun e => by rw [beq_iff.2 e] at hn0; exact absurd hn0 (by decide)
            cases ha : anew id i.size new H with
            | none => rw [ha] at h; exact absurd h (by simp)
            | some H1 =>
              rw [ha] at h
              simp only [Option.map_some, Option.some.injEq, Eff.val.injEq] at h
              obtain ⟨rfl, rfl⟩ := h
              obtain ⟨newCap, rest, g1, g2, g3⟩ := append_grow (ty := ty) (base := none) (len := 0) (cap := 0) (old' := []) hu hi hz hzs hb1' hb2' hn hadds (by omega) (by omega) (fun w' _ => rfl)
              simp only [Nat.zero_add, List.nil_append] at g1 g2 g3
              obtain ⟨ρ', k1, k2, k3, k4⟩ := grown_ok (el := elem) ha hr hnew hnl g1 g2
              exact ⟨_, _, ρ', g3, k1, k2, k3, k4⟩
          · rw [hn0] at h
            simp only [cond_true, Option.some.injEq, Eff.val.injEq] at h
            obtain ⟨rfl, rfl⟩ := h
            have := beq_iff.1 hn0
            subst this
            have g := append_in (ty := ty) (base := none) (len := 0) (cap := 0) (w' := w) hu hi hb1' hn hadds (by omega) rfl
            exact ⟨_, w, ρ, g, Env.le_refl _, .cl rfl, hr, Below.refl _ _⟩
        · rename_i j off len c
          have hs0 := hs
          obtain ⟨e, cap, he, hlc, hcap, hN, rfl⟩ := hs.sl_inv
          cases hn0 : Nat.beq n 0
          · rw [hn0] at h
            simp only [cond_false] at h
            have hn0' : n ≠ 0 := fun e => by rw [beq_iff.2 e] at hn0; exact absurd hn0 (by decide)
            cases hlen : Nat.ble len 65536
            · rw [hlen] at h; exact absurd h (by simp)
            rw [hlen] at h
            simp only [cond_true] at h
            have hlen' := ble_iff.1 hlen
            split at h
            · rename_i z0 cs hj
              obtain ⟨e', he', hez, arr, el, hblk, hc⟩ := hr.live j z0 cs hj
              rw [he] at he'; obtain rfl := Option.some.inj he'
              cases hb4 : (Nat.beq z0 i.size && Nat.ble (off + len * i.size) cs.length)
              · rw [hb4] at h; exact absurd h (by simp)
              rw [hb4] at h
              simp only [cond_true] at h
              simp only [Bool.and_eq_true] at hb4
              have hz0 := beq_iff.1 hb4.1
              have hofl := ble_iff.1 hb4.2
              have hezi : e.z = i.size := by omega
              rw [hezi] at hN
              have hadd : ∀ k, (⟨e.blk, e.base + off, none⟩ : Addr).add k = ⟨e.blk, e.base + (off + k), none⟩ := fun k => by rw [add_mid, Nat.add_assoc]
              have hmul : len * i.size + n * i.size = (len + n) * i.size := by rw [Nat.add_mul]
              have hc2 := hcap.le
              -- the elder elements
              have hold : ∃ old', All2 (V0 ρ) ((cs.drop off).take (len * i.size)) old' ∧ ∀ w' : World, w'.heap = w.heap → (Builtin.firstCells i.size len (.slice (some ⟨e.blk, e.base + off, none⟩) len cap)).run P w' = .ok old'.toArray w' := by
                by_cases hl0 : len * i.size = 0
                · refine ⟨[], by rw [hl0]; exact .nil, fun w' _ => by simp [Builtin.firstCells, hl0, loadCells, loadCellsFrom]⟩
                · obtain ⟨h3, h4⟩ := Holds.seg (off := off) (n := len * i.size) hc hofl (by omega)
                  exact ⟨_, h3, fun w' hw => by simp only [Builtin.firstCells]; exact run_loadSeg (by rw [hw]; exact hblk) h4⟩
              obtain ⟨old', hold1, hold2⟩ := hold
              have hgl : ((cs.drop off).take (len * i.size) ++ new).length = (len + n) * i.size := by simp; omega
              cases hin : Nat.ble (len + n) (c / 2)
              · rw [hin] at h
                simp only [cond_false] at h
                cases hev : Nat.beq (c % 2) 0
                · rw [hev] at h
                  simp only [cond_false] at h
                  cases hnn : Nat.beq new.length (n * i.size)
                  · rw [hnn] at h; exact absurd h (by simp)
                  rw [hnn] at h
                  simp only [cond_true] at h
                  cases ha : anew id i.size ((cs.drop off).take (len * i.size) ++ new) (Tr.put .dead H j) with
                  | none => rw [ha] at h; exact absurd h (by simp)
                  | some H1 =>
                    rw [ha] at h
                    simp only [Option.map_some, Option.some.injEq, Eff.val.injEq] at h
                    obtain ⟨rfl, rfl⟩ := h
                    by_cases hfit : len + n ≤ cap
                    · have hNa : arr.size = e.N := by
                        obtain ⟨_, _, a2, l2, h3, h4⟩ := hr.ent j e (AH.at_lt (by rw [hj]; exact (fun hx => nomatch hx))) he
                        rw [h3] at hblk; injection hblk with hblk; injection hblk with hb1 hb2; rw [← hb1, h4]
                      have hle2 : (len + n) * i.size ≤ cap * i.size := Nat.mul_le_mul_right _ hfit
                      have hst := run_storeCells_at P e.blk (e.base + (off + len * i.size)) el new' 0 arr w hblk (by omega) hnew.one
                      have g := append_in (ty := ty) (base := some ⟨e.blk, e.base + off, none⟩) (len := len) (cap := cap) hu hi hb1' hn hadds (by omega) (by show (storeCells ((⟨e.blk, e.base + off, none⟩ : Addr).add (len * i.size)) new').run P w = _; rw [hadd]; exact hst)
                      subst hz0
                      obtain ⟨k1, k2⟩ := hr.alias (off := off) hj he ha (arr2 := (arr.toList.take (e.base + (off + len * i.size) + 0) ++ new' ++ arr.toList.drop (e.base + (off + len * i.size) + 0 + new'.length)).toArray) hblk (by simp; omega) (fun k c' hk => by
                        simp only [List.getElem?_append, List.length_take, List.getElem?_take, List.getElem?_drop, List.length_drop] at hk
                        simp only [List.getElem?_toArray, List.getElem?_append, List.length_append, List.length_take, List.getElem?_take, List.getElem?_drop, Array.length_toList, Array.getElem?_toList]
                        by_cases h1 : k < len * i.size
                        · rw [if_pos (by omega), if_pos h1] at hk
                          rw [if_pos (by omega), if_pos (by omega), if_pos (by omega)]
                          obtain ⟨c2, h5, h6⟩ := hc _ _ hk
                          exact ⟨c2, by rw [← h5]; congr 1; omega, h6⟩
                        · rw [if_neg (by omega)] at hk
                          obtain ⟨c2, h5, h6⟩ := hnew.get _ _ hk
                          have hlt := (List.getElem?_eq_some_iff.1 h5).1
                          rw [if_pos (by omega), if_neg (by omega)]
                          exact ⟨c2, by rw [← h5]; congr 1; omega, h6⟩)
                      refine ⟨_, _, _, g, k1, .of0 (.sl (e := ⟨e.blk, e.base + off, i.size, e.N, 0⟩) (Env.add_same _ _ _) hfit ?_ ?_), k2, below_setRow (Below.refl _ _) (hr.ent j e (AH.at_lt (by rw [hj]; exact (fun hx => nomatch hx))) he).1 _⟩
                      · unfold capOK; rw [if_neg (by omega)]; omega
                      · simp only [Nat.add_zero]; exact hN
                    · obtain ⟨newCap, rest, g1, g2, g3⟩ := append_grow (ty := ty) hu hi hz hzs hb1' hb2' hn hadds hlen' (by omega) hold2
                      have hjt : j < top := AH.at_lt (by rw [hj]; exact (fun hx => nomatch hx))
                      obtain ⟨ρ', k1, k2, k3, k4⟩ := grown_ok (el := elem) ha (hr.kill hjt) (hold1.append hnew) hgl g1 g2
                      exact ⟨_, _, ρ', g3, k1, k2, k3, k4⟩
                · rw [hev] at h
                  simp only [cond_true] at h
                  have heven := beq_iff.1 hev
                  have hcc : cap = c / 2 := by unfold capOK at hcap; rw [if_pos heven] at hcap; exact hcap
                  have hni : ¬ len + n ≤ c / 2 := fun e => by rw [ble_iff.2 e] at hin; exact absurd hin (by decide)
                  cases ha : anew id i.size ((cs.drop off).take (len * i.size) ++ new) H with
                  | none => rw [ha] at h; exact absurd h (by simp)
                  | some H1 =>
                    rw [ha] at h
                    simp only [Option.map_some, Option.some.injEq, Eff.val.injEq] at h
                    obtain ⟨rfl, rfl⟩ := h
                    obtain ⟨newCap, rest, g1, g2, g3⟩ := append_grow (ty := ty) hu hi hz hzs hb1' hb2' hn hadds hlen' (by omega) hold2
                    obtain ⟨ρ', k1, k2, k3, k4⟩ := grown_ok (el := elem) ha hr (hold1.append hnew) hgl g1 g2
                    exact ⟨_, _, ρ', g3, k1, k2, k3, k4⟩
              · rw [hin] at h
                simp only [cond_true] at h
                have hin' := ble_iff.1 hin
                cases hb5 : (Nat.ble (off + (len + n) * i.size) cs.length && Nat.beq new.length (n * i.size))
                · rw [hb5] at h; exact absurd h (by simp)
                rw [hb5] at h
                simp only [cond_true, Option.some.injEq, Eff.val.injEq] at h
                obtain ⟨rfl, rfl⟩ := h
                simp only [Bool.and_eq_true] at hb5
                have hfit := ble_iff.1 hb5.1
                obtain ⟨w', k1, k2, k3⟩ := HR.put (P := P) (off := off + len * i.size) hr hj he hnew (by omega)
                have g := append_in (ty := ty) (base := some ⟨e.blk, e.base + off, none⟩) (len := len) (cap := cap) (w' := w') hu hi hb1' hn hadds (by omega) (by show (storeCells ((⟨e.blk, e.base + off, none⟩ : Addr).add (len * i.size)) new').run P w = _; rw [hadd]; exact k1)
                exact ⟨_, w', ρ, g, Env.le_refl _, .of0 (.sl he (by omega) hcap (by rw [hezi]; exact hN)), k2, k3⟩
            · exact absurd h (by simp)
          · rw [hn0] at h
            simp only [cond_true, Option.some.injEq, Eff.val.injEq] at h
            obtain ⟨rfl, rfl⟩ := h
            have := beq_iff.1 hn0
            subst this
            have hnil : new' = [] := List.eq_nil_of_length_eq_zero (by omega)
            subst hnil
            have g := append_in (ty := ty) (base := some ⟨e.blk, e.base + off, none⟩) (len := len) (cap := cap) (w' := w) hu hi hb1' hn hadds (by omega) rfl
            exact ⟨_, w, ρ, g, Env.le_refl _, hs0, hr, Below.refl _ _⟩
        · exact absurd h (by simp)
      · exact absurd h (by simp)
    · exact absurd h (by simp)
  · exact absurd h (by simp)

end Go.Proofs.YtmikfnmbjpfgnaaDoor.Ax
