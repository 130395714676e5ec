/- The abstract operations stand for the model's, part 1: loads, stores, new variables, structs, addresses, slices. Conditions: none. -/
import Derived.Test.YtmikfnmbjpfgnaaDoorAxB
namespace Go.Proofs.YtmikfnmbjpfgnaaDoor.Ax
open Go Go.RowKit

variable {P : Program} {B : Nat} {ρ : Env} {H : AH} {w : World}

theorem add_mid (b o j : Nat) : (⟨b, o, none⟩ : Addr).add j = ⟨b, o + j, none⟩ := by unfold Addr.add; split <;> simp_all

theorem run_info {t : TypeId} {i : TypeInfo} (h : P.info? t = some i) (w : World) : (typeInfo t).run P w = .ok i w := by simp [typeInfo, h]
theorem run_size {t : TypeId} {i : TypeInfo} (h : P.info? t = some i) (w : World) : (sizeOf t).run P w = .ok i.size w := by simp [sizeOf, typeInfo, h]
theorem run_zero {t : TypeId} {i : TypeInfo} {z : Value} (h : P.info? t = some i) (hz : i.zero = some z) (w : World) : (zeroValue t).run P w = .ok z w := by simp [zeroValue, typeInfo, h, hz]
theorem run_isAgg {t : TypeId} {d : TypeDesc} (h : P.underlying t = some d) (w : World) : (isAgg t).run P w = .ok (aggT d) w := by
  unfold isAgg
  rw [Sem.run_bind, run_underlying h w]
  cases d <;> rfl

theorem ble_iff {a b : Nat} : Nat.ble a b = true ↔ a ≤ b := by rw [Nat.ble_eq]
theorem beq_iff {a b : Nat} : Nat.beq a b = true ↔ a = b := by rw [Nat.beq_eq]

/-- The cells of a block stand for the abstract ones. -/
def Holds (ρ : Env) (cs : List Value) (arr : Array Value) (base : Nat) : Prop :=
  ∀ (k : Nat) (c : Value), cs[k]? = some c → ∃ c', arr[base + k]? = some c' ∧ V0 ρ c c'

theorem Holds.size {cs : List Value} {arr : Array Value} {base : Nat} (h : Holds ρ cs arr base) (hb : cs ≠ []) : base + cs.length ≤ arr.size := by
  have hl : 0 < cs.length := List.length_pos_iff.2 hb
  obtain ⟨c', h1, _⟩ := h (cs.length - 1) cs[cs.length - 1] (by rw [List.getElem?_eq_getElem (by omega)])
  have := (Array.getElem?_eq_some_iff.1 h1).1
  omega

theorem Holds.seg {cs : List Value} {arr : Array Value} {base off n : Nat} (h : Holds ρ cs arr base) (hn : off + n ≤ cs.length) (h0 : 0 < n) :
    All2 (V0 ρ) ((cs.drop off).take n) ((arr.toList.drop (base + off)).take n) ∧ base + off + n ≤ arr.size := by
  have hsz : base + cs.length ≤ arr.size := h.size (by intro e; subst e; simp at hn; omega)
  refine ⟨All2.of_get (by simp; omega) fun k c hk => ?_, by omega⟩
  rw [List.getElem?_take] at hk
  split at hk
  · rename_i hlt
    rw [List.getElem?_drop] at hk
    obtain ⟨c', h1, h2⟩ := h (off + k) c hk
    refine ⟨c', ?_, h2⟩
    rw [List.getElem?_take, if_pos hlt, List.getElem?_drop, Array.getElem?_toList]
    rw [← Nat.add_assoc] at h1; exact h1
  · exact absurd hk (by simp)

theorem run_loadSeg {b o n : Nat} {arr : Array Value} {el : TypeId} (hb : w.heap[b]? = some (.cells arr el (0, 0))) (hn : o + n ≤ arr.size) :
    (loadCells ⟨b, o, none⟩ n).run P w = .ok ((arr.toList.drop o).take n).toArray w := by
  have hl : ((arr.toList.drop o).take n).length = n := by simp; omega
  have := run_loadCells_list (P := P) w ⟨b, o, none⟩ ((arr.toList.drop o).take n) (fun j v hj => by
    rw [add_mid, cell_of_row w b _ arr el _ hb]
    rw [List.getElem?_take] at hj
    split at hj
    · rw [List.getElem?_drop, Array.getElem?_toList] at hj; exact hj
    · exact absurd hj (by simp))
  rw [hl] at this; exact this

theorem load_ok {t : TypeId} {a a' v : Value} (h : aload P t a H = some v) (ha : V2 ρ a a') (hr : HR B ρ H w) : ∃ v', (Instr.loadAt t a').run P w = .ok v' w ∧ V1 ρ v v' := by
  unfold aload at h
  split at h
  · rename_i j off
    obtain ⟨e, he, rfl⟩ := ha.ptr_inv
    split at h
    · rename_i z cs hj
      obtain ⟨e', he', _, arr, el, hb, hc⟩ := hr.live j z cs hj
      rw [he] at he'; obtain rfl := Option.some.inj he'
      split at h
      · rename_i d hd
        simp only [Instr.loadAt, Instr.sureAddr, Sem.run_bind, Sem.run_pure, Result.andThen_ok, loadVar, run_isAgg hd]
        cases hag : aggT d
        · rw [hag] at h
          simp only [cond_false] at h
          obtain ⟨c', h1, h2⟩ := hc off v h
          refine ⟨c', ?_, .sc h2⟩
          simp only [Bool.false_eq_true, if_false]
          rw [run_load, cell_of_row w e.blk _ arr el _ hb, h1]
        · rw [hag] at h
          simp only [cond_true] at h
          split at h
          · rename_i i hi
            cases hle : Nat.ble (off + i.size) cs.length
            · rw [hle] at h; exact absurd h (by simp)
            · rw [hle] at h
              simp only [cond_true, Option.some.injEq] at h
              subst h
              have hle' := ble_iff.1 hle
              simp only [if_true, Sem.run_bind, run_size hi, Result.andThen_ok]
              by_cases hz : i.size = 0
              · refine ⟨.agg #[], ?_, ?_⟩
                · rw [hz]; simp [loadCells, loadCellsFrom]
                · rw [hz]; exact .agg (by simpa using All2.nil)
              · obtain ⟨h3, h4⟩ := Holds.seg (off := off) (n := i.size) hc hle' (by omega)
                rw [run_loadSeg hb h4]
                exact ⟨_, rfl, .agg h3⟩
          · exact absurd h (by simp)
      · exact absurd h (by simp)
    · exact absurd h (by simp)
  · exact absurd h (by simp)

/-- New cells in the midst of others. -/
theorem Holds.splice {cs new new' : List Value} {arr : Array Value} {base off : Nat} (h : Holds ρ cs arr base) (hn : All2 (V0 ρ) new new') (hl : off + new.length ≤ cs.length) :
    Holds ρ (cs.take off ++ new ++ cs.drop (off + new.length)) (arr.toList.take (base + off) ++ new' ++ arr.toList.drop (base + off + new'.length)).toArray base ∧
      (arr.toList.take (base + off) ++ new' ++ arr.toList.drop (base + off + new'.length)).toArray.size = arr.size ∨ cs = [] := by
  by_cases hcs : cs = []
  · exact .inr hcs
  have hsz := h.size hcs
  have hnl := hn.length
  refine .inl ⟨fun k c hk => ?_, by simp; omega⟩
  simp only [List.getElem?_append, List.length_append, List.length_take, List.getElem?_take, List.getElem?_drop] at hk
  simp only [List.getElem?_toArray, List.getElem?_append, List.length_append, List.length_take, List.getElem?_take, List.getElem?_drop, Array.length_toList, Array.getElem?_toList]
  by_cases h1 : k < off
  · rw [if_pos (by omega), if_pos (by omega), if_pos h1] at hk
    rw [if_pos (by omega), if_pos (by omega), if_pos (by omega)]
    exact h k c hk
  · by_cases h2 : k < off + new.length
    · rw [if_pos (by omega), if_neg (by omega)] at hk
      rw [if_pos (by omega), if_neg (by omega)]
      obtain ⟨c', h3, h4⟩ := hn.get _ _ hk
      refine ⟨c', ?_, h4⟩
      rw [← h3]; congr 1; omega
    · rw [if_neg (by omega)] at hk
      rw [if_neg (by omega)]
      obtain ⟨c', h3, h4⟩ := h _ c hk
      refine ⟨c', ?_, h4⟩
      rw [← h3]; congr 1; omega

theorem All2.one {l m : List Value} (h : All2 (V0 ρ) l m) : ∀ v ∈ m, v.oneCell' = true := h.mem_right fun _ _ => V0.one

/-- Cells into a block that is there. -/
theorem HR.put {j z off : Nat} {cs new new' : List Value} {e : Ent} (hr : HR B ρ H w) (hj : H.at j = .live z cs) (he : ρ j = some e) (hn : All2 (V0 ρ) new new') (hl : off + new.length ≤ cs.length) :
    ∃ w', (storeCells ⟨e.blk, e.base + off, none⟩ new').run P w = .ok () w' ∧ HR B ρ (Tr.put (.live z (cs.take off ++ new ++ cs.drop (off + new.length))) H j) w' ∧ Below B w w' := by
  obtain ⟨e', he', _, arr, el, hb, hc⟩ := hr.live j z cs hj
  rw [he] at he'; obtain rfl := Option.some.inj he'
  have hB := (hr.ent j e (AH.at_lt (by rw [hj]; exact (fun hx => nomatch hx))) he).1
  by_cases hcs : cs = []
  · subst hcs
    have hnew : new = [] := by cases new with | nil => rfl | cons a l => simp at hl
    subst hnew
    have hnew' : new' = [] := by cases hn; rfl
    subst hnew'
    refine ⟨w, rfl, ?_, Below.refl _ _⟩
    have := hr.write (cs2 := []) hj he hb rfl (fun k c hk => by simp at hk)
    rw [setRow_self w e.blk arr el _ hb] at this
    simpa using this
  · obtain ⟨h1, h2⟩ := (Holds.splice (off := off) hc hn hl).resolve_right hcs
    have hsz := Holds.size hc hcs
    have hnl := hn.length
    exact ⟨_, run_storeCells_at P e.blk (e.base + off) el new' 0 arr w hb (by omega) hn.one, hr.write hj he hb h2 h1, below_setRow (Below.refl _ _) hB _⟩

theorem store_ok {t : TypeId} {a a' v v' : Value} {H' : AH} (h : astore P t a v H = some H') (ha : V2 ρ a a') (hv : V2 ρ v v') (hr : HR B ρ H w) :
    ∃ w', (Instr.storeAt t a' v').run P w = .ok () w' ∧ HR B ρ H' w' ∧ Below B w w' := by
  unfold astore at h
  split at h
  · rename_i j off
    obtain ⟨e, he, rfl⟩ := ha.ptr_inv
    split at h
    · rename_i z cs i hj hi
      cases hc : (okV v && Nat.beq v.cells.size i.size && Nat.ble (off + v.cells.size) cs.length)
      · rw [hc] at h; exact absurd h (by simp)
      · rw [hc] at h
        simp only [cond_true, Option.some.injEq] at h
        subst h
        simp only [Bool.and_eq_true] at hc
        obtain ⟨⟨h1, h2⟩, h3⟩ := hc
        have hcells := (hv.ok h1).cells
        have hsz := beq_iff.1 h2
        have hl := ble_iff.1 h3
        obtain ⟨w', g1, g2, g3⟩ := HR.put (P := P) hr hj he hcells (by simpa using hl)
        refine ⟨w', ?_, g2, g3⟩
        have hlen := hcells.length
        simp only [Array.length_toList] at hlen
        simp only [Instr.storeAt, Instr.sureAddr, Sem.run_bind, Sem.run_pure, Result.andThen_ok, storeVar, run_size hi]
        rw [if_neg (by omega)]
        exact g1
    · exact absurd h (by simp)
  · exact absurd h (by simp)

theorem run_newRow (el : TypeId) (cells : Array Value) (w : World) : (newRow el cells).run P w = .ok ⟨w.heap.size, 0, none⟩ (w.alloc (.cells cells el)) := rfl

theorem Below.new {a : World} (h : Below B a w) (hr : HR B ρ H w) (o : Obj) : Below B a (w.alloc o) := h.alloc hr.size o

theorem all_closed {l : List Value} (h : l.all closed = true) : All2 (V0 ρ) l l := by
  induction l with
  | nil => exact .nil
  | cons a l ih => simp at h; exact .cons (.cl h.1) (ih (by simpa using h.2))

theorem All2.holds {cs cs' : List Value} (h : All2 (V0 ρ) cs cs') : ∀ (k : Nat) (c : Value), cs[k]? = some c → ∃ c', cs'.toArray[k]? = some c' ∧ V0 ρ c c' := by
  intro k c hk
  simpa using h.get k c hk

/-- A new row of cells, its address. -/
theorem new_ok {id z : Nat} {cs : List Value} {H' : AH} (ha : anew id z cs H = some H') (hr : HR B ρ H w) (arr : Array Value) (el : TypeId) (hc : All2 (V0 ρ) cs arr.toList) :
    ∃ ρ', Env.le ρ ρ' ∧ HR B ρ' H' (w.alloc (.cells arr el)) ∧ ρ' id = some ⟨w.heap.size, 0, z, arr.size, 0⟩ ∧ Below B w (w.alloc (.cells arr el)) := by
  obtain ⟨h1, h2⟩ := hr.new ha arr el (by simpa using hc.holds)
  exact ⟨_, h1, h2, Env.add_same _ _ _, (Below.refl _ _).alloc hr.size _⟩

theorem alloc_ok {T : TypeId} {i : TypeInfo} {z : Value} {id : Nat} {H' : AH} (hi : P.info? T = some i) (hz : i.zero = some z) (hc : z.cells.toList.all closed = true) (ha : anew id 0 z.cells.toList H = some H') (hr : HR B ρ H w) :
    ∃ v' w' ρ', (Instr.alloc T true (.tuple #[])).run P w = .ok v' w' ∧ Env.le ρ ρ' ∧ V2 ρ' (.pointer (some ⟨id, 0, none⟩)) v' ∧ HR B ρ' H' w' ∧ Below B w w' := by
  obtain ⟨ρ', h1, h2, h3, h4⟩ := new_ok ha hr z.cells T (all_closed hc)
  refine ⟨_, _, ρ', ?_, h1, .of0 (.ptr h3), h2, h4⟩
  simp only [Instr.alloc, Sem.run_bind, run_zero hi hz, Result.andThen_ok]
  simp only [newVar, run_newRow, Result.andThen_ok, Sem.run_pure]

theorem box_ok {T : TypeId} {v v' : Value} {id : Nat} {H' : AH} (ho : okV v = true) (ha : anew id 0 v.cells.toList H = some H') (hv : V2 ρ v v') (hr : HR B ρ H w) :
    ∃ p w' ρ', (Instr.box T v').run P w = .ok p w' ∧ Env.le ρ ρ' ∧ V2 ρ' (.pointer (some ⟨id, 0, none⟩)) p ∧ HR B ρ' H' w' ∧ Below B w w' := by
  obtain ⟨ρ', h1, h2, h3, h4⟩ := new_ok ha hr v'.cells T (hv.ok ho).cells
  refine ⟨_, _, ρ', ?_, h1, .of0 (.ptr h3), h2, h4⟩
  simp only [Instr.box, newVar, run_newRow, Sem.run_bind, Result.andThen_ok, Sem.run_pure]

theorem field_ok {s : TypeId} {x x' v : Value} {f : Nat} (h : afield P s x f = some v) (hx : V2 ρ x x') : ∃ v', (Instr.fieldAt s x' f).run P w = .ok v' w ∧ V2 ρ v v' := by
  unfold afield at h
  split at h
  · rename_i fs j off hs
    obtain ⟨e, he, rfl⟩ := hx.ptr_inv
    split at h
    · rename_i fd hfd
      split at h
      · rename_i i hi
        cases hb : Nat.blt 0 i.size
        · rw [hb] at h; exact absurd h (by simp)
        · rw [hb] at h
          simp only [cond_true, Option.some.injEq] at h
          subst h
          have hz := blt_iff.1 hb
          refine ⟨.pointer (some ⟨e.blk, e.base + (off + fd.offset), none⟩), ?_, .of0 (.ptr he)⟩
          simp only [Instr.fieldAt, Sem.run_bind, run_underlying hs, Result.andThen_ok, hfd, Instr.sureAddr, Sem.run_pure, fieldPlace, run_size hi]
          rw [if_neg (by omega)]
          simp [add_mid, Nat.add_assoc]
      · exact absurd h (by simp)
    · exact absurd h (by simp)
  · exact absurd h (by simp)

theorem index_ok {t : TypeId} {x x' ix ix' v : Value} (h : aindex P t x ix = some v) (hx : V2 ρ x x') (hix : V2 ρ ix ix') : ∃ v', (Instr.indexAt t x' ix').run P w = .ok v' w ∧ V2 ρ v v' := by
  unfold aindex at h
  split at h
  · rename_i elem j off len c k n ht
    obtain ⟨e, cap, he, _, _, _, rfl⟩ := hx.sl_inv
    obtain rfl := hix.plain rfl
    split at h
    · rename_i i hi
      cases hb : (decide (0 ≤ n) && decide (n < (len : Int)))
      · rw [hb] at h; exact absurd h (by simp)
      · rw [hb] at h
        simp only [cond_true, Option.some.injEq] at h
        subst h
        simp only [Bool.and_eq_true, decide_eq_true_eq] at hb
        refine ⟨.pointer (some ⟨e.blk, e.base + (off + n.toNat * i.size), none⟩), ?_, .of0 (.ptr he)⟩
        simp only [Instr.indexAt, asIntOf, Sem.run_bind, run_underlying ht, Result.andThen_ok, Sem.run_pure]
        rw [if_pos hb]
        simp [run_size hi, add_mid, Nat.add_assoc]
    · exact absurd h (by simp)
  · exact absurd h (by simp)

end Go.Proofs.YtmikfnmbjpfgnaaDoor.Ax
