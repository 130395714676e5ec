/- The walk of function 5, where its answer is true. (The text began as one that print.sh printed; what is said of three functions is put in by hand.) Conditions: none. -/
import Derived.Test.YtmikfnmbjpfgnaaDoorQ3
import Derived.Test.YtmikfnmbjpfgnaaDoorQ4
namespace Go.Proofs.YtmikfnmbjpfgnaaDoor.Q
open Go.RowKit Go.Proofs.YtmikfnmbjpfgnaaDoorW.PrintWords Go.Proofs.YtmikfnmbjpfgnaaDoorW.PrintLast Go.Proofs.YtmikfnmbjpfgnaaDoorW.PrintMore
attribute [local go_sem] max2_int min2_int max_two min_two max_three min_three max_four min_four   -- for this text's walks alone
set_option linter.unusedVariables false
set_option linter.unusedSimpArgs false

attribute [local go_sem high] eqA38
/-! ### gleanerlaw30_LotsBegins: function 5 -/
mutual
def gleanerlaw30_LotsBegins.j0 : Nat → Int → Int → Int → Int → Bool → Bool → Option (Bool)
  | 0, _, _, _, _, _, _ => none
  | k + 1, x0, x1, x2, x3, x9, x40 => if x40 = true then (some x9) else ((lots_Script.f k x0 x1 x2).bind fun t200 => ((lots_Script.f k x0 x1 (wrap64 (x2 + x3))).bind fun t203 => (if (t200.length : Int) = x2 then (gleanerlaw30_LotsBegins.j1 k x1 x2 t200 t203 ((t203.length : Int) != (wrap64 (x2 + x3)))) else (gleanerlaw30_LotsBegins.j1 k x1 x2 t200 t203 true))))
def gleanerlaw30_LotsBegins.j1 : Nat → Int → Int → List (S38) → List (S38) → Bool → Option (Bool)
  | 0, _, _, _, _, _ => none
  | k + 1, x1, x2, x10, x11, x63 => if x63 = true then (some false) else (gleanerlaw30_LotsBegins.l0 k x1 x2 x10 x11 0)
def gleanerlaw30_LotsBegins.l0 : Nat → Int → Int → List (S38) → List (S38) → Int → Option (Bool)
  | 0, _, _, _, _, _ => none
  | k + 1, x1, x2, x10, x11, x12 => if x12 < (x11.length : Int) then (if 0 ≤ x12 then (if x12 < x2 then (if x12 < (x10.length : Int) then (if (!(((rd_T38 x10 x12).f0) == ((rd_T38 x11 x12).f0)) || (!(((rd_T38 x10 x12).f1) == ((rd_T38 x11 x12).f1)) || (!(((rd_T38 x10 x12).f2) == ((rd_T38 x11 x12).f2)) || (!(((rd_T38 x10 x12).f3) == ((rd_T38 x11 x12).f3)))))) = true then (some false) else (if ((rd_T38 x11 x12).f0) < 1 then (some false) else (if ((rd_T38 x11 x12).f0) > 7 then (some false) else (if ((rd_T38 x11 x12).f1) < 0 then (some false) else (if ((rd_T38 x11 x12).f1) ≥ x1 then (some false) else (if ((rd_T38 x11 x12).f2) < 0 then (some false) else (if ((rd_T38 x11 x12).f2) > 3 then (some false) else (if ((rd_T38 x11 x12).f3) < 0 then (some false) else (if ((rd_T38 x11 x12).f3) > 199 then (some false) else (gleanerlaw30_LotsBegins.l0 k x1 x2 x10 x11 (wrap64 (x12 + 1)))))))))))) else (none)) else (if ((rd_T38 x11 x12).f0) < 1 then (some false) else (if ((rd_T38 x11 x12).f0) > 7 then (some false) else (if ((rd_T38 x11 x12).f1) < 0 then (some false) else (if ((rd_T38 x11 x12).f1) ≥ x1 then (some false) else (if ((rd_T38 x11 x12).f2) < 0 then (some false) else (if ((rd_T38 x11 x12).f2) > 3 then (some false) else (if ((rd_T38 x11 x12).f3) < 0 then (some false) else (if ((rd_T38 x11 x12).f3) > 199 then (some false) else (gleanerlaw30_LotsBegins.l0 k x1 x2 x10 x11 (wrap64 (x12 + 1)))))))))))) else (none)) else ((gleanerref14_Print.f k x11).bind fun t209 => (if t209.toList = ([] : List UInt8) then (some ((x11.length : Int) == 0)) else (some true)))
end
def gleanerlaw30_LotsBegins.f (k : Nat) (a0 : Int) (a1 : Int) (a2 : Int) (a3 : Int) : Option (Bool) := (gleanerlaw30_alive.f k).bind fun t199 => (if t199 = true then (if a1 < 1 then (gleanerlaw30_LotsBegins.j0 k a0 a1 a2 a3 t199 true) else (if a1 > 16 then (gleanerlaw30_LotsBegins.j0 k a0 a1 a2 a3 t199 true) else (if a2 < 0 then (gleanerlaw30_LotsBegins.j0 k a0 a1 a2 a3 t199 true) else (if a2 > 300 then (gleanerlaw30_LotsBegins.j0 k a0 a1 a2 a3 t199 true) else (if a3 < 0 then (gleanerlaw30_LotsBegins.j0 k a0 a1 a2 a3 t199 true) else (gleanerlaw30_LotsBegins.j0 k a0 a1 a2 a3 t199 (decide (a3 > 300)))))))) else (gleanerlaw30_LotsBegins.j0 k a0 a1 a2 a3 t199 true))
theorem gleanerlaw30_LotsBegins.mono_l : ∀ k, (∀ y0 y1 y2 y3 y4 y5, LeO (gleanerlaw30_LotsBegins.j0 k y0 y1 y2 y3 y4 y5) (gleanerlaw30_LotsBegins.j0 (k + 1) y0 y1 y2 y3 y4 y5)) ∧ (∀ y0 y1 y2 y3 y4, LeO (gleanerlaw30_LotsBegins.j1 k y0 y1 y2 y3 y4) (gleanerlaw30_LotsBegins.j1 (k + 1) y0 y1 y2 y3 y4)) ∧ (∀ y0 y1 y2 y3 y4, LeO (gleanerlaw30_LotsBegins.l0 k y0 y1 y2 y3 y4) (gleanerlaw30_LotsBegins.l0 (k + 1) y0 y1 y2 y3 y4))
  | 0 => ⟨fun _ _ _ _ _ _ r h => by simp [gleanerlaw30_LotsBegins.j0] at h, fun _ _ _ _ _ r h => by simp [gleanerlaw30_LotsBegins.j1] at h, fun _ _ _ _ _ r h => by simp [gleanerlaw30_LotsBegins.l0] at h⟩
  | k + 1 => by
    obtain ⟨ih0, ih1, ih2⟩ := gleanerlaw30_LotsBegins.mono_l k
    refine ⟨?_, ?_, ?_⟩
    · intro y0 y1 y2 y3 y4 y5
      unfold gleanerlaw30_LotsBegins.j0
      repeat' first
      | (with_reducible exact ih0 _ _ _ _ _ _)
      | (with_reducible exact ih1 _ _ _ _ _)
      | (with_reducible exact ih2 _ _ _ _ _)
      | (with_reducible exact gleanerlaw30_alive.mono _)
      | (with_reducible exact gleanerref14_Print.mono _ _)
      | (with_reducible exact lots_Script.mono _ _ _ _)
      | (with_reducible exact LeO.refl _)
      | (with_reducible exact LeO.none _)
      | (with_reducible refine LeO.ite ?_ ?_)
      | (with_reducible refine LeO.bind ?_ (fun _ => ?_))
      | exact ih0 _ _ _ _ _ _
      | exact ih1 _ _ _ _ _
      | exact ih2 _ _ _ _ _
      | exact gleanerlaw30_alive.mono _
      | exact gleanerref14_Print.mono _ _
      | exact lots_Script.mono _ _ _ _
      | exact LeO.none _
      | refine LeO.ite ?_ ?_
      | refine LeO.bind ?_ (fun _ => ?_)
    · intro y0 y1 y2 y3 y4
      unfold gleanerlaw30_LotsBegins.j1
      repeat' first
      | (with_reducible exact ih0 _ _ _ _ _ _)
      | (with_reducible exact ih1 _ _ _ _ _)
      | (with_reducible exact ih2 _ _ _ _ _)
      | (with_reducible exact gleanerlaw30_alive.mono _)
      | (with_reducible exact gleanerref14_Print.mono _ _)
      | (with_reducible exact lots_Script.mono _ _ _ _)
      | (with_reducible exact LeO.refl _)
      | (with_reducible exact LeO.none _)
      | (with_reducible refine LeO.ite ?_ ?_)
      | (with_reducible refine LeO.bind ?_ (fun _ => ?_))
      | exact ih0 _ _ _ _ _ _
      | exact ih1 _ _ _ _ _
      | exact ih2 _ _ _ _ _
      | exact gleanerlaw30_alive.mono _
      | exact gleanerref14_Print.mono _ _
      | exact lots_Script.mono _ _ _ _
      | exact LeO.none _
      | refine LeO.ite ?_ ?_
      | refine LeO.bind ?_ (fun _ => ?_)
    · intro y0 y1 y2 y3 y4
      unfold gleanerlaw30_LotsBegins.l0
      repeat' first
      | (with_reducible exact ih0 _ _ _ _ _ _)
      | (with_reducible exact ih1 _ _ _ _ _)
      | (with_reducible exact ih2 _ _ _ _ _)
      | (with_reducible exact gleanerlaw30_alive.mono _)
      | (with_reducible exact gleanerref14_Print.mono _ _)
      | (with_reducible exact lots_Script.mono _ _ _ _)
      | (with_reducible exact LeO.refl _)
      | (with_reducible exact LeO.none _)
      | (with_reducible refine LeO.ite ?_ ?_)
      | (with_reducible refine LeO.bind ?_ (fun _ => ?_))
      | exact ih0 _ _ _ _ _ _
      | exact ih1 _ _ _ _ _
      | exact ih2 _ _ _ _ _
      | exact gleanerlaw30_alive.mono _
      | exact gleanerref14_Print.mono _ _
      | exact lots_Script.mono _ _ _ _
      | exact LeO.none _
      | refine LeO.ite ?_ ?_
      | refine LeO.bind ?_ (fun _ => ?_)
theorem gleanerlaw30_LotsBegins.mono : ∀ a0 a1 a2 a3 k, LeO (gleanerlaw30_LotsBegins.f k a0 a1 a2 a3) (gleanerlaw30_LotsBegins.f (k + 1) a0 a1 a2 a3) := by
  intro a0 a1 a2 a3 k
  obtain ⟨ih0, ih1, ih2⟩ := gleanerlaw30_LotsBegins.mono_l k
  unfold gleanerlaw30_LotsBegins.f
  repeat' first
      | (with_reducible exact ih0 _ _ _ _ _ _)
      | (with_reducible exact ih1 _ _ _ _ _)
      | (with_reducible exact ih2 _ _ _ _ _)
      | (with_reducible exact gleanerlaw30_alive.mono _)
      | (with_reducible exact gleanerref14_Print.mono _ _)
      | (with_reducible exact lots_Script.mono _ _ _ _)
      | (with_reducible exact LeO.refl _)
      | (with_reducible exact LeO.none _)
      | (with_reducible refine LeO.ite ?_ ?_)
      | (with_reducible refine LeO.bind ?_ (fun _ => ?_))
      | exact ih0 _ _ _ _ _ _
      | exact ih1 _ _ _ _ _
      | exact ih2 _ _ _ _ _
      | exact gleanerlaw30_alive.mono _
      | exact gleanerref14_Print.mono _ _
      | exact lots_Script.mono _ _ _ _
      | exact LeO.none _
      | refine LeO.ite ?_ ?_
      | refine LeO.bind ?_ (fun _ => ?_)
set_option maxHeartbeats 8000000 in
set_option maxRecDepth 100000 in
theorem gleanerlaw30_LotsBegins.calls (k : Nat) (a0 : Int) (a1 : Int) (a2 : Int) (a3 : Int) (w : World) (h : gleanerlaw30_LotsBegins.f k a0 a1 a2 a3 = some true) :
    Calls Tryd.prog 5 #[.int .i64 a0, .int .i64 a1, .int .i64 a2, .int .i64 a3] w fun e w' => e = .returned (.bool true) ∧ Below w.heap.size w w' := by
  have hu38 := Tryd.underlying38
  have HB := Aside0.mk (Below.refl w.heap.size w)
  have H : ((gleanerlaw30_alive.f k).bind fun t199 => (if t199 = true then (if a1 < 1 then (gleanerlaw30_LotsBegins.j0 k a0 a1 a2 a3 t199 true) else (if a1 > 16 then (gleanerlaw30_LotsBegins.j0 k a0 a1 a2 a3 t199 true) else (if a2 < 0 then (gleanerlaw30_LotsBegins.j0 k a0 a1 a2 a3 t199 true) else (if a2 > 300 then (gleanerlaw30_LotsBegins.j0 k a0 a1 a2 a3 t199 true) else (if a3 < 0 then (gleanerlaw30_LotsBegins.j0 k a0 a1 a2 a3 t199 true) else (gleanerlaw30_LotsBegins.j0 k a0 a1 a2 a3 t199 (decide (a3 > 300)))))))) else (gleanerlaw30_LotsBegins.j0 k a0 a1 a2 a3 t199 true))) = some true := h
  clear h
  replace H := Option.bind_eq_some_iff.mp H
  obtain ⟨t199, A50, H⟩ := H
  replace H : (if t199 = true then (if a1 < 1 then (gleanerlaw30_LotsBegins.j0 k a0 a1 a2 a3 t199 true) else (if a1 > 16 then (gleanerlaw30_LotsBegins.j0 k a0 a1 a2 a3 t199 true) else (if a2 < 0 then (gleanerlaw30_LotsBegins.j0 k a0 a1 a2 a3 t199 true) else (if a2 > 300 then (gleanerlaw30_LotsBegins.j0 k a0 a1 a2 a3 t199 true) else (if a3 < 0 then (gleanerlaw30_LotsBegins.j0 k a0 a1 a2 a3 t199 true) else (gleanerlaw30_LotsBegins.j0 k a0 a1 a2 a3 t199 (decide (a3 > 300)))))))) else (gleanerlaw30_LotsBegins.j0 k a0 a1 a2 a3 t199 true)) = some true := H
  have A5 := Aside0.mk A50
  clear A50
  have HC6 := Aside0.mk H
  clear H
  go_enter Tryd.func5, Tryd.ntmps5
  go_upto_region 2 with (first | (go_at_call 6; (with_reducible refine (gleanerlaw30_alive.calls k  t199 _ A5.out).mono ?_); rintro e w7 ⟨rfl, hb⟩; have n0_ := Aside0.mk (below_step (by repeat (first | (with_reducible first | exact HB.out | apply below_alloc | apply pw_below_drewN | apply below_drew1) | exact HB.out)) hb); clear HB; have HB := n0_; clear n0_; (try clear hb); (try clear hb2); (try clear hk); (try clear hi)))
  repeat (go_quiet (first | (go_at_call 6; (with_reducible refine (gleanerlaw30_alive.calls k  t199 _ A5.out).mono ?_); rintro e w7 ⟨rfl, hb⟩; have n0_ := Aside0.mk (below_step (by repeat (first | (with_reducible first | exact HB.out | apply below_alloc | apply pw_below_drewN | apply below_drew1) | exact HB.out)) hb); clear HB; have HB := n0_; clear n0_; (try clear hb); (try clear hb2); (try clear hk); (try clear hi))); go_upto_region 2 with (first | (go_at_call 6; (with_reducible refine (gleanerlaw30_alive.calls k  t199 _ A5.out).mono ?_); rintro e w7 ⟨rfl, hb⟩; have n0_ := Aside0.mk (below_step (by repeat (first | (with_reducible first | exact HB.out | apply below_alloc | apply pw_below_drewN | apply below_drew1) | exact HB.out)) hb); clear HB; have HB := n0_; clear n0_; (try clear hb); (try clear hb2); (try clear hk); (try clear hi))))
  (try simp only [Act.put, List.setIfInBounds_toArray, List.set_cons_zero, List.set_cons_succ])
  go_cut [40] (fun v40 wc => ∃ (kq : Nat) (x40_5 : Bool), v40 = .bool x40_5 ∧ Aside0 (gleanerlaw30_LotsBegins.j0 kq a0 a1 a2 a3 t199 x40_5 = some true) ∧ Aside0 (kq ≤ k) ∧ Aside0 (Below w.heap.size w wc))
  case first =>
    have H := HC6.out
    clear HC6
    by_cases c8 : t199 = true
    · subst c8
      have H1 : (if a1 < 1 then (gleanerlaw30_LotsBegins.j0 k a0 a1 a2 a3 true true) else (if a1 > 16 then (gleanerlaw30_LotsBegins.j0 k a0 a1 a2 a3 true true) else (if a2 < 0 then (gleanerlaw30_LotsBegins.j0 k a0 a1 a2 a3 true true) else (if a2 > 300 then (gleanerlaw30_LotsBegins.j0 k a0 a1 a2 a3 true true) else (if a3 < 0 then (gleanerlaw30_LotsBegins.j0 k a0 a1 a2 a3 true true) else (gleanerlaw30_LotsBegins.j0 k a0 a1 a2 a3 true (decide (a3 > 300)))))))) = some true := by rw [if_pos rfl] at H; exact H
      clear H
      have H := H1
      clear H1
      by_cases c9 : a1 < 1
      · rw [if_pos c9] at H
        have c9b0 : decide (a1 < 1) = true := decide_eq_true c9
        clear c9
        (first | rw [c9b0] | (simp only [i64_w, i32_w]; rw [c9b0]) | skip)
        have H' := Aside0.mk H
        clear H
        go_wp2
        repeat (go_quiet (fail); try go_wp2)
        go_meet
        case rel => exact ⟨_, (true), (by first | rfl | (simp; done) | (simp [*]; done)), H', ⟨by first | omega | exact Nat.le_refl _⟩, ⟨by repeat (first | (with_reducible first | exact HB.out | apply below_alloc | apply pw_below_drewN | apply below_drew1) | exact HB.out)⟩⟩
      · rw [if_neg c9] at H
        have c9b0 : decide (a1 < 1) = false := decide_eq_false c9
        clear c9
        (first | rw [c9b0] | (simp only [i64_w, i32_w]; rw [c9b0]) | skip)
        by_cases c10 : a1 > 16
        · rw [if_pos c10] at H
          have c10b0 : decide (16 < a1) = true := decide_eq_true c10
          clear c10
          have H' := Aside0.mk H
          clear H
          go_wp2
          repeat (go_quiet (fail); try go_wp2)
          go_meet
          case rel => exact ⟨_, (true), (by first | rfl | (simp; done) | (simp [*]; done)), H', ⟨by first | omega | exact Nat.le_refl _⟩, ⟨by repeat (first | (with_reducible first | exact HB.out | apply below_alloc | apply pw_below_drewN | apply below_drew1) | exact HB.out)⟩⟩
        · rw [if_neg c10] at H
          have c10b0 : decide (16 < a1) = false := decide_eq_false c10
          clear c10
          by_cases c11 : a2 < 0
          · rw [if_pos c11] at H
            have c11b0 : decide (a2 < 0) = true := decide_eq_true c11
            clear c11
            have H' := Aside0.mk H
            clear H
            go_wp2
            repeat (go_quiet (fail); try go_wp2)
            go_meet
            case rel => exact ⟨_, (true), (by first | rfl | (simp; done) | (simp [*]; done)), H', ⟨by first | omega | exact Nat.le_refl _⟩, ⟨by repeat (first | (with_reducible first | exact HB.out | apply below_alloc | apply pw_below_drewN | apply below_drew1) | exact HB.out)⟩⟩
          · rw [if_neg c11] at H
            have c11b0 : decide (a2 < 0) = false := decide_eq_false c11
            clear c11
            by_cases c12 : a2 > 300
            · rw [if_pos c12] at H
              have c12b0 : decide (300 < a2) = true := decide_eq_true c12
              clear c12
              have H' := Aside0.mk H
              clear H
              go_wp2
              repeat (go_quiet (fail); try go_wp2)
              go_meet
              case rel => exact ⟨_, (true), (by first | rfl | (simp; done) | (simp [*]; done)), H', ⟨by first | omega | exact Nat.le_refl _⟩, ⟨by repeat (first | (with_reducible first | exact HB.out | apply below_alloc | apply pw_below_drewN | apply below_drew1) | exact HB.out)⟩⟩
            · rw [if_neg c12] at H
              have c12b0 : decide (300 < a2) = false := decide_eq_false c12
              clear c12
              by_cases c13 : a3 < 0
              · rw [if_pos c13] at H
                have c13b0 : decide (a3 < 0) = true := decide_eq_true c13
                clear c13
                have H' := Aside0.mk H
                clear H
                go_wp2
                repeat (go_quiet (fail); try go_wp2)
                go_meet
                case rel => exact ⟨_, (true), (by first | rfl | (simp; done) | (simp [*]; done)), H', ⟨by first | omega | exact Nat.le_refl _⟩, ⟨by repeat (first | (with_reducible first | exact HB.out | apply below_alloc | apply pw_below_drewN | apply below_drew1) | exact HB.out)⟩⟩
              · rw [if_neg c13] at H
                have c13b0 : decide (a3 < 0) = false := decide_eq_false c13
                clear c13
                have H' := Aside0.mk H
                clear H
                go_wp2
                repeat (go_quiet (fail); try go_wp2)
                go_meet
                case rel => exact ⟨_, (decide (a3 > 300)), (by first | rfl | (simp; done) | (simp [*]; done)), H', ⟨by first | omega | exact Nat.le_refl _⟩, ⟨by repeat (first | (with_reducible first | exact HB.out | apply below_alloc | apply pw_below_drewN | apply below_drew1) | exact HB.out)⟩⟩
    · replace c8 := Bool.eq_false_iff.mpr c8
      subst c8
      have H1 : (gleanerlaw30_LotsBegins.j0 k a0 a1 a2 a3 false true) = some true := by rw [if_neg (show ¬ (false = true) by decide)] at H; exact H
      clear H
      have H := H1
      clear H1
      have H' := Aside0.mk H
      clear H
      go_wp2
      repeat (go_quiet (fail); try go_wp2)
      go_meet
      case rel => exact ⟨_, (true), (by first | rfl | (simp; done) | (simp [*]; done)), H', ⟨by first | omega | exact Nat.le_refl _⟩, ⟨by repeat (first | (with_reducible first | exact HB.out | apply below_alloc | apply pw_below_drewN | apply below_drew1) | exact HB.out)⟩⟩
  case rest =>
    clear HC6
    try clear c1
    try clear p2
    try clear c5
    try clear c8
    try clear c9
    try clear c9b0
    try clear c10
    try clear c10b0
    try clear c11
    try clear c11b0
    try clear c12
    try clear c12b0
    try clear c13
    try clear c13b0
    obtain ⟨kq, x40_5, rfl, HA, HJ5, HB⟩ := hcut
    cases kq with
    | zero => exact absurd HA.out (by simp [gleanerlaw30_LotsBegins.j0])
    | succ kj5 =>
      have H := HA.out
      clear HA
      simp only [gleanerlaw30_LotsBegins.j0] at H
      by_cases c14 : x40_5 = true
      · subst c14
        have H1 : (some t199) = some true := by rw [if_pos rfl] at H; exact H
        clear H
        have H := H1
        clear H1
        obtain rfl := Option.some.inj H
        go_wp2
        repeat (go_quiet (fail); try go_wp2)
        go_ret
        exact ⟨by first | rfl | (simp [errW_none, errW_some] <;> rfl) | (simp [*, errW_none, errW_some] <;> rfl), by repeat (first | (with_reducible first | exact HB.out | apply below_alloc | apply pw_below_drewN | apply below_drew1) | exact HB.out)⟩
      · replace c14 := Bool.eq_false_iff.mpr c14
        subst c14
        have H1 : ((lots_Script.f kj5 a0 a1 a2).bind fun t200 => ((lots_Script.f kj5 a0 a1 (wrap64 (a2 + a3))).bind fun t203 => (if (t200.length : Int) = a2 then (gleanerlaw30_LotsBegins.j1 kj5 a1 a2 t200 t203 ((t203.length : Int) != (wrap64 (a2 + a3)))) else (gleanerlaw30_LotsBegins.j1 kj5 a1 a2 t200 t203 true)))) = some true := by rw [if_neg (show ¬ (false = true) by decide)] at H; exact H
        clear H
        have H := H1
        clear H1
        replace H := Option.bind_eq_some_iff.mp H
        obtain ⟨t200, A150, H⟩ := H
        replace H : ((lots_Script.f kj5 a0 a1 (wrap64 (a2 + a3))).bind fun t203 => (if (t200.length : Int) = a2 then (gleanerlaw30_LotsBegins.j1 kj5 a1 a2 t200 t203 ((t203.length : Int) != (wrap64 (a2 + a3)))) else (gleanerlaw30_LotsBegins.j1 kj5 a1 a2 t200 t203 true))) = some true := H
        have A15 := Aside0.mk A150
        clear A150
        replace H := Option.bind_eq_some_iff.mp H
        obtain ⟨t203, A160, H⟩ := H
        replace H : (if (t200.length : Int) = a2 then (gleanerlaw30_LotsBegins.j1 kj5 a1 a2 t200 t203 ((t203.length : Int) != (wrap64 (a2 + a3)))) else (gleanerlaw30_LotsBegins.j1 kj5 a1 a2 t200 t203 true)) = some true := H
        have A16 := Aside0.mk A160
        clear A160
        have HC17 := Aside0.mk H
        clear H
        go_upto_region 6 with (first | (go_at_call 11; (with_reducible refine (lots_Script.calls kj5 a0 a1 a2 t200 _ A15.out).mono ?_); rintro e w18 ⟨v201, rfl, ho0, hb⟩; have n0_ := Aside0.mk (Kd.R_lower ho0 (below_size (by repeat (first | (with_reducible first | exact HB.out | apply below_alloc | apply pw_below_drewN | apply below_drew1) | exact HB.out)))); have n1_ := Aside0.mk (below_step (by repeat (first | (with_reducible first | exact HB.out | apply below_alloc | apply pw_below_drewN | apply below_drew1) | exact HB.out)) hb); clear HB; have HO202 := n0_; have HB := n1_; clear n0_ n1_; (try clear hb); (try clear hb2); (try clear hk); (try clear hi); (try clear ho0)) | (go_at_call 11; (with_reducible refine (lots_Script.calls kj5 a0 a1 (wrap64 (a2 + a3)) t203 _ A16.out).mono ?_); rintro e w19 ⟨v204, rfl, ho0, hb⟩; have n0_ := Aside0.mk (Kd.R_elder' (by (with_reducible repeat (first | apply Kd.R_alloc | apply Kd.R_drewN | apply Kd.R_drew)); exact HO202.out) (Kd.R_base ho0) hb); have n1_ := Aside0.mk (Kd.R_lower (Kd.R_new' ho0 (Kd.R_lt (by (with_reducible repeat (first | apply Kd.R_alloc | apply Kd.R_drewN | apply Kd.R_drew)); exact HO202.out))) (below_size (by repeat (first | (with_reducible first | exact HB.out | apply below_alloc | apply pw_below_drewN | apply below_drew1) | exact HB.out)))); have n2_ := Aside0.mk (below_step (by repeat (first | (with_reducible first | exact HB.out | apply below_alloc | apply pw_below_drewN | apply below_drew1) | exact HB.out)) hb); clear HO202; clear HB; have HO202 := n0_; have HO205 := n1_; have HB := n2_; clear n0_ n1_ n2_; (try clear hb); (try clear hb2); (try clear hk); (try clear hi); (try clear ho0)))
        repeat (go_quiet (first | (go_at_call 11; (with_reducible refine (lots_Script.calls kj5 a0 a1 a2 t200 _ A15.out).mono ?_); rintro e w18 ⟨v201, rfl, ho0, hb⟩; have n0_ := Aside0.mk (Kd.R_lower ho0 (below_size (by repeat (first | (with_reducible first | exact HB.out | apply below_alloc | apply pw_below_drewN | apply below_drew1) | exact HB.out)))); have n1_ := Aside0.mk (below_step (by repeat (first | (with_reducible first | exact HB.out | apply below_alloc | apply pw_below_drewN | apply below_drew1) | exact HB.out)) hb); clear HB; have HO202 := n0_; have HB := n1_; clear n0_ n1_; (try clear hb); (try clear hb2); (try clear hk); (try clear hi); (try clear ho0)) | (go_at_call 11; (with_reducible refine (lots_Script.calls kj5 a0 a1 (wrap64 (a2 + a3)) t203 _ A16.out).mono ?_); rintro e w19 ⟨v204, rfl, ho0, hb⟩; have n0_ := Aside0.mk (Kd.R_elder' (by (with_reducible repeat (first | apply Kd.R_alloc | apply Kd.R_drewN | apply Kd.R_drew)); exact HO202.out) (Kd.R_base ho0) hb); have n1_ := Aside0.mk (Kd.R_lower (Kd.R_new' ho0 (Kd.R_lt (by (with_reducible repeat (first | apply Kd.R_alloc | apply Kd.R_drewN | apply Kd.R_drew)); exact HO202.out))) (below_size (by repeat (first | (with_reducible first | exact HB.out | apply below_alloc | apply pw_below_drewN | apply below_drew1) | exact HB.out)))); have n2_ := Aside0.mk (below_step (by repeat (first | (with_reducible first | exact HB.out | apply below_alloc | apply pw_below_drewN | apply below_drew1) | exact HB.out)) hb); clear HO202; clear HB; have HO202 := n0_; have HO205 := n1_; have HB := n2_; clear n0_ n1_ n2_; (try clear hb); (try clear hb2); (try clear hk); (try clear hi); (try clear ho0))); go_upto_region 6 with (first | (go_at_call 11; (with_reducible refine (lots_Script.calls kj5 a0 a1 a2 t200 _ A15.out).mono ?_); rintro e w18 ⟨v201, rfl, ho0, hb⟩; have n0_ := Aside0.mk (Kd.R_lower ho0 (below_size (by repeat (first | (with_reducible first | exact HB.out | apply below_alloc | apply pw_below_drewN | apply below_drew1) | exact HB.out)))); have n1_ := Aside0.mk (below_step (by repeat (first | (with_reducible first | exact HB.out | apply below_alloc | apply pw_below_drewN | apply below_drew1) | exact HB.out)) hb); clear HB; have HO202 := n0_; have HB := n1_; clear n0_ n1_; (try clear hb); (try clear hb2); (try clear hk); (try clear hi); (try clear ho0)) | (go_at_call 11; (with_reducible refine (lots_Script.calls kj5 a0 a1 (wrap64 (a2 + a3)) t203 _ A16.out).mono ?_); rintro e w19 ⟨v204, rfl, ho0, hb⟩; have n0_ := Aside0.mk (Kd.R_elder' (by (with_reducible repeat (first | apply Kd.R_alloc | apply Kd.R_drewN | apply Kd.R_drew)); exact HO202.out) (Kd.R_base ho0) hb); have n1_ := Aside0.mk (Kd.R_lower (Kd.R_new' ho0 (Kd.R_lt (by (with_reducible repeat (first | apply Kd.R_alloc | apply Kd.R_drewN | apply Kd.R_drew)); exact HO202.out))) (below_size (by repeat (first | (with_reducible first | exact HB.out | apply below_alloc | apply pw_below_drewN | apply below_drew1) | exact HB.out)))); have n2_ := Aside0.mk (below_step (by repeat (first | (with_reducible first | exact HB.out | apply below_alloc | apply pw_below_drewN | apply below_drew1) | exact HB.out)) hb); clear HO202; clear HB; have HO202 := n0_; have HO205 := n1_; have HB := n2_; clear n0_ n1_ n2_; (try clear hb); (try clear hb2); (try clear hk); (try clear hi); (try clear ho0))))
        (try simp only [Act.put, List.setIfInBounds_toArray, List.set_cons_zero, List.set_cons_succ])
        go_cut [63] (fun v63 wc => ∃ (kq : Nat) (x63_16 : Bool), v63 = .bool x63_16 ∧ Aside0 (gleanerlaw30_LotsBegins.j1 kq a1 a2 t200 t203 x63_16 = some true) ∧ Aside0 (kq ≤ kj5) ∧ Aside0 (Kd.R k38 38 wc w.heap.size (fun k_ => some k_ ≠ (v204 : Value).ownBlock) v201 t200) ∧ Aside0 (Kd.R k38 38 wc w.heap.size (fun k_ => some k_ ≠ (v201 : Value).ownBlock) v204 t203) ∧ Aside0 (Below w.heap.size w wc))
        case first =>
          have H := HC17.out
          clear HC17
          by_cases c20 : (t200.length : Int) = a2
          · rw [if_pos c20] at H
            have c20b0 : ((t200.length : Int) == a2) = true := beq_iff_eq.mpr c20
            have c20b1 : ((t200.length : Int) != a2) = false := bne_eq_false_iff_eq.mpr c20
            clear c20
            (first | rw [c20b0] | (simp only [i64_w, i32_w]; rw [c20b0]) | skip)
            have H' := Aside0.mk H
            clear H
            obtain ⟨Ao21, co21, eo21⟩ := Kd.R_slice HO202.out
            subst eo21
            obtain ⟨Ao22, co22, eo22⟩ := Kd.R_slice HO205.out
            subst eo22
            go_wp2
            repeat (go_quiet (fail); try go_wp2)
            go_meet
            case rel => exact ⟨_, (((t203.length : Int) != (wrap64 (a2 + a3)))), (by first | rfl | (simp; done) | (simp [*]; done)), H', ⟨by have := HJ5.out; first | omega | exact Nat.le_refl _⟩, ⟨by (with_reducible repeat (first | apply Kd.R_alloc | apply Kd.R_drewN | apply Kd.R_drew)); exact Kd.R_mono HO202.out (fun _ hk => hk.2)⟩, ⟨by (with_reducible repeat (first | apply Kd.R_alloc | apply Kd.R_drewN | apply Kd.R_drew)); exact Kd.R_mono HO205.out (fun _ hk => hk.2)⟩, ⟨by repeat (first | (with_reducible first | exact HB.out | apply below_alloc | apply pw_below_drewN | apply below_drew1) | exact HB.out)⟩⟩
          · rw [if_neg c20] at H
            have c20b0 : ((t200.length : Int) == a2) = false := beq_eq_false_iff_ne.mpr c20
            have c20b1 : ((t200.length : Int) != a2) = true := bne_iff_ne.mpr c20
            (first | rw [c20b0] | (simp only [i64_w, i32_w]; rw [c20b0]) | skip)
            have H' := Aside0.mk H
            clear H
            obtain ⟨Ao23, co23, eo23⟩ := Kd.R_slice HO202.out
            subst eo23
            go_wp2
            repeat (go_quiet (fail); try go_wp2)
            go_meet
            case rel => exact ⟨_, (true), (by first | rfl | (simp; done) | (simp [*]; done)), H', ⟨by have := HJ5.out; first | omega | exact Nat.le_refl _⟩, ⟨by (with_reducible repeat (first | apply Kd.R_alloc | apply Kd.R_drewN | apply Kd.R_drew)); exact Kd.R_mono HO202.out (fun _ hk => hk.2)⟩, ⟨by (with_reducible repeat (first | apply Kd.R_alloc | apply Kd.R_drewN | apply Kd.R_drew)); exact Kd.R_mono HO205.out (fun _ hk => hk.2)⟩, ⟨by repeat (first | (with_reducible first | exact HB.out | apply below_alloc | apply pw_below_drewN | apply below_drew1) | exact HB.out)⟩⟩
        case rest =>
          clear HC17
          try clear c1
          try clear c2
          try clear p2
          try clear c5
          try clear p6
          try clear c8
          try clear c9
          try clear c9b0
          try clear c10
          try clear c10b0
          try clear c11
          try clear c11b0
          try clear c12
          try clear c12b0
          try clear c13
          try clear c13b0
          try clear c14
          try clear c20
          try clear c20b0
          try clear c20b1
          try clear p2
          obtain ⟨kq, x63_16, rfl, HA, HJ16, HO_10, HO_11, HB⟩ := hcut
          cases kq with
          | zero => exact absurd HA.out (by simp [gleanerlaw30_LotsBegins.j1])
          | succ kj16 =>
            have H := HA.out
            clear HA
            simp only [gleanerlaw30_LotsBegins.j1] at H
            by_cases c24 : x63_16 = true
            · subst c24
              have H1 : (some false) = some true := by rw [if_pos rfl] at H; exact H
              clear H
              have H := H1
              clear H1
              exact absurd H (by simp)
            · replace c24 := Bool.eq_false_iff.mpr c24
              subst c24
              have H1 : (gleanerlaw30_LotsBegins.l0 kj16 a1 a2 t200 t203 0) = some true := by rw [if_neg (show ¬ (false = true) by decide)] at H; exact H
              clear H
              have H := H1
              clear H1
              have H' := Aside0.mk H
              clear H
              go_wp2
              repeat (go_quiet (fail); try go_wp2)
              go_loopg [12] kj16 (fun kq v12 w' => ∃ (x12_3 : Int), v12 = .int .i64 x12_3 ∧ Aside0 (gleanerlaw30_LotsBegins.l0 kq a1 a2 t200 t203 x12_3 = some true) ∧ Aside0 (kq ≤ kj16) ∧ Aside0 (Kd.R k38 38 w' w.heap.size (fun k_ => some k_ ≠ (v204 : Value).ownBlock) v201 t200) ∧ Aside0 (Kd.R k38 38 w' w.heap.size (fun k_ => some k_ ≠ (v201 : Value).ownBlock) v204 t203) ∧ Aside0 (Below w.heap.size w w'))
              case atStart => exact ⟨(0), (by first | rfl | (simp; done) | (simp [*]; done)), H', ⟨Nat.le_refl _⟩, ⟨by (with_reducible repeat (first | apply Kd.R_alloc | apply Kd.R_drewN | apply Kd.R_drew)); exact HO_10.out⟩, ⟨by (with_reducible repeat (first | apply Kd.R_alloc | apply Kd.R_drewN | apply Kd.R_drew)); exact HO_11.out⟩, ⟨by repeat (first | (with_reducible first | exact HB.out | apply below_alloc | apply pw_below_drewN | apply below_drew1) | exact HB.out)⟩⟩
              case round =>
                clear H'
                try clear c1
                try clear c2
                try clear p2
                try clear c5
                try clear p6
                try clear c8
                try clear c9
                try clear c9b0
                try clear c10
                try clear c10b0
                try clear c11
                try clear c11b0
                try clear c12
                try clear c12b0
                try clear c13
                try clear c13b0
                try clear c14
                try clear c20
                try clear c20b0
                try clear c20b1
                try clear c24
                try clear p2
                try clear p6
                obtain ⟨x12_3, rfl, HA, HK3, HO_10, HO_11, HB⟩ := hrel
                cases gk with
                | zero => exact absurd HA.out (by simp [gleanerlaw30_LotsBegins.l0])
                | succ k3 =>
                  have H := HA.out
                  clear HA
                  simp only [gleanerlaw30_LotsBegins.l0] at H
                  by_cases c25 : x12_3 < (t203.length : Int)
                  · rw [if_pos c25] at H
                    have c25b0 : decide (x12_3 < (t203.length : Int)) = true := decide_eq_true c25
                    clear c25
                    by_cases c26 : 0 ≤ x12_3
                    · rw [if_pos c26] at H
                      have c26b0 : decide (0 ≤ x12_3) = true := decide_eq_true c26
                      clear c26
                      by_cases c27 : x12_3 < a2
                      · rw [if_pos c27] at H
                        have c27b0 : decide (x12_3 < a2) = true := decide_eq_true c27
                        clear c27
                        by_cases c28 : x12_3 < (t200.length : Int)
                        · rw [if_pos c28] at H
                          have c28b0 : decide (x12_3 < (t200.length : Int)) = true := decide_eq_true c28
                          clear c28
                          by_cases c29 : (!(((rd_T38 t200 x12_3).f0) == ((rd_T38 t203 x12_3).f0)) || (!(((rd_T38 t200 x12_3).f1) == ((rd_T38 t203 x12_3).f1)) || (!(((rd_T38 t200 x12_3).f2) == ((rd_T38 t203 x12_3).f2)) || (!(((rd_T38 t200 x12_3).f3) == ((rd_T38 t203 x12_3).f3)))))) = true
                          · rw [if_pos c29] at H
                            have c29b0 : (!(((rd_T38 t200 x12_3).f0) == ((rd_T38 t203 x12_3).f0)) || (!(((rd_T38 t200 x12_3).f1) == ((rd_T38 t203 x12_3).f1)) || (!(((rd_T38 t200 x12_3).f2) == ((rd_T38 t203 x12_3).f2)) || (!(((rd_T38 t200 x12_3).f3) == ((rd_T38 t203 x12_3).f3)))))) = true := c29
                            clear c29
                            exact absurd H (by simp)
                          · rw [if_neg c29] at H
                            have c29b0 : (!(((rd_T38 t200 x12_3).f0) == ((rd_T38 t203 x12_3).f0)) || (!(((rd_T38 t200 x12_3).f1) == ((rd_T38 t203 x12_3).f1)) || (!(((rd_T38 t200 x12_3).f2) == ((rd_T38 t203 x12_3).f2)) || (!(((rd_T38 t200 x12_3).f3) == ((rd_T38 t203 x12_3).f3)))))) = false := by simpa using c29
                            clear c29
                            by_cases c34 : ((rd_T38 t203 x12_3).f0) < 1
                            · rw [if_pos c34] at H
                              have c34b0 : decide (((rd_T38 t203 x12_3).f0) < 1) = true := decide_eq_true c34
                              clear c34
                              exact absurd H (by simp)
                            · rw [if_neg c34] at H
                              have c34b0 : decide (((rd_T38 t203 x12_3).f0) < 1) = false := decide_eq_false c34
                              clear c34
                              by_cases c39 : ((rd_T38 t203 x12_3).f0) > 7
                              · rw [if_pos c39] at H
                                have c39b0 : decide (7 < ((rd_T38 t203 x12_3).f0)) = true := decide_eq_true c39
                                clear c39
                                exact absurd H (by simp)
                              · rw [if_neg c39] at H
                                have c39b0 : decide (7 < ((rd_T38 t203 x12_3).f0)) = false := decide_eq_false c39
                                clear c39
                                by_cases c44 : ((rd_T38 t203 x12_3).f1) < 0
                                · rw [if_pos c44] at H
                                  have c44b0 : decide (((rd_T38 t203 x12_3).f1) < 0) = true := decide_eq_true c44
                                  clear c44
                                  exact absurd H (by simp)
                                · rw [if_neg c44] at H
                                  have c44b0 : decide (((rd_T38 t203 x12_3).f1) < 0) = false := decide_eq_false c44
                                  clear c44
                                  by_cases c49 : ((rd_T38 t203 x12_3).f1) ≥ a1
                                  · rw [if_pos c49] at H
                                    have c49b0 : decide (a1 ≤ ((rd_T38 t203 x12_3).f1)) = true := decide_eq_true c49
                                    clear c49
                                    exact absurd H (by simp)
                                  · rw [if_neg c49] at H
                                    have c49b0 : decide (a1 ≤ ((rd_T38 t203 x12_3).f1)) = false := decide_eq_false c49
                                    clear c49
                                    by_cases c54 : ((rd_T38 t203 x12_3).f2) < 0
                                    · rw [if_pos c54] at H
                                      have c54b0 : decide (((rd_T38 t203 x12_3).f2) < 0) = true := decide_eq_true c54
                                      clear c54
                                      exact absurd H (by simp)
                                    · rw [if_neg c54] at H
                                      have c54b0 : decide (((rd_T38 t203 x12_3).f2) < 0) = false := decide_eq_false c54
                                      clear c54
                                      by_cases c59 : ((rd_T38 t203 x12_3).f2) > 3
                                      · rw [if_pos c59] at H
                                        have c59b0 : decide (3 < ((rd_T38 t203 x12_3).f2)) = true := decide_eq_true c59
                                        clear c59
                                        exact absurd H (by simp)
                                      · rw [if_neg c59] at H
                                        have c59b0 : decide (3 < ((rd_T38 t203 x12_3).f2)) = false := decide_eq_false c59
                                        clear c59
                                        by_cases c64 : ((rd_T38 t203 x12_3).f3) < 0
                                        · rw [if_pos c64] at H
                                          have c64b0 : decide (((rd_T38 t203 x12_3).f3) < 0) = true := decide_eq_true c64
                                          clear c64
                                          exact absurd H (by simp)
                                        · rw [if_neg c64] at H
                                          have c64b0 : decide (((rd_T38 t203 x12_3).f3) < 0) = false := decide_eq_false c64
                                          clear c64
                                          by_cases c69 : ((rd_T38 t203 x12_3).f3) > 199
                                          · rw [if_pos c69] at H
                                            have c69b0 : decide (199 < ((rd_T38 t203 x12_3).f3)) = true := decide_eq_true c69
                                            clear c69
                                            exact absurd H (by simp)
                                          · rw [if_neg c69] at H
                                            have c69b0 : decide (199 < ((rd_T38 t203 x12_3).f3)) = false := decide_eq_false c69
                                            clear c69
                                            have H' := Aside0.mk H
                                            clear H
                                            obtain ⟨Ao74, co74, eo74⟩ := Kd.R_slice HO_11.out
                                            subst eo74
                                            have p206 : 0 ≤ (x12_3 : Int) := of_decide_eq_true (by first | (with_reducible assumption) | assumption)
                                            have q206 : x12_3 < (t203.length : Int) := of_decide_eq_true (by first | (with_reducible assumption) | assumption)
                                            obtain ⟨ad206, e206, hx206_0, hx206_1, hx206_2, hx206_3⟩ := at_T38 (Kd.R_reads' HO_11.out).2.2 x12_3 p206 q206
                                            cases e206
                                            replace p206 := eq_true p206
                                            replace q206 := eq_true q206
                                            go_wp2_with (first | ((with_reducible refine gate_dst (N := 13) rfl ?_); (try (refine gate_guard (by rfl) ?_; dsimp only)); refine box_event ?hg (N := 13) ?hd (cs := #[.int .i64 0, .int .i64 0, .int .i64 0, .int .i64 0]) (t := 38) ?hr ?_; (case hd => rfl); (case hg => rfl); (case hr => first | (go_simp; done) | (go_simp; rfl)); intro gb207 hg w75 hbox hb; have n0_ := Aside0.mk (Kd.R_below (Kd.R_elderB (by (with_reducible repeat (first | apply Kd.R_alloc | apply Kd.R_drewN | apply Kd.R_drew)); exact HO_10.out) gb207 (Nat.le_of_eq hg.symm)) hb); have n1_ := Aside0.mk (Kd.R_below (Kd.R_elderB (by (with_reducible repeat (first | apply Kd.R_alloc | apply Kd.R_drewN | apply Kd.R_drew)); exact HO_11.out) gb207 (Nat.le_of_eq hg.symm)) hb); have n2_ := Aside0.mk (below_step (by repeat (first | (with_reducible first | exact HB.out | apply below_alloc | apply pw_below_drewN | apply below_drew1) | exact HB.out)) hb); have n3_ := Aside0.mk (hbox); have n4_ := Aside0.mk ((by rw [hg]; exact (below_size (by repeat (first | (with_reducible first | exact HB.out | apply below_alloc | apply pw_below_drewN | apply below_drew1) | exact HB.out))) : w.heap.size ≤ gb207)); have n5_ := Aside0.mk ((by rw [hg]; exact (below_size (by repeat (first | (with_reducible first | exact HB.out | apply below_alloc | apply pw_below_drewN | apply below_drew1) | exact HB.out))) : w.heap.size ≤ gb207)); clear HO_10; clear HO_11; clear HB; have HO_10 := n0_; have HO_11 := n1_; have HB := n2_; have BK207 := n3_; have GW207 := n4_; have GE207 := n5_; clear n0_ n1_ n2_ n3_ n4_ n5_; clear hb hbox hg; have hcz76_0 : w75.cell? ⟨gb207, 0, none⟩ = some (.int .i64 0) := (blk_cell BK207.out 0).trans rfl; have hcz76_1 : w75.cell? ⟨gb207, 1, none⟩ = some (.int .i64 0) := (blk_cell BK207.out 1).trans rfl; have hcz76_2 : w75.cell? ⟨gb207, 2, none⟩ = some (.int .i64 0) := (blk_cell BK207.out 2).trans rfl; have hcz76_3 : w75.cell? ⟨gb207, 3, none⟩ = some (.int .i64 0) := (blk_cell BK207.out 3).trans rfl; have hfz76_0 := blk_frozen BK207.out 0; have hfz76_1 := blk_frozen BK207.out 1; have hfz76_2 := blk_frozen BK207.out 2; have hfz76_3 := blk_frozen BK207.out 3; obtain ⟨Ao77, co77, eo77⟩ := Kd.R_slice HO_10.out; subst eo77; have p208 : 0 ≤ (x12_3 : Int) := of_decide_eq_true (by first | (with_reducible assumption) | assumption); have q208 : x12_3 < (t200.length : Int) := of_decide_eq_true (by first | (with_reducible assumption) | assumption); obtain ⟨ad208, e208, hx208_0, hx208_1, hx208_2, hx208_3⟩ := at_T38 (Kd.R_reads' HO_10.out).2.2 x12_3 p208 q208; cases e208; have hn208_0 : ad208.block ≠ gb207 := Kd.own_blk (Kd.R_away HO_10.out (fun _ hk => hk.2)); have hn208_1 : ad208.block ≠ gb207 := Kd.own_blk (Kd.R_away HO_10.out (fun _ hk => hk.2)); have hn208_2 : ad208.block ≠ gb207 := Kd.own_blk (Kd.R_away HO_10.out (fun _ hk => hk.2)); have hn208_3 : ad208.block ≠ gb207 := Kd.own_blk (Kd.R_away HO_10.out (fun _ hk => hk.2)); replace hx208_0 := (cell_far (p := ⟨gb207, 0, none⟩) (by first | (rw [add_block]; exact hn208_0) | (show (Addr.add _ _).block ≠ _; rw [add_block]; exact hn208_0) | exact hn208_0) (.int .i64 ((rd_T38 t203 x12_3).f0))).trans hx208_0; replace hx208_1 := (cell_far (p := ⟨gb207, 0, none⟩) (by first | (rw [add_block]; exact hn208_0) | (show (Addr.add _ _).block ≠ _; rw [add_block]; exact hn208_0) | exact hn208_0) (.int .i64 ((rd_T38 t203 x12_3).f0))).trans hx208_1; replace hx208_2 := (cell_far (p := ⟨gb207, 0, none⟩) (by first | (rw [add_block]; exact hn208_0) | (show (Addr.add _ _).block ≠ _; rw [add_block]; exact hn208_0) | exact hn208_0) (.int .i64 ((rd_T38 t203 x12_3).f0))).trans hx208_2; replace hx208_3 := (cell_far (p := ⟨gb207, 0, none⟩) (by first | (rw [add_block]; exact hn208_0) | (show (Addr.add _ _).block ≠ _; rw [add_block]; exact hn208_0) | exact hn208_0) (.int .i64 ((rd_T38 t203 x12_3).f0))).trans hx208_3; replace hx208_0 := (cell_far (p := ⟨gb207, 1, none⟩) (by first | (rw [add_block]; exact hn208_1) | (show (Addr.add _ _).block ≠ _; rw [add_block]; exact hn208_1) | exact hn208_1) (.int .i64 ((rd_T38 t203 x12_3).f1))).trans hx208_0; replace hx208_1 := (cell_far (p := ⟨gb207, 1, none⟩) (by first | (rw [add_block]; exact hn208_1) | (show (Addr.add _ _).block ≠ _; rw [add_block]; exact hn208_1) | exact hn208_1) (.int .i64 ((rd_T38 t203 x12_3).f1))).trans hx208_1; replace hx208_2 := (cell_far (p := ⟨gb207, 1, none⟩) (by first | (rw [add_block]; exact hn208_1) | (show (Addr.add _ _).block ≠ _; rw [add_block]; exact hn208_1) | exact hn208_1) (.int .i64 ((rd_T38 t203 x12_3).f1))).trans hx208_2; replace hx208_3 := (cell_far (p := ⟨gb207, 1, none⟩) (by first | (rw [add_block]; exact hn208_1) | (show (Addr.add _ _).block ≠ _; rw [add_block]; exact hn208_1) | exact hn208_1) (.int .i64 ((rd_T38 t203 x12_3).f1))).trans hx208_3; replace hx208_0 := (cell_far (p := ⟨gb207, 2, none⟩) (by first | (rw [add_block]; exact hn208_2) | (show (Addr.add _ _).block ≠ _; rw [add_block]; exact hn208_2) | exact hn208_2) (.int .i64 ((rd_T38 t203 x12_3).f2))).trans hx208_0; replace hx208_1 := (cell_far (p := ⟨gb207, 2, none⟩) (by first | (rw [add_block]; exact hn208_2) | (show (Addr.add _ _).block ≠ _; rw [add_block]; exact hn208_2) | exact hn208_2) (.int .i64 ((rd_T38 t203 x12_3).f2))).trans hx208_1; replace hx208_2 := (cell_far (p := ⟨gb207, 2, none⟩) (by first | (rw [add_block]; exact hn208_2) | (show (Addr.add _ _).block ≠ _; rw [add_block]; exact hn208_2) | exact hn208_2) (.int .i64 ((rd_T38 t203 x12_3).f2))).trans hx208_2; replace hx208_3 := (cell_far (p := ⟨gb207, 2, none⟩) (by first | (rw [add_block]; exact hn208_2) | (show (Addr.add _ _).block ≠ _; rw [add_block]; exact hn208_2) | exact hn208_2) (.int .i64 ((rd_T38 t203 x12_3).f2))).trans hx208_3; replace hx208_0 := (cell_far (p := ⟨gb207, 3, none⟩) (by first | (rw [add_block]; exact hn208_3) | (show (Addr.add _ _).block ≠ _; rw [add_block]; exact hn208_3) | exact hn208_3) (.int .i64 ((rd_T38 t203 x12_3).f3))).trans hx208_0; replace hx208_1 := (cell_far (p := ⟨gb207, 3, none⟩) (by first | (rw [add_block]; exact hn208_3) | (show (Addr.add _ _).block ≠ _; rw [add_block]; exact hn208_3) | exact hn208_3) (.int .i64 ((rd_T38 t203 x12_3).f3))).trans hx208_1; replace hx208_2 := (cell_far (p := ⟨gb207, 3, none⟩) (by first | (rw [add_block]; exact hn208_3) | (show (Addr.add _ _).block ≠ _; rw [add_block]; exact hn208_3) | exact hn208_3) (.int .i64 ((rd_T38 t203 x12_3).f3))).trans hx208_2; replace hx208_3 := (cell_far (p := ⟨gb207, 3, none⟩) (by first | (rw [add_block]; exact hn208_3) | (show (Addr.add _ _).block ≠ _; rw [add_block]; exact hn208_3) | exact hn208_3) (.int .i64 ((rd_T38 t203 x12_3).f3))).trans hx208_3; (try have hy208_0 := fun (n_ : Nat) => (show ((((((w75.drewN n_).setCell ⟨gb207, 0, none⟩ (.int .i64 ((rd_T38 t203 x12_3).f0))).setCell ⟨gb207, 1, none⟩ (.int .i64 ((rd_T38 t203 x12_3).f1))).setCell ⟨gb207, 2, none⟩ (.int .i64 ((rd_T38 t203 x12_3).f2))).setCell ⟨gb207, 3, none⟩ (.int .i64 ((rd_T38 t203 x12_3).f3)))).cell? _ = some _ from hx208_0)); (try have hy208_1 := fun (n_ : Nat) => (show ((((((w75.drewN n_).setCell ⟨gb207, 0, none⟩ (.int .i64 ((rd_T38 t203 x12_3).f0))).setCell ⟨gb207, 1, none⟩ (.int .i64 ((rd_T38 t203 x12_3).f1))).setCell ⟨gb207, 2, none⟩ (.int .i64 ((rd_T38 t203 x12_3).f2))).setCell ⟨gb207, 3, none⟩ (.int .i64 ((rd_T38 t203 x12_3).f3)))).cell? _ = some _ from hx208_1)); (try have hy208_2 := fun (n_ : Nat) => (show ((((((w75.drewN n_).setCell ⟨gb207, 0, none⟩ (.int .i64 ((rd_T38 t203 x12_3).f0))).setCell ⟨gb207, 1, none⟩ (.int .i64 ((rd_T38 t203 x12_3).f1))).setCell ⟨gb207, 2, none⟩ (.int .i64 ((rd_T38 t203 x12_3).f2))).setCell ⟨gb207, 3, none⟩ (.int .i64 ((rd_T38 t203 x12_3).f3)))).cell? _ = some _ from hx208_2)); (try have hy208_3 := fun (n_ : Nat) => (show ((((((w75.drewN n_).setCell ⟨gb207, 0, none⟩ (.int .i64 ((rd_T38 t203 x12_3).f0))).setCell ⟨gb207, 1, none⟩ (.int .i64 ((rd_T38 t203 x12_3).f1))).setCell ⟨gb207, 2, none⟩ (.int .i64 ((rd_T38 t203 x12_3).f2))).setCell ⟨gb207, 3, none⟩ (.int .i64 ((rd_T38 t203 x12_3).f3)))).cell? _ = some _ from hx208_3)); clear hn208_0; clear hn208_1; clear hn208_2; clear hn208_3; replace p208 := eq_true p208; replace q208 := eq_true q208))
                                            repeat (go_quiet (fail); try go_wp2)
                                            go_roundg k3
                                            case measure => have := HJ5.out; have := HJ16.out; have := HK3.out; omega
                                            case rel => exact ⟨(wrap64 (x12_3 + 1)), (by first | rfl | (simp; done) | (simp [*]; done)), H', ⟨by have := HJ5.out; have := HJ16.out; have := HK3.out; omega⟩, ⟨by (with_reducible repeat (first | apply Kd.R_alloc | apply Kd.R_drewN | apply Kd.R_drew)); exact Kd.R_mono (Kd.R_far (p := ⟨gb207, 3, none⟩) (Kd.R_far (p := ⟨gb207, 2, none⟩) (Kd.R_far (p := ⟨gb207, 1, none⟩) (Kd.R_far (p := ⟨gb207, 0, none⟩) (Kd.R_mono HO_10.out (fun k_ hk => (⟨hk, hk.2⟩ : _ ∧ k_ ≠ gb207))) (fun _ hk => hk.2) (.int .i64 ((rd_T38 t203 x12_3).f0))) (fun _ hk => hk.2) (.int .i64 ((rd_T38 t203 x12_3).f1))) (fun _ hk => hk.2) (.int .i64 ((rd_T38 t203 x12_3).f2))) (fun _ hk => hk.2) (.int .i64 ((rd_T38 t203 x12_3).f3))) (fun _ hk => hk.1.1)⟩, ⟨by (with_reducible repeat (first | apply Kd.R_alloc | apply Kd.R_drewN | apply Kd.R_drew)); exact Kd.R_mono (Kd.R_far (p := ⟨gb207, 3, none⟩) (Kd.R_far (p := ⟨gb207, 2, none⟩) (Kd.R_far (p := ⟨gb207, 1, none⟩) (Kd.R_far (p := ⟨gb207, 0, none⟩) (Kd.R_mono HO_11.out (fun k_ hk => (⟨hk, hk.2⟩ : _ ∧ k_ ≠ gb207))) (fun _ hk => hk.2) (.int .i64 ((rd_T38 t203 x12_3).f0))) (fun _ hk => hk.2) (.int .i64 ((rd_T38 t203 x12_3).f1))) (fun _ hk => hk.2) (.int .i64 ((rd_T38 t203 x12_3).f2))) (fun _ hk => hk.2) (.int .i64 ((rd_T38 t203 x12_3).f3))) (fun _ hk => hk.1.1)⟩, ⟨by repeat (first | (with_reducible first | exact HB.out | apply below_alloc | apply pw_below_drewN | apply below_drew1 | refine below_set ?_ GE207.out) | exact HB.out)⟩⟩
                        · rw [if_neg c28] at H
                          exact absurd H (by simp)
                      · rw [if_neg c27] at H
                        have c27b0 : decide (x12_3 < a2) = false := decide_eq_false c27
                        clear c27
                        by_cases c78 : ((rd_T38 t203 x12_3).f0) < 1
                        · rw [if_pos c78] at H
                          have c78b0 : decide (((rd_T38 t203 x12_3).f0) < 1) = true := decide_eq_true c78
                          clear c78
                          exact absurd H (by simp)
                        · rw [if_neg c78] at H
                          have c78b0 : decide (((rd_T38 t203 x12_3).f0) < 1) = false := decide_eq_false c78
                          clear c78
                          by_cases c82 : ((rd_T38 t203 x12_3).f0) > 7
                          · rw [if_pos c82] at H
                            have c82b0 : decide (7 < ((rd_T38 t203 x12_3).f0)) = true := decide_eq_true c82
                            clear c82
                            exact absurd H (by simp)
                          · rw [if_neg c82] at H
                            have c82b0 : decide (7 < ((rd_T38 t203 x12_3).f0)) = false := decide_eq_false c82
                            clear c82
                            by_cases c86 : ((rd_T38 t203 x12_3).f1) < 0
                            · rw [if_pos c86] at H
                              have c86b0 : decide (((rd_T38 t203 x12_3).f1) < 0) = true := decide_eq_true c86
                              clear c86
                              exact absurd H (by simp)
                            · rw [if_neg c86] at H
                              have c86b0 : decide (((rd_T38 t203 x12_3).f1) < 0) = false := decide_eq_false c86
                              clear c86
                              by_cases c90 : ((rd_T38 t203 x12_3).f1) ≥ a1
                              · rw [if_pos c90] at H
                                have c90b0 : decide (a1 ≤ ((rd_T38 t203 x12_3).f1)) = true := decide_eq_true c90
                                clear c90
                                exact absurd H (by simp)
                              · rw [if_neg c90] at H
                                have c90b0 : decide (a1 ≤ ((rd_T38 t203 x12_3).f1)) = false := decide_eq_false c90
                                clear c90
                                by_cases c94 : ((rd_T38 t203 x12_3).f2) < 0
                                · rw [if_pos c94] at H
                                  have c94b0 : decide (((rd_T38 t203 x12_3).f2) < 0) = true := decide_eq_true c94
                                  clear c94
                                  exact absurd H (by simp)
                                · rw [if_neg c94] at H
                                  have c94b0 : decide (((rd_T38 t203 x12_3).f2) < 0) = false := decide_eq_false c94
                                  clear c94
                                  by_cases c98 : ((rd_T38 t203 x12_3).f2) > 3
                                  · rw [if_pos c98] at H
                                    have c98b0 : decide (3 < ((rd_T38 t203 x12_3).f2)) = true := decide_eq_true c98
                                    clear c98
                                    exact absurd H (by simp)
                                  · rw [if_neg c98] at H
                                    have c98b0 : decide (3 < ((rd_T38 t203 x12_3).f2)) = false := decide_eq_false c98
                                    clear c98
                                    by_cases c102 : ((rd_T38 t203 x12_3).f3) < 0
                                    · rw [if_pos c102] at H
                                      have c102b0 : decide (((rd_T38 t203 x12_3).f3) < 0) = true := decide_eq_true c102
                                      clear c102
                                      exact absurd H (by simp)
                                    · rw [if_neg c102] at H
                                      have c102b0 : decide (((rd_T38 t203 x12_3).f3) < 0) = false := decide_eq_false c102
                                      clear c102
                                      by_cases c106 : ((rd_T38 t203 x12_3).f3) > 199
                                      · rw [if_pos c106] at H
                                        have c106b0 : decide (199 < ((rd_T38 t203 x12_3).f3)) = true := decide_eq_true c106
                                        clear c106
                                        exact absurd H (by simp)
                                      · rw [if_neg c106] at H
                                        have c106b0 : decide (199 < ((rd_T38 t203 x12_3).f3)) = false := decide_eq_false c106
                                        clear c106
                                        have H' := Aside0.mk H
                                        clear H
                                        obtain ⟨Ao110, co110, eo110⟩ := Kd.R_slice HO_11.out
                                        subst eo110
                                        have p206 : 0 ≤ (x12_3 : Int) := of_decide_eq_true (by first | (with_reducible assumption) | assumption)
                                        have q206 : x12_3 < (t203.length : Int) := of_decide_eq_true (by first | (with_reducible assumption) | assumption)
                                        obtain ⟨ad206, e206, hx206_0, hx206_1, hx206_2, hx206_3⟩ := at_T38 (Kd.R_reads' HO_11.out).2.2 x12_3 p206 q206
                                        cases e206
                                        replace p206 := eq_true p206
                                        replace q206 := eq_true q206
                                        go_wp2_with (first | ((with_reducible refine gate_dst (N := 13) rfl ?_); (try (refine gate_guard (by rfl) ?_; dsimp only)); refine box_event ?hg (N := 13) ?hd (cs := #[.int .i64 0, .int .i64 0, .int .i64 0, .int .i64 0]) (t := 38) ?hr ?_; (case hd => rfl); (case hg => rfl); (case hr => first | (go_simp; done) | (go_simp; rfl)); intro gb207 hg w111 hbox hb; have n0_ := Aside0.mk (Kd.R_below (Kd.R_elderB (by (with_reducible repeat (first | apply Kd.R_alloc | apply Kd.R_drewN | apply Kd.R_drew)); exact HO_10.out) gb207 (Nat.le_of_eq hg.symm)) hb); have n1_ := Aside0.mk (Kd.R_below (Kd.R_elderB (by (with_reducible repeat (first | apply Kd.R_alloc | apply Kd.R_drewN | apply Kd.R_drew)); exact HO_11.out) gb207 (Nat.le_of_eq hg.symm)) hb); have n2_ := Aside0.mk (below_step (by repeat (first | (with_reducible first | exact HB.out | apply below_alloc | apply pw_below_drewN | apply below_drew1) | exact HB.out)) hb); have n3_ := Aside0.mk (hbox); have n4_ := Aside0.mk ((by rw [hg]; exact (below_size (by repeat (first | (with_reducible first | exact HB.out | apply below_alloc | apply pw_below_drewN | apply below_drew1) | exact HB.out))) : w.heap.size ≤ gb207)); have n5_ := Aside0.mk ((by rw [hg]; exact (below_size (by repeat (first | (with_reducible first | exact HB.out | apply below_alloc | apply pw_below_drewN | apply below_drew1) | exact HB.out))) : w.heap.size ≤ gb207)); clear HO_10; clear HO_11; clear HB; have HO_10 := n0_; have HO_11 := n1_; have HB := n2_; have BK207 := n3_; have GW207 := n4_; have GE207 := n5_; clear n0_ n1_ n2_ n3_ n4_ n5_; clear hb hbox hg; have hcz112_0 : w111.cell? ⟨gb207, 0, none⟩ = some (.int .i64 0) := (blk_cell BK207.out 0).trans rfl; have hcz112_1 : w111.cell? ⟨gb207, 1, none⟩ = some (.int .i64 0) := (blk_cell BK207.out 1).trans rfl; have hcz112_2 : w111.cell? ⟨gb207, 2, none⟩ = some (.int .i64 0) := (blk_cell BK207.out 2).trans rfl; have hcz112_3 : w111.cell? ⟨gb207, 3, none⟩ = some (.int .i64 0) := (blk_cell BK207.out 3).trans rfl; have hfz112_0 := blk_frozen BK207.out 0; have hfz112_1 := blk_frozen BK207.out 1; have hfz112_2 := blk_frozen BK207.out 2; have hfz112_3 := blk_frozen BK207.out 3))
                                        repeat (go_quiet (first | ((with_reducible refine gate_dst (N := 13) rfl ?_); (try (refine gate_guard (by rfl) ?_; dsimp only)); refine box_event ?hg (N := 13) ?hd (cs := #[.int .i64 0, .int .i64 0, .int .i64 0, .int .i64 0]) (t := 38) ?hr ?_; (case hd => rfl); (case hg => rfl); (case hr => first | (go_simp; done) | (go_simp; rfl)); intro gb207 hg w111 hbox hb; have n0_ := Aside0.mk (Kd.R_below (Kd.R_elderB (by (with_reducible repeat (first | apply Kd.R_alloc | apply Kd.R_drewN | apply Kd.R_drew)); exact HO_10.out) gb207 (Nat.le_of_eq hg.symm)) hb); have n1_ := Aside0.mk (Kd.R_below (Kd.R_elderB (by (with_reducible repeat (first | apply Kd.R_alloc | apply Kd.R_drewN | apply Kd.R_drew)); exact HO_11.out) gb207 (Nat.le_of_eq hg.symm)) hb); have n2_ := Aside0.mk (below_step (by repeat (first | (with_reducible first | exact HB.out | apply below_alloc | apply pw_below_drewN | apply below_drew1) | exact HB.out)) hb); have n3_ := Aside0.mk (hbox); have n4_ := Aside0.mk ((by rw [hg]; exact (below_size (by repeat (first | (with_reducible first | exact HB.out | apply below_alloc | apply pw_below_drewN | apply below_drew1) | exact HB.out))) : w.heap.size ≤ gb207)); have n5_ := Aside0.mk ((by rw [hg]; exact (below_size (by repeat (first | (with_reducible first | exact HB.out | apply below_alloc | apply pw_below_drewN | apply below_drew1) | exact HB.out))) : w.heap.size ≤ gb207)); clear HO_10; clear HO_11; clear HB; have HO_10 := n0_; have HO_11 := n1_; have HB := n2_; have BK207 := n3_; have GW207 := n4_; have GE207 := n5_; clear n0_ n1_ n2_ n3_ n4_ n5_; clear hb hbox hg; have hcz112_0 : w111.cell? ⟨gb207, 0, none⟩ = some (.int .i64 0) := (blk_cell BK207.out 0).trans rfl; have hcz112_1 : w111.cell? ⟨gb207, 1, none⟩ = some (.int .i64 0) := (blk_cell BK207.out 1).trans rfl; have hcz112_2 : w111.cell? ⟨gb207, 2, none⟩ = some (.int .i64 0) := (blk_cell BK207.out 2).trans rfl; have hcz112_3 : w111.cell? ⟨gb207, 3, none⟩ = some (.int .i64 0) := (blk_cell BK207.out 3).trans rfl; have hfz112_0 := blk_frozen BK207.out 0; have hfz112_1 := blk_frozen BK207.out 1; have hfz112_2 := blk_frozen BK207.out 2; have hfz112_3 := blk_frozen BK207.out 3)); try go_wp2_with (first | ((with_reducible refine gate_dst (N := 13) rfl ?_); (try (refine gate_guard (by rfl) ?_; dsimp only)); refine box_event ?hg (N := 13) ?hd (cs := #[.int .i64 0, .int .i64 0, .int .i64 0, .int .i64 0]) (t := 38) ?hr ?_; (case hd => rfl); (case hg => rfl); (case hr => first | (go_simp; done) | (go_simp; rfl)); intro gb207 hg w111 hbox hb; have n0_ := Aside0.mk (Kd.R_below (Kd.R_elderB (by (with_reducible repeat (first | apply Kd.R_alloc | apply Kd.R_drewN | apply Kd.R_drew)); exact HO_10.out) gb207 (Nat.le_of_eq hg.symm)) hb); have n1_ := Aside0.mk (Kd.R_below (Kd.R_elderB (by (with_reducible repeat (first | apply Kd.R_alloc | apply Kd.R_drewN | apply Kd.R_drew)); exact HO_11.out) gb207 (Nat.le_of_eq hg.symm)) hb); have n2_ := Aside0.mk (below_step (by repeat (first | (with_reducible first | exact HB.out | apply below_alloc | apply pw_below_drewN | apply below_drew1) | exact HB.out)) hb); have n3_ := Aside0.mk (hbox); have n4_ := Aside0.mk ((by rw [hg]; exact (below_size (by repeat (first | (with_reducible first | exact HB.out | apply below_alloc | apply pw_below_drewN | apply below_drew1) | exact HB.out))) : w.heap.size ≤ gb207)); have n5_ := Aside0.mk ((by rw [hg]; exact (below_size (by repeat (first | (with_reducible first | exact HB.out | apply below_alloc | apply pw_below_drewN | apply below_drew1) | exact HB.out))) : w.heap.size ≤ gb207)); clear HO_10; clear HO_11; clear HB; have HO_10 := n0_; have HO_11 := n1_; have HB := n2_; have BK207 := n3_; have GW207 := n4_; have GE207 := n5_; clear n0_ n1_ n2_ n3_ n4_ n5_; clear hb hbox hg; have hcz112_0 : w111.cell? ⟨gb207, 0, none⟩ = some (.int .i64 0) := (blk_cell BK207.out 0).trans rfl; have hcz112_1 : w111.cell? ⟨gb207, 1, none⟩ = some (.int .i64 0) := (blk_cell BK207.out 1).trans rfl; have hcz112_2 : w111.cell? ⟨gb207, 2, none⟩ = some (.int .i64 0) := (blk_cell BK207.out 2).trans rfl; have hcz112_3 : w111.cell? ⟨gb207, 3, none⟩ = some (.int .i64 0) := (blk_cell BK207.out 3).trans rfl; have hfz112_0 := blk_frozen BK207.out 0; have hfz112_1 := blk_frozen BK207.out 1; have hfz112_2 := blk_frozen BK207.out 2; have hfz112_3 := blk_frozen BK207.out 3)))
                                        go_roundg k3
                                        case measure => have := HJ5.out; have := HJ16.out; have := HK3.out; omega
                                        case rel => exact ⟨(wrap64 (x12_3 + 1)), (by first | rfl | (simp; done) | (simp [*]; done)), H', ⟨by have := HJ5.out; have := HJ16.out; have := HK3.out; omega⟩, ⟨by (with_reducible repeat (first | apply Kd.R_alloc | apply Kd.R_drewN | apply Kd.R_drew)); exact Kd.R_mono (Kd.R_far (p := ⟨gb207, 3, none⟩) (Kd.R_far (p := ⟨gb207, 2, none⟩) (Kd.R_far (p := ⟨gb207, 1, none⟩) (Kd.R_far (p := ⟨gb207, 0, none⟩) (Kd.R_mono HO_10.out (fun k_ hk => (⟨hk, hk.2⟩ : _ ∧ k_ ≠ gb207))) (fun _ hk => hk.2) (.int .i64 ((rd_T38 t203 x12_3).f0))) (fun _ hk => hk.2) (.int .i64 ((rd_T38 t203 x12_3).f1))) (fun _ hk => hk.2) (.int .i64 ((rd_T38 t203 x12_3).f2))) (fun _ hk => hk.2) (.int .i64 ((rd_T38 t203 x12_3).f3))) (fun _ hk => hk.1.1)⟩, ⟨by (with_reducible repeat (first | apply Kd.R_alloc | apply Kd.R_drewN | apply Kd.R_drew)); exact Kd.R_mono (Kd.R_far (p := ⟨gb207, 3, none⟩) (Kd.R_far (p := ⟨gb207, 2, none⟩) (Kd.R_far (p := ⟨gb207, 1, none⟩) (Kd.R_far (p := ⟨gb207, 0, none⟩) (Kd.R_mono HO_11.out (fun k_ hk => (⟨hk, hk.2⟩ : _ ∧ k_ ≠ gb207))) (fun _ hk => hk.2) (.int .i64 ((rd_T38 t203 x12_3).f0))) (fun _ hk => hk.2) (.int .i64 ((rd_T38 t203 x12_3).f1))) (fun _ hk => hk.2) (.int .i64 ((rd_T38 t203 x12_3).f2))) (fun _ hk => hk.2) (.int .i64 ((rd_T38 t203 x12_3).f3))) (fun _ hk => hk.1.1)⟩, ⟨by repeat (first | (with_reducible first | exact HB.out | apply below_alloc | apply pw_below_drewN | apply below_drew1 | refine below_set ?_ GE207.out) | exact HB.out)⟩⟩
                    · rw [if_neg c26] at H
                      exact absurd H (by simp)
                  · rw [if_neg c25] at H
                    have c25b0 : decide (x12_3 < (t203.length : Int)) = false := decide_eq_false c25
                    clear c25
                    replace H := Option.bind_eq_some_iff.mp H
                    obtain ⟨t209, A1130, H⟩ := H
                    replace H : (if t209.toList = ([] : List UInt8) then (some ((t203.length : Int) == 0)) else (some true)) = some true := H
                    have A113 := Aside0.mk A1130
                    clear A1130
                    by_cases c114 : t209.toList = ([] : List UInt8)
                    · rw [if_pos c114] at H
                      have c114b0 : (t209.toList == ([] : List UInt8)) = true := beq_iff_eq.mpr c114
                      have c114b1 : (t209.toList != ([] : List UInt8)) = false := bne_eq_false_iff_eq.mpr c114
                      clear c114
                      have hans := Aside0.mk (Option.some.inj H)
                      clear H
                      obtain ⟨Ao115, co115, eo115⟩ := Kd.R_slice HO_11.out
                      subst eo115
                      go_wp2_with (first | (go_at_call 13; (with_reducible refine (gleanerref14_Print.calls k3 _ _ t203 t209 _ ?side1 ?side2 A113.out).mono ?_); (case side1 => repeat (first | exact (Kd.R_reads' HO_11.out).2.2 | (with_reducible refine Kd.C_alloc ?_ _) | (with_reducible refine Kd.C_drewN ?_ _) | (with_reducible refine Kd.C_drew ?_))); (case side2 => exact (Kd.R_reads' HO_11.out).2.1); rintro e w116 ⟨rfl, hb⟩; have n0_ := Aside0.mk (Kd.R_below (by (with_reducible repeat (first | apply Kd.R_alloc | apply Kd.R_drewN | apply Kd.R_drew)); exact HO_10.out) hb); have n1_ := Aside0.mk (Kd.R_below (by (with_reducible repeat (first | apply Kd.R_alloc | apply Kd.R_drewN | apply Kd.R_drew)); exact HO_11.out) hb); have n2_ := Aside0.mk (below_step (by repeat (first | (with_reducible first | exact HB.out | apply below_alloc | apply pw_below_drewN | apply below_drew1) | exact HB.out)) hb); clear HO_10; clear HO_11; clear HB; have HO_10 := n0_; have HO_11 := n1_; have HB := n2_; clear n0_ n1_ n2_; (try clear hb); (try clear hb2); (try clear hk); (try clear hi)))
                      repeat (go_quiet (first | (go_at_call 13; (with_reducible refine (gleanerref14_Print.calls k3 _ _ t203 t209 _ ?side1 ?side2 A113.out).mono ?_); (case side1 => repeat (first | exact (Kd.R_reads' HO_11.out).2.2 | (with_reducible refine Kd.C_alloc ?_ _) | (with_reducible refine Kd.C_drewN ?_ _) | (with_reducible refine Kd.C_drew ?_))); (case side2 => exact (Kd.R_reads' HO_11.out).2.1); rintro e w116 ⟨rfl, hb⟩; have n0_ := Aside0.mk (Kd.R_below (by (with_reducible repeat (first | apply Kd.R_alloc | apply Kd.R_drewN | apply Kd.R_drew)); exact HO_10.out) hb); have n1_ := Aside0.mk (Kd.R_below (by (with_reducible repeat (first | apply Kd.R_alloc | apply Kd.R_drewN | apply Kd.R_drew)); exact HO_11.out) hb); have n2_ := Aside0.mk (below_step (by repeat (first | (with_reducible first | exact HB.out | apply below_alloc | apply pw_below_drewN | apply below_drew1) | exact HB.out)) hb); clear HO_10; clear HO_11; clear HB; have HO_10 := n0_; have HO_11 := n1_; have HB := n2_; clear n0_ n1_ n2_; (try clear hb); (try clear hb2); (try clear hk); (try clear hi))); try go_wp2_with (first | (go_at_call 13; (with_reducible refine (gleanerref14_Print.calls k3 _ _ t203 t209 _ ?side1 ?side2 A113.out).mono ?_); (case side1 => repeat (first | exact (Kd.R_reads' HO_11.out).2.2 | (with_reducible refine Kd.C_alloc ?_ _) | (with_reducible refine Kd.C_drewN ?_ _) | (with_reducible refine Kd.C_drew ?_))); (case side2 => exact (Kd.R_reads' HO_11.out).2.1); rintro e w116 ⟨rfl, hb⟩; have n0_ := Aside0.mk (Kd.R_below (by (with_reducible repeat (first | apply Kd.R_alloc | apply Kd.R_drewN | apply Kd.R_drew)); exact HO_10.out) hb); have n1_ := Aside0.mk (Kd.R_below (by (with_reducible repeat (first | apply Kd.R_alloc | apply Kd.R_drewN | apply Kd.R_drew)); exact HO_11.out) hb); have n2_ := Aside0.mk (below_step (by repeat (first | (with_reducible first | exact HB.out | apply below_alloc | apply pw_below_drewN | apply below_drew1) | exact HB.out)) hb); clear HO_10; clear HO_11; clear HB; have HO_10 := n0_; have HO_11 := n1_; have HB := n2_; clear n0_ n1_ n2_; (try clear hb); (try clear hb2); (try clear hk); (try clear hi))))
                      go_ret
                      exact ⟨by refine Eq.trans (b := Ending.returned (Value.bool ((t203.length : Int) == 0))) ?_ (congrArg (fun b => Ending.returned (Value.bool b)) hans.out); first | rfl | (simp [errW_none, errW_some] <;> rfl) | (simp [*, errW_none, errW_some] <;> rfl), by repeat (first | (with_reducible first | exact HB.out | apply below_alloc | apply pw_below_drewN | apply below_drew1) | exact HB.out)⟩
                    · rw [if_neg c114] at H
                      have c114b0 : (t209.toList == ([] : List UInt8)) = false := beq_eq_false_iff_ne.mpr c114
                      have c114b1 : (t209.toList != ([] : List UInt8)) = true := bne_iff_ne.mpr c114
                      clear H
                      obtain ⟨Ao117, co117, eo117⟩ := Kd.R_slice HO_11.out
                      subst eo117
                      go_wp2_with (first | (go_at_call 13; (with_reducible refine (gleanerref14_Print.calls k3 _ _ t203 t209 _ ?side1 ?side2 A113.out).mono ?_); (case side1 => repeat (first | exact (Kd.R_reads' HO_11.out).2.2 | (with_reducible refine Kd.C_alloc ?_ _) | (with_reducible refine Kd.C_drewN ?_ _) | (with_reducible refine Kd.C_drew ?_))); (case side2 => exact (Kd.R_reads' HO_11.out).2.1); rintro e w118 ⟨rfl, hb⟩; have n0_ := Aside0.mk (Kd.R_below (by (with_reducible repeat (first | apply Kd.R_alloc | apply Kd.R_drewN | apply Kd.R_drew)); exact HO_10.out) hb); have n1_ := Aside0.mk (Kd.R_below (by (with_reducible repeat (first | apply Kd.R_alloc | apply Kd.R_drewN | apply Kd.R_drew)); exact HO_11.out) hb); have n2_ := Aside0.mk (below_step (by repeat (first | (with_reducible first | exact HB.out | apply below_alloc | apply pw_below_drewN | apply below_drew1) | exact HB.out)) hb); clear HO_10; clear HO_11; clear HB; have HO_10 := n0_; have HO_11 := n1_; have HB := n2_; clear n0_ n1_ n2_; (try clear hb); (try clear hb2); (try clear hk); (try clear hi)))
                      repeat (go_quiet (first | (go_at_call 13; (with_reducible refine (gleanerref14_Print.calls k3 _ _ t203 t209 _ ?side1 ?side2 A113.out).mono ?_); (case side1 => repeat (first | exact (Kd.R_reads' HO_11.out).2.2 | (with_reducible refine Kd.C_alloc ?_ _) | (with_reducible refine Kd.C_drewN ?_ _) | (with_reducible refine Kd.C_drew ?_))); (case side2 => exact (Kd.R_reads' HO_11.out).2.1); rintro e w118 ⟨rfl, hb⟩; have n0_ := Aside0.mk (Kd.R_below (by (with_reducible repeat (first | apply Kd.R_alloc | apply Kd.R_drewN | apply Kd.R_drew)); exact HO_10.out) hb); have n1_ := Aside0.mk (Kd.R_below (by (with_reducible repeat (first | apply Kd.R_alloc | apply Kd.R_drewN | apply Kd.R_drew)); exact HO_11.out) hb); have n2_ := Aside0.mk (below_step (by repeat (first | (with_reducible first | exact HB.out | apply below_alloc | apply pw_below_drewN | apply below_drew1) | exact HB.out)) hb); clear HO_10; clear HO_11; clear HB; have HO_10 := n0_; have HO_11 := n1_; have HB := n2_; clear n0_ n1_ n2_; (try clear hb); (try clear hb2); (try clear hk); (try clear hi))); try go_wp2_with (first | (go_at_call 13; (with_reducible refine (gleanerref14_Print.calls k3 _ _ t203 t209 _ ?side1 ?side2 A113.out).mono ?_); (case side1 => repeat (first | exact (Kd.R_reads' HO_11.out).2.2 | (with_reducible refine Kd.C_alloc ?_ _) | (with_reducible refine Kd.C_drewN ?_ _) | (with_reducible refine Kd.C_drew ?_))); (case side2 => exact (Kd.R_reads' HO_11.out).2.1); rintro e w118 ⟨rfl, hb⟩; have n0_ := Aside0.mk (Kd.R_below (by (with_reducible repeat (first | apply Kd.R_alloc | apply Kd.R_drewN | apply Kd.R_drew)); exact HO_10.out) hb); have n1_ := Aside0.mk (Kd.R_below (by (with_reducible repeat (first | apply Kd.R_alloc | apply Kd.R_drewN | apply Kd.R_drew)); exact HO_11.out) hb); have n2_ := Aside0.mk (below_step (by repeat (first | (with_reducible first | exact HB.out | apply below_alloc | apply pw_below_drewN | apply below_drew1) | exact HB.out)) hb); clear HO_10; clear HO_11; clear HB; have HO_10 := n0_; have HO_11 := n1_; have HB := n2_; clear n0_ n1_ n2_; (try clear hb); (try clear hb2); (try clear hk); (try clear hi))))
                      go_ret
                      exact ⟨by first | rfl | (simp [errW_none, errW_some] <;> rfl) | (simp [*, errW_none, errW_some] <;> rfl), by repeat (first | (with_reducible first | exact HB.out | apply below_alloc | apply pw_below_drewN | apply below_drew1) | exact HB.out)⟩

/-- THE ONE PURE STATEMENT of gleanerlaw30_LotsBegins: yours. -/
def gleanerlaw30_LotsBegins.Pure : Prop := ∀ (a0 : Int) (a1 : Int) (a2 : Int) (a3 : Int), (Lit.int .i64 a0).wf = true → (Lit.int .i64 a1).wf = true → (Lit.int .i64 a2).wf = true → (Lit.int .i64 a3).wf = true → ∃ k, gleanerlaw30_LotsBegins.f k a0 a1 a2 a3 = some true
theorem gleanerlaw30_LotsBegins.walk (P : gleanerlaw30_LotsBegins.Pure) (a0 : Int) (a1 : Int) (a2 : Int) (a3 : Int) (w : World) (w0 : (Lit.int .i64 a0).wf = true) (w1 : (Lit.int .i64 a1).wf = true) (w2 : (Lit.int .i64 a2).wf = true) (w3 : (Lit.int .i64 a3).wf = true) :
    Calls Tryd.prog 5 #[.int .i64 a0, .int .i64 a1, .int .i64 a2, .int .i64 a3] w fun e w' => e = .returned (.bool true) ∧ Below w.heap.size w w' := by
  obtain ⟨k, h⟩ := P a0 a1 a2 a3 w0 w1 w2 w3
  refine (gleanerlaw30_LotsBegins.calls k a0 a1 a2 a3 w h).mono ?_
  rintro e w' ⟨rfl, hd⟩
  exact ⟨rfl, hd⟩

end Go.Proofs.YtmikfnmbjpfgnaaDoor.Q
