/- The plain law of scripts that begin alike: steps are ones that there are, and their print is not empty. Conditions: none. -/
import Derived.Test.YtmikfnmbjpfgnaaDoorLots
import Derived.Test.YtmikfnmbjpfgnaaDoorQ4
import Derived.Laws.BitsLemmas
import Derived.Laws.Strings
import Derived.KernelRfl
namespace Go.Proofs.YtmikfnmbjpfgnaaDoor.Q
open Go.RowKit Go.Proofs.YtmikfnmbjpfgnaaDoorW.PrintWords Go.Proofs.YtmikfnmbjpfgnaaDoorW.PrintLast Go.Proofs.YtmikfnmbjpfgnaaDoorW.PrintMore

theorem and32 (n : Int) : Go.bits .and .i64 n 4294967295 = n % 4294967296 := by
  have h127 : (BitVec.ofInt 64 4294967295).toNat = 2 ^ 32 - 1 := by decide
  have key : (BitVec.ofInt 64 n &&& BitVec.ofInt 64 4294967295).toNat = (n % ((2 ^ 64 : Nat) : Int)).toNat % 2 ^ 32 := by
    rw [BitVec.toNat_and, BitVec.toNat_ofInt, h127, Nat.and_two_pow_sub_one_eq_mod]
  show Go.IntKind.i64.wrap ((BitVec.ofInt 64 n &&& BitVec.ofInt 64 4294967295).toNat : Nat) = n % 4294967296
  rw [key, Go.IntKind.wrap_i64]
  omega

theorem drw_bounds {s a : Int} (h : 1 ≤ a) : 0 ≤ drw s a ∧ drw s a < a := by
  have h0 : 0 ≤ nxt s := by
    unfold nxt
    rw [and32]
    omega
  have h1 : 0 ≤ nxt s / 256 := by omega
  unfold drw
  rw [Int.tmod_eq_emod_of_nonneg h1]
  exact ⟨Int.emod_nonneg _ (by omega), Int.emod_lt_of_pos _ (by omega)⟩

/-- The steps that there are. -/
inductive Fine (m : Int) : S38 → Prop
  | work {a} : 0 ≤ a → a < m → Fine m ⟨1, a, 0, 0⟩
  | tick : Fine m ⟨2, 0, 0, 0⟩
  | deliver {a} : 0 ≤ a → a ≤ 3 → Fine m ⟨3, 0, a, 0⟩
  | drop {a} : 0 ≤ a → a ≤ 3 → Fine m ⟨4, 0, a, 0⟩
  | dup {a} : 0 ≤ a → a ≤ 3 → Fine m ⟨5, 0, a, 0⟩
  | flip {a b} : 0 ≤ a → a ≤ 3 → 0 ≤ b → b ≤ 199 → Fine m ⟨6, 0, a, b⟩
  | crash {a} : 0 ≤ a → a < m → Fine m ⟨7, a, 0, 0⟩

theorem stepOf_fine {m s : Int} (hm : 1 ≤ m) : Fine m (stepOf m s).2 := by
  have b1 := drw_bounds (s := nxt s) hm
  have b2 := drw_bounds (s := nxt s) h4
  have b3 := drw_bounds (s := nxt (nxt s)) h200
  unfold stepOf
  repeat' split
  · exact .work b1.1 b1.2
  · exact .tick
  · exact .deliver b2.1 (by omega)
  · exact .drop b2.1 (by omega)
  · exact .dup b2.1 (by omega)
  · exact .flip b2.1 (by omega) b3.1 (by omega)
  · exact .crash b1.1 b1.2

theorem Fine.bounds {m : Int} {x : S38} (h : Fine m x) (hm : 1 ≤ m) : 1 ≤ x.f0 ∧ x.f0 ≤ 7 ∧ 0 ≤ x.f1 ∧ x.f1 < m ∧ 0 ≤ x.f2 ∧ x.f2 ≤ 3 ∧ 0 ≤ x.f3 ∧ x.f3 ≤ 199 := by
  cases h <;> refine ⟨?_, ?_, ?_, ?_, ?_, ?_, ?_, ?_⟩ <;> simp only <;> omega

theorem runOf_fine {m : Int} (hm : 1 ≤ m) : ∀ (n : Nat) (s : Int) (i : Nat), i < n → Fine m ((runOf m n s).getD i z38)
  | n + 1, s, 0, _ => by simpa [runOf] using stepOf_fine hm
  | n + 1, s, i + 1, h => by simpa [runOf] using runOf_fine hm n (stepOf m s).1 i (by omega)

theorem runOf_begin {m : Int} (e : Nat) : ∀ (n : Nat) (s : Int) (i : Nat), i < n → (runOf m (n + e) s).getD i z38 = (runOf m n s).getD i z38
  | n + 1, s, 0, _ => by rw [show n + 1 + e = (n + e) + 1 by omega]; rfl
  | n + 1, s, i + 1, h => by
    rw [show n + 1 + e = (n + e) + 1 by omega]
    simpa [runOf] using runOf_begin e n (stepOf m s).1 i (by omega)

/-! ### The print -/

theorem digitsRuns : true = (List.range 200).all fun n => match gleanerref1_Digits.f 4 (n : Int) with
    | some t => Nat.ble t.size 3
    | none => false := by kernel_rfl

theorem digitsOf {n : Int} (h0 : 0 ≤ n) (h1 : n ≤ 199) {k : Nat} (hk : 4 ≤ k) : ∃ t, gleanerref1_Digits.f k n = some t ∧ t.size ≤ 3 := by
  have h := List.all_eq_true.1 digitsRuns.symm n.toNat (List.mem_range.2 (by omega))
  rw [show ((n.toNat : Nat) : Int) = n by omega] at h
  split at h
  · rename_i t ht
    exact ⟨t, at_rounds (fun k => gleanerref1_Digits.mono n k) hk ht, Nat.le_of_ble_eq_true h⟩
  · exact absurd h (by decide)

section
variable {K : Nat} {M : List S38} {s w f line t : ByteArray} {i j c0 c1 c2 c3 : Int}

theorem print_n (hj : j < (f.size : Int)) (h0 : 0 ≤ j) (hb : bt f j = 110) (hi0 : 0 ≤ i) (hi : i < (M.length : Int)) (hl : line.size ≤ 1000) (hd : gleanerref1_Digits.f K (rd_T38 M i).f1 = some t) (ht : t.size ≤ 3) :
    gleanerref14_Print.l1 (K + 1) M s i w f line j c0 c1 c2 c3 = gleanerref14_Print.l1 K M s i w f ((line ++ (⟨#[32]⟩ : ByteArray)) ++ t) (wrap64 (j + 1)) c0 (rd_T38 M i).f1 c2 c3 := by
  have e1 : (⟨#[32]⟩ : ByteArray).size = 1 := rfl
  rw [gleanerref14_Print.l1, if_pos hj, if_pos h0, if_pos hb, if_pos hi0, if_pos hi, if_pos (by omega), hd]
  simp only [Option.bind_some]
  rw [if_pos (by rw [ByteArray.size_append, e1]; omega)]

theorem print_k (hj : j < (f.size : Int)) (h0 : 0 ≤ j) (hb : bt f j = 107) (hi0 : 0 ≤ i) (hi : i < (M.length : Int)) (hl : line.size ≤ 1000) (hd : gleanerref1_Digits.f K (rd_T38 M i).f2 = some t) (ht : t.size ≤ 3) :
    gleanerref14_Print.l1 (K + 1) M s i w f line j c0 c1 c2 c3 = gleanerref14_Print.l1 K M s i w f ((line ++ (⟨#[32]⟩ : ByteArray)) ++ t) (wrap64 (j + 1)) c0 c1 (rd_T38 M i).f2 c3 := by
  have e1 : (⟨#[32]⟩ : ByteArray).size = 1 := rfl
  rw [gleanerref14_Print.l1, if_pos hj, if_pos h0, if_neg (by omega), if_pos hb, if_pos hi0, if_pos hi, if_pos (by omega), hd]
  simp only [Option.bind_some]
  rw [if_pos (by rw [ByteArray.size_append, e1]; omega)]

theorem print_b (hj : j < (f.size : Int)) (h0 : 0 ≤ j) (hb : bt f j = 98) (hi0 : 0 ≤ i) (hi : i < (M.length : Int)) (hl : line.size ≤ 1000) (hd : gleanerref1_Digits.f K (rd_T38 M i).f3 = some t) (ht : t.size ≤ 3) :
    gleanerref14_Print.l1 (K + 1) M s i w f line j c0 c1 c2 c3 = gleanerref14_Print.l1 K M s i w f ((line ++ (⟨#[32]⟩ : ByteArray)) ++ t) (wrap64 (j + 1)) c0 c1 c2 (rd_T38 M i).f3 := by
  have e1 : (⟨#[32]⟩ : ByteArray).size = 1 := rfl
  rw [gleanerref14_Print.l1, if_pos hj, if_pos h0, if_neg (by omega), if_neg (by omega), if_pos hi0, if_pos hi, if_pos (by omega), hd]
  simp only [Option.bind_some]
  rw [if_pos (by rw [ByteArray.size_append, e1]; omega)]

theorem print_end (hj : ¬ j < (f.size : Int)) (hw : ¬ w.toList = []) (hi0 : 0 ≤ i) (hi : i < (M.length : Int)) (hc : rd_T38 M i = ⟨c0, c1, c2, c3⟩) (hl : line.size ≤ 1000) (hs : s.size ≤ 1000000) :
    gleanerref14_Print.l1 (K + 1) M s i w f line j c0 c1 c2 c3 = gleanerref14_Print.l0 K M ((s ++ line) ++ (⟨#[10]⟩ : ByteArray)) (wrap64 (i + 1)) := by
  rw [gleanerref14_Print.l1, if_neg hj, if_neg hw, if_pos hi0, if_pos hi, if_neg (by rw [hc]; simp), if_pos (by omega), if_pos (by rw [ByteArray.size_append]; omega)]

theorem print_begin (hi0 : 0 ≤ i) (hi : i < (M.length : Int)) {x : S38} (hx : rd_T38 M i = x) (hw : gleanerref14_word.f x.f0 = some (w, f)) :
    gleanerref14_Print.l0 (K + 1) M s i = gleanerref14_Print.l1 K M s i w f w 0 x.f0 0 0 0 := by
  rw [gleanerref14_Print.l0, if_pos hi, if_pos hi0, hx, hw]
  rfl
end

theorem word_ne (b : UInt8) (l : List UInt8) : ¬ (ByteArray.mk (b :: l).toArray).toList = [] := by
  rw [ByteArray.toList_mk]
  simp

theorem more_print {M : List S38} {s : ByteArray} {i : Int} {K K' : Nat} (h : K ≤ K') {r : ByteArray} (hr : gleanerref14_Print.l0 K M s i = some r) : gleanerref14_Print.l0 K' M s i = some r :=
  at_rounds (g := fun k => gleanerref14_Print.l0 k M s i) (fun k => (gleanerref14_Print.mono_l k).1 M s i) h hr

theorem wrap01 : wrap64 (0 + 1) = 1 := by unfold wrap64; omega
theorem wrap11 : wrap64 (1 + 1) = 2 := by unfold wrap64; omega

theorem size_line (a b c : ByteArray) : (a ++ b ++ c).size = a.size + b.size + c.size := by rw [ByteArray.size_append, ByteArray.size_append]

theorem print_step {m : Int} {K : Nat} {M : List S38} {s : ByteArray} {i : Int} (hm : m ≤ 16) (hi0 : 0 ≤ i) (hi : i < (M.length : Int)) (hbig : i ≤ 100000) (hK : 4 ≤ K) (hf : Fine m (rd_T38 M i)) (hs : s.size ≤ 1000000) :
    ∃ s' : ByteArray, s.size + 1 ≤ s'.size ∧ s'.size ≤ s.size + 40 ∧ ∀ r, gleanerref14_Print.l0 K M s' (i + 1) = some r → gleanerref14_Print.l0 (K + 4) M s i = some r := by
  have e32 : (⟨#[32]⟩ : ByteArray).size = 1 := rfl
  have e10 : (⟨#[10]⟩ : ByteArray).size = 1 := rfl
  have hwr := wrap_one hi0 hbig
  generalize hx : rd_T38 M i = x at hf
  have hone : ∀ (w f : ByteArray) (kind a b c : Int) (K' : Nat) (line : ByteArray) (j : Int), ¬ j < (f.size : Int) → ¬ w.toList = [] → rd_T38 M i = ⟨kind, a, b, c⟩ → line.size ≤ 30 → K + 1 ≤ K' → ∀ r, gleanerref14_Print.l0 K M ((s ++ line) ++ (⟨#[10]⟩ : ByteArray)) (i + 1) = some r → gleanerref14_Print.l1 K' M s i w f line j kind a b c = some r := by
    intro w f kind a b c K' line j h1 h2 h3 h4 h5 r hr
    obtain ⟨q, rfl⟩ : ∃ q, K' = q + 1 := ⟨K' - 1, by omega⟩
    rw [print_end h1 h2 hi0 hi h3 (by omega) hs, hwr]
    exact more_print (by omega) hr
  cases hf with
  | work h0 h1 =>
    rename_i a
    obtain ⟨t, ht, hts⟩ := digitsOf h0 (by omega : a ≤ 199) (show 4 ≤ K + 2 by omega)
    refine ⟨(s ++ (((⟨#[119, 111, 114, 107]⟩ : ByteArray) ++ (⟨#[32]⟩ : ByteArray)) ++ t)) ++ (⟨#[10]⟩ : ByteArray), ?_, ?_, fun r hr => ?_⟩
    · rw [size_line, e10]; omega
    · rw [size_line, size_line, e10, e32, show (⟨#[119, 111, 114, 107]⟩ : ByteArray).size = 4 from rfl]; omega
    · rw [print_begin hi0 hi hx (w := ⟨#[119, 111, 114, 107]⟩) (f := ⟨#[110]⟩) rfl, print_n (by decide) (by decide) (by decide) hi0 hi (by decide) (by rw [hx]; exact ht) hts, wrap01, hx]
      exact hone _ _ _ _ _ _ _ _ _ (by decide) (word_ne _ _) hx (by rw [size_line, e32, show (⟨#[119, 111, 114, 107]⟩ : ByteArray).size = 4 from rfl]; omega) (by omega) r hr
  | tick =>
    refine ⟨(s ++ (⟨#[116, 105, 99, 107]⟩ : ByteArray)) ++ (⟨#[10]⟩ : ByteArray), ?_, ?_, fun r hr => ?_⟩
    · rw [size_line, e10]; omega
    · rw [size_line, e10, show (⟨#[116, 105, 99, 107]⟩ : ByteArray).size = 4 from rfl]; omega
    · rw [print_begin hi0 hi hx (w := ⟨#[116, 105, 99, 107]⟩) (f := ⟨#[]⟩) rfl]
      exact hone _ _ _ _ _ _ _ _ _ (by decide) (word_ne _ _) hx (by decide) (by omega) r hr
  | deliver h0 h1 =>
    rename_i a
    obtain ⟨t, ht, hts⟩ := digitsOf h0 (by omega : a ≤ 199) (show 4 ≤ K + 2 by omega)
    refine ⟨(s ++ (((⟨#[100, 101, 108, 105, 118, 101, 114]⟩ : ByteArray) ++ (⟨#[32]⟩ : ByteArray)) ++ t)) ++ (⟨#[10]⟩ : ByteArray), ?_, ?_, fun r hr => ?_⟩
    · rw [size_line, e10]; omega
    · rw [size_line, size_line, e10, e32, show (⟨#[100, 101, 108, 105, 118, 101, 114]⟩ : ByteArray).size = 7 from rfl]; omega
    · rw [print_begin hi0 hi hx (w := ⟨#[100, 101, 108, 105, 118, 101, 114]⟩) (f := ⟨#[107]⟩) rfl, print_k (by decide) (by decide) (by decide) hi0 hi (by decide) (by rw [hx]; exact ht) hts, wrap01, hx]
      exact hone _ _ _ _ _ _ _ _ _ (by decide) (word_ne _ _) hx (by rw [size_line, e32, show (⟨#[100, 101, 108, 105, 118, 101, 114]⟩ : ByteArray).size = 7 from rfl]; omega) (by omega) r hr
  | drop h0 h1 =>
    rename_i a
    obtain ⟨t, ht, hts⟩ := digitsOf h0 (by omega : a ≤ 199) (show 4 ≤ K + 2 by omega)
    refine ⟨(s ++ (((⟨#[100, 114, 111, 112]⟩ : ByteArray) ++ (⟨#[32]⟩ : ByteArray)) ++ t)) ++ (⟨#[10]⟩ : ByteArray), ?_, ?_, fun r hr => ?_⟩
    · rw [size_line, e10]; omega
    · rw [size_line, size_line, e10, e32, show (⟨#[100, 114, 111, 112]⟩ : ByteArray).size = 4 from rfl]; omega
    · rw [print_begin hi0 hi hx (w := ⟨#[100, 114, 111, 112]⟩) (f := ⟨#[107]⟩) rfl, print_k (by decide) (by decide) (by decide) hi0 hi (by decide) (by rw [hx]; exact ht) hts, wrap01, hx]
      exact hone _ _ _ _ _ _ _ _ _ (by decide) (word_ne _ _) hx (by rw [size_line, e32, show (⟨#[100, 114, 111, 112]⟩ : ByteArray).size = 4 from rfl]; omega) (by omega) r hr
  | dup h0 h1 =>
    rename_i a
    obtain ⟨t, ht, hts⟩ := digitsOf h0 (by omega : a ≤ 199) (show 4 ≤ K + 2 by omega)
    refine ⟨(s ++ (((⟨#[100, 117, 112]⟩ : ByteArray) ++ (⟨#[32]⟩ : ByteArray)) ++ t)) ++ (⟨#[10]⟩ : ByteArray), ?_, ?_, fun r hr => ?_⟩
    · rw [size_line, e10]; omega
    · rw [size_line, size_line, e10, e32, show (⟨#[100, 117, 112]⟩ : ByteArray).size = 3 from rfl]; omega
    · rw [print_begin hi0 hi hx (w := ⟨#[100, 117, 112]⟩) (f := ⟨#[107]⟩) rfl, print_k (by decide) (by decide) (by decide) hi0 hi (by decide) (by rw [hx]; exact ht) hts, wrap01, hx]
      exact hone _ _ _ _ _ _ _ _ _ (by decide) (word_ne _ _) hx (by rw [size_line, e32, show (⟨#[100, 117, 112]⟩ : ByteArray).size = 3 from rfl]; omega) (by omega) r hr
  | flip h0 h1 h2 h3 =>
    rename_i a b
    obtain ⟨t, ht, hts⟩ := digitsOf h0 (by omega : a ≤ 199) (show 4 ≤ K + 2 by omega)
    obtain ⟨u, hu, hus⟩ := digitsOf h2 h3 (show 4 ≤ K + 1 by omega)
    refine ⟨(s ++ ((((((⟨#[102, 108, 105, 112]⟩ : ByteArray) ++ (⟨#[32]⟩ : ByteArray)) ++ t)) ++ (⟨#[32]⟩ : ByteArray)) ++ u)) ++ (⟨#[10]⟩ : ByteArray), ?_, ?_, fun r hr => ?_⟩
    · rw [size_line, e10]; omega
    · rw [size_line, size_line, size_line, e10, e32, show (⟨#[102, 108, 105, 112]⟩ : ByteArray).size = 4 from rfl]; omega
    · rw [print_begin hi0 hi hx (w := ⟨#[102, 108, 105, 112]⟩) (f := ⟨#[107, 98]⟩) rfl, print_k (by decide) (by decide) (by decide) hi0 hi (by decide) (by rw [hx]; exact ht) hts, wrap01,
        print_b (by decide) (by decide) (by decide) hi0 hi (by rw [size_line, e32, show (⟨#[102, 108, 105, 112]⟩ : ByteArray).size = 4 from rfl]; omega) (by rw [hx]; exact hu) hus, wrap11, hx]
      exact hone _ _ _ _ _ _ _ _ _ (by decide) (word_ne _ _) hx (by rw [size_line, size_line, e32, show (⟨#[102, 108, 105, 112]⟩ : ByteArray).size = 4 from rfl]; omega) (by omega) r hr
  | crash h0 h1 =>
    rename_i a
    obtain ⟨t, ht, hts⟩ := digitsOf h0 (by omega : a ≤ 199) (show 4 ≤ K + 2 by omega)
    refine ⟨(s ++ (((⟨#[99, 114, 97, 115, 104]⟩ : ByteArray) ++ (⟨#[32]⟩ : ByteArray)) ++ t)) ++ (⟨#[10]⟩ : ByteArray), ?_, ?_, fun r hr => ?_⟩
    · rw [size_line, e10]; omega
    · rw [size_line, size_line, e10, e32, show (⟨#[99, 114, 97, 115, 104]⟩ : ByteArray).size = 5 from rfl]; omega
    · rw [print_begin hi0 hi hx (w := ⟨#[99, 114, 97, 115, 104]⟩) (f := ⟨#[110]⟩) rfl, print_n (by decide) (by decide) (by decide) hi0 hi (by decide) (by rw [hx]; exact ht) hts, wrap01, hx]
      exact hone _ _ _ _ _ _ _ _ _ (by decide) (word_ne _ _) hx (by rw [size_line, e32, show (⟨#[99, 114, 97, 115, 104]⟩ : ByteArray).size = 5 from rfl]; omega) (by omega) r hr

theorem print_all {m : Int} {M : List S38} (hm : m ≤ 16) (hM : M.length ≤ 1000) (hf : ∀ i : Int, 0 ≤ i → i < (M.length : Int) → Fine m (rd_T38 M i)) :
    ∀ (d : Nat) (s : ByteArray) (i : Int), d = ((M.length : Int) - i).toNat → 0 ≤ i → s.size + 40 * d ≤ 100000 → ∃ t : ByteArray, gleanerref14_Print.l0 (4 * d + 5) M s i = some t ∧ s.size + d ≤ t.size
  | 0, s, i, hd, h0, hs => ⟨s, by rw [gleanerref14_Print.l0, if_neg (by omega)], by omega⟩
  | d + 1, s, i, hd, h0, hs => by
    obtain ⟨s', h1, h2, h3⟩ := print_step (K := 4 * d + 5) (s := s) hm h0 (by omega) (by omega) (by omega) (hf i h0 (by omega)) (by omega)
    obtain ⟨t, h5, h6⟩ := print_all hm hM hf d s' (i + 1) (by omega) (by omega) (by omega)
    refine ⟨t, ?_, by omega⟩
    have := h3 t h5
    rwa [show 4 * (d + 1) + 5 = 4 * d + 5 + 4 by omega]

end Go.Proofs.YtmikfnmbjpfgnaaDoor.Q
