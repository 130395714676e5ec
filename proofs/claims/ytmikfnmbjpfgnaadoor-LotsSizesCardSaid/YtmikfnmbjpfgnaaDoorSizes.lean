/- 'LotsSizes' returns true, whatever its numbers, in every memory. Conditions: none. -/
import Derived.Test.YtmikfnmbjpfgnaaDoorChain
import Derived.Test.YtmikfnmbjpfgnaaDoorRun0
import Derived.Test.YtmikfnmbjpfgnaaDoorRun1
import Derived.Test.YtmikfnmbjpfgnaaDoorRun2
import Derived.Test.YtmikfnmbjpfgnaaDoorRun3
import Derived.Test.YtmikfnmbjpfgnaaDoorRun4
import Derived.Test.YtmikfnmbjpfgnaaDoorRun5
import Derived.Test.YtmikfnmbjpfgnaaDoorRun6
import Derived.Test.YtmikfnmbjpfgnaaDoorRun7
import Derived.Test.YtmikfnmbjpfgnaaDoorRun8
namespace Go.Proofs.YtmikfnmbjpfgnaaDoor
open Go Go.RowKit Ax

theorem clamp_clamp (n a b : Int) (h : a ≤ b) : clamp (clamp n a b) a b = clamp n a b := by
  obtain ⟨h1, h2⟩ := clamp_mem n a b h
  rw [clamp, if_neg (by omega), if_neg (by omega)]

theorem size_run {c1 c2 : Int} (h1 : 0 ≤ c1 ∧ c1 ≤ 8) (h2 : 0 ≤ c2 ∧ c2 ≤ 5) : sizeRun c1 c2 = true := by
  have hm : c2 ∈ ([0, 1, 2, 3, 4, 5] : List Int) := by
    have : c2 = 0 ∨ c2 = 1 ∨ c2 = 2 ∨ c2 = 3 ∨ c2 = 4 ∨ c2 = 5 := by omega
    simpa using this
  have : c1 = 0 ∨ c1 = 1 ∨ c1 = 2 ∨ c1 = 3 ∨ c1 = 4 ∨ c1 = 5 ∨ c1 = 6 ∨ c1 = 7 ∨ c1 = 8 := by omega
  rcases this with rfl | rfl | rfl | rfl | rfl | rfl | rfl | rfl | rfl
  · exact List.all_eq_true.1 run0.symm _ hm
  · exact List.all_eq_true.1 run1.symm _ hm
  · exact List.all_eq_true.1 run2.symm _ hm
  · exact List.all_eq_true.1 run3.symm _ hm
  · exact List.all_eq_true.1 run4.symm _ hm
  · exact List.all_eq_true.1 run5.symm _ hm
  · exact List.all_eq_true.1 run6.symm _ hm
  · exact List.all_eq_true.1 run7.symm _ hm
  · exact List.all_eq_true.1 run8.symm _ hm

def names (wide deep n : Int) : List Int := [wide, deep, n, clamp n 0 10, clamp n 0 10 + 1]

theorem anyJob_ok (wide deep n : Int) {x : Option Addr} {cap l : Nat} (hl : (l : Int) = clamp n 0 10 + 1) : V2 (symEnv (names wide deep n)) anyJob (jobOf x cap l) :=
  .sc (.agg (.cons (.ss (symEnv_at (show (names wide deep n)[4]? = some (clamp n 0 10 + 1) from rfl)) hl.symm) (.cons (.cl rfl) (.cons (.cl rfl) (.cons (.cl rfl) (.cons (.cl rfl) .nil))))))

theorem lines_ok (wide deep n : Int) : ∀ r ∈ sizeLines (clamp wide 0 8) (clamp deep 0 5), r.ok (names wide deep n) := by
  intro r hr
  simp only [sizeLines, List.mem_cons, List.not_mem_nil, or_false] at hr
  rcases hr with rfl | rfl | rfl | rfl | rfl | rfl | rfl
  · refine ⟨wide, rfl, fun w => (cut15 wide 0 8 (by decide) w).mono ?_⟩
    rintro e w' ⟨rfl, hb⟩
    exact ⟨_, rfl, V2.int _ _, hb⟩
  · refine ⟨deep, rfl, fun w => (cut15 deep 0 5 (by decide) w).mono ?_⟩
    rintro e w' ⟨rfl, hb⟩
    exact ⟨_, rfl, V2.int _ _, hb⟩
  · refine ⟨wide, rfl, fun w => (cut8 wide 0 8 w).mono ?_⟩
    rintro e w' ⟨rfl, hb⟩
    exact ⟨_, rfl, V2.int _ _, hb⟩
  · refine ⟨deep, rfl, fun w => (cut8 deep 0 5 w).mono ?_⟩
    rintro e w' ⟨rfl, hb⟩
    exact ⟨_, rfl, V2.int _ _, hb⟩
  · refine ⟨n, rfl, fun w => (cut8 n 0 10 w).mono ?_⟩
    rintro e w' ⟨rfl, hb⟩
    exact ⟨_, rfl, .sym (symEnv_at (show (names wide deep n)[3]? = some (clamp n 0 10) from rfl)), hb⟩
  · refine ⟨n, rfl, fun w => (chain_calls n w).mono ?_⟩
    rintro e w' ⟨x, cap, l, rfl, hl, hb⟩
    exact ⟨_, rfl, anyJob_ok wide deep n hl, hb⟩
  · refine ⟨clamp n 0 10, rfl, fun w => (chain_calls (clamp n 0 10) w).mono ?_⟩
    rintro e w' ⟨x, cap, l, rfl, hl, hb⟩
    rw [clamp_clamp n 0 10 (by decide)] at hl
    exact ⟨_, rfl, anyJob_ok wide deep n hl, hb⟩

theorem sizes_calls (wide deep n : Int) (w : World) : Calls Tryd.prog 3 #[.int .i64 wide, .int .i64 deep, .int .i64 n] w fun e w' => e = .returned (.bool true) ∧ Below w.heap.size w w' := by
  have h := size_run (clamp_mem wide 0 8 (by decide)) (clamp_mem deep 0 5 (by decide))
  have htab := lineTab_ok (lines_ok wide deep n)
  unfold sizeRun saysTrue at h
  split at h
  · rename_i H' nx hr
    refine (acall_ok mixed htab 400 3 _ heap0 0 _ _ _ hr w.heap.size (symEnv (names wide deep n)) #[.int .i64 wide, .int .i64 deep, .int .i64 n] w (Env.le_refl _) (.cons (.sym (symEnv_at rfl)) (.cons (.sym (symEnv_at rfl)) (.cons (.sym (symEnv_at rfl)) .nil))) (heap0_ok _ w)).mono ?_
    rintro e w' ⟨v', ρ', rfl, _, h2, _, h4⟩
    rw [h2.plain rfl]
    exact ⟨rfl, h4⟩
  · exact absurd h (by simp)

end Go.Proofs.YtmikfnmbjpfgnaaDoor
