/- DrawMixes: what the law computes. -/
import Derived.Test.YtlfhjlpcfpicbaaState
namespace Go.Proofs.Ytlfhjlpcfpicbaa.M
open Go Go.RowKit
set_option linter.unusedVariables false
theorem u32_nat {x : Int} (h : (Lit.int .u32 x).wf = true) : ∃ n : Nat, x = n ∧ n < 4294967296 := by
  simp [Lit.wf, IntKind.min, IntKind.max, IntKind.signed, IntKind.bits] at h
  exact ⟨x.toNat, by omega, by omega⟩
theorem drawMixes_law (x : Int) (wx : (Lit.int .u32 x).wf = true) (w : World) :
    Calls Try.prog 3 #[.int .u32 x] w fun e w' => e = .returned (.bool true) ∧ Below w.heap.size w w' := by
  obtain ⟨n, rfl, hn⟩ := u32_nat wx
  clear wx
  have hm : mixI (n : Int) = (mixN n : Int) := mixI_nat n hn
  have hu : unI (n : Int) = (unN n : Int) := unI_nat n hn
  have E1 : Hid (unI (mixI (n : Int)) = n) := by rw [hm]; show _ = _; rw [unI_nat _ (mixN_lt _), un_mix hn]
  have E2 : Hid (mixI (unI (n : Int)) = n) := by rw [hu]; show _ = _; rw [mixI_nat _ unN_lt, mix_un hn]
  have H1 := Lib.hid hm
  have H2 := Lib.hid hu
  have b1 : (unI (mixI (n : Int)) == (n : Int)) = true := by rw [E1.out]; simp
  have b2 : (mixI (unI (n : Int)) == (n : Int)) = true := by rw [E2.out]; simp
  have b3 : (unI (n : Int) == (unN n : Int)) = true := by rw [H2.out]; simp
  clear hm hu
  go_enter Try.func3, Try.ntmps3
  go_wp2_with (first
    | (go_at_call 9; ((with_reducible refine (mix_any _ _).mono ?_); rintro e w' ⟨rfl, rfl⟩))
    | (go_at_call 11; ((with_reducible refine (unmix_any _ _).mono ?_); rintro e w' ⟨rfl, rfl⟩))
    | (go_at_call 10; ((with_reducible refine (rmix_any _ _).mono ?_); rintro e w' ⟨rfl, rfl⟩))
    | (go_at_call 12; ((with_reducible refine (runmix_any _ hn _).mono ?_); rintro e w' ⟨rfl, rfl⟩))
    | (go_at_call 13; ((with_reducible refine (lives_any _).mono ?_); rintro e w1 ⟨rfl, hb⟩; have HB := Lib.hid hb; clear hb)))
  go_ret
  exact ⟨rfl, HB.out⟩
end Go.Proofs.Ytlfhjlpcfpicbaa.M
