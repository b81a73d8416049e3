/- The walks of layer 3's functions that only compute: Mix, over, the closure of Unmix, Unmix, and the reference's. -/
import Derived.Test.YtlfhjlpcfpicbaaProg
import Derived.Test.YtlfhjlpcfpicbaaMath
import Derived.WalkKit
import Derived.Handy
import Derived.Deep.LoopGhost
namespace Go.Proofs.Ytlfhjlpcfpicbaa.M
open Go Go.RowKit
set_option linter.unusedVariables false
set_option linter.unusedSimpArgs false

theorem mix_any (x : Int) (w : World) : Calls Try.prog 9 #[.int .u32 x] w fun e w' => e = .returned (.int .u32 (mixI x)) ∧ w = w' := by
  go_enter Try.func9, Try.ntmps9
  go_wp2
  go_ret
  exact ⟨rfl, rfl⟩
theorem over_1 (w : World) : Calls Try.prog 25 #[.int .u32 695872825] w fun e w' => e = .returned (.int .u32 217100553) ∧ w = w' := by
  go_enter Try.func25, Try.ntmps25
  go_wp2
  go_rounds 8
  go_ret
  exact ⟨rfl, rfl⟩
theorem over_2 (w : World) : Calls Try.prog 25 #[.int .u32 739982445] w fun e w' => e = .returned (.int .u32 1693068645) ∧ w = w' := by
  go_enter Try.func25, Try.ntmps25
  go_wp2
  go_rounds 8
  go_ret
  exact ⟨rfl, rfl⟩
/-- the closure's rounds, in the walk's spelling -/
def rdI (d y z : Int) : Int := Go.bits .xor .u32 y (z / d)
def bkI (d y : Int) : Int := rdI d y (rdI d y y)
theorem back_15 (y : Int) (w : World) : Calls Try.prog 24 #[.int .u32 y, .int .i64 15] w fun e w' => e = .returned (.int .u32 (bkI 32768 y)) ∧ w = w' := by
  go_enter Try.func24, Try.ntmps24
  go_wp2
  go_rounds 4
  go_ret
  exact ⟨rfl, rfl⟩
theorem back_12 (y : Int) (w : World) : Calls Try.prog 24 #[.int .u32 y, .int .i64 12] w fun e w' => e = .returned (.int .u32 (bkI 4096 y)) ∧ w = w' := by
  go_enter Try.func24, Try.ntmps24
  go_wp2
  go_rounds 4
  go_ret
  exact ⟨rfl, rfl⟩
def unI (x : Int) : Int := bkI 32768 (mulI 1693068645 (bkI 4096 (mulI 217100553 (bkI 32768 x))))
theorem unmix_any (x : Int) (w : World) : Calls Try.prog 11 #[.int .u32 x] w fun e w' => e = .returned (.int .u32 (unI x)) ∧ w = w' := by
  go_enter Try.func11, Try.ntmps11
  go_wp2_with (first
    | (go_at_call 24; ((with_reducible refine (back_15 _ _).mono ?_); rintro e w' ⟨rfl, rfl⟩))
    | (go_at_call 24; ((with_reducible refine (back_12 _ _).mono ?_); rintro e w' ⟨rfl, rfl⟩))
    | (go_at_call 25; ((with_reducible refine (over_1 _).mono ?_); rintro e w' ⟨rfl, rfl⟩))
    | (go_at_call 25; ((with_reducible refine (over_2 _).mono ?_); rintro e w' ⟨rfl, rfl⟩)))
  go_ret
  exact ⟨rfl, rfl⟩
theorem rdI_nat (n d : Nat) (hd : d = 2 ^ n) {y z : Nat} (hy : y < 4294967296) (hz : z < 4294967296) : rdI (d : Int) (y : Int) (z : Int) = (rd1 n y z : Int) := by
  unfold rdI
  have e : ((z : Int) / (d : Int)) = ((z / d : Nat) : Int) := by simp
  rw [e, xor_nat _ _ hy (Nat.lt_of_le_of_lt (Nat.div_le_self _ _) hz), hd]
  simp [rd1, Nat.shiftRight_eq_div_pow]
theorem bkI_nat (n d : Nat) (hd : d = 2 ^ n) {y : Nat} (hy : y < 4294967296) : bkI (d : Int) (y : Int) = (bk n y 2 : Int) := by
  unfold bkI
  rw [rdI_nat n d hd hy hy, rdI_nat n d hd hy (rd1_lt hy hy)]
  rfl
theorem unI_nat (x : Nat) (h : x < 4294967296) : unI (x : Int) = (unN x : Int) := by
  unfold unI unN
  rw [show (32768 : Int) = ((32768 : Nat) : Int) from rfl, show (4096 : Int) = ((4096 : Nat) : Int) from rfl,
    show (217100553 : Int) = ((217100553 : Nat) : Int) from rfl, show (1693068645 : Int) = ((1693068645 : Nat) : Int) from rfl,
    bkI_nat 15 32768 rfl h, ml_int, bkI_nat 12 4096 rfl (ml_lt _ _), ml_int, bkI_nat 15 32768 rfl (ml_lt _ _)]

/-! ### The reference's -/
theorem rmix_any (x : Int) (w : World) : Calls Try.prog 10 #[.int .u32 x] w fun e w' => e = .returned (.int .u32 (mixI x)) ∧ w = w' := by
  go_enter Try.func10, Try.ntmps10
  go_wp2
  go_ret
  exact ⟨rfl, rfl⟩
theorem rover_1 (w : World) : Calls Try.prog 27 #[.int .u32 695872825] w fun e w' => e = .returned (.int .u32 217100553) ∧ w = w' := by
  go_enter Try.func27, Try.ntmps27
  go_wp2
  go_rounds 8
  go_ret
  exact ⟨rfl, rfl⟩
theorem rover_2 (w : World) : Calls Try.prog 27 #[.int .u32 739982445] w fun e w' => e = .returned (.int .u32 1693068645) ∧ w = w' := by
  go_enter Try.func27, Try.ntmps27
  go_wp2
  go_rounds 8
  go_ret
  exact ⟨rfl, rfl⟩
theorem half_15 (y : Nat) (hy : y < 4294967296) (w : World) : Calls Try.prog 26 #[.int .u32 y, .int .u64 15] w fun e w' => e = .returned (.int .u32 (bk 15 y 2 : Nat)) ∧ w = w' := by
  go_enter Try.func26, Try.ntmps26
  go_wp2
  go_loop [5, 6] (fun x i => ∃ k : Nat, k ≤ 32 ∧ i = .int .i64 k ∧ x = .int .u32 (bk 15 y k : Nat)) (fun _ i => 32 - (intOf i).toNat)
  case atStart => exact ⟨0, by omega, rfl, rfl⟩
  case round =>
    obtain ⟨k, hk, rfl, rfl⟩ := hrel
    have hz := bk_lt (n := 15) hy k
    have H : Hid (Go.bits .xor .u32 (y : Int) ((bk 15 y k : Int) / 32768) = (bk 15 y (k + 1) : Int)) := rdI_nat 15 32768 rfl hy hz
    by_cases hlt : k < 32
    · go_wp2
      go_round
      case rel => exact ⟨k + 1, by omega, by go_num, by rw [H.out]⟩
      case measure => simp [intOf]; omega
    · obtain rfl : k = 32 := by omega
      go_wp2
      go_ret
      exact ⟨by rw [bk_32 (by decide) hy]; rfl, rfl⟩
theorem half_12 (y : Nat) (hy : y < 4294967296) (w : World) : Calls Try.prog 26 #[.int .u32 y, .int .u64 12] w fun e w' => e = .returned (.int .u32 (bk 12 y 2 : Nat)) ∧ w = w' := by
  go_enter Try.func26, Try.ntmps26
  go_wp2
  go_loop [5, 6] (fun x i => ∃ k : Nat, k ≤ 32 ∧ i = .int .i64 k ∧ x = .int .u32 (bk 12 y k : Nat)) (fun _ i => 32 - (intOf i).toNat)
  case atStart => exact ⟨0, by omega, rfl, rfl⟩
  case round =>
    obtain ⟨k, hk, rfl, rfl⟩ := hrel
    have hz := bk_lt (n := 12) hy k
    have H : Hid (Go.bits .xor .u32 (y : Int) ((bk 12 y k : Int) / 4096) = (bk 12 y (k + 1) : Int)) := rdI_nat 12 4096 rfl hy hz
    by_cases hlt : k < 32
    · go_wp2
      go_round
      case rel => exact ⟨k + 1, by omega, by go_num, by rw [H.out]⟩
      case measure => simp [intOf]; omega
    · obtain rfl : k = 32 := by omega
      go_wp2
      go_ret
      exact ⟨by rw [bk_32 (by decide) hy]; rfl, rfl⟩
theorem runmix_any (x : Nat) (hx : x < 4294967296) (w : World) : Calls Try.prog 12 #[.int .u32 x] w fun e w' => e = .returned (.int .u32 (unN x : Nat)) ∧ w = w' := by
  have h1 : bk 15 x 2 < 4294967296 := bk_lt hx _
  have h2 := ml_lt 217100553 (bk 15 x 2)
  have H2 : Hid (((bk 15 x 2 : Nat) : Int) * 217100553 % 4294967296 = (ml 217100553 (bk 15 x 2) : Int)) := ml_int _ _
  have h3 : bk 12 (ml 217100553 (bk 15 x 2)) 2 < 4294967296 := bk_lt h2 _
  have h4 := ml_lt 1693068645 (bk 12 (ml 217100553 (bk 15 x 2)) 2)
  have H4 : Hid (((bk 12 (ml 217100553 (bk 15 x 2)) 2 : Nat) : Int) * 1693068645 % 4294967296 = (ml 1693068645 (bk 12 (ml 217100553 (bk 15 x 2)) 2) : Int)) := ml_int _ _
  go_enter Try.func12, Try.ntmps12
  go_wp2_with (first
    | (go_at_call 26; ((with_reducible refine (half_15 x hx _).mono ?_); rintro e w' ⟨rfl, rfl⟩))
    | (go_at_call 27; ((with_reducible refine (rover_1 _).mono ?_); rintro e w' ⟨rfl, rfl⟩))
    | (go_at_call 26; rw [H2.out]; ((with_reducible refine (half_12 _ h2 _).mono ?_); rintro e w' ⟨rfl, rfl⟩))
    | (go_at_call 26; rw [H4.out]; ((with_reducible refine (half_15 _ h4 _).mono ?_); rintro e w' ⟨rfl, rfl⟩))
    | (go_at_call 27; ((with_reducible refine (rover_2 _).mono ?_); rintro e w' ⟨rfl, rfl⟩)))
  go_ret
  exact ⟨rfl, rfl⟩
end Go.Proofs.Ytlfhjlpcfpicbaa.M
