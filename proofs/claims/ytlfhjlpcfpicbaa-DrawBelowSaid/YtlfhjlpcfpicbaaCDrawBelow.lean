/- DrawBelow: what the law computes. -/
import Derived.Test.YtlfhjlpcfpicbaaState
namespace Go.Proofs.Ytlfhjlpcfpicbaa.M
open Go Go.RowKit
set_option linter.unusedVariables false
theorem nonI_rest (k n m : Int) (hm : 1 ≤ m) : 0 ≤ (nonI k n - 1) % m ∧ (nonI k n - 1) % m < m ∧ (nonI k n - 1) % m ≤ 4294967296 := by
  obtain ⟨h0, h1⟩ := nonI_bd k n
  obtain ⟨r0, r1, r2⟩ := rest_bd (y := nonI k n - 1) (by omega) hm
  omega
theorem below_ex {b : Nat} {k n m : Int} {w : World} (h : w.heap[b]? = some (drawO k true n)) (h0 : 0 ≤ n) (h1 : n < 1000000) (hm : 1 ≤ m) :
    Calls Try.prog 16 #[.pointer (some ⟨b, 0, none⟩), .int .i64 m] w fun e w' => ∃ x, e = .returned (.int .i64 x) ∧ 0 ≤ x ∧ x < m ∧ x ≤ 4294967296 ∧ Upd w w' b (drawO k true (n + 1)) :=
  (below_is h h0 h1 hm).mono fun _ _ ⟨he, hu⟩ => have r := nonI_rest k n m hm; ⟨_, he, r.1, r.2.1, r.2.2, hu⟩
theorem drawBelow_pos (s n : Int) (t : Int) (ht : 0 ≤ t) (hn : 1 ≤ n) (w : World) :
    Calls Try.prog 6 #[.int .u64 s, .int .i64 n, .int .u64 t] w fun e w' => e = .returned (.bool true) ∧ Below w.heap.size w w' := by
  have t0 : 0 ≤ t % 100 := by omega
  have t1 : t % 100 ≤ 99 := by omega
  go_enter Try.func6, Try.ntmps6
  go_wp2_with fail
  refine (new_any _ _).mono ?_
  rintro e w1 ⟨rfl, a1, b1⟩
  have A1 := Lib.hid a1
  have B1 := Lib.hid b1
  clear a1 b1
  go_wp2_with fail
  go_loopw [8] (fun i wr => ∃ k : Int, 1 ≤ k ∧ k ≤ 100 ∧ i = .int .i64 k ∧ Hid (wr.heap[w.heap.size]? = some (drawO (keyI s) true (k - 1)) ∧ Below w.heap.size w wr)) (fun i _ => (100 - intOf i).toNat)
  case atStart => exact ⟨1, by omega, by omega, rfl, A1.out, B1.out⟩
  case round =>
    obtain ⟨k, hk1, hk2, rfl, H⟩ := hrel
    by_cases hlt : k ≤ t % 100
    · go_wp2_with fail
      refine (below_ex H.out.1 (by omega) (by omega) hn).mono ?_
      rintro e w2 ⟨x, rfl, r0, r1, r2, u2⟩
      have F : Hid (w2.heap[w.heap.size]? = some (drawO (keyI s) true k) ∧ Below w.heap.size w w2) := ⟨by have := u2.at_; rw [show k - 1 + 1 = k by omega] at this; exact this, H.out.2.trans (u2.below (Nat.le_refl _))⟩
      clear u2 H
      go_wp2_with (go_at_call 17; ((with_reducible refine (count_is F.out.1).mono ?_); rintro e w3 ⟨rfl, rfl⟩))
      go_roundw
      case rel => exact ⟨k + 1, by omega, by omega, by go_num, by rw [show k + 1 - 1 = k by omega]; exact F.out⟩
      case measure => simp [intOf]; omega
    · go_wp2_with (go_at_call 13; ((with_reducible refine (lives_any _).mono ?_); rintro e w3 ⟨rfl, hb⟩; have B := Lib.hid (H.out.2.trans (hb.mono H.out.2.size)); clear hb))
      go_ret
      exact ⟨rfl, B.out⟩
theorem drawBelow_neg (s n : Int) (t : Int) (ht : 0 ≤ t) (hn : n < 1) (w : World) :
    Calls Try.prog 6 #[.int .u64 s, .int .i64 n, .int .u64 t] w fun e w' => e = .returned (.bool true) ∧ Below w.heap.size w w' := by
  have t0 : 0 ≤ t % 100 := by omega
  have t1 : t % 100 ≤ 99 := by omega
  go_enter Try.func6, Try.ntmps6
  go_wp2_with fail
  refine (new_any _ _).mono ?_
  rintro e w1 ⟨rfl, a1, b1⟩
  have A1 := Lib.hid a1
  have B1 := Lib.hid b1
  clear a1 b1
  go_wp2_with fail
  go_loopw [8] (fun i wr => ∃ k : Int, 1 ≤ k ∧ k ≤ 100 ∧ i = .int .i64 k ∧ Hid (wr.heap[w.heap.size]? = some (drawO (keyI s) true 0) ∧ Below w.heap.size w wr)) (fun i _ => (100 - intOf i).toNat)
  case atStart => exact ⟨1, by omega, by omega, rfl, A1.out, B1.out⟩
  case round =>
    obtain ⟨k, hk1, hk2, rfl, H⟩ := hrel
    by_cases hlt : k ≤ t % 100
    · go_wp2_with (first
        | (go_at_call 16; ((with_reducible refine (below_none hn).mono ?_); rintro e w2 ⟨rfl, rfl⟩))
        | (go_at_call 17; ((with_reducible refine (count_is H.out.1).mono ?_); rintro e w3 ⟨rfl, rfl⟩)))
      go_roundw
      case rel => exact ⟨k + 1, by omega, by omega, by go_num, H.out⟩
      case measure => simp [intOf]; omega
    · go_wp2_with (go_at_call 13; ((with_reducible refine (lives_any _).mono ?_); rintro e w3 ⟨rfl, hb⟩; have B := Lib.hid (H.out.2.trans (hb.mono H.out.2.size)); clear hb))
      go_ret
      exact ⟨rfl, B.out⟩
theorem u64_nn {k : IntKind} {x : Int} (hk : k = .u64) (h : (Lit.int k x).wf = true) : 0 ≤ x := by
  subst hk
  simp [Lit.wf, IntKind.min, IntKind.max, IntKind.signed, IntKind.bits] at h
  omega
theorem drawBelow_law (s : Int) (ws : (Lit.int .u64 s).wf = true) (n : Int) (wn : (Lit.int .i64 n).wf = true) (t : Int) (wt : (Lit.int .u64 t).wf = true) (w : World) :
    Calls Try.prog 6 #[.int .u64 s, .int .i64 n, .int .u64 t] w fun e w' => e = .returned (.bool true) ∧ Below w.heap.size w w' := by
  have ht := u64_nn rfl wt
  by_cases h : n < 1
  · exact drawBelow_neg s n t ht h w
  · exact drawBelow_pos s n t ht (by omega) w
end Go.Proofs.Ytlfhjlpcfpicbaa.M
