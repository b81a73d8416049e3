/- DrawNone: what the law computes. -/
import Derived.Test.YtlfhjlpcfpicbaaState
namespace Go.Proofs.Ytlfhjlpcfpicbaa.M
open Go Go.RowKit
set_option linter.unusedVariables false
theorem key0 : keyI 0 = mixI 0 := by decide +kernel
/-- two new blocks: what lies where -/
theorem two_alloc (w : World) (o p : Obj) : ((w.alloc o).alloc p).heap[w.heap.size]? = some o ∧ ((w.alloc o).alloc p).heap[w.heap.size + 1]? = some p ∧ ((w.alloc o).alloc p).heap.size = w.heap.size + 2 := by
  refine ⟨?_, ?_, by simp⟩
  · rw [Below.heap_alloc _ _ _ (by simp)]; exact heap_alloc_new _ _
  · have := heap_alloc_new (w.alloc o) p; simpa using this
/-- the four Draws -/
structure Four (W w : World) (z y a b : Nat) (zo yo ao bo : Obj) : Prop where
  below : Below W.heap.size W w
  lo : W.heap.size ≤ z
  o1 : z < y
  o2 : y < a
  o3 : a < b
  z : w.heap[z]? = some zo
  y : w.heap[y]? = some yo
  a : w.heap[a]? = some ao
  b : w.heap[b]? = some bo
section
variable {W w w' : World} {z y a b : Nat} {zo yo ao bo o : Obj}
theorem Four.upz (h : Four W w z y a b zo yo ao bo) (u : Upd w w' z o) : Four W w' z y a b o yo ao bo := by
  have := h.o1; have := h.o2; have := h.o3
  exact ⟨h.below.trans (u.below h.lo), h.lo, h.o1, h.o2, h.o3, u.at_, u.keep h.y (by omega), u.keep h.a (by omega), u.keep h.b (by omega)⟩
theorem Four.upy (h : Four W w z y a b zo yo ao bo) (u : Upd w w' y o) : Four W w' z y a b zo o ao bo := by
  have := h.lo; have := h.o1; have := h.o2; have := h.o3
  exact ⟨h.below.trans (u.below (by omega)), h.lo, h.o1, h.o2, h.o3, u.keep h.z (by omega), u.at_, u.keep h.a (by omega), u.keep h.b (by omega)⟩
theorem Four.upa (h : Four W w z y a b zo yo ao bo) (u : Upd w w' a o) : Four W w' z y a b zo yo o bo := by
  have := h.lo; have := h.o1; have := h.o2; have := h.o3
  exact ⟨h.below.trans (u.below (by omega)), h.lo, h.o1, h.o2, h.o3, u.keep h.z (by omega), u.keep h.y (by omega), u.at_, u.keep h.b (by omega)⟩
theorem Four.upb (h : Four W w z y a b zo yo ao bo) (u : Upd w w' b o) : Four W w' z y a b zo yo ao o := by
  have := h.lo; have := h.o1; have := h.o2; have := h.o3
  exact ⟨h.below.trans (u.below (by omega)), h.lo, h.o1, h.o2, h.o3, u.keep h.z (by omega), u.keep h.y (by omega), u.keep h.a (by omega), u.at_⟩
end
theorem four_made {W w1 w2 : World} (b1 : Below ((W.alloc (drawO 0 false 0)).alloc (drawO 0 false 0)).heap.size ((W.alloc (drawO 0 false 0)).alloc (drawO 0 false 0)) w1)
    (a1 : w1.heap[((W.alloc (drawO 0 false 0)).alloc (drawO 0 false 0)).heap.size]? = some (drawO (keyI 0) true 0))
    (b2 : Below w1.heap.size w1 w2) (a2 : w2.heap[w1.heap.size]? = some (drawO (keyI 0) true 0)) :
    Four W w2 W.heap.size (W.heap.size + 1) (W.heap.size + 2) w1.heap.size (drawO 0 false 0) (drawO 0 false 0) (drawO (mixI 0) true 0) (drawO (mixI 0) true 0) := by
  obtain ⟨tz, ty, ts⟩ := two_alloc W (drawO 0 false 0) (drawO 0 false 0)
  have h0 : Below W.heap.size W ((W.alloc (drawO 0 false 0)).alloc (drawO 0 false 0)) := ((Below.refl _ _).alloc (Nat.le_refl _) _).alloc (by simp) _
  rw [ts] at b1 a1
  rw [key0] at a1 a2
  have s1 := blk_lt a1
  have s0 := b1.size
  exact ⟨h0.trans ((b1.mono (by omega)).trans (b2.mono (by omega))), Nat.le_refl _, by omega, by omega, s1, keep_below b2 (keep_below b1 tz (by omega)) (by omega), keep_below b2 (keep_below b1 ty (by omega)) (by omega), keep_below b2 a1 s1, a2⟩
theorem drawNone_pos (n : Int) (hn : 1 ≤ n) (w : World) :
    Calls Try.prog 5 #[.int .i64 n] w fun e w' => e = .returned (.bool true) ∧ Below w.heap.size w w' := by
  go_enter Try.func5, Try.ntmps5
  go_wp2_with fail
  refine (new_any _ _).mono ?_
  rintro e w1 ⟨rfl, a1, b1⟩
  have A1 := Lib.hid a1
  have B1 := Lib.hid b1
  clear a1 b1
  go_wp2_with fail
  refine (new_any _ _).mono ?_
  rintro e w2 ⟨rfl, a2, b2⟩
  have F := Lib.hid (four_made B1.out A1.out b2 a2)
  clear a2 b2 A1 B1
  generalize w1.heap.size = b at F ⊢
  go_wp2_with fail
  refine (nonce_not F.out.z (by omega) (by omega)).mono ?_
  rintro e w3 ⟨rfl, u3⟩
  have F3 := Lib.hid (F.out.upz u3); clear u3 F; have F := F3; clear F3
  go_wp2_with fail
  refine (nonce_is F.out.a (by omega) (by omega)).mono ?_
  rintro e w4 ⟨rfl, u4⟩
  have F4 := Lib.hid (F.out.upa u4); clear u4 F; have F := F4; clear F4
  go_wp2_with fail
  refine (below_not F.out.y (by omega) (by omega) hn).mono ?_
  rintro e w5 ⟨rfl, u5⟩
  have F5 := Lib.hid (F.out.upy u5); clear u5 F; have F := F5; clear F5
  go_wp2_with fail
  refine (below_is F.out.b (by omega) (by omega) hn).mono ?_
  rintro e w6 ⟨rfl, u6⟩
  have F6 := Lib.hid (F.out.upb u6); clear u6 F; have F := F6; clear F6
  go_wp2_with fail
  refine (nonce_is F.out.z (by omega) (by omega)).mono ?_
  rintro e w7 ⟨rfl, u7⟩
  have F7 := Lib.hid (F.out.upz u7); clear u7 F; have F := F7; clear F7
  go_wp2_with fail
  refine (nonce_is F.out.a (by omega) (by omega)).mono ?_
  rintro e w8 ⟨rfl, u8⟩
  have F8 := Lib.hid (F.out.upa u8); clear u8 F; have F := F8; clear F8
  go_wp2_with fail
  refine (count_is F.out.z).mono ?_
  rintro e w9 ⟨rfl, rfl⟩
  go_wp2_with fail
  refine (lives_any _).mono ?_
  rintro e w10 ⟨rfl, hb⟩
  have B : Hid (Below w.heap.size w w10) := F.out.below.trans (hb.mono F.out.below.size)
  clear hb
  go_wp2
  go_ret
  exact ⟨rfl, B.out⟩
theorem drawNone_neg (n : Int) (hn : n < 1) (w : World) :
    Calls Try.prog 5 #[.int .i64 n] w fun e w' => e = .returned (.bool true) ∧ Below w.heap.size w w' := by
  go_enter Try.func5, Try.ntmps5
  go_wp2_with fail
  refine (new_any _ _).mono ?_
  rintro e w1 ⟨rfl, a1, b1⟩
  have A1 := Lib.hid a1
  have B1 := Lib.hid b1
  clear a1 b1
  go_wp2_with fail
  refine (new_any _ _).mono ?_
  rintro e w2 ⟨rfl, a2, b2⟩
  have F := Lib.hid (four_made B1.out A1.out b2 a2)
  clear a2 b2 A1 B1
  generalize w1.heap.size = b at F ⊢
  go_wp2_with fail
  refine (nonce_not F.out.z (by omega) (by omega)).mono ?_
  rintro e w3 ⟨rfl, u3⟩
  have F3 := Lib.hid (F.out.upz u3); clear u3 F; have F := F3; clear F3
  go_wp2_with fail
  refine (nonce_is F.out.a (by omega) (by omega)).mono ?_
  rintro e w4 ⟨rfl, u4⟩
  have F4 := Lib.hid (F.out.upa u4); clear u4 F; have F := F4; clear F4
  go_wp2_with fail
  refine (below_none hn).mono ?_
  rintro e w5 ⟨rfl, rfl⟩
  go_wp2_with fail
  refine (below_none hn).mono ?_
  rintro e w6 ⟨rfl, rfl⟩
  go_wp2_with fail
  refine (nonce_is F.out.z (by omega) (by omega)).mono ?_
  rintro e w7 ⟨rfl, u7⟩
  have F7 := Lib.hid (F.out.upz u7); clear u7 F; have F := F7; clear F7
  go_wp2_with fail
  refine (nonce_is F.out.a (by omega) (by omega)).mono ?_
  rintro e w8 ⟨rfl, u8⟩
  have F8 := Lib.hid (F.out.upa u8); clear u8 F; have F := F8; clear F8
  go_wp2_with fail
  refine (count_is F.out.z).mono ?_
  rintro e w9 ⟨rfl, rfl⟩
  go_wp2_with fail
  refine (lives_any _).mono ?_
  rintro e w10 ⟨rfl, hb⟩
  have B : Hid (Below w.heap.size w w10) := F.out.below.trans (hb.mono F.out.below.size)
  clear hb
  go_wp2
  go_ret
  exact ⟨rfl, B.out⟩
theorem drawNone_law (n : Int) (wn : (Lit.int .i64 n).wf = true) (w : World) :
    Calls Try.prog 5 #[.int .i64 n] w fun e w' => e = .returned (.bool true) ∧ Below w.heap.size w w' := by
  by_cases h : n < 1
  · exact drawNone_neg n h w
  · exact drawNone_pos n (by omega) w
end Go.Proofs.Ytlfhjlpcfpicbaa.M
