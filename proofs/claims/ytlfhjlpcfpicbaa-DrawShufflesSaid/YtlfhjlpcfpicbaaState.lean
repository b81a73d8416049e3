/- The walks of layer 3's Draw, a struct in memory: New, made, Nonce, Below, Count, and the reference's. -/
import Derived.Test.YtlfhjlpcfpicbaaPure
import Derived.Test.YtlfhjlpcfpicbaaMem
import Derived.BigQuiet
import Derived.Deep.QuietTactic
namespace Go.Proofs.Ytlfhjlpcfpicbaa.M
open Go Go.RowKit
set_option linter.unusedVariables false
set_option linter.unusedSimpArgs false

def keyI (s : Int) : Int := Go.bits .xor .u32 (mixI (s % 4294967296)) (s / 4294967296 % 4294967296)
/-- a Draw at block b -/
def drawO (k : Int) (is : Bool) (n : Int) : Obj := .cells #[.int .u32 k, .bool is, .int .i64 n] 34 (0, 0)
theorem new_any (s : Int) (w : World) : Calls Try.prog 14 #[.int .u64 s] w fun e w' => e = .returned (.pointer (some ⟨w.heap.size, 0, none⟩)) ∧
    w'.heap[w.heap.size]? = some (drawO (keyI s) true 0) ∧ Below w.heap.size w w' := by
  go_enter Try.func14, Try.ntmps14
  go_wp2_with (go_at_call 9; ((with_reducible refine (mix_any _ _).mono ?_); rintro e w' ⟨rfl, rfl⟩))
  go_ret
  exact ⟨rfl, heap_alloc_new _ _, (Below.refl _ _).alloc (Nat.le_refl _) _⟩
theorem made_is {b : Nat} {k n : Int} {w : World} (h : w.heap[b]? = some (drawO k true n)) :
    Calls Try.prog 28 #[.pointer (some ⟨b, 0, none⟩)] w fun e w' => e = .returned (.pointer (some ⟨b, 0, none⟩)) ∧ w = w' := by
  have c1 : w.cell? ⟨b, 1, none⟩ = some (.bool true) := blk_cell h 1
  go_enter Try.func28, Try.ntmps28
  go_wp2
  go_ret
  exact ⟨rfl, rfl⟩
/-- the nonce behind n others, of key k -/
def nonI (k n : Int) : Int := mixI (Go.bits .xor .u32 (n + 1) k) + 1
theorem nonI_bd (k n : Int) : 1 ≤ nonI k n ∧ nonI k n ≤ 4294967296 := by have := mixI_bd (Go.bits .xor .u32 (n + 1) k); unfold nonI; omega
theorem nonce_is {b : Nat} {k n : Int} {w : World} (h : w.heap[b]? = some (drawO k true n)) (h0 : 0 ≤ n) (h1 : n < 1000000) :
    Calls Try.prog 15 #[.pointer (some ⟨b, 0, none⟩)] w fun e w' => e = .returned (.int .i64 (nonI k n)) ∧ Upd w w' b (drawO k true (n + 1)) := by
  have c0 : w.cell? ⟨b, 0, none⟩ = some (.int .u32 k) := blk_cell h 0
  have c2 : w.cell? ⟨b, 2, none⟩ = some (.int .i64 n) := blk_cell h 2
  have f2 : w.frozen? ⟨b, 2, none⟩ = false := blk_free h 2
  obtain ⟨m0, m1⟩ := mixI_bd (Go.bits .xor .u32 (n + 1) k)
  go_enter Try.func15, Try.ntmps15
  go_wp2_with (go_at_call 28; ((with_reducible refine (made_is h).mono ?_); rintro e w' ⟨rfl, rfl⟩))
  have HU : Hid (Upd w (w.setCell ⟨b, 2, none⟩ (.int .i64 (n + 1))) b (drawO k true (n + 1))) := (Upd.self h).set 2 _
  go_quiet ((go_at_call 9; exact q_same (mix_any _ _)))
  go_wp2
  go_ret
  exact ⟨rfl, HU.out.drewN _⟩
theorem made_not {b : Nat} {k n : Int} {w : World} (h : w.heap[b]? = some (drawO k false n)) :
    Calls Try.prog 28 #[.pointer (some ⟨b, 0, none⟩)] w fun e w' => e = .returned (.pointer (some ⟨b, 0, none⟩)) ∧ Upd w w' b (drawO (mixI 0) true n) := by
  have c0 : w.cell? ⟨b, 0, none⟩ = some (.int .u32 k) := blk_cell h 0
  have c1 : w.cell? ⟨b, 1, none⟩ = some (.bool false) := blk_cell h 1
  have f0 : w.frozen? ⟨b, 0, none⟩ = false := blk_free h 0
  have f1 : w.frozen? ⟨b, 1, none⟩ = false := blk_free h 1
  have HU : Hid (Upd w ((w.setCell ⟨b, 0, none⟩ (.int .u32 (mixI 0))).setCell ⟨b, 1, none⟩ (.bool true)) b (drawO (mixI 0) true n)) :=
    ((Upd.self h).set 0 _).set 1 _
  go_enter Try.func28, Try.ntmps28
  go_wp2_with (go_at_call 9; ((with_reducible refine (mix_any _ _).mono ?_); rintro e w' ⟨rfl, rfl⟩))
  go_ret
  exact ⟨rfl, HU.out⟩
theorem nonce_not {b : Nat} {k n : Int} {w : World} (h : w.heap[b]? = some (drawO k false n)) (h0 : 0 ≤ n) (h1 : n < 1000000) :
    Calls Try.prog 15 #[.pointer (some ⟨b, 0, none⟩)] w fun e w' => e = .returned (.int .i64 (nonI (mixI 0) n)) ∧ Upd w w' b (drawO (mixI 0) true (n + 1)) := by
  obtain ⟨m0, m1⟩ := mixI_bd (Go.bits .xor .u32 (n + 1) (mixI 0))
  go_enter Try.func15, Try.ntmps15
  go_wp2_with (go_at_call 28; ((with_reducible refine (made_not h).mono ?_); rintro e w1 ⟨rfl, hu⟩; have hb := hu.at_; have c0 : w1.cell? ⟨b, 0, none⟩ = some (.int .u32 (mixI 0)) := blk_cell hb 0; have c2 : w1.cell? ⟨b, 2, none⟩ = some (.int .i64 n) := blk_cell hb 2; have f2 : w1.frozen? ⟨b, 2, none⟩ = false := blk_free hb 2; have HU : Hid (Upd w (w1.setCell ⟨b, 2, none⟩ (.int .i64 (n + 1))) b (drawO (mixI 0) true (n + 1))) := hu.set 2 _; clear hb hu))
  go_quiet ((go_at_call 9; exact q_same (mix_any _ _)))
  go_wp2
  go_ret
  exact ⟨rfl, HU.out.drewN _⟩
theorem count_is {b : Nat} {k n : Int} {is : Bool} {w : World} (h : w.heap[b]? = some (drawO k is n)) :
    Calls Try.prog 17 #[.pointer (some ⟨b, 0, none⟩)] w fun e w' => e = .returned (.int .i64 n) ∧ w = w' := by
  have c2 : w.cell? ⟨b, 2, none⟩ = some (.int .i64 n) := blk_cell h 2
  go_enter Try.func17, Try.ntmps17
  go_wp2
  go_ret
  exact ⟨rfl, rfl⟩
theorem below_gen {b : Nat} {m x : Int} {w : World} {o : Obj} (hx : 1 ≤ x ∧ x ≤ 4294967296) (hm : 1 ≤ m)
    (N : Calls Try.prog 15 #[.pointer (some ⟨b, 0, none⟩)] w fun e w' => e = .returned (.int .i64 x) ∧ Upd w w' b o) :
    Calls Try.prog 16 #[.pointer (some ⟨b, 0, none⟩), .int .i64 m] w fun e w' => e = .returned (.int .i64 ((x - 1) % m)) ∧ Upd w w' b o := by
  obtain ⟨m0, m1⟩ := hx
  obtain ⟨r0, r1, _⟩ := rest_bd (y := x - 1) (by omega) hm
  have r2 : (x - 1) % m ≤ 4294967295 := by omega
  clear r1
  go_enter Try.func16, Try.ntmps16
  go_wp2_with (go_at_call 15; ((with_reducible refine N.mono ?_); rintro e w1 ⟨rfl, hu⟩; have HU := Lib.hid hu; clear hu N))
  go_ret
  exact ⟨rfl, HU.out⟩
theorem below_is {b : Nat} {k n m : Int} {w : World} (h : w.heap[b]? = some (drawO k true n)) (h0 : 0 ≤ n) (h1 : n < 1000000) (hm : 1 ≤ m) :
    Calls Try.prog 16 #[.pointer (some ⟨b, 0, none⟩), .int .i64 m] w fun e w' => e = .returned (.int .i64 ((nonI k n - 1) % m)) ∧ Upd w w' b (drawO k true (n + 1)) :=
  below_gen (nonI_bd _ _) hm (nonce_is h h0 h1)
theorem below_not {b : Nat} {k n m : Int} {w : World} (h : w.heap[b]? = some (drawO k false n)) (h0 : 0 ≤ n) (h1 : n < 1000000) (hm : 1 ≤ m) :
    Calls Try.prog 16 #[.pointer (some ⟨b, 0, none⟩), .int .i64 m] w fun e w' => e = .returned (.int .i64 ((nonI (mixI 0) n - 1) % m)) ∧ Upd w w' b (drawO (mixI 0) true (n + 1)) :=
  below_gen (nonI_bd _ _) hm (nonce_not h h0 h1)
theorem below_none {p : Value} {m : Int} {w : World} (hm : m < 1) :
    Calls Try.prog 16 #[p, .int .i64 m] w fun e w' => e = .returned (.int .i64 0) ∧ w = w' := by
  go_enter Try.func16, Try.ntmps16
  go_wp2
  go_ret
  exact ⟨rfl, rfl⟩

/-! ### The reference's -/
def rdrawO (k : Int) (n : Int) : Obj := .cells #[.int .u32 k, .int .i64 n] 44 (0, 0)
theorem rnew_any (s : Int) (w : World) : Calls Try.prog 20 #[.int .u64 s] w fun e w' => e = .returned (.pointer (some ⟨w.heap.size, 0, none⟩)) ∧
    w'.heap[w.heap.size]? = some (rdrawO (keyI s) 0) ∧ Below w.heap.size w w' := by
  go_enter Try.func20, Try.ntmps20
  go_wp2_with (go_at_call 10; ((with_reducible refine (rmix_any _ _).mono ?_); rintro e w' ⟨rfl, rfl⟩))
  go_ret
  exact ⟨rfl, heap_alloc_new _ _, (Below.refl _ _).alloc (Nat.le_refl _) _⟩
theorem rnonce_is {b : Nat} {k n : Int} {w : World} (h : w.heap[b]? = some (rdrawO k n)) (h0 : 0 ≤ n) (h1 : n < 1000000) :
    Calls Try.prog 21 #[.pointer (some ⟨b, 0, none⟩)] w fun e w' => e = .returned (.int .i64 (nonI k n)) ∧ Upd w w' b (rdrawO k (n + 1)) := by
  have c0 : w.cell? ⟨b, 0, none⟩ = some (.int .u32 k) := blk_cell h 0
  have c1 : w.cell? ⟨b, 1, none⟩ = some (.int .i64 n) := blk_cell h 1
  have f1 : w.frozen? ⟨b, 1, none⟩ = false := blk_free h 1
  have HU : Hid (Upd w (w.setCell ⟨b, 1, none⟩ (.int .i64 (n + 1))) b (rdrawO k (n + 1))) := (Upd.self h).set 1 _
  obtain ⟨m0, m1⟩ := mixI_bd (Go.bits .xor .u32 (n + 1) k)
  go_enter Try.func21, Try.ntmps21
  go_wp2
  go_quiet ((go_at_call 10; exact q_same (rmix_any _ _)))
  go_wp2
  go_ret
  exact ⟨rfl, HU.out.drewN _⟩
theorem rbelow_gen {b : Nat} {m x : Int} {w : World} {o : Obj} (hx : 1 ≤ x ∧ x ≤ 4294967296) (hm : 1 ≤ m)
    (N : Calls Try.prog 21 #[.pointer (some ⟨b, 0, none⟩)] w fun e w' => e = .returned (.int .i64 x) ∧ Upd w w' b o) :
    Calls Try.prog 22 #[.pointer (some ⟨b, 0, none⟩), .int .i64 m] w fun e w' => e = .returned (.int .i64 ((x - 1) % m)) ∧ Upd w w' b o := by
  obtain ⟨m0, m1⟩ := hx
  obtain ⟨r0, r1, _⟩ := rest_bd (y := x - 1) (by omega) hm
  have r2 : (x - 1) % m ≤ 4294967295 := by omega
  clear r1
  go_enter Try.func22, Try.ntmps22
  go_wp2_with (go_at_call 21; ((with_reducible refine N.mono ?_); rintro e w1 ⟨rfl, hu⟩; have HU := Lib.hid hu; clear hu N))
  go_ret
  exact ⟨rfl, HU.out⟩
theorem rbelow_is {b : Nat} {k n m : Int} {w : World} (h : w.heap[b]? = some (rdrawO k n)) (h0 : 0 ≤ n) (h1 : n < 1000000) (hm : 1 ≤ m) :
    Calls Try.prog 22 #[.pointer (some ⟨b, 0, none⟩), .int .i64 m] w fun e w' => e = .returned (.int .i64 ((nonI k n - 1) % m)) ∧ Upd w w' b (rdrawO k (n + 1)) :=
  rbelow_gen (nonI_bd _ _) hm (rnonce_is h h0 h1)
theorem rbelow_none {p : Value} {m : Int} {w : World} (hm : m < 1) :
    Calls Try.prog 22 #[p, .int .i64 m] w fun e w' => e = .returned (.int .i64 0) ∧ w = w' := by
  go_enter Try.func22, Try.ntmps22
  go_wp2
  go_ret
  exact ⟨rfl, rfl⟩

/-- the document's examples -/
theorem lives_any (w : World) : Calls Try.prog 13 #[] w fun e w' => e = .returned (.bool true) ∧ Below w.heap.size w w' := by
  have e1 : unI (mixI 12345) = 12345 := by decide +kernel
  have e2 : unI (mixI 4294967295) = 4294967295 := by decide +kernel
  have b1 : (unI (mixI 12345) == 12345) = true := by rw [e1]; rfl
  have b2 : (unI (mixI 4294967295) == 4294967295) = true := by rw [e2]; rfl
  clear e1 e2
  obtain ⟨m0, m1⟩ := nonI_bd (keyI 1) 0
  go_enter Try.func13, Try.ntmps13
  go_wp2_with (first
    | (go_at_call 9; ((with_reducible refine (mix_any _ _).mono ?_); rintro e w' ⟨rfl, rfl⟩))
    | (go_at_call 11; ((with_reducible refine (unmix_any _ _).mono ?_); rintro e w' ⟨rfl, rfl⟩))
    | (go_at_call 14; ((with_reducible refine (new_any _ _).mono ?_); rintro e w1 ⟨rfl, hb, hw⟩; have HB := Lib.hid hb; have HW := Lib.hid hw; clear hb hw))
    | (go_at_call 15; ((with_reducible refine (nonce_is (k := keyI 1) (n := 0) HB.out (by omega) (by omega)).mono ?_); rintro e w1 ⟨rfl, hu⟩; have HU := Lib.hid hu; clear hu)))
  go_ret
  exact ⟨rfl, HW.out.trans (HU.out.below (Nat.le_refl _))⟩
end Go.Proofs.Ytlfhjlpcfpicbaa.M
