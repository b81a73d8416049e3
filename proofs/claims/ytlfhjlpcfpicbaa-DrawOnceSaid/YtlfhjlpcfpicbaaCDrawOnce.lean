/- DrawOnce: what the law computes. -/
import Derived.Test.YtlfhjlpcfpicbaaState
namespace Go.Proofs.Ytlfhjlpcfpicbaa.M
open Go Go.RowKit
set_option linter.unusedVariables false
theorem keyI_nat (s : Int) : ∃ k : Nat, keyI s = k ∧ k < 4294967296 := by
  have h := bits_bd .xor (mixI (s % 4294967296)) (s / 4294967296 % 4294967296)
  refine ⟨(keyI s).toNat, ?_, ?_⟩ <;> · show _ ; unfold keyI; omega
theorem nonI_ne (s : Int) (i j : Nat) (hij : i < j) (hj : j < 1000000) : nonI (keyI s) i ≠ nonI (keyI s) j := by
  obtain ⟨k, hk, hk2⟩ := keyI_nat s
  rw [hk]
  unfold nonI
  intro h
  have e : ∀ n : Nat, n < 1000000 → mixI (Go.bits .xor .u32 ((n : Int) + 1) (k : Int)) = (mixN ((n + 1) ^^^ k) : Int) := by
    intro n hn
    have := xor_nat (n + 1) k (by omega) hk2
    rw [show ((n : Int) + 1) = ((n + 1 : Nat) : Int) from rfl, this]
    exact mixI_nat _ (by simpa using Nat.xor_lt_two_pow (n := 32) (show n + 1 < 2 ^ 32 by omega) hk2)
  rw [e i (by omega), e j hj] at h
  have h1 : mixN ((i + 1) ^^^ k) = mixN ((j + 1) ^^^ k) := by omega
  have h2 := mix_inj (by simpa using Nat.xor_lt_two_pow (n := 32) (show i + 1 < 2 ^ 32 by omega) hk2) (by simpa using Nat.xor_lt_two_pow (n := 32) (show j + 1 < 2 ^ 32 by omega) hk2) h1
  have h3 : (i + 1) ^^^ k ^^^ k = (j + 1) ^^^ k ^^^ k := by rw [h2]
  rw [Nat.xor_assoc, Nat.xor_assoc, Nat.xor_self, Nat.xor_zero, Nat.xor_zero] at h3
  omega
def nums (s : Int) (k : Nat) : List Int := (List.range k).map fun j => nonI (keyI s) (j : Nat)
theorem nums_len (s : Int) (k : Nat) : (nums s k).length = k := by simp [nums]
theorem nums_succ (s : Int) (k : Nat) : nums s (k + 1) = nums s k ++ [nonI (keyI s) (k : Nat)] := by simp [nums, List.range_succ]
theorem nums_get (s : Int) (k j : Nat) (h : j < k) : ((nums s k).map (Value.int .i64))[j]? = some (.int .i64 (nonI (keyI s) j)) := by simp [nums, h]
theorem nonce_ex {b : Nat} {s n : Int} {w : World} (h : w.heap[b]? = some (drawO (keyI s) true n)) (h0 : 0 ≤ n) (h1 : n < 1000000) :
    Calls Try.prog 15 #[.pointer (some ⟨b, 0, none⟩)] w fun e w' => ∃ x, e = .returned (.int .i64 x) ∧ Hid (x = nonI (keyI s) n) ∧ 1 ≤ x ∧ x ≤ 4294967296 ∧ Upd w w' b (drawO (keyI s) true (n + 1)) :=
  (nonce_is h h0 h1).mono fun _ _ ⟨he, hu⟩ => have r := nonI_bd (keyI s) n; ⟨_, he, rfl, r.1, r.2, hu⟩
theorem info_int : (Try.prog.info? 3).map (fun i => (i.zero, i.size, i.bytes)) = some (some (.int .i64 0), 1, 8) := by kernel_rfl
/-- what the loop hands on: the Draw, the list -/
structure Once (s : Int) (W w : World) (n k : Nat) (v : Value) : Prop where
  below : Below W.heap.size W w
  draw : w.heap[W.heap.size]? = some (drawO (keyI s) true n)
  row : w.ownsRow (W.heap.size + 1) 3 1 v k ((nums s k).map (Value.int .i64))
  nil : k = 0 → v = .slice none 0 0
theorem Once.drawn {s : Int} {W w w' : World} {n k : Nat} {v : Value} (h : Once s W w n k v) (u : Upd w w' W.heap.size (drawO (keyI s) true (n + 1))) : Once s W w' (n + 1) k v :=
  ⟨h.below.trans (u.below (Nat.le_refl _)), u.at_, own_upd u h.row (by omega), h.nil⟩
theorem Once.pushed {s : Int} {W w w' : World} {n k : Nat} {v v' : Value} {x : Int} (h : Once s W w n k v) (hx : Hid (x = nonI (keyI s) k))
    (ho : w'.ownsRow (W.heap.size + 1) 3 1 v' (k + 1) ((nums s k).map (Value.int .i64) ++ [.int .i64 x])) (hg : (w.alloc (.cells #[.int .i64 x] 3)).grownBy w' v.ownBlock) : Once s W w' n (k + 1) v' := by
  have hx' : x = nonI (keyI s) k := hx
  have hl : ∀ g, v.ownBlock = some g → W.heap.size + 1 ≤ g := fun g hg => (h.row.lt g hg).1
  refine ⟨?_, keep_grown hg (keep_alloc _ h.draw) (fun g e => by have := hl g e; omega), ?_, fun e => by omega⟩
  · exact Below.grown (h.below.alloc h.below.size _) hg (by simp; have := h.below.size; omega) (fun k e => by have := hl k e; omega)
  · rw [nums_succ, ← hx', List.map_append]; exact ho
theorem once_law (s t : Int) (ht : 0 ≤ t) (w : World) :
    Calls Try.prog 4 #[.int .u64 s, .int .u64 t] w fun e w' => e = .returned (.bool true) ∧ Below w.heap.size w w' := by
  have t0 : 0 ≤ t % 200 := by omega
  have t1 : t % 200 ≤ 199 := by omega
  obtain ⟨i0, hi, hz0, hz1, hz2⟩ := info_parts info_int
  go_enter Try.func4, Try.ntmps4
  go_wp2_with fail
  refine (new_any _ _).mono ?_
  rintro e w1 ⟨rfl, a1, b1⟩
  have A1 : Hid (Once s w w1 0 0 (.slice none 0 0)) := ⟨b1, a1, World.ownsRow_nil _ _ _ _, fun _ => rfl⟩
  clear a1 b1
  go_wp2_with fail
  go_loopw [6, 7] (fun v i wr => ∃ k : Nat, k ≤ 200 ∧ i = .int .i64 k ∧ Hid (Once s w wr k k v)) (fun _ i _ => (200 - intOf i).toNat)
  case atStart => exact ⟨0, by omega, rfl, A1⟩
  case round =>
    clear A1
    obtain ⟨k, hk2, rfl, H⟩ := hrel
    by_cases hlt : (k : Int) < t % 200
    · by_cases hk0 : k = 0
      · subst hk0
        obtain rfl := H.out.nil rfl
        go_wp2_with fail
        refine (nonce_ex H.out.draw (by omega) (by omega)).mono ?_
        rintro e w2 ⟨x, rfl, hx, x1, x2, u2⟩
        have F : Hid (Once s w w2 1 0 (.slice none 0 0)) := H.out.drawn u2
        clear u2 H
        go_wp2_with fail
        refine wp_loop_rounds 1 ?_
        rw [rounds_succ]
        go_wp2_with (at_builtin; refine push_own rfl _ _ 30 rfl (w.heap.size + 1) 3 i0 (.int .i64 0) 1 8 Try.underlying30 hi hz0 hz1 hz2 rfl (by decide) [.int .i64 x] rfl (by simp [Value.oneCell']) F.out.row rfl rfl (by omega) (by omega) (blk_lt F.out.draw) ?_)
        intro v' w3 ho hg
        have G := Lib.hid (F.out.pushed hx ho hg)
        clear ho hg F hx
        go_wp2
        go_roundw
        case rel => exact ⟨1, by omega, by go_num, G⟩
        case measure => simp [intOf]
      · obtain ⟨g, cap, hv, hg, _⟩ := own_shape H.out.row (by omega)
        subst hv
        go_wp2_with fail
        refine (nonce_ex H.out.draw (by omega) (by omega)).mono ?_
        rintro e w2 ⟨x, rfl, hx, x1, x2, u2⟩
        have F := Lib.hid (H.out.drawn u2)
        clear u2 H
        have HC : Hid (∀ j : Nat, j < k → ∃ y : Int, w2.cell? ⟨g, j, none⟩ = some (.int .i64 y) ∧ x ≠ y) := by
          obtain ⟨g', cap', hv, hg', hc⟩ := own_shape F.out.row (by omega)
          simp only [Value.slice.injEq, Option.some.injEq, Addr.mk.injEq, and_true, true_and] at hv
          obtain ⟨rfl, rfl⟩ := hv
          intro j hj
          exact ⟨_, (hc j hj).trans (nums_get s k j hj), by rw [hx.out]; exact (nonI_ne s j k hj (by omega)).symm⟩
        go_wp2_with fail
        go_loop [24] (fun i => ∃ j : Nat, j ≤ k ∧ i = .int .i64 j) (fun i => k - (intOf i).toNat)
        case atStart => exact ⟨0, by omega, rfl⟩
        case round =>
          obtain ⟨j, hj, rfl⟩ := hrel
          by_cases hjk : j < k
          · obtain ⟨y, hy, hne⟩ := HC.out j hjk
            have hb : (x == y) = false := by simpa using hne
            clear hne
            go_wp2
            go_round
            case rel => exact ⟨j + 1, by omega, by go_num⟩
            case measure => simp [intOf]; omega
          · obtain rfl : j = k := by omega
            go_wp2_with (at_builtin; refine push_own rfl _ _ 30 rfl (w.heap.size + 1) 3 i0 (.int .i64 0) 1 8 Try.underlying30 hi hz0 hz1 hz2 rfl (by decide) [.int .i64 x] rfl (by simp [Value.oneCell']) F.out.row rfl rfl (by omega) (by omega) (blk_lt F.out.draw) ?_)
            intro v' w3 ho hg'
            have G := Lib.hid (F.out.pushed hx ho hg')
            clear ho hg' F hx
            go_wp2
            go_roundw
            case rel => exact ⟨j + 1, by omega, by go_num, G⟩
            case measure => simp [intOf]; omega
    · go_wp2_with (go_at_call 13; ((with_reducible refine (lives_any _).mono ?_); rintro e w3 ⟨rfl, hb⟩; have B := Lib.hid (H.out.below.trans (hb.mono H.out.below.size)); clear hb))
      go_ret
      exact ⟨rfl, B.out⟩
theorem u64_nn {x : Int} (h : (Lit.int .u64 x).wf = true) : 0 ≤ x := by
  simp [Lit.wf, IntKind.min, IntKind.max, IntKind.signed, IntKind.bits] at h
  omega
theorem drawOnce_law (s : Int) (ws : (Lit.int .u64 s).wf = true) (t : Int) (wt : (Lit.int .u64 t).wf = true) (w : World) :
    Calls Try.prog 4 #[.int .u64 s, .int .u64 t] w fun e w' => e = .returned (.bool true) ∧ Below w.heap.size w w' :=
  once_law s t (u64_nn wt) w
end Go.Proofs.Ytlfhjlpcfpicbaa.M
