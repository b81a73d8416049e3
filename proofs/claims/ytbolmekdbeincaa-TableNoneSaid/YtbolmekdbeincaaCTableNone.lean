/- TableNone: what the law computes. -/
import Derived.Test.YtbolmekdbeincaaActV
import Derived.Deep.RegionHeld3
import Derived.WalkSpells
namespace Go.Proofs.Ytbolmekdbeincaa.M
open Go Go.RowKit
set_option linter.unusedVariables false
set_option linter.unusedSimpArgs false
set_option maxRecDepth 100000 in
theorem Forget_is {is : Bool} {b : Nat} {t : List RowV} (ht : t.length = 4) {w : World} (h : w.heap[b]? = some (tabO is t)) :
    Calls Try.prog 16 #[.pointer (some ⟨b, 0, none⟩)] w fun e w' => e = .returned (.tuple #[]) ∧ Turned w w' b (tabO is (forgetT t)) := by
  have H := Lib.hid h
  have hb := blk_lt h
  have HL : Hid ((t.flatMap rowCells).length = 24) := by show _ = _; rw [flat_len rowCells 6 rowCells_len, ht]
  have HC : Hid (∀ j v, (t.flatMap rowCells)[j]? = some v → w.cell? ⟨b, 1 + j, none⟩ = some v) := fun j v hv => by
    rw [blk_cell h, List.getElem?_toArray, Nat.add_comm, List.getElem?_cons_succ]; exact hv
  have HT := Lib.hid ht
  clear h ht
  go_enter Try.func16, Try.ntmps16
  go_wp2_with (with_reducible refine load_agg rfl 50 (.tmp 9) rfl _ Try.underlying50 rfl b 1 rfl (t.flatMap rowCells) (by rw [HL.out]; exact size_tab) HC.out ?_)
  go_loopw [11] (fun i wr => ∃ k : Nat, k ≤ 4 ∧ i = .int .i64 k ∧ Hid (Turned w wr b (tabO is (midT t k)))) (fun i _ => (4 - intOf i).toNat)
  case atStart => exact ⟨0, by omega, rfl, Turned.self (Below.refl _ _) H.out⟩
  case round =>
    obtain ⟨k, hk, rfl, G⟩ := hrel
    by_cases hk4 : k < 4
    · have hkt : k < t.length := by rw [HT.out]; exact hk4
      have hp := flat_part rowCells 6 rowCells_len t k hkt
      by_cases h0 : t[k].wait = 0
      · have G1 : Hid (Turned w wr b (tabO is (midT t (k + 1)))) := by rw [midT_same t k hkt h0]; exact G.out
        generalize t[k] = r at hp h0
        obtain ⟨r1, r2, r3, r4, r5, r6⟩ := r
        simp only at h0
        subst h0
        have HP : Hid (((t.flatMap rowCells).drop (k * 6)).take 6 = [.int .i64 r1, .int .i64 r2, .int .i64 r3, .int .i64 r4, .int .i64 r5, .int .i64 0]) := hp
        clear hp
        go_wp2_with (with_reducible refine index_agg rfl 50 (.tmp 10) (.tmp 11) rfl 4 49 Try.underlying50 _ Try.underlying49 rfl 6 size_row (t.flatMap rowCells) rfl .i64 k rfl hk4 _ HP.out ?_)
        go_wp2
        go_roundw
        case rel => exact ⟨k + 1, by omega, by go_num, (G1.out.alloc _).alloc _⟩
        case measure => simp [intOf]; omega
      · have G1 : Hid (∀ w2, Turned w w2 b (tabO is (midT t k)) → ∃ x0 x1 x2 x3 x4 x5, rowCells t[k] = [.int .i64 x0, .int .i64 x1, .int .i64 x2, .int .i64 x3, .int .i64 x4, .int .i64 x5]) := fun _ _ => ⟨_, _, _, _, _, _, rfl⟩
        have G2 : Hid (midT t (k + 1) = (midT t k).set k (forgetR t[k])) := midT_succ t k hkt
        have hm : k < (midT t k).length := by rw [midT_len]; exact hkt
        obtain ⟨c0, c1, c2, c3, c4, c5⟩ := row_cells G.out.at_ k hm
        have f0 : wr.frozen? ⟨b, 1 + k * 6, none⟩ = false := blk_free G.out.at_ _
        have f1 : wr.frozen? ⟨b, 1 + k * 6 + 1, none⟩ = false := blk_free G.out.at_ _
        have f2 : wr.frozen? ⟨b, 1 + k * 6 + 2, none⟩ = false := blk_free G.out.at_ _
        have f3 : wr.frozen? ⟨b, 1 + k * 6 + 3, none⟩ = false := blk_free G.out.at_ _
        have f4 : wr.frozen? ⟨b, 1 + k * 6 + 4, none⟩ = false := blk_free G.out.at_ _
        have f5 : wr.frozen? ⟨b, 1 + k * 6 + 5, none⟩ = false := blk_free G.out.at_ _
        have hbr : b < wr.heap.size := blk_lt G.out.at_
        have NE : b ≠ wr.heap.size := by omega
        have NE1 : b ≠ wr.heap.size + 1 := by omega
        generalize t[k] = r at hp h0 G2
        generalize (midT t k)[k] = z at c0 c1 c2 c3 c4 c5
        clear G1
        obtain ⟨r1, r2, r3, r4, r5, r6⟩ := r
        simp only at h0
        have HP : Hid (((t.flatMap rowCells).drop (k * 6)).take 6 = [.int .i64 r1, .int .i64 r2, .int .i64 r3, .int .i64 r4, .int .i64 r5, .int .i64 r6]) := hp
        have b6 : (0 == r6) = false := by simp; omega
        have hm' := Lib.hid hm
        clear hp h0 hm
        go_wp2_with (with_reducible refine index_agg rfl 50 (.tmp 10) (.tmp 11) rfl 4 49 Try.underlying50 _ Try.underlying49 rfl 6 size_row (t.flatMap rowCells) rfl .i64 k rfl hk4 _ HP.out ?_)
        go_wp2
        go_region
        all_goals go_wp2
        go_roundw
        case rel => exact ⟨k + 1, by omega, by go_num, by rw [G2.out]; exact (((turned_row G.out k hm'.out r1 r2 r3 r4 r5 0).alloc _).alloc _).drew⟩
        case measure => simp [intOf]; omega
    · obtain rfl : k = 4 := by omega
      go_wp2
      go_end0
      refine ⟨rfl, ?_⟩
      have g := G.out
      have e : midT t 4 = forgetT t := by unfold midT forgetT; rw [List.take_of_length_le (by have := HT.out; omega), List.drop_eq_nil_of_le (by have := HT.out; omega), List.append_nil]
      rw [e] at g
      exact g
theorem may_nil {w : World} {c : Int} {q : Int} : Calls Try.prog 25 #[.pointer none, .int .i64 c, .int .i64 q] w fun e w' => e = .returned (.tuple #[.pointer none, .int .i64 1]) ∧ w = w' := by
  go_enter Try.func25, Try.ntmps25
  go_wp2
  go_ret2
  exact ⟨rfl, rfl⟩
theorem may_zero {w : World} {b : Nat} (h : w.heap[b]? = some (tabO false tab0)) {c : Int} {q : Int} : Calls Try.prog 25 #[.pointer (some ⟨b, 0, none⟩), .int .i64 c, .int .i64 q] w fun e w' => e = .returned (.tuple #[.pointer none, .int .i64 1]) ∧ w = w' := by
  have c0 : w.cell? ⟨b, 0, none⟩ = some (.bool false) := (blk_cell h 0).trans rfl
  have H := Lib.hid h
  have hb := blk_lt h
  clear h
  go_enter Try.func25, Try.ntmps25
  go_wp2
  go_ret2
  exact ⟨rfl, rfl⟩
theorem Last0_nil {w : World} {c : Int} : Calls Try.prog 11 #[.pointer none, .int .i64 c] w fun e w' => e = .returned (.int .i64 0) ∧ w = w' := by
  go_enter Try.func11, Try.ntmps11
  go_wp2_with (first | (go_at_call 23; ((with_reducible refine (row_nil).mono ?_); rintro e w' ⟨rfl, rfl⟩)))
  go_ret
  exact ⟨rfl, rfl⟩
theorem Last0_zero {w : World} {b : Nat} (h : w.heap[b]? = some (tabO false tab0)) {c : Int} : Calls Try.prog 11 #[.pointer (some ⟨b, 0, none⟩), .int .i64 c] w fun e w' => e = .returned (.int .i64 0) ∧ w = w' := by
  have c0 : w.cell? ⟨b, 0, none⟩ = some (.bool false) := (blk_cell h 0).trans rfl
  have H := Lib.hid h
  have hb := blk_lt h
  clear h
  go_enter Try.func11, Try.ntmps11
  go_wp2_with (first | (go_at_call 23; ((with_reducible refine (row_out H.out _ (.inl rfl)).mono ?_); rintro e w' ⟨rfl, rfl⟩)))
  go_ret
  exact ⟨rfl, rfl⟩
theorem Done0_nil {w : World} {c : Int} : Calls Try.prog 10 #[.pointer none, .int .i64 c] w fun e w' => e = .returned (.int .i64 0) ∧ w = w' := by
  go_enter Try.func10, Try.ntmps10
  go_wp2_with (first | (go_at_call 23; ((with_reducible refine (row_nil).mono ?_); rintro e w' ⟨rfl, rfl⟩)))
  go_ret
  exact ⟨rfl, rfl⟩
theorem Done0_zero {w : World} {b : Nat} (h : w.heap[b]? = some (tabO false tab0)) {c : Int} : Calls Try.prog 10 #[.pointer (some ⟨b, 0, none⟩), .int .i64 c] w fun e w' => e = .returned (.int .i64 0) ∧ w = w' := by
  have c0 : w.cell? ⟨b, 0, none⟩ = some (.bool false) := (blk_cell h 0).trans rfl
  have H := Lib.hid h
  have hb := blk_lt h
  clear h
  go_enter Try.func10, Try.ntmps10
  go_wp2_with (first | (go_at_call 23; ((with_reducible refine (row_out H.out _ (.inl rfl)).mono ?_); rintro e w' ⟨rfl, rfl⟩)))
  go_ret
  exact ⟨rfl, rfl⟩
theorem Ask0_nil {w : World} {c : Int} {q : Int} : Calls Try.prog 12 #[.pointer none, .int .i64 c, .int .i64 q] w fun e w' => e = .returned (.tuple #[.int .i64 4, .agg #[.int .i64 0, .int .i64 0, .int .i64 0, .int .i64 0]]) ∧ Below w.heap.size w w' := by
  go_enter Try.func12, Try.ntmps12
  go_wp2_with (first | (go_at_call 23; ((with_reducible refine (row_nil).mono ?_); rintro e w' ⟨rfl, rfl⟩)))
  go_returns
  exact ⟨rfl, by go_grown⟩
theorem Ask0_zero {w : World} {b : Nat} (h : w.heap[b]? = some (tabO false tab0)) {c : Int} {q : Int} : Calls Try.prog 12 #[.pointer (some ⟨b, 0, none⟩), .int .i64 c, .int .i64 q] w fun e w' => e = .returned (.tuple #[.int .i64 4, .agg #[.int .i64 0, .int .i64 0, .int .i64 0, .int .i64 0]]) ∧ Below w.heap.size w w' := by
  have c0 : w.cell? ⟨b, 0, none⟩ = some (.bool false) := (blk_cell h 0).trans rfl
  have H := Lib.hid h
  have hb := blk_lt h
  clear h
  go_enter Try.func12, Try.ntmps12
  go_wp2_with (first | (go_at_call 23; ((with_reducible refine (row_out (keep_alloc _ H.out) _ (.inl rfl)).mono ?_); rintro e w' ⟨rfl, rfl⟩)))
  go_returns
  exact ⟨rfl, by go_grown⟩
theorem Start0_nil {w : World} {c : Int} {q : Int} : Calls Try.prog 13 #[.pointer none, .int .i64 c, .int .i64 q] w fun e w' => e = .returned (.int .i64 1) ∧ w = w' := by
  go_enter Try.func13, Try.ntmps13
  go_wp2_with (first | (go_at_call 25; ((with_reducible refine (may_nil).mono ?_); rintro e w' ⟨rfl, rfl⟩)))
  go_ret
  exact ⟨rfl, rfl⟩
theorem Start0_zero {w : World} {b : Nat} (h : w.heap[b]? = some (tabO false tab0)) {c : Int} {q : Int} : Calls Try.prog 13 #[.pointer (some ⟨b, 0, none⟩), .int .i64 c, .int .i64 q] w fun e w' => e = .returned (.int .i64 1) ∧ w = w' := by
  have c0 : w.cell? ⟨b, 0, none⟩ = some (.bool false) := (blk_cell h 0).trans rfl
  have H := Lib.hid h
  have hb := blk_lt h
  clear h
  go_enter Try.func13, Try.ntmps13
  go_wp2_with (first | (go_at_call 25; ((with_reducible refine (may_zero H.out).mono ?_); rintro e w' ⟨rfl, rfl⟩)))
  go_ret
  exact ⟨rfl, rfl⟩
theorem Finish0_nil {w : World} {c : Int} {q : Int} {e1 : Int} {e2 : Int} {e3 : Int} {e4 : Int} : Calls Try.prog 14 #[.pointer none, .int .i64 c, .int .i64 q, .agg #[.int .i64 e1, .int .i64 e2, .int .i64 e3, .int .i64 e4]] w fun e w' => e = .returned (.int .i64 1) ∧ Below w.heap.size w w' := by
  go_enter Try.func14, Try.ntmps14
  go_wp2_with (first | (go_at_call 25; ((with_reducible refine (may_nil).mono ?_); rintro e w' ⟨rfl, rfl⟩)))
  go_ret
  exact ⟨rfl, by go_grown⟩
theorem Finish0_zero {w : World} {b : Nat} (h : w.heap[b]? = some (tabO false tab0)) {c : Int} {q : Int} {e1 : Int} {e2 : Int} {e3 : Int} {e4 : Int} : Calls Try.prog 14 #[.pointer (some ⟨b, 0, none⟩), .int .i64 c, .int .i64 q, .agg #[.int .i64 e1, .int .i64 e2, .int .i64 e3, .int .i64 e4]] w fun e w' => e = .returned (.int .i64 1) ∧ Below w.heap.size w w' := by
  have c0 : w.cell? ⟨b, 0, none⟩ = some (.bool false) := (blk_cell h 0).trans rfl
  have H := Lib.hid h
  have hb := blk_lt h
  clear h
  go_enter Try.func14, Try.ntmps14
  go_wp2_with (first | (go_at_call 25; ((with_reducible refine (may_zero (keep_alloc _ H.out)).mono ?_); rintro e w' ⟨rfl, rfl⟩)))
  go_ret
  exact ⟨rfl, by go_grown⟩
theorem Copy0_nil {w : World} : Calls Try.prog 15 #[.pointer none] w fun e w' => e = .returned (.pointer none) ∧ w = w' := by
  go_enter Try.func15, Try.ntmps15
  go_wp2
  go_ret
  exact ⟨rfl, rfl⟩
theorem Copy0_zero {w : World} {b : Nat} (h : w.heap[b]? = some (tabO false tab0)) : Calls Try.prog 15 #[.pointer (some ⟨b, 0, none⟩)] w fun e w' => e = .returned (.pointer (some ⟨b, 0, none⟩)) ∧ w = w' := by
  have c0 : w.cell? ⟨b, 0, none⟩ = some (.bool false) := (blk_cell h 0).trans rfl
  have H := Lib.hid h
  have hb := blk_lt h
  clear h
  go_enter Try.func15, Try.ntmps15
  go_wp2
  go_ret
  exact ⟨rfl, rfl⟩
theorem Forget_nil {w : World} : Calls Try.prog 16 #[.pointer none] w fun e w' => e = .returned (.tuple #[]) ∧ w = w' := by
  go_enter Try.func16, Try.ntmps16
  go_wp2
  go_returns
  exact ⟨rfl, rfl⟩
theorem eq_self_ptr (P : Program) (t e : TypeId) (hu : P.underlying t = some (.pointer e)) (d n : Nat) (w : World) (hs : (sizeOf e).run P w = .ok n w) (a : Addr) (ha : (sameAddr a a).run P w = .ok true w) : (Op.equalIn (d + 1) t (.pointer (some a)) (.pointer (some a))).run P w = .ok true w := by
  simp [Op.equalIn, run_underlying hu, hs, ha]
theorem same_self (P : Program) (b : Nat) (w : World) : (sameAddr ⟨b, 0, none⟩ ⟨b, 0, none⟩).run P w = .ok true w := by
  simp [sameAddr]
theorem neq_self (b : Nat) (w : World) : (binOp .neq 24 (.pointer (some ⟨b, 0, none⟩)) (.pointer (some ⟨b, 0, none⟩))).run Try.prog w = .ok (.bool false) w := by
  have h := eq_self_ptr Try.prog 24 _ Try.underlying24 9999 _ w (by rfl) ⟨b, 0, none⟩ (same_self _ b w)
  simp only [binOp]
  simp [Op.equal, Op.maxDepth, h]
set_option maxHeartbeats 4000000 in
set_option maxRecDepth 100000 in
theorem none_in {w : World} {k0 k1 k2 k3 k4 k5 k6 : Int} :
    Calls Try.prog 7 #[.agg #[.int .i64 k0, .int .i64 k1, .int .i64 k2, .int .i64 k3, .int .i64 k4, .int .i64 k5, .int .i64 k6]] w fun e w' => e = .returned (.bool true) ∧ Below w.heap.size w w' := by
  have pq := fun b w => neq_self b w
  have ix0 : ∀ (b : Nat) (w : World), (Instr.index 53 (.agg #[.pointer none, .pointer (some ⟨b, 0, none⟩)]) (.int .i64 0)).run Try.prog w = .ok (.pointer none) w := fun _ _ => by rfl
  have ix1 : ∀ (b : Nat) (w : World), (Instr.index 53 (.agg #[.pointer none, .pointer (some ⟨b, 0, none⟩)]) (.int .i64 1)).run Try.prog w = .ok (.pointer (some ⟨b, 0, none⟩)) w := fun _ _ => by rfl
  go_enter Try.func7, Try.ntmps7
  have L : Hid (HL w ((w.alloc (Obj.cells #[.int .i64 k0, .int .i64 k1, .int .i64 k2, .int .i64 k3, .int .i64 k4, .int .i64 k5, .int .i64 k6] 30)).alloc (tabO false tab0)) [(w.heap.size + 1, tabO false tab0), (w.heap.size, Obj.cells #[.int .i64 k0, .int .i64 k1, .int .i64 k2, .int .i64 k3, .int .i64 k4, .int .i64 k5, .int .i64 k6] 30)]) := by
    have h := ((HL.nil w).alloc (Obj.cells #[.int .i64 k0, .int .i64 k1, .int .i64 k2, .int .i64 k3, .int .i64 k4, .int .i64 k5, .int .i64 k6] 30)).alloc (tabO false tab0)
    exact Lib.hid (by simpa using h)
  go_wp2_with fail
  refine wp_loop_rounds 3 ?_
  rw [rounds_succ]
  go_wp2_with fail
  refine (Forget_nil).mono ?_
  rintro e w2 ⟨rfl, rfl⟩
  go_wp2_with fail
  refine (Ask0_nil).mono ?_
  rintro e w3 ⟨rfl, hb⟩
  have L' : Hid (HL w w3 [(w.heap.size + 1, tabO false tab0), (w.heap.size, Obj.cells #[.int .i64 k0, .int .i64 k1, .int .i64 k2, .int .i64 k3, .int .i64 k4, .int .i64 k5, .int .i64 k6] 30)]) := L.out.new hb
  clear L
  have L := L'
  clear L'
  clear hb
  go_wp2_with fail
  have L' : Hid (HL w (w3.alloc (Obj.cells #[.int .i64 0, .int .i64 0, .int .i64 0, .int .i64 0] 28)) [(w3.heap.size, Obj.cells #[.int .i64 0, .int .i64 0, .int .i64 0, .int .i64 0] 28), (w.heap.size + 1, tabO false tab0), (w.heap.size, Obj.cells #[.int .i64 k0, .int .i64 k1, .int .i64 k2, .int .i64 k3, .int .i64 k4, .int .i64 k5, .int .i64 k6] 30)]) := L.out.alloc _
  clear L
  have L := L'
  clear L'
  have L' : Hid (HL w (w3.alloc (Obj.cells #[.int .i64 0, .int .i64 0, .int .i64 0, .int .i64 0] 28)).drew [(w3.heap.size, Obj.cells #[.int .i64 0, .int .i64 0, .int .i64 0, .int .i64 0] 28), (w.heap.size + 1, tabO false tab0), (w.heap.size, Obj.cells #[.int .i64 k0, .int .i64 k1, .int .i64 k2, .int .i64 k3, .int .i64 k4, .int .i64 k5, .int .i64 k6] 30)]) := L.out.drew
  clear L
  have L := L'
  clear L'
  first
  | (go_region_held3 (fun w' => w'.cell? ⟨w.heap.size, 1, none⟩ = some (.int .i64 k1) ∧ w'.cell? ⟨w.heap.size, 2, none⟩ = some (.int .i64 k2) ∧ w'.cell? ⟨w.heap.size, 3, none⟩ = some (.int .i64 k3) ∧ w'.cell? ⟨w.heap.size, 4, none⟩ = some (.int .i64 k4) ∧ w'.cell? ⟨w.heap.size, 5, none⟩ = some (.int .i64 k5) ∧ w'.cell? ⟨w.heap.size, 6, none⟩ = some (.int .i64 k6) ∧ w'.cell? ⟨w3.heap.size, 0, none⟩ = some (.int .i64 0) ∧ w'.cell? ⟨w3.heap.size, 1, none⟩ = some (.int .i64 0) ∧ w'.cell? ⟨w3.heap.size, 2, none⟩ = some (.int .i64 0) ∧ w'.cell? ⟨w3.heap.size, 3, none⟩ = some (.int .i64 0)) (exact ⟨blk_cell (L.out.get 2 rfl) 1, blk_cell (L.out.get 2 rfl) 2, blk_cell (L.out.get 2 rfl) 3, blk_cell (L.out.get 2 rfl) 4, blk_cell (L.out.get 2 rfl) 5, blk_cell (L.out.get 2 rfl) 6, blk_cell (L.out.get 0 rfl) 0, blk_cell (L.out.get 0 rfl) 1, blk_cell (L.out.get 0 rfl) 2, blk_cell (L.out.get 0 rfl) 3⟩) (first | (go_at_call 13; refine (Start0_nil).mono ?_; rintro e w20 ⟨rfl, rfl⟩) | (go_at_call 14; refine (Finish0_nil).mono ?_; rintro e w21 ⟨rfl, hb⟩; have L' : Hid (HL w w21 [(w3.heap.size, Obj.cells #[.int .i64 0, .int .i64 0, .int .i64 0, .int .i64 0] 28), (w.heap.size + 1, tabO false tab0), (w.heap.size, Obj.cells #[.int .i64 k0, .int .i64 k1, .int .i64 k2, .int .i64 k3, .int .i64 k4, .int .i64 k5, .int .i64 k6] 30)]) := L.out.new hb; clear L hb; have L := L'; clear L') | (go_at_call 11; refine (Last0_nil).mono ?_; rintro e w22 ⟨rfl, rfl⟩) | (go_at_call 10; refine (Done0_nil).mono ?_; rintro e w23 ⟨rfl, rfl⟩) | (go_at_call 15; refine (Copy0_nil).mono ?_; rintro e w24 ⟨rfl, rfl⟩)))
  | fail "held3"
  go_wp2_with fail
  rw [rounds_succ]
  go_wp2_with fail
  refine (Forget_is (is := false) rfl (L.out.get 1 rfl)).mono ?_
  rintro e w31 ⟨rfl, hu⟩
  have L' : Hid (HL w w31 [(w3.heap.size, Obj.cells #[.int .i64 0, .int .i64 0, .int .i64 0, .int .i64 0] 28), (w.heap.size + 1, tabO false tab0), (w.heap.size, Obj.cells #[.int .i64 k0, .int .i64 k1, .int .i64 k2, .int .i64 k3, .int .i64 k4, .int .i64 k5, .int .i64 k6] 30)]) := L.out.turn 1 rfl hu.only hu.at_
  clear L
  have L := L'
  clear L'
  clear hu
  have ad0 : w31.cell? ⟨w.heap.size, 0, none⟩ = some (.int .i64 k0) := blk_cell (L.out.get 2 rfl) 0
  have ad1 : w31.cell? ⟨w.heap.size, 1, none⟩ = some (.int .i64 k1) := blk_cell (L.out.get 2 rfl) 1
  have ad2 : w31.cell? ⟨w.heap.size, 2, none⟩ = some (.int .i64 k2) := blk_cell (L.out.get 2 rfl) 2
  have ad3 : w31.cell? ⟨w.heap.size, 3, none⟩ = some (.int .i64 k3) := blk_cell (L.out.get 2 rfl) 3
  have ad4 : w31.cell? ⟨w.heap.size, 4, none⟩ = some (.int .i64 k4) := blk_cell (L.out.get 2 rfl) 4
  have ad5 : w31.cell? ⟨w.heap.size, 5, none⟩ = some (.int .i64 k5) := blk_cell (L.out.get 2 rfl) 5
  have ad6 : w31.cell? ⟨w.heap.size, 6, none⟩ = some (.int .i64 k6) := blk_cell (L.out.get 2 rfl) 6
  have adlt : w.heap.size < w31.heap.size := L.out.lt 2 rfl
  go_wp2_with fail
  refine (Ask0_zero (L.out.get 1 rfl)).mono ?_
  rintro e w32 ⟨rfl, hb⟩
  have L' : Hid (HL w w32 [(w3.heap.size, Obj.cells #[.int .i64 0, .int .i64 0, .int .i64 0, .int .i64 0] 28), (w.heap.size + 1, tabO false tab0), (w.heap.size, Obj.cells #[.int .i64 k0, .int .i64 k1, .int .i64 k2, .int .i64 k3, .int .i64 k4, .int .i64 k5, .int .i64 k6] 30)]) := L.out.new hb
  clear L
  have L := L'
  clear L'
  clear hb
  clear ad0 ad1 ad2 ad3 ad4 ad5 ad6 adlt
  go_wp2_with fail
  have L' : Hid (HL w (w32.alloc (Obj.cells #[.int .i64 0, .int .i64 0, .int .i64 0, .int .i64 0] 28)) [(w32.heap.size, Obj.cells #[.int .i64 0, .int .i64 0, .int .i64 0, .int .i64 0] 28), (w3.heap.size, Obj.cells #[.int .i64 0, .int .i64 0, .int .i64 0, .int .i64 0] 28), (w.heap.size + 1, tabO false tab0), (w.heap.size, Obj.cells #[.int .i64 k0, .int .i64 k1, .int .i64 k2, .int .i64 k3, .int .i64 k4, .int .i64 k5, .int .i64 k6] 30)]) := L.out.alloc _
  clear L
  have L := L'
  clear L'
  have L' : Hid (HL w (w32.alloc (Obj.cells #[.int .i64 0, .int .i64 0, .int .i64 0, .int .i64 0] 28)).drew [(w32.heap.size, Obj.cells #[.int .i64 0, .int .i64 0, .int .i64 0, .int .i64 0] 28), (w3.heap.size, Obj.cells #[.int .i64 0, .int .i64 0, .int .i64 0, .int .i64 0] 28), (w.heap.size + 1, tabO false tab0), (w.heap.size, Obj.cells #[.int .i64 k0, .int .i64 k1, .int .i64 k2, .int .i64 k3, .int .i64 k4, .int .i64 k5, .int .i64 k6] 30)]) := L.out.drew
  clear L
  have L := L'
  clear L'
  first
  | (go_region_held3 (fun w' => w'.cell? ⟨w.heap.size, 1, none⟩ = some (.int .i64 k1) ∧ w'.cell? ⟨w.heap.size, 2, none⟩ = some (.int .i64 k2) ∧ w'.cell? ⟨w.heap.size, 3, none⟩ = some (.int .i64 k3) ∧ w'.cell? ⟨w.heap.size, 4, none⟩ = some (.int .i64 k4) ∧ w'.cell? ⟨w.heap.size, 5, none⟩ = some (.int .i64 k5) ∧ w'.cell? ⟨w.heap.size, 6, none⟩ = some (.int .i64 k6) ∧ w'.cell? ⟨w32.heap.size, 0, none⟩ = some (.int .i64 0) ∧ w'.cell? ⟨w32.heap.size, 1, none⟩ = some (.int .i64 0) ∧ w'.cell? ⟨w32.heap.size, 2, none⟩ = some (.int .i64 0) ∧ w'.cell? ⟨w32.heap.size, 3, none⟩ = some (.int .i64 0)) (exact ⟨blk_cell (L.out.get 3 rfl) 1, blk_cell (L.out.get 3 rfl) 2, blk_cell (L.out.get 3 rfl) 3, blk_cell (L.out.get 3 rfl) 4, blk_cell (L.out.get 3 rfl) 5, blk_cell (L.out.get 3 rfl) 6, blk_cell (L.out.get 0 rfl) 0, blk_cell (L.out.get 0 rfl) 1, blk_cell (L.out.get 0 rfl) 2, blk_cell (L.out.get 0 rfl) 3⟩) (first | (go_at_call 13; refine (Start0_zero (L.out.get 2 rfl)).mono ?_; rintro e w20 ⟨rfl, rfl⟩) | (go_at_call 14; refine (Finish0_zero (L.out.get 2 rfl)).mono ?_; rintro e w21 ⟨rfl, hb⟩; have L' : Hid (HL w w21 [(w32.heap.size, Obj.cells #[.int .i64 0, .int .i64 0, .int .i64 0, .int .i64 0] 28), (w3.heap.size, Obj.cells #[.int .i64 0, .int .i64 0, .int .i64 0, .int .i64 0] 28), (w.heap.size + 1, tabO false tab0), (w.heap.size, Obj.cells #[.int .i64 k0, .int .i64 k1, .int .i64 k2, .int .i64 k3, .int .i64 k4, .int .i64 k5, .int .i64 k6] 30)]) := L.out.new hb; clear L hb; have L := L'; clear L') | (go_at_call 11; refine (Last0_zero (L.out.get 2 rfl)).mono ?_; rintro e w22 ⟨rfl, rfl⟩) | (go_at_call 10; refine (Done0_zero (L.out.get 2 rfl)).mono ?_; rintro e w23 ⟨rfl, rfl⟩) | (go_at_call 15; refine (Copy0_zero (L.out.get 2 rfl)).mono ?_; rintro e w24 ⟨rfl, rfl⟩)))
  | fail "held3"
  go_wp2_with fail
  rw [rounds_succ]
  go_wp2_with fail
  refine (lives_any _).mono ?_
  rintro e w40 ⟨rfl, hb⟩
  have B : Hid (Below w.heap.size w w40) := (L.out.new hb).below
  clear hb
  go_wp2
  go_ret
  exact ⟨rfl, B.out⟩
theorem tableNone_law (w : World) (cs : Array Value) (h : Shape.okAll w actShape cs.toList) :
    Calls Try.prog 7 #[.agg cs] w fun e w' => e = .returned (.bool true) ∧ Below w.heap.size w w' := by
  obtain ⟨⟨a, b, c, d, e, f, g⟩, ha⟩ := act_of _ h
  obtain rfl : cs = #[.int .i64 a, .int .i64 b, .int .i64 c, .int .i64 d, .int .i64 e, .int .i64 f, .int .i64 g] := by
    cases cs
    simp only at ha
    rw [← ha]
    rfl
  exact none_in
end Go.Proofs.Ytbolmekdbeincaa.M
