/- TableApart: what the law computes. -/
import Derived.Test.YtbolmekdbeincaaActV
namespace Go.Proofs.Ytbolmekdbeincaa.M
open Go Go.RowKit
set_option linter.unusedVariables false
set_option maxHeartbeats 4000000 in
set_option maxRecDepth 100000 in
theorem apart_in {w : World} {vx : Value} {len : Nat} {acts : List ActV} (hr : Reads w 7 vx len (acts.flatMap actCells)) (hL : acts.length = len) (hlen : len ≤ 200) (c q : Int) :
    Calls Try.prog 4 #[vx, .int .i64 c, .int .i64 q] w fun e w' => e = .returned (.bool true) ∧ Below w.heap.size w w' := by
  have HR := Lib.hid hr
  have EL := Lib.hid hL
  obtain ⟨_, ao, cap, rfl, _, _⟩ := hr
  clear hL
  go_enter Try.func4, Try.ntmps4
  go_wp2_with fail
  refine Make_any.mono ?_
  rintro e w1 ⟨rfl, ha, hb⟩
  have L : Hid (HL w w1 [(w.heap.size, tabO true tab0)]) := (HL.nil w).made hb ha
  clear ha hb
  generalize w.heap.size = b at L ⊢
  go_wp2_with fail
  go_loopw [23] (fun i wr => ∃ (j : Nat) (t : List RowV), j ≤ len ∧ i = .int .i64 j ∧ Hid (t.length = 4) ∧ Hid (HL w wr [(b, tabO true t)])) (fun i _ => len - (intOf i).toNat)
  case atStart => exact ⟨0, tab0, by omega, rfl, rfl, L⟩
  case round =>
    clear L
    obtain ⟨j, t, hj, rfl, HT, L⟩ := hrel
    by_cases hjn : j < len
    · obtain ⟨ab, aoff, acap, e1, hc⟩ := acts_at (HR.out.below L.out.below (Nat.le_refl _)) EL.out j hjn
      cases e1
      generalize acts[j]'(by have := EL.out; omega) = a at hc
      obtain ⟨k0, k1, k2, k3, k4, k5, k6⟩ := a
      have HC : Hid (∀ i u, ([.int .i64 k0, .int .i64 k1, .int .i64 k2, .int .i64 k3, .int .i64 k4, .int .i64 k5, .int .i64 k6] : List Value)[i]? = some u → wr.cell? ⟨ab, aoff + j * 7 + i, none⟩ = some u) := hc
      have HS : Hid ((Try.prog.info? 30).map (·.size) = some ([.int .i64 k0, .int .i64 k1, .int .i64 k2, .int .i64 k3, .int .i64 k4, .int .i64 k5, .int .i64 k6] : List Value).length) := size_act
      clear hc
      go_wp2_with (with_reducible refine load_agg rfl 30 (.tmp 25) rfl _ Try.underlying30 rfl ab (aoff + j * 7) rfl [.int .i64 k0, .int .i64 k1, .int .i64 k2, .int .i64 k3, .int .i64 k4, .int .i64 k5, .int .i64 k6] HS.out HC.out ?_)
      by_cases hk : k0 = 0
      · skip
        subst hk
        have L' : Hid (HL w (wr.alloc (Obj.cells #[.int .i64 0, .int .i64 k1, .int .i64 k2, .int .i64 k3, .int .i64 k4, .int .i64 k5, .int .i64 k6] 30)) [(wr.heap.size, Obj.cells #[.int .i64 0, .int .i64 k1, .int .i64 k2, .int .i64 k3, .int .i64 k4, .int .i64 k5, .int .i64 k6] 30), (b, tabO true t)]) := L.out.alloc _
        clear L
        have L := L'
        clear L'
        refine (Last_v (L.out.get 1 rfl) HT.out c).mono ?_
        rintro e w2 ⟨x1, rfl, hx1, hb⟩
        have L' : Hid (HL w w2 [(wr.heap.size, Obj.cells #[.int .i64 0, .int .i64 k1, .int .i64 k2, .int .i64 k3, .int .i64 k4, .int .i64 k5, .int .i64 k6] 30), (b, tabO true t)]) := L.out.new hb
        clear L
        have L := L'
        clear L'
        clear hb
        go_wp2_with fail
        refine (Done_v (L.out.get 1 rfl) HT.out c).mono ?_
        rintro e w3 ⟨x2, rfl, hx2, hb⟩
        have L' : Hid (HL w w3 [(wr.heap.size, Obj.cells #[.int .i64 0, .int .i64 k1, .int .i64 k2, .int .i64 k3, .int .i64 k4, .int .i64 k5, .int .i64 k6] 30), (b, tabO true t)]) := L.out.new hb
        clear L
        have L := L'
        clear L'
        clear hb
        go_wp2_with fail
        refine (Ask_v (L.out.get 1 rfl) HT.out c q).mono ?_
        rintro e w4 ⟨x3, r1, r2, r3, r4, rfl, hx3, hb⟩
        have L' : Hid (HL w w4 [(wr.heap.size, Obj.cells #[.int .i64 0, .int .i64 k1, .int .i64 k2, .int .i64 k3, .int .i64 k4, .int .i64 k5, .int .i64 k6] 30), (b, tabO true t)]) := L.out.new hb
        clear L
        have L := L'
        clear L'
        clear hb
        have ad0 : w4.cell? ⟨wr.heap.size, 0, none⟩ = some (.int .i64 0) := blk_cell (L.out.get 0 rfl) 0
        have ad1 : w4.cell? ⟨wr.heap.size, 1, none⟩ = some (.int .i64 k1) := blk_cell (L.out.get 0 rfl) 1
        have ad2 : w4.cell? ⟨wr.heap.size, 2, none⟩ = some (.int .i64 k2) := blk_cell (L.out.get 0 rfl) 2
        have ad3 : w4.cell? ⟨wr.heap.size, 3, none⟩ = some (.int .i64 k3) := blk_cell (L.out.get 0 rfl) 3
        have ad4 : w4.cell? ⟨wr.heap.size, 4, none⟩ = some (.int .i64 k4) := blk_cell (L.out.get 0 rfl) 4
        have ad5 : w4.cell? ⟨wr.heap.size, 5, none⟩ = some (.int .i64 k5) := blk_cell (L.out.get 0 rfl) 5
        have ad6 : w4.cell? ⟨wr.heap.size, 6, none⟩ = some (.int .i64 k6) := blk_cell (L.out.get 0 rfl) 6
        have adlt : wr.heap.size < w4.heap.size := L.out.lt 0 rfl
        have L' : Hid (HL w (w4.alloc (Obj.cells #[.int .i64 r1, .int .i64 r2, .int .i64 r3, .int .i64 r4] 28)) [(w4.heap.size, Obj.cells #[.int .i64 r1, .int .i64 r2, .int .i64 r3, .int .i64 r4] 28), (wr.heap.size, Obj.cells #[.int .i64 0, .int .i64 k1, .int .i64 k2, .int .i64 k3, .int .i64 k4, .int .i64 k5, .int .i64 k6] 30), (b, tabO true t)]) := L.out.alloc _
        clear L
        have L := L'
        clear L'
        go_wp2_with fail
        refine (Start_v (L.out.get 2 rfl) HT.out k1 k2).mono ?_
        rintro e w5 ⟨y, t', rfl, ht', HT2, hu⟩
        have L' : Hid (HL w w5 [(w4.heap.size, Obj.cells #[.int .i64 r1, .int .i64 r2, .int .i64 r3, .int .i64 r4] 28), (wr.heap.size, Obj.cells #[.int .i64 0, .int .i64 k1, .int .i64 k2, .int .i64 k3, .int .i64 k4, .int .i64 k5, .int .i64 k6] 30), (b, tabO true t')]) := L.out.turn 2 rfl hu.only hu.at_
        clear L
        have L := L'
        clear L'
        clear hu
        clear ad0 ad1 ad2 ad3 ad4 ad5 ad6 adlt
        have ac0 : w5.cell? ⟨wr.heap.size, 0, none⟩ = some (.int .i64 0) := blk_cell (L.out.get 1 rfl) 0
        have ac1 : w5.cell? ⟨wr.heap.size, 1, none⟩ = some (.int .i64 k1) := blk_cell (L.out.get 1 rfl) 1
        have ac2 : w5.cell? ⟨wr.heap.size, 2, none⟩ = some (.int .i64 k2) := blk_cell (L.out.get 1 rfl) 2
        have ac3 : w5.cell? ⟨wr.heap.size, 3, none⟩ = some (.int .i64 k3) := blk_cell (L.out.get 1 rfl) 3
        have ac4 : w5.cell? ⟨wr.heap.size, 4, none⟩ = some (.int .i64 k4) := blk_cell (L.out.get 1 rfl) 4
        have ac5 : w5.cell? ⟨wr.heap.size, 5, none⟩ = some (.int .i64 k5) := blk_cell (L.out.get 1 rfl) 5
        have ac6 : w5.cell? ⟨wr.heap.size, 6, none⟩ = some (.int .i64 k6) := blk_cell (L.out.get 1 rfl) 6
        have aclt : wr.heap.size < w5.heap.size := L.out.lt 1 rfl
        by_cases hne : k1 = c
        · subst hne
          go_wp2
          go_roundw
          case rel => exact ⟨j + 1, t', by omega, by go_num, HT2, L.out.drop 2⟩
          case measure => simp [intOf]; omega
        · have bne : (k1 == c) = false := by simpa using hne
          have EO : Hid (rowT t' c = rowT t c) := start_other t HT.out ht'.out hne
          clear hne
          go_wp2_with fail
          refine (Ask_v (L.out.get 2 rfl) HT2.out c q).mono ?_
          rintro e w6 ⟨x4, s1, s2, s3, s4, rfl, hx4, hb⟩
          have L' : Hid (HL w w6 [(w4.heap.size, Obj.cells #[.int .i64 r1, .int .i64 r2, .int .i64 r3, .int .i64 r4] 28), (wr.heap.size, Obj.cells #[.int .i64 0, .int .i64 k1, .int .i64 k2, .int .i64 k3, .int .i64 k4, .int .i64 k5, .int .i64 k6] 30), (b, tabO true t')]) := L.out.new hb
          clear L
          have L := L'
          clear L'
          clear hb
          obtain ⟨rfl, rfl, rfl, rfl, rfl⟩ := ask_same (by rw [EO.out]) hx3.out hx4.out
          clear hx3 hx4
          clear ac0 ac1 ac2 ac3 ac4 ac5 ac6 aclt
          have L' : Hid (HL w (w6.alloc (Obj.cells #[.int .i64 r1, .int .i64 r2, .int .i64 r3, .int .i64 r4] 28)) [(w6.heap.size, Obj.cells #[.int .i64 r1, .int .i64 r2, .int .i64 r3, .int .i64 r4] 28), (w4.heap.size, Obj.cells #[.int .i64 r1, .int .i64 r2, .int .i64 r3, .int .i64 r4] 28), (wr.heap.size, Obj.cells #[.int .i64 0, .int .i64 k1, .int .i64 k2, .int .i64 k3, .int .i64 k4, .int .i64 k5, .int .i64 k6] 30), (b, tabO true t')]) := L.out.alloc _
          clear L
          have L := L'
          clear L'
          go_wp2_with fail
          refine (Last_v (L.out.get 3 rfl) HT2.out c).mono ?_
          rintro e w7 ⟨x5, rfl, hx5, hb⟩
          have L' : Hid (HL w w7 [(w6.heap.size, Obj.cells #[.int .i64 r1, .int .i64 r2, .int .i64 r3, .int .i64 r4] 28), (w4.heap.size, Obj.cells #[.int .i64 r1, .int .i64 r2, .int .i64 r3, .int .i64 r4] 28), (wr.heap.size, Obj.cells #[.int .i64 0, .int .i64 k1, .int .i64 k2, .int .i64 k3, .int .i64 k4, .int .i64 k5, .int .i64 k6] 30), (b, tabO true t')]) := L.out.new hb
          clear L
          have L := L'
          clear L'
          clear hb
          obtain rfl : x5 = x1 := by rw [← hx5.out, ← hx1.out, EO.out]
          clear hx5 hx1
          go_wp2_with fail
          refine (Done_v (L.out.get 3 rfl) HT2.out c).mono ?_
          rintro e w8 ⟨x6, rfl, hx6, hb⟩
          have L' : Hid (HL w w8 [(w6.heap.size, Obj.cells #[.int .i64 r1, .int .i64 r2, .int .i64 r3, .int .i64 r4] 28), (w4.heap.size, Obj.cells #[.int .i64 r1, .int .i64 r2, .int .i64 r3, .int .i64 r4] 28), (wr.heap.size, Obj.cells #[.int .i64 0, .int .i64 k1, .int .i64 k2, .int .i64 k3, .int .i64 k4, .int .i64 k5, .int .i64 k6] 30), (b, tabO true t')]) := L.out.new hb
          clear L
          have L := L'
          clear L'
          clear hb
          obtain rfl : x6 = x2 := by rw [← hx6.out, ← hx2.out, EO.out]
          clear hx6 hx2
          have p0 : w8.cell? ⟨w6.heap.size, 0, none⟩ = some (.int .i64 r1) := blk_cell (L.out.get 0 rfl) 0
          have p1 : w8.cell? ⟨w6.heap.size, 1, none⟩ = some (.int .i64 r2) := blk_cell (L.out.get 0 rfl) 1
          have p2 : w8.cell? ⟨w6.heap.size, 2, none⟩ = some (.int .i64 r3) := blk_cell (L.out.get 0 rfl) 2
          have p3 : w8.cell? ⟨w6.heap.size, 3, none⟩ = some (.int .i64 r4) := blk_cell (L.out.get 0 rfl) 3
          have plt : w6.heap.size < w8.heap.size := L.out.lt 0 rfl
          have q0 : w8.cell? ⟨w4.heap.size, 0, none⟩ = some (.int .i64 r1) := blk_cell (L.out.get 1 rfl) 0
          have q1 : w8.cell? ⟨w4.heap.size, 1, none⟩ = some (.int .i64 r2) := blk_cell (L.out.get 1 rfl) 1
          have q2 : w8.cell? ⟨w4.heap.size, 2, none⟩ = some (.int .i64 r3) := blk_cell (L.out.get 1 rfl) 2
          have q3 : w8.cell? ⟨w4.heap.size, 3, none⟩ = some (.int .i64 r4) := blk_cell (L.out.get 1 rfl) 3
          have qlt : w4.heap.size < w8.heap.size := L.out.lt 1 rfl
          go_wp2
          go_roundw
          case rel => exact ⟨j + 1, t', by omega, by go_num, HT2, L.out.drop 3⟩
          case measure => simp [intOf]; omega
      · have b0 : (k0 == 0) = false := by simpa using hk
        by_cases hk1 : k0 = 1
        · skip
          subst hk1
          have L' : Hid (HL w (wr.alloc (Obj.cells #[.int .i64 1, .int .i64 k1, .int .i64 k2, .int .i64 k3, .int .i64 k4, .int .i64 k5, .int .i64 k6] 30)) [(wr.heap.size, Obj.cells #[.int .i64 1, .int .i64 k1, .int .i64 k2, .int .i64 k3, .int .i64 k4, .int .i64 k5, .int .i64 k6] 30), (b, tabO true t)]) := L.out.alloc _
          clear L
          have L := L'
          clear L'
          refine (Last_v (L.out.get 1 rfl) HT.out c).mono ?_
          rintro e w2 ⟨x1, rfl, hx1, hb⟩
          have L' : Hid (HL w w2 [(wr.heap.size, Obj.cells #[.int .i64 1, .int .i64 k1, .int .i64 k2, .int .i64 k3, .int .i64 k4, .int .i64 k5, .int .i64 k6] 30), (b, tabO true t)]) := L.out.new hb
          clear L
          have L := L'
          clear L'
          clear hb
          go_wp2_with fail
          refine (Done_v (L.out.get 1 rfl) HT.out c).mono ?_
          rintro e w3 ⟨x2, rfl, hx2, hb⟩
          have L' : Hid (HL w w3 [(wr.heap.size, Obj.cells #[.int .i64 1, .int .i64 k1, .int .i64 k2, .int .i64 k3, .int .i64 k4, .int .i64 k5, .int .i64 k6] 30), (b, tabO true t)]) := L.out.new hb
          clear L
          have L := L'
          clear L'
          clear hb
          go_wp2_with fail
          refine (Ask_v (L.out.get 1 rfl) HT.out c q).mono ?_
          rintro e w4 ⟨x3, r1, r2, r3, r4, rfl, hx3, hb⟩
          have L' : Hid (HL w w4 [(wr.heap.size, Obj.cells #[.int .i64 1, .int .i64 k1, .int .i64 k2, .int .i64 k3, .int .i64 k4, .int .i64 k5, .int .i64 k6] 30), (b, tabO true t)]) := L.out.new hb
          clear L
          have L := L'
          clear L'
          clear hb
          have ad0 : w4.cell? ⟨wr.heap.size, 0, none⟩ = some (.int .i64 1) := blk_cell (L.out.get 0 rfl) 0
          have ad1 : w4.cell? ⟨wr.heap.size, 1, none⟩ = some (.int .i64 k1) := blk_cell (L.out.get 0 rfl) 1
          have ad2 : w4.cell? ⟨wr.heap.size, 2, none⟩ = some (.int .i64 k2) := blk_cell (L.out.get 0 rfl) 2
          have ad3 : w4.cell? ⟨wr.heap.size, 3, none⟩ = some (.int .i64 k3) := blk_cell (L.out.get 0 rfl) 3
          have ad4 : w4.cell? ⟨wr.heap.size, 4, none⟩ = some (.int .i64 k4) := blk_cell (L.out.get 0 rfl) 4
          have ad5 : w4.cell? ⟨wr.heap.size, 5, none⟩ = some (.int .i64 k5) := blk_cell (L.out.get 0 rfl) 5
          have ad6 : w4.cell? ⟨wr.heap.size, 6, none⟩ = some (.int .i64 k6) := blk_cell (L.out.get 0 rfl) 6
          have adlt : wr.heap.size < w4.heap.size := L.out.lt 0 rfl
          have L' : Hid (HL w (w4.alloc (Obj.cells #[.int .i64 r1, .int .i64 r2, .int .i64 r3, .int .i64 r4] 28)) [(w4.heap.size, Obj.cells #[.int .i64 r1, .int .i64 r2, .int .i64 r3, .int .i64 r4] 28), (wr.heap.size, Obj.cells #[.int .i64 1, .int .i64 k1, .int .i64 k2, .int .i64 k3, .int .i64 k4, .int .i64 k5, .int .i64 k6] 30), (b, tabO true t)]) := L.out.alloc _
          clear L
          have L := L'
          clear L'
          go_wp2_with fail
          refine (Finish_v (L.out.get 2 rfl) HT.out k1 k2 k3 k4 k5 k6).mono ?_
          rintro e w5 ⟨y, t', rfl, ht', HT2, hu⟩
          have L' : Hid (HL w w5 [(w4.heap.size, Obj.cells #[.int .i64 r1, .int .i64 r2, .int .i64 r3, .int .i64 r4] 28), (wr.heap.size, Obj.cells #[.int .i64 1, .int .i64 k1, .int .i64 k2, .int .i64 k3, .int .i64 k4, .int .i64 k5, .int .i64 k6] 30), (b, tabO true t')]) := L.out.turn 2 rfl hu.only hu.at_
          clear L
          have L := L'
          clear L'
          clear hu
          clear ad0 ad1 ad2 ad3 ad4 ad5 ad6 adlt
          have ac0 : w5.cell? ⟨wr.heap.size, 0, none⟩ = some (.int .i64 1) := blk_cell (L.out.get 1 rfl) 0
          have ac1 : w5.cell? ⟨wr.heap.size, 1, none⟩ = some (.int .i64 k1) := blk_cell (L.out.get 1 rfl) 1
          have ac2 : w5.cell? ⟨wr.heap.size, 2, none⟩ = some (.int .i64 k2) := blk_cell (L.out.get 1 rfl) 2
          have ac3 : w5.cell? ⟨wr.heap.size, 3, none⟩ = some (.int .i64 k3) := blk_cell (L.out.get 1 rfl) 3
          have ac4 : w5.cell? ⟨wr.heap.size, 4, none⟩ = some (.int .i64 k4) := blk_cell (L.out.get 1 rfl) 4
          have ac5 : w5.cell? ⟨wr.heap.size, 5, none⟩ = some (.int .i64 k5) := blk_cell (L.out.get 1 rfl) 5
          have ac6 : w5.cell? ⟨wr.heap.size, 6, none⟩ = some (.int .i64 k6) := blk_cell (L.out.get 1 rfl) 6
          have aclt : wr.heap.size < w5.heap.size := L.out.lt 1 rfl
          by_cases hne : k1 = c
          · subst hne
            go_wp2
            go_roundw
            case rel => exact ⟨j + 1, t', by omega, by go_num, HT2, L.out.drop 2⟩
            case measure => simp [intOf]; omega
          · have bne : (k1 == c) = false := by simpa using hne
            have EO : Hid (rowT t' c = rowT t c) := finish_other t HT.out ht'.out hne
            clear hne
            go_wp2_with fail
            refine (Ask_v (L.out.get 2 rfl) HT2.out c q).mono ?_
            rintro e w6 ⟨x4, s1, s2, s3, s4, rfl, hx4, hb⟩
            have L' : Hid (HL w w6 [(w4.heap.size, Obj.cells #[.int .i64 r1, .int .i64 r2, .int .i64 r3, .int .i64 r4] 28), (wr.heap.size, Obj.cells #[.int .i64 1, .int .i64 k1, .int .i64 k2, .int .i64 k3, .int .i64 k4, .int .i64 k5, .int .i64 k6] 30), (b, tabO true t')]) := L.out.new hb
            clear L
            have L := L'
            clear L'
            clear hb
            obtain ⟨rfl, rfl, rfl, rfl, rfl⟩ := ask_same (by rw [EO.out]) hx3.out hx4.out
            clear hx3 hx4
            clear ac0 ac1 ac2 ac3 ac4 ac5 ac6 aclt
            have L' : Hid (HL w (w6.alloc (Obj.cells #[.int .i64 r1, .int .i64 r2, .int .i64 r3, .int .i64 r4] 28)) [(w6.heap.size, Obj.cells #[.int .i64 r1, .int .i64 r2, .int .i64 r3, .int .i64 r4] 28), (w4.heap.size, Obj.cells #[.int .i64 r1, .int .i64 r2, .int .i64 r3, .int .i64 r4] 28), (wr.heap.size, Obj.cells #[.int .i64 1, .int .i64 k1, .int .i64 k2, .int .i64 k3, .int .i64 k4, .int .i64 k5, .int .i64 k6] 30), (b, tabO true t')]) := L.out.alloc _
            clear L
            have L := L'
            clear L'
            go_wp2_with fail
            refine (Last_v (L.out.get 3 rfl) HT2.out c).mono ?_
            rintro e w7 ⟨x5, rfl, hx5, hb⟩
            have L' : Hid (HL w w7 [(w6.heap.size, Obj.cells #[.int .i64 r1, .int .i64 r2, .int .i64 r3, .int .i64 r4] 28), (w4.heap.size, Obj.cells #[.int .i64 r1, .int .i64 r2, .int .i64 r3, .int .i64 r4] 28), (wr.heap.size, Obj.cells #[.int .i64 1, .int .i64 k1, .int .i64 k2, .int .i64 k3, .int .i64 k4, .int .i64 k5, .int .i64 k6] 30), (b, tabO true t')]) := L.out.new hb
            clear L
            have L := L'
            clear L'
            clear hb
            obtain rfl : x5 = x1 := by rw [← hx5.out, ← hx1.out, EO.out]
            clear hx5 hx1
            go_wp2_with fail
            refine (Done_v (L.out.get 3 rfl) HT2.out c).mono ?_
            rintro e w8 ⟨x6, rfl, hx6, hb⟩
            have L' : Hid (HL w w8 [(w6.heap.size, Obj.cells #[.int .i64 r1, .int .i64 r2, .int .i64 r3, .int .i64 r4] 28), (w4.heap.size, Obj.cells #[.int .i64 r1, .int .i64 r2, .int .i64 r3, .int .i64 r4] 28), (wr.heap.size, Obj.cells #[.int .i64 1, .int .i64 k1, .int .i64 k2, .int .i64 k3, .int .i64 k4, .int .i64 k5, .int .i64 k6] 30), (b, tabO true t')]) := L.out.new hb
            clear L
            have L := L'
            clear L'
            clear hb
            obtain rfl : x6 = x2 := by rw [← hx6.out, ← hx2.out, EO.out]
            clear hx6 hx2
            have p0 : w8.cell? ⟨w6.heap.size, 0, none⟩ = some (.int .i64 r1) := blk_cell (L.out.get 0 rfl) 0
            have p1 : w8.cell? ⟨w6.heap.size, 1, none⟩ = some (.int .i64 r2) := blk_cell (L.out.get 0 rfl) 1
            have p2 : w8.cell? ⟨w6.heap.size, 2, none⟩ = some (.int .i64 r3) := blk_cell (L.out.get 0 rfl) 2
            have p3 : w8.cell? ⟨w6.heap.size, 3, none⟩ = some (.int .i64 r4) := blk_cell (L.out.get 0 rfl) 3
            have plt : w6.heap.size < w8.heap.size := L.out.lt 0 rfl
            have q0 : w8.cell? ⟨w4.heap.size, 0, none⟩ = some (.int .i64 r1) := blk_cell (L.out.get 1 rfl) 0
            have q1 : w8.cell? ⟨w4.heap.size, 1, none⟩ = some (.int .i64 r2) := blk_cell (L.out.get 1 rfl) 1
            have q2 : w8.cell? ⟨w4.heap.size, 2, none⟩ = some (.int .i64 r3) := blk_cell (L.out.get 1 rfl) 2
            have q3 : w8.cell? ⟨w4.heap.size, 3, none⟩ = some (.int .i64 r4) := blk_cell (L.out.get 1 rfl) 3
            have qlt : w4.heap.size < w8.heap.size := L.out.lt 1 rfl
            go_wp2
            go_roundw
            case rel => exact ⟨j + 1, t', by omega, by go_num, HT2, L.out.drop 3⟩
            case measure => simp [intOf]; omega
        · have b1 : (k0 == 1) = false := by simpa using hk1
          have L' : Hid (HL w (wr.alloc (Obj.cells #[.int .i64 k0, .int .i64 k1, .int .i64 k2, .int .i64 k3, .int .i64 k4, .int .i64 k5, .int .i64 k6] 30)) [(wr.heap.size, Obj.cells #[.int .i64 k0, .int .i64 k1, .int .i64 k2, .int .i64 k3, .int .i64 k4, .int .i64 k5, .int .i64 k6] 30), (b, tabO true t)]) := L.out.alloc _
          clear L
          have L := L'
          clear L'
          refine (Last_v (L.out.get 1 rfl) HT.out c).mono ?_
          rintro e w2 ⟨x1, rfl, hx1, hb⟩
          have L' : Hid (HL w w2 [(wr.heap.size, Obj.cells #[.int .i64 k0, .int .i64 k1, .int .i64 k2, .int .i64 k3, .int .i64 k4, .int .i64 k5, .int .i64 k6] 30), (b, tabO true t)]) := L.out.new hb
          clear L
          have L := L'
          clear L'
          clear hb
          go_wp2_with fail
          refine (Done_v (L.out.get 1 rfl) HT.out c).mono ?_
          rintro e w3 ⟨x2, rfl, hx2, hb⟩
          have L' : Hid (HL w w3 [(wr.heap.size, Obj.cells #[.int .i64 k0, .int .i64 k1, .int .i64 k2, .int .i64 k3, .int .i64 k4, .int .i64 k5, .int .i64 k6] 30), (b, tabO true t)]) := L.out.new hb
          clear L
          have L := L'
          clear L'
          clear hb
          go_wp2_with fail
          refine (Ask_v (L.out.get 1 rfl) HT.out c q).mono ?_
          rintro e w4 ⟨x3, r1, r2, r3, r4, rfl, hx3, hb⟩
          have L' : Hid (HL w w4 [(wr.heap.size, Obj.cells #[.int .i64 k0, .int .i64 k1, .int .i64 k2, .int .i64 k3, .int .i64 k4, .int .i64 k5, .int .i64 k6] 30), (b, tabO true t)]) := L.out.new hb
          clear L
          have L := L'
          clear L'
          clear hb
          have ad0 : w4.cell? ⟨wr.heap.size, 0, none⟩ = some (.int .i64 k0) := blk_cell (L.out.get 0 rfl) 0
          have ad1 : w4.cell? ⟨wr.heap.size, 1, none⟩ = some (.int .i64 k1) := blk_cell (L.out.get 0 rfl) 1
          have ad2 : w4.cell? ⟨wr.heap.size, 2, none⟩ = some (.int .i64 k2) := blk_cell (L.out.get 0 rfl) 2
          have ad3 : w4.cell? ⟨wr.heap.size, 3, none⟩ = some (.int .i64 k3) := blk_cell (L.out.get 0 rfl) 3
          have ad4 : w4.cell? ⟨wr.heap.size, 4, none⟩ = some (.int .i64 k4) := blk_cell (L.out.get 0 rfl) 4
          have ad5 : w4.cell? ⟨wr.heap.size, 5, none⟩ = some (.int .i64 k5) := blk_cell (L.out.get 0 rfl) 5
          have ad6 : w4.cell? ⟨wr.heap.size, 6, none⟩ = some (.int .i64 k6) := blk_cell (L.out.get 0 rfl) 6
          have adlt : wr.heap.size < w4.heap.size := L.out.lt 0 rfl
          go_wp2
          have L' : Hid (HL w (w4.alloc (Obj.cells #[.int .i64 r1, .int .i64 r2, .int .i64 r3, .int .i64 r4] 28)) [(w4.heap.size, Obj.cells #[.int .i64 r1, .int .i64 r2, .int .i64 r3, .int .i64 r4] 28), (wr.heap.size, Obj.cells #[.int .i64 k0, .int .i64 k1, .int .i64 k2, .int .i64 k3, .int .i64 k4, .int .i64 k5, .int .i64 k6] 30), (b, tabO true t)]) := L.out.alloc _
          clear L
          have L := L'
          clear L'
          go_roundw
          case rel => exact ⟨j + 1, t, by omega, by go_num, HT, L.out.drop 2⟩
          case measure => simp [intOf]; omega
    · obtain rfl : j = len := by omega
      go_wp2_with fail
      refine (lives_any _).mono ?_
      rintro e w2 ⟨rfl, hb⟩
      have B : Hid (Below w.heap.size w w2) := (L.out.new hb).below
      clear hb
      go_wp2
      go_ret
      exact ⟨rfl, B.out⟩
theorem apart_out {w : World} {ao : Option Addr} {len cap : Nat} (hlen : 200 < len) (c q : Int) :
    Calls Try.prog 4 #[.slice ao len cap, .int .i64 c, .int .i64 q] w fun e w' => e = .returned (.bool true) ∧ Below w.heap.size w w' := by
  go_enter Try.func4, Try.ntmps4
  go_wp2_with (go_at_call 8; ((with_reducible refine (lives_any _).mono ?_); rintro e w3 ⟨rfl, hb⟩; have B := Lib.hid hb; clear hb))
  go_ret
  exact ⟨rfl, B.out⟩
theorem tableApart_law (w : World) (v : Value) (h : Shape.okAll w [.slice actShape] [v]) (c : Int) (wc : (Lit.int .i64 c).wf = true) (q : Int) (wq : (Lit.int .i64 q).wf = true) :
    Calls Try.prog 4 #[v, .int .i64 c, .int .i64 q] w fun e w' => e = .returned (.bool true) ∧ Below w.heap.size w w' := by
  obtain ⟨n, L, hL, hr⟩ := acts_of h
  by_cases hn : n ≤ 200
  · exact apart_in hr hL hn c q
  · have hr' := hr
    obtain ⟨_, ao, cap, rfl, _, _⟩ := hr'
    exact apart_out (by omega) c q
end Go.Proofs.Ytbolmekdbeincaa.M
