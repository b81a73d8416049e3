/- TableActs: what the law computes. -/
import Derived.Test.YtbolmekdbeincaaActV
import Derived.Deep.RegionHeld3
namespace Go.Proofs.Ytbolmekdbeincaa.M
open Go Go.RowKit
set_option linter.unusedVariables false
section
variable {w : World} {b : Nat} {t : List RowV}
theorem rStart_v (h : w.heap[b]? = some (rtabO t)) (ht : t.length = 4) {c q x : Int} {t' : List RowV} (hx : startT t c q = (x, t')) : Calls Try.prog 17 #[.pointer (some ⟨b, 0, none⟩), .int .i64 c, .int .i64 q] w fun e w' =>
    e = .returned (.int .i64 x) ∧ Turned w w' b (rtabO t') := by
  have := rStart_any h ht c q
  rw [hx] at this
  exact this
theorem rFinish_v (h : w.heap[b]? = some (rtabO t)) (ht : t.length = 4) {c q e1 e2 e3 e4 x : Int} {t' : List RowV} (hx : finishT t c q e1 e2 e3 e4 = (x, t')) : Calls Try.prog 18 #[.pointer (some ⟨b, 0, none⟩), .int .i64 c, .int .i64 q, .agg #[.int .i64 e1, .int .i64 e2, .int .i64 e3, .int .i64 e4]] w fun e w' =>
    e = .returned (.int .i64 x) ∧ Turned w w' b (rtabO t') := by
  have := rFinish_any h ht c q e1 e2 e3 e4
  rw [hx] at this
  exact this
theorem rAsk_v (h : w.heap[b]? = some (rtabO t)) (ht : t.length = 4) {c q k r1 r2 r3 r4 : Int} (hx : ∃ a z, askT (rowT t c) (decide (inC c)) q = (k, ⟨a, r1, r2, r3, r4, z⟩)) : Calls Try.prog 20 #[.pointer (some ⟨b, 0, none⟩), .int .i64 c, .int .i64 q] w fun e w' =>
    e = .returned (.tuple #[.int .i64 k, .agg #[.int .i64 r1, .int .i64 r2, .int .i64 r3, .int .i64 r4]]) ∧ Below w.heap.size w w' := by
  obtain ⟨a, z, hx⟩ := hx
  have := rAsk_any h ht c q
  rw [hx] at this
  exact this
theorem rLast_v (h : w.heap[b]? = some (rtabO t)) (ht : t.length = 4) {c x : Int} (hx : lastR (rowT t c) = x) : Calls Try.prog 21 #[.pointer (some ⟨b, 0, none⟩), .int .i64 c] w fun e w' =>
    e = .returned (.int .i64 x) ∧ Below w.heap.size w w' := by
  have := rLast_any h ht c
  rw [hx] at this
  exact this
theorem rDone_v (h : w.heap[b]? = some (rtabO t)) (ht : t.length = 4) {c x : Int} (hx : (rowT t c).known = x) : Calls Try.prog 22 #[.pointer (some ⟨b, 0, none⟩), .int .i64 c] w fun e w' =>
    e = .returned (.int .i64 x) ∧ Below w.heap.size w w' := by
  have := rDone_any h ht c
  rw [hx] at this
  exact this.mono fun _ _ ⟨he, hw⟩ => ⟨he, hw ▸ Below.refl _ _⟩
end
set_option maxHeartbeats 8000000 in
set_option maxRecDepth 100000 in
theorem tacts_in {w : World} {vx : Value} {len : Nat} {acts : List ActV} (hr : Reads w 7 vx len (acts.flatMap actCells)) (hL : acts.length = len) (hlen : len ≤ 200) (c q : Int) :
    Calls Try.prog 6 #[vx, .int .i64 c, .int .i64 q] w fun e w' => e = .returned (.bool true) ∧ Below w.heap.size w w' := by
  have HR := Lib.hid hr
  have EL := Lib.hid hL
  obtain ⟨_, ao, cap, rfl, _, _⟩ := hr
  clear hL
  go_enter Try.func6, Try.ntmps6
  go_wp2_with fail
  refine Make_any.mono ?_
  rintro e w1 ⟨rfl, ha, hb⟩
  have L : Hid (HL w (w1.alloc (rtabO tab0)) [(w1.heap.size, rtabO tab0), (w.heap.size, tabO true tab0)]) := ((HL.nil w).made hb ha).alloc _
  clear ha hb
  generalize w.heap.size = b at L ⊢
  go_wp2_with fail
  generalize hb2 : w1.heap.size = b2 at L ⊢
  clear hb2
  go_loopw [29] (fun i wr => ∃ (j : Nat) (t : List RowV), j ≤ len ∧ i = .int .i64 j ∧ Hid (t.length = 4) ∧ Hid (HL w wr [(b2, rtabO t), (b, tabO true t)])) (fun i _ => len - (intOf i).toNat)
  case atStart => exact ⟨0, tab0, by omega, rfl, rfl, L⟩
  case round =>
    clear L
    obtain ⟨j, t, hj, rfl, HT, L⟩ := hrel
    by_cases hjn : j < len
    · obtain ⟨ab, aoff, acap, e1, hc⟩ := acts_at (HR.out.below L.out.below (Nat.le_refl _)) EL.out j hjn
      cases e1
      generalize acts[j]'(by have := EL.out; omega) = a at hc
      obtain ⟨k0, k1, k2, k3, k4, k5, k6⟩ := a
      by_cases hk : k0 = 0
      · skip
        subst hk
        have HC : Hid (∀ i u, ([.int .i64 0, .int .i64 k1, .int .i64 k2, .int .i64 k3, .int .i64 k4, .int .i64 k5, .int .i64 k6] : List Value)[i]? = some u → wr.cell? ⟨ab, aoff + j * 7 + i, none⟩ = some u) := hc
        have HS : Hid ((Try.prog.info? 30).map (·.size) = some ([.int .i64 0, .int .i64 k1, .int .i64 k2, .int .i64 k3, .int .i64 k4, .int .i64 k5, .int .i64 k6] : List Value).length) := size_act
        clear hc
        go_wp2_with (with_reducible refine load_agg rfl 30 (.tmp 31) rfl _ Try.underlying30 rfl ab (aoff + j * 7) rfl [.int .i64 0, .int .i64 k1, .int .i64 k2, .int .i64 k3, .int .i64 k4, .int .i64 k5, .int .i64 k6] HS.out HC.out ?_)
        have L' : Hid (HL w (wr.alloc (Obj.cells #[.int .i64 0, .int .i64 k1, .int .i64 k2, .int .i64 k3, .int .i64 k4, .int .i64 k5, .int .i64 k6] 30)) [(wr.heap.size, Obj.cells #[.int .i64 0, .int .i64 k1, .int .i64 k2, .int .i64 k3, .int .i64 k4, .int .i64 k5, .int .i64 k6] 30), (b2, rtabO t), (b, tabO true t)]) := L.out.alloc _
        clear L
        have L := L'
        clear L'
        have L' : Hid (HL w (wr.alloc (Obj.cells #[.int .i64 0, .int .i64 k1, .int .i64 k2, .int .i64 k3, .int .i64 k4, .int .i64 k5, .int .i64 k6] 30)).drew [(wr.heap.size, Obj.cells #[.int .i64 0, .int .i64 k1, .int .i64 k2, .int .i64 k3, .int .i64 k4, .int .i64 k5, .int .i64 k6] 30), (b2, rtabO t), (b, tabO true t)]) := L.out.drew
        clear L
        have L := L'
        clear L'
        go_region_held3 (fun w' => w'.cell? ⟨wr.heap.size, 1, none⟩ = some (.int .i64 k1) ∧ w'.cell? ⟨wr.heap.size, 2, none⟩ = some (.int .i64 k2)) (exact ⟨blk_cell (L.out.get 0 rfl) 1, blk_cell (L.out.get 0 rfl) 2⟩) (first | (go_at_call 13; refine (Start_v (L.out.get 2 rfl) HT.out k1 k2).mono ?_; rintro e w5 ⟨y, t', rfl, ht', HT2, hu⟩; have L' : Hid (HL w w5 [(wr.heap.size, Obj.cells #[.int .i64 0, .int .i64 k1, .int .i64 k2, .int .i64 k3, .int .i64 k4, .int .i64 k5, .int .i64 k6] 30), (b2, rtabO t), (b, tabO true t')]) := (L.out.turn 2 rfl hu.only hu.at_); clear L hu; have L := L'; clear L') | (go_at_call 17; refine (rStart_v (L.out.get 1 rfl) HT.out ht'.out).mono ?_; rintro e w6 ⟨rfl, hu⟩; have L' : Hid (HL w w6 [(wr.heap.size, Obj.cells #[.int .i64 0, .int .i64 k1, .int .i64 k2, .int .i64 k3, .int .i64 k4, .int .i64 k5, .int .i64 k6] 30), (b2, rtabO t'), (b, tabO true t')]) := (L.out.turn 1 rfl hu.only hu.at_); clear L hu; have L := L'; clear L'))
        clear ht'
        go_wp2_with fail
        refine (Ask_v (L.out.get 2 rfl) HT2.out c q).mono ?_
        rintro e w7 ⟨x3, r1, r2, r3, r4, rfl, hx3, hb⟩
        have L' : Hid (HL w w7 [(wr.heap.size, Obj.cells #[.int .i64 0, .int .i64 k1, .int .i64 k2, .int .i64 k3, .int .i64 k4, .int .i64 k5, .int .i64 k6] 30), (b2, rtabO t'), (b, tabO true t')]) := L.out.new hb
        clear L
        have L := L'
        clear L'
        clear hb
        have L' : Hid (HL w (w7.alloc (Obj.cells #[.int .i64 r1, .int .i64 r2, .int .i64 r3, .int .i64 r4] 28)) [(w7.heap.size, Obj.cells #[.int .i64 r1, .int .i64 r2, .int .i64 r3, .int .i64 r4] 28), (wr.heap.size, Obj.cells #[.int .i64 0, .int .i64 k1, .int .i64 k2, .int .i64 k3, .int .i64 k4, .int .i64 k5, .int .i64 k6] 30), (b2, rtabO t'), (b, tabO true t')]) := L.out.alloc _
        clear L
        have L := L'
        clear L'
        go_wp2_with fail
        refine (rAsk_v (L.out.get 2 rfl) HT2.out hx3.out).mono ?_
        rintro e w8 ⟨rfl, hb⟩
        have L' : Hid (HL w w8 [(w7.heap.size, Obj.cells #[.int .i64 r1, .int .i64 r2, .int .i64 r3, .int .i64 r4] 28), (wr.heap.size, Obj.cells #[.int .i64 0, .int .i64 k1, .int .i64 k2, .int .i64 k3, .int .i64 k4, .int .i64 k5, .int .i64 k6] 30), (b2, rtabO t'), (b, tabO true t')]) := L.out.new hb
        clear L
        have L := L'
        clear L'
        clear hb
        clear hx3
        have ad0 : w8.cell? ⟨wr.heap.size, 0, none⟩ = some (.int .i64 0) := blk_cell (L.out.get 1 rfl) 0
        have ad1 : w8.cell? ⟨wr.heap.size, 1, none⟩ = some (.int .i64 k1) := blk_cell (L.out.get 1 rfl) 1
        have ad2 : w8.cell? ⟨wr.heap.size, 2, none⟩ = some (.int .i64 k2) := blk_cell (L.out.get 1 rfl) 2
        have ad3 : w8.cell? ⟨wr.heap.size, 3, none⟩ = some (.int .i64 k3) := blk_cell (L.out.get 1 rfl) 3
        have ad4 : w8.cell? ⟨wr.heap.size, 4, none⟩ = some (.int .i64 k4) := blk_cell (L.out.get 1 rfl) 4
        have ad5 : w8.cell? ⟨wr.heap.size, 5, none⟩ = some (.int .i64 k5) := blk_cell (L.out.get 1 rfl) 5
        have ad6 : w8.cell? ⟨wr.heap.size, 6, none⟩ = some (.int .i64 k6) := blk_cell (L.out.get 1 rfl) 6
        have adlt : wr.heap.size < w8.heap.size := L.out.lt 1 rfl
        have L' : Hid (HL w (w8.alloc (Obj.cells #[.int .i64 r1, .int .i64 r2, .int .i64 r3, .int .i64 r4] 28)) [(w8.heap.size, Obj.cells #[.int .i64 r1, .int .i64 r2, .int .i64 r3, .int .i64 r4] 28), (w7.heap.size, Obj.cells #[.int .i64 r1, .int .i64 r2, .int .i64 r3, .int .i64 r4] 28), (wr.heap.size, Obj.cells #[.int .i64 0, .int .i64 k1, .int .i64 k2, .int .i64 k3, .int .i64 k4, .int .i64 k5, .int .i64 k6] 30), (b2, rtabO t'), (b, tabO true t')]) := L.out.alloc _
        clear L
        have L := L'
        clear L'
        go_wp2_with fail
        refine (Ask_v (L.out.get 4 rfl) HT2.out k1 k2).mono ?_
        rintro e w9 ⟨x4, s1, s2, s3, s4, rfl, hx4, hb⟩
        have L' : Hid (HL w w9 [(w8.heap.size, Obj.cells #[.int .i64 r1, .int .i64 r2, .int .i64 r3, .int .i64 r4] 28), (w7.heap.size, Obj.cells #[.int .i64 r1, .int .i64 r2, .int .i64 r3, .int .i64 r4] 28), (wr.heap.size, Obj.cells #[.int .i64 0, .int .i64 k1, .int .i64 k2, .int .i64 k3, .int .i64 k4, .int .i64 k5, .int .i64 k6] 30), (b2, rtabO t'), (b, tabO true t')]) := L.out.new hb
        clear L
        have L := L'
        clear L'
        clear hb
        clear ad0 ad1 ad2 ad3 ad4 ad5 ad6 adlt
        have ad0 : w9.cell? ⟨wr.heap.size, 0, none⟩ = some (.int .i64 0) := blk_cell (L.out.get 2 rfl) 0
        have ad1 : w9.cell? ⟨wr.heap.size, 1, none⟩ = some (.int .i64 k1) := blk_cell (L.out.get 2 rfl) 1
        have ad2 : w9.cell? ⟨wr.heap.size, 2, none⟩ = some (.int .i64 k2) := blk_cell (L.out.get 2 rfl) 2
        have ad3 : w9.cell? ⟨wr.heap.size, 3, none⟩ = some (.int .i64 k3) := blk_cell (L.out.get 2 rfl) 3
        have ad4 : w9.cell? ⟨wr.heap.size, 4, none⟩ = some (.int .i64 k4) := blk_cell (L.out.get 2 rfl) 4
        have ad5 : w9.cell? ⟨wr.heap.size, 5, none⟩ = some (.int .i64 k5) := blk_cell (L.out.get 2 rfl) 5
        have ad6 : w9.cell? ⟨wr.heap.size, 6, none⟩ = some (.int .i64 k6) := blk_cell (L.out.get 2 rfl) 6
        have adlt : wr.heap.size < w9.heap.size := L.out.lt 2 rfl
        have L' : Hid (HL w (w9.alloc (Obj.cells #[.int .i64 s1, .int .i64 s2, .int .i64 s3, .int .i64 s4] 28)) [(w9.heap.size, Obj.cells #[.int .i64 s1, .int .i64 s2, .int .i64 s3, .int .i64 s4] 28), (w8.heap.size, Obj.cells #[.int .i64 r1, .int .i64 r2, .int .i64 r3, .int .i64 r4] 28), (w7.heap.size, Obj.cells #[.int .i64 r1, .int .i64 r2, .int .i64 r3, .int .i64 r4] 28), (wr.heap.size, Obj.cells #[.int .i64 0, .int .i64 k1, .int .i64 k2, .int .i64 k3, .int .i64 k4, .int .i64 k5, .int .i64 k6] 30), (b2, rtabO t'), (b, tabO true t')]) := L.out.alloc _
        clear L
        have L := L'
        clear L'
        go_wp2_with fail
        refine (rAsk_v (L.out.get 4 rfl) HT2.out hx4.out).mono ?_
        rintro e w10 ⟨rfl, hb⟩
        have L' : Hid (HL w w10 [(w9.heap.size, Obj.cells #[.int .i64 s1, .int .i64 s2, .int .i64 s3, .int .i64 s4] 28), (w8.heap.size, Obj.cells #[.int .i64 r1, .int .i64 r2, .int .i64 r3, .int .i64 r4] 28), (w7.heap.size, Obj.cells #[.int .i64 r1, .int .i64 r2, .int .i64 r3, .int .i64 r4] 28), (wr.heap.size, Obj.cells #[.int .i64 0, .int .i64 k1, .int .i64 k2, .int .i64 k3, .int .i64 k4, .int .i64 k5, .int .i64 k6] 30), (b2, rtabO t'), (b, tabO true t')]) := L.out.new hb
        clear L
        have L := L'
        clear L'
        clear hb
        clear hx4
        clear ad0 ad1 ad2 ad3 ad4 ad5 ad6 adlt
        go_wp2_with fail
        have L' : Hid (HL w (w10.alloc (Obj.cells #[.int .i64 s1, .int .i64 s2, .int .i64 s3, .int .i64 s4] 28)) [(w10.heap.size, Obj.cells #[.int .i64 s1, .int .i64 s2, .int .i64 s3, .int .i64 s4] 28), (w9.heap.size, Obj.cells #[.int .i64 s1, .int .i64 s2, .int .i64 s3, .int .i64 s4] 28), (w8.heap.size, Obj.cells #[.int .i64 r1, .int .i64 r2, .int .i64 r3, .int .i64 r4] 28), (w7.heap.size, Obj.cells #[.int .i64 r1, .int .i64 r2, .int .i64 r3, .int .i64 r4] 28), (wr.heap.size, Obj.cells #[.int .i64 0, .int .i64 k1, .int .i64 k2, .int .i64 k3, .int .i64 k4, .int .i64 k5, .int .i64 k6] 30), (b2, rtabO t'), (b, tabO true t')]) := L.out.alloc _
        clear L
        have L := L'
        clear L'
        have L' : Hid (HL w (w10.alloc (Obj.cells #[.int .i64 s1, .int .i64 s2, .int .i64 s3, .int .i64 s4] 28)).drew [(w10.heap.size, Obj.cells #[.int .i64 s1, .int .i64 s2, .int .i64 s3, .int .i64 s4] 28), (w9.heap.size, Obj.cells #[.int .i64 s1, .int .i64 s2, .int .i64 s3, .int .i64 s4] 28), (w8.heap.size, Obj.cells #[.int .i64 r1, .int .i64 r2, .int .i64 r3, .int .i64 r4] 28), (w7.heap.size, Obj.cells #[.int .i64 r1, .int .i64 r2, .int .i64 r3, .int .i64 r4] 28), (wr.heap.size, Obj.cells #[.int .i64 0, .int .i64 k1, .int .i64 k2, .int .i64 k3, .int .i64 k4, .int .i64 k5, .int .i64 k6] 30), (b2, rtabO t'), (b, tabO true t')]) := L.out.drew
        clear L
        have L := L'
        clear L'
        go_region_held3 (fun w' => w'.cell? ⟨wr.heap.size, 1, none⟩ = some (.int .i64 k1) ∧ w'.cell? ⟨w10.heap.size, 0, none⟩ = some (.int .i64 s1) ∧ w'.cell? ⟨w10.heap.size, 1, none⟩ = some (.int .i64 s2) ∧ w'.cell? ⟨w10.heap.size, 2, none⟩ = some (.int .i64 s3) ∧ w'.cell? ⟨w10.heap.size, 3, none⟩ = some (.int .i64 s4) ∧ w'.cell? ⟨w9.heap.size, 0, none⟩ = some (.int .i64 s1) ∧ w'.cell? ⟨w9.heap.size, 1, none⟩ = some (.int .i64 s2) ∧ w'.cell? ⟨w9.heap.size, 2, none⟩ = some (.int .i64 s3) ∧ w'.cell? ⟨w9.heap.size, 3, none⟩ = some (.int .i64 s4) ∧ w'.cell? ⟨w8.heap.size, 0, none⟩ = some (.int .i64 r1) ∧ w'.cell? ⟨w8.heap.size, 1, none⟩ = some (.int .i64 r2) ∧ w'.cell? ⟨w8.heap.size, 2, none⟩ = some (.int .i64 r3) ∧ w'.cell? ⟨w8.heap.size, 3, none⟩ = some (.int .i64 r4) ∧ w'.cell? ⟨w7.heap.size, 0, none⟩ = some (.int .i64 r1) ∧ w'.cell? ⟨w7.heap.size, 1, none⟩ = some (.int .i64 r2) ∧ w'.cell? ⟨w7.heap.size, 2, none⟩ = some (.int .i64 r3) ∧ w'.cell? ⟨w7.heap.size, 3, none⟩ = some (.int .i64 r4)) (exact ⟨blk_cell (L.out.get 4 rfl) 1, blk_cell (L.out.get 0 rfl) 0, blk_cell (L.out.get 0 rfl) 1, blk_cell (L.out.get 0 rfl) 2, blk_cell (L.out.get 0 rfl) 3, blk_cell (L.out.get 1 rfl) 0, blk_cell (L.out.get 1 rfl) 1, blk_cell (L.out.get 1 rfl) 2, blk_cell (L.out.get 1 rfl) 3, blk_cell (L.out.get 2 rfl) 0, blk_cell (L.out.get 2 rfl) 1, blk_cell (L.out.get 2 rfl) 2, blk_cell (L.out.get 2 rfl) 3, blk_cell (L.out.get 3 rfl) 0, blk_cell (L.out.get 3 rfl) 1, blk_cell (L.out.get 3 rfl) 2, blk_cell (L.out.get 3 rfl) 3⟩) (first | (go_at_call 11; refine (Last_v (L.out.get 6 rfl) HT2.out k1).mono ?_; rintro e w20 ⟨x5, rfl, hx5, hb⟩; have L' : Hid (HL w w20 [(w10.heap.size, Obj.cells #[.int .i64 s1, .int .i64 s2, .int .i64 s3, .int .i64 s4] 28), (w9.heap.size, Obj.cells #[.int .i64 s1, .int .i64 s2, .int .i64 s3, .int .i64 s4] 28), (w8.heap.size, Obj.cells #[.int .i64 r1, .int .i64 r2, .int .i64 r3, .int .i64 r4] 28), (w7.heap.size, Obj.cells #[.int .i64 r1, .int .i64 r2, .int .i64 r3, .int .i64 r4] 28), (wr.heap.size, Obj.cells #[.int .i64 0, .int .i64 k1, .int .i64 k2, .int .i64 k3, .int .i64 k4, .int .i64 k5, .int .i64 k6] 30), (b2, rtabO t'), (b, tabO true t')]) := L.out.new hb; clear L hb; have L := L'; clear L') | (go_at_call 21; refine (rLast_v (L.out.get 5 rfl) HT2.out hx5.out).mono ?_; rintro e w20 ⟨rfl, hb⟩; have L' : Hid (HL w w20 [(w10.heap.size, Obj.cells #[.int .i64 s1, .int .i64 s2, .int .i64 s3, .int .i64 s4] 28), (w9.heap.size, Obj.cells #[.int .i64 s1, .int .i64 s2, .int .i64 s3, .int .i64 s4] 28), (w8.heap.size, Obj.cells #[.int .i64 r1, .int .i64 r2, .int .i64 r3, .int .i64 r4] 28), (w7.heap.size, Obj.cells #[.int .i64 r1, .int .i64 r2, .int .i64 r3, .int .i64 r4] 28), (wr.heap.size, Obj.cells #[.int .i64 0, .int .i64 k1, .int .i64 k2, .int .i64 k3, .int .i64 k4, .int .i64 k5, .int .i64 k6] 30), (b2, rtabO t'), (b, tabO true t')]) := L.out.new hb; clear L hb; have L := L'; clear L') | (go_at_call 10; refine (Done_v (L.out.get 6 rfl) HT2.out k1).mono ?_; rintro e w20 ⟨x6, rfl, hx6, hb⟩; have L' : Hid (HL w w20 [(w10.heap.size, Obj.cells #[.int .i64 s1, .int .i64 s2, .int .i64 s3, .int .i64 s4] 28), (w9.heap.size, Obj.cells #[.int .i64 s1, .int .i64 s2, .int .i64 s3, .int .i64 s4] 28), (w8.heap.size, Obj.cells #[.int .i64 r1, .int .i64 r2, .int .i64 r3, .int .i64 r4] 28), (w7.heap.size, Obj.cells #[.int .i64 r1, .int .i64 r2, .int .i64 r3, .int .i64 r4] 28), (wr.heap.size, Obj.cells #[.int .i64 0, .int .i64 k1, .int .i64 k2, .int .i64 k3, .int .i64 k4, .int .i64 k5, .int .i64 k6] 30), (b2, rtabO t'), (b, tabO true t')]) := L.out.new hb; clear L hb; have L := L'; clear L') | (go_at_call 22; refine (rDone_v (L.out.get 5 rfl) HT2.out hx6.out).mono ?_; rintro e w20 ⟨rfl, hb⟩; have L' : Hid (HL w w20 [(w10.heap.size, Obj.cells #[.int .i64 s1, .int .i64 s2, .int .i64 s3, .int .i64 s4] 28), (w9.heap.size, Obj.cells #[.int .i64 s1, .int .i64 s2, .int .i64 s3, .int .i64 s4] 28), (w8.heap.size, Obj.cells #[.int .i64 r1, .int .i64 r2, .int .i64 r3, .int .i64 r4] 28), (w7.heap.size, Obj.cells #[.int .i64 r1, .int .i64 r2, .int .i64 r3, .int .i64 r4] 28), (wr.heap.size, Obj.cells #[.int .i64 0, .int .i64 k1, .int .i64 k2, .int .i64 k3, .int .i64 k4, .int .i64 k5, .int .i64 k6] 30), (b2, rtabO t'), (b, tabO true t')]) := L.out.new hb; clear L hb; have L := L'; clear L'))
        go_wp2
        go_roundw
        case rel => exact ⟨j + 1, t', by omega, by go_num, HT2, L.out.drop 5⟩
        case measure => simp [intOf]; omega
      · have b0 : (k0 == 0) = false := by simpa using hk
        by_cases hk1 : k0 = 1
        · skip
          subst hk1
          have HC : Hid (∀ i u, ([.int .i64 1, .int .i64 k1, .int .i64 k2, .int .i64 k3, .int .i64 k4, .int .i64 k5, .int .i64 k6] : List Value)[i]? = some u → wr.cell? ⟨ab, aoff + j * 7 + i, none⟩ = some u) := hc
          have HS : Hid ((Try.prog.info? 30).map (·.size) = some ([.int .i64 1, .int .i64 k1, .int .i64 k2, .int .i64 k3, .int .i64 k4, .int .i64 k5, .int .i64 k6] : List Value).length) := size_act
          clear hc
          go_wp2_with (with_reducible refine load_agg rfl 30 (.tmp 31) rfl _ Try.underlying30 rfl ab (aoff + j * 7) rfl [.int .i64 1, .int .i64 k1, .int .i64 k2, .int .i64 k3, .int .i64 k4, .int .i64 k5, .int .i64 k6] HS.out HC.out ?_)
          have L' : Hid (HL w (wr.alloc (Obj.cells #[.int .i64 1, .int .i64 k1, .int .i64 k2, .int .i64 k3, .int .i64 k4, .int .i64 k5, .int .i64 k6] 30)) [(wr.heap.size, Obj.cells #[.int .i64 1, .int .i64 k1, .int .i64 k2, .int .i64 k3, .int .i64 k4, .int .i64 k5, .int .i64 k6] 30), (b2, rtabO t), (b, tabO true t)]) := L.out.alloc _
          clear L
          have L := L'
          clear L'
          have L' : Hid (HL w (wr.alloc (Obj.cells #[.int .i64 1, .int .i64 k1, .int .i64 k2, .int .i64 k3, .int .i64 k4, .int .i64 k5, .int .i64 k6] 30)).drew [(wr.heap.size, Obj.cells #[.int .i64 1, .int .i64 k1, .int .i64 k2, .int .i64 k3, .int .i64 k4, .int .i64 k5, .int .i64 k6] 30), (b2, rtabO t), (b, tabO true t)]) := L.out.drew
          clear L
          have L := L'
          clear L'
          go_region_held3 (fun w' => w'.cell? ⟨wr.heap.size, 1, none⟩ = some (.int .i64 k1) ∧ w'.cell? ⟨wr.heap.size, 2, none⟩ = some (.int .i64 k2) ∧ w'.cell? ⟨wr.heap.size, 3, none⟩ = some (.int .i64 k3) ∧ w'.cell? ⟨wr.heap.size, 4, none⟩ = some (.int .i64 k4) ∧ w'.cell? ⟨wr.heap.size, 5, none⟩ = some (.int .i64 k5) ∧ w'.cell? ⟨wr.heap.size, 6, none⟩ = some (.int .i64 k6)) (exact ⟨blk_cell (L.out.get 0 rfl) 1, blk_cell (L.out.get 0 rfl) 2, blk_cell (L.out.get 0 rfl) 3, blk_cell (L.out.get 0 rfl) 4, blk_cell (L.out.get 0 rfl) 5, blk_cell (L.out.get 0 rfl) 6⟩) (first | (go_at_call 14; refine (Finish_v (L.out.get 2 rfl) HT.out k1 k2 k3 k4 k5 k6).mono ?_; rintro e w5 ⟨y, t', rfl, ht', HT2, hu⟩; have L' : Hid (HL w w5 [(wr.heap.size, Obj.cells #[.int .i64 1, .int .i64 k1, .int .i64 k2, .int .i64 k3, .int .i64 k4, .int .i64 k5, .int .i64 k6] 30), (b2, rtabO t), (b, tabO true t')]) := (L.out.turn 2 rfl hu.only hu.at_); clear L hu; have L := L'; clear L') | (go_at_call 18; refine (rFinish_v (L.out.get 1 rfl) HT.out ht'.out).mono ?_; rintro e w6 ⟨rfl, hu⟩; have L' : Hid (HL w w6 [(wr.heap.size, Obj.cells #[.int .i64 1, .int .i64 k1, .int .i64 k2, .int .i64 k3, .int .i64 k4, .int .i64 k5, .int .i64 k6] 30), (b2, rtabO t'), (b, tabO true t')]) := (L.out.turn 1 rfl hu.only hu.at_); clear L hu; have L := L'; clear L'))
          clear ht'
          go_wp2_with fail
          refine (Ask_v (L.out.get 2 rfl) HT2.out c q).mono ?_
          rintro e w7 ⟨x3, r1, r2, r3, r4, rfl, hx3, hb⟩
          have L' : Hid (HL w w7 [(wr.heap.size, Obj.cells #[.int .i64 1, .int .i64 k1, .int .i64 k2, .int .i64 k3, .int .i64 k4, .int .i64 k5, .int .i64 k6] 30), (b2, rtabO t'), (b, tabO true t')]) := L.out.new hb
          clear L
          have L := L'
          clear L'
          clear hb
          have L' : Hid (HL w (w7.alloc (Obj.cells #[.int .i64 r1, .int .i64 r2, .int .i64 r3, .int .i64 r4] 28)) [(w7.heap.size, Obj.cells #[.int .i64 r1, .int .i64 r2, .int .i64 r3, .int .i64 r4] 28), (wr.heap.size, Obj.cells #[.int .i64 1, .int .i64 k1, .int .i64 k2, .int .i64 k3, .int .i64 k4, .int .i64 k5, .int .i64 k6] 30), (b2, rtabO t'), (b, tabO true t')]) := L.out.alloc _
          clear L
          have L := L'
          clear L'
          go_wp2_with fail
          refine (rAsk_v (L.out.get 2 rfl) HT2.out hx3.out).mono ?_
          rintro e w8 ⟨rfl, hb⟩
          have L' : Hid (HL w w8 [(w7.heap.size, Obj.cells #[.int .i64 r1, .int .i64 r2, .int .i64 r3, .int .i64 r4] 28), (wr.heap.size, Obj.cells #[.int .i64 1, .int .i64 k1, .int .i64 k2, .int .i64 k3, .int .i64 k4, .int .i64 k5, .int .i64 k6] 30), (b2, rtabO t'), (b, tabO true t')]) := L.out.new hb
          clear L
          have L := L'
          clear L'
          clear hb
          clear hx3
          have ad0 : w8.cell? ⟨wr.heap.size, 0, none⟩ = some (.int .i64 1) := blk_cell (L.out.get 1 rfl) 0
          have ad1 : w8.cell? ⟨wr.heap.size, 1, none⟩ = some (.int .i64 k1) := blk_cell (L.out.get 1 rfl) 1
          have ad2 : w8.cell? ⟨wr.heap.size, 2, none⟩ = some (.int .i64 k2) := blk_cell (L.out.get 1 rfl) 2
          have ad3 : w8.cell? ⟨wr.heap.size, 3, none⟩ = some (.int .i64 k3) := blk_cell (L.out.get 1 rfl) 3
          have ad4 : w8.cell? ⟨wr.heap.size, 4, none⟩ = some (.int .i64 k4) := blk_cell (L.out.get 1 rfl) 4
          have ad5 : w8.cell? ⟨wr.heap.size, 5, none⟩ = some (.int .i64 k5) := blk_cell (L.out.get 1 rfl) 5
          have ad6 : w8.cell? ⟨wr.heap.size, 6, none⟩ = some (.int .i64 k6) := blk_cell (L.out.get 1 rfl) 6
          have adlt : wr.heap.size < w8.heap.size := L.out.lt 1 rfl
          have L' : Hid (HL w (w8.alloc (Obj.cells #[.int .i64 r1, .int .i64 r2, .int .i64 r3, .int .i64 r4] 28)) [(w8.heap.size, Obj.cells #[.int .i64 r1, .int .i64 r2, .int .i64 r3, .int .i64 r4] 28), (w7.heap.size, Obj.cells #[.int .i64 r1, .int .i64 r2, .int .i64 r3, .int .i64 r4] 28), (wr.heap.size, Obj.cells #[.int .i64 1, .int .i64 k1, .int .i64 k2, .int .i64 k3, .int .i64 k4, .int .i64 k5, .int .i64 k6] 30), (b2, rtabO t'), (b, tabO true t')]) := L.out.alloc _
          clear L
          have L := L'
          clear L'
          go_wp2_with fail
          refine (Ask_v (L.out.get 4 rfl) HT2.out k1 k2).mono ?_
          rintro e w9 ⟨x4, s1, s2, s3, s4, rfl, hx4, hb⟩
          have L' : Hid (HL w w9 [(w8.heap.size, Obj.cells #[.int .i64 r1, .int .i64 r2, .int .i64 r3, .int .i64 r4] 28), (w7.heap.size, Obj.cells #[.int .i64 r1, .int .i64 r2, .int .i64 r3, .int .i64 r4] 28), (wr.heap.size, Obj.cells #[.int .i64 1, .int .i64 k1, .int .i64 k2, .int .i64 k3, .int .i64 k4, .int .i64 k5, .int .i64 k6] 30), (b2, rtabO t'), (b, tabO true t')]) := L.out.new hb
          clear L
          have L := L'
          clear L'
          clear hb
          clear ad0 ad1 ad2 ad3 ad4 ad5 ad6 adlt
          have ad0 : w9.cell? ⟨wr.heap.size, 0, none⟩ = some (.int .i64 1) := blk_cell (L.out.get 2 rfl) 0
          have ad1 : w9.cell? ⟨wr.heap.size, 1, none⟩ = some (.int .i64 k1) := blk_cell (L.out.get 2 rfl) 1
          have ad2 : w9.cell? ⟨wr.heap.size, 2, none⟩ = some (.int .i64 k2) := blk_cell (L.out.get 2 rfl) 2
          have ad3 : w9.cell? ⟨wr.heap.size, 3, none⟩ = some (.int .i64 k3) := blk_cell (L.out.get 2 rfl) 3
          have ad4 : w9.cell? ⟨wr.heap.size, 4, none⟩ = some (.int .i64 k4) := blk_cell (L.out.get 2 rfl) 4
          have ad5 : w9.cell? ⟨wr.heap.size, 5, none⟩ = some (.int .i64 k5) := blk_cell (L.out.get 2 rfl) 5
          have ad6 : w9.cell? ⟨wr.heap.size, 6, none⟩ = some (.int .i64 k6) := blk_cell (L.out.get 2 rfl) 6
          have adlt : wr.heap.size < w9.heap.size := L.out.lt 2 rfl
          have L' : Hid (HL w (w9.alloc (Obj.cells #[.int .i64 s1, .int .i64 s2, .int .i64 s3, .int .i64 s4] 28)) [(w9.heap.size, Obj.cells #[.int .i64 s1, .int .i64 s2, .int .i64 s3, .int .i64 s4] 28), (w8.heap.size, Obj.cells #[.int .i64 r1, .int .i64 r2, .int .i64 r3, .int .i64 r4] 28), (w7.heap.size, Obj.cells #[.int .i64 r1, .int .i64 r2, .int .i64 r3, .int .i64 r4] 28), (wr.heap.size, Obj.cells #[.int .i64 1, .int .i64 k1, .int .i64 k2, .int .i64 k3, .int .i64 k4, .int .i64 k5, .int .i64 k6] 30), (b2, rtabO t'), (b, tabO true t')]) := L.out.alloc _
          clear L
          have L := L'
          clear L'
          go_wp2_with fail
          refine (rAsk_v (L.out.get 4 rfl) HT2.out hx4.out).mono ?_
          rintro e w10 ⟨rfl, hb⟩
          have L' : Hid (HL w w10 [(w9.heap.size, Obj.cells #[.int .i64 s1, .int .i64 s2, .int .i64 s3, .int .i64 s4] 28), (w8.heap.size, Obj.cells #[.int .i64 r1, .int .i64 r2, .int .i64 r3, .int .i64 r4] 28), (w7.heap.size, Obj.cells #[.int .i64 r1, .int .i64 r2, .int .i64 r3, .int .i64 r4] 28), (wr.heap.size, Obj.cells #[.int .i64 1, .int .i64 k1, .int .i64 k2, .int .i64 k3, .int .i64 k4, .int .i64 k5, .int .i64 k6] 30), (b2, rtabO t'), (b, tabO true t')]) := L.out.new hb
          clear L
          have L := L'
          clear L'
          clear hb
          clear hx4
          clear ad0 ad1 ad2 ad3 ad4 ad5 ad6 adlt
          go_wp2_with fail
          have L' : Hid (HL w (w10.alloc (Obj.cells #[.int .i64 s1, .int .i64 s2, .int .i64 s3, .int .i64 s4] 28)) [(w10.heap.size, Obj.cells #[.int .i64 s1, .int .i64 s2, .int .i64 s3, .int .i64 s4] 28), (w9.heap.size, Obj.cells #[.int .i64 s1, .int .i64 s2, .int .i64 s3, .int .i64 s4] 28), (w8.heap.size, Obj.cells #[.int .i64 r1, .int .i64 r2, .int .i64 r3, .int .i64 r4] 28), (w7.heap.size, Obj.cells #[.int .i64 r1, .int .i64 r2, .int .i64 r3, .int .i64 r4] 28), (wr.heap.size, Obj.cells #[.int .i64 1, .int .i64 k1, .int .i64 k2, .int .i64 k3, .int .i64 k4, .int .i64 k5, .int .i64 k6] 30), (b2, rtabO t'), (b, tabO true t')]) := L.out.alloc _
          clear L
          have L := L'
          clear L'
          have L' : Hid (HL w (w10.alloc (Obj.cells #[.int .i64 s1, .int .i64 s2, .int .i64 s3, .int .i64 s4] 28)).drew [(w10.heap.size, Obj.cells #[.int .i64 s1, .int .i64 s2, .int .i64 s3, .int .i64 s4] 28), (w9.heap.size, Obj.cells #[.int .i64 s1, .int .i64 s2, .int .i64 s3, .int .i64 s4] 28), (w8.heap.size, Obj.cells #[.int .i64 r1, .int .i64 r2, .int .i64 r3, .int .i64 r4] 28), (w7.heap.size, Obj.cells #[.int .i64 r1, .int .i64 r2, .int .i64 r3, .int .i64 r4] 28), (wr.heap.size, Obj.cells #[.int .i64 1, .int .i64 k1, .int .i64 k2, .int .i64 k3, .int .i64 k4, .int .i64 k5, .int .i64 k6] 30), (b2, rtabO t'), (b, tabO true t')]) := L.out.drew
          clear L
          have L := L'
          clear L'
          go_region_held3 (fun w' => w'.cell? ⟨wr.heap.size, 1, none⟩ = some (.int .i64 k1) ∧ w'.cell? ⟨w10.heap.size, 0, none⟩ = some (.int .i64 s1) ∧ w'.cell? ⟨w10.heap.size, 1, none⟩ = some (.int .i64 s2) ∧ w'.cell? ⟨w10.heap.size, 2, none⟩ = some (.int .i64 s3) ∧ w'.cell? ⟨w10.heap.size, 3, none⟩ = some (.int .i64 s4) ∧ w'.cell? ⟨w9.heap.size, 0, none⟩ = some (.int .i64 s1) ∧ w'.cell? ⟨w9.heap.size, 1, none⟩ = some (.int .i64 s2) ∧ w'.cell? ⟨w9.heap.size, 2, none⟩ = some (.int .i64 s3) ∧ w'.cell? ⟨w9.heap.size, 3, none⟩ = some (.int .i64 s4) ∧ w'.cell? ⟨w8.heap.size, 0, none⟩ = some (.int .i64 r1) ∧ w'.cell? ⟨w8.heap.size, 1, none⟩ = some (.int .i64 r2) ∧ w'.cell? ⟨w8.heap.size, 2, none⟩ = some (.int .i64 r3) ∧ w'.cell? ⟨w8.heap.size, 3, none⟩ = some (.int .i64 r4) ∧ w'.cell? ⟨w7.heap.size, 0, none⟩ = some (.int .i64 r1) ∧ w'.cell? ⟨w7.heap.size, 1, none⟩ = some (.int .i64 r2) ∧ w'.cell? ⟨w7.heap.size, 2, none⟩ = some (.int .i64 r3) ∧ w'.cell? ⟨w7.heap.size, 3, none⟩ = some (.int .i64 r4)) (exact ⟨blk_cell (L.out.get 4 rfl) 1, blk_cell (L.out.get 0 rfl) 0, blk_cell (L.out.get 0 rfl) 1, blk_cell (L.out.get 0 rfl) 2, blk_cell (L.out.get 0 rfl) 3, blk_cell (L.out.get 1 rfl) 0, blk_cell (L.out.get 1 rfl) 1, blk_cell (L.out.get 1 rfl) 2, blk_cell (L.out.get 1 rfl) 3, blk_cell (L.out.get 2 rfl) 0, blk_cell (L.out.get 2 rfl) 1, blk_cell (L.out.get 2 rfl) 2, blk_cell (L.out.get 2 rfl) 3, blk_cell (L.out.get 3 rfl) 0, blk_cell (L.out.get 3 rfl) 1, blk_cell (L.out.get 3 rfl) 2, blk_cell (L.out.get 3 rfl) 3⟩) (first | (go_at_call 11; refine (Last_v (L.out.get 6 rfl) HT2.out k1).mono ?_; rintro e w20 ⟨x5, rfl, hx5, hb⟩; have L' : Hid (HL w w20 [(w10.heap.size, Obj.cells #[.int .i64 s1, .int .i64 s2, .int .i64 s3, .int .i64 s4] 28), (w9.heap.size, Obj.cells #[.int .i64 s1, .int .i64 s2, .int .i64 s3, .int .i64 s4] 28), (w8.heap.size, Obj.cells #[.int .i64 r1, .int .i64 r2, .int .i64 r3, .int .i64 r4] 28), (w7.heap.size, Obj.cells #[.int .i64 r1, .int .i64 r2, .int .i64 r3, .int .i64 r4] 28), (wr.heap.size, Obj.cells #[.int .i64 1, .int .i64 k1, .int .i64 k2, .int .i64 k3, .int .i64 k4, .int .i64 k5, .int .i64 k6] 30), (b2, rtabO t'), (b, tabO true t')]) := L.out.new hb; clear L hb; have L := L'; clear L') | (go_at_call 21; refine (rLast_v (L.out.get 5 rfl) HT2.out hx5.out).mono ?_; rintro e w20 ⟨rfl, hb⟩; have L' : Hid (HL w w20 [(w10.heap.size, Obj.cells #[.int .i64 s1, .int .i64 s2, .int .i64 s3, .int .i64 s4] 28), (w9.heap.size, Obj.cells #[.int .i64 s1, .int .i64 s2, .int .i64 s3, .int .i64 s4] 28), (w8.heap.size, Obj.cells #[.int .i64 r1, .int .i64 r2, .int .i64 r3, .int .i64 r4] 28), (w7.heap.size, Obj.cells #[.int .i64 r1, .int .i64 r2, .int .i64 r3, .int .i64 r4] 28), (wr.heap.size, Obj.cells #[.int .i64 1, .int .i64 k1, .int .i64 k2, .int .i64 k3, .int .i64 k4, .int .i64 k5, .int .i64 k6] 30), (b2, rtabO t'), (b, tabO true t')]) := L.out.new hb; clear L hb; have L := L'; clear L') | (go_at_call 10; refine (Done_v (L.out.get 6 rfl) HT2.out k1).mono ?_; rintro e w20 ⟨x6, rfl, hx6, hb⟩; have L' : Hid (HL w w20 [(w10.heap.size, Obj.cells #[.int .i64 s1, .int .i64 s2, .int .i64 s3, .int .i64 s4] 28), (w9.heap.size, Obj.cells #[.int .i64 s1, .int .i64 s2, .int .i64 s3, .int .i64 s4] 28), (w8.heap.size, Obj.cells #[.int .i64 r1, .int .i64 r2, .int .i64 r3, .int .i64 r4] 28), (w7.heap.size, Obj.cells #[.int .i64 r1, .int .i64 r2, .int .i64 r3, .int .i64 r4] 28), (wr.heap.size, Obj.cells #[.int .i64 1, .int .i64 k1, .int .i64 k2, .int .i64 k3, .int .i64 k4, .int .i64 k5, .int .i64 k6] 30), (b2, rtabO t'), (b, tabO true t')]) := L.out.new hb; clear L hb; have L := L'; clear L') | (go_at_call 22; refine (rDone_v (L.out.get 5 rfl) HT2.out hx6.out).mono ?_; rintro e w20 ⟨rfl, hb⟩; have L' : Hid (HL w w20 [(w10.heap.size, Obj.cells #[.int .i64 s1, .int .i64 s2, .int .i64 s3, .int .i64 s4] 28), (w9.heap.size, Obj.cells #[.int .i64 s1, .int .i64 s2, .int .i64 s3, .int .i64 s4] 28), (w8.heap.size, Obj.cells #[.int .i64 r1, .int .i64 r2, .int .i64 r3, .int .i64 r4] 28), (w7.heap.size, Obj.cells #[.int .i64 r1, .int .i64 r2, .int .i64 r3, .int .i64 r4] 28), (wr.heap.size, Obj.cells #[.int .i64 1, .int .i64 k1, .int .i64 k2, .int .i64 k3, .int .i64 k4, .int .i64 k5, .int .i64 k6] 30), (b2, rtabO t'), (b, tabO true t')]) := L.out.new hb; clear L hb; have L := L'; clear L'))
          go_wp2
          go_roundw
          case rel => exact ⟨j + 1, t', by omega, by go_num, HT2, L.out.drop 5⟩
          case measure => simp [intOf]; omega
        · have b1 : (k0 == 1) = false := by simpa using hk1
          by_cases hk2 : k0 = 2
          · skip
            subst hk2
            have HC : Hid (∀ i u, ([.int .i64 2, .int .i64 k1, .int .i64 k2, .int .i64 k3, .int .i64 k4, .int .i64 k5, .int .i64 k6] : List Value)[i]? = some u → wr.cell? ⟨ab, aoff + j * 7 + i, none⟩ = some u) := hc
            have HS : Hid ((Try.prog.info? 30).map (·.size) = some ([.int .i64 2, .int .i64 k1, .int .i64 k2, .int .i64 k3, .int .i64 k4, .int .i64 k5, .int .i64 k6] : List Value).length) := size_act
            clear hc
            go_wp2_with (with_reducible refine load_agg rfl 30 (.tmp 31) rfl _ Try.underlying30 rfl ab (aoff + j * 7) rfl [.int .i64 2, .int .i64 k1, .int .i64 k2, .int .i64 k3, .int .i64 k4, .int .i64 k5, .int .i64 k6] HS.out HC.out ?_)
            have L' : Hid (HL w (wr.alloc (Obj.cells #[.int .i64 2, .int .i64 k1, .int .i64 k2, .int .i64 k3, .int .i64 k4, .int .i64 k5, .int .i64 k6] 30)) [(wr.heap.size, Obj.cells #[.int .i64 2, .int .i64 k1, .int .i64 k2, .int .i64 k3, .int .i64 k4, .int .i64 k5, .int .i64 k6] 30), (b2, rtabO t), (b, tabO true t)]) := L.out.alloc _
            clear L
            have L := L'
            clear L'
            refine (Forget_v (L.out.get 2 rfl) HT.out).mono ?_
            rintro e w2 ⟨rfl, hu⟩
            have L' : Hid (HL w w2 [(wr.heap.size, Obj.cells #[.int .i64 2, .int .i64 k1, .int .i64 k2, .int .i64 k3, .int .i64 k4, .int .i64 k5, .int .i64 k6] 30), (b2, rtabO t), (b, tabO true (forgetT t))]) := L.out.turn 2 rfl hu.only hu.at_
            clear L
            have L := L'
            clear L'
            clear hu
            go_wp2_with fail
            refine (rForget_any HT.out (L.out.get 1 rfl)).mono ?_
            rintro e w3 ⟨rfl, hu⟩
            have L' : Hid (HL w w3 [(wr.heap.size, Obj.cells #[.int .i64 2, .int .i64 k1, .int .i64 k2, .int .i64 k3, .int .i64 k4, .int .i64 k5, .int .i64 k6] 30), (b2, rtabO (forgetT t)), (b, tabO true (forgetT t))]) := L.out.turn 1 rfl hu.only hu.at_
            clear L
            have L := L'
            clear L'
            clear hu
            have HT2 : Hid ((forgetT t).length = 4) := forgetT_len HT.out
            generalize forgetT t = t' at L HT2
            go_wp2_with fail
            refine (Ask_v (L.out.get 2 rfl) HT2.out c q).mono ?_
            rintro e w4 ⟨x3, r1, r2, r3, r4, rfl, hx3, hb⟩
            have L' : Hid (HL w w4 [(wr.heap.size, Obj.cells #[.int .i64 2, .int .i64 k1, .int .i64 k2, .int .i64 k3, .int .i64 k4, .int .i64 k5, .int .i64 k6] 30), (b2, rtabO t'), (b, tabO true t')]) := L.out.new hb
            clear L
            have L := L'
            clear L'
            clear hb
            have L' : Hid (HL w (w4.alloc (Obj.cells #[.int .i64 r1, .int .i64 r2, .int .i64 r3, .int .i64 r4] 28)) [(w4.heap.size, Obj.cells #[.int .i64 r1, .int .i64 r2, .int .i64 r3, .int .i64 r4] 28), (wr.heap.size, Obj.cells #[.int .i64 2, .int .i64 k1, .int .i64 k2, .int .i64 k3, .int .i64 k4, .int .i64 k5, .int .i64 k6] 30), (b2, rtabO t'), (b, tabO true t')]) := L.out.alloc _
            clear L
            have L := L'
            clear L'
            go_wp2_with fail
            refine (rAsk_v (L.out.get 2 rfl) HT2.out hx3.out).mono ?_
            rintro e w5 ⟨rfl, hb⟩
            have L' : Hid (HL w w5 [(w4.heap.size, Obj.cells #[.int .i64 r1, .int .i64 r2, .int .i64 r3, .int .i64 r4] 28), (wr.heap.size, Obj.cells #[.int .i64 2, .int .i64 k1, .int .i64 k2, .int .i64 k3, .int .i64 k4, .int .i64 k5, .int .i64 k6] 30), (b2, rtabO t'), (b, tabO true t')]) := L.out.new hb
            clear L
            have L := L'
            clear L'
            clear hb
            clear hx3
            have ad0 : w5.cell? ⟨wr.heap.size, 0, none⟩ = some (.int .i64 2) := blk_cell (L.out.get 1 rfl) 0
            have ad1 : w5.cell? ⟨wr.heap.size, 1, none⟩ = some (.int .i64 k1) := blk_cell (L.out.get 1 rfl) 1
            have ad2 : w5.cell? ⟨wr.heap.size, 2, none⟩ = some (.int .i64 k2) := blk_cell (L.out.get 1 rfl) 2
            have ad3 : w5.cell? ⟨wr.heap.size, 3, none⟩ = some (.int .i64 k3) := blk_cell (L.out.get 1 rfl) 3
            have ad4 : w5.cell? ⟨wr.heap.size, 4, none⟩ = some (.int .i64 k4) := blk_cell (L.out.get 1 rfl) 4
            have ad5 : w5.cell? ⟨wr.heap.size, 5, none⟩ = some (.int .i64 k5) := blk_cell (L.out.get 1 rfl) 5
            have ad6 : w5.cell? ⟨wr.heap.size, 6, none⟩ = some (.int .i64 k6) := blk_cell (L.out.get 1 rfl) 6
            have adlt : wr.heap.size < w5.heap.size := L.out.lt 1 rfl
            have L' : Hid (HL w (w5.alloc (Obj.cells #[.int .i64 r1, .int .i64 r2, .int .i64 r3, .int .i64 r4] 28)) [(w5.heap.size, Obj.cells #[.int .i64 r1, .int .i64 r2, .int .i64 r3, .int .i64 r4] 28), (w4.heap.size, Obj.cells #[.int .i64 r1, .int .i64 r2, .int .i64 r3, .int .i64 r4] 28), (wr.heap.size, Obj.cells #[.int .i64 2, .int .i64 k1, .int .i64 k2, .int .i64 k3, .int .i64 k4, .int .i64 k5, .int .i64 k6] 30), (b2, rtabO t'), (b, tabO true t')]) := L.out.alloc _
            clear L
            have L := L'
            clear L'
            go_wp2_with fail
            refine (Ask_v (L.out.get 4 rfl) HT2.out k1 k2).mono ?_
            rintro e w6 ⟨x4, s1, s2, s3, s4, rfl, hx4, hb⟩
            have L' : Hid (HL w w6 [(w5.heap.size, Obj.cells #[.int .i64 r1, .int .i64 r2, .int .i64 r3, .int .i64 r4] 28), (w4.heap.size, Obj.cells #[.int .i64 r1, .int .i64 r2, .int .i64 r3, .int .i64 r4] 28), (wr.heap.size, Obj.cells #[.int .i64 2, .int .i64 k1, .int .i64 k2, .int .i64 k3, .int .i64 k4, .int .i64 k5, .int .i64 k6] 30), (b2, rtabO t'), (b, tabO true t')]) := L.out.new hb
            clear L
            have L := L'
            clear L'
            clear hb
            clear ad0 ad1 ad2 ad3 ad4 ad5 ad6 adlt
            have ad0 : w6.cell? ⟨wr.heap.size, 0, none⟩ = some (.int .i64 2) := blk_cell (L.out.get 2 rfl) 0
            have ad1 : w6.cell? ⟨wr.heap.size, 1, none⟩ = some (.int .i64 k1) := blk_cell (L.out.get 2 rfl) 1
            have ad2 : w6.cell? ⟨wr.heap.size, 2, none⟩ = some (.int .i64 k2) := blk_cell (L.out.get 2 rfl) 2
            have ad3 : w6.cell? ⟨wr.heap.size, 3, none⟩ = some (.int .i64 k3) := blk_cell (L.out.get 2 rfl) 3
            have ad4 : w6.cell? ⟨wr.heap.size, 4, none⟩ = some (.int .i64 k4) := blk_cell (L.out.get 2 rfl) 4
            have ad5 : w6.cell? ⟨wr.heap.size, 5, none⟩ = some (.int .i64 k5) := blk_cell (L.out.get 2 rfl) 5
            have ad6 : w6.cell? ⟨wr.heap.size, 6, none⟩ = some (.int .i64 k6) := blk_cell (L.out.get 2 rfl) 6
            have adlt : wr.heap.size < w6.heap.size := L.out.lt 2 rfl
            have L' : Hid (HL w (w6.alloc (Obj.cells #[.int .i64 s1, .int .i64 s2, .int .i64 s3, .int .i64 s4] 28)) [(w6.heap.size, Obj.cells #[.int .i64 s1, .int .i64 s2, .int .i64 s3, .int .i64 s4] 28), (w5.heap.size, Obj.cells #[.int .i64 r1, .int .i64 r2, .int .i64 r3, .int .i64 r4] 28), (w4.heap.size, Obj.cells #[.int .i64 r1, .int .i64 r2, .int .i64 r3, .int .i64 r4] 28), (wr.heap.size, Obj.cells #[.int .i64 2, .int .i64 k1, .int .i64 k2, .int .i64 k3, .int .i64 k4, .int .i64 k5, .int .i64 k6] 30), (b2, rtabO t'), (b, tabO true t')]) := L.out.alloc _
            clear L
            have L := L'
            clear L'
            go_wp2_with fail
            refine (rAsk_v (L.out.get 4 rfl) HT2.out hx4.out).mono ?_
            rintro e w7 ⟨rfl, hb⟩
            have L' : Hid (HL w w7 [(w6.heap.size, Obj.cells #[.int .i64 s1, .int .i64 s2, .int .i64 s3, .int .i64 s4] 28), (w5.heap.size, Obj.cells #[.int .i64 r1, .int .i64 r2, .int .i64 r3, .int .i64 r4] 28), (w4.heap.size, Obj.cells #[.int .i64 r1, .int .i64 r2, .int .i64 r3, .int .i64 r4] 28), (wr.heap.size, Obj.cells #[.int .i64 2, .int .i64 k1, .int .i64 k2, .int .i64 k3, .int .i64 k4, .int .i64 k5, .int .i64 k6] 30), (b2, rtabO t'), (b, tabO true t')]) := L.out.new hb
            clear L
            have L := L'
            clear L'
            clear hb
            clear hx4
            clear ad0 ad1 ad2 ad3 ad4 ad5 ad6 adlt
            go_wp2_with fail
            have L' : Hid (HL w (w7.alloc (Obj.cells #[.int .i64 s1, .int .i64 s2, .int .i64 s3, .int .i64 s4] 28)) [(w7.heap.size, Obj.cells #[.int .i64 s1, .int .i64 s2, .int .i64 s3, .int .i64 s4] 28), (w6.heap.size, Obj.cells #[.int .i64 s1, .int .i64 s2, .int .i64 s3, .int .i64 s4] 28), (w5.heap.size, Obj.cells #[.int .i64 r1, .int .i64 r2, .int .i64 r3, .int .i64 r4] 28), (w4.heap.size, Obj.cells #[.int .i64 r1, .int .i64 r2, .int .i64 r3, .int .i64 r4] 28), (wr.heap.size, Obj.cells #[.int .i64 2, .int .i64 k1, .int .i64 k2, .int .i64 k3, .int .i64 k4, .int .i64 k5, .int .i64 k6] 30), (b2, rtabO t'), (b, tabO true t')]) := L.out.alloc _
            clear L
            have L := L'
            clear L'
            have L' : Hid (HL w (w7.alloc (Obj.cells #[.int .i64 s1, .int .i64 s2, .int .i64 s3, .int .i64 s4] 28)).drew [(w7.heap.size, Obj.cells #[.int .i64 s1, .int .i64 s2, .int .i64 s3, .int .i64 s4] 28), (w6.heap.size, Obj.cells #[.int .i64 s1, .int .i64 s2, .int .i64 s3, .int .i64 s4] 28), (w5.heap.size, Obj.cells #[.int .i64 r1, .int .i64 r2, .int .i64 r3, .int .i64 r4] 28), (w4.heap.size, Obj.cells #[.int .i64 r1, .int .i64 r2, .int .i64 r3, .int .i64 r4] 28), (wr.heap.size, Obj.cells #[.int .i64 2, .int .i64 k1, .int .i64 k2, .int .i64 k3, .int .i64 k4, .int .i64 k5, .int .i64 k6] 30), (b2, rtabO t'), (b, tabO true t')]) := L.out.drew
            clear L
            have L := L'
            clear L'
            go_region_held3 (fun w' => w'.cell? ⟨wr.heap.size, 1, none⟩ = some (.int .i64 k1) ∧ w'.cell? ⟨w7.heap.size, 0, none⟩ = some (.int .i64 s1) ∧ w'.cell? ⟨w7.heap.size, 1, none⟩ = some (.int .i64 s2) ∧ w'.cell? ⟨w7.heap.size, 2, none⟩ = some (.int .i64 s3) ∧ w'.cell? ⟨w7.heap.size, 3, none⟩ = some (.int .i64 s4) ∧ w'.cell? ⟨w6.heap.size, 0, none⟩ = some (.int .i64 s1) ∧ w'.cell? ⟨w6.heap.size, 1, none⟩ = some (.int .i64 s2) ∧ w'.cell? ⟨w6.heap.size, 2, none⟩ = some (.int .i64 s3) ∧ w'.cell? ⟨w6.heap.size, 3, none⟩ = some (.int .i64 s4) ∧ w'.cell? ⟨w5.heap.size, 0, none⟩ = some (.int .i64 r1) ∧ w'.cell? ⟨w5.heap.size, 1, none⟩ = some (.int .i64 r2) ∧ w'.cell? ⟨w5.heap.size, 2, none⟩ = some (.int .i64 r3) ∧ w'.cell? ⟨w5.heap.size, 3, none⟩ = some (.int .i64 r4) ∧ w'.cell? ⟨w4.heap.size, 0, none⟩ = some (.int .i64 r1) ∧ w'.cell? ⟨w4.heap.size, 1, none⟩ = some (.int .i64 r2) ∧ w'.cell? ⟨w4.heap.size, 2, none⟩ = some (.int .i64 r3) ∧ w'.cell? ⟨w4.heap.size, 3, none⟩ = some (.int .i64 r4)) (exact ⟨blk_cell (L.out.get 4 rfl) 1, blk_cell (L.out.get 0 rfl) 0, blk_cell (L.out.get 0 rfl) 1, blk_cell (L.out.get 0 rfl) 2, blk_cell (L.out.get 0 rfl) 3, blk_cell (L.out.get 1 rfl) 0, blk_cell (L.out.get 1 rfl) 1, blk_cell (L.out.get 1 rfl) 2, blk_cell (L.out.get 1 rfl) 3, blk_cell (L.out.get 2 rfl) 0, blk_cell (L.out.get 2 rfl) 1, blk_cell (L.out.get 2 rfl) 2, blk_cell (L.out.get 2 rfl) 3, blk_cell (L.out.get 3 rfl) 0, blk_cell (L.out.get 3 rfl) 1, blk_cell (L.out.get 3 rfl) 2, blk_cell (L.out.get 3 rfl) 3⟩) (first | (go_at_call 11; refine (Last_v (L.out.get 6 rfl) HT2.out k1).mono ?_; rintro e w20 ⟨x5, rfl, hx5, hb⟩; have L' : Hid (HL w w20 [(w7.heap.size, Obj.cells #[.int .i64 s1, .int .i64 s2, .int .i64 s3, .int .i64 s4] 28), (w6.heap.size, Obj.cells #[.int .i64 s1, .int .i64 s2, .int .i64 s3, .int .i64 s4] 28), (w5.heap.size, Obj.cells #[.int .i64 r1, .int .i64 r2, .int .i64 r3, .int .i64 r4] 28), (w4.heap.size, Obj.cells #[.int .i64 r1, .int .i64 r2, .int .i64 r3, .int .i64 r4] 28), (wr.heap.size, Obj.cells #[.int .i64 2, .int .i64 k1, .int .i64 k2, .int .i64 k3, .int .i64 k4, .int .i64 k5, .int .i64 k6] 30), (b2, rtabO t'), (b, tabO true t')]) := L.out.new hb; clear L hb; have L := L'; clear L') | (go_at_call 21; refine (rLast_v (L.out.get 5 rfl) HT2.out hx5.out).mono ?_; rintro e w20 ⟨rfl, hb⟩; have L' : Hid (HL w w20 [(w7.heap.size, Obj.cells #[.int .i64 s1, .int .i64 s2, .int .i64 s3, .int .i64 s4] 28), (w6.heap.size, Obj.cells #[.int .i64 s1, .int .i64 s2, .int .i64 s3, .int .i64 s4] 28), (w5.heap.size, Obj.cells #[.int .i64 r1, .int .i64 r2, .int .i64 r3, .int .i64 r4] 28), (w4.heap.size, Obj.cells #[.int .i64 r1, .int .i64 r2, .int .i64 r3, .int .i64 r4] 28), (wr.heap.size, Obj.cells #[.int .i64 2, .int .i64 k1, .int .i64 k2, .int .i64 k3, .int .i64 k4, .int .i64 k5, .int .i64 k6] 30), (b2, rtabO t'), (b, tabO true t')]) := L.out.new hb; clear L hb; have L := L'; clear L') | (go_at_call 10; refine (Done_v (L.out.get 6 rfl) HT2.out k1).mono ?_; rintro e w20 ⟨x6, rfl, hx6, hb⟩; have L' : Hid (HL w w20 [(w7.heap.size, Obj.cells #[.int .i64 s1, .int .i64 s2, .int .i64 s3, .int .i64 s4] 28), (w6.heap.size, Obj.cells #[.int .i64 s1, .int .i64 s2, .int .i64 s3, .int .i64 s4] 28), (w5.heap.size, Obj.cells #[.int .i64 r1, .int .i64 r2, .int .i64 r3, .int .i64 r4] 28), (w4.heap.size, Obj.cells #[.int .i64 r1, .int .i64 r2, .int .i64 r3, .int .i64 r4] 28), (wr.heap.size, Obj.cells #[.int .i64 2, .int .i64 k1, .int .i64 k2, .int .i64 k3, .int .i64 k4, .int .i64 k5, .int .i64 k6] 30), (b2, rtabO t'), (b, tabO true t')]) := L.out.new hb; clear L hb; have L := L'; clear L') | (go_at_call 22; refine (rDone_v (L.out.get 5 rfl) HT2.out hx6.out).mono ?_; rintro e w20 ⟨rfl, hb⟩; have L' : Hid (HL w w20 [(w7.heap.size, Obj.cells #[.int .i64 s1, .int .i64 s2, .int .i64 s3, .int .i64 s4] 28), (w6.heap.size, Obj.cells #[.int .i64 s1, .int .i64 s2, .int .i64 s3, .int .i64 s4] 28), (w5.heap.size, Obj.cells #[.int .i64 r1, .int .i64 r2, .int .i64 r3, .int .i64 r4] 28), (w4.heap.size, Obj.cells #[.int .i64 r1, .int .i64 r2, .int .i64 r3, .int .i64 r4] 28), (wr.heap.size, Obj.cells #[.int .i64 2, .int .i64 k1, .int .i64 k2, .int .i64 k3, .int .i64 k4, .int .i64 k5, .int .i64 k6] 30), (b2, rtabO t'), (b, tabO true t')]) := L.out.new hb; clear L hb; have L := L'; clear L'))
            go_wp2
            go_roundw
            case rel => exact ⟨j + 1, t', by omega, by go_num, HT2, L.out.drop 5⟩
            case measure => simp [intOf]; omega
          · have b2' : (k0 == 2) = false := by simpa using hk2
            have HC : Hid (∀ i u, ([.int .i64 k0, .int .i64 k1, .int .i64 k2, .int .i64 k3, .int .i64 k4, .int .i64 k5, .int .i64 k6] : List Value)[i]? = some u → wr.cell? ⟨ab, aoff + j * 7 + i, none⟩ = some u) := hc
            have HS : Hid ((Try.prog.info? 30).map (·.size) = some ([.int .i64 k0, .int .i64 k1, .int .i64 k2, .int .i64 k3, .int .i64 k4, .int .i64 k5, .int .i64 k6] : List Value).length) := size_act
            clear hc
            go_wp2_with (with_reducible refine load_agg rfl 30 (.tmp 31) rfl _ Try.underlying30 rfl ab (aoff + j * 7) rfl [.int .i64 k0, .int .i64 k1, .int .i64 k2, .int .i64 k3, .int .i64 k4, .int .i64 k5, .int .i64 k6] HS.out HC.out ?_)
            have L' : Hid (HL w (wr.alloc (Obj.cells #[.int .i64 k0, .int .i64 k1, .int .i64 k2, .int .i64 k3, .int .i64 k4, .int .i64 k5, .int .i64 k6] 30)) [(wr.heap.size, Obj.cells #[.int .i64 k0, .int .i64 k1, .int .i64 k2, .int .i64 k3, .int .i64 k4, .int .i64 k5, .int .i64 k6] 30), (b2, rtabO t), (b, tabO true t)]) := L.out.alloc _
            clear L
            have L := L'
            clear L'
            refine (Ask_v (L.out.get 2 rfl) HT.out c q).mono ?_
            rintro e w2 ⟨x3, r1, r2, r3, r4, rfl, hx3, hb⟩
            have L' : Hid (HL w w2 [(wr.heap.size, Obj.cells #[.int .i64 k0, .int .i64 k1, .int .i64 k2, .int .i64 k3, .int .i64 k4, .int .i64 k5, .int .i64 k6] 30), (b2, rtabO t), (b, tabO true t)]) := L.out.new hb
            clear L
            have L := L'
            clear L'
            clear hb
            have L' : Hid (HL w (w2.alloc (Obj.cells #[.int .i64 r1, .int .i64 r2, .int .i64 r3, .int .i64 r4] 28)) [(w2.heap.size, Obj.cells #[.int .i64 r1, .int .i64 r2, .int .i64 r3, .int .i64 r4] 28), (wr.heap.size, Obj.cells #[.int .i64 k0, .int .i64 k1, .int .i64 k2, .int .i64 k3, .int .i64 k4, .int .i64 k5, .int .i64 k6] 30), (b2, rtabO t), (b, tabO true t)]) := L.out.alloc _
            clear L
            have L := L'
            clear L'
            go_wp2_with fail
            refine (rAsk_v (L.out.get 2 rfl) HT.out hx3.out).mono ?_
            rintro e w3 ⟨rfl, hb⟩
            have L' : Hid (HL w w3 [(w2.heap.size, Obj.cells #[.int .i64 r1, .int .i64 r2, .int .i64 r3, .int .i64 r4] 28), (wr.heap.size, Obj.cells #[.int .i64 k0, .int .i64 k1, .int .i64 k2, .int .i64 k3, .int .i64 k4, .int .i64 k5, .int .i64 k6] 30), (b2, rtabO t), (b, tabO true t)]) := L.out.new hb
            clear L
            have L := L'
            clear L'
            clear hb
            clear hx3
            have ad0 : w3.cell? ⟨wr.heap.size, 0, none⟩ = some (.int .i64 k0) := blk_cell (L.out.get 1 rfl) 0
            have ad1 : w3.cell? ⟨wr.heap.size, 1, none⟩ = some (.int .i64 k1) := blk_cell (L.out.get 1 rfl) 1
            have ad2 : w3.cell? ⟨wr.heap.size, 2, none⟩ = some (.int .i64 k2) := blk_cell (L.out.get 1 rfl) 2
            have ad3 : w3.cell? ⟨wr.heap.size, 3, none⟩ = some (.int .i64 k3) := blk_cell (L.out.get 1 rfl) 3
            have ad4 : w3.cell? ⟨wr.heap.size, 4, none⟩ = some (.int .i64 k4) := blk_cell (L.out.get 1 rfl) 4
            have ad5 : w3.cell? ⟨wr.heap.size, 5, none⟩ = some (.int .i64 k5) := blk_cell (L.out.get 1 rfl) 5
            have ad6 : w3.cell? ⟨wr.heap.size, 6, none⟩ = some (.int .i64 k6) := blk_cell (L.out.get 1 rfl) 6
            have adlt : wr.heap.size < w3.heap.size := L.out.lt 1 rfl
            have L' : Hid (HL w (w3.alloc (Obj.cells #[.int .i64 r1, .int .i64 r2, .int .i64 r3, .int .i64 r4] 28)) [(w3.heap.size, Obj.cells #[.int .i64 r1, .int .i64 r2, .int .i64 r3, .int .i64 r4] 28), (w2.heap.size, Obj.cells #[.int .i64 r1, .int .i64 r2, .int .i64 r3, .int .i64 r4] 28), (wr.heap.size, Obj.cells #[.int .i64 k0, .int .i64 k1, .int .i64 k2, .int .i64 k3, .int .i64 k4, .int .i64 k5, .int .i64 k6] 30), (b2, rtabO t), (b, tabO true t)]) := L.out.alloc _
            clear L
            have L := L'
            clear L'
            go_wp2_with fail
            refine (Ask_v (L.out.get 4 rfl) HT.out k1 k2).mono ?_
            rintro e w4 ⟨x4, s1, s2, s3, s4, rfl, hx4, hb⟩
            have L' : Hid (HL w w4 [(w3.heap.size, Obj.cells #[.int .i64 r1, .int .i64 r2, .int .i64 r3, .int .i64 r4] 28), (w2.heap.size, Obj.cells #[.int .i64 r1, .int .i64 r2, .int .i64 r3, .int .i64 r4] 28), (wr.heap.size, Obj.cells #[.int .i64 k0, .int .i64 k1, .int .i64 k2, .int .i64 k3, .int .i64 k4, .int .i64 k5, .int .i64 k6] 30), (b2, rtabO t), (b, tabO true t)]) := L.out.new hb
            clear L
            have L := L'
            clear L'
            clear hb
            clear ad0 ad1 ad2 ad3 ad4 ad5 ad6 adlt
            have ad0 : w4.cell? ⟨wr.heap.size, 0, none⟩ = some (.int .i64 k0) := blk_cell (L.out.get 2 rfl) 0
            have ad1 : w4.cell? ⟨wr.heap.size, 1, none⟩ = some (.int .i64 k1) := blk_cell (L.out.get 2 rfl) 1
            have ad2 : w4.cell? ⟨wr.heap.size, 2, none⟩ = some (.int .i64 k2) := blk_cell (L.out.get 2 rfl) 2
            have ad3 : w4.cell? ⟨wr.heap.size, 3, none⟩ = some (.int .i64 k3) := blk_cell (L.out.get 2 rfl) 3
            have ad4 : w4.cell? ⟨wr.heap.size, 4, none⟩ = some (.int .i64 k4) := blk_cell (L.out.get 2 rfl) 4
            have ad5 : w4.cell? ⟨wr.heap.size, 5, none⟩ = some (.int .i64 k5) := blk_cell (L.out.get 2 rfl) 5
            have ad6 : w4.cell? ⟨wr.heap.size, 6, none⟩ = some (.int .i64 k6) := blk_cell (L.out.get 2 rfl) 6
            have adlt : wr.heap.size < w4.heap.size := L.out.lt 2 rfl
            have L' : Hid (HL w (w4.alloc (Obj.cells #[.int .i64 s1, .int .i64 s2, .int .i64 s3, .int .i64 s4] 28)) [(w4.heap.size, Obj.cells #[.int .i64 s1, .int .i64 s2, .int .i64 s3, .int .i64 s4] 28), (w3.heap.size, Obj.cells #[.int .i64 r1, .int .i64 r2, .int .i64 r3, .int .i64 r4] 28), (w2.heap.size, Obj.cells #[.int .i64 r1, .int .i64 r2, .int .i64 r3, .int .i64 r4] 28), (wr.heap.size, Obj.cells #[.int .i64 k0, .int .i64 k1, .int .i64 k2, .int .i64 k3, .int .i64 k4, .int .i64 k5, .int .i64 k6] 30), (b2, rtabO t), (b, tabO true t)]) := L.out.alloc _
            clear L
            have L := L'
            clear L'
            go_wp2_with fail
            refine (rAsk_v (L.out.get 4 rfl) HT.out hx4.out).mono ?_
            rintro e w5 ⟨rfl, hb⟩
            have L' : Hid (HL w w5 [(w4.heap.size, Obj.cells #[.int .i64 s1, .int .i64 s2, .int .i64 s3, .int .i64 s4] 28), (w3.heap.size, Obj.cells #[.int .i64 r1, .int .i64 r2, .int .i64 r3, .int .i64 r4] 28), (w2.heap.size, Obj.cells #[.int .i64 r1, .int .i64 r2, .int .i64 r3, .int .i64 r4] 28), (wr.heap.size, Obj.cells #[.int .i64 k0, .int .i64 k1, .int .i64 k2, .int .i64 k3, .int .i64 k4, .int .i64 k5, .int .i64 k6] 30), (b2, rtabO t), (b, tabO true t)]) := L.out.new hb
            clear L
            have L := L'
            clear L'
            clear hb
            clear hx4
            clear ad0 ad1 ad2 ad3 ad4 ad5 ad6 adlt
            go_wp2_with fail
            have L' : Hid (HL w (w5.alloc (Obj.cells #[.int .i64 s1, .int .i64 s2, .int .i64 s3, .int .i64 s4] 28)) [(w5.heap.size, Obj.cells #[.int .i64 s1, .int .i64 s2, .int .i64 s3, .int .i64 s4] 28), (w4.heap.size, Obj.cells #[.int .i64 s1, .int .i64 s2, .int .i64 s3, .int .i64 s4] 28), (w3.heap.size, Obj.cells #[.int .i64 r1, .int .i64 r2, .int .i64 r3, .int .i64 r4] 28), (w2.heap.size, Obj.cells #[.int .i64 r1, .int .i64 r2, .int .i64 r3, .int .i64 r4] 28), (wr.heap.size, Obj.cells #[.int .i64 k0, .int .i64 k1, .int .i64 k2, .int .i64 k3, .int .i64 k4, .int .i64 k5, .int .i64 k6] 30), (b2, rtabO t), (b, tabO true t)]) := L.out.alloc _
            clear L
            have L := L'
            clear L'
            have L' : Hid (HL w (w5.alloc (Obj.cells #[.int .i64 s1, .int .i64 s2, .int .i64 s3, .int .i64 s4] 28)).drew [(w5.heap.size, Obj.cells #[.int .i64 s1, .int .i64 s2, .int .i64 s3, .int .i64 s4] 28), (w4.heap.size, Obj.cells #[.int .i64 s1, .int .i64 s2, .int .i64 s3, .int .i64 s4] 28), (w3.heap.size, Obj.cells #[.int .i64 r1, .int .i64 r2, .int .i64 r3, .int .i64 r4] 28), (w2.heap.size, Obj.cells #[.int .i64 r1, .int .i64 r2, .int .i64 r3, .int .i64 r4] 28), (wr.heap.size, Obj.cells #[.int .i64 k0, .int .i64 k1, .int .i64 k2, .int .i64 k3, .int .i64 k4, .int .i64 k5, .int .i64 k6] 30), (b2, rtabO t), (b, tabO true t)]) := L.out.drew
            clear L
            have L := L'
            clear L'
            go_region_held3 (fun w' => w'.cell? ⟨wr.heap.size, 1, none⟩ = some (.int .i64 k1) ∧ w'.cell? ⟨w5.heap.size, 0, none⟩ = some (.int .i64 s1) ∧ w'.cell? ⟨w5.heap.size, 1, none⟩ = some (.int .i64 s2) ∧ w'.cell? ⟨w5.heap.size, 2, none⟩ = some (.int .i64 s3) ∧ w'.cell? ⟨w5.heap.size, 3, none⟩ = some (.int .i64 s4) ∧ w'.cell? ⟨w4.heap.size, 0, none⟩ = some (.int .i64 s1) ∧ w'.cell? ⟨w4.heap.size, 1, none⟩ = some (.int .i64 s2) ∧ w'.cell? ⟨w4.heap.size, 2, none⟩ = some (.int .i64 s3) ∧ w'.cell? ⟨w4.heap.size, 3, none⟩ = some (.int .i64 s4) ∧ w'.cell? ⟨w3.heap.size, 0, none⟩ = some (.int .i64 r1) ∧ w'.cell? ⟨w3.heap.size, 1, none⟩ = some (.int .i64 r2) ∧ w'.cell? ⟨w3.heap.size, 2, none⟩ = some (.int .i64 r3) ∧ w'.cell? ⟨w3.heap.size, 3, none⟩ = some (.int .i64 r4) ∧ w'.cell? ⟨w2.heap.size, 0, none⟩ = some (.int .i64 r1) ∧ w'.cell? ⟨w2.heap.size, 1, none⟩ = some (.int .i64 r2) ∧ w'.cell? ⟨w2.heap.size, 2, none⟩ = some (.int .i64 r3) ∧ w'.cell? ⟨w2.heap.size, 3, none⟩ = some (.int .i64 r4)) (exact ⟨blk_cell (L.out.get 4 rfl) 1, blk_cell (L.out.get 0 rfl) 0, blk_cell (L.out.get 0 rfl) 1, blk_cell (L.out.get 0 rfl) 2, blk_cell (L.out.get 0 rfl) 3, blk_cell (L.out.get 1 rfl) 0, blk_cell (L.out.get 1 rfl) 1, blk_cell (L.out.get 1 rfl) 2, blk_cell (L.out.get 1 rfl) 3, blk_cell (L.out.get 2 rfl) 0, blk_cell (L.out.get 2 rfl) 1, blk_cell (L.out.get 2 rfl) 2, blk_cell (L.out.get 2 rfl) 3, blk_cell (L.out.get 3 rfl) 0, blk_cell (L.out.get 3 rfl) 1, blk_cell (L.out.get 3 rfl) 2, blk_cell (L.out.get 3 rfl) 3⟩) (first | (go_at_call 11; refine (Last_v (L.out.get 6 rfl) HT.out k1).mono ?_; rintro e w20 ⟨x5, rfl, hx5, hb⟩; have L' : Hid (HL w w20 [(w5.heap.size, Obj.cells #[.int .i64 s1, .int .i64 s2, .int .i64 s3, .int .i64 s4] 28), (w4.heap.size, Obj.cells #[.int .i64 s1, .int .i64 s2, .int .i64 s3, .int .i64 s4] 28), (w3.heap.size, Obj.cells #[.int .i64 r1, .int .i64 r2, .int .i64 r3, .int .i64 r4] 28), (w2.heap.size, Obj.cells #[.int .i64 r1, .int .i64 r2, .int .i64 r3, .int .i64 r4] 28), (wr.heap.size, Obj.cells #[.int .i64 k0, .int .i64 k1, .int .i64 k2, .int .i64 k3, .int .i64 k4, .int .i64 k5, .int .i64 k6] 30), (b2, rtabO t), (b, tabO true t)]) := L.out.new hb; clear L hb; have L := L'; clear L') | (go_at_call 21; refine (rLast_v (L.out.get 5 rfl) HT.out hx5.out).mono ?_; rintro e w20 ⟨rfl, hb⟩; have L' : Hid (HL w w20 [(w5.heap.size, Obj.cells #[.int .i64 s1, .int .i64 s2, .int .i64 s3, .int .i64 s4] 28), (w4.heap.size, Obj.cells #[.int .i64 s1, .int .i64 s2, .int .i64 s3, .int .i64 s4] 28), (w3.heap.size, Obj.cells #[.int .i64 r1, .int .i64 r2, .int .i64 r3, .int .i64 r4] 28), (w2.heap.size, Obj.cells #[.int .i64 r1, .int .i64 r2, .int .i64 r3, .int .i64 r4] 28), (wr.heap.size, Obj.cells #[.int .i64 k0, .int .i64 k1, .int .i64 k2, .int .i64 k3, .int .i64 k4, .int .i64 k5, .int .i64 k6] 30), (b2, rtabO t), (b, tabO true t)]) := L.out.new hb; clear L hb; have L := L'; clear L') | (go_at_call 10; refine (Done_v (L.out.get 6 rfl) HT.out k1).mono ?_; rintro e w20 ⟨x6, rfl, hx6, hb⟩; have L' : Hid (HL w w20 [(w5.heap.size, Obj.cells #[.int .i64 s1, .int .i64 s2, .int .i64 s3, .int .i64 s4] 28), (w4.heap.size, Obj.cells #[.int .i64 s1, .int .i64 s2, .int .i64 s3, .int .i64 s4] 28), (w3.heap.size, Obj.cells #[.int .i64 r1, .int .i64 r2, .int .i64 r3, .int .i64 r4] 28), (w2.heap.size, Obj.cells #[.int .i64 r1, .int .i64 r2, .int .i64 r3, .int .i64 r4] 28), (wr.heap.size, Obj.cells #[.int .i64 k0, .int .i64 k1, .int .i64 k2, .int .i64 k3, .int .i64 k4, .int .i64 k5, .int .i64 k6] 30), (b2, rtabO t), (b, tabO true t)]) := L.out.new hb; clear L hb; have L := L'; clear L') | (go_at_call 22; refine (rDone_v (L.out.get 5 rfl) HT.out hx6.out).mono ?_; rintro e w20 ⟨rfl, hb⟩; have L' : Hid (HL w w20 [(w5.heap.size, Obj.cells #[.int .i64 s1, .int .i64 s2, .int .i64 s3, .int .i64 s4] 28), (w4.heap.size, Obj.cells #[.int .i64 s1, .int .i64 s2, .int .i64 s3, .int .i64 s4] 28), (w3.heap.size, Obj.cells #[.int .i64 r1, .int .i64 r2, .int .i64 r3, .int .i64 r4] 28), (w2.heap.size, Obj.cells #[.int .i64 r1, .int .i64 r2, .int .i64 r3, .int .i64 r4] 28), (wr.heap.size, Obj.cells #[.int .i64 k0, .int .i64 k1, .int .i64 k2, .int .i64 k3, .int .i64 k4, .int .i64 k5, .int .i64 k6] 30), (b2, rtabO t), (b, tabO true t)]) := L.out.new hb; clear L hb; have L := L'; clear L'))
            go_wp2
            go_roundw
            case rel => exact ⟨j + 1, t, by omega, by go_num, HT, L.out.drop 5⟩
            case measure => simp [intOf]; omega
    · obtain rfl : j = len := by omega
      go_wp2_with fail
      refine (lives_any _).mono ?_
      rintro e w2 ⟨rfl, hb⟩
      have B : Hid (Below w.heap.size w w2) := (L.out.new hb).below
      clear hb
      go_wp2
      go_ret
      exact ⟨rfl, B.out⟩
theorem tacts_out {w : World} {ao : Option Addr} {len cap : Nat} (hlen : 200 < len) (c q : Int) :
    Calls Try.prog 6 #[.slice ao len cap, .int .i64 c, .int .i64 q] w fun e w' => e = .returned (.bool true) ∧ Below w.heap.size w w' := by
  go_enter Try.func6, Try.ntmps6
  go_wp2_with (go_at_call 8; ((with_reducible refine (lives_any _).mono ?_); rintro e w3 ⟨rfl, hb⟩; have B := Lib.hid hb; clear hb))
  go_ret
  exact ⟨rfl, B.out⟩
theorem tableActs_law (w : World) (v : Value) (h : Shape.okAll w [.slice actShape] [v]) (c : Int) (wc : (Lit.int .i64 c).wf = true) (q : Int) (wq : (Lit.int .i64 q).wf = true) :
    Calls Try.prog 6 #[v, .int .i64 c, .int .i64 q] w fun e w' => e = .returned (.bool true) ∧ Below w.heap.size w w' := by
  obtain ⟨n, L, hL, hr⟩ := acts_of h
  by_cases hn : n ≤ 200
  · exact tacts_in hr hL hn c q
  · have hr' := hr
    obtain ⟨_, ao, cap, rfl, _, _⟩ := hr'
    exact tacts_out (by omega) c q
end Go.Proofs.Ytbolmekdbeincaa.M
