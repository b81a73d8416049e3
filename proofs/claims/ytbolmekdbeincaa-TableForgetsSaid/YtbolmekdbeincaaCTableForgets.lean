/- TableForgets: what the law computes. -/
import Derived.Test.YtbolmekdbeincaaTabW
namespace Go.Proofs.Ytbolmekdbeincaa.M
open Go Go.RowKit
set_option linter.unusedVariables false
theorem rowT_forget (t : List RowV) (ht : t.length = 4) {c : Int} (hc : inC c) : rowT (forgetT t) c = forgetR (rowT t c) := by
  obtain ⟨i, rfl, hi⟩ := in_nat hc
  rw [rowT_in _ i hi, rowT_in _ i hi]
  simp [forgetT, List.getD, ht, hi]
theorem rowT_tab0 (c : Int) : rowT tab0 c = zeroR := by
  by_cases hc : inC c
  · obtain ⟨i, rfl, hi⟩ := in_nat hc
    rw [rowT_in _ i hi]
    match i, hi with
    | 0, _ => rfl
    | 1, _ => rfl
    | 2, _ => rfl
    | 3, _ => rfl
  · exact rowT_out _ _ hc
theorem forgets_pure {c d s e1 e2 e3 e4 : Int} (hc : inC c) (hd : 1 ≤ d) (hs : d < s) : ∃ t1 t2, finishT tab0 c d e1 e2 e3 e4 = (0, t1) ∧ t1.length = 4 ∧ startT t1 c s = (0, t2) ∧ t2.length = 4 ∧
    askT (rowT (forgetT t2) c) (decide (inC c)) d = (3, ⟨d, e1, e2, e3, e4, 0⟩) ∧ askT (rowT (forgetT t2) c) (decide (inC c)) s = (1, zeroR) ∧ askT (rowT t2 c) (decide (inC c)) s = (2, zeroR) ∧ lastR (rowT (forgetT t2) c) = d := by
  have h0 : (rowT tab0 c).known = 0 := by rw [rowT_tab0]; rfl
  have f1 : finishT tab0 c d e1 e2 e3 e4 = (0, setT tab0 c ⟨d, e1, e2, e3, e4, (rowT tab0 c).wait⟩) := by
    unfold finishT
    rw [if_neg (by rintro (h | h); exact h hc; omega), if_neg (by omega), if_neg (by omega)]
  have hw : (rowT tab0 c).wait = 0 := by rw [rowT_tab0]; rfl
  rw [hw] at f1
  have l1 : (setT tab0 c ⟨d, e1, e2, e3, e4, 0⟩).length = 4 := by rw [setT_len]; rfl
  have r1 : rowT (setT tab0 c ⟨d, e1, e2, e3, e4, 0⟩) c = ⟨d, e1, e2, e3, e4, 0⟩ := rowT_set_self _ rfl hc _
  generalize setT tab0 c ⟨d, e1, e2, e3, e4, 0⟩ = t1 at f1 l1 r1
  have f2 : startT t1 c s = (0, setT t1 c ⟨d, e1, e2, e3, e4, s⟩) := by
    unfold startT
    rw [if_neg (by rintro (h | h); exact h hc; omega), r1, if_neg (by unfold lastR; simp only; omega)]
  have l2 : (setT t1 c ⟨d, e1, e2, e3, e4, s⟩).length = 4 := by rw [setT_len]; exact l1
  have r2 : rowT (setT t1 c ⟨d, e1, e2, e3, e4, s⟩) c = ⟨d, e1, e2, e3, e4, s⟩ := rowT_set_self _ l1 hc _
  generalize setT t1 c ⟨d, e1, e2, e3, e4, s⟩ = t2 at f2 l2 r2
  have r3 : rowT (forgetT t2) c = ⟨d, e1, e2, e3, e4, 0⟩ := by rw [rowT_forget t2 l2 hc, r2]; rfl
  have la3 : lastR ⟨d, e1, e2, e3, e4, 0⟩ = d := by unfold lastR; simp only; omega
  have la2 : lastR ⟨d, e1, e2, e3, e4, s⟩ = s := by unfold lastR; simp only; omega
  refine ⟨t1, t2, f1, l1, f2, l2, ?_, ?_, ?_, ?_⟩
  · rw [r3, decide_eq_true hc, askT_known _ d (show ¬ d < 1 by omega) rfl]
  · rw [r3, decide_eq_true hc, askT_new _ s (show ¬ s < 1 by omega) (by simp only; omega) (by rw [la3]; omega)]
  · rw [r2, decide_eq_true hc, askT_wait _ s (show ¬ s < 1 by omega) (by simp only; omega) (by rw [la2]; omega) la2.symm]
  · rw [r3, la3]
theorem agg_two {w : World} {cs : Array Value} (h : Shape.okAll w [.int .i64, .int .i64] cs.toList) : ∃ d s, cs = #[.int .i64 d, .int .i64 s] := by
  obtain ⟨a, l0, e0, h0⟩ := okAll_int h
  obtain ⟨b, l1, rfl, h1⟩ := okAll_int h0
  obtain rfl := okAll_end h1
  exact ⟨a, b, by cases cs; simp_all⟩
theorem agg_four {w : World} {cs : Array Value} (h : Shape.okAll w [.int .i64, .int .i64, .int .i64, .int .i64] cs.toList) : ∃ a b c d, cs = #[.int .i64 a, .int .i64 b, .int .i64 c, .int .i64 d] := by
  obtain ⟨a, l0, e0, h0⟩ := okAll_int h
  obtain ⟨b, l1, rfl, h1⟩ := okAll_int h0
  obtain ⟨c, l2, rfl, h2⟩ := okAll_int h1
  obtain ⟨d, l3, rfl, h3⟩ := okAll_int h2
  obtain rfl := okAll_end h3
  exact ⟨a, b, c, d, by cases cs; simp_all⟩
set_option maxHeartbeats 4000000 in
set_option maxRecDepth 100000 in
theorem forgets_in {w : World} {c d s e1 e2 e3 e4 : Int} (h1 : 1 ≤ c) (h2 : c ≤ 4) (hd : 1 ≤ d) (hs : d < s) :
    Calls Try.prog 5 #[.int .i64 c, .agg #[.int .i64 d, .int .i64 s], .agg #[.int .i64 e1, .int .i64 e2, .int .i64 e3, .int .i64 e4]] w fun e w' => e = .returned (.bool true) ∧ Below w.heap.size w w' := by
  obtain ⟨t1, t2, p1, l1, p2, l2, p3, p4, p5, p6⟩ := forgets_pure (e1 := e1) (e2 := e2) (e3 := e3) (e4 := e4) (show inC c from ⟨h1, h2⟩) hd hs
  have P1 := Lib.hid p1
  have L1 := Lib.hid l1
  have P2 := Lib.hid p2
  have L2 := Lib.hid l2
  have P3 : Hid (∃ a z, askT (rowT (forgetT t2) c) (decide (inC c)) d = (3, ⟨a, e1, e2, e3, e4, z⟩)) := ⟨_, _, p3⟩
  have P4 : Hid (∃ a z, askT (rowT (forgetT t2) c) (decide (inC c)) s = (1, ⟨a, 0, 0, 0, 0, z⟩)) := ⟨_, _, p4⟩
  have P5 : Hid (∃ a z, askT (rowT t2 c) (decide (inC c)) s = (2, ⟨a, 0, 0, 0, 0, z⟩)) := ⟨_, _, p5⟩
  have P6 := Lib.hid p6
  have L3 : Hid ((forgetT t2).length = 4) := forgetT_len l2
  clear p1 l1 p2 l2 p3 p4 p5 p6
  go_enter Try.func5, Try.ntmps5
  go_wp2_with fail
  go_quiet (fail)
  go_wp2_with fail
  generalize hW : World.drewN _ nq = w0
  have L : Hid (HL w w0 [(w.heap.size + 1, Obj.cells #[.int .i64 e1, .int .i64 e2, .int .i64 e3, .int .i64 e4] 28), (w.heap.size, Obj.cells #[.int .i64 d, .int .i64 s] 38)]) := by
    rw [← hW]
    have h1 := ((HL.nil w).alloc (Obj.cells #[.int .i64 d, .int .i64 s] 38)).alloc (Obj.cells #[.int .i64 e1, .int .i64 e2, .int .i64 e3, .int .i64 e4] 28)
    have h2 := h1.drewN nq
    exact Lib.hid (by simpa using h2)
  clear hW
  refine (Make_any).mono ?_
  rintro e w2 ⟨rfl, ha, hb⟩
  have L' : Hid (HL w w2 [(w0.heap.size, tabO true tab0), (w.heap.size + 1, Obj.cells #[.int .i64 e1, .int .i64 e2, .int .i64 e3, .int .i64 e4] 28), (w.heap.size, Obj.cells #[.int .i64 d, .int .i64 s] 38)]) := L.out.made hb ha
  clear L
  have L := L'
  clear L'
  clear hb ha
  generalize w0.heap.size = b at L ⊢
  have ad0 : w2.cell? ⟨w.heap.size + 1, 0, none⟩ = some (.int .i64 e1) := blk_cell (L.out.get 1 rfl) 0
  have ad1 : w2.cell? ⟨w.heap.size + 1, 1, none⟩ = some (.int .i64 e2) := blk_cell (L.out.get 1 rfl) 1
  have ad2 : w2.cell? ⟨w.heap.size + 1, 2, none⟩ = some (.int .i64 e3) := blk_cell (L.out.get 1 rfl) 2
  have ad3 : w2.cell? ⟨w.heap.size + 1, 3, none⟩ = some (.int .i64 e4) := blk_cell (L.out.get 1 rfl) 3
  have adlt : w.heap.size + 1 < w2.heap.size := L.out.lt 1 rfl
  go_wp2_with fail
  refine (Finish_w (L.out.get 0 rfl) rfl P1.out).mono ?_
  rintro e w3 ⟨rfl, hu⟩
  have L' : Hid (HL w w3 [(b, tabO true t1), (w.heap.size + 1, Obj.cells #[.int .i64 e1, .int .i64 e2, .int .i64 e3, .int .i64 e4] 28), (w.heap.size, Obj.cells #[.int .i64 d, .int .i64 s] 38)]) := L.out.turn 0 rfl hu.only hu.at_
  clear L
  have L := L'
  clear L'
  clear hu
  clear ad0 ad1 ad2 ad3 adlt
  go_wp2_with fail
  refine (Start_w (L.out.get 0 rfl) L1.out P2.out).mono ?_
  rintro e w4 ⟨rfl, hu⟩
  have L' : Hid (HL w w4 [(b, tabO true t2), (w.heap.size + 1, Obj.cells #[.int .i64 e1, .int .i64 e2, .int .i64 e3, .int .i64 e4] 28), (w.heap.size, Obj.cells #[.int .i64 d, .int .i64 s] 38)]) := L.out.turn 0 rfl hu.only hu.at_
  clear L
  have L := L'
  clear L'
  clear hu
  go_wp2_with fail
  refine (Copy_any L2.out (L.out.get 0 rfl)).mono ?_
  rintro e w5 ⟨rfl, ha, hb⟩
  have L' : Hid (HL w w5 [(w4.heap.size, tabO true t2), (b, tabO true t2), (w.heap.size + 1, Obj.cells #[.int .i64 e1, .int .i64 e2, .int .i64 e3, .int .i64 e4] 28), (w.heap.size, Obj.cells #[.int .i64 d, .int .i64 s] 38)]) := L.out.made hb ha
  clear L
  have L := L'
  clear L'
  clear hb ha
  generalize w4.heap.size = b2 at L ⊢
  go_wp2_with fail
  refine (Forget_any L2.out (L.out.get 1 rfl)).mono ?_
  rintro e w6 ⟨rfl, hu⟩
  have L' : Hid (HL w w6 [(b2, tabO true t2), (b, tabO true (forgetT t2)), (w.heap.size + 1, Obj.cells #[.int .i64 e1, .int .i64 e2, .int .i64 e3, .int .i64 e4] 28), (w.heap.size, Obj.cells #[.int .i64 d, .int .i64 s] 38)]) := L.out.turn 1 rfl hu.only hu.at_
  clear L
  have L := L'
  clear L'
  clear hu
  go_wp2_with fail
  refine (Ask_w (L.out.get 1 rfl) L3.out P3.out).mono ?_
  rintro e w7 ⟨rfl, hb⟩
  have L' : Hid (HL w w7 [(b2, tabO true t2), (b, tabO true (forgetT t2)), (w.heap.size + 1, Obj.cells #[.int .i64 e1, .int .i64 e2, .int .i64 e3, .int .i64 e4] 28), (w.heap.size, Obj.cells #[.int .i64 d, .int .i64 s] 38)]) := L.out.new hb
  clear L
  have L := L'
  clear L'
  clear hb
  have L' : Hid (HL w (w7.alloc (Obj.cells #[.int .i64 e1, .int .i64 e2, .int .i64 e3, .int .i64 e4] 28)) [(w7.heap.size, Obj.cells #[.int .i64 e1, .int .i64 e2, .int .i64 e3, .int .i64 e4] 28), (b2, tabO true t2), (b, tabO true (forgetT t2)), (w.heap.size + 1, Obj.cells #[.int .i64 e1, .int .i64 e2, .int .i64 e3, .int .i64 e4] 28), (w.heap.size, Obj.cells #[.int .i64 d, .int .i64 s] 38)]) := L.out.alloc _
  clear L
  have L := L'
  clear L'
  go_wp2_with fail
  refine (Ask_w (L.out.get 2 rfl) L3.out P4.out).mono ?_
  rintro e w8 ⟨rfl, hb⟩
  have L' : Hid (HL w w8 [(w7.heap.size, Obj.cells #[.int .i64 e1, .int .i64 e2, .int .i64 e3, .int .i64 e4] 28), (b2, tabO true t2), (b, tabO true (forgetT t2)), (w.heap.size + 1, Obj.cells #[.int .i64 e1, .int .i64 e2, .int .i64 e3, .int .i64 e4] 28), (w.heap.size, Obj.cells #[.int .i64 d, .int .i64 s] 38)]) := L.out.new hb
  clear L
  have L := L'
  clear L'
  clear hb
  have L' : Hid (HL w (w8.alloc (Obj.cells #[.int .i64 0, .int .i64 0, .int .i64 0, .int .i64 0] 28)) [(w8.heap.size, Obj.cells #[.int .i64 0, .int .i64 0, .int .i64 0, .int .i64 0] 28), (w7.heap.size, Obj.cells #[.int .i64 e1, .int .i64 e2, .int .i64 e3, .int .i64 e4] 28), (b2, tabO true t2), (b, tabO true (forgetT t2)), (w.heap.size + 1, Obj.cells #[.int .i64 e1, .int .i64 e2, .int .i64 e3, .int .i64 e4] 28), (w.heap.size, Obj.cells #[.int .i64 d, .int .i64 s] 38)]) := L.out.alloc _
  clear L
  have L := L'
  clear L'
  go_wp2_with fail
  refine (Ask_w (L.out.get 2 rfl) L2.out P5.out).mono ?_
  rintro e w9 ⟨rfl, hb⟩
  have L' : Hid (HL w w9 [(w8.heap.size, Obj.cells #[.int .i64 0, .int .i64 0, .int .i64 0, .int .i64 0] 28), (w7.heap.size, Obj.cells #[.int .i64 e1, .int .i64 e2, .int .i64 e3, .int .i64 e4] 28), (b2, tabO true t2), (b, tabO true (forgetT t2)), (w.heap.size + 1, Obj.cells #[.int .i64 e1, .int .i64 e2, .int .i64 e3, .int .i64 e4] 28), (w.heap.size, Obj.cells #[.int .i64 d, .int .i64 s] 38)]) := L.out.new hb
  clear L
  have L := L'
  clear L'
  clear hb
  have p0 : w9.cell? ⟨w7.heap.size, 0, none⟩ = some (.int .i64 e1) := blk_cell (L.out.get 1 rfl) 0
  have p1 : w9.cell? ⟨w7.heap.size, 1, none⟩ = some (.int .i64 e2) := blk_cell (L.out.get 1 rfl) 1
  have p2 : w9.cell? ⟨w7.heap.size, 2, none⟩ = some (.int .i64 e3) := blk_cell (L.out.get 1 rfl) 2
  have p3 : w9.cell? ⟨w7.heap.size, 3, none⟩ = some (.int .i64 e4) := blk_cell (L.out.get 1 rfl) 3
  have plt : w7.heap.size < w9.heap.size := L.out.lt 1 rfl
  have q0 : w9.cell? ⟨w.heap.size + 1, 0, none⟩ = some (.int .i64 e1) := blk_cell (L.out.get 4 rfl) 0
  have q1 : w9.cell? ⟨w.heap.size + 1, 1, none⟩ = some (.int .i64 e2) := blk_cell (L.out.get 4 rfl) 1
  have q2 : w9.cell? ⟨w.heap.size + 1, 2, none⟩ = some (.int .i64 e3) := blk_cell (L.out.get 4 rfl) 2
  have q3 : w9.cell? ⟨w.heap.size + 1, 3, none⟩ = some (.int .i64 e4) := blk_cell (L.out.get 4 rfl) 3
  have qlt : w.heap.size + 1 < w9.heap.size := L.out.lt 4 rfl
  have L' : Hid (HL w (w9.alloc (Obj.cells #[.int .i64 0, .int .i64 0, .int .i64 0, .int .i64 0] 28)) [(w9.heap.size, Obj.cells #[.int .i64 0, .int .i64 0, .int .i64 0, .int .i64 0] 28), (w8.heap.size, Obj.cells #[.int .i64 0, .int .i64 0, .int .i64 0, .int .i64 0] 28), (w7.heap.size, Obj.cells #[.int .i64 e1, .int .i64 e2, .int .i64 e3, .int .i64 e4] 28), (b2, tabO true t2), (b, tabO true (forgetT t2)), (w.heap.size + 1, Obj.cells #[.int .i64 e1, .int .i64 e2, .int .i64 e3, .int .i64 e4] 28), (w.heap.size, Obj.cells #[.int .i64 d, .int .i64 s] 38)]) := L.out.alloc _
  clear L
  have L := L'
  clear L'
  go_wp2_with fail
  refine (Last_w (L.out.get 4 rfl) L3.out P6.out).mono ?_
  rintro e w10 ⟨rfl, hb⟩
  have L' : Hid (HL w w10 [(w9.heap.size, Obj.cells #[.int .i64 0, .int .i64 0, .int .i64 0, .int .i64 0] 28), (w8.heap.size, Obj.cells #[.int .i64 0, .int .i64 0, .int .i64 0, .int .i64 0] 28), (w7.heap.size, Obj.cells #[.int .i64 e1, .int .i64 e2, .int .i64 e3, .int .i64 e4] 28), (b2, tabO true t2), (b, tabO true (forgetT t2)), (w.heap.size + 1, Obj.cells #[.int .i64 e1, .int .i64 e2, .int .i64 e3, .int .i64 e4] 28), (w.heap.size, Obj.cells #[.int .i64 d, .int .i64 s] 38)]) := L.out.new hb
  clear L
  have L := L'
  clear L'
  clear hb
  go_wp2_with fail
  refine (lives_any _).mono ?_
  rintro e w30 ⟨rfl, hb⟩
  have B : Hid (Below w.heap.size w w30) := (L.out.new hb).below
  clear hb
  go_wp2
  go_ret
  exact ⟨rfl, B.out⟩
theorem forgets_out {w : World} {c d s e1 e2 e3 e4 : Int} (hg : c < 1 ∨ 4 < c ∨ d < 1 ∨ s ≤ d) :
    Calls Try.prog 5 #[.int .i64 c, .agg #[.int .i64 d, .int .i64 s], .agg #[.int .i64 e1, .int .i64 e2, .int .i64 e3, .int .i64 e4]] w fun e w' => e = .returned (.bool true) ∧ Below w.heap.size w w' := by
  by_cases c1 : c < 1
  · clear hg
    go_enter Try.func5, Try.ntmps5
    go_wp2_with fail
    go_quiet (fail)
    go_wp2_with fail
    generalize hW : World.drewN _ nq = w0
    have L : Hid (HL w w0 [(w.heap.size + 1, Obj.cells #[.int .i64 e1, .int .i64 e2, .int .i64 e3, .int .i64 e4] 28), (w.heap.size, Obj.cells #[.int .i64 d, .int .i64 s] 38)]) := by
      rw [← hW]
      have h1 := ((HL.nil w).alloc (Obj.cells #[.int .i64 d, .int .i64 s] 38)).alloc (Obj.cells #[.int .i64 e1, .int .i64 e2, .int .i64 e3, .int .i64 e4] 28)
      have h2 := h1.drewN nq
      exact Lib.hid (by simpa using h2)
    clear hW
    refine (Make_any).mono ?_
    rintro e w2 ⟨rfl, ha, hb⟩
    have L' : Hid (HL w w2 [(w0.heap.size, tabO true tab0), (w.heap.size + 1, Obj.cells #[.int .i64 e1, .int .i64 e2, .int .i64 e3, .int .i64 e4] 28), (w.heap.size, Obj.cells #[.int .i64 d, .int .i64 s] 38)]) := L.out.made hb ha
    clear L
    have L := L'
    clear L'
    clear hb ha
    generalize w0.heap.size = b at L ⊢
    go_wp2_with fail
    refine (lives_any _).mono ?_
    rintro e w30 ⟨rfl, hb⟩
    have B : Hid (Below w.heap.size w w30) := (L.out.new hb).below
    clear hb
    go_wp2
    go_ret
    exact ⟨rfl, B.out⟩
  · by_cases c2 : 4 < c
    · clear hg
      go_enter Try.func5, Try.ntmps5
      go_wp2_with fail
      go_quiet (fail)
      go_wp2_with fail
      generalize hW : World.drewN _ nq = w0
      have L : Hid (HL w w0 [(w.heap.size + 1, Obj.cells #[.int .i64 e1, .int .i64 e2, .int .i64 e3, .int .i64 e4] 28), (w.heap.size, Obj.cells #[.int .i64 d, .int .i64 s] 38)]) := by
        rw [← hW]
        have h1 := ((HL.nil w).alloc (Obj.cells #[.int .i64 d, .int .i64 s] 38)).alloc (Obj.cells #[.int .i64 e1, .int .i64 e2, .int .i64 e3, .int .i64 e4] 28)
        have h2 := h1.drewN nq
        exact Lib.hid (by simpa using h2)
      clear hW
      refine (Make_any).mono ?_
      rintro e w2 ⟨rfl, ha, hb⟩
      have L' : Hid (HL w w2 [(w0.heap.size, tabO true tab0), (w.heap.size + 1, Obj.cells #[.int .i64 e1, .int .i64 e2, .int .i64 e3, .int .i64 e4] 28), (w.heap.size, Obj.cells #[.int .i64 d, .int .i64 s] 38)]) := L.out.made hb ha
      clear L
      have L := L'
      clear L'
      clear hb ha
      generalize w0.heap.size = b at L ⊢
      go_wp2_with fail
      refine (lives_any _).mono ?_
      rintro e w30 ⟨rfl, hb⟩
      have B : Hid (Below w.heap.size w w30) := (L.out.new hb).below
      clear hb
      go_wp2
      go_ret
      exact ⟨rfl, B.out⟩
    · by_cases c3 : d < 1
      · clear hg
        go_enter Try.func5, Try.ntmps5
        go_wp2_with fail
        go_quiet (fail)
        go_wp2_with fail
        generalize hW : World.drewN _ nq = w0
        have L : Hid (HL w w0 [(w.heap.size + 1, Obj.cells #[.int .i64 e1, .int .i64 e2, .int .i64 e3, .int .i64 e4] 28), (w.heap.size, Obj.cells #[.int .i64 d, .int .i64 s] 38)]) := by
          rw [← hW]
          have h1 := ((HL.nil w).alloc (Obj.cells #[.int .i64 d, .int .i64 s] 38)).alloc (Obj.cells #[.int .i64 e1, .int .i64 e2, .int .i64 e3, .int .i64 e4] 28)
          have h2 := h1.drewN nq
          exact Lib.hid (by simpa using h2)
        clear hW
        refine (Make_any).mono ?_
        rintro e w2 ⟨rfl, ha, hb⟩
        have L' : Hid (HL w w2 [(w0.heap.size, tabO true tab0), (w.heap.size + 1, Obj.cells #[.int .i64 e1, .int .i64 e2, .int .i64 e3, .int .i64 e4] 28), (w.heap.size, Obj.cells #[.int .i64 d, .int .i64 s] 38)]) := L.out.made hb ha
        clear L
        have L := L'
        clear L'
        clear hb ha
        generalize w0.heap.size = b at L ⊢
        go_wp2_with fail
        refine (lives_any _).mono ?_
        rintro e w30 ⟨rfl, hb⟩
        have B : Hid (Below w.heap.size w w30) := (L.out.new hb).below
        clear hb
        go_wp2
        go_ret
        exact ⟨rfl, B.out⟩
      · have c4 : s ≤ d := by omega
        clear hg
        go_enter Try.func5, Try.ntmps5
        go_wp2_with fail
        go_quiet (fail)
        go_wp2_with fail
        generalize hW : World.drewN _ nq = w0
        have L : Hid (HL w w0 [(w.heap.size + 1, Obj.cells #[.int .i64 e1, .int .i64 e2, .int .i64 e3, .int .i64 e4] 28), (w.heap.size, Obj.cells #[.int .i64 d, .int .i64 s] 38)]) := by
          rw [← hW]
          have h1 := ((HL.nil w).alloc (Obj.cells #[.int .i64 d, .int .i64 s] 38)).alloc (Obj.cells #[.int .i64 e1, .int .i64 e2, .int .i64 e3, .int .i64 e4] 28)
          have h2 := h1.drewN nq
          exact Lib.hid (by simpa using h2)
        clear hW
        refine (Make_any).mono ?_
        rintro e w2 ⟨rfl, ha, hb⟩
        have L' : Hid (HL w w2 [(w0.heap.size, tabO true tab0), (w.heap.size + 1, Obj.cells #[.int .i64 e1, .int .i64 e2, .int .i64 e3, .int .i64 e4] 28), (w.heap.size, Obj.cells #[.int .i64 d, .int .i64 s] 38)]) := L.out.made hb ha
        clear L
        have L := L'
        clear L'
        clear hb ha
        generalize w0.heap.size = b at L ⊢
        go_wp2_with fail
        refine (lives_any _).mono ?_
        rintro e w30 ⟨rfl, hb⟩
        have B : Hid (Below w.heap.size w w30) := (L.out.new hb).below
        clear hb
        go_wp2
        go_ret
        exact ⟨rfl, B.out⟩
theorem tableForgets_law (w : World) (c : Int) (wc : (Lit.int .i64 c).wf = true) (cs : Array Value) (h : Shape.okAll w [.int .i64, .int .i64] cs.toList) (ds : Array Value) (h' : Shape.okAll w [.int .i64, .int .i64, .int .i64, .int .i64] ds.toList) :
    Calls Try.prog 5 #[.int .i64 c, .agg cs, .agg ds] w fun e w' => e = .returned (.bool true) ∧ Below w.heap.size w w' := by
  obtain ⟨d, s, rfl⟩ := agg_two h
  obtain ⟨e1, e2, e3, e4, rfl⟩ := agg_four h'
  by_cases hg : c < 1 ∨ 4 < c ∨ d < 1 ∨ s ≤ d
  · exact forgets_out hg
  · exact forgets_in (by omega) (by omega) (by omega) (by omega)
end Go.Proofs.Ytbolmekdbeincaa.M
