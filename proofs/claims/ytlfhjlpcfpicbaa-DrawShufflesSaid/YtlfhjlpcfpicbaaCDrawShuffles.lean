/- DrawShuffles: what the law computes. -/
import Derived.Test.YtlfhjlpcfpicbaaSwap
import Derived.Test.YtlfhjlpcfpicbaaOpen
namespace Go.Proofs.Ytlfhjlpcfpicbaa.M
open Go Go.RowKit
set_option linter.unusedVariables false
theorem count_swapL (l : List Int) (i k : Nat) (hi : i < l.length) (hk : k < l.length) (x : Int) : (swapL l i k).count x = l.count x := by
  unfold swapL
  have h1 : l.getD k 0 = l[k] := by simp [List.getD, hk]
  have h2 : l.getD i 0 = l[i] := by simp [List.getD, hi]
  rw [h1, h2, List.count_set (by simpa using hk), List.count_set hi]
  have c1 : (l[i] == x) = true → 1 ≤ l.count x := fun h => by
    have : l[i] = x := by simpa using h
    rw [← this]; exact List.count_pos_iff.2 (List.getElem_mem hi)
  have c2 : (l[k] == x) = true → 1 ≤ l.count x := fun h => by
    have : l[k] = x := by simpa using h
    rw [← this]; exact List.count_pos_iff.2 (List.getElem_mem hk)
  by_cases e : i = k
  · subst e
    by_cases a : (l[i] == x) = true <;> simp [a] <;> (try have := c1 a) <;> omega
  · rw [List.getElem_set_ne e]
    by_cases a : (l[i] == x) = true <;> by_cases b : (l[k] == x) = true <;> simp [a, b] <;> (try have := c1 a) <;> (try have := c2 b) <;> omega
theorem count_shufL (key : Int) (x : Int) : ∀ (i : Nat) (n : Int) (l : List Int), i < l.length ∨ i = 0 → (shufL key i n l).count x = l.count x
  | 0, _, _, _ => rfl
  | i + 1, n, l, h => by
    have h' : i + 1 < l.length := by omega
    have hp := placeN_lt key n (i + 1)
    rw [shufL, count_shufL key x i (n + 1) _ (by rw [swapL_len]; omega), count_swapL _ _ _ h' (by omega)]
/-- an argument that is a slice of whole numbers reads as its first numbers -/
theorem reads_row {w : World} {a : Option Addr} {len cap : Nat} {zs : List Int} (h : IntRow .i64 w a len cap zs) : Reads w 1 (.slice a len cap) len ((zs.take len).map (Value.int .i64)) := by
  rcases h with ⟨rfl, rfl, rfl, rfl⟩ | ⟨x, rfl, hl, hm, hz, hc, hw⟩
  · exact ⟨by simp, none, 0, rfl, fun _ => ⟨rfl, rfl⟩, fun h => by omega⟩
  · refine ⟨by simp; omega, _, cap, rfl, fun h => (by cases h), fun hn => ?_⟩
    have hs : x.spot = none := by
      have := hc 0 (by omega)
      cases hx : x.spot with
      | none => rfl
      | some t =>
        simp [World.cell?, Addr.add, hx] at this
        split at this <;> simp_all
    obtain ⟨b, off, sp⟩ := x
    simp at hs
    subst hs
    refine ⟨b, off, rfl, fun j hj => ?_⟩
    have := hc j (by omega)
    rw [Addr.add_lit] at this
    rw [this]
    have h2 : j < zs.length := by omega
    have h3 : j < len := by omega
    simp [h3, h2]
theorem take_count (l : List Int) (j : Nat) (h : j < l.length) (x : Int) : (l.take (j + 1)).count x = (l.take j).count x + if l.getD j 0 = x then 1 else 0 := by
  rw [List.take_succ_eq_append_getElem h, List.count_append]
  have : l.getD j 0 = l[j] := by simp [List.getD, h]
  rw [this]
  by_cases e : l[j] = x <;> simp [e]
set_option maxHeartbeats 4000000 in
set_option maxRecDepth 100000 in
theorem shuffles_in {w : World} {s : Int} {vx : Value} {len : Nat} {l : List Int} (hr : Reads w 1 vx len (l.map (Value.int .i64))) (hlen : len ≤ 200) :
    Calls Try.prog 7 #[.int .u64 s, vx] w fun e w' => e = .returned (.bool true) ∧ Below w.heap.size w w' := by
  obtain ⟨i0, hi, hz0, hz1, hz2⟩ := info_parts info_int
  have HR := Lib.hid hr
  obtain ⟨hl, ao, cap, rfl, _, _⟩ := hr
  have EL : Hid (l.length = len) := show _ = _ by simpa using hl
  clear hl
  have O0 : Hid ((w.alloc (.cells #[] 3)).ownsRow w.heap.size 3 1 (.slice (some ⟨w.heap.size, 0, none⟩) 0 0) 0 []) := World.ownsRow_made w #[] 0 (Nat.le_refl _) (by unfold maxLen; omega) (by simp)
  have R0 : Hid (Reads (w.alloc (.cells #[] 3)) 1 (.slice ao len cap) len (l.map (Value.int .i64))) := HR.out.below ((Below.refl _ _).alloc (Nat.le_refl _) _) (Nat.le_refl _)
  go_enter Try.func7, Try.ntmps7
  go_wp2_with (at_builtin; refine app_own rfl _ _ 30 rfl w.heap.size 3 i0 (.int .i64 0) 1 8 Try.underlying30 hi hz0 hz1 hz2 rfl (by decide) R0.out (ints_one l) O0.out rfl rfl (by omega) (by omega) (by simp) ?_)
  intro v0 w1 ho1 hg1
  have O1 := Lib.hid (reads_own ho1)
  have B1 : Hid (Below w.heap.size w w1) := Below.grown ((Below.refl _ _).alloc (Nat.le_refl _) _) hg1 (by simp) (fun k e => by simp [Value.ownBlock] at e; omega)
  clear ho1 hg1 O0 R0
  go_wp2_with fail
  refine (new_any _ _).mono ?_
  rintro e w2 ⟨rfl, a2, b2⟩
  have A2 := Lib.hid a2
  have B2 := Lib.hid b2
  clear a2 b2
  have R2 : Hid (Reads w2 1 (.slice ao len cap) len (l.map (Value.int .i64))) := HR.out.below (B1.out.trans (B2.out.mono B1.out.size)) (Nat.le_refl _)
  generalize hL : shufL (keyI s) (len - 1) 0 l = L
  have EL' := Lib.hid hL
  clear hL
  have hj0 : (0 : Int) ≤ 0 := by omega
  have hj1 : (0 : Int) + len < 1000000 := by omega
  go_wp2_with fail
  refine (shuffle_any A2.out R2.out hj0 hj1).mono ?_
  rintro e w3 ⟨v1, rfl, ho3, _, hu3⟩
  rw [EL'.out] at ho3
  have O3 := Lib.hid (reads_own ho3)
  have B3 : Hid (Below w1.heap.size w1 w3) := B2.out.trans (hu3.below (fun k e => by omega) B2.out.size)
  clear ho3 hu3 R2 A2 B2
  go_wp2_with fail
  refine (new_any _ _).mono ?_
  rintro e w4 ⟨rfl, a4, b4⟩
  have A4 := Lib.hid a4
  have B4 := Lib.hid b4
  clear a4 b4
  have R4 : Hid (Reads w4 1 (.slice ao len cap) len (l.map (Value.int .i64))) := HR.out.below (B1.out.trans ((B3.out.trans (B4.out.mono B3.out.size)).mono B1.out.size)) (Nat.le_refl _)
  go_wp2_with fail
  refine (shuffle_any A4.out R4.out hj0 hj1).mono ?_
  rintro e w5 ⟨v2, rfl, ho5, _, hu5⟩
  rw [EL'.out] at ho5
  have B5 : Hid (Below w3.heap.size w3 w5) := B4.out.trans (hu5.below (fun k e => by omega) B4.out.size)
  have B15 : Hid (Below w1.heap.size w1 w5) := B3.out.trans (B5.out.mono B3.out.size)
  have B05 : Hid (Below w.heap.size w w5) := B1.out.trans (B15.out.mono B1.out.size)
  have RB := Lib.hid (reads_own ho5)
  have RA : Hid (Reads w5 1 v1 len (L.map (Value.int .i64))) := O3.out.below B5.out (Nat.le_refl _)
  have RW : Hid (Reads w5 1 v0 len (l.map (Value.int .i64))) := O1.out.below B15.out (Nat.le_refl _)
  have RL : Hid (Reads w5 1 (.slice ao len cap) len (l.map (Value.int .i64))) := HR.out.below B05.out (Nat.le_refl _)
  clear ho5 hu5 R4 A4 B4 B5 B15 B3 B1 O1 O3
  have hj2 : len < 1000000000 := by omega
  go_wp2_with fail
  refine (ints_any RA.out RB.out hj2).mono ?_
  rintro e w6 ⟨rfl, q, hq⟩
  have T : Hid (Reads w6 1 v1 len (L.map (Value.int .i64)) ∧ Reads w6 1 v0 len (l.map (Value.int .i64)) ∧ Reads w6 1 (.slice ao len cap) len (l.map (Value.int .i64)) ∧ Below w.heap.size w w6) := by
    rw [hq]
    exact ⟨RA.out, RW.out, RL.out, ⟨B05.out.os, B05.out.tape, B05.out.output, B05.out.size, B05.out.block⟩⟩
  clear hq RA RB RW RL B05
  go_wp2_with fail
  refine (ints_any T.out.2.2.1 T.out.2.1 hj2).mono ?_
  rintro e w7 ⟨rfl, q2, hq⟩
  have S : Hid (Reads w7 1 v1 len (L.map (Value.int .i64)) ∧ Reads w7 1 (.slice ao len cap) len (l.map (Value.int .i64)) ∧ Below w.heap.size w w7) := by
    have t := T.out
    rw [hq]
    exact ⟨t.1, t.2.2.1, ⟨t.2.2.2.os, t.2.2.2.tape, t.2.2.2.output, t.2.2.2.size, t.2.2.2.block⟩⟩
  clear hq T
  obtain ⟨hl, ao1, cap1, rfl, _, _⟩ := S.out.1
  have EA : Hid (L.length = len) := show _ = _ by simpa using hl
  clear hl
  go_wp2_with fail
  go_loop [47] (fun i => ∃ j : Nat, j ≤ len ∧ i = .int .i64 j) (fun i => len - (intOf i).toNat)
  case atStart => exact ⟨0, by omega, rfl⟩
  case round =>
    obtain ⟨j, hj, rfl⟩ := hrel
    by_cases hjn : j < len
    · obtain ⟨b, off, cx, e1, _, c1⟩ := S.out.2.1.at (by omega) (by omega)
      obtain ⟨b', off', cy, e2, _, c2⟩ := S.out.1.at (by omega) (by omega)
      cases e1
      cases e2
      have d1 : ∀ i, i < len → w7.cell? ⟨b, off + i, none⟩ = some (.int .i64 (l.getD i 0)) := fun i hi => by rw [c1 i (by omega)]; simp [List.getD, EL.out, hi]
      have d2 : ∀ i, i < len → w7.cell? ⟨b', off' + i, none⟩ = some (.int .i64 (L.getD i 0)) := fun i hi => by rw [c2 i (by omega)]; simp [List.getD, EA.out, hi]
      have D1 := Lib.hid d1
      have D2 := Lib.hid d2
      clear c1 c2 d1 d2
      have hx := D1.out j hjn
      have EC : Hid (∀ y, L.count y = l.count y) := fun y => by rw [← EL'.out]; exact count_shufL _ _ _ _ _ (by have := EL.out; omega)
      generalize l.getD j 0 = x at hx
      go_wp2_with fail
      go_loop [10, 11, 53] (fun n m i => ∃ t : Nat, t ≤ len ∧ i = .int .i64 t ∧ n = .int .i64 ((l.take t).count x : Nat) ∧ m = .int .i64 ((L.take t).count x : Nat)) (fun _ _ i => len - (intOf i).toNat)
      case atStart => exact ⟨0, by omega, rfl, by simp, by simp⟩
      case round =>
        obtain ⟨t, ht, rfl, rfl, rfl⟩ := hrel
        by_cases htn : t < len
        · have h1 := D1.out t htn
          have h2 := D2.out t htn
          have k1 := Lib.hid (take_count l t (by have := EL.out; omega) x)
          have k2 := Lib.hid (take_count L t (by have := EA.out; omega) x)
          have m1 : (l.take t).count x ≤ 200 := Nat.le_trans List.count_le_length (by simp; omega)
          have m2 : (L.take t).count x ≤ 200 := Nat.le_trans List.count_le_length (by simp; omega)
          generalize l.getD t 0 = y at h1 k1
          generalize L.getD t 0 = z at h2 k2
          by_cases hy : y = x
          · have by1 : (y == x) = true := by simpa using hy
            have K1 : Hid ((l.take (t + 1)).count x = (l.take t).count x + 1) := by have := k1.out; rw [if_pos hy] at this; exact this
            clear k1 hy
            by_cases hz : z = x
            · have bz1 : (z == x) = true := by simpa using hz
              have K2 : Hid ((L.take (t + 1)).count x = (L.take t).count x + 1) := by have := k2.out; rw [if_pos hz] at this; exact this
              clear k2 hz
              go_wp2
              go_round
              case rel => exact ⟨t + 1, by omega, by go_num, by rw [K1.out]; go_num, by rw [K2.out]; go_num⟩
              case measure => simp [intOf]; omega
            · have bz1 : (z == x) = false := by simpa using hz
              have K2 : Hid ((L.take (t + 1)).count x = (L.take t).count x) := by have := k2.out; rw [if_neg hz] at this; exact this
              clear k2 hz
              go_wp2
              go_round
              case rel => exact ⟨t + 1, by omega, by go_num, by rw [K1.out]; go_num, by rw [K2.out]⟩
              case measure => simp [intOf]; omega
          · have by1 : (y == x) = false := by simpa using hy
            have K1 : Hid ((l.take (t + 1)).count x = (l.take t).count x) := by have := k1.out; rw [if_neg hy] at this; exact this
            clear k1 hy
            by_cases hz : z = x
            · have bz1 : (z == x) = true := by simpa using hz
              have K2 : Hid ((L.take (t + 1)).count x = (L.take t).count x + 1) := by have := k2.out; rw [if_pos hz] at this; exact this
              clear k2 hz
              go_wp2
              go_round
              case rel => exact ⟨t + 1, by omega, by go_num, by rw [K1.out], by rw [K2.out]; go_num⟩
              case measure => simp [intOf]; omega
            · have bz1 : (z == x) = false := by simpa using hz
              have K2 : Hid ((L.take (t + 1)).count x = (L.take t).count x) := by have := k2.out; rw [if_neg hz] at this; exact this
              clear k2 hz
              go_wp2
              go_round
              case rel => exact ⟨t + 1, by omega, by go_num, by rw [K1.out], by rw [K2.out]⟩
              case measure => simp [intOf]; omega
        · obtain rfl : t = len := by omega
          have K : Hid ((l.take t).count x = (L.take t).count x) := by
            show _ = _
            rw [List.take_of_length_le (by have := EL.out; omega), List.take_of_length_le (by have := EA.out; omega)]
            exact (EC.out x).symm
          rw [K.out]
          go_wp2
          go_round
          case rel => exact ⟨j + 1, by omega, by go_num⟩
          case measure => simp [intOf]; omega
    · go_wp2_with (go_at_call 13; ((with_reducible refine (lives_any _).mono ?_); rintro e w8 ⟨rfl, hb⟩; have B : Hid (Below w.heap.size w w8) := S.out.2.2.trans (hb.mono S.out.2.2.size); clear hb))
      go_ret
      exact ⟨rfl, B.out⟩
theorem shuffles_out {w : World} {s : Int} {ao : Option Addr} {len cap : Nat} (hlen : 200 < len) :
    Calls Try.prog 7 #[.int .u64 s, .slice ao len cap] w fun e w' => e = .returned (.bool true) ∧ Below w.heap.size w w' := by
  go_enter Try.func7, Try.ntmps7
  go_wp2_with (go_at_call 13; ((with_reducible refine (lives_any _).mono ?_); rintro e w3 ⟨rfl, hb⟩; have B := Lib.hid hb; clear hb))
  go_ret
  exact ⟨rfl, B.out⟩
theorem drawShuffles_law (w : World) (s : Int) (ws : (Lit.int .u64 s).wf = true) (a : Option Addr) (len cap : Nat) (zs : List Int) (h : IntRow .i64 w a len cap zs) (y : len * 8 ≤ 140737488351232) :
    Calls Try.prog 7 #[.int .u64 s, .slice a len cap] w fun e w' => e = .returned (.bool true) ∧ Below w.heap.size w w' := by
  by_cases hl : len ≤ 200
  · exact shuffles_in (reads_row h) hl
  · exact shuffles_out (by omega)
end Go.Proofs.Ytlfhjlpcfpicbaa.M
