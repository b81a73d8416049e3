/- DrawDraws: what the law computes. -/
import Derived.Test.YtlfhjlpcfpicbaaSwap
import Derived.Test.YtlfhjlpcfpicbaaOpen
import Derived.Deep.RegionWith
import Derived.Deep.RegionHeld3
namespace Go.Proofs.Ytlfhjlpcfpicbaa.M
open Go Go.RowKit
set_option linter.unusedVariables false
/-- an argument that is a slice of whole numbers reads as its first numbers -/
theorem reads_row {w : World} {a : Option Addr} {len cap : Nat} {zs : List Int} (h : IntRow .i64 w a len cap zs) : Reads w 1 (.slice a len cap) len ((zs.take len).map (Value.int .i64)) := by
  rcases h with ⟨rfl, rfl, rfl, rfl⟩ | ⟨x, rfl, hl, hm, hz, hc, hw⟩
  · exact ⟨by simp, none, 0, rfl, fun _ => ⟨rfl, rfl⟩, fun h => by omega⟩
  · refine ⟨by simp; omega, _, cap, rfl, fun h => (by cases h), fun hn => ?_⟩
    have hs : x.spot = none := by
      have := hc 0 (by omega)
      cases hx : x.spot with
      | none => rfl
      | some t =>
        simp [World.cell?, Addr.add, hx] at this
        split at this <;> simp_all
    obtain ⟨b, off, sp⟩ := x
    simp at hs
    subst hs
    refine ⟨b, off, rfl, fun j hj => ?_⟩
    have := hc j (by omega)
    rw [Addr.add_lit] at this
    rw [this]
    have h2 : j < zs.length := by omega
    have h3 : j < len := by omega
    simp [h3, h2]
theorem nonce_v {b : Nat} {k n : Int} {w : World} (h : w.heap[b]? = some (drawO k true n)) (h0 : 0 ≤ n) (h1 : n < 1000000) :
    Calls Try.prog 15 #[.pointer (some ⟨b, 0, none⟩)] w fun e w' => ∃ x, e = .returned (.int .i64 x) ∧ Hid (x = nonI k n) ∧ Upd w w' b (drawO k true (n + 1)) :=
  (nonce_is h h0 h1).mono fun _ _ ⟨he, hu⟩ => ⟨_, he, rfl, hu⟩
theorem rnonce_v {b : Nat} {k n : Int} {w : World} (h : w.heap[b]? = some (rdrawO k n)) (h0 : 0 ≤ n) (h1 : n < 1000000) :
    Calls Try.prog 21 #[.pointer (some ⟨b, 0, none⟩)] w fun e w' => ∃ x, e = .returned (.int .i64 x) ∧ Hid (x = nonI k n) ∧ Upd w w' b (rdrawO k (n + 1)) :=
  (rnonce_is h h0 h1).mono fun _ _ ⟨he, hu⟩ => ⟨_, he, rfl, hu⟩
theorem below_v {b : Nat} {k n m : Int} {w : World} (h : w.heap[b]? = some (drawO k true n)) (h0 : 0 ≤ n) (h1 : n < 1000000) (hm : 1 ≤ m) :
    Calls Try.prog 16 #[.pointer (some ⟨b, 0, none⟩), .int .i64 m] w fun e w' => ∃ x, e = .returned (.int .i64 x) ∧ Hid (x = (nonI k n - 1) % m) ∧ Upd w w' b (drawO k true (n + 1)) :=
  (below_is h h0 h1 hm).mono fun _ _ ⟨he, hu⟩ => ⟨_, he, rfl, hu⟩
theorem rbelow_v {b : Nat} {k n m : Int} {w : World} (h : w.heap[b]? = some (rdrawO k n)) (h0 : 0 ≤ n) (h1 : n < 1000000) (hm : 1 ≤ m) :
    Calls Try.prog 22 #[.pointer (some ⟨b, 0, none⟩), .int .i64 m] w fun e w' => ∃ x, e = .returned (.int .i64 x) ∧ Hid (x = (nonI k n - 1) % m) ∧ Upd w w' b (rdrawO k (n + 1)) :=
  (rbelow_is h h0 h1 hm).mono fun _ _ ⟨he, hu⟩ => ⟨_, he, rfl, hu⟩
/-- what DrawDraws' loop hands on: both Draws -/
structure Both (k : Int) (W w : World) (b : Nat) (n m : Int) : Prop where
  below : Below W.heap.size W w
  lt : W.heap.size < b
  d : w.heap[W.heap.size]? = some (drawO k true n)
  r : w.heap[b]? = some (rdrawO k m)
theorem Both.upd {k : Int} {W w w' : World} {b : Nat} {n m n' : Int} (h : Both k W w b n m) (u : Upd w w' W.heap.size (drawO k true n')) : Both k W w' b n' m :=
  ⟨h.below.trans (u.below (Nat.le_refl _)), h.lt, u.at_, u.keep h.r (by have := h.lt; omega)⟩
theorem Both.updr {k : Int} {W w w' : World} {b : Nat} {n m m' : Int} (h : Both k W w b n m) (u : Upd w w' b (rdrawO k m')) : Both k W w' b n m' :=
  ⟨h.below.trans (u.below (Nat.le_of_lt h.lt)), h.lt, u.keep h.d (by have := h.lt; omega), u.at_⟩
theorem Both.drewN {k : Int} {W w : World} {b : Nat} {n m : Int} (h : Both k W w b n m) (q : Nat) : Both k W (w.drewN q) b n m := ⟨⟨h.1.os, h.1.tape, h.1.output, h.1.size, h.1.block⟩, h.2, h.3, h.4⟩
theorem Both.only {k : Int} {W w w' : World} {b : Nat} {n m n' : Int} (h : Both k W w b n m) (u : Only (· = W.heap.size) w w') (hd : w'.heap[W.heap.size]? = some (drawO k true n')) : Both k W w' b n' m :=
  ⟨h.below.trans (u.below (fun k e => by omega) h.below.size), h.lt, hd, u.keep h.r (by have := h.lt; omega)⟩
theorem Both.onlyr {k : Int} {W w w' : World} {b : Nat} {n m m' : Int} (h : Both k W w b n m) (u : Only (· = b) w w') (hd : w'.heap[b]? = some (rdrawO k m')) : Both k W w' b n m' :=
  ⟨h.below.trans (u.below (fun k e => by have := h.lt; omega) h.below.size), h.lt, u.keep h.d (by have := h.lt; omega), hd⟩
set_option maxRecDepth 100000 in
set_option maxHeartbeats 4000000 in
theorem draws_in {w : World} {s : Int} {vx : Value} {len : Nat} {l : List Int} (hr : Reads w 1 vx len (l.map (Value.int .i64))) (hlen : len ≤ 300) :
    Calls Try.prog 8 #[.int .u64 s, vx] w fun e w' => e = .returned (.bool true) ∧ Below w.heap.size w w' := by
  have HR := Lib.hid hr
  obtain ⟨hl, ao, cap, rfl, _, _⟩ := hr
  have EL : Hid (l.length = len) := show _ = _ by simpa using hl
  clear hl
  go_enter Try.func8, Try.ntmps8
  go_wp2_with fail
  refine (new_any _ _).mono ?_
  rintro e w1 ⟨rfl, a1, b1⟩
  have A1 := Lib.hid a1
  have B1 := Lib.hid b1
  clear a1 b1
  go_wp2_with fail
  refine (rnew_any _ _).mono ?_
  rintro e w2 ⟨rfl, a2, b2⟩
  have F : Hid (Both (keyI s) w w2 w1.heap.size 0 0) := ⟨B1.out.trans (b2.mono B1.out.size), blk_lt A1.out, keep_below b2 A1.out (blk_lt A1.out), a2⟩
  clear a2 b2 A1 B1
  generalize w1.heap.size = b at F ⊢
  generalize keyI s = key at F
  go_wp2_with fail
  go_loopw [19] (fun i wr => ∃ j n : Nat, j ≤ len ∧ n ≤ j ∧ i = .int .i64 j ∧ Hid (Both key w wr b n n)) (fun i _ => len - (intOf i).toNat)
  case atStart => exact ⟨0, 0, by omega, by omega, rfl, F⟩
  case round =>
    clear F
    obtain ⟨j, n, hj, hn, rfl, H⟩ := hrel
    by_cases hjn : j < len
    · obtain ⟨b', off, cx, e1, _, c1⟩ := (HR.out.below H.out.below (Nat.le_refl _)).at (by omega) (by omega)
      cases e1
      have d1 : wr.cell? ⟨b', off + j, none⟩ = some (.int .i64 (l.getD j 0)) := by rw [c1 j (by omega)]; simp [List.getD, EL.out, hjn]
      clear c1
      generalize l.getD j 0 = x at d1
      by_cases hx : x = 0
      · subst hx
        go_wp2_with fail
        refine (nonce_v H.out.d (by omega) (by omega)).mono ?_
        rintro e w2 ⟨x1, rfl, hx1, u⟩
        have F := Lib.hid (H.out.upd u)
        clear u H
        go_wp2_with fail
        refine (rnonce_v F.out.r (by omega) (by omega)).mono ?_
        rintro e w3 ⟨x2, rfl, hx2, u⟩
        obtain rfl : x2 = x1 := hx2.out.trans hx1.out.symm
        have G := Lib.hid (F.out.updr u)
        clear u F hx1 hx2
        have cr : w3.cell? ⟨b, 1, none⟩ = some (.int .i64 ((n : Int) + 1)) := blk_cell G.out.r 1
        have CD := Lib.hid G.out.d
        go_wp2_with fail
        go_quiet ((go_at_call 17; exact q_same (count_is (by exact CD.out))))
        go_wp2
        go_roundw
        case rel => exact ⟨j + 1, n + 1, by omega, by omega, by go_num, G.out.drewN _⟩
        case measure => simp [intOf]; omega
      · have hx0 : (x == 0) = false := by simpa using hx
        clear hx
        by_cases hx1 : x < 1
        · have CD := Lib.hid H.out.d
          have cr : wr.cell? ⟨b, 1, none⟩ = some (.int .i64 (n : Int)) := blk_cell H.out.r 1
          go_wp2_with (first
            | (go_at_call 16; ((with_reducible refine (below_none hx1).mono ?_); rintro e w2 ⟨rfl, rfl⟩))
            | (go_at_call 22; ((with_reducible refine (rbelow_none hx1).mono ?_); rintro e w2 ⟨rfl, rfl⟩)))
          go_quiet ((go_at_call 17; exact q_same (count_is (by exact CD.out))))
          go_wp2
          go_roundw
          case rel => exact ⟨j + 1, n, by omega, by omega, by go_num, H.out.drewN _⟩
          case measure => simp [intOf]; omega
        · go_wp2_with fail
          refine (below_v H.out.d (by omega) (by omega) (by omega)).mono ?_
          rintro e w2 ⟨x1, rfl, hx1, u⟩
          have F := Lib.hid (H.out.upd u)
          clear u H
          go_wp2_with fail
          refine (rbelow_v F.out.r (by omega) (by omega) (by omega)).mono ?_
          rintro e w3 ⟨x2, rfl, hx2, u⟩
          obtain rfl : x2 = x1 := hx2.out.trans hx1.out.symm
          have G := Lib.hid (F.out.updr u)
          clear u F hx1 hx2
          have cr : w3.cell? ⟨b, 1, none⟩ = some (.int .i64 ((n : Int) + 1)) := blk_cell G.out.r 1
          have CD := Lib.hid G.out.d
          go_wp2_with fail
          go_quiet ((go_at_call 17; exact q_same (count_is (by exact CD.out))))
          go_wp2
          go_roundw
          case rel => exact ⟨j + 1, n + 1, by omega, by omega, by go_num, G.out.drewN _⟩
          case measure => simp [intOf]; omega
    · obtain rfl : j = len := by omega
      have DD : Hid (Both key w wr.drew b n n) := ⟨⟨H.out.1.os, H.out.1.tape, H.out.1.output, H.out.1.size, H.out.1.block⟩, H.out.2, H.out.3, H.out.4⟩
      have RD : Hid (Reads wr.drew 1 (.slice ao j cap) j (l.map (Value.int .i64))) := HR.out.below DD.out.below (Nat.le_refl _)
      clear H
      generalize hL : shufL key (j - 1) n l = L
      have EL' := Lib.hid hL
      clear hL
      have hj0 : 0 ≤ (n : Int) := by omega
      have hj1 : (n : Int) + j < 1000000 := by omega
      have hj2 : j < 1000000000 := by omega
      go_wp2_with fail
      go_region_with (first
        | (go_at_call 18; ((with_reducible refine (shuffle_any DD.out.d RD.out hj0 hj1).mono ?_); rintro e w2 ⟨v1, rfl, ho1, hd1, hu1⟩; rw [EL'.out] at ho1; have F := Lib.hid (DD.out.only hu1 hd1); have O1 := Lib.hid ho1; have R2 := Lib.hid (HR.out.below F.out.below (Nat.le_refl _)); clear ho1 hd1 hu1))
        | (go_at_call 23; ((with_reducible refine (rshuffle_any F.out.r R2.out hj0 hj1).mono ?_); rintro e w3 ⟨v2, rfl, ho2, hd2, hu2⟩; rw [EL'.out] at ho2; have G := Lib.hid (F.out.onlyr hu2 hd2); have O2 := Lib.hid ho2; have O3 := Lib.hid (own_only hu2 O1.out (fun g e => by have := (O1.out.lt g e).1; have := blk_lt DD.out.r; omega)); clear ho2 hd2 hu2))
        | (go_at_call 19; ((with_reducible refine (ints_any (reads_own O3.out) (reads_own O2.out) hj2).mono ?_); rintro e w4 ⟨rfl, q, hq⟩; have G2 : Hid (Both key w w4 b ((n : Int) + (j - 1 : Nat)) ((n : Int) + (j - 1 : Nat))) := (by rw [hq]; exact G.out.drewN q); have cr : w4.cell? ⟨b, 1, none⟩ = some (.int .i64 ((n : Int) + (j - 1 : Nat))) := blk_cell G2.out.r 1; clear hq))
        | (go_at_call 17; ((with_reducible refine (count_is G2.out.d).mono ?_); rintro e w5 ⟨rfl, rfl⟩))
        | (go_at_call 13; ((with_reducible refine (lives_any _).mono ?_); rintro e w6 ⟨rfl, hb⟩; have B : Hid (Below w.heap.size w w6) := G2.out.below.trans (hb.mono G2.out.below.size); clear hb)))
      all_goals go_wp2
      all_goals go_ret
      all_goals exact ⟨rfl, B.out⟩
theorem draws_out {w : World} {s : Int} {ao : Option Addr} {len cap : Nat} (hlen : 300 < len) :
    Calls Try.prog 8 #[.int .u64 s, .slice ao len cap] w fun e w' => e = .returned (.bool true) ∧ Below w.heap.size w w' := by
  go_enter Try.func8, Try.ntmps8
  go_wp2_with (go_at_call 13; ((with_reducible refine (lives_any _).mono ?_); rintro e w3 ⟨rfl, hb⟩; have B := Lib.hid hb; clear hb))
  go_ret
  exact ⟨rfl, B.out⟩
theorem drawDraws_law (w : World) (s : Int) (ws : (Lit.int .u64 s).wf = true) (a : Option Addr) (len cap : Nat) (zs : List Int) (h : IntRow .i64 w a len cap zs) (y : len * 8 ≤ 140737488351232) :
    Calls Try.prog 8 #[.int .u64 s, .slice a len cap] w fun e w' => e = .returned (.bool true) ∧ Below w.heap.size w w' := by
  by_cases hl : len ≤ 300
  · exact draws_in (reads_row h) hl
  · exact draws_out (by omega)
end Go.Proofs.Ytlfhjlpcfpicbaa.M
