/- swap and Shuffle: what they compute. -/
import Derived.Test.YtlfhjlpcfpicbaaState
import Derived.BigRegion
namespace Go.Proofs.Ytlfhjlpcfpicbaa.M
open Go Go.RowKit
set_option linter.unusedVariables false
theorem nonI_rest (k n m : Int) (hm : 1 ≤ m) : 0 ≤ (nonI k n - 1) % m ∧ (nonI k n - 1) % m < m ∧ (nonI k n - 1) % m ≤ 4294967296 := by
  obtain ⟨h0, h1⟩ := nonI_bd k n
  obtain ⟨r0, r1, r2⟩ := rest_bd (y := nonI k n - 1) (by omega) hm
  omega
/-- two items change places -/
def swapL (l : List Int) (i k : Nat) : List Int := (l.set i (l.getD k 0)).set k (l.getD i 0)
/-- where the item at i goes, behind n draws -/
def placeN (key n : Int) (i : Nat) : Nat := ((nonI key n - 1) % ((i : Int) + 1)).toNat
def shufL (key : Int) : Nat → Int → List Int → List Int
  | 0, _, l => l
  | i + 1, n, l => shufL key i (n + 1) (swapL l (i + 1) (placeN key n (i + 1)))
theorem swapL_len (l : List Int) (i k : Nat) : (swapL l i k).length = l.length := by simp [swapL]
theorem shufL_len (key : Int) : ∀ (i : Nat) (n : Int) (l : List Int), (shufL key i n l).length = l.length
  | 0, _, _ => rfl
  | i + 1, n, l => (shufL_len key i _ _).trans (swapL_len _ _ _)
theorem placeN_lt (key n : Int) (i : Nat) : placeN key n i < i + 1 := by
  have := nonI_rest key n ((i : Int) + 1) (by omega)
  unfold placeN
  omega
theorem below_place {b : Nat} {k n : Int} {i : Nat} {m : Int} {w : World} (h : w.heap[b]? = some (drawO k true n)) (h0 : 0 ≤ n) (h1 : n < 1000000) (hm : m = (i : Int) + 1) :
    Calls Try.prog 16 #[.pointer (some ⟨b, 0, none⟩), .int .i64 m] w fun e w' => ∃ x : Nat, e = .returned (.int .i64 x) ∧ Hid (x = placeN k n i) ∧ x ≤ i ∧ Upd w w' b (drawO k true (n + 1)) := by
  subst hm
  refine (below_is h h0 h1 (by omega)).mono fun e w' ⟨he, hu⟩ => ?_
  have := placeN_lt k n i
  have hr := nonI_rest k n ((i : Int) + 1) (by omega)
  refine ⟨placeN k n i, ?_, rfl, by omega, hu⟩
  rw [he]
  unfold placeN
  rw [Int.toNat_of_nonneg hr.1]
/-- what swap's loop hands on -/
structure Swp (W w : World) (D : Int → Obj) (b g cap base len : Nat) (n : Int) (l : List Int) : Prop where
  only : Only (fun k => k = b ∨ k = g) W w
  draw : w.heap[b]? = some (D n)
  row : w.ownsRow base 3 1 (.slice (some ⟨g, 0, none⟩) len cap) len (l.map (Value.int .i64))
theorem Swp.drawn {W w w' : World} {D : Int → Obj} {b g cap base len : Nat} {n : Int} {l : List Int} (h : Swp W w D b g cap base len n l) (hne : g ≠ b) (u : Upd w w' b (D (n + 1))) : Swp W w' D b g cap base len (n + 1) l :=
  ⟨h.only.trans (u.only.mono fun k e => .inl e), u.at_, own_only u.only h.row (fun k e => by simp [Value.ownBlock] at e; omega)⟩
theorem Swp.cell {W w : World} {D : Int → Obj} {b g cap base len : Nat} {n : Int} {l : List Int} (h : Swp W w D b g cap base len n l) {j : Nat} (hj : j < len) : w.cell? ⟨g, j, none⟩ = some (.int .i64 (l.getD j 0)) ∧ w.frozen? ⟨g, j, none⟩ = false := by
  have hl : l.length = len := by have := h.row.1; simpa using this
  refine ⟨?_, h.row.frozenAt j⟩
  rw [h.row.cellAt j (by omega)]
  simp [List.getD, hl, hj]
theorem Swp.swapped {W w : World} {D : Int → Obj} {b g cap base len : Nat} {n : Int} {l : List Int} (h : Swp W w D b g cap base len n l) (hne : g ≠ b) {i k : Nat} (hi : i < len) (hk : k < len) :
    Swp W (((w.setCell ⟨g, i, none⟩ (.int .i64 (l.getD k 0))).setCell ⟨g, k, none⟩ (.int .i64 (l.getD i 0)))) D b g cap base len n (swapL l i k) := by
  have s1 := (h.row.stored i (.int .i64 (l.getD k 0))).1
  have s2 := (s1.stored k (.int .i64 (l.getD i 0))).1
  refine ⟨h.only.trans (((only_set _ _ _ _).trans (only_set _ _ _ _)).mono fun k e => .inr e), ?_, ?_⟩
  · exact (((only_set w g i _).trans (only_set _ g k _)).keep h.draw (fun e => hne e.symm))
  · unfold swapL
    rw [List.map_set, List.map_set]
    exact s2
theorem Swp.drewN {W w : World} {D : Int → Obj} {b g cap base len : Nat} {n : Int} {l : List Int} (h : Swp W w D b g cap base len n l) (m : Nat) : Swp W (w.drewN m) D b g cap base len n l := ⟨h.only.drewN m, h.draw, h.row⟩
theorem Swp.drew {W w : World} {D : Int → Obj} {b g cap base len : Nat} {n : Int} {l : List Int} (h : Swp W w D b g cap base len n l) : Swp W w.drew D b g cap base len n l := ⟨h.only.drew, h.draw, h.row⟩
set_option maxRecDepth 100000 in
theorem swap_any {w : World} {key : Int} {b g cap base len : Nat} {n : Int} {l : List Int} (h : Swp w w (drawO key true) b g cap base (len + 1) n l) (hne : g ≠ b) (h0 : 0 ≤ n) (h1 : n + len < 1000000) (hlen : len < 1000000) :
    Calls Try.prog 29 #[.slice (some ⟨g, 0, none⟩) (len + 1) cap, .func (.func 16) #[.pointer (some ⟨b, 0, none⟩)] #[]] w fun e w' =>
      e = .returned (.tuple #[]) ∧ Swp w w' (drawO key true) b g cap base (len + 1) (n + len) (shufL key len n l) := by
  have H0 : Hid (∀ k : Nat, k < 0 → True) := fun _ _ => trivial
  have HS := Lib.hid h
  clear h
  obtain ⟨W, hW⟩ : ∃ W, Hid (W = w) := ⟨_, rfl⟩
  have HS : Hid (Swp W w (drawO key true) b g cap base (len + 1) n l) := by rw [hW.out]; exact HS
  go_enter Try.func29, Try.ntmps29
  go_wp2_with fail
  go_loopw [4] (fun i wr => ∃ m : Nat, ∃ L : List Int, m ≤ len ∧ i = .int .i64 m ∧ Hid (Swp W wr (drawO key true) b g cap base (len + 1) (n + (len - m : Nat)) L ∧ shufL key m (n + (len - m : Nat)) L = shufL key len n l)) (fun i _ => (intOf i).toNat)
  case atStart => exact ⟨len, l, Nat.le_refl _, by go_num, by simpa using HS.out, by simp⟩
  case round =>
    obtain ⟨m, L, hm, rfl, H⟩ := hrel
    by_cases hm0 : m = 0
    · subst hm0
      go_wp2_with fail
      go_end0
      refine ⟨rfl, ?_⟩
      have hh := H.out
      simp only [shufL, Nat.sub_zero] at hh
      rw [← hh.2, ← hW.out]
      exact hh.1
    · go_wp2_with fail
      refine (below_place (i := m) H.out.1.draw (by omega) (by omega) (by omega)).mono ?_
      rintro e w2 ⟨x, rfl, hx, hxm, u⟩
      have F := Lib.hid (H.out.1.drawn hne u)
      clear u
      obtain ⟨ci, fi⟩ := F.out.cell (j := m) (by omega)
      obtain ⟨ck, fk⟩ := F.out.cell (j := x) (by omega)
      have G := Lib.hid (F.out.swapped hne (i := m) (k := x) (by omega) (by omega))
      obtain ⟨v', hy'⟩ := set_some (w := w2) (p := ⟨g, m, none⟩) (x := .int .i64 (L.getD x 0)) (q := ⟨g, x, none⟩) (v := .int .i64 (L.getD x 0)) (by go_simp)
      generalize L.getD m 0 = ym at ci G
      generalize L.getD x 0 = yx at ck G hy'
      have b1 : (m : Int) < (len : Int) + 1 := by omega
      have b2 : (x : Int) < (len : Int) + 1 := by omega
      have EX : Hid (x = placeN key (n + (len - m : Nat)) m) := hx
      clear hx
      go_wp2_with fail
      go_region
      all_goals go_wp2_with fail
      go_roundw
      case rel =>
        refine ⟨m - 1, swapL L m x, by omega, by rw [show ((m - 1 : Nat) : Int) = (m : Int) - 1 by omega], ?_⟩
        have e1 : n + ((len - (m - 1) : Nat) : Int) = n + ((len - m : Nat) : Int) + 1 := by omega
        rw [e1]
        refine ⟨G.out.drew, ?_⟩
        have h2 := H.out.2
        obtain ⟨m1, rfl⟩ : ∃ m1, m = m1 + 1 := ⟨m - 1, by omega⟩
        rw [← h2, EX.out]
        rfl
      case measure => simp [intOf]; omega
theorem own_int_len {w : World} {base : Nat} {v : Value} {n : Nat} {l : List Int} (h : w.ownsRow base 3 1 v n (l.map (Value.int .i64))) : l.length = n := by have := h.1; simpa using this
theorem swap_nil {w : World} {ao : Option Addr} {cap : Nat} {f : Value} : Calls Try.prog 29 #[.slice ao 0 cap, f] w fun e w' => e = .returned (.tuple #[]) ∧ w = w' := by
  go_enter Try.func29, Try.ntmps29
  go_wp2_with fail
  refine wp_loop_rounds 1 ?_
  rw [rounds_succ]
  go_wp2
  go_end0
  exact ⟨rfl, rfl⟩
theorem info_int : (Try.prog.info? 3).map (fun i => (i.zero, i.size, i.bytes)) = some (some (.int .i64 0), 1, 8) := by kernel_rfl
theorem size_int : (Try.prog.info? 3).map (·.size) = some 1 := by kernel_rfl
theorem ints_one (l : List Int) : ∀ u ∈ l.map (Value.int .i64), u.oneCell' = true := by
  intro u hu
  obtain ⟨x, _, rfl⟩ := List.mem_map.1 hu
  rfl
set_option maxRecDepth 100000 in
theorem shuffle_any {w : World} {key : Int} {b len : Nat} {n : Int} {vx : Value} {l : List Int} (h : w.heap[b]? = some (drawO key true n)) (hr : Reads w 1 vx len (l.map (Value.int .i64))) (h0 : 0 ≤ n) (h1 : n + len < 1000000) :
    Calls Try.prog 18 #[.pointer (some ⟨b, 0, none⟩), vx] w fun e w' => ∃ v, e = .returned v ∧ w'.ownsRow w.heap.size 3 1 v len ((shufL key (len - 1) n l).map (Value.int .i64)) ∧
      w'.heap[b]? = some (drawO key true (n + (len - 1 : Nat))) ∧ Only (· = b) w w' := by
  obtain ⟨i0, hi, hz0, hz1, hz2⟩ := info_parts info_int
  have HR := Lib.hid hr
  obtain ⟨hl, ao, cap, rfl, _, _⟩ := hr
  have HD := Lib.hid h
  have hb := blk_lt h
  clear h hl
  obtain ⟨W, hW⟩ : ∃ W, Hid (W = w) := ⟨_, rfl⟩
  have hmf : ∀ (fn : Fn) (first cap : Array Value) (w : World), (Instr.makeFunc fn first cap).run Try.prog w = .ok (.func fn first cap) w := fun _ _ _ _ => rfl
  go_enter Try.func18, Try.ntmps18
  go_wp2_with (at_make; refine wpList_make_full _ rfl _ _ 30 rfl w.heap.size 3 i0 (.int .i64 0) 1 Try.underlying30 hi hz0 hz1 .i64 .i64 _ _ len rfl rfl rfl rfl (by rw [hz2]; omega) (by unfold maxLen; omega) (Nat.le_refl _) ?_)
  intro w1 ho1 hg1
  have O1 := Lib.hid ho1
  have D1 : Hid (w1.heap[b]? = some (drawO key true n)) := keep_grown hg1 HD.out (fun g e => by cases e)
  have U1 : Hid (Only (· = b) w w1) := ⟨hg1.os, hg1.tape, hg1.output, hg1.size, fun k hk _ => hg1.block k hk (by simp)⟩
  have R1 : Hid (Reads w1 1 (.slice ao len cap) len (l.map (Value.int .i64))) := HR.out.only (S := fun _ => False) ⟨hg1.os, hg1.tape, hg1.output, hg1.size, fun k hk _ => hg1.block k hk (by simp)⟩ (fun _ _ h => h)
  clear ho1 hg1
  go_wp2_with (with_reducible refine copy_own rfl (.tmp 9) (.tmp 10) 30 30 rfl 3 Try.underlying30 size_int O1.out R1.out (ints_one l) rfl rfl ?_)
  intro w2 ho2 hu2
  have O2 := Lib.hid ho2
  have D2 : Hid (w2.heap[b]? = some (drawO key true n)) := hu2.keep D1.out (by omega)
  have U2 : Hid (Only (· = b) w w2) := by
    refine ⟨hu2.os.trans U1.out.os, hu2.tape.trans U1.out.tape, hu2.output.trans U1.out.output, Nat.le_trans U1.out.size hu2.size, fun k hk hs => ?_⟩
    exact (hu2.else_ k (Nat.lt_of_lt_of_le hk U1.out.size) (by omega)).trans (U1.out.else_ k hk hs)
  clear ho2 hu2 O1 D1 U1 R1
  go_wp2_with (go_at_call 28; ((with_reducible refine (made_is D2.out).mono ?_); rintro e w3 ⟨rfl, rfl⟩))
  by_cases hlen : len = 0
  · subst hlen
    refine swap_nil.mono ?_
    rintro e w3 ⟨rfl, rfl⟩
    have hl0 : l = [] := by have := HR.out.1; simpa using this
    have P : Hid (w2.ownsRow w.heap.size 3 1 (.slice (some ⟨w.heap.size, 0, none⟩) 0 0) 0 ((shufL key (0 - 1) n l).map (Value.int .i64)) ∧
      w2.heap[b]? = some (drawO key true (n + (0 - 1 : Nat))) ∧ Only (· = b) w w2) := ⟨by simpa [shufL] using O2.out, by simpa using D2.out, U2.out⟩
    clear hl0
    go_wp2
    go_ret
    exact ⟨_, rfl, P.out⟩
  · obtain ⟨m, rfl⟩ : ∃ m, len = m + 1 := ⟨len - 1, by omega⟩
    have S2 : Swp w2 w2 (drawO key true) b w.heap.size (m + 1) w.heap.size (m + 1) n l := ⟨Only.refl _ _, D2.out, O2.out⟩
    refine (swap_any S2 (by omega) h0 (by omega) (by omega)).mono ?_
    rintro e w3 ⟨rfl, s3⟩
    have P : Hid (w3.ownsRow w.heap.size 3 1 (.slice (some ⟨w.heap.size, 0, none⟩) (m + 1) (m + 1)) (m + 1) ((shufL key (m + 1 - 1) n l).map (Value.int .i64)) ∧
      w3.heap[b]? = some (drawO key true (n + (m + 1 - 1 : Nat))) ∧ Only (· = b) w w3) := by
      refine ⟨by simpa using s3.row, by simpa using s3.draw, ?_⟩
      have u := s3.only
      refine ⟨u.os.trans U2.out.os, u.tape.trans U2.out.tape, u.output.trans U2.out.output, Nat.le_trans U2.out.size u.size, fun k hk hs => ?_⟩
      exact (u.else_ k (Nat.lt_of_lt_of_le hk U2.out.size) (by omega)).trans (U2.out.else_ k hk hs)
    clear s3 S2
    go_wp2
    go_ret
    exact ⟨_, rfl, P.out⟩

/-! ### The reference's -/
theorem rbelow_place {b : Nat} {k n : Int} {i : Nat} {m : Int} {w : World} (h : w.heap[b]? = some (rdrawO k n)) (h0 : 0 ≤ n) (h1 : n < 1000000) (hm : m = (i : Int) + 1) :
    Calls Try.prog 22 #[.pointer (some ⟨b, 0, none⟩), .int .i64 m] w fun e w' => ∃ x : Nat, e = .returned (.int .i64 x) ∧ Hid (x = placeN k n i) ∧ x ≤ i ∧ Upd w w' b (rdrawO k (n + 1)) := by
  subst hm
  refine (rbelow_is h h0 h1 (by omega)).mono fun e w' ⟨he, hu⟩ => ?_
  have := placeN_lt k n i
  have hr := nonI_rest k n ((i : Int) + 1) (by omega)
  refine ⟨placeN k n i, ?_, rfl, by omega, hu⟩
  rw [he]
  unfold placeN
  rw [Int.toNat_of_nonneg hr.1]
set_option maxRecDepth 100000 in
theorem rshuffle_any {w : World} {key : Int} {b len : Nat} {n : Int} {vx : Value} {l : List Int} (h : w.heap[b]? = some (rdrawO key n)) (hr : Reads w 1 vx len (l.map (Value.int .i64))) (h0 : 0 ≤ n) (h1 : n + len < 1000000) :
    Calls Try.prog 23 #[.pointer (some ⟨b, 0, none⟩), vx] w fun e w' => ∃ v, e = .returned v ∧ w'.ownsRow w.heap.size 3 1 v len ((shufL key (len - 1) n l).map (Value.int .i64)) ∧
      w'.heap[b]? = some (rdrawO key (n + (len - 1 : Nat))) ∧ Only (· = b) w w' := by
  obtain ⟨i0, hi, hz0, hz1, hz2⟩ := info_parts info_int
  have HR := Lib.hid hr
  obtain ⟨hl, ao, cap, rfl, _, _⟩ := hr
  have HD := Lib.hid h
  have hb := blk_lt h
  clear h hl
  go_enter Try.func23, Try.ntmps23
  have O0 : Hid ((w.alloc (.cells #[] 3)).ownsRow w.heap.size 3 1 (.slice (some ⟨w.heap.size, 0, none⟩) 0 0) 0 []) := World.ownsRow_made w #[] 0 (Nat.le_refl _) (by unfold maxLen; omega) (by simp)
  have R0 : Hid (Reads (w.alloc (.cells #[] 3)) 1 (.slice ao len cap) len (l.map (Value.int .i64))) := HR.out.below ((Below.refl _ _).alloc (Nat.le_refl _) _) (Nat.le_refl _)
  have D0 : Hid ((w.alloc (.cells #[] 3)).heap[b]? = some (rdrawO key n)) := keep_alloc _ HD.out
  go_wp2_with (at_builtin; refine app_own rfl _ _ 30 rfl w.heap.size 3 i0 (.int .i64 0) 1 8 Try.underlying30 hi hz0 hz1 hz2 rfl (by decide) R0.out (ints_one l) O0.out rfl rfl (by omega) (by omega) (by simp) ?_)
  intro v w1 ho1 hg1
  have O1 := Lib.hid ho1
  have D1 : Hid (w1.heap[b]? = some (rdrawO key n)) := keep_grown hg1 D0.out (fun g e => by simp [Value.ownBlock] at e; omega)
  have U1 : Hid (Only (· = b) w w1) := ⟨hg1.os, hg1.tape, hg1.output, Nat.le_trans (by simp) hg1.size, fun k hk _ => (hg1.block k (by simp; omega) (by simp [Value.ownBlock]; omega)).trans (Below.heap_alloc _ _ _ hk)⟩
  clear ho1 hg1 O0 R0 D0
  by_cases hlen : len = 0
  · subst hlen
    have hl0 : l = [] := by have := HR.out.1; simpa using this
    obtain ⟨bo, cp, hv⟩ : ∃ bo cp, v = .slice bo 0 cp := by
      rcases O1.out.2 with ⟨rfl, _⟩ | ⟨g, cap, cur, rfl, _⟩ <;> exact ⟨_, _, rfl⟩
    have P : Hid (w1.ownsRow w.heap.size 3 1 v 0 ((shufL key (0 - 1) n l).map (Value.int .i64)) ∧
      w1.heap[b]? = some (rdrawO key (n + (0 - 1 : Nat))) ∧ Only (· = b) w w1) := ⟨by simpa [shufL] using O1.out, by simpa using D1.out, U1.out⟩
    clear hl0
    subst hv
    go_wp2_with fail
    refine wp_loop_rounds 1 ?_
    rw [rounds_succ]
    go_wp2
    go_ret
    exact ⟨_, rfl, P.out⟩
  · obtain ⟨m, rfl⟩ : ∃ m, len = m + 1 := ⟨len - 1, by omega⟩
    obtain ⟨g, cp, hv, hg, _⟩ := own_shape O1.out (by omega)
    subst hv
    have S1 : Hid (Swp w1 w1 (rdrawO key) b g cp w.heap.size (m + 1) n l) := ⟨Only.refl _ _, D1.out, O1.out⟩
    have hne : g ≠ b := by omega
    go_wp2_with fail
    go_loopw [6] (fun i wr => ∃ m' : Nat, ∃ L : List Int, m' ≤ m ∧ i = .int .i64 m' ∧ Hid (Swp w1 wr (rdrawO key) b g cp w.heap.size (m + 1) (n + (m - m' : Nat)) L ∧ shufL key m' (n + (m - m' : Nat)) L = shufL key m n l)) (fun i _ => (intOf i).toNat)
    case atStart => exact ⟨m, l, Nat.le_refl _, by go_num, by simpa using S1.out, by simp⟩
    case round =>
      obtain ⟨m', L, hm, rfl, H⟩ := hrel
      by_cases hm0 : m' = 0
      · subst hm0
        have P : Hid (wr.ownsRow w.heap.size 3 1 (.slice (some ⟨g, 0, none⟩) (m + 1) cp) (m + 1) ((shufL key (m + 1 - 1) n l).map (Value.int .i64)) ∧
            wr.heap[b]? = some (rdrawO key (n + (m + 1 - 1 : Nat))) ∧ Only (· = b) w wr) := by
          obtain ⟨s3, hs⟩ := H.out
          simp only [shufL] at hs
          subst hs
          refine ⟨by simpa using s3.row, by simpa using s3.draw, ?_⟩
          have u := s3.only
          refine ⟨u.os.trans U1.out.os, u.tape.trans U1.out.tape, u.output.trans U1.out.output, Nat.le_trans U1.out.size u.size, fun k hk hs => ?_⟩
          exact (u.else_ k (Nat.lt_of_lt_of_le hk U1.out.size) (by omega)).trans (U1.out.else_ k hk hs)
        clear H
        go_wp2
        go_ret
        exact ⟨_, rfl, P.out⟩
      · go_wp2_with fail
        refine (rbelow_place (i := m') H.out.1.draw (by omega) (by omega) (by omega)).mono ?_
        rintro e w2 ⟨x, rfl, hx, hxm, u⟩
        have F := Lib.hid (H.out.1.drawn hne u)
        clear u
        obtain ⟨ci, fi⟩ := F.out.cell (j := m') (by omega)
        obtain ⟨ck, fk⟩ := F.out.cell (j := x) (by omega)
        have G := Lib.hid (F.out.swapped hne (i := m') (k := x) (by omega) (by omega))
        obtain ⟨v', hy'⟩ := set_some (w := w2) (p := ⟨g, m', none⟩) (x := .int .i64 (L.getD x 0)) (q := ⟨g, x, none⟩) (v := .int .i64 (L.getD x 0)) (by go_simp)
        generalize L.getD m' 0 = ym at ci G
        generalize L.getD x 0 = yx at ck G hy'
        have b1 : (m' : Int) < (m : Int) + 1 := by omega
        have b2 : (x : Int) < (m : Int) + 1 := by omega
        have EX : Hid (x = placeN key (n + (m - m' : Nat)) m') := hx
        clear hx
        go_wp2_with fail
        go_region
        all_goals go_wp2_with fail
        go_roundw
        case rel =>
          refine ⟨m' - 1, swapL L m' x, by omega, by rw [show ((m' - 1 : Nat) : Int) = (m' : Int) - 1 by omega], ?_⟩
          have e1 : n + ((m - (m' - 1) : Nat) : Int) = n + ((m - m' : Nat) : Int) + 1 := by omega
          rw [e1]
          refine ⟨G.out.drew, ?_⟩
          have h2 := H.out.2
          obtain ⟨m1, rfl⟩ : ∃ m1, m' = m1 + 1 := ⟨m' - 1, by omega⟩
          rw [← h2, EX.out]
          rfl
        case measure => simp [intOf]; omega
/-- are two lists the same? -/
theorem ints_any {w : World} {vx vy : Value} {n m : Nat} {l k : List Int} (hx : Reads w 1 vx n (l.map (Value.int .i64))) (hy : Reads w 1 vy m (k.map (Value.int .i64))) (hn : n < 1000000000) :
    Calls Try.prog 19 #[vx, vy] w fun e w' => e = .returned (.bool (decide (l = k))) ∧ ∃ q, w' = w.drewN q := by
  have HX := Lib.hid hx
  have HY := Lib.hid hy
  obtain ⟨hl, ao, cap, rfl, _, _⟩ := hx
  obtain ⟨hk, bo, bap, rfl, _, _⟩ := hy
  have El : l.length = n := by simpa using hl
  have Ek : k.length = m := by simpa using hk
  clear hl hk
  have EL := Lib.hid El
  have EK := Lib.hid Ek
  clear El Ek
  by_cases hnm : n = m
  · subst hnm
    go_enter Try.func19, Try.ntmps19
    go_wp2_with fail
    go_loopw [13] (fun i wr => ∃ j : Nat, j ≤ n ∧ i = .int .i64 j ∧ Hid (∀ t, t < j → l.getD t 0 = k.getD t 0) ∧ ∃ q, wr = w.drewN q) (fun i _ => n - (intOf i).toNat)
    case atStart => exact ⟨0, by omega, rfl, fun t h => by omega, 0, rfl⟩
    case round =>
      obtain ⟨j, hj, rfl, H, q, rfl⟩ := hrel
      by_cases hjn : j < n
      · obtain ⟨b, off, cx, e1, _, c1⟩ := HX.out.at (by omega) (by omega)
        obtain ⟨b', off', cy, e2, _, c2⟩ := HY.out.at (by omega) (by omega)
        cases e1
        cases e2
        have d1 : w.cell? ⟨b, off + j, none⟩ = some (.int .i64 (l.getD j 0)) := by rw [c1 j (by omega)]; simp [List.getD, EL.out, hjn]
        have d2 : w.cell? ⟨b', off' + j, none⟩ = some (.int .i64 (k.getD j 0)) := by rw [c2 j (by omega)]; simp [List.getD, EK.out, hjn]
        clear c1 c2
        by_cases heq : l.getD j 0 = k.getD j 0
        · have G : Hid (∀ t, t < j + 1 → l.getD t 0 = k.getD t 0) := fun t ht => by
            by_cases e : t = j
            · subst e; exact heq
            · exact H.out t (by omega)
          have b1 : (l.getD j 0 != k.getD j 0) = false := by simpa using heq
          clear heq
          generalize l.getD j 0 = x at d1 b1
          generalize k.getD j 0 = y at d2 b1
          go_wp2_with fail
          go_quiet (fail)
          go_wp2
          go_roundw
          case rel => exact ⟨j + 1, by omega, by go_num, G, _, rfl⟩
          case measure => simp [intOf]; omega
        · have E : Hid (decide (l = k) = false) := by simp only [decide_eq_false_iff_not]; intro e; subst e; exact heq rfl
          have b1 : (l.getD j 0 != k.getD j 0) = true := by simpa using heq
          clear heq
          generalize l.getD j 0 = x at d1 b1
          generalize k.getD j 0 = y at d2 b1
          go_wp2_with fail
          go_quiet (fail)
          go_wp2
          go_ret
          exact ⟨by rw [E.out]; rfl, _, World.drewN_drewN _ _ _⟩
      · obtain rfl : j = n := by omega
        have E : Hid (decide (l = k) = true) := by
          simp only [decide_eq_true_eq]
          have e1 := EL.out
          have e2 := EK.out
          refine List.ext_getElem (by omega) fun t h1 h2 => ?_
          have := H.out t (by omega)
          simpa [List.getD, h1, h2] using this
        go_wp2
        go_ret
        exact ⟨by rw [E.out]; rfl, _, rfl⟩
  · have b1 : ((n : Int) != (m : Int)) = true := by simp; omega
    have b2 : (n == m) = false := by simpa using hnm
    have E : Hid (decide (l = k) = false) := by simp only [decide_eq_false_iff_not]; intro e; subst e; exact hnm (EL.out.symm.trans EK.out)
    go_enter Try.func19, Try.ntmps19
    go_wp2
    go_ret
    exact ⟨by rw [E.out]; rfl, 0, rfl⟩
end Go.Proofs.Ytlfhjlpcfpicbaa.M
