/- Operations that make or write memory, or call, do what eop says. -/
import Derived.Test.YtpppgmoiginedaaQe
namespace Go.Proofs.Ytpppgmoiginedaa.Q
open Go Go.RowKit
set_option linter.unusedVariables false
set_option linter.unusedSimpArgs false
section
variable {P : Program} {w w' : World} {H H' : Heap}
theorem evo_gen (hos : w'.os = w.os) (htape : w'.tape = w.tape) (hout : w'.output = w.output) (hsz : w.heap.size ≤ w'.heap.size)
    (hk : ∀ b, imm w H b → w'.heap[b]? = w.heap[b]? ∧ H' b = none) (hS : Sim w H) (hn : ∀ b o, H' b = some o → (H b = some o ∧ w'.heap[b]? = w.heap[b]?) ∨ o.real w' H' b) : Evo w H w' H' ∧ Sim w' H' := by
  have hE : Evo w H w' H' := ⟨hos, htape, hout, hsz, fun b hb => ⟨(hk b hb).1, by have := hb.1; omega, (hk b hb).2⟩⟩
  refine ⟨hE, fun b o ho => ?_⟩
  rcases hn b o ho with ⟨h1, h2⟩ | h
  · exact Ob.real_same hE.keeps h2 o (hS b o h1)
  · exact h
theorem set_same (H : Heap) (b : Nat) (o : Ob) : (H.set b o) b = some o := by simp [Heap.set]
theorem set_ne (H : Heap) {b k : Nat} (o : Ob) (h : k ≠ b) : (H.set b o) k = H k := by simp [Heap.set, h]
theorem del_ne (H : Heap) {b k : Nat} (h : k ≠ b) : (H.del b) k = H k := by simp [Heap.del, h]
theorem del_same (H : Heap) (b : Nat) : (H.del b) b = none := by simp [Heap.del]
theorem del_set (H : Heap) (b : Nat) (o : Ob) : (H.del b).set b o = H.set b o := by
  funext k
  simp only [Heap.set, Heap.del]
  split <;> rfl
/-- a block that is turned -/
theorem evo_write (hS : Sim w H) {b : Nat} {x x' : Ob} (hb : H b = some x) (hos : w'.os = w.os) (htape : w'.tape = w.tape) (hout : w'.output = w.output) (hsz : w'.heap.size = w.heap.size) (hk : ∀ k, k ≠ b → w'.heap[k]? = w.heap[k]?)
    (hx : Keeps w (imm w H) w' (imm w' (H.set b x')) → x'.real w' (H.set b x') b) : Evo w H w' (H.set b x') ∧ Sim w' (H.set b x') := by
  have hne : ∀ k, imm w H k → k ≠ b := fun k h e => by subst e; have h2 := h.2; rw [hb] at h2; cases h2
  refine evo_gen hos htape hout (by omega) (fun k h => ⟨hk k (hne k h), by rw [set_ne _ _ (hne k h)]; exact h.2⟩) hS fun k o ho => ?_
  by_cases e : k = b
  · subst e
    rw [set_same] at ho
    obtain rfl := Option.some.inj ho
    right
    exact hx (fun j hj => ⟨hk j (hne j hj), by rw [hsz]; exact hj.1, by rw [set_ne _ _ (hne j hj)]; exact hj.2⟩)
  · rw [set_ne _ _ e] at ho
    exact .inl ⟨ho, hk k e⟩
/-- a row of cells, set from a place on -/
theorem rows_set {D D' : Nat → Prop} (hK : Keeps w D w' D') {b s : Nat} {L : List (List V)} {cur arr : Array Value} (hc : ∀ o, w.cell? ⟨b, o, none⟩ = cur[o]?) (hc' : ∀ o, w'.cell? ⟨b, o, none⟩ = arr[o]?)
    (hL : rowsAt w D s L b 0) {i f : Nat} {r : List V} (hi : L[i]? = some r) {vs : List V} {us : List Value} (hv : reals w D vs us) (hf : f + vs.length ≤ s)
    (harr : ∀ o, arr[o]? = if i * s + f ≤ o ∧ o < i * s + f + us.length then us[o - (i * s + f)]? else cur[o]?) : rowsAt w' D' s (L.set i (setAt r f vs)) b 0 := by
  have hul := reals_len hv
  obtain ⟨hrl, hrc⟩ := rows_get i hL hi
  rw [Nat.zero_add] at hrc
  refine rows_mk fun j r' hj => ?_
  rw [Nat.zero_add]
  rw [List.getElem?_set] at hj
  split at hj
  · rename_i e
    subst e
    split at hj
    · obtain rfl := Option.some.inj hj
      have hlen : (setAt r f vs).length = s := by rw [setAt_len]; exact hrl
      refine ⟨hlen, ?_⟩
      obtain ⟨l, hl1, hl2⟩ := reals_of_cells hrc
      have hll := reals_len hl1
      have h1 := setAt_real hl1 f hv
      generalize he : (us.zipIdx.foldl (fun cs (c, j) => cs.setIfInBounds (f + j) c) l.toArray).toList = l' at h1
      refine cells_of_reals (reals_keeps hK _ _ h1) fun k v hk => ?_
      rw [hc']
      have key : l'[k]? = if f ≤ k ∧ k < f + us.length then us[k - f]? else l[k]? := by
        rw [← he]
        have : ∀ (us : List Value) (l : List Value) (n : Nat), f + n + us.length ≤ l.length → ((us.zipIdx n).foldl (fun cs (c, j) => cs.setIfInBounds (f + j) c) l.toArray).toList[k]? = if f + n ≤ k ∧ k < f + n + us.length then us[k - (f + n)]? else l[k]? := by
          intro us
          induction us with
          | nil => intro l n _; simp; omega
          | cons u us ih =>
            intro l n hn
            simp only [List.length_cons] at hn
            simp only [List.zipIdx_cons, List.foldl_cons]
            have e := ih (l.set (f + n) u) (n + 1) (by simp; omega)
            have e2 : l.toArray.setIfInBounds (f + n) u = (l.set (f + n) u).toArray := by simp
            rw [e2, e]
            by_cases hk1 : f + n = k
            · subst hk1
              rw [if_neg (by omega), if_pos (by simp)]
              simp [show f + n < l.length by omega]
            · rw [List.getElem?_set_ne hk1]
              by_cases hk2 : f + (n + 1) ≤ k ∧ k < f + (n + 1) + us.length
              · rw [if_pos hk2, if_pos (by simp; omega)]
                rw [show k - (f + n) = (k - (f + (n + 1))) + 1 by omega]
                simp
              · rw [if_neg hk2, if_neg (by simp; omega)]
        simpa using this us l 0 (by omega)
      rw [harr]
      rw [key] at hk
      have hkl : k < s := by
        rcases Nat.lt_or_ge k s with h | h
        · exact h
        · exfalso
          split at hk
          · omega
          · rw [List.getElem?_eq_none (by omega)] at hk; simp at hk
      by_cases hin : f ≤ k ∧ k < f + us.length
      · rw [if_pos hin] at hk
        rw [if_pos (by omega), show i * s + k - (i * s + f) = k - f by omega]
        exact hk
      · rw [if_neg hin] at hk
        rw [if_neg (by omega), ← hc]
        exact hl2 k v hk
    · simp at hj
  · rename_i e
    obtain ⟨h1, h2⟩ := rows_get j hL hj
    rw [Nat.zero_add] at h2
    refine ⟨h1, ?_⟩
    obtain ⟨l, hl1, hl2⟩ := reals_of_cells h2
    have hll := reals_len hl1
    refine cells_of_reals (reals_keeps hK _ _ hl1) fun k v hk => ?_
    have hkl : k < s := by
      have := (List.getElem?_eq_some_iff.1 hk).1
      omega
    rw [hc', harr, if_neg, ← hc]
    · exact hl2 k v hk
    · intro hcon
      rcases Nat.lt_or_gt_of_ne e with h | h
      · have := Nat.mul_le_mul_right s (show i + 1 ≤ j from h)
        rw [Nat.add_mul] at this
        omega
      · have := Nat.mul_le_mul_right s (show j + 1 ≤ i from h)
        rw [Nat.add_mul] at this
        omega
theorem run_storeVar {T : TypeId} {n : Nat} (hn : szT P T = some n) {b o : Nat} {cur : Array Value} {t : TypeId} (hg : w.heap[b]? = some (.cells cur t (0, 0))) {x : Value} (hx : x.cells.size = n) (ho : o + n ≤ cur.size) (h1 : ∀ v ∈ x.cells.toList, v.oneCell' = true) :
    (storeVar T ⟨b, o, none⟩ x).run P w = .ok () (w.setRow b (cur.toList.take o ++ x.cells.toList ++ cur.toList.drop (o + n)).toArray) := by
  have := run_storeCells_at P b o t x.cells.toList 0 cur w hg (by simp; omega) h1
  simp only [Nat.add_zero] at this
  simp only [storeVar, Sem.run_bind, run_sizeOf hn, Result.andThen_ok]
  rw [if_neg (by omega)]
  rw [this]
  simp [hx]
theorem reals_one {D : Nat → Prop} : ∀ {cs : List V} {l : List Value}, reals w D cs l → ∀ v ∈ l, v.oneCell' = true
  | [], l, h, v, hv => by unfold reals at h; subst h; simp at hv
  | c :: cs, l, h, v, hv => by
    unfold reals at h
    obtain ⟨u, l', rfl, h1, h2⟩ := h
    rcases List.mem_cons.1 hv with rfl | hv
    · exact h1.2
    · exact reals_one h2 v hv
theorem row_cells_of {b s cap : Nat} {L : List (List V)} (h : (Ob.row s L cap).real w H b) : ∃ cur t, w.heap[b]? = some (.cells cur t (0, 0)) ∧ L.length ≤ cap ∧ cur.size = cap * s ∧ rowsAt w (imm w H) s L b 0 ∧ ∀ o, w.cell? ⟨b, o, none⟩ = cur[o]? := by
  obtain ⟨cur, t, h1, h2, h3, h4⟩ := h
  exact ⟨cur, t, h1, h2, h3, h4, fun o => by simp [World.cell?, h1]⟩
theorem qstore_sound {T : TypeId} {p x : V} {pv xv : Value} (hS : Sim w H) (hp : real w (imm w H) p pv) (hx : real w (imm w H) x xv) (h : qstore P H T p x = some H') :
    ∃ w', (Instr.storeAt T pv xv).run P w = .ok () w' ∧ Evo w H w' H' ∧ Sim w' H' := by
  unfold qstore at h
  split at h
  · rename_i b s i f
    split at h
    · rename_i s' L cap hb
      split at h
      · rename_i e
        subst e
        obtain ⟨r, hr, h1⟩ := Option.bind_eq_some_iff.1 h
        obtain ⟨n, hn, h2⟩ := Option.bind_eq_some_iff.1 h1
        split at h2
        · rename_i hc
          obtain rfl := Option.some.inj h2
          obtain ⟨hc1, hc2, hc3⟩ := hc
          unfold real at hp
          subst hp
          have hxc := real_cells hx (noTup_spec hc2)
          have hxl := reals_len hxc
          rw [Array.length_toList] at hxl
          obtain ⟨cur, t, g1, g2, g3, g4, g5⟩ := row_cells_of (hS b _ hb)
          have hi := (List.getElem?_eq_some_iff.1 hr).1
          have hfit : i * s' + f + n ≤ cur.size := by
            have := Nat.mul_le_mul_right s' (show i + 1 ≤ cap by omega)
            rw [Nat.add_mul] at this
            omega
          have hrun := run_storeVar (P := P) hn g1 (x := xv) (by omega) hfit (reals_one hxc)
          refine ⟨_, by simpa [Instr.storeAt, Instr.sureAddr] using hrun, ?_⟩
          refine evo_write hS hb rfl rfl rfl (by simp) (fun k hk => setRow_other w b k _ hk) fun hK => ?_
          refine ⟨_, t, setRow_heap w b cur _ t _ g1, by simpa using g2, ?_, ?_⟩
          · simp only [List.size_toArray, List.length_append, List.length_take, List.length_drop, Array.length_toList]
            omega
          · refine rows_set hK g5 (fun o => cell_setRow_same w b o cur _ t _ g1) g4 hr hxc (by omega) fun o => ?_
            simp only [List.getElem?_toArray, Array.length_toList]
            rw [List.getElem?_append]
            simp only [List.length_take, Array.length_toList]
            rw [Nat.min_eq_left (by omega)]
            by_cases h1 : o < i * s' + f
            · rw [if_pos h1, if_neg (by omega), List.getElem?_take, if_pos h1]
              simp
            · rw [if_neg h1, List.getElem?_append]
              simp only [Array.length_toList]
              by_cases h2 : o - (i * s' + f) < xv.cells.size
              · rw [if_pos h2, if_pos (by omega)]
              · rw [if_neg h2, if_neg (by omega), List.getElem?_drop]
                rw [show i * s' + f + n + (o - (i * s' + f) - xv.cells.size) = o by omega]
                simp
        · simp at h2
      · simp at h
    · simp at h
  · simp at h
/-- the elements that are appended: where they lie -/
theorem addV_sound (hS : Sim w H) {s : Nat} {X : V} {x : Value} (hx : real w (imm w H) X x) {M : List (List V)} (h : addV H s X = some M) :
    ∃ xa cap, x = .slice xa M.length cap ∧ ∃ l : List Value, reals w (imm w H) M.flatten l ∧ l.length = M.length * s ∧ (∀ r ∈ M, r.length = s) ∧ ∀ w2 : World, w2.heap = w.heap → (Builtin.firstCells s M.length x).run P w2 = .ok l.toArray w2 := by
  have fin : ∀ {b off cap : Nat}, rowsAt w (imm w H) s M b off → ∃ l : List Value, reals w (imm w H) M.flatten l ∧ l.length = M.length * s ∧ (∀ r ∈ M, r.length = s) ∧ ∀ w2 : World, w2.heap = w.heap → (Builtin.firstCells s M.length (.slice (some ⟨b, off, none⟩) M.length cap)).run P w2 = .ok l.toArray w2 := by
    intro b off cap hr
    obtain ⟨l, h1, h2⟩ := reals_of_cells (rows_flat hr)
    have hl : l.length = M.length * s := by rw [reals_len h1, flat_len (rows_len hr)]
    refine ⟨l, h1, hl, rows_len hr, fun w2 hw => ?_⟩
    unfold Builtin.firstCells
    rw [← hl]
    exact run_loadCells l fun j v hj => by simp only [World.cell?, hw]; exact h2 j v hj
  unfold addV at h
  split at h
  · obtain rfl := Option.some.inj h
    unfold real at hx
    obtain ⟨a, rfl⟩ := hx
    refine ⟨a, 0, rfl, [], by simp [reals], by simp, by simp, fun w2 _ => ?_⟩
    cases a <;> simp [Builtin.firstCells, loadCells, loadCellsFrom]
  · rename_i s' L
    split at h
    · rename_i e
      subst e
      obtain rfl := Option.some.inj h
      unfold real at hx
      obtain ⟨a, n, cap, rfl, rfl, _, hl⟩ := hx
      refine ⟨a, cap, rfl, ?_⟩
      rcases hl with rfl | ⟨b, off, rfl, _, hr⟩
      · refine ⟨[], by simp [reals], by simp, by simp, fun w2 _ => ?_⟩
        cases a <;> simp [Builtin.firstCells, loadCells, loadCellsFrom]
      · exact fin hr
    · simp at h
  · rename_i b s' lo n cap
    split at h
    · rename_i s2 L cap' hb
      split at h
      · rename_i hc
        obtain ⟨rfl, rfl, hc⟩ := hc
        obtain rfl := Option.some.inj h
        unfold real at hx
        obtain ⟨o, rfl, _, ho⟩ := hx
        have hlen : ((L.drop lo).take n).length = n := by rw [List.length_take, List.length_drop]; omega
        rw [hlen] at fin ⊢
        refine ⟨_, cap, rfl, ?_⟩
        rcases ho with rfl | ⟨rfl, rfl⟩
        · obtain ⟨cur, t, g1, g2, g3, g4, g5⟩ := row_cells_of (hS b _ hb)
          have := rows_take n (rows_drop lo g4)
          rw [Nat.zero_add] at this
          exact fin this
        · refine ⟨[], by simp [reals], by simp, by simp, fun w2 _ => ?_⟩
          simp [Builtin.firstCells, loadCells, loadCellsFrom]
      · simp at h
    · simp at h
  · simp at h
theorem byT_spec {t : TypeId} {s b : Nat} (hs : szT P t = some s) (hb : byT P t = some b) : ∃ i, P.info? t = some i ∧ i.size = s ∧ i.bytes = b := by
  unfold szT at hs
  unfold byT at hb
  obtain ⟨i, hi, rfl⟩ := Option.map_eq_some_iff.1 hs
  obtain ⟨j, hj, rfl⟩ := Option.map_eq_some_iff.1 hb
  rw [hi] at hj
  obtain rfl := Option.some.inj hj
  exact ⟨i, hi, rfl, rfl⟩
/-- append: to a slice that has no room, or to one of the call's own -/
theorem append_sound {T T' e e' ty : TypeId} {sz by_ : Nat} {z : List V} (hu : P.underlying T = some (.slice e)) (hu' : P.underlying T' = some (.slice e')) (hsz : szT P e = some sz) (hz : zeroT P e = some z) (hzl : z.length = sz) (hpos : 0 < sz) (hby : byT P e = some by_) (hbm : by_ ≤ 1000000)
    (hS : Sim w H) {Sv X : V} {sv x : Value} (hs : real w (imm w H) Sv sv) (hx : real w (imm w H) X x) {bo : Option Nat} {L M : List (List V)} (hB : baseV H sz Sv = some (bo, L)) (hA : addV H sz X = some M) (hn : L.length + M.length ≤ 100000000) :
    ∃ v w' c H', (Builtin.append_ #[T, T'] ty #[sv, x]).run P w = .ok v w' ∧ Evo w H w' H' ∧ Sim w' H' ∧ real w' (imm w' H') c v ∧
      ((bo = none ∧ M = [] ∧ c = .nils ∧ H' = H) ∨ (¬ (bo = none ∧ M = []) ∧ ∃ b cap, (delO H bo) b = none ∧ L.length + M.length ≤ cap ∧ c = .own b sz 0 (L.length + M.length) cap ∧ H' = (delO H bo).set b (.row sz (L ++ M) cap))) := by
  obtain ⟨info, hi, hi1, hi2⟩ := byT_spec hsz hby
  obtain ⟨zv, hz1, hz2, info', hi', hz3⟩ := zeroT_spec (w := w) (D := imm w H) hz
  rw [hi] at hi'
  obtain rfl := Option.some.inj hi'
  subst hi1
  subst hi2
  have hzsz : zv.cells.size = info.size := by rw [← hzl, ← reals_len hz2, Array.length_toList]
  obtain ⟨xa, xcap, rfl, l, hl1, hl2, hl3, hl4⟩ := addV_sound (P := P) hS hx hA
  clear hx hA
  -- where it grows
  have grow : ∀ (sa : Option Addr) (cap : Nat) (ol : List Value), cap < L.length + M.length → reals w (imm w H) L.flatten ol → ol.length = L.length * info.size → (∀ r ∈ L, r.length = info.size) → (∀ w2 : World, w2.heap = w.heap → (Builtin.firstCells info.size L.length (.slice sa L.length cap)).run P w2 = .ok ol.toArray w2) →
      (∀ b, bo = some b → ∃ o, H b = some o) → ∃ v w' c H', (Builtin.append_ #[T, T'] ty #[.slice sa L.length cap, .slice xa M.length xcap]).run P w = .ok v w' ∧ Evo w H w' H' ∧ Sim w' H' ∧ real w' (imm w' H') c v ∧ ∃ b cap, (delO H bo) b = none ∧ L.length + M.length ≤ cap ∧ c = .own b info.size 0 (L.length + M.length) cap ∧ H' = (delO H bo).set b (.row info.size (L ++ M) cap) := by
    intro sa cap ol hlt ho1 ho2 ho3 ho4 hbo
    have hne : ¬ (L.length + M.length ≤ cap) := by omega
    have h63 : ¬ (9223372036854775807 < ((L.length : Int) + (M.length : Int))) := by omega
    have h48 : ¬ (281474976710656 < Builtin.nextslicecap (L.length + M.length) cap * info.bytes) := by
      have := growslice_fits (need := L.length + M.length) (old := cap) (bytes := info.bytes) hlt (by
        have := Nat.mul_le_mul hn hbm
        omega)
      omega
    have hnc : L.length + M.length ≤ grownCap w (L.length + M.length) cap e := grownCap_ge _ _ _ _
    have hfo := ho4 w.drew rfl
    have hfn := hl4 w.drew rfl
    have hrun : (Builtin.append_ #[T, T'] ty #[.slice sa L.length cap, .slice xa M.length xcap]).run P w = .ok (.slice (some ⟨w.heap.size, 0, none⟩) (L.length + M.length) (grownCap w (L.length + M.length) cap e))
        (w.drew.alloc (.cells (ol.toArray ++ l.toArray ++ Builtin.zeroCells zv.cells (grownCap w (L.length + M.length) cap e - (L.length + M.length))) e)) := by
      simp [Builtin.append_, run_underlying hu, run_underlying hu', sizeOf, typeInfo, zeroValue, hi, hz3, Builtin.lenOf, hne, h63, h48, Question.forced, hfn, hfo, newRow, grownCap]
      congr 2
      apply Array.ext'
      simp [List.append_assoc]
    generalize hncv : grownCap w (L.length + M.length) cap e = nc at hrun hnc
    generalize hcells : ol.toArray ++ l.toArray ++ Builtin.zeroCells zv.cells (nc - (L.length + M.length)) = cells at hrun
    have hfresh : H w.heap.size = none := by
      cases h : H w.heap.size with
      | none => rfl
      | some x => have := Ob.lt (hS _ _ h); omega
    have hdel : ∀ k, (delO H bo) k = none ∨ (delO H bo) k = H k := by
      intro k
      cases bo with
      | none => exact .inr rfl
      | some b =>
        by_cases e : k = b
        · subst e; exact .inl (del_same _ _)
        · exact .inr (del_ne _ e)
    have hbnone : (delO H bo) w.heap.size = none := by
      rcases hdel w.heap.size with h | h
      · exact h
      · rw [h]; exact hfresh
    have hk : ∀ k, k < w.heap.size → (w.drew.alloc (.cells cells e)).heap[k]? = w.heap[k]? := fun k hk => Below.heap_alloc w.drew _ k hk
    have hE := evo_gen (w := w) (w' := w.drew.alloc (.cells cells e)) (H := H) (H' := (delO H bo).set w.heap.size (.row info.size (L ++ M) nc)) rfl rfl rfl (by simp) (fun b hb => ⟨hk b hb.1, by
        have := hb.1
        rw [set_ne _ _ (by omega)]
        rcases hdel b with h | h
        · exact h
        · rw [h]; exact hb.2⟩) hS (fun b o ho => by
        by_cases e2 : b = w.heap.size
        · subst e2
          rw [set_same] at ho
          obtain rfl := Option.some.inj ho
          right
          have hK : Keeps w (imm w H) (w.drew.alloc (.cells cells e)) (imm (w.drew.alloc (.cells cells e)) ((delO H bo).set w.heap.size (.row info.size (L ++ M) nc))) := fun b hb => by
            have := hb.1
            refine ⟨hk b hb.1, by simp; omega, ?_⟩
            rw [set_ne _ _ (by omega)]
            rcases hdel b with h | h
            · exact h
            · rw [h]; exact hb.2
          refine ⟨cells, e, alloc_at w.drew _, by simpa using hnc, ?_, ?_⟩
          · rw [← hcells]
            simp only [Array.size_append, List.size_toArray, ho2, hl2, size_zeroCells, hzsz, ← Nat.add_mul]
            congr 1
            omega
          · refine rows_of_flat (fun r hr => ?_) ?_
            · rcases List.mem_append.1 hr with h | h
              · exact ho3 r h
              · exact hl3 r h
            · rw [List.flatten_append]
              refine cells_of_reals (reals_keeps hK _ _ (reals_append ho1 hl1)) fun j v hj => ?_
              have hc := alloc_cell w.drew cells e (0, 0) (0 + j)
              have hd : w.drew.heap.size = w.heap.size := rfl
              rw [hd] at hc
              rw [hc, ← hcells, Nat.zero_add]
              have hjl := (List.getElem?_eq_some_iff.1 hj).1
              rw [Array.getElem?_append_left (by simpa using hjl)]
              simpa using hj
        · rw [set_ne _ _ e2] at ho
          rcases hdel b with h | h
          · rw [h] at ho; cases ho
          · rw [h] at ho
            exact .inl ⟨ho, hk b (Ob.lt (hS b o ho))⟩)
    exact ⟨_, _, .own w.heap.size info.size 0 (L.length + M.length) nc, _, hrun, hE.1, hE.2, by unfold real; exact ⟨0, rfl, hnc, .inl (by simp)⟩, w.heap.size, nc, hbnone, hnc, rfl, rfl⟩
  unfold baseV at hB
  split at hB
  · simp only [Option.some.injEq, Prod.mk.injEq] at hB
    obtain ⟨rfl, rfl⟩ := hB
    unfold real at hs
    obtain ⟨a, rfl⟩ := hs
    by_cases hM : M = []
    · subst hM
      have hl0 : l = [] := List.eq_nil_of_length_eq_zero (by simpa using hl2)
      subst hl0
      have hfn := hl4 w rfl
      refine ⟨.slice a 0 0, w, .nils, H, ?_, Evo.refl _ _, hS, by unfold real; exact ⟨a, rfl⟩, .inl ⟨rfl, rfl, rfl, rfl⟩⟩
      simp only [List.length_nil] at hfn
      cases a <;> simp [Builtin.append_, run_underlying hu, run_underlying hu', sizeOf, typeInfo, hi, Builtin.lenOf, hfn, storeCells]
    · have hpM : 0 < M.length := List.length_pos_iff.2 hM
      obtain ⟨v, w', c, H', h1, h2, h3, h4, h5⟩ := grow a 0 [] (by simpa using hpM) (by simp [reals]) (by simp) (by simp) (fun w2 _ => by cases a <;> simp [Builtin.firstCells, loadCells, loadCellsFrom]) (by simp)
      exact ⟨v, w', c, H', h1, h2, h3, h4, .inr ⟨by simp [hM], h5⟩⟩
  · rename_i b s' lo n cap
    split at hB
    · rename_i s2 L0 cap' hb
      split at hB
      · rename_i hc
        obtain ⟨rfl, rfl, rfl, rfl, hnL⟩ := hc
        simp only [Option.some.injEq, Prod.mk.injEq] at hB
        obtain ⟨rfl, rfl⟩ := hB
        have hLl : (L0.take n).length = n := by rw [List.length_take]; omega
        unfold real at hs
        obtain ⟨o, rfl, hcap, ho⟩ := hs
        obtain ⟨cur, t, g1, g2, g3, g4, g5⟩ := row_cells_of (hS b _ hb)
        have ho0 : o = 0 ∨ (n = 0 ∧ cap' = 0) := by
          rcases ho with h | h
          · left; simpa using h
          · right; exact h
        have hrow := rows_take n g4
        obtain ⟨ol, ho1, ho2⟩ := reals_of_cells (rows_flat hrow)
        have hol : ol.length = (L0.take n).length * info.size := by rw [reals_len ho1, flat_len (rows_len hrow)]
        by_cases hroom : (L0.take n).length + M.length ≤ cap'
        · rw [hLl] at hroom hn
          rw [hLl]
          have hnl : (n + M.length) * info.size ≤ cap' * info.size := Nat.mul_le_mul_right _ hroom
          rw [Nat.add_mul] at hnl
          have hst := run_storeCells_at P b (n * info.size) t l 0 cur w g1 (by omega) (reals_one hl1)
          simp only [Nat.add_zero] at hst
          have hfn := hl4 w rfl
          have hwr : Evo w H (w.setRow b (cur.toList.take (n * info.size) ++ l ++ cur.toList.drop (n * info.size + l.length)).toArray) (H.set b (.row info.size (L0.take n ++ M) cap')) ∧ Sim (w.setRow b (cur.toList.take (n * info.size) ++ l ++ cur.toList.drop (n * info.size + l.length)).toArray) (H.set b (.row info.size (L0.take n ++ M) cap')) := by
            refine evo_write hS hb rfl rfl rfl (by simp) (fun k hk => setRow_other w b k _ hk) fun hK => ?_
            refine ⟨_, t, setRow_heap w b cur _ t _ g1, by rw [List.length_append, hLl]; exact hroom, ?_, ?_⟩
            · simp only [List.size_toArray, List.length_append, List.length_take, List.length_drop, Array.length_toList]
              omega
            · refine rows_of_flat (fun r hr => ?_) ?_
              · rcases List.mem_append.1 hr with h | h
                · exact rows_len hrow r h
                · exact hl3 r h
              · rw [List.flatten_append]
                refine cells_of_reals (reals_keeps hK _ _ (reals_append ho1 hl1)) fun j v hj => ?_
                rw [cell_setRow_same w b _ cur _ t _ g1, Nat.zero_add]
                rw [hLl] at hol
                rw [List.getElem?_append] at hj
                simp only [List.getElem?_toArray]
                rw [List.append_assoc, List.getElem?_append]
                simp only [List.length_take, Array.length_toList]
                rw [Nat.min_eq_left (by omega)]
                by_cases h1 : j < n * info.size
                · rw [if_pos h1, List.getElem?_take, if_pos h1]
                  rw [if_pos (by omega)] at hj
                  have := ho2 j v hj
                  rw [Nat.zero_add, g5] at this
                  simpa using this
                · rw [if_neg h1, List.getElem?_append_left (by
                    rw [if_neg (by omega)] at hj
                    have := (List.getElem?_eq_some_iff.1 hj).1
                    omega)]
                  rw [if_neg (by omega)] at hj
                  rw [← hol]
                  exact hj
          rcases ho0 with rfl | ⟨rfl, rfl⟩
          · refine ⟨.slice (some ⟨b, 0, none⟩) (n + M.length) cap', _, .own b info.size 0 (n + M.length) cap', _, ?_, hwr.1, hwr.2, ?_, .inr ⟨by simp, b, cap', del_same _ _, hroom, rfl, (del_set _ _ _).symm⟩⟩
            · simp [Builtin.append_, run_underlying hu, run_underlying hu', sizeOf, typeInfo, hi, Builtin.lenOf, hroom, hfn, addr_add, hst]
            · unfold real
              exact ⟨0, rfl, hroom, .inl (by simp)⟩
          · have hM0 : M = [] := List.eq_nil_of_length_eq_zero (by omega)
            subst hM0
            have hl0 : l = [] := List.eq_nil_of_length_eq_zero (by simpa using hl2)
            subst hl0
            refine ⟨.slice (some ⟨b, o, none⟩) 0 0, _, .own b info.size 0 0 0, _, ?_, hwr.1, hwr.2, ?_, .inr ⟨by simp, b, 0, del_same _ _, by simp, rfl, (del_set _ _ _).symm⟩⟩
            · simp only [List.length_nil] at hfn
              have hself : w.setRow b cur = w := setRow_self w b cur t (0, 0) g1
              simp [Builtin.append_, run_underlying hu, run_underlying hu', sizeOf, typeInfo, hi, Builtin.lenOf, hfn, storeCells, hself]
            · unfold real
              exact ⟨o, rfl, by simp, .inr ⟨rfl, rfl⟩⟩
        · have := grow (some ⟨b, o, none⟩) cap' ol (by omega) ho1 hol (rows_len hrow) (fun w2 hw => by
            rcases ho0 with rfl | ⟨h1, h2⟩
            · unfold Builtin.firstCells
              rw [← hol]
              exact run_loadCells ol fun j v hj => by simp only [World.cell?, hw]; exact ho2 j v hj
            · subst h1
              have : ol = [] := List.eq_nil_of_length_eq_zero (by simpa using hol)
              subst this
              simp [Builtin.firstCells, loadCells, loadCellsFrom]) (fun k hk => by obtain rfl := Option.some.inj hk; exact ⟨_, hb⟩)
          rw [hLl] at this
          obtain ⟨v, w', c, H', h1, h2, h3, h4, h5⟩ := this
          exact ⟨v, w', c, H', h1, h2, h3, h4, .inr ⟨by simp, by rw [hLl]; exact h5⟩⟩
      · simp at hB
    · simp at hB
  · simp at hB
end
end Go.Proofs.Ytpppgmoiginedaa.Q
