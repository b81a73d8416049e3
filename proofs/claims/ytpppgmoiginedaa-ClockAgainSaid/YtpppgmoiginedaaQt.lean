/- The rest of the operations that only read or compute: slices, structs and slices that are written out, len, min, max; and all in one. -/
import Derived.Test.YtpppgmoiginedaaQs
import Derived.Laws.CopyRow
namespace Go.Proofs.Ytpppgmoiginedaa.Q
open Go Go.RowKit
set_option linter.unusedVariables false
set_option linter.unusedSimpArgs false
section
variable {P : Program} {w : World} {H : Heap} {D : Nat → Prop}
def optReal (w : World) (D : Nat → Prop) : Option V → Option Value → Prop
  | none, none => True
  | some X, some x => real w D X x
  | _, _ => False
theorem bound_run {d i : Int} {X : Option V} {x : Option Value} (hx : optReal w D X x) (h : bnd d X = some i) : (x = none ∧ X = none ∧ i = d) ∨ ∃ k, x = some (.int k i) ∧ X = some (.val (.int k i)) := by
  unfold bnd at h
  split at h
  · left
    cases x with
    | none => exact ⟨rfl, rfl, (Option.some.inj h).symm⟩
    | some x => exact hx.elim
  · right
    cases x with
    | none => exact hx.elim
    | some x =>
      unfold optReal real at hx
      obtain ⟨rfl, _⟩ := hx
      obtain rfl := Option.some.inj h
      exact ⟨_, rfl, rfl⟩
  · simp at h
theorem sliceBound_run {k : IntKind} {i : Int} {y : Nat} {c : BoundsCode} (h0 : 0 ≤ i) (h1 : i ≤ y) : (Instr.sliceBound (.int k i) y c).run P w = .ok i.toNat w := by
  simp [Instr.sliceBound, asIntOf, h0, h1]
theorem bounds_run {isSlice : Bool} {len cap : Nat} {l h : Int} {lo hi : Option V} {vlo vhi : Option Value} (hlo : optReal w D lo vlo) (hhi : optReal w D hi vhi) (hl : bnd 0 lo = some l) (hh : bnd len hi = some h)
    (h0 : 0 ≤ l) (h1 : l ≤ h) (h2 : h ≤ len) (h3 : len ≤ cap) : (Instr.sliceBounds isSlice len cap vlo vhi none).run P w = .ok (l.toNat, h.toNat, cap) w := by
  have e1 : ∀ m : Nat, (h.toNat : Int) = h := fun _ => by omega
  rcases bound_run hlo hl with ⟨rfl, rfl, rfl⟩ | ⟨k1, rfl, rfl⟩ <;> rcases bound_run hhi hh with ⟨rfl, rfl, rfl⟩ | ⟨k2, rfl, rfl⟩
  · simp [Instr.sliceBounds]
  · simp [Instr.sliceBounds, sliceBound_run (P := P) (w := w) (k := k2) (i := h) (y := cap) (by omega) (by omega)]
  · simp [Instr.sliceBounds, sliceBound_run (P := P) (w := w) (k := k1) (i := l) (y := len) (by omega) (by omega)]
  · simp [Instr.sliceBounds, sliceBound_run (P := P) (w := w) (k := k2) (i := h) (y := cap) (by omega) (by omega), sliceBound_run (P := P) (w := w) (k := k1) (i := l) (y := h.toNat) h0 (by omega)]
theorem bounds0_run {len cap : Nat} {k2 k3 : IntKind} {lo : Option V} {vlo : Option Value} (hlo : optReal w D lo vlo) (hl : bnd 0 lo = some 0) :
    (Instr.sliceBounds true len cap vlo (some (.int k2 0)) (some (.int k3 0))).run P w = .ok (0, 0, 0) w := by
  rcases bound_run hlo hl with ⟨rfl, rfl, _⟩ | ⟨k1, rfl, rfl⟩
  · simp [Instr.sliceBounds, Instr.sliceBound, asIntOf]
  · simp [Instr.sliceBounds, Instr.sliceBound, asIntOf]
theorem isSliceT_spec {t : TypeId} (h : isSliceT P t = true) : ∃ e, P.underlying t = some (.slice e) := by
  unfold isSliceT at h
  split at h
  · exact ⟨_, by assumption⟩
  · simp at h
theorem isStrT_spec {t : TypeId} (h : isStrT P t = true) : P.underlying t = some .string := by
  unfold isStrT at h
  split at h
  · assumption
  · simp at h
theorem idx_slice {t e : TypeId} (hu : P.underlying t = some (.slice e)) {len : Option Nat} {e' : TypeId} {n : Nat} (h : idxT P t = some (len, e', n)) : e' = e ∧ szT P e = some n := by
  obtain ⟨h1, ⟨_, h2⟩ | ⟨k, _, h2⟩⟩ := idxT_spec h
  · rw [hu] at h2
    obtain rfl : e = e' := by simpa using h2
    exact ⟨rfl, h1⟩
  · rw [hu] at h2
    simp at h2
theorem qslice_sound {T : TypeId} {X c : V} {x : Value} {lo hi mx : Option V} {vlo vhi vmx : Option Value} (hx : real w D X x) (hlo : optReal w D lo vlo) (hhi : optReal w D hi vhi) (hmx : optReal w D mx vmx) (h : qslice P T X lo hi mx = some c) :
    ∃ v, (Instr.sliceAt T x vlo vhi vmx).run P w = .ok v w ∧ real w D c v := by
  unfold qslice at h
  split at h
  · rename_i z
    split at h
    · rename_i hc
      have hu := isStrT_spec hc.1
      obtain ⟨l, hl, h1⟩ := Option.bind_eq_some_iff.1 h
      obtain ⟨hh, hhh, h2⟩ := Option.bind_eq_some_iff.1 h1
      split at h2
      · rename_i hb
        obtain rfl := Option.some.inj h2
        unfold real at hx
        obtain ⟨rfl, _⟩ := hx
        obtain rfl : vmx = none := by
          cases mx with
          | none => cases vmx with
            | none => rfl
            | some _ => exact hmx.elim
          | some _ => simp at hc
        refine ⟨_, ?_, real_val rfl⟩
        simp [Instr.sliceAt, run_underlying hu, Instr.slice, bounds_run (P := P) hlo hhi hl hhh hb.1 hb.2.1 hb.2.2 (Nat.le_refl _)]
      · simp at h2
    · simp at h
  · rename_i s L
    split at h
    · rename_i hc
      obtain ⟨e, hu⟩ := isSliceT_spec hc
      obtain ⟨l, hl, h1⟩ := Option.bind_eq_some_iff.1 h
      obtain ⟨hh, hhh, h2⟩ := Option.bind_eq_some_iff.1 h1
      unfold real at hx
      obtain ⟨a, n, cap, rfl, rfl, hcap, hr⟩ := hx
      split at h2
      · obtain ⟨⟨len, e', s'⟩, hi', h3⟩ := Option.bind_eq_some_iff.1 h2
        obtain ⟨rfl, hs⟩ := idx_slice hu hi'
        obtain rfl : vmx = none := by
          cases vmx with
          | none => rfl
          | some _ => exact hmx.elim
        simp only at h3
        split at h3
        · rename_i hb
          obtain ⟨rfl, h0, h1', h2'⟩ := hb
          obtain rfl := Option.some.inj h3
          have hrun := bounds_run (P := P) (isSlice := true) hlo hhi hl hhh h0 h1' h2' hcap
          refine ⟨.slice (if cap = l.toNat then a else a.map (·.add (l.toNat * s'))) (hh.toNat - l.toNat) (cap - l.toNat), ?_, ?_⟩
          · simp [Instr.sliceAt, run_underlying hu, Instr.slice, hrun, run_sizeOf hs]
          · unfold real
            refine ⟨_, _, _, rfl, ?_, by omega, ?_⟩
            · rw [List.length_drop, List.length_take]; omega
            · rcases hr with rfl | ⟨b, off, rfl, hb, hrow⟩
              · left; simp
              · by_cases hz : hh.toNat - l.toNat = 0
                · left
                  apply List.eq_nil_of_length_eq_zero
                  rw [List.length_drop, List.length_take]; omega
                · right
                  rw [if_neg (by omega)]
                  refine ⟨b, off + l.toNat * s', ?_, hb, rows_drop _ (rows_take _ hrow)⟩
                  simp [addr_add]
        · simp at h3
      · rename_i k m
        split at h2
        · rename_i hb
          obtain ⟨rfl, rfl, rfl, hs, hsi⟩ := hb
          obtain rfl := Option.some.inj h2
          rcases bound_run hhi hhh with ⟨rfl, rfl, _⟩ | ⟨k2, rfl, rfl⟩
          · simp at hs
          · cases vmx with
            | none => exact hmx.elim
            | some vm =>
              unfold optReal real at hmx
              obtain ⟨rfl, _⟩ := hmx
              obtain ⟨⟨len, e', s'⟩, hi'⟩ := Option.isSome_iff_exists.1 hsi
              obtain ⟨rfl, hsz⟩ := idx_slice hu hi'
              refine ⟨.slice a 0 0, ?_, by unfold real; exact ⟨a, rfl⟩⟩
              simp [Instr.sliceAt, run_underlying hu, Instr.slice, bounds0_run (P := P) hlo hl, run_sizeOf hsz]
        · simp at h2
      · simp at h2
    · simp at h
  · rename_i b s o n cap
    split at h
    · rename_i hc
      obtain ⟨e, hu⟩ := isSliceT_spec hc.1
      obtain ⟨l, hl, h1⟩ := Option.bind_eq_some_iff.1 h
      obtain ⟨hh, hhh, h2⟩ := Option.bind_eq_some_iff.1 h1
      obtain ⟨⟨len, e', s'⟩, hi', h3⟩ := Option.bind_eq_some_iff.1 h2
      obtain ⟨rfl, hs⟩ := idx_slice hu hi'
      obtain rfl : vmx = none := by
        cases mx with
        | none => cases vmx with
          | none => rfl
          | some _ => exact hmx.elim
        | some _ => simp at hc
      simp only at h3
      split at h3
      · rename_i hb
        obtain ⟨rfl, h0, h1', h2'⟩ := hb
        obtain rfl := Option.some.inj h3
        unfold real at hx
        obtain ⟨o', rfl, hcap, ho⟩ := hx
        have hrun := bounds_run (P := P) (isSlice := true) hlo hhi hl hhh h0 h1' h2' hcap
        refine ⟨.slice (if cap = l.toNat then some ⟨b, o', none⟩ else some ⟨b, o' + l.toNat * s', none⟩) (hh.toNat - l.toNat) (cap - l.toNat), ?_, ?_⟩
        · simp [Instr.sliceAt, run_underlying hu, Instr.slice, hrun, run_sizeOf hs, addr_add]
        · unfold real
          have e1 : hh.toNat - l.toNat = (hh - l).toNat := by omega
          by_cases hz : cap = l.toNat
          · rw [if_pos hz]
            exact ⟨o', by rw [e1], by omega, .inr ⟨by omega, by omega⟩⟩
          · rw [if_neg hz]
            refine ⟨_, by rw [e1], by omega, ?_⟩
            rcases ho with rfl | ⟨h4, h5⟩
            · left; rw [Nat.add_mul]
            · omega
      · simp at h3
    · simp at h
  · split at h
    · rename_i hc
      obtain ⟨e, hu⟩ := isSliceT_spec hc
      obtain ⟨l, hl, h1⟩ := Option.bind_eq_some_iff.1 h
      obtain ⟨hh, hhh, h2⟩ := Option.bind_eq_some_iff.1 h1
      unfold real at hx
      obtain ⟨a, rfl⟩ := hx
      split at h2
      · split at h2
        · rename_i hb
          obtain ⟨rfl, rfl, hsi⟩ := hb
          obtain rfl := Option.some.inj h2
          obtain ⟨⟨len, e', s'⟩, hi'⟩ := Option.isSome_iff_exists.1 hsi
          obtain ⟨rfl, hsz⟩ := idx_slice hu hi'
          obtain rfl : vmx = none := by
            cases vmx with
            | none => rfl
            | some _ => exact hmx.elim
          have hrun := bounds_run (P := P) (isSlice := true) (len := 0) (cap := 0) hlo hhi hl hhh (by omega) (by omega) (by omega) (by omega)
          refine ⟨.slice a 0 0, ?_, by unfold real; exact ⟨a, rfl⟩⟩
          simp [Instr.sliceAt, run_underlying hu, Instr.slice, hrun, run_sizeOf hsz]
        · simp at h2
      · split at h2
        · rename_i hb
          obtain ⟨rfl, rfl, rfl, hs, hsi⟩ := hb
          obtain rfl := Option.some.inj h2
          obtain ⟨⟨len, e', s'⟩, hi'⟩ := Option.isSome_iff_exists.1 hsi
          obtain ⟨rfl, hsz⟩ := idx_slice hu hi'
          rcases bound_run hhi hhh with ⟨rfl, rfl, _⟩ | ⟨k2, rfl, rfl⟩
          · simp at hs
          · cases vmx with
            | none => exact hmx.elim
            | some vm =>
              unfold optReal real at hmx
              obtain ⟨rfl, _⟩ := hmx
              refine ⟨.slice a 0 0, ?_, by unfold real; exact ⟨a, rfl⟩⟩
              simp [Instr.sliceAt, run_underlying hu, Instr.slice, bounds0_run (P := P) hlo hl, run_sizeOf hsz]
        · simp at h2
      · simp at h2
    · simp at h
  · simp at h
/-! ### Structs and slices that are written out -/
theorem setAt_real {cs : List V} {l : List Value} (h : reals w D cs l) : ∀ {vs : List V} {us : List Value} (off : Nat), reals w D vs us → reals w D (setAt cs off vs) ((us.zipIdx.foldl (fun cs (c, j) => cs.setIfInBounds (off + j) c) l.toArray).toList) := by
  intro vs us off h2
  have key : ∀ (vs : List V) (us : List Value) (cs : List V) (l : List Value) (k : Nat), reals w D cs l → reals w D vs us →
      reals w D (setAt cs (off + k) vs) (((us.zipIdx k).foldl (fun cs (c, j) => cs.setIfInBounds (off + j) c) l.toArray).toList) := by
    intro vs
    induction vs with
    | nil =>
      intro us cs l k h h2
      unfold reals at h2
      subst h2
      simpa [setAt] using h
    | cons v vs ih =>
      intro us cs l k h h2
      unfold reals at h2
      obtain ⟨u, us', rfl, h3, h4⟩ := h2
      simp only [setAt, List.zipIdx_cons, List.foldl_cons]
      have := ih us' (cs.set (off + k) v) (l.set (off + k) u) (k + 1) (reals_set h _ h3) h4
      rw [show off + k + 1 = off + (k + 1) by omega]
      simpa using this
  simpa using key vs us cs l 0 h h2
theorem setAt_len : ∀ (vs cs : List V) (off : Nat), (setAt cs off vs).length = cs.length
  | [], _, _ => rfl
  | v :: vs, cs, off => by rw [setAt, setAt_len vs]; simp
/-- parts, realized -/
def partsReal (w : World) (D : Nat → Prop) : List (Nat × V) → List (Nat × Value) → Prop
  | [], [] => True
  | (i, X) :: ps, (j, x) :: qs => i = j ∧ real w D X x ∧ partsReal w D ps qs
  | _, _ => False
theorem noTup_spec {X : V} (h : noTup X = true) : ∀ vs, X ≠ .tup vs := by
  rintro vs rfl
  simp [noTup] at h
theorem fill_run {p : Nat → Option (Nat × Nat)} : ∀ {ps : List (Nat × V)} {qs : List (Nat × Value)} {cs : List V} {arr : Array Value} {r : List V}, partsReal w D ps qs → reals w D cs arr.toList → bld cs (ps.map fun x => (p x.1, x.2)) = some r →
    ∃ arr', Instr.fill p arr qs = some arr' ∧ reals w D r arr'.toList
  | [], [], cs, arr, r, _, h, e => by
    simp only [List.map_nil, bld, Option.some.injEq] at e
    subst e
    exact ⟨arr, rfl, h⟩
  | (i, X) :: ps, (j, x) :: qs, cs, arr, r, hp, h, e => by
    simp only [partsReal] at hp
    obtain ⟨rfl, hx, hp⟩ := hp
    simp only [List.map_cons] at e
    cases hpi : p i with
    | none => simp [hpi, bld] at e
    | some on =>
      obtain ⟨off, n⟩ := on
      rw [hpi] at e
      simp only [bld] at e
      split at e
      · rename_i hc
        have hx' := real_cells hx (noTup_spec hc.2.2)
        have hl := reals_len hx'
        have hl2 := reals_len h
        obtain ⟨arr', h1, h2⟩ := fill_run (p := p) (cs := setAt cs off X.cells) (arr := (x.cells.zipIdx.foldl (fun cs (c, j) => cs.setIfInBounds (off + j) c) arr)) hp (by
          have := setAt_real h off hx'
          rw [← Array.foldl_toList]
          simpa using this) e
        refine ⟨arr', ?_, h2⟩
        have e1 : x.cells.size = n := by rw [← hc.1, ← hl]; simp
        have e2 : off + n ≤ arr.size := by
          have h5 : arr.size = cs.length := by rw [← hl2, Array.length_toList]
          have := hc.2.1
          omega
        simp only [Instr.fill, hpi]
        rw [if_neg (by simp [e1]; omega)]
        exact h1
      · simp at e
  | [], _ :: _, _, _, _, hp, _, _ => by simp [partsReal] at hp
  | (_, _) :: _, [], _, _, _, hp, _, _ => by simp [partsReal] at hp
theorem zeroT_spec {t : TypeId} {z : List V} (h : zeroT P t = some z) : ∃ zv, (zeroValue t).run P w = .ok zv w ∧ reals w D z zv.cells.toList ∧ ∃ i, P.info? t = some i ∧ i.zero = some zv := by
  unfold zeroT at h
  obtain ⟨i, hi, h1⟩ := Option.bind_eq_some_iff.1 h
  obtain ⟨zv, hz, h2⟩ := Option.bind_eq_some_iff.1 h1
  split at h2
  · rename_i hall
    obtain rfl := Option.some.inj h2
    refine ⟨zv, by simp [zeroValue, run_typeInfo hi, hz], reals_ofVal1 fun v hv => ?_, i, hi, hz⟩
    simp only [Array.all_eq_true_iff_forall_mem] at hall
    exact hall v (by simpa using hv)
  · simp at h2
theorem mapM_run {α β : Type} {f : α → Sem β} {g : α → β} : ∀ {l : List α}, (∀ x ∈ l, (f x).run P w = .ok (g x) w) → (l.mapM f).run P w = .ok (l.map g) w
  | [], _ => by simp
  | x :: l, h => by
    rw [List.mapM_cons]
    simp [h x (by simp), mapM_run (l := l) fun y hy => h y (by simp [hy])]
theorem qbuild_sound {t : TypeId} {ps : List (Nat × V)} {qs : Array (Nat × Value)} {c : V} (hp : partsReal w D ps qs.toList) (h : qbuild P t ps = some c) : ∃ v, (Instr.build t qs).run P w = .ok v w ∧ real w D c v := by
  unfold qbuild at h
  obtain ⟨z, hz, h1⟩ := Option.bind_eq_some_iff.1 h
  obtain ⟨p, hpl, h2⟩ := Option.bind_eq_some_iff.1 h1
  obtain ⟨r, hb, rfl⟩ := Option.map_eq_some_iff.1 h2
  obtain ⟨zv, hz1, hz2, _⟩ := zeroT_spec (w := w) (D := D) hz
  obtain ⟨arr', h3, h4⟩ := fill_run hp hz2 hb
  refine ⟨.agg arr', ?_, by unfold real; exact ⟨arr', rfl, h4⟩⟩
  unfold placesT at hpl
  split at hpl
  · rename_i fs hu
    split at hpl
    · rename_i hall
      obtain rfl := Option.some.inj hpl
      have hm : (fs.mapM fun f : Field => do pure (f.offset, ← sizeOf f.type)).run P w = .ok (fs.map fun f : Field => (f.offset, (szT P f.type).getD 0)) w := by
        rw [Array.mapM_eq_mapM_toList]
        rw [Sem.run_map, mapM_run (g := fun f : Field => (f.offset, (szT P f.type).getD 0)) (fun f hf => ?_)]
        · simp only [Result.andThen_ok]
          congr 1
          apply Array.toList_inj.1
          simp
        · simp only [Array.all_eq_true_iff_forall_mem] at hall
          obtain ⟨n, hn⟩ := Option.isSome_iff_exists.1 (hall f (by simpa using hf))
          simp [run_sizeOf hn, hn]
      have e : (plc (.inl (fs.toList.map fun f : Field => (f.offset, (szT P f.type).getD 0)))) = fun i => (fs.map fun f : Field => (f.offset, (szT P f.type).getD 0))[i]? := by
        funext i
        simp [plc]
      rw [e] at h3
      simp only [Instr.build, Sem.run_bind, hz1, Result.andThen_ok, run_underlying hu, hm, h3, Sem.run_pure]
    · simp at hpl
  · rename_i k e hu
    obtain ⟨n, hn, rfl⟩ := Option.map_eq_some_iff.1 hpl
    have e : plc (.inr n) = fun i => some (i * n, n) := by funext i; rfl
    rw [e] at h3
    simp only [Instr.build, Sem.run_bind, hz1, Result.andThen_ok, run_underlying hu, run_sizeOf hn, h3, Sem.run_pure]
  · simp at hpl
theorem setAt_eq : ∀ (vs cs : List V) (off : Nat), off + vs.length ≤ cs.length → setAt cs off vs = cs.take off ++ vs ++ cs.drop (off + vs.length)
  | [], cs, off, h => by simp [setAt]
  | v :: vs, cs, off, h => by
    rw [setAt, setAt_eq vs (cs.set off v) (off + 1) (by simp at h ⊢; omega)]
    simp only [List.length_cons] at h ⊢
    have h1 : (cs.set off v).take (off + 1) = cs.take off ++ [v] := by
      rw [List.take_succ_eq_append_getElem (by simp; omega), List.take_set_of_le (by omega)]
      simp
    rw [h1, List.drop_set_of_lt (by omega)]
    rw [show off + 1 + vs.length = off + (vs.length + 1) by omega]
    simp
theorem flat_setAt {s : Nat} {vs : List V} (hv : vs.length = s) : ∀ (L : List (List V)) (i : Nat), (∀ r ∈ L, r.length = s) → i < L.length → setAt L.flatten (i * s) vs = (L.set i vs).flatten
  | [], i, _, h => by simp at h
  | r :: L, 0, hL, h => by
    have hr := hL r (by simp)
    rw [setAt_eq _ _ _ (by simp [hr, hv])]
    simp [hr, hv]
  | r :: L, i + 1, hL, h => by
    have hr := hL r (by simp)
    have hfl : L.flatten.length = L.length * s := flat_len fun r hr => hL r (by simp [hr])
    have ih := flat_setAt hv L i (fun r hr => hL r (by simp [hr])) (by simpa using h)
    have hi : i * s + s ≤ L.length * s := by
      have : i + 1 ≤ L.length := Nat.succ_le_of_lt (by simpa using h)
      have := Nat.mul_le_mul_right s this
      rw [Nat.add_mul] at this
      omega
    have e1 : (i + 1) * s = r.length + i * s := by rw [Nat.add_mul]; omega
    rw [setAt_eq _ _ _ (by rw [hfl, hv]; exact hi)] at ih
    rw [List.flatten_cons, e1, setAt_eq _ _ _ (by rw [List.length_append, hfl, hv]; omega), List.set_cons_succ, List.flatten_cons, ← ih]
    simp [List.take_append, List.drop_append, Nat.add_assoc, List.take_of_length_le (show r.length ≤ r.length + i * s by omega), List.drop_eq_nil_of_le (show r.length ≤ r.length + (i * s + vs.length) by omega)]
theorem bldRows_flat {s : Nat} : ∀ {ps : List (Nat × V)} {L L' : List (List V)}, (∀ r ∈ L, r.length = s) → bldRows s L ps = some L' →
    bld L.flatten (ps.map fun x => (some (x.1 * s, s), x.2)) = some L'.flatten ∧ (∀ r ∈ L', r.length = s) ∧ L'.length = L.length
  | [], L, L', hL, h => by
    simp only [bldRows, Option.some.injEq] at h
    subst h
    exact ⟨rfl, hL, rfl⟩
  | (i, X) :: ps, L, L', hL, h => by
    simp only [bldRows] at h
    split at h
    · rename_i hc
      have hL2 : ∀ r ∈ L.set i X.cells, r.length = s := fun r hr => by
        rcases List.mem_or_eq_of_mem_set hr with h1 | rfl
        · exact hL r h1
        · exact hc.1
      obtain ⟨h1, h2, h3⟩ := bldRows_flat hL2 h
      refine ⟨?_, h2, by rw [h3]; simp⟩
      simp only [List.map_cons, bld]
      have hi : i * s + s ≤ L.length * s := by
        have := Nat.mul_le_mul_right s (show i + 1 ≤ L.length from hc.2.1)
        rw [Nat.add_mul] at this
        omega
      rw [if_pos ⟨hc.1, by rw [flat_len hL]; exact hi, hc.2.2⟩, flat_setAt hc.1 L i hL hc.2.1]
      exact h1
    · simp at h
theorem zeros_real {z : List V} {zs : Array Value} (h : reals w D z zs.toList) (hs : 0 < z.length) (n : Nat) : reals w D (List.replicate n z).flatten ((Array.range (n * zs.size)).map (zs[· % zs.size]!)).toList := by
  have hl : zs.size = z.length := by rw [← reals_len h, Array.length_toList]
  induction n with
  | zero => simp [reals]
  | succ n ih =>
    have e : ((Array.range ((n + 1) * zs.size)).map (zs[· % zs.size]!)).toList = ((Array.range (n * zs.size)).map (zs[· % zs.size]!)).toList ++ zs.toList := by
      apply List.ext_getElem
      · simp [Nat.add_mul]
      · intro i h1 h2
        simp only [Array.toList_map, Array.toList_range, List.getElem_map, List.getElem_range, List.getElem_append, List.length_map, List.length_range]
        split
        · rfl
        · rename_i hi
          simp only [Array.toList_map, Array.toList_range, List.length_map, List.length_range, Nat.add_mul] at h1
          have e2 : i % zs.size = i - n * zs.size := by
            have e3 : i = (i - n * zs.size) + n * zs.size := by omega
            conv => lhs; rw [e3]
            rw [Nat.add_mul_mod_self_right, Nat.mod_eq_of_lt (by omega)]
          rw [e2, getElem!_pos zs _ (by omega)]
          simp
    rw [e, List.replicate_succ', List.flatten_append]
    refine reals_append ih ?_
    simpa using h
theorem qbuildSlice_sound {H : Heap} (hS : Sim w H) {t : TypeId} {n : Nat} {ps : List (Nat × V)} {qs : Array (Nat × Value)} {c : V} (hp : partsReal w (imm w H) ps qs.toList) (h : qbuildSlice P t n ps = some c) :
    ∃ v w', (Instr.buildSlice t n qs).run P w = .ok v w' ∧ Evo w H w' H ∧ Sim w' H ∧ real w' (imm w' H) c v := by
  unfold qbuildSlice at h
  split at h
  · rename_i hT
    obtain ⟨e, hu⟩ := isSliceT_spec hT
    obtain ⟨⟨len, e', s⟩, hi', h1⟩ := Option.bind_eq_some_iff.1 h
    obtain ⟨rfl, hsz⟩ := idx_slice hu hi'
    simp only at h1
    split at h1
    · rename_i hc
      obtain ⟨rfl, hps⟩ := hc
      obtain rfl := Option.some.inj h1
      obtain rfl := List.eq_nil_of_length_eq_zero hps
      have hq : qs.toList = [] := by
        cases hqs : qs.toList with
        | nil => rfl
        | cons q qs' => rw [hqs] at hp; simp [partsReal] at hp
      obtain ⟨hE, hS', _⟩ := evo_alloc hS (.cells #[] e')
      refine ⟨.slice (some ⟨w.heap.size, 0, none⟩) 0 0, w.alloc (.cells #[] e'), ?_, hE, hS', by unfold real; exact ⟨_, rfl⟩⟩
      have hr0 : Array.range 0 = #[] := rfl
      simp [Instr.buildSlice, run_underlying hu, run_sizeOf hsz, hq, Instr.fill, newRow, hr0]
    · split at h1
      · rename_i hc
        obtain ⟨z, hz, h2⟩ := Option.bind_eq_some_iff.1 h1
        split at h2
        · rename_i hzl
          obtain ⟨L, hL, rfl⟩ := Option.map_eq_some_iff.1 h2
          obtain ⟨zv, hz1, hz2, _⟩ := zeroT_spec (w := w) (D := imm w H) hz
          have hzs : zv.cells.size = s := by rw [← hzl, ← reals_len hz2, Array.length_toList]
          obtain ⟨h3, h4, h5⟩ := bldRows_flat (s := s) (fun r hr => by rw [List.eq_of_mem_replicate hr]; exact hzl) hL
          obtain ⟨arr', h6, h7⟩ := fill_run (p := fun i => some (i * s, s)) hp (zeros_real hz2 (by omega) n) h3
          obtain ⟨hE, hS', hi⟩ := evo_alloc hS (.cells arr' e')
          refine ⟨.slice (some ⟨w.heap.size, 0, none⟩) n n, w.alloc (.cells arr' e'), ?_, hE, hS', ?_⟩
          · have hle : ¬ (16777216 < n * s) := by omega
            have hne : ¬ (n * s = 0) := by
              intro h0
              rcases Nat.mul_eq_zero.1 h0 with h0 | h0
              · subst h0
                simp at h5
                subst h5
                simp at hc
                cases ps with
                | nil => simp at *
                | cons p ps => simp [bldRows] at hL
              · omega
            rw [hzs] at h6
            have h24 : ¬ (n * s > 2 ^ 24) := by
              have : (2 : Nat) ^ 24 = 16777216 := by decide
              omega
            simp only [Instr.buildSlice, Sem.run_bind, run_underlying hu, Result.andThen_ok, run_sizeOf hsz, if_neg h24, if_neg hne, Sem.run_pure, hz1, hzs, h6, newRow, run_newObj]
            rfl
          · unfold real
            refine ⟨_, n, n, rfl, by simpa using h5.symm, Nat.le_refl _, ?_⟩
            by_cases hnil : L = []
            · exact .inl hnil
            · right
              refine ⟨w.heap.size, 0, rfl, hi, rows_of_flat h4 (cells_of_reals (reals_keeps hE.keeps _ _ h7) fun j v hj => ?_)⟩
              rw [Nat.zero_add, alloc_cell]
              simpa using hj
        · simp at h2
      · simp at h1
  · simp at h
theorem len_run {H : Heap} (hS : Sim w H) {ts : Array TypeId} {ty : TypeId} {X c : V} {x : Value} (hx : real w (imm w H) X x) (h : qbuiltin P H .len ts [X] = some c) : ∃ v, (Builtin.len_ ts ty #[x]).run P w = .ok v w ∧ real w (imm w H) c v := by
  simp only [qbuiltin] at h
  obtain ⟨t, ht, h1⟩ := Option.bind_eq_some_iff.1 h
  unfold qlen at h1
  split at h1
  · rename_i z hu
    unfold real at hx
    obtain ⟨rfl, _⟩ := hx
    obtain rfl := Option.some.inj h1
    exact ⟨_, by simp [Builtin.len_, ht, run_underlying hu, goInt], real_val rfl⟩
  · rename_i e hu
    obtain ⟨n, hn, rfl⟩ := Option.map_eq_some_iff.1 h1
    unfold lenV at hn
    split at hn
    · unfold real at hx
      obtain ⟨a, m, cap, rfl, rfl, _⟩ := hx
      obtain rfl := Option.some.inj hn
      exact ⟨_, by simp [Builtin.len_, ht, run_underlying hu, goInt], real_val rfl⟩
    · unfold real at hx
      obtain ⟨o, rfl, _⟩ := hx
      obtain rfl := Option.some.inj hn
      exact ⟨_, by simp [Builtin.len_, ht, run_underlying hu, goInt], real_val rfl⟩
    · unfold real at hx
      obtain ⟨a, rfl⟩ := hx
      obtain rfl := Option.some.inj hn
      exact ⟨_, by simp [Builtin.len_, ht, run_underlying hu, goInt], real_val rfl⟩
    · simp at hn
  · rename_i k e hu
    unfold real at hx
    obtain ⟨rfl, _⟩ := hx
    obtain rfl := Option.some.inj h1
    exact ⟨_, by simp [Builtin.len_, ht, run_underlying hu, goInt], real_val rfl⟩
  · rename_i k e r hu
    unfold real at hx
    obtain ⟨rfl, _⟩ := hx
    split at h1
    · rename_i es hr
      obtain rfl := Option.some.inj h1
      obtain ⟨ents, clock, h2, h3, _⟩ := hS r _ hr
      have hl : ents.size = es.length := by
        clear hr h1 h2
        have key : ∀ (es : List (Int × V)) (l : List MapEntry), entsAt w (imm w H) es l → l.length = es.length := by
          intro es
          induction es with
          | nil => intro l hl; unfold entsAt at hl; simp [hl]
          | cons a es ih =>
            intro l hl
            obtain ⟨k, v⟩ := a
            unfold entsAt at hl
            obtain ⟨e, l', rfl, _, _, h4⟩ := hl
            simp [ih l' h4]
        simpa using key es _ h3
      have hg : (getObj r).run P w = .ok (.map ents clock) w := by simp [getObj, Sem.run, h2]
      exact ⟨_, by simp [Builtin.len_, ht, run_underlying hu, goInt, hg, hl], real_val rfl⟩
    · simp at h1
  · rename_i n e hu
    obtain rfl := Option.some.inj h1
    exact ⟨_, by simp [Builtin.len_, ht, run_underlying hu, goInt], real_val rfl⟩
  · simp at h1
theorem run_getObj {r : Nat} {o : Obj} (h : w.heap[r]? = some o) (ho : ∀ c t z, o ≠ .cells c t z) : (getObj r).run P w = .ok o w := by
  simp only [getObj, Sem.run, h]
theorem find_run {kd : IntKind} {n : Int} : ∀ {es : List (Int × V)} {l : List MapEntry} (i : Nat), entsAt w D es l →
    match mget es n with
    | none => Instr.findNow (.int kd) (.int .i64 n) l i = some none
    | some X => ∃ j v, Instr.findNow (.int kd) (.int .i64 n) l i = some (some (i + j, v)) ∧ real w D X v ∧ ∃ e, l[j]? = some e ∧ e.val = v ∧ e.key = .int .i64 n
  | [], l, i, h => by
    unfold entsAt at h
    subst h
    rfl
  | (k, X) :: es, l, i, h => by
    unfold entsAt at h
    obtain ⟨e, l', rfl, hk, hv, h'⟩ := h
    simp only [mget]
    by_cases hkn : k = n
    · subst hkn
      rw [if_pos rfl]
      refine ⟨0, e.val, ?_, hv, e, by simp, rfl, hk⟩
      simp [Instr.findNow, hk, Instr.sameNow]
    · rw [if_neg hkn]
      have ih := find_run (kd := kd) (n := n) (i + 1) h'
      have e1 : Instr.findNow (.int kd) (.int .i64 n) (e :: l') i = Instr.findNow (.int kd) (.int .i64 n) l' (i + 1) := by
        have : (n == k) = false := by simpa using fun h => hkn h.symm
        simp [Instr.findNow, hk, Instr.sameNow, this]
      rw [e1]
      cases hm : mget es n with
      | none => rw [hm] at ih; exact ih
      | some Y =>
        rw [hm] at ih
        obtain ⟨j, v, h1, h2, e, h3, h4⟩ := ih
        exact ⟨j + 1, v, by rw [h1]; simp [Nat.add_assoc, Nat.add_comm 1 j], h2, e, by simpa using h3, h4⟩
theorem checkKey_int {b : Bool} {d : Nat} {t : TypeId} {kd k : IntKind} {n : Int} (h : P.underlying t = some (.int kd)) : (Instr.checkKey b (d + 1) t (.int k n)).run P w = .ok () w := by
  simp [Instr.checkKey, run_underlying h]
theorem mapT_spec {t e : TypeId} {z : V} (h : mapT P t = some (e, z)) : ∃ k kd zv, P.underlying t = some (.map k e) ∧ P.underlying k = some (.int kd) ∧ (zeroValue e).run P w = .ok zv w ∧ real w D z zv := by
  unfold mapT at h
  split at h
  · rename_i k e' hu
    split at h
    · rename_i kd hk
      obtain ⟨i, hi, h1⟩ := Option.bind_eq_some_iff.1 h
      obtain ⟨zv, hz, h2⟩ := Option.bind_eq_some_iff.1 h1
      split at h2
      · rename_i hc
        simp only [Option.some.injEq, Prod.mk.injEq] at h2
        obtain ⟨rfl, rfl⟩ := h2
        exact ⟨k, kd, zv, hu, hk, by simp [zeroValue, run_typeInfo hi, hz], real_ofVal hc⟩
      · simp at h2
    · simp at h
  · simp at h
theorem qlookup_sound {H : Heap} (hS : Sim w H) {T : TypeId} {X K c : V} {x k : Value} {ok : Bool} (hx : real w (imm w H) X x) (hk : real w (imm w H) K k) (h : qlookup P H T X K ok = some c) : ∃ v, (Instr.lookup T x k ok).run P w = .ok v w ∧ real w (imm w H) c v := by
  unfold qlookup at h
  obtain ⟨⟨e, z⟩, hm, h1⟩ := Option.bind_eq_some_iff.1 h
  obtain ⟨kt, kd, zv, hu, hkt, hz, hzr⟩ := mapT_spec (w := w) (D := imm w H) hm
  simp only at h1
  split at h1
  · rename_i n
    unfold real at hk
    obtain ⟨rfl, _⟩ := hk
    obtain ⟨es, hr, rfl⟩ := Option.map_eq_some_iff.1 h1
    have pairR : ∀ v b, real w (imm w H) ((mget es n).getD z) v → b = (mget es n).isSome → real w (imm w H) (okV ok z (mget es n)) (if ok then .tuple #[v, .bool b] else v) := by
      rintro v b hv rfl
      unfold okV
      cases ok
      · simpa using hv
      · simp only [if_true]
        unfold real
        refine ⟨_, rfl, ?_⟩
        simp only [realt]
        exact ⟨_, _, rfl, hv, _, _, rfl, real_val rfl, rfl⟩
    have hc := fun bb => checkKey_int (P := P) (w := w) (b := bb) (d := 9999) (k := .i64) (n := n) hkt
    unfold mapOf at hr
    split at hr
    · obtain rfl := Option.some.inj hr
      unfold real at hx
      obtain ⟨rfl, _⟩ := hx
      refine ⟨_, ?_, pairR zv false hzr rfl⟩
      simp [Instr.lookup, run_underlying hu, hc, Instr.findKey, run_underlying hkt, Instr.findNow, hz]
    · rename_i b
      split at hr
      · rename_i es' hb
        obtain rfl := Option.some.inj hr
        unfold real at hx
        obtain ⟨rfl, _⟩ := hx
        obtain ⟨ents, clock, h2, h3, _⟩ := hS b _ hb
        have hg := run_getObj (P := P) h2 (by simp)
        have hf := find_run (kd := kd) (n := n) 0 h3
        cases hmg : mget es' n with
        | none =>
          rw [hmg] at hf pairR
          refine ⟨_, ?_, pairR zv false hzr rfl⟩
          simp [Instr.lookup, run_underlying hu, hg, hc, Instr.findKey, run_underlying hkt, hf, hz]
        | some Y =>
          rw [hmg] at hf pairR
          obtain ⟨j, v, h4, h5, _⟩ := hf
          refine ⟨_, ?_, pairR v true h5 rfl⟩
          simp [Instr.lookup, run_underlying hu, hg, hc, Instr.findKey, run_underlying hkt, h4]
      · simp at hr
    · simp at hr
  · simp at h1
/-- arguments, realized -/
def argsReal (w : World) (D : Nat → Prop) : List V → List Value → Prop
  | [], [] => True
  | X :: Xs, x :: xs => real w D X x ∧ argsReal w D Xs xs
  | _, _ => False
theorem args_map {H : Heap} {ρ : Env} {a : Act} (hR : RA w H ρ a) : ∀ (l : List Operand), (∀ x ∈ l, Operand.ok x = true) → argsReal w (imm w H) (l.map (ev ρ)) (l.map a.eval)
  | [], _ => trivial
  | x :: l, h => ⟨hR.ev (h x (by simp)), args_map hR l fun y hy => h y (by simp [hy])⟩
theorem parts_map {H : Heap} {ρ : Env} {a : Act} (hR : RA w H ρ a) : ∀ (l : List (Nat × Operand)), (∀ x ∈ l, Operand.ok x.2 = true) → partsReal w (imm w H) (l.map fun x => (x.1, ev ρ x.2)) (l.map fun x => (x.1, a.eval x.2))
  | [], _ => trivial
  | x :: l, h => ⟨rfl, hR.ev (h x (by simp)), parts_map hR l fun y hy => h y (by simp [hy])⟩
theorem opt_map {H : Heap} {ρ : Env} {a : Act} (hR : RA w H ρ a) (x : Option Operand) (h : ∀ y, x = some y → Operand.ok y = true) : optReal w (imm w H) (x.map (ev ρ)) (x.map a.eval) := by
  cases x with
  | none => trivial
  | some x => exact hR.ev (h x rfl)
def Op.oks (o : Op) : Bool := o.operands.all Operand.ok
theorem Op.oks_mem {o : Op} (h : Op.oks o = true) {x : Operand} (hx : x ∈ o.operands.toList) : Operand.ok x = true := by
  unfold Op.oks at h
  simp only [Array.all_eq_true_iff_forall_mem] at h
  exact h x (by simpa using hx)
end

/-- A quiet operation does what qop says. -/
theorem qop_sound {P : Program} {w : World} {H : Heap} {ρ : Env} {a : Act} {o : Oper} {c : V} (hR : RA w H ρ a) (hS : Sim w H) (hok : Op.oks o.op = true) (h : qop P H ρ o.op = some c) :
    ∃ v w', (execOp a.eval o).run P w = .ok (.value v) w' ∧ Evo w H w' H ∧ Sim w' H ∧ real w' (imm w' H) c v := by
  have same : (∃ v, (execOp a.eval o).run P w = .ok (.value v) w ∧ real w (imm w H) c v) → ∃ v w', (execOp a.eval o).run P w = .ok (.value v) w' ∧ Evo w H w' H ∧ Sim w' H ∧ real w' (imm w' H) c v :=
    fun ⟨v, h1, h2⟩ => ⟨v, w, h1, Evo.refl _ _, hS, h2⟩
  obtain ⟨dst, op, type, pos, after, guard⟩ := o
  simp only at hok h same ⊢
  have hm := fun x hx => Op.oks_mem hok (x := x) hx
  cases op <;> simp only [qop] at h
  case move x =>
    obtain rfl := Option.some.inj h
    exact same ⟨_, by simp [execOp], hR.ev (hm x (by simp [Op.operands]))⟩
  case assign x =>
    obtain rfl := Option.some.inj h
    exact same ⟨_, by simp [execOp], hR.ev (hm x (by simp [Op.operands]))⟩
  case pick cc x y =>
    have hc := hR.ev (hm cc (by simp [Op.operands]))
    split at h
    · rename_i t hv
      rw [hv] at hc
      unfold real at hc
      obtain ⟨e, _⟩ := hc
      obtain rfl := Option.some.inj h
      refine same ⟨if t then a.eval x else a.eval y, by simp [execOp, e, asBool], ?_⟩
      cases t
      · simpa using hR.ev (hm y (by simp [Op.operands]))
      · simpa using hR.ev (hm x (by simp [Op.operands]))
    · simp at h
  case box T x =>
    split at h
    · rename_i hc
      obtain rfl := Option.some.inj h
      have hx := real_cells (hR.ev (hm x (by simp [Op.operands]))) (noTup_spec hc)
      obtain ⟨hE, hS', hi⟩ := evo_alloc hS (.cells (a.eval x).cells T)
      refine ⟨.pointer (some ⟨w.heap.size, 0, none⟩), w.alloc (.cells (a.eval x).cells T), by simp [execOp, Instr.box, newVar, newRow], hE, hS', ?_⟩
      unfold real
      refine ⟨_, 0, rfl, hi, cells_of_reals (reals_keeps hE.keeps _ _ hx) fun j v hj => ?_⟩
      rw [Nat.zero_add, alloc_cell]
      simpa using hj
    · simp at h
  case build T ps =>
    have hp := parts_map hR ps.toList fun x hx => hm x.2 (by simp only [Op.operands]; exact List.mem_map.2 ⟨x, hx, rfl⟩)
    obtain ⟨v, h1, h2⟩ := qbuild_sound (P := P) (t := T) (qs := ps.map fun x => (x.1, a.eval x.2)) (by simpa using hp) h
    exact same ⟨v, by simp only [execOp, Sem.run_bind, h1, Result.andThen_ok, Sem.run_pure], h2⟩
  case buildSlice T n ps =>
    have hp := parts_map hR ps.toList fun x hx => hm x.2 (by simp only [Op.operands]; exact List.mem_map.2 ⟨x, hx, rfl⟩)
    obtain ⟨v, w', h1, h2, h3, h4⟩ := qbuildSlice_sound (P := P) hS (t := T) (qs := ps.map fun x => (x.1, a.eval x.2)) (by simpa using hp) h
    exact ⟨v, w', by simp only [execOp, Sem.run_bind, h1, Result.andThen_ok, Sem.run_pure], h2, h3, h4⟩
  case load T x =>
    obtain ⟨v, h1, h2⟩ := ldAt_sound (P := P) hS (hR.ev (hm x (by simp [Op.operands]))) h
    exact same ⟨v, by simp [execOp, h1], h2⟩
  case nilCheck x =>
    have hx := hR.ev (hm x (by simp [Op.operands]))
    split at h
    · rename_i b s i f hv
      rw [hv] at hx
      obtain rfl := Option.some.inj h
      have hx' := hx
      unfold real at hx'
      exact same ⟨a.eval x, by simp [execOp, hx'], hx⟩
    · rename_i cs hv
      rw [hv] at hx
      obtain rfl := Option.some.inj h
      have hx' := hx
      unfold real at hx'
      obtain ⟨b, off, e, _⟩ := hx'
      exact same ⟨a.eval x, by simp [execOp, e], hx⟩
    · rename_i f cs hv
      rw [hv] at hx
      obtain rfl := Option.some.inj h
      have hx' := hx
      unfold real at hx'
      obtain ⟨arr, e, _⟩ := hx'
      exact same ⟨a.eval x, by simp [execOp, e], hx⟩
    · simp at h
  case binOp bo T x y yT =>
    obtain ⟨h0, v, h1, h2⟩ := qbin_sound (P := P) (ox := x) (oy := y) (hR.ev (hm x (by simp [Op.operands]))) (hR.ev (hm y (by simp [Op.operands]))) h
    exact same ⟨v, by simp [execOp, h0, h1], h2⟩
  case unOp uo T x =>
    obtain ⟨v, h1, h2⟩ := qun_sound (P := P) (hR.ev (hm x (by simp [Op.operands]))) h
    exact same ⟨v, by simp [execOp, h1], h2⟩
  case convert s d x =>
    obtain ⟨v, h1, h2⟩ := qconv_sound (P := P) (hR.ev (hm x (by simp [Op.operands]))) h
    exact same ⟨v, by simp [execOp, h1], h2⟩
  case makeFunc fn first caps =>
    cases fn <;> simp only at h <;> first | (simp at h; done) | skip
    split at h
    · rename_i f hc
      obtain rfl := Option.some.inj h
      have hf : first = #[] := by simpa using hc.1
      subst hf
      refine same ⟨.func (.func f) #[] (caps.map a.eval), by simp [execOp, Instr.makeFunc], ?_⟩
      unfold real
      refine ⟨_, rfl, ?_⟩
      have key : ∀ l : List Operand, (∀ x ∈ l, Operand.ok x = true) → ((l.map (ev ρ)).all fun v => match v with | .agg _ => false | .tup _ => false | _ => true) = true → reals w (imm w H) (l.map (ev ρ)) (l.map a.eval) := by
        intro l
        induction l with
        | nil => intro _ _; simp [reals]
        | cons x l ih =>
          intro hl hall
          simp only [List.map_cons, List.all_cons, Bool.and_eq_true] at hall
          simp only [List.map_cons]
          unfold reals
          have hx := hR.ev (hl x (by simp))
          have h1 := (real_one hx (by intro cs e; rw [e] at hall; simp at hall) (by intro cs e; rw [e] at hall; simp at hall)).1
          exact ⟨_, _, rfl, ⟨hx, h1⟩, ih (fun y hy => hl y (by simp [hy])) hall.2⟩
      have := key caps.toList (fun x hx => hm x (by simp [Op.operands]; exact by simpa using hx)) hc.2
      simpa using this
    · simp at h
  case slice T x lo hi mx =>
    obtain ⟨v, h1, h2⟩ := qslice_sound (P := P) (hR.ev (hm x (by simp [Op.operands]))) (opt_map hR lo fun y hy => hm y (by simp [Op.operands, hy])) (opt_map hR hi fun y hy => hm y (by simp [Op.operands, hy])) (opt_map hR mx fun y hy => hm y (by simp [Op.operands, hy])) h
    exact same ⟨v, by simp [execOp, h1], h2⟩
  case fieldAddr T x k =>
    obtain ⟨v, h1, h2⟩ := qfield_sound (P := P) (hR.ev (hm x (by simp [Op.operands]))) h
    exact same ⟨v, by simp [execOp, h1], h2⟩
  case field T x k =>
    obtain ⟨v, h1, h2⟩ := qpart_sound (P := P) (hR.ev (hm x (by simp [Op.operands]))) h
    exact same ⟨v, by simp [execOp, h1], h2⟩
  case indexAddr T x i =>
    obtain ⟨v, h1, h2⟩ := qindexAddr_sound (P := P) (hR.ev (hm x (by simp [Op.operands]))) (hR.ev (hm i (by simp [Op.operands]))) h
    exact same ⟨v, by simp [execOp, h1], h2⟩
  case index T x i =>
    obtain ⟨v, h1, h2⟩ := qindex_sound (P := P) (hR.ev (hm x (by simp [Op.operands]))) (hR.ev (hm i (by simp [Op.operands]))) h
    exact same ⟨v, by simp [execOp, h1], h2⟩
  case lookup T x k ok =>
    obtain ⟨v, h1, h2⟩ := qlookup_sound (P := P) hS (hR.ev (hm x (by simp [Op.operands]))) (hR.ev (hm k (by simp [Op.operands]))) h
    exact same ⟨v, by simp [execOp, h1], h2⟩
  case extract x i =>
    have hx := hR.ev (hm x (by simp [Op.operands]))
    split at h
    · rename_i vs hv
      rw [hv] at hx
      unfold real at hx
      obtain ⟨arr, e, hr⟩ := hx
      have key : ∀ (vs : List V) (l : List Value) (i : Nat), realt w (imm w H) vs l → vs[i]? = some c → ∃ v, l[i]? = some v ∧ real w (imm w H) c v := by
        intro vs
        induction vs with
        | nil => intro l i _ h; simp at h
        | cons u us ih =>
          intro l i hl hi
          unfold realt at hl
          obtain ⟨v, l', rfl, h1, h2⟩ := hl
          cases i with
          | zero => simp at hi; subst hi; exact ⟨v, by simp, h1⟩
          | succ i => simpa using ih l' i h2 (by simpa using hi)
      obtain ⟨v, h1, h2⟩ := key vs _ i hr h
      exact same ⟨v, by simp [execOp, e, Instr.extract, show arr[i]? = some v by simpa using h1], h2⟩
    · simp at h
  case call cl =>
    obtain ⟨callee, args, ts⟩ := cl
    cases callee <;> simp only [qop] at h <;> first | (cases h; done) | skip
    rename_i b
    have ha := args_map hR args.toList fun x hx => hm x (by simp [Op.operands, Call.operands]; exact by simpa using hx)
    generalize hXs : args.toList.map (ev ρ) = Xs at h ha
    generalize hxs : args.toList.map a.eval = xs at ha
    have hargs : args.map a.eval = xs.toArray := by rw [← hxs]; apply Array.toList_inj.1; simp
    cases b
    case len =>
      cases Xs with
      | nil => simp [qbuiltin] at h
      | cons X Xs => cases Xs with
        | cons _ _ => simp [qbuiltin] at h
        | nil => cases xs with
          | nil => simp [argsReal] at ha
          | cons x xs => cases xs with
            | cons _ _ => simp [argsReal] at ha
            | nil =>
              obtain ⟨v, h1, h2⟩ := len_run (P := P) (ty := type) hS ha.1 h
              exact same ⟨v, by simp [execOp, resolve, invoke, builtin, hargs, h1], h2⟩
    case max =>
      simp only [qbuiltin, qmax] at h
      split at h
      · rename_i k x k' y
        obtain rfl := Option.some.inj h
        cases xs with
        | nil => simp [argsReal] at ha
        | cons u xs => cases xs with
          | nil => simp [argsReal] at ha
          | cons v xs => cases xs with
            | cons _ _ => simp [argsReal] at ha
            | nil =>
              simp only [argsReal, real] at ha
              obtain ⟨⟨rfl, _⟩, ⟨rfl, _⟩, _⟩ := ha
              exact same ⟨_, by simp [execOp, resolve, invoke, builtin, hargs, Builtin.max_, Builtin.max2], real_val rfl⟩
      · simp at h
    case min =>
      simp only [qbuiltin, qmin] at h
      split at h
      · rename_i k x k' y
        obtain rfl := Option.some.inj h
        cases xs with
        | nil => simp [argsReal] at ha
        | cons u xs => cases xs with
          | nil => simp [argsReal] at ha
          | cons v xs => cases xs with
            | cons _ _ => simp [argsReal] at ha
            | nil =>
              simp only [argsReal, real] at ha
              obtain ⟨⟨rfl, _⟩, ⟨rfl, _⟩, _⟩ := ha
              exact same ⟨_, by simp [execOp, resolve, invoke, builtin, hargs, Builtin.min_, Builtin.min2], real_val rfl⟩
      · simp at h
    all_goals (simp only [qbuiltin] at h; cases h)
  all_goals (simp at h; done)
end Go.Proofs.Ytpppgmoiginedaa.Q
