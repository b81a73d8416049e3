/- All operations that make or write memory, or call. -/
import Derived.Test.YtpppgmoiginedaaQf
namespace Go.Proofs.Ytpppgmoiginedaa.Q
open Go Go.RowKit
set_option linter.unusedVariables false
set_option linter.unusedSimpArgs false
section
variable {P : Program} {w w' : World} {H H' : Heap}
theorem fresh_alloc (hS : Sim w H) {arr : Array Value} {t : TypeId} {s cap : Nat} {L : List (List V)} (hc : L.length ≤ cap) (hsz : arr.size = cap * s) (hl : ∀ r ∈ L, r.length = s) (hr : reals w (imm w H) L.flatten (arr.toList.take (L.length * s))) :
    H w.heap.size = none ∧ Evo w H (w.alloc (.cells arr t)) (H.set w.heap.size (.row s L cap)) ∧ Sim (w.alloc (.cells arr t)) (H.set w.heap.size (.row s L cap)) := by
  obtain ⟨hE, hS', hi⟩ := evo_alloc hS (.cells arr t)
  have hk : ∀ b, b < w.heap.size → (w.alloc (.cells arr t)).heap[b]? = w.heap[b]? := fun b hb => Below.heap_alloc _ _ _ hb
  refine evo_new hS (.cells arr t) (.row s L cap) fun H2 hH2 => ⟨arr, t, alloc_at w _, hc, hsz, rows_of_flat hl ?_⟩
  have hK : Keeps w (imm w H) (w.alloc (.cells arr t)) (imm (w.alloc (.cells arr t)) H2) := fun b hb => ⟨hk b hb.1, by have := hb.1; simp; omega, by rw [hH2 b hb.1]; exact hb.2⟩
  refine cells_of_reals (reals_keeps hK _ _ hr) fun j v hj => ?_
  rw [Nat.zero_add, alloc_cell]
  rw [List.getElem?_take] at hj
  split at hj
  · simpa using hj
  · simp at hj
/-- keys and births of a map's entries -/
theorem put_ents {D : Nat → Prop} {n : Int} {X : V} {x : Value} (hx : real w D X x) : ∀ {es : List (Int × V)} {l : List MapEntry} {clock : Nat}, entsAt w D es l → (l.map (·.born)).Nodup → (∀ e ∈ l, e.born < clock) →
    mget es n = none → entsAt w D (mput es n X) (l ++ [({ key := .int .i64 n, val := x, born := clock } : MapEntry)]) ∧ ((l ++ [({ key := .int .i64 n, val := x, born := clock } : MapEntry)]).map (·.born)).Nodup := by
  intro es l clock h hnd hlt hg
  constructor
  · clear hnd hlt
    induction es generalizing l with
    | nil =>
      unfold entsAt at h
      subst h
      simp only [mput, List.nil_append]
      unfold entsAt
      exact ⟨_, _, rfl, rfl, hx, by unfold entsAt; rfl⟩
    | cons a es ih =>
      obtain ⟨k, Y⟩ := a
      unfold entsAt at h
      obtain ⟨e, l', rfl, hk, hv, h'⟩ := h
      simp only [mget] at hg
      split at hg
      · simp at hg
      · rename_i hkn
        simp only [mput, if_neg hkn, List.cons_append]
        unfold entsAt
        exact ⟨e, _, rfl, hk, hv, ih h' hg⟩
  · rw [List.map_append, List.nodup_append]
    refine ⟨hnd, by simp, fun a ha b hb => ?_⟩
    obtain ⟨e, he, rfl⟩ := List.mem_map.1 ha
    simp at hb
    subst hb
    have := hlt e he
    omega
theorem mod_ents {D : Nat → Prop} {n : Int} {X : V} {x : Value} (hx : real w D X x) : ∀ {es : List (Int × V)} {l : List MapEntry} {i : Nat} {Y : V}, entsAt w D es l → mget es n = some Y →
    ∀ {kd : IntKind} {j : Nat} {v : Value}, Instr.findNow (.int kd) (.int .i64 n) l i = some (some (i + j, v)) → entsAt w D (mput es n X) (l.modify j fun e => { e with key := .int .i64 n, val := x })
  | [], l, i, Y, h, hg, _, _, _, _ => by simp [mget] at hg
  | (k, Z) :: es, l, i, Y, h, hg, kd, j, v, hf => by
    unfold entsAt at h
    obtain ⟨e, l', rfl, hk, hv, h'⟩ := h
    simp only [mget] at hg
    simp only [mput]
    by_cases hkn : k = n
    · subst hkn
      rw [if_pos rfl]
      simp [Instr.findNow, hk, Instr.sameNow] at hf
      obtain ⟨rfl, _⟩ := hf
      simp only [List.modify_zero_cons]
      unfold entsAt
      exact ⟨_, _, rfl, rfl, hx, h'⟩
    · rw [if_neg hkn] at hg ⊢
      have hne : (n == k) = false := by simpa using fun h => hkn h.symm
      simp only [Instr.findNow, hk, Instr.sameNow, hne, if_true] at hf
      have hj : ∃ j', j = j' + 1 := by
        have hfr := find_run (kd := kd) (n := n) (i + 1) h'
        rw [hg] at hfr
        obtain ⟨j', v', h1, _⟩ := hfr
        rw [h1] at hf
        simp at hf
        exact ⟨j', by omega⟩
      obtain ⟨j', rfl⟩ := hj
      rw [List.modify_succ_cons]
      unfold entsAt
      exact ⟨e, _, rfl, hk, hv, mod_ents hx (i := i + 1) h' hg (by rw [show i + 1 + j' = i + (j' + 1) by omega]; exact hf)⟩
theorem del_ents {D : Nat → Prop} {n : Int} : ∀ {es : List (Int × V)} {l : List MapEntry} {i : Nat}, entsAt w D es l →
    (mget es n = none → entsAt w D (mdel es n) l) ∧ ∀ {kd : IntKind} {j : Nat} {v : Value}, Instr.findNow (.int kd) (.int .i64 n) l i = some (some (i + j, v)) → entsAt w D (mdel es n) (l.eraseIdx j)
  | [], l, i, h => by
    unfold entsAt at h
    subst h
    exact ⟨fun _ => by simp [mdel, entsAt], fun hf => by simp [Instr.findNow] at hf⟩
  | (k, Z) :: es, l, i, h => by
    unfold entsAt at h
    obtain ⟨e, l', rfl, hk, hv, h'⟩ := h
    by_cases hkn : k = n
    · subst hkn
      refine ⟨fun hg => by simp [mget] at hg, fun hf => ?_⟩
      simp [Instr.findNow, hk, Instr.sameNow] at hf
      obtain ⟨rfl, _⟩ := hf
      simp only [mdel, if_true, List.eraseIdx_cons_zero]
      exact h'
    · have hne : (n == k) = false := by simpa using fun h => hkn h.symm
      obtain ⟨ih1, ih2⟩ := del_ents (n := n) (i := i + 1) h'
      refine ⟨fun hg => ?_, fun {kd j v} hf => ?_⟩
      · simp only [mget, if_neg hkn] at hg
        simp only [mdel, if_neg hkn]
        unfold entsAt
        exact ⟨e, _, rfl, hk, hv, ih1 hg⟩
      · simp only [Instr.findNow, hk, Instr.sameNow, hne, if_true] at hf
        simp only [mdel, if_neg hkn]
        have hj : ∃ j', j = j' + 1 := by
          have hfr := find_run (kd := kd) (n := n) (i + 1) h'
          cases hg : mget es n with
          | none => rw [hg] at hfr; rw [hfr] at hf; simp at hf
          | some Y =>
            rw [hg] at hfr
            obtain ⟨j', v', h1, _⟩ := hfr
            rw [h1] at hf
            simp at hf
            exact ⟨j', by omega⟩
        obtain ⟨j', rfl⟩ := hj
        rw [List.eraseIdx_cons_succ]
        unfold entsAt
        exact ⟨e, _, rfl, hk, hv, ih2 (by rw [show i + 1 + j' = i + (j' + 1) by omega]; exact hf)⟩
theorem setObj_run {b : Nat} {o o' : Obj} (h : w.heap[b]? = some o) (ho : ∀ c t z, o ≠ .cells c t z) : (setObj b o').run P w = .ok () { w with heap := w.heap.setIfInBounds b o' } := by
  simp only [setObj, Sem.run, h]
theorem evo_obj (hS : Sim w H) {b : Nat} {x : Ob} (hb : H b = some x) {es : List (Int × V)} {ents : Array MapEntry} {clock : Nat} (h1 : entsAt w (imm w H) es ents.toList) (h2 : (ents.toList.map (·.born)).Nodup) (h3 : ∀ e ∈ ents.toList, e.born < clock) :
    Evo w H { w with heap := w.heap.setIfInBounds b (.map ents clock) } (H.set b (.map es)) ∧ Sim { w with heap := w.heap.setIfInBounds b (.map ents clock) } (H.set b (.map es)) := by
  have hlt := Ob.lt (hS b _ hb)
  refine evo_write hS hb rfl rfl rfl (by simp) (fun k hk => by simp [Array.getElem?_setIfInBounds, Ne.symm hk]) fun hK => ?_
  exact ⟨ents, clock, by simp [Array.getElem?_setIfInBounds, hlt], ents_keeps hK _ _ h1, h2, h3⟩
theorem mapT_some {T : TypeId} (h : (mapT P T).isSome = true) : ∃ k kd e, P.underlying T = some (.map k e) ∧ P.underlying k = some (.int kd) := by
  obtain ⟨⟨e, z⟩, h⟩ := Option.isSome_iff_exists.1 h
  unfold mapT at h
  split at h
  · rename_i k e' hu
    split at h
    · rename_i kd hk
      exact ⟨k, kd, _, hu, hk⟩
    · simp at h
  · simp at h
theorem mapUpdate_sound {T : TypeId} (hS : Sim w H) {b : Nat} {es : List (Int × V)} (hb : H b = some (.map es)) (hm : (mapT P T).isSome = true) {n : Int} {X : V} {x : Value} (hx : real w (imm w H) X x) :
    ∃ w', (Instr.mapUpdate T (.map (some b)) (.int .i64 n) x).run P w = .ok () w' ∧ Evo w H w' (H.set b (.map (mput es n X))) ∧ Sim w' (H.set b (.map (mput es n X))) := by
  obtain ⟨k, kd, e, hu, hk⟩ := mapT_some hm
  obtain ⟨ents, clock, h2, h3, h4, h5⟩ := hS b _ hb
  have hg := run_getObj (P := P) h2 (by simp)
  have hc := checkKey_int (P := P) (w := w) (b := false) (d := 9999) (k := .i64) (n := n) hk
  have hf := find_run (kd := kd) (n := n) 0 h3
  cases hmg : mget es n with
  | none =>
    rw [hmg] at hf
    have hp := put_ents (n := n) hx h3 h4 h5 hmg
    refine ⟨_, ?_, evo_obj hS hb (ents := ents.push { key := .int .i64 n, val := x, born := clock }) (clock := clock + 1) (by simpa using hp.1) (by simpa using hp.2) ?_⟩
    · simp only [Instr.mapUpdate, Sem.run_bind, run_underlying hu, Result.andThen_ok, hg, hc, Instr.findKey, run_underlying hk, hf, Sem.run_pure]
      exact setObj_run h2 (by simp)
    · intro e he
      simp at he
      rcases he with he | rfl
      · have := h5 e (by simpa using he)
        omega
      · exact Nat.lt_succ_self _
  | some Y =>
    rw [hmg] at hf
    obtain ⟨j, v, h6, h7, en, h8, h9, h10⟩ := hf
    have hkey : ((ents[j]?).map (·.key)).getD (.int .i64 n) = .int .i64 n := by
      have : ents[j]? = some en := by simpa using h8
      rw [this]
      simpa using h10
    have hks : (Instr.keyThatStays (.int .i64 n) (.int .i64 n)).run P w = .ok (.int .i64 n) w := by
      simp [Instr.keyThatStays, Instr.sameBits]
    have hp := mod_ents (n := n) hx (i := 0) h3 hmg h6
    have hborn : ((ents.modify j fun e => { e with key := .int .i64 n, val := x }).toList.map (·.born)) = ents.toList.map (·.born) := by
      rw [Array.toList_modify]
      apply List.ext_getElem?
      intro i
      simp only [List.getElem?_map, List.getElem?_modify]
      cases ents.toList[i]? with
      | none => rfl
      | some e => simp; split <;> rfl
    refine ⟨_, ?_, evo_obj hS hb (ents := ents.modify j fun e => { e with key := .int .i64 n, val := x }) (clock := clock) (by rw [Array.toList_modify]; exact hp) (by rw [hborn]; exact h4) ?_⟩
    · simp only [Instr.mapUpdate, Sem.run_bind, run_underlying hu, Result.andThen_ok, hg, hc, Instr.findKey, run_underlying hk, h6, Sem.run_pure, Nat.zero_add, hkey, hks]
      exact setObj_run h2 (by simp)
    · intro e he
      have : e.born ∈ ((ents.modify j fun e => { e with key := .int .i64 n, val := x }).toList.map (·.born)) := List.mem_map.2 ⟨e, he, rfl⟩
      rw [hborn] at this
      obtain ⟨e', he', h11⟩ := List.mem_map.1 this
      rw [← h11]
      exact h5 e' he'
theorem delete_sound {T ty : TypeId} {ts : Array TypeId} (ht : ts[0]? = some T) (hS : Sim w H) {b : Nat} {es : List (Int × V)} (hb : H b = some (.map es)) (hm : (mapT P T).isSome = true) {n : Int} :
    ∃ w', (Builtin.delete_ ts ty #[.map (some b), .int .i64 n]).run P w = .ok (.tuple #[]) w' ∧ Evo w H w' (H.set b (.map (mdel es n))) ∧ Sim w' (H.set b (.map (mdel es n))) := by
  obtain ⟨k, kd, e, hu, hk⟩ := mapT_some hm
  obtain ⟨ents, clock, h2, h3, h4, h5⟩ := hS b _ hb
  have hg := run_getObj (P := P) h2 (by simp)
  have hc := fun bb => checkKey_int (P := P) (w := w) (b := bb) (d := 9999) (k := .i64) (n := n) hk
  have hf := find_run (kd := kd) (n := n) 0 h3
  have hd := del_ents (n := n) (i := 0) h3
  cases hmg : mget es n with
  | none =>
    rw [hmg] at hf
    refine ⟨_, ?_, evo_obj hS hb (ents := ents) (clock := clock) (hd.1 hmg) h4 h5⟩
    simp [Builtin.delete_, ht, run_underlying hu, hg, hc, Instr.findKey, run_underlying hk, hf, setObj_run h2]
  | some Y =>
    rw [hmg] at hf
    obtain ⟨j, v, h6, h7, en, h8, h9, h10⟩ := hf
    have hj := (List.getElem?_eq_some_iff.1 h8).1
    have e1 : (ents.eraseIdxIfInBounds j).toList = ents.toList.eraseIdx j := by
      rw [Array.eraseIdxIfInBounds_eq]
      simp only [Array.length_toList] at hj
      rw [dif_pos hj]
      simp
    refine ⟨_, ?_, evo_obj hS hb (ents := ents.eraseIdxIfInBounds j) (clock := clock) (by rw [e1]; exact hd.2 h6) (by rw [e1]; exact h4.sublist ((List.eraseIdx_sublist _ _).map _)) (fun e he => h5 e (by rw [e1] at he; exact (List.eraseIdx_sublist _ _).mem he))⟩
    simp [Builtin.delete_, ht, run_underlying hu, hg, hc, Instr.findKey, run_underlying hk, h6, setObj_run h2]
end
end Go.Proofs.Ytpppgmoiginedaa.Q
