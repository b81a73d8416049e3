/- Arguments of whatever shape (numbers, bools, strings, structs, arrays and slices of these), opened: what their cells hold when a law's call begins. -/
import Derived.Test.YtbolmekdbeincaaMem
import Derived.ProofKit
import Derived.OpenShut
import Derived.ChangeArms
import Derived.Deep.Slices
namespace Go.Proofs.Ytbolmekdbeincaa.M
open Go Go.RowKit Go.ChangeShapes Go.WideShapes Go.ChangeAt
/-- what one cell holds -/
inductive Shape where
  | int (k : IntKind)
  | bool
  | str
  | slice (elem : List Shape)
mutual
def Shape.ok (w : World) : Shape → Value → Prop
  | .int k, v => ∃ n, v = .int k n ∧ (Lit.int k n).wf = true
  | .bool, v => ∃ b, v = .bool b
  | .str, v => ∃ s : ByteArray, v = .string s ∧ s.size ≤ maxLen
  | .slice ss, v => v = .slice none 0 0 ∨ ∃ a len cap, v = .slice (some a) len cap ∧ len ≤ cap ∧ cap ≤ maxLen ∧
      ∀ i, i < len → ∃ cs, (∀ j, j < ss.length → w.cell? (a.add (i * ss.length + j)) = cs[j]?) ∧ Shape.okAll w ss cs
def Shape.okAll (w : World) : List Shape → List Value → Prop
  | [], [] => True
  | s :: ss, v :: vs => Shape.ok w s v ∧ Shape.okAll w ss vs
  | [], _ :: _ => False
  | _ :: _, [] => False
end
theorem okAll_len {w : World} : ∀ {ss : List Shape} {vs : List Value}, Shape.okAll w ss vs → vs.length = ss.length
  | [], [], _ => rfl
  | s :: ss, v :: vs, h => by simp only [Shape.okAll] at h; simp [okAll_len h.2]
  | [], _ :: _, h => by simp [Shape.okAll] at h
  | _ :: _, [], h => by simp [Shape.okAll] at h
theorem okAll_append {w : World} : ∀ {ss ss' : List Shape} {vs vs' : List Value}, Shape.okAll w ss vs → Shape.okAll w ss' vs' → Shape.okAll w (ss ++ ss') (vs ++ vs')
  | [], ss', [], vs', _, h' => h'
  | s :: ss, ss', v :: vs, vs', h, h' => by simp only [Shape.okAll] at h; exact ⟨h.1, okAll_append h.2 h'⟩
  | [], _, _ :: _, _, h, _ => by simp [Shape.okAll] at h
  | _ :: _, _, [], _, h, _ => by simp [Shape.okAll] at h

def fieldsShape (P : Program) (sh : TypeId → Option (List Shape)) : Nat → List Field → Option (List Shape)
  | _, [] => some []
  | off, f :: fs => if f.offset = off then (sh f.type).bind fun ss => if ss.length = P.cellsOf f.type then (fieldsShape P sh (off + ss.length) fs).map (ss ++ ·) else none else none
def shapeOf (P : Program) : Nat → TypeId → Option (List Shape)
  | 0, _ => none
  | n + 1, t => match P.underlying t with
    | some .bool => some [.bool]
    | some (.int k) => some [.int k]
    | some .string => some [.str]
    | some (.slice e) => (shapeOf P n e).bind fun ss => if ss.length = P.cellsOf e then some [.slice ss] else none
    | some (.struct fs) => (fieldsShape P (shapeOf P n) 0 fs.toList).bind fun ss => if ss.length = P.cellsOf t then some ss else none
    | some (.array m e) => (shapeOf P n e).bind fun ss => if ss.length = P.cellsOf e ∧ m * ss.length = P.cellsOf t then some (List.replicate m ss).flatten else none
    | _ => none

section
variable {H : Type} {enc : TypeId × Value → H} {P : Program} {w : World} {base : Nat} {spare : Nat → Bool} {held : Bool}
theorem fields_ok {fuel : Nat} {sh : TypeId → Option (List Shape)} (ih : ∀ t ss cs x, sh t = some ss → DataW.trod enc P w base spare held fuel t cs = some x → Shape.okAll w ss cs) {cs : List Value} :
    ∀ (fs : List Field) (off : Nat) (ss : List Shape) (xs : List (DataW H × List MemPlace)), fieldsShape P sh off fs = some ss → off + ss.length = cs.length →
      fs.mapM (fun f => DataW.trod enc P w base spare held fuel f.type ((cs.drop f.offset).take (P.cellsOf f.type))) = some xs → Shape.okAll w ss (cs.drop off)
  | [], off, ss, xs, h, hl, _ => by
    simp only [fieldsShape, Option.some.injEq] at h
    subst h
    rw [List.drop_eq_nil_of_le (by simp at hl; omega)]
    exact trivial
  | f :: fs, off, ss, xs, h, hl, hm => by
    simp only [fieldsShape] at h
    split at h
    · rename_i ho
      obtain ⟨s1, h1, h2⟩ := Option.bind_eq_some_iff.1 h
      split at h2
      · rename_i hc
        obtain ⟨s2, h3, rfl⟩ := Option.map_eq_some_iff.1 h2
        rw [List.mapM_cons] at hm
        obtain ⟨x, hx, hr⟩ := Option.bind_eq_some_iff.1 hm
        obtain ⟨xs', hxs, _⟩ := Option.bind_eq_some_iff.1 hr
        rw [ho, ← hc] at hx
        have a1 := ih f.type s1 _ x h1 hx
        have a2 := fields_ok ih fs (off + s1.length) s2 xs' h3 (by simp at hl; omega) hxs
        have e : cs.drop off = (cs.drop off).take s1.length ++ cs.drop (off + s1.length) := by
          rw [← List.drop_drop, List.take_append_drop]
        rw [e]
        exact okAll_append a1 a2
      · simp at h2
    · simp at h
theorem array_ok {fuel : Nat} {e : TypeId} {ss : List Shape} (ih : ∀ cs x, DataW.trod enc P w base spare held fuel e cs = some x → Shape.okAll w ss cs) {cs : List Value} :
    ∀ (m i0 : Nat) (xs : List (DataW H × List MemPlace)), (i0 + m) * ss.length = cs.length →
      (List.range' i0 m).mapM (fun i => DataW.trod enc P w base spare held fuel e ((cs.drop (i * ss.length)).take ss.length)) = some xs → Shape.okAll w (List.replicate m ss).flatten (cs.drop (i0 * ss.length))
  | 0, i0, xs, hl, _ => by
    rw [List.drop_eq_nil_of_le (by simp at hl; omega)]
    simp [Shape.okAll]
  | m + 1, i0, xs, hl, hm => by
    rw [List.range'_succ, List.mapM_cons] at hm
    obtain ⟨x, hx, hr⟩ := Option.bind_eq_some_iff.1 hm
    obtain ⟨xs', hxs, _⟩ := Option.bind_eq_some_iff.1 hr
    have a1 := ih _ x hx
    have a2 := array_ok ih m (i0 + 1) xs' (by rw [← hl]; congr 1; omega) hxs
    have e' : cs.drop (i0 * ss.length) = (cs.drop (i0 * ss.length)).take ss.length ++ cs.drop ((i0 + 1) * ss.length) := by
      rw [Nat.add_mul, Nat.one_mul, ← List.drop_drop, List.take_append_drop]
    rw [e', List.replicate_succ, List.flatten_cons]
    exact okAll_append a1 a2
theorem trod_ok : ∀ (n : Nat) (t : TypeId) (ss : List Shape) (fuel : Nat) (cs : List Value) (x : DataW H × List MemPlace), shapeOf P n t = some ss → DataW.trod enc P w base spare held fuel t cs = some x → Shape.okAll w ss cs
  | 0, _, _, _, _, _, h, _ => by simp [shapeOf] at h
  | n + 1, t, ss, 0, cs, x, _, hx => by simp [DataW.trod] at hx
  | n + 1, t, ss, fuel + 1, cs, x, h, hx => by
    have ih := fun t ss fuel cs x => trod_ok n t ss fuel cs x
    cases hu : P.underlying t with
    | none => simp [shapeOf, hu] at h
    | some d =>
      cases d with
      | bool =>
        simp only [shapeOf, hu, Option.some.injEq] at h
        subst h
        obtain ⟨b, rfl, _⟩ := DataW.trod_bool hu hx
        exact ⟨⟨_, rfl⟩, trivial⟩
      | int k =>
        simp only [shapeOf, hu, Option.some.injEq] at h
        subst h
        obtain ⟨b, rfl, _, hw⟩ := DataW.trod_int hu hx
        exact ⟨⟨_, rfl, hw⟩, trivial⟩
      | string =>
        simp only [shapeOf, hu, Option.some.injEq] at h
        subst h
        obtain ⟨b, rfl, _, hw⟩ := DataW.trod_string hu hx
        exact ⟨⟨_, rfl, hw⟩, trivial⟩
      | slice e =>
        simp only [shapeOf, hu] at h
        obtain ⟨s1, h1, h2⟩ := Option.bind_eq_some_iff.1 h
        split at h2
        · rename_i hc
          obtain rfl := Option.some.inj h2
          rcases Go.Deep.open_slice hu hx with ⟨rfl, _⟩ | ⟨a, len, cap, m, n', D, Pl, rfl, _, hl, hm, hmm, _, hel⟩
          · exact ⟨.inl rfl, trivial⟩
          · refine ⟨.inr ⟨a, len, cap, rfl, hl, hm, fun i hi => ?_⟩, trivial⟩
            have him : i < m := by rw [hmm]; split <;> omega
            obtain ⟨cs', h3, h4⟩ := hel i him
            refine ⟨cs', fun j hj => ?_, ih e s1 n' cs' _ h1 h4⟩
            obtain ⟨_, hlen, hcell⟩ := World.cells?_some h3
            rw [hc, ← Go.Deep.add_add]
            exact hcell j (by rw [← hc]; exact hj)
        · simp at h2
      | struct fs =>
        simp only [shapeOf, hu] at h
        obtain ⟨s1, h1, h2⟩ := Option.bind_eq_some_iff.1 h
        split at h2
        · rename_i hc
          obtain rfl := Option.some.inj h2
          unfold DataW.trod at hx
          rw [hu] at hx
          simp only at hx
          split at hx
          · rename_i hlen
            obtain ⟨xs, hxs, _⟩ := Option.map_eq_some_iff.1 hx
            have := fields_ok (cs := cs) (fun t ss cs x h hx => ih t ss _ cs x h hx) fs.toList 0 s1 xs h1 (by omega) hxs
            simpa using this
          · simp at hx
        · simp at h2
      | array m e =>
        simp only [shapeOf, hu] at h
        obtain ⟨s1, h1, h2⟩ := Option.bind_eq_some_iff.1 h
        split at h2
        · rename_i hc
          obtain rfl := Option.some.inj h2
          unfold DataW.trod at hx
          rw [hu] at hx
          simp only at hx
          split at hx
          · rename_i hlen
            obtain ⟨xs, hxs, _⟩ := Option.map_eq_some_iff.1 hx
            rw [← hc.1, List.range_eq_range'] at hxs
            have := array_ok (cs := cs) (e := e) (ss := s1) (fun cs x hx => ih e s1 _ cs x h1 hx) m 0 xs (by rw [Nat.zero_add]; omega) hxs
            simpa using this
          · simp at hx
        · simp at h2
      | _ => simp [shapeOf, hu] at h
end

/-! ### From shapes to lists of records -/
theorem okWide_agg {P : Program} {w : World} {r : Reach} {base : Nat} {t : TypeId} {v : Value} (ht : (match P.underlying t with | some (.struct _) | some (.array _ _) => true | _ => false) = true) (h : Value.okWide P w r base t v) : ∃ cs, v = .agg cs ∧ cs.size = P.cellsOf t := by
  unfold Value.okWide at h
  cases hu : P.underlying t with
  | none => simp [hu] at ht
  | some d =>
    rw [hu] at h ht
    cases d <;> simp at ht
    · obtain ⟨cs, hv, hs, _⟩ := h
      exact ⟨cs, hv, hs⟩
    · obtain ⟨cs, hv, hs, _⟩ := h
      exact ⟨cs, hv, hs⟩
theorem trod_one {H : Type} {enc : TypeId × Value → H} {P : Program} {w : World} {base : Nat} {spare : Nat → Bool} {held : Bool} {t : TypeId} {v : Value} {d : DataW H} {ps : List MemPlace} (n : Nat) {ss : List Shape} (h : shapeOf P n t = some ss)
    (hx : DataW.Trod enc P w base spare held t v d ps) : Shape.okAll w ss v.cells.toList := by
  obtain ⟨fuel, hf⟩ := hx
  exact trod_ok n t ss fuel _ _ h hf
theorem flat_len' {α : Type} (f : α → List Value) (n : Nat) : ∀ (M : List α), (∀ x ∈ M, (f x).length = n) → (M.flatMap f).length = M.length * n
  | [], _ => by simp
  | x :: M, h => by rw [List.flatMap_cons, List.length_append, h x (by simp), flat_len' f n M (fun y hy => h y (by simp [hy])), List.length_cons, Nat.add_mul, Nat.one_mul, Nat.add_comm]
theorem flat_get' {α : Type} (f : α → List Value) (n : Nat) : ∀ (M : List α) (i k : Nat) (hi : i < M.length), (∀ x ∈ M, (f x).length = n) → k < n → (M.flatMap f)[i * n + k]? = (f M[i])[k]?
  | [], i, _, hi, _, _ => by simp at hi
  | x :: M, 0, k, _, h, hk => by
    rw [List.flatMap_cons, Nat.zero_mul, Nat.zero_add, List.getElem?_append_left (by rw [h x (by simp)]; exact hk)]; rfl
  | x :: M, i + 1, k, hi, h, hk => by
    rw [List.flatMap_cons, List.getElem?_append_right (by rw [h x (by simp), Nat.add_mul]; omega), h x (by simp)]
    have e : (i + 1) * n + k - n = i * n + k := by rw [Nat.add_mul]; omega
    rw [e, flat_get' f n M i k (by simpa using hi) (fun y hy => h y (by simp [hy])) hk]
    rfl
/-- a slice of records: 'f' lays a record's cells -/
theorem rows_of {α : Type} {w : World} {ss : List Shape} {v : Value} (f : α → List Value) (hs : 0 < ss.length) (hf : ∀ cs, Shape.okAll w ss cs → ∃ a, f a = cs) (h : Shape.ok w (.slice ss) v) :
    ∃ (n : Nat) (L : List α), L.length = n ∧ n ≤ maxLen ∧ Reads w ss.length v n (L.flatMap f) ∧ ∀ a ∈ L, Shape.okAll w ss (f a) := by
  simp only [Shape.ok] at h
  rcases h with rfl | ⟨a, len, cap, rfl, hl, hm, hel⟩
  · exact ⟨0, [], rfl, by omega, ⟨by simp, none, 0, rfl, fun _ => ⟨rfl, rfl⟩, fun h => by omega⟩, by simp⟩
  · have key : ∀ n, n ≤ len → ∃ L : List α, L.length = n ∧ (∀ i (hi : i < L.length), (∀ j, j < ss.length → w.cell? (a.add (i * ss.length + j)) = (f L[i])[j]?) ∧ Shape.okAll w ss (f L[i])) := by
      intro n hn
      induction n with
      | zero => exact ⟨[], rfl, fun i hi => by simp at hi⟩
      | succ n ih =>
        obtain ⟨L, hL, hc⟩ := ih (by omega)
        obtain ⟨cs, h1, h2⟩ := hel n (by omega)
        obtain ⟨x, rfl⟩ := hf cs h2
        refine ⟨L ++ [x], by simp [hL], fun i hi => ?_⟩
        by_cases e : i < L.length
        · rw [List.getElem_append_left e]; exact hc i e
        · obtain rfl : i = n := by simp at hi; omega
          have e2 : (L ++ [x])[i]'hi = x := by rw [List.getElem_append_right (by omega)]; simp [hL]
          rw [e2]
          exact ⟨h1, h2⟩
    obtain ⟨L, hL, hc⟩ := key len (Nat.le_refl _)
    have hfl : ∀ i (hi : i < L.length), (f L[i]).length = ss.length := fun i hi => okAll_len (hc i hi).2
    have hall : ∀ x ∈ L, (f x).length = ss.length := fun x hx => by
      obtain ⟨i, hi, rfl⟩ := List.getElem_of_mem hx
      exact hfl i hi
    have hlen : (L.flatMap f).length = len * ss.length := by rw [flat_len' f ss.length L hall, hL]
    refine ⟨len, L, hL, by omega, ?_, fun x hx => ?_⟩
    · refine ⟨hlen, some a, cap, rfl, (fun h => by cases h), fun hn => ?_⟩
      have hspot : a.spot = none := by
        obtain ⟨h1, h2⟩ := hc 0 (by omega)
        have h3 := h1 0 hs
        have h4 : 0 < (f (L[0]'(by omega))).length := by rw [hfl 0 (by omega)]; exact hs
        rw [List.getElem?_eq_getElem h4] at h3
        cases hx : a.spot with
        | none => rfl
        | some t =>
          simp [World.cell?, Addr.add, hx] at h3
          split at h3 <;> simp_all
      obtain ⟨b, off, sp⟩ := a
      simp at hspot
      subst hspot
      refine ⟨b, off, rfl, fun j hj => ?_⟩
      have h5 : j / ss.length < L.length := by rw [hL]; exact Nat.div_lt_of_lt_mul (by rw [Nat.mul_comm]; exact hj)
      have h6 := (hc (j / ss.length) h5).1 (j % ss.length) (Nat.mod_lt _ hs)
      have hdm : j / ss.length * ss.length + j % ss.length = j := by rw [Nat.mul_comm]; exact Nat.div_add_mod j ss.length
      rw [Addr.add_lit, hdm] at h6
      rw [h6, ← flat_get' f ss.length L (j / ss.length) (j % ss.length) h5 hall (Nat.mod_lt _ hs), hdm]
    · obtain ⟨i, hi, rfl⟩ := List.getElem_of_mem hx
      exact (hc i hi).2
end Go.Proofs.Ytbolmekdbeincaa.M
