/- Code, in values: what a walk of it must show. Regions that draw their order: in an order in which whatever only reads comes first. -/
import Derived.Test.YtpppgmoiginedaaQh
import Derived.Orders
namespace Go.Proofs.Ytpppgmoiginedaa.Q
open Go Go.RowKit
set_option linter.unusedVariables false
set_option linter.unusedSimpArgs false

/-- Does an operation write, call, or make memory that may be written? M: the slots of the boxes and slices of the last kind. -/
def isE (M : List Nat) (o : Oper) : Bool :=
  match o.op with
  | .store .. | .alloc _ | .makeSlice .. | .makeMap .. | .mapUpdate .. => true
  | .call { callee := .value _, .. } => true
  | .call { callee := .builtin .append, .. } | .call { callee := .builtin .delete, .. } => true
  | .box .. | .buildSlice .. => match o.dst with | some d => M.contains d | none => false
  | _ => false
def gdst (ops : Array Oper) (j : Nat) : Option Tmp := (ops[j]?).bind (·.dst)
def isTrue (want : Bool) : V → Bool
  | .val (.bool x) => x == want
  | _ => false
def wanted (ops : Array Oper) (ρ : Env) (g : Option (Nat × Bool)) : Bool :=
  match g with
  | none => true
  | some (j, want) => match gdst ops j with
    | some d => isTrue want (ρ d)
    | none => false
/-- one operation -/
def stepA (P : Program) (M : List Nat) (ops : Array Oper) (o : Oper) (K : Env → Heap → Prop) (ρ : Env) (H : Heap) : Prop :=
  if wanted ops ρ o.guard then
    if isE M o then eop P ρ H (fun c H' => K (ρ.put o.dst c) H') o.op else optK (qop P H ρ o.op) fun c => K (ρ.put o.dst c) H
  else K (ρ.put o.dst (.tup [])) H
def awpL (P : Program) (M : List Nat) (ops : Array Oper) (K : Env → Heap → Prop) : List Oper → Env → Heap → Prop
  | [], ρ, H => K ρ H
  | o :: rest, ρ, H => stepA P M ops o (fun ρ' H' => awpL P M ops K rest ρ' H') ρ H

/-! ### Regions that draw their order -/
def readsH (o : Op) : Bool :=
  match o with
  | .load .. | .lookup .. => true
  | .call { callee := .builtin .len, .. } => true
  | _ => false
/-- what was read ahead, and may be read later: the operation, where it was met, what it gave -/
structure Obl where
  i : Nat
  o : Oper
  ρ : Env
  c : V
def Obl.ok (P : Program) (ops : Array Oper) (x : Obl) (H : Heap) : Prop := if wanted ops x.ρ x.o.guard then qop P H x.ρ x.o.op = some x.c else x.c = .tup []
def notAhead (o : Oper) (x : Obl) : Bool := !(o.after.any fun e => Region.binds .any e && e.on == x.i)
def awpS (P : Program) (M : List Nat) (ops : Array Oper) (K : Env → Heap → Prop) : List Nat → List Obl → Env → Heap → Prop
  | [], _, ρ, H => K ρ H
  | i :: rest, obs, ρ, H => match ops[i]? with
    | none => False
    | some o =>
      if isE M o then stepA P M ops o (fun ρ' H' => (∀ x ∈ obs.filter (notAhead o), x.ok P ops H') ∧ awpS P M ops K rest (obs.filter (notAhead o)) ρ' H') ρ H
      else optK (if wanted ops ρ o.guard then qop P H ρ o.op else some (.tup [])) fun c => awpS P M ops K rest (if readsH o.op then ⟨i, o, ρ, c⟩ :: obs else obs) (ρ.put o.dst c) H
def okS (M : List Nat) (ops : Array Oper) : List Nat → Array Bool → Bool
  | [], listed => (Region.ready .any ops listed).isEmpty
  | i :: rest, listed => (match ops[i]? with
    | none => false
    | some o => if isE M o then Region.ready .any ops listed == [i] else (Region.ready .any ops listed).contains i && Region.free .any ops listed i) && okS M ops rest (listed.setIfInBounds i true)
def okSched (M : List Nat) (ops : Array Oper) (sched : List Nat) : Bool := Region.noSelect ops && sched.length == ops.size && okS M ops sched (Array.replicate ops.size false)
def awpD (P : Program) (M : List Nat) (ops : Array Oper) (K : Env → Heap → Prop) (ρ : Env) (H : Heap) : Prop :=
  ∃ sched, okSched M ops sched = true ∧ awpS P M ops K sched [] ρ H

def stepI (P : Program) (M : List Nat) (ops : Array Oper) (i : Nat) (K : Env → Heap → Prop) (ρ : Env) (H : Heap) : Prop :=
  match ops[i]? with
  | none => K ρ H
  | some o => stepA P M ops o K ρ H
/-- which of what was read may still stand behind number i -/
def still (ops : Array Oper) (i : Nat) (obs : List Obl) : List Obl := match ops[i]? with | none => obs | some o => obs.filter (notAhead o)
def anyA (P : Program) (M : List Nat) (ops : Array Oper) (K : Env → Heap → Prop) : Nat → List Obl → Array Bool → Env → Heap → Prop
  | 0, _, listed, ρ, H => Region.ready .any ops listed = [] ∧ K ρ H
  | fuel + 1, obs, listed, ρ, H => (Region.ready .any ops listed = [] → K ρ H) ∧
    ∀ i ∈ Region.ready .any ops listed, stepI P M ops i (fun ρ' H' => (∀ x ∈ still ops i obs, x.ok P ops H') ∧ anyA P M ops K fuel (still ops i obs) (listed.setIfInBounds i true) ρ' H') ρ H

section
variable {P : Program} {M : List Nat} {ops : Array Oper}
theorem eop_mono {ρ : Env} {H : Heap} {K K' : V → Heap → Prop} (hK : ∀ c H', K c H' → K' c H') : ∀ (o : Op), eop P ρ H K o → eop P ρ H K' o := by
  intro o h
  cases o <;> simp only [eop] at h ⊢
  case store => exact h.imp fun _ h => ⟨h.1, hK _ _ h.2⟩
  case alloc => exact h.imp fun _ h => ⟨h.1, fun b hb => hK _ _ (h.2 b hb)⟩
  case box => exact ⟨h.1, fun b hb => hK _ _ (h.2 b hb)⟩
  case buildSlice =>
    obtain ⟨c, h1, h2⟩ := h
    refine ⟨c, h1, ?_⟩
    split at h2
    · exact fun b hb => hK _ _ (h2 b hb)
    · exact h2.elim
  case makeSlice =>
    split at h
    · obtain ⟨a1, a2, b1, b2, c1, c2, h1, h2, h3, h4, h5, h6, h7, h8⟩ := h
      exact ⟨a1, a2, b1, b2, c1, c2, h1, h2, h3, h4, h5, h6, h7, fun b hb => hK _ _ (h8 b hb)⟩
    · exact h
  case makeMap T r =>
    cases r
    · exact fun b hb => hK _ _ (h b hb)
    · exact h
  case mapUpdate =>
    split at h
    · split at h
      · exact ⟨h.1, h.2.1, hK _ _ h.2.2⟩
      · exact h
    · exact h
  case call cl =>
    obtain ⟨callee, args, ts⟩ := cl
    cases callee with
    | invoke => exact h
    | value g =>
      simp only [eop] at h ⊢
      split at h
      · exact h.mono hK
      · exact h
    | builtin b =>
      cases b <;> simp only [eop] at h ⊢
      case append =>
        split at h
        · obtain ⟨a1, a2, b1, b2, c1, c2, d1, d2, e1, e2, f1, f2, g1, g2, h1, h2, h3, h4, h5, h6, h7, h8⟩ := h
          exact ⟨a1, a2, b1, b2, c1, c2, d1, d2, e1, e2, f1, f2, g1, g2, h1, h2, h3, h4, h5, h6, fun x y => hK _ _ (h7 x y), fun x b cap y z => hK _ _ (h8 x b cap y z)⟩
        · exact h
      case delete =>
        split at h
        · obtain ⟨a1, a2, h⟩ := h
          refine ⟨a1, a2, ?_⟩
          split at h
          · exact ⟨h.1, hK _ _ h.2⟩
          · exact h
        · exact h
      all_goals exact h
  all_goals exact h
theorem ev_congr {ρ ρ' : Env} {x : Operand} (h : ∀ t, x = .tmp t → ρ t = ρ' t) : ev ρ x = ev ρ' x := by
  cases x with
  | tmp t => exact h t rfl
  | _ => rfl
theorem map_congr' {ρ ρ' : Env} {l : List Operand} (h : ∀ x ∈ l, ev ρ x = ev ρ' x) : l.map (ev ρ) = l.map (ev ρ') := List.map_congr_left h
theorem qop_congr {ρ ρ' : Env} {H : Heap} (o : Op) (h : ∀ x ∈ o.operands.toList, ev ρ x = ev ρ' x) : qop P H ρ o = qop P H ρ' o := by
  cases o <;> simp only [qop]
  case call cl =>
    obtain ⟨callee, args, ts⟩ := cl
    cases callee <;> simp only [qop]
    rw [map_congr' fun x hx => h x (by simp [Op.operands, Call.operands]; exact by simpa using hx)]
  case makeFunc fn first caps =>
    cases fn <;> simp only
    rw [map_congr' fun x hx => h x (by simp [Op.operands]; exact .inr (by simpa using hx))]
  case build T ps => rw [List.map_congr_left (g := fun x => (x.1, ev ρ' x.2)) fun x hx => by rw [h x.2 (by simp only [Op.operands]; exact List.mem_map.2 ⟨x, hx, rfl⟩)]]
  case buildSlice T n ps => rw [List.map_congr_left (g := fun x => (x.1, ev ρ' x.2)) fun x hx => by rw [h x.2 (by simp only [Op.operands]; exact List.mem_map.2 ⟨x, hx, rfl⟩)]]
  case slice T x lo hi mx =>
    rw [h x (by simp [Op.operands])]
    have e : ∀ y : Option Operand, (∀ z, y = some z → z ∈ (Op.slice T x lo hi mx).operands.toList) → y.map (ev ρ) = y.map (ev ρ') := fun y hy => by
      cases y with
      | none => rfl
      | some z => simp [h z (hy z rfl)]
    rw [e lo fun z hz => by simp [Op.operands, hz], e hi fun z hz => by simp [Op.operands, hz], e mx fun z hz => by simp [Op.operands, hz]]
  case pick c x y => rw [h c (by simp [Op.operands]), h x (by simp [Op.operands]), h y (by simp [Op.operands])]
  case binOp bo T x y yT => rw [h x (by simp [Op.operands]), h y (by simp [Op.operands])]
  case indexAddr T x y => rw [h x (by simp [Op.operands]), h y (by simp [Op.operands])]
  case index T x y => rw [h x (by simp [Op.operands]), h y (by simp [Op.operands])]
  case lookup T x y ok => rw [h x (by simp [Op.operands]), h y (by simp [Op.operands])]
  all_goals first | rfl | (rename_i x; rw [h x (by simp [Op.operands])]; done) | (rename_i x _; rw [h x (by simp [Op.operands])]; done) | (rename_i x _ _; rw [h x (by simp [Op.operands])]; done)
theorem eop_congr {ρ ρ' : Env} {H : Heap} {K : V → Heap → Prop} (o : Op) (h : ∀ x ∈ o.operands.toList, ev ρ x = ev ρ' x) : eop P ρ H K o = eop P ρ' H K o := by
  cases o <;> simp only [eop]
  case call cl =>
    obtain ⟨callee, args, ts⟩ := cl
    have ha : args.toList.map (ev ρ) = args.toList.map (ev ρ') := map_congr' fun x hx => h x (by simp [Op.operands, Call.operands]; exact .inr (by simpa using hx))
    cases callee with
    | invoke => rfl
    | value g => simp only [eop]; rw [ha, h g (by simp [Op.operands, Call.operands])]
    | builtin b => cases b <;> simp only [eop] <;> rw [ha]
  case store T p x => rw [h p (by simp [Op.operands]), h x (by simp [Op.operands])]
  case box T x => rw [h x (by simp [Op.operands])]
  case buildSlice T n ps => rw [List.map_congr_left (g := fun x => (x.1, ev ρ' x.2)) fun x hx => by rw [h x.2 (by simp only [Op.operands]; exact List.mem_map.2 ⟨x, hx, rfl⟩)]]
  case makeSlice T l c => rw [h l (by simp [Op.operands]), h c (by simp [Op.operands])]
  case mapUpdate T m k x => rw [h m (by simp [Op.operands]), h k (by simp [Op.operands]), h x (by simp [Op.operands])]
  case makeMap T r => cases r <;> rfl
theorem qop_pure {ρ : Env} {H H' : Heap} (o : Op) (h : readsH o = false) : qop P H ρ o = qop P H' ρ o := by
  cases o
  case makeFunc fn f c => cases fn <;> rfl
  case call cl =>
    obtain ⟨callee, args, ts⟩ := cl
    cases callee with
    | builtin b =>
      simp only [qop]
      cases b <;> first | (simp [readsH] at h; done) | (simp only [qbuiltin]; done)
    | _ => rfl
  all_goals first | rfl | (simp [readsH] at h; done)
theorem put_apart {ρ : Env} {d : Option Tmp} {v : V} {x : Operand} (h : ∀ k, d = some k → x ≠ .tmp k) : ev (ρ.put d v) x = ev ρ x := by
  refine ev_congr fun t ht => ?_
  cases d with
  | none => rfl
  | some k =>
    simp only [Env.put]
    rw [if_neg]
    intro e
    subst e
    exact h t rfl ht
theorem looks_operand {o : Oper} {t : Tmp} (h : Operand.tmp t ∈ o.op.operands.toList) : t ∈ o.looksAt ops := List.mem_append_left _ (List.mem_filterMap.2 ⟨.tmp t, h, rfl⟩)
theorem ev_put {o : Oper} {ρ : Env} {d : Option Tmp} {v : V} (h : ∀ k, d = some k → k ∉ o.looksAt ops) : ∀ x ∈ o.op.operands.toList, ev (ρ.put d v) x = ev ρ x := fun x hx =>
  put_apart fun k hk e => h k hk (looks_operand (by rw [← e]; exact hx))
theorem wanted_putA {o : Oper} {ρ : Env} {d : Option Tmp} {v : V} (h : ∀ k, d = some k → k ∉ o.looksAt ops) : wanted ops (ρ.put d v) o.guard = wanted ops ρ o.guard := by
  unfold wanted
  cases hg : o.guard with
  | none => rfl
  | some gw =>
    obtain ⟨j, want⟩ := gw
    simp only
    cases hd : gdst ops j with
    | none => rfl
    | some t =>
      simp only
      cases d with
      | none => rfl
      | some k =>
        simp only [Env.put]
        rw [if_neg]
        intro e
        subst e
        refine h t rfl (List.mem_append_right _ ?_)
        unfold gdst at hd
        simp [hg, hd]
theorem put_comm {ρ : Env} {d e : Option Tmp} {v u : V} (h : ∀ k, d = some k → e ≠ some k) : (ρ.put d v).put e u = (ρ.put e u).put d v := by
  cases d with
  | none => rfl
  | some d => cases e with
    | none => rfl
    | some e =>
      funext k
      simp only [Env.put]
      by_cases h1 : k = e
      · by_cases h2 : k = d
        · subst h1; subst h2; exact absurd rfl (h k rfl)
        · simp [h1, show ¬ e = d from fun x => h2 (h1.trans x)]
      · simp [h1]
theorem stepA_mono {o : Oper} {K K' : Env → Heap → Prop} {ρ : Env} {H : Heap} (hK : ∀ ρ' H', K ρ' H' → K' ρ' H') (h : stepA P M ops o K ρ H) : stepA P M ops o K' ρ H := by
  unfold stepA at h ⊢
  split
  · rename_i hw
    rw [if_pos hw] at h
    split
    · rename_i he
      rw [if_pos he] at h
      exact eop_mono (fun c H' => hK _ _) _ h
    · rename_i he
      rw [if_neg he] at h
      exact h.imp fun c hc => ⟨hc.1, hK _ _ hc.2⟩
  · rename_i hw
    rw [if_neg hw] at h
    exact hK _ _ h
theorem stepI_mono {i : Nat} {K K' : Env → Heap → Prop} {ρ : Env} {H : Heap} (hK : ∀ ρ' H', K ρ' H' → K' ρ' H') (h : stepI P M ops i K ρ H) : stepI P M ops i K' ρ H := by
  unfold stepI at h ⊢
  split
  · rename_i he; rw [he] at h; exact hK _ _ h
  · rename_i o he; rw [he] at h; exact stepA_mono hK h
/-- an operation apart from another one: whether that one's value is there already makes no difference -/
theorem stepA_apart {oi oj : Oper} (hap : oi.apart ops oj = true) {K : Env → Heap → Prop} {ρ : Env} {H : Heap} {v : V} (h : stepA P M ops oj K (ρ.put oi.dst v) H) :
    stepA P M ops oj (fun ρ' H' => (∀ t ∈ oi.looksAt ops, ρ' t = ρ t) ∧ K (ρ'.put oi.dst v) H') ρ H := by
  obtain ⟨h1, h2, h3⟩ := Oper.apart_spec hap
  have keep : ∀ c, ∀ t ∈ oi.looksAt ops, (ρ.put oj.dst c) t = ρ t := fun c t ht => by
    cases hd : oj.dst with
    | none => rfl
    | some k =>
      simp only [Env.put]
      rw [if_neg]
      intro e
      subst e
      exact h3 t hd ht
  unfold stepA at h ⊢
  rw [wanted_putA h1] at h
  split
  · rename_i hw
    rw [if_pos hw] at h
    split
    · rename_i he
      rw [if_pos he, eop_congr _ (ev_put h1)] at h
      exact eop_mono (fun c H' hk => ⟨keep c, by rw [put_comm h2] at hk; exact hk⟩) _ h
    · rename_i he
      rw [if_neg he, qop_congr _ (ev_put h1)] at h
      exact h.imp fun c hc => ⟨hc.1, keep c, by have h5 : K ((ρ.put oi.dst v).put oj.dst c) H := hc.2; rw [put_comm h2] at h5; exact h5⟩
  · rename_i hw
    rw [if_neg hw] at h
    exact ⟨keep _, by rw [put_comm h2] at h; exact h⟩
/-- what an operation that is no effect gives -/
def givesA (P : Program) (ops : Array Oper) (o : Oper) (ρ : Env) (H : Heap) : Option V := if wanted ops ρ o.guard then qop P H ρ o.op else some (.tup [])
theorem stepA_gives {o : Oper} (he : isE M o = false) {ρ : Env} {H : Heap} {c : V} (h : givesA P ops o ρ H = some c) {K : Env → Heap → Prop} (hK : K (ρ.put o.dst c) H) : stepA P M ops o K ρ H := by
  unfold givesA at h
  unfold stepA
  split
  · rename_i hw
    rw [if_pos hw] at h
    rw [if_neg (by simp [he])]
    exact ⟨c, h, hK⟩
  · rename_i hw
    rw [if_neg hw] at h
    obtain rfl := Option.some.inj h
    exact hK
theorem gives_congr {o : Oper} {ρ ρ' : Env} {H : Heap} (h : ∀ t ∈ o.looksAt ops, ρ' t = ρ t) : givesA P ops o ρ' H = givesA P ops o ρ H := by
  unfold givesA
  have e1 : wanted ops ρ' o.guard = wanted ops ρ o.guard := by
    unfold wanted
    cases hg : o.guard with
    | none => rfl
    | some gw =>
      obtain ⟨j, want⟩ := gw
      simp only
      cases hd : gdst ops j with
      | none => rfl
      | some t =>
        simp only
        rw [h t (List.mem_append_right _ (by unfold gdst at hd; simp [hg, hd]))]
  rw [e1, qop_congr o.op fun x hx => ev_congr fun t ht => h t (looks_operand (by rw [← ht]; exact hx))]
theorem gives_pure {o : Oper} {ρ : Env} {H H' : Heap} (h : readsH o.op = false) : givesA P ops o ρ H = givesA P ops o ρ H' := by
  unfold givesA
  rw [qop_pure o.op h]
theorem ok_gives {x : Obl} {H : Heap} : x.ok P ops H ↔ givesA P ops x.o x.ρ H = some x.c := by
  unfold Obl.ok givesA
  split
  · exact Iff.rfl
  · simp only [Option.some.injEq]; exact eq_comm
theorem still_sub {i : Nat} {obs : List Obl} : ∀ x ∈ still ops i obs, x ∈ obs := by
  unfold still
  split
  · exact fun x h => h
  · exact fun x h => (List.mem_filter.1 h).1
theorem still_mono {i : Nat} {obs obs' : List Obl} (h : ∀ x ∈ obs, x ∈ obs') : ∀ x ∈ still ops i obs, x ∈ still ops i obs' := by
  unfold still
  split
  · exact h
  · exact fun x hx => by rw [List.mem_filter] at hx ⊢; exact ⟨h x hx.1, hx.2⟩
theorem anyA_weak {K : Env → Heap → Prop} : ∀ (fuel : Nat) (obs obs' : List Obl) (listed : Array Bool) (ρ : Env) (H : Heap), (∀ x ∈ obs, x ∈ obs') → anyA P M ops K fuel obs' listed ρ H → anyA P M ops K fuel obs listed ρ H
  | 0, _, _, _, _, _, _, h => h
  | fuel + 1, obs, obs', listed, ρ, H, hs, h => ⟨h.1, fun i hi => stepI_mono (fun ρ' H' h' => ⟨fun x hx => h'.1 x (still_mono hs x hx), anyA_weak fuel _ _ _ ρ' H' (still_mono hs) h'.2⟩) (h.2 i hi)⟩
/-- **What only reads may come first.** -/
theorem anyA_first {K : Env → Heap → Prop} {i : Nat} {oi : Oper} {ρi : Env} {c : V} (hi : ops[i]? = some oi) (he : isE M oi = false) : ∀ (fuel : Nat) (obs obs1 : List Obl) (listed : Array Bool) (ρ : Env) (H : Heap),
    (∀ j oj, ops[j]? = some oj → j ≠ i → listed.getD j true = false → (∀ e ∈ oj.after, Region.binds .any e = true → e.on ≠ i) → oi.apart ops oj = true) →
    i ∈ Region.ready .any ops listed → (∀ t ∈ oi.looksAt ops, ρ t = ρi t) → givesA P ops oi ρi H = some c → (∀ x ∈ obs, x.ok P ops H) → (∀ x ∈ obs, x ∈ obs1) → (readsH oi.op = true → (⟨i, oi, ρi, c⟩ : Obl) ∈ obs1) →
    anyA P M ops K fuel obs1 (listed.setIfInBounds i true) (ρ.put oi.dst c) H → anyA P M ops K (fuel + 1) obs listed ρ H := by
  intro fuel
  have self : ∀ (fuel : Nat) (obs obs1 : List Obl) (listed : Array Bool) (ρ : Env) (H : Heap), (∀ t ∈ oi.looksAt ops, ρ t = ρi t) → givesA P ops oi ρi H = some c → (∀ x ∈ obs, x.ok P ops H) → (∀ x ∈ obs, x ∈ obs1) → anyA P M ops K fuel obs1 (listed.setIfInBounds i true) (ρ.put oi.dst c) H →
      stepI P M ops i (fun ρ' H' => (∀ x ∈ still ops i obs, x.ok P ops H') ∧ anyA P M ops K fuel (still ops i obs) (listed.setIfInBounds i true) ρ' H') ρ H := by
    intro fuel obs obs1 listed ρ H hag hg hobs hsub h
    unfold stepI
    rw [hi]
    simp only
    refine stepA_gives he (by rw [gives_congr hag]; exact hg) ⟨fun x hx => hobs x (still_sub x hx), anyA_weak _ _ _ _ _ _ (fun x hx => hsub x (still_sub x hx)) h⟩
  induction fuel with
  | zero =>
    intro obs obs1 listed ρ H hfree hr hag hg hobs hsub hmem h
    refine ⟨(fun h0 => by rw [h0] at hr; cases hr), fun j hj => ?_⟩
    by_cases hji : j = i
    · subst hji; exact self 0 obs obs1 listed ρ H hag hg hobs hsub h
    · have := ready_mono hj hji
      rw [h.1] at this
      cases this
  | succ fuel ih =>
    intro obs obs1 listed ρ H hfree hr hag hg hobs hsub hmem h
    refine ⟨(fun h0 => by rw [h0] at hr; cases hr), fun j hj => ?_⟩
    by_cases hji : j = i
    · subst hji; exact self (fuel + 1) obs obs1 listed ρ H hag hg hobs hsub h
    · have h1 := h.2 j (ready_mono hj hji)
      obtain ⟨hjun, oj, hoj, hall⟩ := mem_ready.1 hj
      have hnot : ∀ e ∈ oj.after, Region.binds .any e = true → e.on ≠ i := fun e he hb heq => by
        have h1 := hall e he hb
        have h0 := (mem_ready.1 hr).1
        rw [heq] at h1
        rcases Nat.lt_or_ge i listed.size with h' | h'
        · simp [h'] at h0 h1; rw [h0] at h1; cases h1
        · simp [Array.getElem?_eq_none h'] at h1
      have hap := hfree j oj hoj hji hjun hnot
      unfold stepI at h1 ⊢
      rw [hoj] at h1 ⊢
      simp only at h1 ⊢
      refine stepA_mono ?_ (stepA_apart hap h1)
      rintro ρ' H' ⟨hk, hok, hany⟩
      have hst : still ops j = List.filter (notAhead oj) := by funext obs; unfold still; rw [hoj]
      have hna : ∀ x : Obl, x.i = i → notAhead oj x = true := fun x hx => by
        unfold notAhead
        simp only [Bool.not_eq_true', Array.any_eq_false', Bool.and_eq_true, beq_iff_eq, not_and]
        intro e he hb
        rw [hx]
        exact hnot e he hb
      have hfree' : ∀ k ok, ops[k]? = some ok → k ≠ i → (listed.setIfInBounds j true).getD k true = false →
          (∀ e ∈ ok.after, Region.binds .any e = true → e.on ≠ i) → oi.apart ops ok = true := fun k ok hk hki hun hno => by
        refine hfree k ok hk hki ?_ hno
        by_cases hjk : j = k
        · subst hjk; exact hjun
        · rw [getD_set_ne true hjk] at hun; exact hun
      have hg' : givesA P ops oi ρi H' = some c := by
        cases hrd : readsH oi.op with
        | false => rw [gives_pure hrd (H' := H)]; exact hg
        | true =>
          have hm := hmem hrd
          have := hok ⟨i, oi, ρi, c⟩ (by rw [hst]; exact List.mem_filter.2 ⟨hm, hna _ rfl⟩)
          exact ok_gives.1 this
      refine ⟨fun x hx => hok x (still_mono hsub x hx), ih (still ops j obs) (still ops j obs1) (listed.setIfInBounds j true) ρ' H' hfree' (ready_mono hr (Ne.symm hji)) (fun t ht => by rw [hk t ht]; exact hag t ht) hg' (fun x hx => hok x (still_mono hsub x hx)) (still_mono hsub) (fun hrd => by rw [hst]; exact List.mem_filter.2 ⟨hmem hrd, hna _ rfl⟩) ?_⟩
      rw [Array.setIfInBounds_comm _ _ hji]
      exact hany
/-- the schedule that was walked serves for all orders -/
theorem anyA_of_sched {K : Env → Heap → Prop} (hsel : Region.noSelect ops = true) : ∀ (rest : List Nat) (obs : List Obl) (listed : Array Bool) (ρ : Env) (H : Heap), okS M ops rest listed = true → (∀ x ∈ obs, x.ok P ops H) → awpS P M ops K rest obs ρ H → anyA P M ops K rest.length obs listed ρ H
  | [], obs, listed, ρ, H, hs, _, h => by
    simp only [okS, List.isEmpty_iff] at hs
    exact ⟨hs, h⟩
  | i :: rest, obs, listed, ρ, H, hs, hobs, h => by
    simp only [okS, Bool.and_eq_true] at hs
    obtain ⟨h1, h2⟩ := hs
    simp only [awpS] at h
    cases ho : ops[i]? with
    | none => simp [ho] at h1
    | some o =>
      simp only [ho] at h h1
      have hst : still ops i obs = obs.filter (notAhead o) := by unfold still; rw [ho]
      cases he : isE M o with
      | true =>
        rw [he, if_pos rfl] at h1 h
        have hr : Region.ready .any ops listed = [i] := by simpa using h1
        refine ⟨(fun h0 => by rw [hr] at h0; cases h0), fun j hj => ?_⟩
        rw [hr] at hj
        obtain rfl : j = i := by simpa using hj
        unfold stepI
        rw [ho]
        simp only
        refine stepA_mono ?_ h
        rintro ρ' H' ⟨hok, hw⟩
        rw [hst]
        exact ⟨hok, anyA_of_sched hsel rest _ _ ρ' H' h2 hok hw⟩
      | false =>
        rw [he, if_neg (by simp)] at h1 h
        rw [Bool.and_eq_true] at h1
        obtain ⟨c, hc, hw⟩ := h
        have hg : givesA P ops o ρ H = some c := hc
        have hself : (⟨i, o, ρ, c⟩ : Obl).ok P ops H := ok_gives.2 hg
        have ih := anyA_of_sched hsel rest _ (listed.setIfInBounds i true) (ρ.put o.dst c) H h2 (fun x hx => by
          split at hx
          · rcases List.mem_cons.1 hx with rfl | hx
            · exact hself
            · exact hobs x hx
          · exact hobs x hx) hw
        exact anyA_first ho he rest.length obs _ listed ρ H (fun j oj hj hne hun hno => Region.free_spec ho h1.2 j oj hj hne hun hno) (by simpa using h1.1) (fun t _ => rfl) hg hobs
          (fun x hx => by split <;> first | exact List.mem_cons_of_mem _ hx | exact hx) (fun hrd => by rw [if_pos hrd]; exact List.mem_cons_self) ih
end
end Go.Proofs.Ytpppgmoiginedaa.Q
