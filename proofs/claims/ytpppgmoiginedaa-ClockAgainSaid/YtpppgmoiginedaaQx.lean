/- The steps of a walk in values, as rules to rewrite by. -/
import Derived.Test.YtpppgmoiginedaaQw
namespace Go.Proofs.Ytpppgmoiginedaa.Q
open Go Go.RowKit
set_option linter.unusedVariables false

def contK (P : Program) (M : List Nat) (ops : Array Oper) (K : Env → Heap → Prop) (rest : List Oper) (ρ : Env) (d : Option Nat) (c : V) (H : Heap) : Prop := awpL P M ops K rest (ρ.put d c) H
def contQ (P : Program) (M : List Nat) (ops : Array Oper) (K : Env → Heap → Prop) (rest : List Oper) (ρ : Env) (d : Option Nat) (H : Heap) (c : V) : Prop := awpL P M ops K rest (ρ.put d c) H
def obls (P : Program) (ops : Array Oper) : List Obl → Heap → Prop
  | [], _ => True
  | x :: xs, H => x.ok P ops H ∧ obls P ops xs H
theorem obls_spec {P : Program} {ops : Array Oper} {H : Heap} : ∀ {l : List Obl}, obls P ops l H → ∀ x ∈ l, x.ok P ops H
  | [], _, x, hx => by simp at hx
  | y :: l, h, x, hx => by
    simp only [obls] at h
    rcases List.mem_cons.1 hx with rfl | hx
    · exact h.1
    · exact obls_spec h.2 x hx
/-- a schedule, its operations written out -/
def awpT (P : Program) (M : List Nat) (ops : Array Oper) (K : Env → Heap → Prop) : List (Nat × Option Oper) → List Obl → Env → Heap → Prop
  | [], _, ρ, H => K ρ H
  | (i, none) :: rest, obs, ρ, H => False
  | (i, some o) :: rest, obs, ρ, H =>
    if isE M o then
      if wanted ops ρ o.guard then eop P ρ H (fun c H' => obls P ops (obs.filter (notAhead o)) H' ∧ awpT P M ops K rest (obs.filter (notAhead o)) (ρ.put o.dst c) H') o.op
      else obls P ops (obs.filter (notAhead o)) H ∧ awpT P M ops K rest (obs.filter (notAhead o)) (ρ.put o.dst (.tup [])) H
    else optK (if wanted ops ρ o.guard then qop P H ρ o.op else some (.tup [])) fun c => awpT P M ops K rest (if readsH o.op then ⟨i, o, ρ, c⟩ :: obs else obs) (ρ.put o.dst c) H
def contE (P : Program) (M : List Nat) (ops : Array Oper) (K : Env → Heap → Prop) (rest : List (Nat × Option Oper)) (obs : List Obl) (ρ : Env) (d : Option Nat) (c : V) (H : Heap) : Prop := obls P ops obs H ∧ awpT P M ops K rest obs (ρ.put d c) H
def contT (P : Program) (M : List Nat) (ops : Array Oper) (K : Env → Heap → Prop) (rest : List (Nat × Option Oper)) (i : Nat) (o : Oper) (obs : List Obl) (ρ : Env) (H : Heap) (c : V) : Prop := awpT P M ops K rest (if readsH o.op then ⟨i, o, ρ, c⟩ :: obs else obs) (ρ.put o.dst c) H
theorem awpS_of_T {P : Program} {M : List Nat} {ops : Array Oper} {K : Env → Heap → Prop} : ∀ {l : List Nat} {obs : List Obl} {ρ : Env} {H : Heap}, awpT P M ops K (l.map fun i => (i, ops[i]?)) obs ρ H → awpS P M ops K l obs ρ H
  | [], obs, ρ, H, h => h
  | i :: l, obs, ρ, H, h => by
    simp only [List.map_cons] at h
    unfold awpS
    cases ho : ops[i]? with
    | none => rw [ho] at h; exact h
    | some o =>
      rw [ho] at h
      simp only [awpT] at h ⊢
      split
      · rename_i he
        rw [if_pos he] at h
        unfold stepA
        split
        · rename_i hw
          rw [if_pos hw] at h
          exact eop_mono (fun c H' hk => ⟨obls_spec hk.1, awpS_of_T hk.2⟩) _ h
        · rename_i hw
          rw [if_neg hw] at h
          exact ⟨obls_spec h.1, awpS_of_T h.2⟩
      · rename_i he
        rw [if_neg he] at h
        exact h.imp fun c hc => ⟨hc.1, awpS_of_T hc.2⟩
/-- a region that draws its order, by a schedule -/
theorem awpD_by {P : Program} {M : List Nat} {ops : Array Oper} {K : Env → Heap → Prop} {ρ : Env} {H : Heap} (sched : List Nat) (hs : okSched M ops sched = true) (h : awpT P M ops K (sched.map fun i => (i, ops[i]?)) [] ρ H) : awpD P M ops K ρ H := ⟨sched, hs, awpS_of_T h⟩

/-- an operation under a guard -/
def guardL (b : Bool) (P : Program) (M : List Nat) (ops : Array Oper) (K : Env → Heap → Prop) (d : Option Nat) (op : Op) (e : Bool) (rest : List Oper) (ρ : Env) (H : Heap) : Prop :=
  if b then if e then eop P ρ H (contK P M ops K rest ρ d) op else optK (qop P H ρ op) (contQ P M ops K rest ρ d H) else contK P M ops K rest ρ d (.tup []) H
def guardT (b : Bool) (P : Program) (M : List Nat) (ops : Array Oper) (K : Env → Heap → Prop) (i : Nat) (d : Option Nat) (op : Op) (t : TypeId) (pos : String) (after : Array Edge) (g : Option (Nat × Bool)) (e : Bool) (rest : List (Nat × Option Oper)) (obs : List Obl) (ρ : Env) (H : Heap) : Prop :=
  if e then if b then eop P ρ H (contE P M ops K rest (obs.filter (notAhead ⟨d, op, t, pos, after, g⟩)) ρ d) op else contE P M ops K rest (obs.filter (notAhead ⟨d, op, t, pos, after, g⟩)) ρ d (.tup []) H
  else optK (if b then qop P H ρ op else some (.tup [])) (contT P M ops K rest i ⟨d, op, t, pos, after, g⟩ obs ρ H)
theorem guardL_split {b : Bool} {P : Program} {M : List Nat} {ops : Array Oper} {K : Env → Heap → Prop} {d : Option Nat} {op : Op} {e : Bool} {rest : List Oper} {ρ : Env} {H : Heap} (h1 : b = true → guardL true P M ops K d op e rest ρ H) (h2 : b = false → guardL false P M ops K d op e rest ρ H) : guardL b P M ops K d op e rest ρ H := by
  cases b
  · exact h2 rfl
  · exact h1 rfl
theorem guardT_split {b : Bool} {P : Program} {M : List Nat} {ops : Array Oper} {K : Env → Heap → Prop} {i : Nat} {d : Option Nat} {op : Op} {t : TypeId} {pos : String} {after : Array Edge} {g : Option (Nat × Bool)} {e : Bool} {rest : List (Nat × Option Oper)} {obs : List Obl} {ρ : Env} {H : Heap} (h1 : b = true → guardT true P M ops K i d op t pos after g e rest obs ρ H) (h2 : b = false → guardT false P M ops K i d op t pos after g e rest obs ρ H) : guardT b P M ops K i d op t pos after g e rest obs ρ H := by
  cases b
  · exact h2 rfl
  · exact h1 rfl
theorem guardL_splitN {b : Bool} {P : Program} {M : List Nat} {ops : Array Oper} {K : Env → Heap → Prop} {d : Option Nat} {op : Op} {e : Bool} {rest : List Oper} {ρ : Env} {H : Heap} (h1 : b = true → guardL false P M ops K d op e rest ρ H) (h2 : b = false → guardL true P M ops K d op e rest ρ H) : guardL (!b) P M ops K d op e rest ρ H := by
  cases b
  · exact h2 rfl
  · exact h1 rfl
theorem guardT_splitN {b : Bool} {P : Program} {M : List Nat} {ops : Array Oper} {K : Env → Heap → Prop} {i : Nat} {d : Option Nat} {op : Op} {t : TypeId} {pos : String} {after : Array Edge} {g : Option (Nat × Bool)} {e : Bool} {rest : List (Nat × Option Oper)} {obs : List Obl} {ρ : Env} {H : Heap} (h1 : b = true → guardT false P M ops K i d op t pos after g e rest obs ρ H) (h2 : b = false → guardT true P M ops K i d op t pos after g e rest obs ρ H) : guardT (!b) P M ops K i d op t pos after g e rest obs ρ H := by
  cases b
  · exact h2 rfl
  · exact h1 rfl
theorem condA_splitN {b : Bool} {A B : Env → Heap → Prop} {ρ : Env} {H : Heap} (h1 : b = true → B ρ H) (h2 : b = false → A ρ H) : condA (.val (.bool (!b))) A B ρ H := by
  cases b
  · exact ⟨(fun _ => h2 rfl), (fun h => by cases h)⟩
  · exact ⟨(fun h => by cases h), (fun _ => h1 rfl)⟩
theorem condA_split {b : Bool} {A B : Env → Heap → Prop} {ρ : Env} {H : Heap} (h1 : b = true → A ρ H) (h2 : b = false → B ρ H) : condA (.val (.bool b)) A B ρ H := ⟨h1, h2⟩

def awpDi (id : Nat) (P : Program) (M : List Nat) (ops : Array Oper) (K : Env → Heap → Prop) (ρ : Env) (H : Heap) : Prop := awpD P M ops K ρ H
theorem awpDi_by (id : Nat) {P : Program} {M : List Nat} {ops : Array Oper} {K : Env → Heap → Prop} {ρ : Env} {H : Heap} (sched : List Nat) (hs : okSched M ops sched = true) (h : awpT P M ops K (sched.map fun i => (i, ops[i]?)) [] ρ H) : awpDi id P M ops K ρ H := awpD_by sched hs h

section
variable (P : Program) (M : List Nat) (ops : Array Oper) (K : Env → Heap → Prop) (Q : Exit → Env → Heap → Prop) (ρ : Env) (H : Heap)
theorem st_skip : awp P M .skip Q ρ H = Q .normal ρ H := _root_.id rfl
theorem st_seq (a b : Code) : awp P M (.seq a b) Q ρ H = awp P M a (thenA (awp P M b Q) Q) ρ H := _root_.id rfl
theorem st_cond (c : Operand) (x y : Code) : awp P M (.cond c x y) Q ρ H = condA (ev ρ c) (awp P M x Q) (awp P M y Q) ρ H := _root_.id rfl
theorem st_block (id : Nat) (c : Code) : awp P M (.block id c) Q ρ H = awp P M c (blockA id Q) ρ H := _root_.id rfl
theorem st_exit (id : Nat) : awp P M (.exit id) Q ρ H = Q (.exit id) ρ H := _root_.id rfl
theorem st_ret : awp P M .ret Q ρ H = Q .ret ρ H := _root_.id rfl
theorem st_region (id : Nat) (l : List Oper) : awp P M (.region id l.toArray false) Q ρ H = awpL P M l.toArray (Q .normal) l ρ H := _root_.id rfl
theorem st_draw (id : Nat) : awp P M (.region id ops true) Q ρ H = awpDi id P M ops (Q .normal) ρ H := _root_.id rfl
theorem st_then (n : Env → Heap → Prop) : thenA n Q .normal ρ H = n ρ H := _root_.id rfl
theorem st_then_exit (n : Env → Heap → Prop) (i : Nat) : thenA n Q (.exit i) ρ H = Q (.exit i) ρ H := _root_.id rfl
theorem st_then_ret (n : Env → Heap → Prop) : thenA n Q .ret ρ H = Q .ret ρ H := _root_.id rfl
theorem st_in (id : Nat) : blockA id Q .normal ρ H = Q .normal ρ H := _root_.id rfl
theorem st_in_exit (id i : Nat) : blockA id Q (.exit i) ρ H = if i = id then Q .normal ρ H else Q (.exit i) ρ H := _root_.id rfl
theorem st_in_ret (id : Nat) : blockA id Q .ret ρ H = Q .ret ρ H := _root_.id rfl
theorem st_condA (b : Bool) (A B : Env → Heap → Prop) : condA (.val (.bool b)) A B ρ H = ((b = true → A ρ H) ∧ (b = false → B ρ H)) := _root_.id rfl
theorem st_cond_t (A B : Env → Heap → Prop) : condA (.val (.bool true)) A B ρ H = A ρ H := by simp [condA]
theorem st_cond_f (A B : Env → Heap → Prop) : condA (.val (.bool false)) A B ρ H = B ρ H := by simp [condA]
theorem st_retA (rs : List ResultVar) (Q : V → Heap → Prop) : retA P rs Q .ret ρ H = optK ((resV P H ρ rs).map oneV) (finQ Q H) := _root_.id rfl
theorem st_endA (rs : List ResultVar) (Q : V → Heap → Prop) : retA P rs Q .normal ρ H = optK ((resV P H ρ rs).map oneV) (finQ Q H) := _root_.id rfl
theorem st_nil : awpL P M ops K [] ρ H = K ρ H := _root_.id rfl
theorem st_op (d : Option Nat) (op : Op) (t : TypeId) (pos : String) (after : Array Edge) (g : Option (Nat × Bool)) (rest : List Oper) :
    awpL P M ops K (⟨d, op, t, pos, after, g⟩ :: rest) ρ H = guardL (wanted ops ρ g) P M ops K d op (isE M ⟨d, op, t, pos, after, g⟩) rest ρ H := _root_.id rfl
theorem st_off (d : Option Nat) (op : Op) (e : Bool) (rest : List Oper) : guardL false P M ops K d op e rest ρ H = awpL P M ops K rest (ρ.put d (.tup [])) H := _root_.id rfl
theorem st_q (d : Option Nat) (op : Op) (rest : List Oper) : guardL true P M ops K d op false rest ρ H = optK (qop P H ρ op) (contQ P M ops K rest ρ d H) := _root_.id rfl
theorem st_e (d : Option Nat) (op : Op) (rest : List Oper) : guardL true P M ops K d op true rest ρ H = eop P ρ H (contK P M ops K rest ρ d) op := _root_.id rfl
theorem st_contK (rest : List Oper) (d : Option Nat) (c : V) : contK P M ops K rest ρ d c H = awpL P M ops K rest (ρ.put d c) H := _root_.id rfl
theorem st_contQ (rest : List Oper) (d : Option Nat) (c : V) : contQ P M ops K rest ρ d H c = awpL P M ops K rest (ρ.put d c) H := _root_.id rfl
theorem st_T_nil (obs : List Obl) : awpT P M ops K [] obs ρ H = K ρ H := _root_.id rfl
theorem st_T_op (i : Nat) (d : Option Nat) (op : Op) (t : TypeId) (pos : String) (after : Array Edge) (g : Option (Nat × Bool)) (rest : List (Nat × Option Oper)) (obs : List Obl) :
    awpT P M ops K ((i, some ⟨d, op, t, pos, after, g⟩) :: rest) obs ρ H = guardT (wanted ops ρ g) P M ops K i d op t pos after g (isE M ⟨d, op, t, pos, after, g⟩) rest obs ρ H := _root_.id rfl
theorem st_T_e (i : Nat) (d : Option Nat) (op : Op) (t : TypeId) (pos : String) (after : Array Edge) (g : Option (Nat × Bool)) (rest : List (Nat × Option Oper)) (obs : List Obl) :
    guardT true P M ops K i d op t pos after g true rest obs ρ H = eop P ρ H (contE P M ops K rest (obs.filter (notAhead ⟨d, op, t, pos, after, g⟩)) ρ d) op := _root_.id rfl
theorem st_T_q (i : Nat) (d : Option Nat) (op : Op) (t : TypeId) (pos : String) (after : Array Edge) (g : Option (Nat × Bool)) (rest : List (Nat × Option Oper)) (obs : List Obl) :
    guardT true P M ops K i d op t pos after g false rest obs ρ H = optK (qop P H ρ op) (contT P M ops K rest i ⟨d, op, t, pos, after, g⟩ obs ρ H) := _root_.id rfl
theorem st_T_eoff (i : Nat) (d : Option Nat) (op : Op) (t : TypeId) (pos : String) (after : Array Edge) (g : Option (Nat × Bool)) (rest : List (Nat × Option Oper)) (obs : List Obl) :
    guardT false P M ops K i d op t pos after g true rest obs ρ H = contE P M ops K rest (obs.filter (notAhead ⟨d, op, t, pos, after, g⟩)) ρ d (.tup []) H := _root_.id rfl
theorem st_T_qoff (i : Nat) (d : Option Nat) (op : Op) (t : TypeId) (pos : String) (after : Array Edge) (g : Option (Nat × Bool)) (rest : List (Nat × Option Oper)) (obs : List Obl) :
    guardT false P M ops K i d op t pos after g false rest obs ρ H = contT P M ops K rest i ⟨d, op, t, pos, after, g⟩ obs ρ H (.tup []) := by
  show optK (some (V.tup [])) _ = _
  rw [optK_some]
theorem st_contE (rest : List (Nat × Option Oper)) (obs : List Obl) (d : Option Nat) (c : V) : contE P M ops K rest obs ρ d c H = (obls P ops obs H ∧ awpT P M ops K rest obs (ρ.put d c) H) := _root_.id rfl
theorem st_contT (rest : List (Nat × Option Oper)) (i : Nat) (o : Oper) (obs : List Obl) (c : V) : contT P M ops K rest i o obs ρ H c = awpT P M ops K rest (if readsH o.op then ⟨i, o, ρ, c⟩ :: obs else obs) (ρ.put o.dst c) H := _root_.id rfl
theorem st_put (d k : Nat) (v : V) : Env.put ρ (some d) v k = if k = d then v else ρ k := _root_.id rfl
theorem st_put_none (v : V) : Env.put ρ none v = ρ := _root_.id rfl
theorem st_unguarded : wanted ops ρ none = true := _root_.id rfl
theorem st_set (b k : Nat) (o : Ob) : Heap.set H b o k = if k = b then some o else H k := _root_.id rfl
theorem st_del (b k : Nat) : Heap.del H b k = if k = b then none else H k := _root_.id rfl
end
def bindsG : Ground → Bool
  | .textOnly _ | .gcOnly _ => false
  | _ => true
def onB : List Edge → Nat → Bool
  | [], _ => false
  | ⟨j, gr⟩ :: l, i => (bindsG gr && j == i) || onB l i
theorem binds_any (e : Edge) : Region.binds .any e = bindsG e.ground := by
  unfold Region.binds bindsG
  cases e.ground <;> rfl
theorem st_notAhead (d : Option Nat) (op : Op) (t : TypeId) (pos : String) (l : List Edge) (g : Option (Nat × Bool)) (i : Nat) (o : Oper) (ρ : Env) (c : V) :
    notAhead ⟨d, op, t, pos, l.toArray, g⟩ ⟨i, o, ρ, c⟩ = !(onB l i) := by
  unfold notAhead
  congr 1
  rw [List.any_toArray]
  simp only
  induction l with
  | nil => rfl
  | cons e l ih =>
    obtain ⟨j, gr⟩ := e
    rw [List.any_cons, ih, binds_any]
    rfl
/-! ### What makes memory, calls or writes, as rules -/
def allB (H : Heap) (K : Nat → Prop) : Prop := ∀ b, H b = none → K b
def allBC (H : Heap) (n : Nat) (K : Nat → Nat → Prop) : Prop := ∀ b cap, H b = none → n ≤ cap → K b cap
theorem allB_by {H : Heap} {K : Nat → Prop} (h : ∀ b, H b = none → K b) : allB H K := h
theorem allBC_by {H : Heap} {n : Nat} {K : Nat → Nat → Prop} (h : ∀ b cap, H b = none → n ≤ cap → K b cap) : allBC H n K := h
def allocB (H : Heap) (K : V → Heap → Prop) (z : List V) (b : Nat) : Prop := K (.ptr b z.length 0 0) (H.set b (.row z.length [z] 1))
def allocK (H : Heap) (K : V → Heap → Prop) (z : List V) : Prop := allB H (allocB H K z)
def rowB (H : Heap) (K : V → Heap → Prop) (s n : Nat) (L : List (List V)) (b : Nat) : Prop := K (.own b s 0 n n) (H.set b (.row s L n))
def bsK (H : Heap) (K : V → Heap → Prop) (n : Nat) (c : V) : Prop := match c with | .seq s L => allB H (rowB H K s n L) | _ => False
def mapB (H : Heap) (K : V → Heap → Prop) (b : Nat) : Prop := K (.val (.map (some b))) (H.set b (.map []))
def qmakeS (P : Program) (T : TypeId) (l c : V) : Option (Nat × Nat × List V) :=
  match l, c with
  | .val (.int _ a), .val (.int _ a') => (idxT P T).bind fun (_, e, s) => (zeroT P e).bind fun z => (byT P e).bind fun by_ => if a' = a ∧ 0 ≤ a ∧ a ≤ 1000000 ∧ by_ ≤ 1000000 ∧ isSliceT P T = true ∧ z.length = s ∧ 0 < s then some (s, a.toNat, z) else none
  | _, _ => none
def msK (H : Heap) (K : V → Heap → Prop) (x : Nat × Nat × List V) : Prop := allB H (rowB H K x.1 x.2.1 (List.replicate x.2.1 x.2.2))
def qmapU (P : Program) (H : Heap) (T : TypeId) (m k x : V) : Option Heap :=
  match m, k with
  | .val (.map (some b)), .val (.int .i64 n) => match H b with
    | some (.map es) => if (mapT P T).isSome ∧ noTup x then some (H.set b (.map (mput es n x))) else none
    | _ => none
  | _, _ => none
def qdelete (P : Program) (H : Heap) (ts : Array TypeId) (args : List V) : Option Heap :=
  match args with
  | [.val (.map (some b)), .val (.int .i64 n)] => (ts[0]?).bind fun T => match H b with
    | some (.map es) => if (mapT P T).isSome then some (H.set b (.map (mdel es n))) else none
    | _ => none
  | _ => none
def qapp (P : Program) (H : Heap) (ts : Array TypeId) (args : List V) : Option (Nat × Option Nat × List (List V) × List (List V)) :=
  match args with
  | [s, x] => (ts[0]?).bind fun T => (ts[1]?).bind fun T' => (idxT P T).bind fun (_, e, sz) => (zeroT P e).bind fun z => (byT P e).bind fun by_ => (baseV H sz s).bind fun (bo, L) => (addV H sz x).bind fun M =>
      if isSliceT P T = true ∧ isSliceT P T' = true ∧ z.length = sz ∧ 0 < sz ∧ by_ ≤ 1000000 ∧ L.length + M.length ≤ 100000000 then some (sz, bo, L, M) else none
  | _ => none
def appB (H : Heap) (K : V → Heap → Prop) (sz : Nat) (L : List (List V)) (n b cap : Nat) : Prop := K (.own b sz 0 n cap) (H.set b (.row sz L cap))
def appK (H : Heap) (K : V → Heap → Prop) (x : Nat × Option Nat × List (List V) × List (List V)) : Prop :=
  (x.2.1 = none → x.2.2.2 = [] → K .nils H) ∧ (¬ (x.2.1 = none ∧ x.2.2.2 = []) → allBC (delO H x.2.1) (x.2.2.1.length + x.2.2.2.length) (appB (delO H x.2.1) K x.1 (x.2.2.1 ++ x.2.2.2) (x.2.2.1.length + x.2.2.2.length)))
def callV (P : Program) (args : List V) (H : Heap) (K : V → Heap → Prop) : V → Prop
  | .func f caps => Tr P f (args ++ caps) H K
  | _ => False
section
variable (P : Program) (ρ : Env) (H : Heap) (K : V → Heap → Prop)
theorem st_store (T : TypeId) (a x : Operand) : eop P ρ H K (.store T a x) = optK (qstore P H T (ev ρ a) (ev ρ x)) (K (.tup [])) := _root_.id rfl
theorem st_alloc (T : TypeId) : eop P ρ H K (.alloc T) = optK (zeroT P T) (allocK H K) := _root_.id rfl
theorem st_allocK (z : List V) : allocK H K z = allB H (allocB H K z) := _root_.id rfl
theorem st_allocB (z : List V) (b : Nat) : allocB H K z b = K (.ptr b z.length 0 0) (H.set b (.row z.length [z] 1)) := _root_.id rfl
theorem st_box (T : TypeId) (x : Operand) : eop P ρ H K (.box T x) = (noTup (ev ρ x) = true ∧ allB H (allocB H K (ev ρ x).cells)) := _root_.id rfl
theorem st_buildSlice (T : TypeId) (n : Nat) (ps : Array (Nat × Operand)) : eop P ρ H K (.buildSlice T n ps) = optK (qbuildSlice P T n (ps.toList.map fun x => (x.1, ev ρ x.2))) (bsK H K n) := by
  show optK _ _ = _
  congr 1
theorem st_bsK (n s : Nat) (L : List (List V)) : bsK H K n (.seq s L) = allB H (rowB H K s n L) := _root_.id rfl
theorem st_rowB (s n : Nat) (L : List (List V)) (b : Nat) : rowB H K s n L b = K (.own b s 0 n n) (H.set b (.row s L n)) := _root_.id rfl
theorem st_makeMap (T : TypeId) : eop P ρ H K (.makeMap T none) = allB H (mapB H K) := _root_.id rfl
theorem st_mapB (b : Nat) : mapB H K b = K (.val (.map (some b))) (H.set b (.map [])) := _root_.id rfl
theorem st_makeSlice (T : TypeId) (l c : Operand) : eop P ρ H K (.makeSlice T l c) = optK (qmakeS P T (ev ρ l) (ev ρ c)) (msK H K) := by
  simp only [eop, qmakeS]
  split
  · rename_i k1 n1 k2 n2 e1 e2
    rw [e1, e2]
    simp only [optK_bind, optK_ite, optK_some]
    congr 1
    funext x
    congr 1
    funext z
    congr 1
    funext y
    simp only [msK, allB, rowB, and_assoc]
  · rename_i h
    split
    · rename_i k1 n1 k2 n2 e1 e2
      exact absurd e2 (h _ _ _ _ e1)
    · rw [optK_none]
theorem st_msK (s n : Nat) (z : List V) : msK H K (s, n, z) = allB H (rowB H K s n (List.replicate n z)) := _root_.id rfl
theorem st_mapUpdate (T : TypeId) (m k x : Operand) : eop P ρ H K (.mapUpdate T m k x) = optK (qmapU P H T (ev ρ m) (ev ρ k) (ev ρ x)) (K (.tup [])) := by
  simp only [eop, qmapU]
  split
  · rename_i b n e1 e2
    rw [e1, e2]
    simp only
    cases H b with
    | none => simp only [optK_none]
    | some o => cases o <;> simp only [optK_none, optK_ite, optK_some, and_assoc]
  · rename_i h
    split
    · rename_i b n e1 e2
      exact absurd e2 (h _ _ e1)
    · rw [optK_none]
theorem st_delete (args : Array Operand) (ts : Array TypeId) : eop P ρ H K (.call { callee := .builtin .delete, args := args, argTypes := ts }) = optK (qdelete P H ts (args.toList.map (ev ρ))) (K (.tup [])) := by
  simp only [eop, qdelete]
  generalize args.toList.map (ev ρ) = l
  split
  · simp only [optK_bind]
    congr 1
    funext T
    rename_i b n
    cases H b with
    | none => simp only [optK_none]
    | some o => cases o <;> simp only [optK_none, optK_ite, optK_some]
  · rename_i h
    split
    · exact absurd rfl (h _ _)
    · rw [optK_none]
theorem st_append (args : Array Operand) (ts : Array TypeId) : eop P ρ H K (.call { callee := .builtin .append, args := args, argTypes := ts }) = optK (qapp P H ts (args.toList.map (ev ρ))) (appK H K) := by
  simp only [eop, qapp]
  generalize args.toList.map (ev ρ) = l
  split
  · simp only [optK_bind, optK_ite, optK_some]
    congr 1; funext T
    congr 1; funext T'
    congr 1; funext x
    congr 1; funext z
    congr 1; funext y
    congr 1; funext bl
    congr 1; funext M
    simp only [appK, allBC, appB, and_assoc]
  · rename_i h
    split
    · exact absurd rfl (h _ _)
    · rw [optK_none]
theorem st_app_own (sz b : Nat) (L M : List (List V)) : appK H K (sz, some b, L, M) = allBC (H.del b) (L.length + M.length) (appB (H.del b) K sz (L ++ M) (L.length + M.length)) := by
  simp [appK, delO]
theorem st_app_nil (sz : Nat) (r : List V) (M : List (List V)) : appK H K (sz, none, [], r :: M) = allBC H (r :: M).length (appB H K sz (r :: M) (r :: M).length) := by
  simp [appK, delO]
theorem st_app_none (sz : Nat) : appK H K (sz, none, [], []) = K .nils H := by
  simp [appK]
theorem st_appB (sz : Nat) (L : List (List V)) (n b cap : Nat) : appB H K sz L n b cap = K (.own b sz 0 n cap) (H.set b (.row sz L cap)) := _root_.id rfl
theorem st_call (g : Operand) (args : Array Operand) (ts : Array TypeId) : eop P ρ H K (.call { callee := .value g, args := args, argTypes := ts }) = callV P (args.toList.map (ev ρ)) H K (ev ρ g) := by
  simp only [eop]
  cases ev ρ g <;> rfl
theorem st_callV (args caps : List V) (f : FuncId) : callV P args H K (.func f caps) = Tr P f (args ++ caps) H K := _root_.id rfl
end
theorem ite_some {α : Type} (c : Prop) [Decidable c] (a b : α) : (if c then some a else some b) = some (if c then a else b) := by split <;> rfl
theorem ite_bool (c : Prop) [Decidable c] (a b : Bool) : (if c then V.val (.bool a) else V.val (.bool b)) = V.val (.bool (if c then a else b)) := by split <;> rfl
theorem ite_int (c : Prop) [Decidable c] (k : IntKind) (a b : Int) : (if c then V.val (.int k a) else V.val (.int k b)) = V.val (.int k (if c then a else b)) := by split <;> rfl
theorem ite_true_b (c : Prop) [Decidable c] (b : Bool) : (if c then true else b) = (decide c || b) := by by_cases h : c <;> simp [h]
theorem ite_false_b (c : Prop) [Decidable c] (b : Bool) : (if c then b else false) = (decide c && b) := by by_cases h : c <;> simp [h]
/-- the slots at the begin, one by one -/
def envAt (n : Nat) : List V → Env
  | [], _ => .tup []
  | a :: as, k => if k = n then a else envAt (n + 1) as k
theorem env0_at (args : List V) : env0 args = envAt 0 args := by
  have key : ∀ (args : List V) (n k : Nat), n ≤ k → envAt n args k = (args[k - n]?).getD (.tup []) := by
    intro args
    induction args with
    | nil => intro n k _; simp [envAt]
    | cons a as ih =>
      intro n k hk
      simp only [envAt]
      split
      · rename_i e; subst e; simp
      · rename_i e
        rw [ih (n + 1) k (by omega), show k - n = (k - (n + 1)) + 1 by omega]
        simp
  funext k
  rw [key args 0 k (Nat.zero_le _)]
  rfl
/-- the end of a function, nothing forgotten -/
theorem fin_id {Q : V → Heap → Prop} {H : Heap} {c : V} (h : Q c H) : finQ Q H c := ⟨c, H, fun w x hS hx => ⟨hS, hx, fun _ h => h⟩, h⟩
theorem fin_frz {Q : V → Heap → Prop} {H H' : Heap} {c c' : V} (hz : Frz H H' c c') (h : Q c' H') : finQ Q H c := ⟨c', H', hz, h⟩
/-- a loop -/
theorem loop_by {P : Program} {M : List Nat} {body : Code} {Q : Exit → Env → Heap → Prop} {ρ : Env} {H : Heap} (I : Nat → Env → Heap → Prop) (n : Nat) (h0 : I n ρ H) (hr : ∀ n ρ H, I n ρ H → awp P M body (thenA (roundA I n) Q) ρ H) : awp P M (.loop body) Q ρ H := ⟨I, n, h0, hr⟩
theorem round_by {I : Nat → Env → Heap → Prop} {n : Nat} {ρ : Env} {H : Heap} (m : Nat) (hm : m < n) (h : I m ρ H) : roundA I n ρ H := ⟨m, hm, h⟩
end Go.Proofs.Ytpppgmoiginedaa.Q
