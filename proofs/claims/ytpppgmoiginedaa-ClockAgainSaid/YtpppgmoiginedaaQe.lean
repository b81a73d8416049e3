/- What a call comes to, in values (Tr); operations that make or write memory, or call. -/
import Derived.Test.YtpppgmoiginedaaQt
import Derived.Laws.AppendOwn
import Derived.Laws.MakeOwn
namespace Go.Proofs.Ytpppgmoiginedaa.Q
open Go Go.RowKit
set_option linter.unusedVariables false
set_option linter.unusedSimpArgs false

def callable (P : Program) (f : FuncId) : Bool := (P.funcs[f]?).any fun fn => fn.body.isSome && fn.name != "runtime.NumGoroutine"
/-- A call of f with these arguments returns a value, and leaves a heap, that Q speaks of. -/
def Tr (P : Program) (f : FuncId) (args : List V) (H : Heap) (Q : V → Heap → Prop) : Prop :=
  callable P f = true ∧ ∀ w (vs : Array Value), Sim w H → argsReal w (imm w H) args vs.toList →
    Calls P f vs w fun e w' => ∃ v c H', e = .returned v ∧ Evo w H w' H' ∧ Sim w' H' ∧ real w' (imm w' H') c v ∧ Q c H'
theorem Tr.mono {P : Program} {f : FuncId} {args : List V} {H : Heap} {Q Q' : V → Heap → Prop} (h : Tr P f args H Q) (hQ : ∀ c H', Q c H' → Q' c H') : Tr P f args H Q' :=
  ⟨h.1, fun w vs hS hA => (h.2 w vs hS hA).mono fun e w' ⟨v, c, H', h1, h2, h3, h4, h5⟩ => ⟨v, c, H', h1, h2, h3, h4, hQ _ _ h5⟩⟩
def optK {α : Type} (o : Option α) (K : α → Prop) : Prop := ∃ v, o = some v ∧ K v
theorem optK_some {α : Type} (v : α) (K : α → Prop) : optK (some v) K = K v := by
  simp [optK]
theorem optK_none {α : Type} (K : α → Prop) : optK none K = False := by simp [optK]
theorem optK_ite {α : Type} (c : Prop) [Decidable c] (o : Option α) (K : α → Prop) : optK (if c then o else none) K = (c ∧ optK o K) := by
  by_cases h : c <;> simp [h, optK]
theorem optK_bind {α β : Type} (o : Option α) (f : α → Option β) (K : β → Prop) : optK (o.bind f) K = optK o fun a => optK (f a) K := by
  cases o <;> simp [optK]
theorem optK_map {α β : Type} (o : Option α) (f : α → β) (K : β → Prop) : optK (o.map f) K = optK o fun a => K (f a) := by
  cases o <;> simp [optK]

def qstore (P : Program) (H : Heap) (T : TypeId) (p x : V) : Option Heap :=
  match p with
  | .ptr b s i f => match H b with
    | some (.row s' L cap) => if s' = s then (L[i]?).bind fun r => (szT P T).bind fun n => if x.cells.length = n ∧ noTup x ∧ f + n ≤ s then some (H.set b (.row s (L.set i (setAt r f x.cells)) cap)) else none else none
    | _ => none
  | _ => none
def byT (P : Program) (t : TypeId) : Option Nat := (P.info? t).map (·.bytes)
def delO (H : Heap) : Option Nat → Heap
  | none => H
  | some b => H.del b
/-- the slice that is appended to: its block, and its elements -/
def baseV (H : Heap) (s : Nat) : V → Option (Option Nat × List (List V))
  | .nils => some (none, [])
  | .own b s' lo n cap => match H b with
    | some (.row s2 L cap') => if s' = s ∧ s2 = s ∧ lo = 0 ∧ cap' = cap ∧ n ≤ L.length then some (some b, L.take n) else none
    | _ => none
  | _ => none
/-- the elements that are appended, or copied -/
def addV (H : Heap) (s : Nat) : V → Option (List (List V))
  | .nils => some []
  | .seq s' L => if s' = s then some L else none
  | .own b s' lo n cap => match H b with
    | some (.row s2 L _) => if s' = s ∧ s2 = s ∧ lo + n ≤ L.length then some ((L.drop lo).take n) else none
    | _ => none
  | _ => none
def isMapT (P : Program) (t : TypeId) : Bool := match P.underlying t with | some (.map _ _) => true | _ => false

/-- operations that write, make memory that may be written, or call -/
def eop (P : Program) (ρ : Env) (H : Heap) (K : V → Heap → Prop) : Op → Prop
  | .store T a x => optK (qstore P H T (ev ρ a) (ev ρ x)) fun H' => K (.tup []) H'
  | .alloc T => optK (zeroT P T) fun z => ∀ b, H b = none → K (.ptr b z.length 0 0) (H.set b (.row z.length [z] 1))
  | .box T x => noTup (ev ρ x) = true ∧ ∀ b, H b = none → K (.ptr b (ev ρ x).cells.length 0 0) (H.set b (.row (ev ρ x).cells.length [(ev ρ x).cells] 1))
  | .buildSlice T n ps => optK (qbuildSlice P T n (ps.toList.map fun x => (x.1, ev ρ x.2))) fun c => match c with
    | .seq s L => ∀ b, H b = none → K (.own b s 0 n n) (H.set b (.row s L n))
    | _ => False
  | .makeSlice T l c => match ev ρ l, ev ρ c with
    | .val (.int _ a), .val (.int _ a') => optK (idxT P T) fun (_, e, s) => optK (zeroT P e) fun z => optK (byT P e) fun by_ => a' = a ∧ 0 ≤ a ∧ a ≤ 1000000 ∧ by_ ≤ 1000000 ∧ isSliceT P T = true ∧ z.length = s ∧ 0 < s ∧ ∀ b, H b = none → K (.own b s 0 a.toNat a.toNat) (H.set b (.row s (List.replicate a.toNat z) a.toNat))
    | _, _ => False
  | .makeMap T none => ∀ b, H b = none → K (.val (.map (some b))) (H.set b (.map []))
  | .mapUpdate T m k x => match ev ρ m, ev ρ k with
    | .val (.map (some b)), .val (.int .i64 n) => match H b with
      | some (.map es) => (mapT P T).isSome = true ∧ noTup (ev ρ x) = true ∧ K (.tup []) (H.set b (.map (mput es n (ev ρ x))))
      | _ => False
    | _, _ => False
  | .call { callee := .builtin .append, args, argTypes } => match args.toList.map (ev ρ) with
    | [s, x] => optK (argTypes[0]?) fun T => optK (argTypes[1]?) fun T' => optK (idxT P T) fun (_, e, sz) => optK (zeroT P e) fun z => optK (byT P e) fun by_ => optK (baseV H sz s) fun (bo, L) => optK (addV H sz x) fun M =>
        isSliceT P T = true ∧ isSliceT P T' = true ∧ z.length = sz ∧ 0 < sz ∧ by_ ≤ 1000000 ∧ L.length + M.length ≤ 100000000 ∧
        (bo = none → M = [] → K .nils H) ∧ (¬ (bo = none ∧ M = []) → ∀ b cap, (delO H bo) b = none → L.length + M.length ≤ cap → K (.own b sz 0 (L.length + M.length) cap) ((delO H bo).set b (.row sz (L ++ M) cap)))
    | _ => False
  | .call { callee := .builtin .delete, args, argTypes } => match args.toList.map (ev ρ) with
    | [.val (.map (some b)), .val (.int .i64 n)] => optK (argTypes[0]?) fun T => match H b with
      | some (.map es) => (mapT P T).isSome = true ∧ K (.tup []) (H.set b (.map (mdel es n)))
      | _ => False
    | _ => False
  | .call { callee := .value g, args, argTypes } => match ev ρ g with
    | .func f caps => Tr P f (args.toList.map (ev ρ) ++ caps) H K
    | _ => False
  | _ => False
end Go.Proofs.Ytpppgmoiginedaa.Q
