/- Operations that only read, compute, or lay out memory that nobody will write: what they come to, as a function of values. -/
import Derived.Test.YtpppgmoiginedaaQr
import Derived.Laws.StructEq
import Derived.ChangeKeysEq
namespace Go.Proofs.Ytpppgmoiginedaa.Q
open Go Go.RowKit
set_option linter.unusedVariables false

def ofVal1 : Value → V
  | .slice none 0 0 => .nils
  | v => .val v
def ofVal : Value → V
  | .agg cs => .agg (cs.toList.map ofVal1)
  | .tuple _ => .tup []
  | v => ofVal1 v
def constOK : Value → Bool
  | .agg cs => cs.all (·.oneCell')
  | .tuple vs => vs.size == 0
  | _ => true
theorem real_ofVal1 {w : World} {D : Nat → Prop} {v : Value} (h : v.oneCell' = true) : real w D (ofVal1 v) v := by
  unfold ofVal1
  split
  · unfold real; exact ⟨none, rfl⟩
  · unfold real; exact ⟨rfl, h⟩
theorem real_ofVal1' {w : World} {D : Nat → Prop} {u : V} {v : Value} (e : u = ofVal1 v) (h : v.oneCell' = true) : real w D u v := e ▸ real_ofVal1 h
theorem reals_ofVal1 {w : World} {D : Nat → Prop} {l : List Value} (h : ∀ v ∈ l, v.oneCell' = true) : reals w D (l.map ofVal1) l :=
  reals_mk (by simp) fun j c v h1 h2 => by
    rw [List.getElem?_map, h2] at h1
    obtain rfl := Option.some.inj h1
    have hv := h v (List.mem_of_getElem? h2)
    exact ⟨real_ofVal1 hv, hv⟩
theorem real_ofVal {w : World} {D : Nat → Prop} {v : Value} (h : constOK v = true) : real w D (ofVal v) v := by
  cases v with
  | agg cs =>
    unfold ofVal real
    refine ⟨cs, rfl, reals_ofVal1 fun v hv => ?_⟩
    simp only [constOK, Array.all_eq_true_iff_forall_mem] at h
    exact h v (by simpa using hv)
  | tuple vs =>
    unfold ofVal real
    refine ⟨vs, rfl, ?_⟩
    have : vs = #[] := by simpa [constOK] using h
    subst this
    unfold realt
    rfl
  | _ => refine real_ofVal1' ?_ ?_ <;> rfl

abbrev Env := Nat → V
def Env.put (ρ : Env) (d : Option Nat) (v : V) : Env := match d with | some d => fun k => if k = d then v else ρ k | none => ρ
def ev (ρ : Env) : Operand → V
  | .tmp t => ρ t
  | .const v => ofVal v
  | .global g => .ptr g 0 0 0
  | .func f => .func f []
def Operand.ok : Operand → Bool
  | .const v => constOK v
  | _ => true
structure RA (w : World) (H : Heap) (ρ : Env) (a : Act) : Prop where
  get : ∀ k, real w (imm w H) (ρ k) (a.tmps.getD k undef)
  defers : a.defers = []
theorem RA.ev {w : World} {H : Heap} {ρ : Env} {a : Act} (h : RA w H ρ a) {x : Operand} (hx : Operand.ok x = true) : real w (imm w H) (ev ρ x) (a.eval x) := by
  cases x with
  | tmp t => exact h.get t
  | const v => exact real_ofVal hx
  | global g => simp [Q.ev, real, Act.eval]
  | func f => simp only [Q.ev, real, Act.eval]; exact ⟨#[], rfl, by unfold reals; rfl⟩
theorem RA.evo {w w' : World} {H H' : Heap} {ρ : Env} {a : Act} (h : RA w H ρ a) (e : Evo w H w' H') : RA w' H' ρ a := ⟨fun k => real_keeps e.keeps _ _ (h.get k), h.defers⟩
theorem getD_set (xs : Array Value) (d k : Nat) (v : Value) (hd : d < xs.size) : (xs.setIfInBounds d v).getD k undef = if k = d then v else xs.getD k undef := by
  rcases Nat.decEq k d with h | h
  · rw [if_neg h]
    simp [Array.getD_eq_getD_getElem?, Ne.symm h]
  · subst h
    simp [Array.getD_eq_getD_getElem?, hd]
theorem RA.put {w : World} {H : Heap} {ρ : Env} {a : Act} (h : RA w H ρ a) {d : Option Nat} {V : V} {v : Value} (hv : real w (imm w H) V v) (hd : ∀ k, d = some k → k < a.tmps.size) : RA w H (ρ.put d V) (a.put d v) := by
  cases d with
  | none => exact h
  | some d =>
    refine ⟨fun k => ?_, h.defers⟩
    simp only [Env.put, Act.put]
    rw [getD_set _ _ _ _ (hd d rfl)]
    split
    · exact hv
    · exact h.get k

/-! ### What the operations come to -/
def ldAt (P : Program) (H : Heap) (t : TypeId) (x : V) : Option V :=
  (szT P t).bind fun n => (agT P t).bind fun g => match x with
    | .iptr cs => ldV g n cs
    | .ptr b s i f => match H b with
      | some (.row s' L cap) => if s' = s then (L[i]?).bind fun r => ldV g n (r.drop f) else none
      | _ => none
    | _ => none
def qint (op : BinOp) (k : IntKind) (a : Int) (k' : IntKind) (b : Int) : Option V :=
  match op with
  | .shl => if b < 0 then none else some (.val (.int k (k.wrap (a * 2 ^ (min b.toNat k.bits)))))
  | .shr => if b < 0 then none else some (.val (.int k (a.fdiv (2 ^ (min b.toNat k.bits)))))
  | op => if k = k' then match op with
    | .add => some (.val (.int k (k.wrap (a + b))))
    | .sub => some (.val (.int k (k.wrap (a - b))))
    | .mul => some (.val (.int k (k.wrap (a * b))))
    | .quo => if b = 0 then none else some (.val (.int k (k.wrap (a.tdiv b))))
    | .rem => if b = 0 then none else some (.val (.int k (a.tmod b)))
    | .and => some (.val (.int k (k.wrap (BitVec.ofInt k.bits a &&& BitVec.ofInt k.bits b).toNat)))
    | .or => some (.val (.int k (k.wrap (BitVec.ofInt k.bits a ||| BitVec.ofInt k.bits b).toNat)))
    | .xor => some (.val (.int k (k.wrap (BitVec.ofInt k.bits a ^^^ BitVec.ofInt k.bits b).toNat)))
    | .andNot => some (.val (.int k (k.wrap (BitVec.ofInt k.bits a &&& ~~~BitVec.ofInt k.bits b).toNat)))
    | .eql => some (.val (.bool (a == b)))
    | .neq => some (.val (.bool (a != b)))
    | .lss => some (.val (.bool (decide (a < b))))
    | .leq => some (.val (.bool (decide (a ≤ b))))
    | .gtr => some (.val (.bool (decide (a > b))))
    | .geq => some (.val (.bool (decide (a ≥ b))))
    | _ => none
  else none
def qstr (op : BinOp) (a b : ByteArray) : Option V :=
  match op with
  | .add => if a.size + b.size ≤ 1000000000000000 then some (.val (.string (a ++ b))) else none
  | .eql => some (.val (.bool (a.toList == b.toList)))
  | .neq => some (.val (.bool (!(a.toList == b.toList))))
  | _ => none
/-- are these values alike, as values of this type? -/
def eqFs (P : Program) (eq : TypeId → V → V → Option Bool) (xs ys : List V) : List Field → Option Bool
  | [] => some true
  | f :: fs => if f.name = "_" then eqFs P eq xs ys fs else
    (agT P f.type).bind fun g => (szT P f.type).bind fun n => (ldV g n (xs.drop f.offset)).bind fun a => (ldV g n (ys.drop f.offset)).bind fun b =>
      (eq f.type a b).bind fun r => (eqFs P eq xs ys fs).map (r && ·)
def eqIs (P : Program) (eq : TypeId → V → V → Option Bool) (xs ys : List V) (e : TypeId) (g : Bool) (n : Nat) : List Nat → Option Bool
  | [] => some true
  | i :: is => (ldV g n (xs.drop (i * n))).bind fun a => (ldV g n (ys.drop (i * n))).bind fun b =>
      (eq e a b).bind fun r => (eqIs P eq xs ys e g n is).map (r && ·)
def eqT (P : Program) : Nat → TypeId → V → V → Option Bool
  | 0, _, _, _ => none
  | d + 1, t, x, y => match P.underlying t, x, y with
    | some .bool, .val (.bool a), .val (.bool b) => some (a == b)
    | some (.int _), .val (.int k a), .val (.int k' b) => if k = k' then some (a == b) else none
    | some .string, .val (.string a), .val (.string b) => some (a == b)
    | some (.struct fs), .agg xs, .agg ys => if P.stoodInHeld t then none else eqFs P (eqT P d) xs ys fs.toList
    | some (.array n e), .agg xs, .agg ys => (agT P e).bind fun g => (szT P e).bind fun m => eqIs P (eqT P d) xs ys e g m (List.range n)
    | _, _, _ => none
def qcmp (op : BinOp) (r : Bool) : Option V := match op with | .eql => some (.val (.bool r)) | .neq => some (.val (.bool (!r))) | _ => none
def isPtr (P : Program) (t : TypeId) : Bool := match P.underlying t with | some (.pointer _) => true | _ => false
def isBoolT (P : Program) (t : TypeId) : Bool := match P.underlying t with | some .bool => true | _ => false
def qagg (P : Program) (op : BinOp) (t : TypeId) (xs ys : List V) : Option V := if P.eqGuardType P.depth t then none else (eqT P 8 t (.agg xs) (.agg ys)).bind (qcmp op)
def qbin (P : Program) (op : BinOp) (t : TypeId) (x y : V) : Option V :=
  match x, y with
  | .val (.int k a), .val (.int k' b) => qint op k a k' b
  | .val (.string a), .val (.string b) => qstr op a b
  | .val (.bool a), .val (.bool b) => if isBoolT P t then qcmp op (a == b) else none
  | .ptr .., .val (.pointer none) | .iptr _, .val (.pointer none) => if isPtr P t then qcmp op false else none
  | .val (.pointer none), .val (.pointer none) => if isPtr P t then qcmp op true else none
  | .agg xs, .agg ys => qagg P op t xs ys
  | _, _ => none
def qun (op : UnOp) (x : V) : Option V :=
  match op, x with
  | .neg, .val (.int k n) => some (.val (.int k (k.wrap (0 - n))))
  | .not, .val (.bool b) => some (.val (.bool !b))
  | _, _ => none
def qconv (P : Program) (s d : TypeId) (x : V) : Option V :=
  match P.underlying s, P.underlying d, x with
  | some _, some (.int k), .val (.int _ n) => some (.val (.int k (k.wrap n)))
  | some (.string), some .string, .val (.string z) => some (.val (.string z))
  | _, _, _ => none
def qfield (P : Program) (T : TypeId) (k : Nat) (x : V) : Option V :=
  (offT P T k).bind fun (off, n, _) => if n = 0 then none else match x with
    | .iptr cs => some (.iptr (cs.drop off))
    | .ptr b s i f => some (.ptr b s i (f + off))
    | _ => none
def qpart (P : Program) (T : TypeId) (k : Nat) (x : V) : Option V :=
  (offT P T k).bind fun (off, n, t) => (agT P t).bind fun g => match x with
    | .agg cs => ldV g n (cs.drop off)
    | _ => none
def qindexAddr (P : Program) (T : TypeId) (x ix : V) : Option V :=
  (idxT P T).bind fun (len, _, s) => match ix with
    | .val (.int _ i) => match len, x with
      | none, .seq s' L => if s' = s ∧ 0 ≤ i then (L[i.toNat]?).map .iptr else none
      | none, .own b s' lo n cap => if s' = s ∧ 0 ≤ i ∧ i < n then some (.ptr b s (lo + i.toNat) 0) else none
      | some m, .ptr b s' j f => if 0 ≤ i ∧ i < m then some (.ptr b s' j (f + i.toNat * s)) else none
      | some m, .iptr cs => if 0 ≤ i ∧ i < m then some (.iptr (cs.drop (i.toNat * s))) else none
      | _, _ => none
    | _ => none
def qindex (P : Program) (T : TypeId) (x ix : V) : Option V :=
  match ix with
  | .val (.int _ i) => match P.underlying T, x with
    | some .string, .val (.string z) => if 0 ≤ i then (z[i.toNat]?).map fun b => .val (.int .u8 b.toNat) else none
    | some (.array m e), .agg cs => if 0 ≤ i ∧ i < m then (szT P e).bind fun n => (agT P e).bind fun g => ldV g n (cs.drop (i.toNat * n)) else none
    | _, _ => none
  | _ => none
def bnd (d : Int) : Option V → Option Int
  | none => some d
  | some (.val (.int _ i)) => some i
  | some _ => none
def isSliceT (P : Program) (t : TypeId) : Bool := match P.underlying t with | some (.slice _) => true | _ => false
def isStrT (P : Program) (t : TypeId) : Bool := match P.underlying t with | some .string => true | _ => false
def qslice (P : Program) (T : TypeId) (x : V) (lo hi mx : Option V) : Option V :=
  match x with
  | .val (.string z) => if isStrT P T ∧ mx.isNone then (bnd 0 lo).bind fun l => (bnd z.size hi).bind fun h => if 0 ≤ l ∧ l ≤ h ∧ h ≤ z.size then some (.val (.string (z.extract l.toNat h.toNat))) else none else none
  | .seq s L => if isSliceT P T then (bnd 0 lo).bind fun l => (bnd L.length hi).bind fun h => match mx with
      | none => (idxT P T).bind fun (_, _, s') => if s' = s ∧ 0 ≤ l ∧ l ≤ h ∧ h ≤ L.length then some (.seq s ((L.take h.toNat).drop l.toNat)) else none
      | some (.val (.int _ m)) => if l = 0 ∧ h = 0 ∧ m = 0 ∧ hi.isSome ∧ (idxT P T).isSome then some .nils else none
      | _ => none
    else none
  | .own b s o n cap => if isSliceT P T ∧ mx.isNone then (bnd 0 lo).bind fun l => (bnd n hi).bind fun h => (idxT P T).bind fun (_, _, s') => if s' = s ∧ 0 ≤ l ∧ l ≤ h ∧ h ≤ n then some (.own b s (o + l.toNat) (h - l).toNat (cap - l.toNat)) else none else none
  | .nils => if isSliceT P T then (bnd 0 lo).bind fun l => (bnd 0 hi).bind fun h => match mx with
      | none => if l = 0 ∧ h = 0 ∧ (idxT P T).isSome then some .nils else none
      | some (.val (.int _ m)) => if l = 0 ∧ h = 0 ∧ m = 0 ∧ hi.isSome ∧ (idxT P T).isSome then some .nils else none
      | _ => none
    else none
  | _ => none
/-- cells set from a place on -/
def setAt (cs : List V) (off : Nat) : List V → List V
  | [] => cs
  | v :: vs => setAt (cs.set off v) (off + 1) vs
def noTup : V → Bool
  | .tup _ => false
  | _ => true
/-- the parts of a struct or an array, one by one: place, size, value -/
def bld (cs : List V) : List (Option (Nat × Nat) × V) → Option (List V)
  | [] => some cs
  | (some (off, n), v) :: ps => if v.cells.length = n ∧ off + n ≤ cs.length ∧ noTup v then bld (setAt cs off v.cells) ps else none
  | (none, _) :: _ => none
def placesT (P : Program) (t : TypeId) : Option (List (Nat × Nat) ⊕ Nat) :=
  match P.underlying t with
  | some (.struct fs) => if fs.all (fun f => (szT P f.type).isSome) then some (.inl (fs.toList.map fun f => (f.offset, (szT P f.type).getD 0))) else none
  | some (.array _ e) => (szT P e).map .inr
  | _ => none
def plc (p : List (Nat × Nat) ⊕ Nat) (i : Nat) : Option (Nat × Nat) := match p with | .inl l => l[i]? | .inr n => some (i * n, n)
/-- the cells of a type's zero value -/
def zeroT (P : Program) (t : TypeId) : Option (List V) := (P.info? t).bind fun i => i.zero.bind fun z => if z.cells.all (·.oneCell') then some (z.cells.toList.map ofVal1) else none
def qbuild (P : Program) (t : TypeId) (ps : List (Nat × V)) : Option V :=
  (zeroT P t).bind fun z => (placesT P t).bind fun p => (bld z (ps.map fun x => (plc p x.1, x.2))).map .agg
/-- the elements of a slice that is written out -/
def bldRows (s : Nat) (L : List (List V)) : List (Nat × V) → Option (List (List V))
  | [] => some L
  | (i, v) :: ps => if v.cells.length = s ∧ i < L.length ∧ noTup v then bldRows s (L.set i v.cells) ps else none
def qbuildSlice (P : Program) (t : TypeId) (n : Nat) (ps : List (Nat × V)) : Option V :=
  if isSliceT P t then (idxT P t).bind fun (_, e, s) => if n = 0 ∧ ps.length = 0 then some .nils else if 0 < s ∧ n * s ≤ 16777216 then (zeroT P e).bind fun z => if z.length = s then (bldRows s (List.replicate n z) ps).map (.seq s) else none else none else none
def lenV : V → Option Nat
  | .seq _ L => some L.length
  | .own _ _ _ n _ => some n
  | .nils => some 0
  | _ => none
def qlen (P : Program) (H : Heap) (t : TypeId) (x : V) : Option V :=
  match P.underlying t, x with
    | some .string, .val (.string z) => some (.val (.int .i64 z.size))
    | some (.slice _), x => (lenV x).map fun n : Nat => V.val (.int .i64 (n : Int))
    | some (.map _ _), .val (.map none) => some (.val (.int .i64 0))
    | some (.map _ _), .val (.map (some r)) => match H r with
      | some (.map es) => some (.val (.int .i64 es.length))
      | _ => none
    | some (.array n _), x => some (.val (.int .i64 n))
    | _, _ => none
def qmax : List V → Option V
  | [.val (.int k x), .val (.int _ y)] => some (.val (.int k (if y > x then y else x)))
  | _ => none
def qmin : List V → Option V
  | [.val (.int k x), .val (.int _ y)] => some (.val (.int k (if y < x then y else x)))
  | _ => none
def qbuiltin (P : Program) (H : Heap) (b : Builtin) (ts : Array TypeId) (args : List V) : Option V :=
  match b with
  | .len => match args with
    | [x] => (ts[0]?).bind fun t => qlen P H t x
    | _ => none
  | .max => qmax args
  | .min => qmin args
  | _ => none
/-- maps of ints, in the order in which they were filled -/
def mget : List (Int × V) → Int → Option V
  | [], _ => none
  | (k, v) :: es, n => if k = n then some v else mget es n
def mput : List (Int × V) → Int → V → List (Int × V)
  | [], n, x => [(n, x)]
  | (k, v) :: es, n, x => if k = n then (n, x) :: es else (k, v) :: mput es n x
def mdel : List (Int × V) → Int → List (Int × V)
  | [], _ => []
  | (k, v) :: es, n => if k = n then es else (k, v) :: mdel es n
/-- a map type of int keys: its elements' type, and their zero value -/
def mapT (P : Program) (t : TypeId) : Option (TypeId × V) :=
  match P.underlying t with
  | some (.map k e) => match P.underlying k with
    | some (.int _) => (P.info? e).bind fun i => i.zero.bind fun z => if constOK z then some (e, ofVal z) else none
    | _ => none
  | _ => none
def mapOf (H : Heap) : V → Option (List (Int × V))
  | .val (.map none) => some []
  | .val (.map (some b)) => match H b with
    | some (.map es) => some es
    | _ => none
  | _ => none
def okV (ok : Bool) (z : V) (r : Option V) : V := if ok then .tup [r.getD z, .val (.bool r.isSome)] else r.getD z
def qlookup (P : Program) (H : Heap) (T : TypeId) (x k : V) (ok : Bool) : Option V :=
  (mapT P T).bind fun (_, z) => match k with
    | .val (.int .i64 n) => (mapOf H x).map fun es => okV ok z (mget es n)
    | _ => none
def qop (P : Program) (H : Heap) (ρ : Env) : Op → Option V
  | .move x | .assign x => some (ev ρ x)
  | .pick c x y => match ev ρ c with | .val (.bool t) => some (if t then ev ρ x else ev ρ y) | _ => none
  | .box T x => if noTup (ev ρ x) then some (.iptr (ev ρ x).cells) else none
  | .build T ps => qbuild P T (ps.toList.map fun x => (x.1, ev ρ x.2))
  | .buildSlice T n ps => qbuildSlice P T n (ps.toList.map fun x => (x.1, ev ρ x.2))
  | .load t a => ldAt P H t (ev ρ a)
  | .nilCheck x => match ev ρ x with | .ptr b s i f => some (.ptr b s i f) | .iptr cs => some (.iptr cs) | .func f cs => some (.func f cs) | _ => none
  | .binOp op T x y _ => qbin P op T (ev ρ x) (ev ρ y)
  | .unOp op _ x => qun op (ev ρ x)
  | .convert s d x => qconv P s d (ev ρ x)
  | .makeFunc (.func f) first caps => if first.size = 0 ∧ ((caps.toList.map (ev ρ)).all fun v => match v with | .agg _ => false | .tup _ => false | _ => true) then some (.func f (caps.toList.map (ev ρ))) else none
  | .slice T x lo hi mx => qslice P T (ev ρ x) (lo.map (ev ρ)) (hi.map (ev ρ)) (mx.map (ev ρ))
  | .fieldAddr T x k => qfield P T k (ev ρ x)
  | .field T x k => qpart P T k (ev ρ x)
  | .indexAddr T x i => qindexAddr P T (ev ρ x) (ev ρ i)
  | .index T x i => qindex P T (ev ρ x) (ev ρ i)
  | .lookup T x k ok => qlookup P H T (ev ρ x) (ev ρ k) ok
  | .extract x i => match ev ρ x with | .tup vs => vs[i]? | _ => none
  | .call { callee := .builtin b, args, argTypes } => qbuiltin P H b argTypes (args.toList.map (ev ρ))
  | _ => none
end Go.Proofs.Ytpppgmoiginedaa.Q
