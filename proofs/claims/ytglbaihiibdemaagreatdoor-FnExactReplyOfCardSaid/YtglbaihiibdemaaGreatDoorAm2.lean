/- What is defined here: abstract values and states, and an evaluator of the model's code over them. Nothing is claimed here but that the evaluator's results don't shrink when its continuation tells more. -/
import Derived.Test.YtglbaihiibdemaaGreatDoorAm1
namespace Go.Proofs.YtglbaihiibdemaaGreatDoor.Am
open Go
set_option autoImplicit false

/-- The value of one cell. 'bor': a slice that is only read; 'emp': a slice of no element and no capacity; 'ref': the whole of the array object o; 'ptr': a place in object o (element i, cell off); 'bptr': a place in memory that is only read. -/
inductive CV where
  | undef
  | int (k : IntKind) (n : Int)
  | bool (b : Bool)
  | str (s : List UInt8)
  | bor (e : Ty) (xs : List e.den)
  | emp
  | ref (o : Nat)
  | tsl (o len : Nat)
  | ptr (o i off : Nat)
  | bptr (t : Ty) (x : t.den)
  | nilp
inductive AV where
  | undef
  | skip
  | c (x : CV)
  | mix (cs : List CV)
  | tup (l : List (Bool × List CV))
  | fn (f : FuncId) (caps : List CV)
inductive AObj where
  | arr (tid : Nat) (e : Ty) (xs : List e.den)
  | box (tid : Nat) (cs : List CV)
  | bld (s : List UInt8)
  | gone
abbrev Heap := List AObj
abbrev Env := List (Nat × AV)
structure St where
  env : Env
  heap : Heap

def look (H : Heap) (o : Nat) : Option AObj :=
  match H[o]? with
  | some .gone => none
  | x => x
def Env.get : Env → Nat → AV
  | [], _ => .undef
  | (u, v) :: r, t => cond (Nat.beq u t) v (Env.get r t)
def Env.put (E : Env) (d : Option Nat) (v : AV) : Env :=
  match d with
  | some t => (t, v) :: E
  | none => E

def ofCell : Value → CV
  | .int k n => .int k n
  | .bool b => .bool b
  | .string s => .str s.data.toList
  | .slice none 0 0 => .emp
  | .pointer none => .nilp
  | _ => .undef
def CV.isUndef : CV → Bool
  | .undef => true
  | _ => false
def noUndef : List CV → Bool
  | [] => true
  | c :: r => !c.isUndef && noUndef r
def ofVal : Value → AV
  | .agg cs => cond (noUndef (cs.toList.map ofCell)) (.mix (cs.toList.map ofCell)) .undef
  | v => match ofCell v with
    | .undef => .undef
    | c => .c c
def Env.ev (E : Env) : Operand → AV
  | .tmp t => E.get t
  | .const v => ofVal v
  | .global _ => .undef
  | .func f => .fn f []

/-! ### what the program tells of types -/
def tsize (P : Program) (t : TypeId) : Option Nat :=
  match P.underlying t with
  | some _ => (P.info? t).map (·.size)
  | none => none
def tpos (P : Program) (t : TypeId) : Bool :=
  match tsize P t with
  | some (_ + 1) => true
  | _ => false
def tagg (P : Program) (t : TypeId) : Bool :=
  match P.underlying t with
  | some (.struct _) | some (.array _ _) => true
  | _ => false
def telem (P : Program) (t : TypeId) : Option TypeId :=
  match P.underlying t with
  | some (.slice e) => some e
  | _ => none
def tfield (P : Program) (t : TypeId) (f : Nat) : Option Field :=
  match P.underlying t with
  | some (.struct fs) => fs[f]?
  | _ => none
mutual
def tyOf (P : Program) : Nat → TypeId → Option Ty
  | 0, _ => none
  | n + 1, t =>
    match P.underlying t with
    | some (.int k) => some (.int k)
    | some .bool => some .bool
    | some .string => some .str
    | some (.slice e) => (tyOf P n e).map (.sl e)
    | some (.struct fs) => tyOfs P n fs.toList
    | _ => none
def tyOfs (P : Program) : Nat → List Field → Option Ty
  | 0, _ => none
  | _ + 1, [] => none
  | n + 1, [f] => tyOf P n f.type
  | n + 1, f :: g :: r => (tyOf P n f.type).bind fun a => (tyOfs P n (g :: r)).map fun b => .pair a b
end
def Ty.flat : Ty → Bool
  | .sl _ _ => false
  | .pair a b => a.flat && b.flat
  | _ => true

/-! ### data and cells -/
def cells : (t : Ty) → t.den → List CV
  | .int k, x => [.int k x]
  | .bool, x => [.bool x]
  | .str, x => [.str x]
  | .sl _ e, xs => [.bor e xs]
  | .pair a b, x => cells a x.1 ++ cells b x.2
def snap1 (lk : Nat → Option AObj) : (t : Ty) → CV → Option t.den
  | .int k, .int k' n => cond (IntKind.same k' k) (some n) none
  | .bool, .bool b => some b
  | .str, .str s => some s
  | .sl _ e, .bor e' xs => castL e' e xs
  | .sl _ _, .emp => some []
  | .sl _ e, .ref o => match lk o with
    | some (.arr _ e' xs) => castL e' e xs
    | _ => none
  | _, _ => none
/-- the data that some cells hold, read -/
def snapN (lk : Nat → Option AObj) : (t : Ty) → List CV → Option (t.den × List CV)
  | .pair a b, cs => (snapN lk a cs).bind fun p => (snapN lk b p.2).bind fun q => some ((p.1, q.1), q.2)
  | .int k, c :: r => (snap1 lk (.int k) c).map fun x => (x, r)
  | .bool, c :: r => (snap1 lk .bool c).map fun x => (x, r)
  | .str, c :: r => (snap1 lk .str c).map fun x => (x, r)
  | .sl t e, c :: r => (snap1 lk (.sl t e) c).map fun x => (x, r)
  | _, [] => none
def take1 (H : Heap) : (t : Ty) → CV → Option (t.den × Heap)
  | .int k, .int k' n => cond (IntKind.same k' k) (some (n, H)) none
  | .bool, .bool b => some (b, H)
  | .str, .str s => some (s, H)
  | .sl _ _, .emp => some ([], H)
  | .sl t e, .ref o => match look H o with
    | some (.arr t' e' xs) => cond (Nat.beq t' t) ((castL e' e xs).map fun ys => (ys, H.set o .gone)) none
    | _ => none
  | _, _ => none
/-- the data that some cells hold, taken out of the heap -/
def takeN : (t : Ty) → Heap → List CV → Option (t.den × List CV × Heap)
  | .pair a b, H, cs => (takeN a H cs).bind fun p => (takeN b p.2.2 p.2.1).bind fun q => some ((p.1, q.1), q.2.1, q.2.2)
  | .int k, H, c :: r => (take1 H (.int k) c).map fun x => (x.1, r, x.2)
  | .bool, H, c :: r => (take1 H .bool c).map fun x => (x.1, r, x.2)
  | .str, H, c :: r => (take1 H .str c).map fun x => (x.1, r, x.2)
  | .sl t e, H, c :: r => (take1 H (.sl t e) c).map fun x => (x.1, r, x.2)
  | _, _, [] => none
/-- new data as cells: each slice a new object -/
def thaw : (t : Ty) → t.den → Nat → List CV × List AObj
  | .int k, x, _ => ([.int k x], [])
  | .bool, x, _ => ([.bool x], [])
  | .str, x, _ => ([.str x], [])
  | .sl t e, xs, n => ([.ref n], [.arr t e xs])
  | .pair a b, x, n => ((thaw a x.1 n).1 ++ (thaw b x.2 (n + (thaw a x.1 n).2.length)).1, (thaw a x.1 n).2 ++ (thaw b x.2 (n + (thaw a x.1 n).2.length)).2)
/-- the part of type u from cell off on -/
def sub : (t : Ty) → t.den → Nat → (u : Ty) → Option u.den
  | .pair a b, x, off, u =>
    cond (Nat.beq off 0 && Ty.beq (.pair a b) u) (if h : Ty.beq (.pair a b) u = true then some (Ty.beq_eq h ▸ x) else none)
      (cond (Nat.blt off a.n) (sub a x.1 off u) (sub b x.2 (off - a.n) u))
  | t, x, off, u => cond (Nat.beq off 0) (if h : Ty.beq t u = true then some (Ty.beq_eq h ▸ x) else none) none
/-- the cell at off, written -/
def upd : (t : Ty) → t.den → Nat → Heap → CV → Option (t.den × Heap)
  | .pair a b, x, off, H, c => cond (Nat.blt off a.n) ((upd a x.1 off H c).map fun y => ((y.1, x.2), y.2)) ((upd b x.2 (off - a.n) H c).map fun y => ((x.1, y.1), y.2))
  | .int k, _, _, H, c => take1 H (.int k) c
  | .bool, _, _, H, c => take1 H .bool c
  | .str, _, _, H, c => take1 H .str c
  | .sl t e, _, _, H, c => take1 H (.sl t e) c

def AV.cells? : AV → Option (List CV)
  | .c x => some [x]
  | .mix cs => some cs
  | _ => none
def mkAV (agg : Bool) (cs : List CV) : AV :=
  match agg, cs with
  | true, cs => .mix cs
  | false, [x] => .c x
  | false, _ => .undef

/-! ### contracts of callees -/
inductive Mode where
  | val
  | own
  | mutp (tid : Nat)
structure Par where
  mode : Mode
  agg : Bool
  ty : Ty
@[reducible] def ValD : List Par → Type
  | [] => Unit
  | ⟨.val, _, t⟩ :: r => t.den × ValD r
  | ⟨.own, _, _⟩ :: r => ValD r
  | ⟨.mutp _, _, _⟩ :: r => ValD r
@[reducible] def TakD : List Par → Type
  | [] => Unit
  | ⟨.val, _, _⟩ :: r => TakD r
  | ⟨.own, _, t⟩ :: r => t.den × TakD r
  | ⟨.mutp _, _, t⟩ :: r => t.den × TakD r
@[reducible] def MutD : List Par → Type
  | [] => Unit
  | ⟨.val, _, _⟩ :: r => MutD r
  | ⟨.own, _, _⟩ :: r => MutD r
  | ⟨.mutp _, _, t⟩ :: r => t.den × MutD r
@[reducible] def ResD : List (Bool × Ty) → Type
  | [] => Unit
  | (_, t) :: r => t.den × ResD r
structure Sig where
  ps : List Par
  rs : List (Bool × Ty)
  fn : TakD ps → ValD ps → Option (MutD ps × ResD rs)
inductive Callee where
  | no
  | sig (s : Sig)
  | inl
  | bldWrite
  | bldString

def argCells : Bool → AV → Option (List CV)
  | true, .mix cs => some cs
  | false, .c x => some [x]
  | _, _ => none
def snapArgs (lk : Nat → Option AObj) : (ps : List Par) → List AV → Option (ValD ps)
  | [], [] => some ()
  | ⟨.val, agg, t⟩ :: r, v :: vs => (argCells agg v).bind fun cs => (snapN lk t cs).bind fun x => match x.2 with
    | [] => (snapArgs lk r vs).bind fun y => some (x.1, y)
    | _ => none
  | ⟨.own, _, _⟩ :: r, _ :: vs => snapArgs lk r vs
  | ⟨.mutp _, _, _⟩ :: r, _ :: vs => snapArgs lk r vs
  | _, _ => none
def takeArgs : (ps : List Par) → Heap → List AV → Option (TakD ps × Heap)
  | [], H, [] => some ((), H)
  | ⟨.val, _, _⟩ :: r, H, _ :: vs => takeArgs r H vs
  | ⟨.own, agg, t⟩ :: r, H, v :: vs => (argCells agg v).bind fun cs => (takeN t H cs).bind fun x => match x.2.1 with
    | [] => (takeArgs r x.2.2 vs).bind fun y => some ((x.1, y.1), y.2)
    | _ => none
  | ⟨.mutp tid, _, t⟩ :: r, H, v :: vs =>
    match v with
    | .c (.ptr o 0 0) => match look H o with
      | some (.box tid' cs) => cond (Nat.beq tid' tid) ((takeN t (H.set o .gone) cs).bind fun x => match x.2.1 with
        | [] => (takeArgs r x.2.2 vs).bind fun y => some ((x.1, y.1), y.2)
        | _ => none) none
      | _ => none
    | _ => none
  | _, _, _ => none
/-- what the callee has left in the variables that it was handed -/
def backArgs : (ps : List Par) → MutD ps → Heap → List AV → Heap
  | ⟨.val, _, _⟩ :: r, m, H, _ :: vs => backArgs r m H vs
  | ⟨.own, _, _⟩ :: r, m, H, _ :: vs => backArgs r m H vs
  | ⟨.mutp tid, _, t⟩ :: r, m, H, v :: vs =>
    match v with
    | .c (.ptr o _ _) => backArgs r m.2 (H.set o (.box tid (thaw t m.1 H.length).1) ++ (thaw t m.1 H.length).2) vs
    | _ => H
  | _, _, H, _ => H
/-- the results as cells, and the new objects -/
def thawRes : (rs : List (Bool × Ty)) → ResD rs → Nat → List (Bool × List CV) × List AObj
  | [], _, _ => ([], [])
  | (a, t) :: r, x, n => ((a, (thaw t x.1 n).1) :: (thawRes r x.2 (n + (thaw t x.1 n).2.length)).1, (thaw t x.1 n).2 ++ (thawRes r x.2 (n + (thaw t x.1 n).2.length)).2)
def resAV : List (Bool × List CV) → AV
  | [(a, cs)] => mkAV a cs
  | l => .tup l
def Sig.reads (s : Sig) : Bool := s.ps.all fun p => match p.mode with | .val => true | _ => false

/-! ### comparisons that no reduction looks into -/
@[reducible] noncomputable def leC (a b : Int) : Bool := @decide (a ≤ b) (Classical.propDecidable _)
@[reducible] noncomputable def ltC (a b : Int) : Bool := @decide (a < b) (Classical.propDecidable _)
@[reducible] noncomputable def leN (a b : Nat) : Bool := @decide (a ≤ b) (Classical.propDecidable _)
theorem leC_eq (a b : Int) : leC a b = decide (a ≤ b) := by simp [leC]
theorem ltC_eq (a b : Int) : ltC a b = decide (a < b) := by simp [ltC]
theorem leN_eq (a b : Nat) : leN a b = decide (a ≤ b) := by simp [leN]

/-! ### operations that change nothing that is there -/
inductive Out : Type 1 where
  | pure (v : AV) (N : List AObj)
  | guard (b : Bool) (v : AV) (N : List AObj)
  | pick (b : Bool) (v u : AV)
  | call (C : Type) (x : Option C) (f : C → AV × List AObj)

noncomputable def cmpInt (op : BinOp) (a b : Int) : Option Bool :=
  match op with
  | .eql => some (a == b)
  | .neq => some (a != b)
  | .lss => some (ltC a b)
  | .leq => some (leC a b)
  | .gtr => some (ltC b a)
  | .geq => some (leC b a)
  | _ => none
noncomputable def binI (op : BinOp) (k : IntKind) (a b : Int) : Option Out :=
  match op with
  | .add => some (.pure (.c (.int k (k.wrap (a + b)))) [])
  | .sub => some (.pure (.c (.int k (k.wrap (a - b)))) [])
  | .mul => some (.pure (.c (.int k (k.wrap (a * b)))) [])
  | .quo => some (.guard (b != 0) (.c (.int k (k.wrap (a.tdiv b)))) [])
  | .rem => some (.guard (b != 0) (.c (.int k (a.tmod b))) [])
  | .and => some (.pure (.c (.int k (k.wrap (BitVec.ofInt k.bits a &&& BitVec.ofInt k.bits b).toNat))) [])
  | .or => some (.pure (.c (.int k (k.wrap (BitVec.ofInt k.bits a ||| BitVec.ofInt k.bits b).toNat))) [])
  | .xor => some (.pure (.c (.int k (k.wrap (BitVec.ofInt k.bits a ^^^ BitVec.ofInt k.bits b).toNat))) [])
  | .andNot => some (.pure (.c (.int k (k.wrap (BitVec.ofInt k.bits a &&& ~~~BitVec.ofInt k.bits b).toNat))) [])
  | .shl => none
  | .shr => none
  | op => (cmpInt op a b).map fun r => .pure (.c (.bool r)) []
def shiftI (op : BinOp) (k : IntKind) (a b : Int) : Option Out :=
  match op with
  | .shl => some (.guard (decide (0 ≤ b)) (.c (.int k (k.wrap (a * 2 ^ (min b.toNat k.bits))))) [])
  | .shr => some (.guard (decide (0 ≤ b)) (.c (.int k (a.fdiv (2 ^ (min b.toNat k.bits))))) [])
  | _ => none
noncomputable def binS (op : BinOp) (a b : List UInt8) : Option Out :=
  match op with
  | .add => some (.guard (leC ((a.length + b.length : Nat) : Int) 9223372036854775807) (.c (.str (a ++ b))) [])
  | .eql => some (.pure (.c (.bool (a == b))) [])
  | .neq => some (.pure (.c (.bool (!(a == b)))) [])
  | .lss => some (.pure (.c (.bool (Op.bytesLess a b))) [])
  | .leq => some (.pure (.c (.bool (Op.bytesLess a b || a == b))) [])
  | .gtr => some (.pure (.c (.bool (!(Op.bytesLess a b || a == b)))) [])
  | .geq => some (.pure (.c (.bool (!(Op.bytesLess a b)))) [])
  | _ => none
def isShift : BinOp → Bool
  | .shl | .shr => true
  | _ => false
noncomputable def binV (P : Program) (op : BinOp) (t : TypeId) (x y : AV) : Option Out :=
  match x, y with
  | .c (.int k a), .c (.int k' b) => cond (isShift op) (shiftI op k a b) (cond (IntKind.same k k') (binI op k a b) none)
  | .c (.str a), .c (.str b) => binS op a b
  | .c (.bool a), .c (.bool b) =>
    match P.underlying t, op with
    | some .bool, .eql => some (.pure (.c (.bool (a == b))) [])
    | some .bool, .neq => some (.pure (.c (.bool (!(a == b)))) [])
    | _, _ => none
  | _, _ => none
def unV (op : UnOp) (x : AV) : Option Out :=
  match op, x with
  | .neg, .c (.int k n) => some (.pure (.c (.int k (k.wrap (0 - n)))) [])
  | .not, .c (.bool b) => some (.pure (.c (.bool (!b))) [])
  | _, _ => none
def lenV (lk : Nat → Option AObj) : AV → Option Int
  | .c (.str s) => some s.length
  | .c .emp => some 0
  | .c (.bor _ xs) => some xs.length
  | .c (.tsl _ n) => some n
  | .c (.ref o) => match lk o with
    | some (.arr _ _ xs) => some xs.length
    | _ => none
  | _ => none
def bytesOf (lk : Nat → Option AObj) : AV → Option (List Int)
  | .c x => snap1 lk (.sl 0 (.int .u8)) x
  | _ => none
def convV (P : Program) (lk : Nat → Option AObj) (src dst : TypeId) (x : AV) : Option Out :=
  match P.underlying src, P.underlying dst, x with
  | some (.int _), some (.int k), .c (.int _ n) => some (.pure (.c (.int k (k.wrap n))) [])
  | some .string, some .string, .c (.str s) => some (.pure (.c (.str s)) [])
  | some (.slice e), some .string, x =>
    match P.underlying e with
    | some (.int .u8) => (bytesOf lk x).map fun xs => .pure (.c (.str (xs.map fun n => UInt8.ofNat n.toNat))) []
    | _ => none
  | _, _, _ => none
def fillC (fs : Array Field) (P : Program) (z : List CV) : List (Nat × AV) → Option (List CV)
  | [] => some z
  | (i, v) :: r =>
    match fs[i]?, v.cells? with
    | some f, some cs => cond ((tsize P f.type == some cs.length) && Nat.ble (f.offset + cs.length) z.length) (fillC fs P (z.take f.offset ++ cs ++ z.drop (f.offset + cs.length)) r) none
    | _, _ => none
def buildElems (lk : Nat → Option AObj) (e : Ty) : Nat → List (Nat × AV) → Option (List e.den)
  | _, [] => some []
  | i, (j, v) :: r => cond (Nat.beq i j) (v.cells?.bind fun cs => (snapN lk e cs).bind fun x => match x.2 with | [] => (buildElems lk e (i + 1) r).map (x.1 :: ·) | _ => none) none
def buildCells (k : Nat) : Nat → List (Nat × AV) → Option (List CV)
  | _, [] => some []
  | i, (j, v) :: r => cond (Nat.beq i j) (v.cells?.bind fun cs => cond (Nat.beq cs.length k) ((buildCells k (i + 1) r).map (cs ++ ·)) none) none
def zeroCells (P : Program) (t : TypeId) : Option (List CV) := (P.info? t).bind fun i => i.zero.bind fun z => (ofVal z).cells?
def optI (d : Int) (E : Env) : Option Operand → Option Int
  | none => some d
  | some x => match E.ev x with
    | .c (.int _ n) => some n
    | _ => none
def loadV (P : Program) (lk : Nat → Option AObj) (t : TypeId) (a : AV) : Option Out :=
  match tsize P t, a with
  | some sz, .c (.ptr o i off) =>
    match lk o with
    | some (.box _ cs) => cond (Nat.ble (off + sz) cs.length && Nat.beq i 0 && (tagg P t || Nat.beq sz 1)) (some (.pure (mkAV (tagg P t) ((cs.drop off).take sz)) [])) none
    | some (.arr _ e xs) => cond (Nat.ble (off + sz) e.n && (tagg P t || Nat.beq sz 1)) (some (.pure (mkAV (tagg P t) (((cells e (xs.getD i e.dflt)).drop off).take sz)) [])) none
    | _ => none
  | some sz, .c (.bptr u x) => cond (Nat.beq sz u.n && (tagg P t || Nat.beq sz 1)) (some (.pure (mkAV (tagg P t) (cells u x)) [])) none
  | _, _ => none

/-- what is appended, read -/
def srcOf (P : Program) (lk : Nat → Option AObj) (e : Ty) (u : TypeId) (y : AV) : Option (List e.den) :=
  match P.underlying u, y with
  | some (.slice _), .c c => snap1 lk (.sl 0 e) c
  | some .string, .c (.str s) => castL (.int .u8) e (s.map fun b => (b.toNat : Int))
  | _, _ => none

/-- what a call may lean on in the world that it finds (package variables): it stays where nothing that was there has turned -/
structure Glob where
  ok : World → Prop
  keep : ∀ w w', Kept [] w w' → ok w → ok w'
def Glob.any : Glob := ⟨fun _ => True, fun _ _ _ _ => trivial⟩
structure Ctx where
  P : Program
  G : Glob
  S : FuncId → Callee
  bld : TypeId
  u8 : TypeId

def callV (X : Ctx) (lk : Nat → Option AObj) (n : Nat) (f : FuncId) (args : List AV) : Option Out :=
  match X.S f with
  | .sig s => cond s.reads ((takeArgs s.ps [] args).bind fun t => (snapArgs lk s.ps args).bind fun v =>
      some (.call _ (s.fn t.1 v) fun out => (resAV (thawRes s.rs out.2 n).1, (thawRes s.rs out.2 n).2))) none
  | _ => none

def lenOk (P : Program) (t : TypeId) (x : AV) : Bool :=
  match P.underlying t, x with
  | some .string, .c (.str _) => true
  | some .string, _ => false
  | some (.slice _), .c (.str _) => false
  | some (.slice _), _ => true
  | _, _ => false
def sliceOk (P : Program) (t : TypeId) : Bool :=
  match telem P t with
  | some el => (tsize P el).isSome
  | none => false
noncomputable def opN (X : Ctx) (E : Env) (lk : Nat → Option AObj) (n : Nat) (o : Oper) : Option Out :=
  match o.op with
  | .move x | .assign x => some (.pure (E.ev x) [])
  | .pick c a b => match E.ev c with
    | .c (.bool t) => some (.pick t (E.ev a) (E.ev b))
    | _ => none
  | .alloc t => cond (Nat.beq t X.bld) (some (.pure (.c (.ptr n 0 0)) [.bld []])) ((zeroCells X.P t).bind fun cs => some (.pure (.c (.ptr n 0 0)) [.box t cs]))
  | .box t x => (E.ev x).cells?.bind fun cs => some (.pure (.c (.ptr n 0 0)) [.box t cs])
  | .build t parts => match X.P.underlying t with
    | some (.struct fs) => cond (fs.toList.all fun f => (tsize X.P f.type).isSome) ((zeroCells X.P t).bind fun z => (fillC fs X.P z (parts.toList.map fun p => (p.1, E.ev p.2))).bind fun cs => some (.pure (.mix cs) [])) none
    | _ => none
  | .buildSlice t len parts => cond (Nat.beq len 0) (cond (sliceOk X.P t && parts.isEmpty) (some (.pure (.c .emp) [])) none)
      ((telem X.P t).bind fun el => (tyOf X.P 200 el).bind fun e => cond ((tsize X.P el == some e.n) && Nat.beq parts.size len && Nat.ble (len * e.n) 16777216 && (match zeroCells X.P el with | some z => Nat.beq z.length e.n | none => false))
        (cond e.flat ((buildElems lk e 0 (parts.toList.map fun p => (p.1, E.ev p.2))).bind fun xs => some (.pure (.c (.ref n)) [.arr el e xs]))
          ((buildCells e.n 0 (parts.toList.map fun p => (p.1, E.ev p.2))).bind fun cs => some (.pure (.c (.tsl n len)) [.box el cs]))) none)
  | .load t a => loadV X.P lk t (E.ev a)
  | .nilCheck x => match E.ev x with
    | .c (.ptr o i off) => some (.pure (.c (.ptr o i off)) [])
    | .c (.bptr t x) => some (.pure (.c (.bptr t x)) [])
    | .fn f caps => some (.pure (.fn f caps) [])
    | _ => none
  | .binOp op t x y _ => binV X.P op t (E.ev x) (E.ev y)
  | .unOp op _ x => unV op (E.ev x)
  | .convert src dst x => convV X.P lk src dst (E.ev x)
  | .makeFunc (.func f) first caps => cond first.isEmpty ((caps.toList.mapM fun x => match E.ev x with | .c v => some v | _ => none).bind fun cs => some (.pure (.fn f cs) [])) none
  | .makeSlice t l c => match telem X.P t, E.ev l, E.ev c with
    | some el, .c (.int _ len), .c (.int _ cap) => (tyOf X.P 200 el).bind fun e => (X.P.info? el).bind fun i => i.zero.bind fun z => ((ofVal z).cells?).bind fun zc =>
      (takeN e [] zc).bind fun x => cond ((tsize X.P el == some e.n) && Nat.beq zc.length e.n)
        (some (.guard (leC 0 len && leC len cap && leC (cap * (i.bytes : Int)) 140737488355328 && leC cap 140737488355328) (.c (.ref n)) [.arr el e (List.replicate len.toNat x.1)])) none
    | _, _, _ => none
  | .slice t x lo hi mx => match E.ev x with
    | .c (.str s) => cond (mx.isNone && (match X.P.underlying t with | some .string => true | _ => false))
        ((optI 0 E lo).bind fun l => (optI s.length E hi).bind fun h => some (.guard (leC 0 l && leC l h && leC h s.length) (.c (.str ((s.take h.toNat).drop l.toNat))) [])) none
    | .c (.bor e xs) => cond (match telem X.P t with | some el => (tsize X.P el == some e.n) | none => false)
        ((optI 0 E lo).bind fun l => (optI xs.length E hi).bind fun h => match mx with
          | none => some (.guard (leC 0 l && leC l h && leC h xs.length) (.c (.bor e ((xs.take h.toNat).drop l.toNat))) [])
          | some m => (optI 0 E (some m)).bind fun m => cond (hi.isSome && decide (l = 0) && decide (h = 0) && decide (m = 0)) (some (.pure (.c .emp) [])) none) none
    | .c (.ref o) => match lk o, mx with
      | some (.arr _ _ xs), some m => cond (sliceOk X.P t && hi.isSome) ((optI 0 E lo).bind fun l => (optI xs.length E hi).bind fun h => (optI 0 E (some m)).bind fun m => cond (decide (l = 0) && decide (h = 0) && decide (m = 0)) (some (.pure (.c .emp) [])) none) none
      | _, _ => none
    | .c .emp => cond (sliceOk X.P t && (mx.isNone || hi.isSome)) ((optI 0 E lo).bind fun l => (optI 0 E hi).bind fun h => (optI 0 E mx).bind fun m => cond (decide (l = 0) && decide (h = 0) && decide (m = 0)) (some (.pure (.c .emp) [])) none) none
    | _ => none
  | .fieldAddr s x f => match tfield X.P s f, E.ev x with
    | some fd, .c (.ptr o i off) => cond (tpos X.P fd.type) (some (.pure (.c (.ptr o i (off + fd.offset))) [])) none
    | some fd, .c (.bptr t y) => cond (tpos X.P fd.type) ((tyOf X.P 200 fd.type).bind fun u => (sub t y fd.offset u).bind fun z => some (.pure (.c (.bptr u z)) [])) none
    | _, _ => none
  | .field s x f => match tfield X.P s f, E.ev x with
    | some fd, .mix cs => match tsize X.P fd.type with
      | some sz => cond (Nat.ble (fd.offset + sz) cs.length && (tagg X.P fd.type || Nat.beq sz 1)) (some (.pure (mkAV (tagg X.P fd.type) ((cs.drop fd.offset).take sz)) [])) none
      | none => none
    | _, _ => none
  | .indexAddr t x ix => match telem X.P t, E.ev x, E.ev ix with
    | some el, .c (.bor e xs), .c (.int _ i) => cond (tsize X.P el == some e.n) (some (.guard (leC 0 i && ltC i xs.length) (.c (.bptr e (xs.getD i.toNat e.dflt))) [])) none
    | some el, .c (.ref o), .c (.int _ i) => match lk o with
      | some (.arr _ e xs) => cond (tsize X.P el == some e.n) (some (.guard (leC 0 i && ltC i xs.length) (.c (.ptr o i.toNat 0)) [])) none
      | _ => none
    | _, _, _ => none
  | .index t x ix => match X.P.underlying t, E.ev x, E.ev ix with
    | some .string, .c (.str s), .c (.int _ i) => some (.guard (leC 0 i && ltC i s.length) (.c (.int .u8 (s.getD i.toNat 0).toNat)) [])
    | _, _, _ => none
  | .extract t i => match E.ev t with
    | .tup l => match l[i]? with
      | some p => some (.pure (mkAV p.1 p.2) [])
      | none => none
    | _ => none
  | .call c => match c.callee with
    | .builtin .len => match c.args.toList with
      | [x] => match c.argTypes[0]? with
        | some t => cond (lenOk X.P t (E.ev x)) ((lenV lk (E.ev x)).bind fun m => some (.pure (.c (.int .i64 m)) [])) none
        | none => none
      | _ => none
    | .builtin .min => match c.args.toList with
      | [x, y] => match E.ev x, E.ev y with
        | .c (.int k a), .c (.int _ b) => some (.pure (.c (.int k (if b < a then b else a))) [])
        | _, _ => none
      | _ => none
    | .builtin .max => match c.args.toList with
      | [x, y] => match E.ev x, E.ev y with
        | .c (.int k a), .c (.int _ b) => some (.pure (.c (.int k (if b > a then b else a))) [])
        | _, _ => none
      | _ => none
    | .builtin .append => match c.args.toList, c.argTypes.toList with
      | [x, y], [t, u] => match E.ev x, telem X.P t with
        | .c .emp, some el => (tyOf X.P 200 el).bind fun e => (X.P.info? el).bind fun i => cond (e.flat && (tsize X.P el == some e.n) && (match zeroCells X.P el with | some z => Nat.beq z.length e.n | none => false)) ((srcOf X.P lk e u (E.ev y)).bind fun ys =>
            some (.guard (leC ((ys.length : Int) * i.bytes) 140737488355328 && leC (ys.length : Int) 140737488355328) (.c (.ref n)) [.arr el e ys])) none
        | _, _ => none
      | _, _ => none
    | .value f => match E.ev f with
      | .fn g [] => callV X lk n g (c.args.toList.map E.ev)
      | _ => none
    | _ => none
  | _ => none
end Go.Proofs.YtglbaihiibdemaaGreatDoor.Am
