/- What is defined here: the evaluator of regions and code, and of a function called with data. -/
import Derived.Test.YtglbaihiibdemaaGreatDoorAm2
import Derived.StillTail
namespace Go.Proofs.YtglbaihiibdemaaGreatDoor.Am
open Go
set_option autoImplicit false

/-! ### operations that change what is there -/
inductive OutM : Type 1 where
  | pure (v : AV) (H : Heap)
  | guard (b : Bool) (v : AV) (H : Heap)
  | call (C : Type) (x : Option C) (f : C → AV × Heap)
/-- the elements of a slice that was just built, taken -/
def takeElems (e : Ty) : Nat → Heap → List CV → Option (List e.den × Heap)
  | 0, H, [] => some ([], H)
  | n + 1, H, cs => (takeN e H cs).bind fun x => (takeElems e n x.2.2 x.2.1).bind fun y => some (x.1 :: y.1, y.2)
  | _, _, _ => none
/-- a slice that the call owns, taken -/
def takeS (el : Nat) (e : Ty) (H : Heap) : AV → Option (List e.den × Heap)
  | .c .emp => some ([], H)
  | .c (.ref o) => take1 H (.sl el e) (.ref o)
  | .c (.tsl o n) => match look H o with
    | some (.box el' cs) => cond (Nat.beq el' el && Nat.ble n 16777216) (takeElems e n (H.set o .gone) cs) none
    | _ => none
  | _ => none
def storeM (X : Ctx) (H : Heap) (t : TypeId) (a v : AV) : Option OutM :=
  match tsize X.P t, a, v.cells? with
  | some sz, .c (.ptr o i off), some cs => cond (Nat.beq sz cs.length) (match look H o with
    | some (.box tid bs) => cond (Nat.ble (off + sz) bs.length && Nat.beq i 0) (some (.pure .undef (H.set o (.box tid (bs.take off ++ cs ++ bs.drop (off + sz)))))) none
    | some (.arr tid e xs) => cond (Nat.beq off 0 && Nat.beq sz e.n) ((takeN e (H.set o .gone) cs).bind fun x => match x.2.1 with
          | [] => some (.pure .undef (x.2.2.set o (.arr tid e (xs.set i x.1))))
          | _ => none)
        (match cs with
          | [c] => cond (Nat.blt off e.n) ((upd e (xs.getD i e.dflt) off (H.set o .gone) c).bind fun y => some (.pure .undef (y.2.set o (.arr tid e (xs.set i y.1))))) none
          | _ => none)
    | _ => none) none
  | _, _, _ => none
noncomputable def appendM (X : Ctx) (H : Heap) (t u : TypeId) (x y : AV) : Option OutM :=
  (telem X.P t).bind fun el => (tyOf X.P 200 el).bind fun e => (X.P.info? el).bind fun i => cond ((tsize X.P el == some e.n) && (match zeroCells X.P el with | some z => Nat.beq z.length e.n | none => false))
    (cond e.flat
      ((srcOf X.P (look H) e u y).bind fun ys => (takeS el e H x).bind fun d =>
        some (.guard (leC (((d.1.length + ys.length : Nat) : Int) * i.bytes) 140737488355328 && leC ((d.1.length + ys.length : Nat) : Int) 140737488355328) (.c (.ref d.2.length)) (d.2 ++ [.arr el e (d.1 ++ ys)])))
      (cond (telem X.P u).isSome ((takeS el e H y).bind fun s => (takeS el e s.2 x).bind fun d =>
        some (.guard (leC (((d.1.length + s.1.length : Nat) : Int) * i.bytes) 140737488355328 && leC ((d.1.length + s.1.length : Nat) : Int) 140737488355328) (.c (.ref d.2.length)) (d.2 ++ [.arr el e (d.1 ++ s.1)]))) none))
    none
noncomputable def callM (X : Ctx) (H : Heap) (f : FuncId) (args : List AV) : Option OutM :=
  match X.S f with
  | .bldWrite => match args with
    | [.c (.ptr o 0 0), .c (.str s)] => match look H o with
      | some (.bld t) => some (.guard (leN (t.length + s.length) 140737488355328) (.tup [(false, [.int .i64 s.length]), (false, [.undef])]) (H.set o (.bld (t ++ s))))
      | _ => none
    | _ => none
  | .bldString => match args with
    | [.c (.ptr o 0 0)] => match look H o with
      | some (.bld t) => some (.pure (.c (.str t)) H)
      | _ => none
    | _ => none
  | _ => none
noncomputable def opM (X : Ctx) (E : Env) (H : Heap) (o : Oper) : Option OutM :=
  match o.op with
  | .store t a x => storeM X H t (E.ev a) (E.ev x)
  | .assign x => match E.ev x with
    | .c (.tsl p n) => match look H p with
      | some (.box el _) => (tyOf X.P 200 el).bind fun e => (takeS el e H (.c (.tsl p n))).bind fun d => some (.pure (.c (.ref d.2.length)) (d.2 ++ [.arr el e d.1]))
      | _ => none
    | _ => none
  | .call c => match c.callee with
    | .builtin .append => match c.args.toList, c.argTypes.toList with
      | [x, y], [t, u] => appendM X H t u (E.ev x) (E.ev y)
      | _, _ => none
    | .value f => match E.ev f with
      | .fn g [] => callM X H g (c.args.toList.map E.ev)
      | _ => none
    | _ => none
  | _ => none

/-! ### continuations -/
def Out.run {R : Type} (n : Heap) : Out → (AV → Heap → Option R) → Option R
  | .pure v N, k => k v (n ++ N)
  | .guard b v N, k => cond b (k v (n ++ N)) none
  | .pick b v u, k => cond b (k v n) (k u n)
  | .call _ x f, k => x.bind fun c => k (f c).1 (n ++ (f c).2)
def OutM.run {R : Type} : OutM → (AV → Heap → Option R) → Option R
  | .pure v H, k => k v H
  | .guard b v H, k => cond b (k v H) none
  | .call _ x f, k => x.bind fun c => k (f c).1 (f c).2
/-- a function that is evaluated in place: its number, what it captured, arguments, the envs around it, the heap -/
abbrev Inl (R : Type) := FuncId → List CV → List AV → List Env → List CV → Heap → (AV → List Env → List CV → Heap → Option R) → Option R

structure Cfg where
  env : Env
  outer : List Env
  muts : List CV
  heap : Heap
def isInl (X : Ctx) (E : Env) (o : Oper) : Option (FuncId × List CV × List AV) :=
  match o.op with
  | .call c => match c.callee with
    | .value f => match E.ev f with
      | .fn g caps => match X.S g with
        | .inl => some (g, caps, c.args.toList.map E.ev)
        | _ => none
      | _ => none
    | _ => none
  | _ => none
/-- one operation, in the order of the text; keep: the slots that are wanted behind a call in place -/
noncomputable def evOp {R : Type} (I : Inl R) (X : Ctx) (keep : Option (List Nat)) (o : Oper) (s : Cfg) (k : AV → Cfg → Option R) : Option R :=
  match opM X s.env s.heap o with
  | some m => m.run fun v H => k v ⟨s.env, s.outer, s.muts, H⟩
  | none => match opN X s.env (look s.heap) s.heap.length o with
    | some m => m.run s.heap fun v H => k v ⟨s.env, s.outer, s.muts, H⟩
    | none => match isInl X s.env o with
      | some (g, caps, args) => I g caps args ((match keep with | some l => l.map fun t => (t, s.env.get t) | none => s.env) :: s.outer) s.muts s.heap fun v outer mu H =>
          match outer with
          | e :: r => k v ⟨e, r, mu, H⟩
          | [] => none
      | none => none
/-- one operation that changes nothing that is there -/
noncomputable def evOpN {R : Type} (X : Ctx) (o : Oper) (s : Cfg) (k : AV → Cfg → Option R) : Option R :=
  match opN X s.env (look s.heap) s.heap.length o with
  | some m => m.run s.heap fun v H => k v ⟨s.env, s.outer, s.muts, H⟩
  | none => none
def dstOf (ops : List Oper) (j : Nat) : Option Nat := (ops[j]?).bind (·.dst)
/-- the operations of a region, one behind the other; the first h of them may change nothing -/
noncomputable def evOps {R : Type} (I : Inl R) (X : Ctx) (keep : Option (List Nat)) (ops : List Oper) : Nat → List Oper → Cfg → (Cfg → Option R) → Option R
  | _, [], s, k => k s
  | h, o :: r, s, k =>
    let go := fun s' => (match h with
      | 0 => evOp I X keep o s' fun v t => evOps I X keep ops 0 r ⟨t.env.put o.dst v, t.outer, t.muts, t.heap⟩ k
      | h' + 1 => evOpN X o s' fun v t => evOps I X keep ops h' r ⟨t.env.put o.dst v, t.outer, t.muts, t.heap⟩ k)
    let skip := fun (s' : Cfg) => evOps I X keep ops (h - 1) r ⟨s'.env.put o.dst .skip, s'.outer, s'.muts, s'.heap⟩ k
    match o.guard with
    | none => go s
    | some (j, want) => match dstOf ops j with
      | some d => match s.env.get d with
        | .c (.bool x) => cond x (cond want (go ⟨(d, .c (.bool true)) :: s.env, s.outer, s.muts, s.heap⟩) (skip ⟨(d, .c (.bool true)) :: s.env, s.outer, s.muts, s.heap⟩))
            (cond want (skip ⟨(d, .c (.bool false)) :: s.env, s.outer, s.muts, s.heap⟩) (go ⟨(d, .c (.bool false)) :: s.env, s.outer, s.muts, s.heap⟩))
        | .skip => skip s
        | _ => none
      | none => none

/-- which operations stand before each: as bits -/
def befores : List Oper → List Nat → List Nat
  | [], acc => acc
  | o :: r, acc => befores r (acc ++ [o.after.toList.foldl (fun s e => if Region.binds .any e then s ||| 2 ^ e.on ||| acc.getD e.on 0 else s) 0])
def tailFrom (b : List Nat) : Nat → Nat
  | 0 => 0
  | i + 1 => cond (Nat.beq ((b.getD i 0) % 2 ^ i) (2 ^ i - 1)) (tailFrom b i) (i + 1)
/-- the first h operations of a drawn region: each waits for those that it reads from -/
def headOk (ops : Array Oper) (h : Nat) : Bool := (List.range h).all fun i => match ops[i]? with
  | some o => (o.after.all fun e => !Region.binds .any e || Nat.blt e.on i) && (List.range h).all fun j => match (ops[j]?).bind (·.dst) with
    | some d => (Nat.beq i j || !(o.dst == some d)) && (!(o.looksAt ops).contains d || (Nat.blt j i && Region.waitsFor .any ops i j))
    | none => true
  | none => false
def headArr (h n : Nat) : Array Bool := (List.replicate h true ++ List.replicate (n - h) false).toArray
/-- .. the others: each waits for all before it -/
def tailOk (ops : Array Oper) (h : Nat) : Bool := (Nat.beq h ops.size || (Region.sinkB .any ops h && Region.chainB .any ops h)) && Region.seqB .any ops (ops.size - h) h (headArr h ops.size)
def drawHead (ops : Array Oper) : Nat := tailFrom (befores ops.toList []) ops.size
def drawOk (ops : Array Oper) : Bool := Nat.ble (drawHead ops) ops.size && headOk ops (drawHead ops) && tailOk ops (drawHead ops)

def firstReg : Code → Nat
  | .region id _ _ => id
  | .seq a _ => firstReg a
  | .cond _ a _ => firstReg a
  | .block _ c => firstReg c
  | .loop c => firstReg c
  | _ => 0

/-! ### what is kept at a loop's head -/
def CV.ids : CV → List Nat
  | .ref o => [o]
  | .tsl o _ => [o]
  | .ptr o _ _ => [o]
  | _ => []
def AV.ids : AV → List Nat
  | .c x => x.ids
  | .mix cs => cs.flatMap CV.ids
  | .tup l => l.flatMap fun p => p.2.flatMap CV.ids
  | .fn _ caps => caps.flatMap CV.ids
  | .undef => []
  | .skip => []
def reach (H : Heap) : Nat → List Nat → List Nat → List Nat
  | 0, _, seen => seen
  | _ + 1, [], seen => seen
  | n + 1, o :: todo, seen => cond (seen.contains o) (reach H n todo seen) (match look H o with
    | some (.box _ cs) => reach H n (todo ++ cs.flatMap CV.ids) (seen ++ [o])
    | some _ => reach H n todo (seen ++ [o])
    | none => reach H n todo seen)
def idx (l : List Nat) (o : Nat) : Option Nat :=
  match l with
  | [] => none
  | a :: r => cond (Nat.beq a o) (some 0) ((idx r o).map (· + 1))
def CV.ren (l : List Nat) : CV → CV
  | .ref o => match idx l o with | some i => .ref i | none => .undef
  | .tsl o n => match idx l o with | some i => .tsl i n | none => .undef
  | .ptr o i off => match idx l o with | some j => .ptr j i off | none => .undef
  | x => x
def AV.ren (l : List Nat) : AV → AV
  | .c x => .c (x.ren l)
  | .mix cs => .mix (cs.map (CV.ren l))
  | .tup t => .tup (t.map fun p => (p.1, p.2.map (CV.ren l)))
  | .fn f caps => .fn f (caps.map (CV.ren l))
  | .undef => .undef
  | .skip => .skip
def AObj.ren (l : List Nat) : AObj → AObj
  | .box t cs => .box t (cs.map (CV.ren l))
  | x => x
def Env.ren (l : List Nat) (E : Env) : Env := E.map fun p => (p.1, p.2.ren l)
def getO (H : Heap) (o : Nat) : AObj := match H[o]? with | some x => x | none => .gone
def canon (live : List Nat) (s : Cfg) : Cfg :=
  let E : Env := live.map fun t => (t, s.env.get t)
  let ids := reach s.heap 400 (E.flatMap (fun p => p.2.ids) ++ s.muts.flatMap CV.ids ++ s.outer.flatMap fun e => e.flatMap fun p => p.2.ids) []
  ⟨E.ren ids, s.outer.map (Env.ren ids), s.muts.map (CV.ren ids), ids.map fun o => (getO s.heap o).ren ids⟩

inductive Ex where
  | normal
  | exit (id : Nat)
  | ret

/-- the limit of more and more rounds -/
def iter {R : Type} (F : (Cfg → Option R) → Cfg → Option R) : Nat → Cfg → Option R
  | 0 => fun _ => none
  | n + 1 => F (iter F n)
open Classical in
noncomputable def fixO {R : Type} (F : (Cfg → Option R) → Cfg → Option R) (s : Cfg) : Option R :=
  if h : ∃ n, (iter F n s).isSome = true then iter F (Classical.choose h) s else none

noncomputable def evC {R : Type} (I : Inl R) (X : Ctx) (lv : Nat → List Nat) (kp : Nat → Option (List Nat)) : Code → Cfg → (Ex → Cfg → Option R) → Option R
  | .skip, s, K => K .normal s
  | .region id ops draw, s, K =>
    match draw with
    | false => evOps I X (kp id) ops.toList 0 ops.toList s (K .normal)
    | true => cond (X.P.follows .mixedOrders && drawOk ops) (evOps I X (kp id) ops.toList (drawHead ops) ops.toList s (K .normal)) none
  | .seq a b, s, K => evC I X lv kp a s fun e t => match e with
    | .normal => evC I X lv kp b t K
    | .exit i => K (.exit i) t
    | .ret => K .ret t
  | .cond c a b, s, K => match s.env.ev c with
    | .c (.bool x) => cond x (evC I X lv kp a s K) (evC I X lv kp b s K)
    | _ => none
  | .block id c, s, K => evC I X lv kp c s fun e t => match e with
    | .normal => K .normal t
    | .exit i => cond (Nat.beq i id) (K .normal t) (K (.exit i) t)
    | .ret => K .ret t
  | .loop c, s, K => fixO (fun rec u => evC I X lv kp c u fun e t => match e with
    | .normal => rec (canon (lv (firstReg c)) t)
    | .exit i => K (.exit i) t
    | .ret => K .ret t) (canon (lv (firstReg c)) s)
  | .exit i, s, K => K (.exit i) s
  | .ret, s, K => K .ret s
  | .rangeFunc .., _, _ => none
  | .scope _, _, _ => none
  | .label _, _, _ => none
  | .goto _, _, _ => none
  | .refuse _, _, _ => none

/-! ### going on at a loop's head -/
def hasKey (key : Nat) : Code → Bool
  | .seq a b => hasKey key a || hasKey key b
  | .cond _ a b => hasKey key a || hasKey key b
  | .block _ c => hasKey key c
  | .loop c => Nat.beq (firstReg c) key || hasKey key c
  | _ => false
noncomputable def rsC {R : Type} (I : Inl R) (X : Ctx) (lv : Nat → List Nat) (kp : Nat → Option (List Nat)) (key : Nat) : Code → Cfg → (Ex → Cfg → Option R) → Option R
  | .seq a b, s, K => cond (hasKey key a) (rsC I X lv kp key a s fun e t => match e with
    | .normal => evC I X lv kp b t K
    | .exit i => K (.exit i) t
    | .ret => K .ret t) (rsC I X lv kp key b s K)
  | .cond _ a b, s, K => cond (hasKey key a) (rsC I X lv kp key a s K) (rsC I X lv kp key b s K)
  | .block id c, s, K => rsC I X lv kp key c s fun e t => match e with
    | .normal => K .normal t
    | .exit i => cond (Nat.beq i id) (K .normal t) (K (.exit i) t)
    | .ret => K .ret t
  | .loop c, s, K => cond (Nat.beq (firstReg c) key) (fixO (fun rec u => evC I X lv kp c u fun e t => match e with
    | .normal => rec (canon (lv (firstReg c)) t)
    | .exit i => K (.exit i) t
    | .ret => K .ret t) s) (rsC I X lv kp key c s fun e t => match e with
      | .normal => fixO (fun rec u => evC I X lv kp c u fun e t => match e with
        | .normal => rec (canon (lv (firstReg c)) t)
        | .exit i => K (.exit i) t
        | .ret => K .ret t) (canon (lv (firstReg c)) t)
      | .exit i => K (.exit i) t
      | .ret => K .ret t)
  | _, _, _ => none

/-- .. the first round laid open -/
noncomputable def rs1C {R : Type} (I : Inl R) (X : Ctx) (lv : Nat → List Nat) (kp : Nat → Option (List Nat)) (key : Nat) : Code → Cfg → (Ex → Cfg → Option R) → Option R
  | .seq a b, s, K => cond (hasKey key a) (rs1C I X lv kp key a s fun e t => match e with
    | .normal => evC I X lv kp b t K
    | .exit i => K (.exit i) t
    | .ret => K .ret t) (rs1C I X lv kp key b s K)
  | .cond _ a b, s, K => cond (hasKey key a) (rs1C I X lv kp key a s K) (rs1C I X lv kp key b s K)
  | .block id c, s, K => rs1C I X lv kp key c s fun e t => match e with
    | .normal => K .normal t
    | .exit i => cond (Nat.beq i id) (K .normal t) (K (.exit i) t)
    | .ret => K .ret t
  | .loop c, s, K => cond (Nat.beq (firstReg c) key) (evC I X lv kp c s fun e t => match e with
    | .normal => fixO (fun rec u => evC I X lv kp c u fun e t => match e with
      | .normal => rec (canon (lv (firstReg c)) t)
      | .exit i => K (.exit i) t
      | .ret => K .ret t) (canon (lv (firstReg c)) t)
    | .exit i => K (.exit i) t
    | .ret => K .ret t) (rs1C I X lv kp key c s fun e t => match e with
      | .normal => fixO (fun rec u => evC I X lv kp c u fun e t => match e with
        | .normal => rec (canon (lv (firstReg c)) t)
        | .exit i => K (.exit i) t
        | .ret => K .ret t) (canon (lv (firstReg c)) t)
      | .exit i => K (.exit i) t
      | .ret => K .ret t)
  | _, _, _ => none

/-- every operation's slot is one of the frame's -/
def codeOk (n : Nat) : Code → Bool
  | .region _ ops _ => ops.toList.all fun o => match o.dst with | some d => Nat.blt d n | none => true
  | .seq a b => codeOk n a && codeOk n b
  | .cond _ a b => codeOk n a && codeOk n b
  | .block _ c => codeOk n c
  | .loop c => codeOk n c
  | _ => true

/-! ### functions -/
def envOf : Nat → List AV → Env
  | _, [] => []
  | i, v :: r => (i, v) :: envOf (i + 1) r
def resCells (X : Ctx) (E : Env) (H : Heap) : ResultVar → Option AV
  | .tmp t => some (E.get t)
  | .cell u t => match E.get u with
    | .c (.ptr o 0 0) => match look H o, tsize X.P t with
      | some (.box _ cs), some sz => cond (Nat.beq sz cs.length && (tagg X.P t || Nat.beq sz 1)) (some (mkAV (tagg X.P t) cs)) none
      | _, _ => none
    | _ => none
def retAV (X : Ctx) (fn : Func) (E : Env) (H : Heap) : Option AV :=
  match fn.results.toList with
  | [] => some (.tup [])
  | [r] => resCells X E H r
  | l => (l.mapM (resCells X E H)).bind fun vs => (vs.mapM fun v => match v with | AV.c x => some (false, [x]) | AV.mix cs => some (true, cs) | _ => none).map .tup
structure Tab where
  lv : FuncId → Nat → List Nat
  kp : FuncId → Nat → Option (List Nat)
noncomputable def evI {R : Type} (X : Ctx) (T : Tab) : Nat → Inl R
  | 0 => fun _ _ _ _ _ _ _ => none
  | d + 1 => fun f caps args outer mu H k =>
    match X.P.funcs[f]? with
    | some fn => match fn.body with
      | some c => cond (codeOk fn.ntmps c && Nat.ble (args.length + caps.length) fn.ntmps) (evC (evI X T d) X (T.lv f) (T.kp f) c ⟨envOf 0 (args ++ caps.map AV.c), outer, mu, H⟩ fun e s => match e with
        | .normal => (retAV X fn s.env s.heap).bind fun v => k v s.outer s.muts s.heap
        | .ret => (retAV X fn s.env s.heap).bind fun v => k v s.outer s.muts s.heap
        | .exit _ => none) none
      | none => none
    | none => none
/-- the arguments of a call with data, as a callee sees them -/
def argAVs : (ps : List Par) → TakD ps → ValD ps → Heap → List AV × Heap
  | [], _, _, H => ([], H)
  | ⟨.val, a, t⟩ :: r, m, v, H => (mkAV a (cells t v.1) :: (argAVs r m v.2 H).1, (argAVs r m v.2 H).2)
  | ⟨.own, a, t⟩ :: r, m, v, H => (mkAV a (thaw t m.1 H.length).1 :: (argAVs r m.2 v (H ++ (thaw t m.1 H.length).2)).1, (argAVs r m.2 v (H ++ (thaw t m.1 H.length).2)).2)
  | ⟨.mutp tid, _, t⟩ :: r, m, v, H =>
    (.c (.ptr H.length 0 0) :: (argAVs r m.2 v (H ++ .box tid (thaw t m.1 (H.length + 1)).1 :: (thaw t m.1 (H.length + 1)).2)).1,
     (argAVs r m.2 v (H ++ .box tid (thaw t m.1 (H.length + 1)).1 :: (thaw t m.1 (H.length + 1)).2)).2)
def takeRes : (rs : List (Bool × Ty)) → Heap → List AV → Option (ResD rs × Heap)
  | [], H, [] => some ((), H)
  | (agg, t) :: r, H, v :: vs => (match agg, v with | true, .mix cs => some cs | false, .c x => some [x] | _, _ => none).bind fun cs => (takeN t H cs).bind fun x => match x.2.1 with
    | [] => (takeRes r x.2.2 vs).bind fun y => some ((x.1, y.1), y.2)
    | _ => none
  | _, _, _ => none
/-- the pointers to the variables that were handed over -/
def mutPtrs : List Par → List AV → List CV
  | ⟨.mutp _, _, _⟩ :: r, v :: vs => (match v with | .c x => x | _ => .undef) :: mutPtrs r vs
  | _ :: r, _ :: vs => mutPtrs r vs
  | _, _ => []
def takeMut : (ps : List Par) → List CV → Heap → Option (MutD ps × Heap)
  | [], _, H => some ((), H)
  | ⟨.val, _, _⟩ :: r, l, H => takeMut r l H
  | ⟨.own, _, _⟩ :: r, l, H => takeMut r l H
  | ⟨.mutp tid, _, t⟩ :: r, l, H => match l with
    | .ptr o 0 0 :: l' => match look H o with
      | some (.box tid' cs) => cond (Nat.beq tid' tid) ((takeN t (H.set o .gone) cs).bind fun x => match x.2.1 with
        | [] => (takeMut r l' x.2.2).bind fun y => some ((x.1, y.1), y.2)
        | _ => none) none
      | _ => none
    | _ => none
def resList (X : Ctx) (fn : Func) (E : Env) (H : Heap) : Option (List AV) := fn.results.toList.mapM (resCells X E H)
def finish (X : Ctx) (fn : Func) (ps : List Par) (rs : List (Bool × Ty)) (s : Cfg) : Option (MutD ps × ResD rs) :=
  (resList X fn s.env s.heap).bind fun vs => (takeRes rs s.heap vs).bind fun x => (takeMut ps s.muts x.2).bind fun y => some (y.1, x.1)
noncomputable def evF (X : Ctx) (T : Tab) (d : Nat) (f : FuncId) (ps : List Par) (rs : List (Bool × Ty)) (m : TakD ps) (v : ValD ps) : Option (MutD ps × ResD rs) :=
  match X.P.funcs[f]? with
  | some fn => match fn.body with
    | some c => cond (codeOk fn.ntmps c && Nat.ble ps.length fn.ntmps) (evC (evI X T d) X (T.lv f) (T.kp f) c ⟨envOf 0 (argAVs ps m v []).1, [], mutPtrs ps (argAVs ps m v []).1, (argAVs ps m v []).2⟩ fun e s => match e with
      | .normal => finish X fn ps rs s
      | .ret => finish X fn ps rs s
      | .exit _ => none) none
    | none => none
  | none => none
/-- function f from the head of its loop 'key' on -/
noncomputable def rsF (X : Ctx) (T : Tab) (d : Nat) (f : FuncId) (ps : List Par) (rs : List (Bool × Ty)) (key : Nat) (s : Cfg) : Option (MutD ps × ResD rs) :=
  match X.P.funcs[f]? with
  | some fn => match fn.body with
    | some c => rsC (evI X T d) X (T.lv f) (T.kp f) key c s fun e s => match e with
      | .normal => finish X fn ps rs s
      | .ret => finish X fn ps rs s
      | .exit _ => none
    | none => none
  | none => none
/-- function f from the head of its loop 'key' on, the first round laid open -/
noncomputable def rs1F (X : Ctx) (T : Tab) (d : Nat) (f : FuncId) (ps : List Par) (rs : List (Bool × Ty)) (key : Nat) (s : Cfg) : Option (MutD ps × ResD rs) :=
  match X.P.funcs[f]? with
  | some fn => match fn.body with
    | some c => rs1C (evI X T d) X (T.lv f) (T.kp f) key c s fun e s => match e with
      | .normal => finish X fn ps rs s
      | .ret => finish X fn ps rs s
      | .exit _ => none
    | none => none
  | none => none
end Go.Proofs.YtglbaihiibdemaaGreatDoor.Am
