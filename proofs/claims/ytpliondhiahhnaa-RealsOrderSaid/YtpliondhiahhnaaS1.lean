/- THE EXECUTOR: a function's text over abstract values comes to a tree; the tree's conditions give the function's contract. Any program. -/
import Derived.Below
import Derived.OrdersHeld
import Derived.Deep.RegionHeld
import Derived.Laws.Rows
import Derived.Laws.CopyRow
import Derived.RowKit3
import Derived.Calls
import Derived.KernelRfl
namespace Sx
open Go Go.RowKit

inductive SV where
  | v (x : Value)
  | p (i off : Nat)
  | n (l : List Int)
  | en (l : List Int) (i : Int)
  | ow
  | ew (i : Int)
  | no
inductive AV where
  | s (x : SV)
  | agg (l : List SV)
inductive LV where
  | a (x : AV)
  | tup (l : List AV)
abbrev LV.v (x : Value) : LV := .a (.s (.v x))
abbrev LV.p (i off : Nat) : LV := .a (.s (.p i off))
abbrev LV.n (l : List Int) : LV := .a (.s (.n l))
abbrev LV.agg (l : List SV) : LV := .a (.agg l)
/-- what a loop keeps: its slots, their values by numbers, a condition on these, a measure -/
structure LS where
  ds : List Nat
  val : (Nat → Int) → List LV
  J : (Nat → Int) → Prop
  mu : (Nat → Int) → Nat
  own : (Nat → Int) → Option (List Int) := fun _ => none
  adopt : Bool := false
  /-- the loops within, by this loop's numbers -/
  nx : (Nat → Int) → List LS := fun _ => []
structure St where
  m : Nat
  t : List (Nat × LV)
  h : List (TypeId × List SV)
  l : List LS
  o : Option (List Int)
inductive Tr where
  | ret (v : LV)
  | call (f : FuncId) (args : List LV) (r : LV) (t : Tr)
  | ext (f : FuncId) (args : List LV) (r : LV) (t : Tr)
  | need (p : Prop) (t : Tr)
  | loop (L : LS) (vs : List LV) (o : Option (List Int)) (f : (Nat → Int) → List (Nat × LV) → Tr)
  | again (L : LS) (vs : List LV) (o : Option (List Int)) (x : Nat → Int) (h1 h0 : List (TypeId × List SV)) (m1 m0 : Nat)
  | both (x y : Tr)
  | bad
def br (b : Bool) (x y : Tr) : Tr := match b with
  | true => x
  | false => y
def und : LV := .v undef
def ofV : Value → LV
  | .agg cs => .agg (cs.toList.map .v)
  | x => .v x
def getT : List (Nat × LV) → Nat → LV
  | [], _ => und
  | (j, x) :: r, i => match Nat.beq j i with
    | true => x
    | false => getT r i
def St.put (s : St) (d : Option Tmp) (x : LV) : St :=
  match d with
  | some d => match Nat.blt d s.m with
    | true => { s with t := (d, x) :: s.t }
    | false => s
  | none => s
/-- a Bool that has been told -/
def St.know (s : St) (c : Operand) (b : Bool) : St :=
  match c with
  | .tmp i => s.put (some i) (.v (.bool b))
  | _ => s
def ev (s : St) : Operand → LV
  | .tmp i => getT s.t i
  | .const v => ofV v
  | .global g => .v (.pointer (some ⟨g, 0, none⟩))
  | .func f => .v (.func (.func f) #[] #[])
def pv {α : Type} (P : Program) : Sem α → Option α
  | .pure a => some a
  | .program k => pv P (k P)
  | .mark _ k => pv P k
  | _ => none
def isAg (P : Program) (t : TypeId) : Option Bool :=
  match P.underlying t with
  | some (.struct _) => some true
  | some (.array _ _) => some true
  | some _ => some false
  | none => none
def sz (P : Program) (t : TypeId) : Option Nat := (P.info? t).map (·.size)
def one' : SV → Bool
  | .v x => x.oneCell'
  | .p _ _ => true
  | .n _ => true
  | _ => false
/-- the cells of a value -/
def cellsL : LV → Option (List SV)
  | .a (.s x) => some [x]
  | .a (.agg l) => some l
  | .tup _ => none
def splice (l : List SV) (o : Nat) (c : List SV) : List SV := l.take o ++ c ++ l.drop (o + c.length)
def bin (P : Program) (op : BinOp) (t : TypeId) (xo yo : Operand) (x y : Value) (k : Value → Tr) : Tr :=
  match op, x, y with
  | .shl, .int k1 a, .int _ b => br (decide (b < 0)) .bad (k (.int k1 (k1.wrap (a * 2 ^ min b.toNat k1.bits))))
  | .shr, .int k1 a, .int _ b => br (decide (b < 0)) .bad (k (.int k1 (a.fdiv (2 ^ min b.toNat k1.bits))))
  | .quo, .int k1 a, .int k2 b => if k1 = k2 then br (decide (b = 0)) .bad (k (.int k1 (k1.wrap (a.tdiv b)))) else .bad
  | .rem, .int k1 a, .int k2 b => if k1 = k2 then br (decide (b = 0)) .bad (k (.int k1 (a.tmod b))) else .bad
  | op, x, y => match pv P (do eqGuard op t xo yo x y; binOp op t x y) with
    | some v => k v
    | none => .bad
def newB (T : TypeId) (s : St) (o : Oper) (e : TypeId) (x : LV) (k : St → Tr) : Tr :=
  match cellsL x with
  | some l => if e == T || !l.all one' then .bad else k (({ s with h := s.h ++ [(e, l)] } : St).put o.dst (.p s.h.length 0))
  | none => .bad
/-- told to others -/
def noS : SV → Bool
  | .v _ => true
  | .n _ => true
  | _ => false
def noP : LV → Bool
  | .a (.s x) => noS x
  | .a (.agg l) => l.all noS
  | .tup _ => false
def pub (s : St) : SV → SV
  | .ow => match s.o with
    | some l => .n l
    | none => .no
  | .v (.slice none 0 0) => .n []
  | y => y
def pubA (s : St) : AV → AV
  | .s y => .s (pub s y)
  | .agg l => .agg (l.map (pub s))
def pubL (s : St) : LV → LV
  | .a y => .a (pubA s y)
  | z => z
/-- the own slice is no longer known by its old names -/
def kill : SV → SV
  | .ow => .no
  | .ew _ => .no
  | y => y
def killA : AV → AV
  | .s y => .s (kill y)
  | .agg l => .agg (l.map kill)
def killL : LV → LV
  | .a y => .a (killA y)
  | .tup l => .tup (l.map killA)
def mapT (f : LV → LV) : List (Nat × LV) → List (Nat × LV)
  | [] => []
  | (i, x) :: r => (i, f x) :: mapT f r
def St.own (s : St) (o : Option (List Int)) : St := { s with o := o, t := mapT killL s.t }
def retire (s : St) : St := match s.o with
  | none => s
  | some _ => s.own none
/-- nil as an own slice; nil as one that reads as nothing -/
def adoptS : SV → SV
  | .v (.slice none 0 0) => .ow
  | y => kill y
def adoptL : LV → LV
  | .a (.s y) => .a (.s (adoptS y))
  | z => killL z
def nilS : SV → SV
  | .v (.slice none 0 0) => .n []
  | y => y
def nilL : LV → LV
  | .a (.s y) => .a (.s (nilS y))
  | z => z
def asN (s : St) : LV → Option (List Int)
  | .a (.s (.n l)) => some l
  | .a (.s .ow) => s.o
  | .a (.s (.v (.slice none 0 0))) => some []
  | _ => none
def tOk (P : Program) (T : TypeId) : Bool := match P.info? T with
  | some i => i.size == 1 && i.bytes == 8 && (match i.zero with | some (.int .i64 n) => n == 0 | _ => false)
  | none => false
def isSl (P : Program) (T t : TypeId) : Bool := match P.underlying t with
  | some (.slice e) => e == T && tOk P T
  | _ => false
def plain : LV → Option Value
  | .a (.s (.v x)) => some x
  | _ => none
/-- a min or a max -/
def mnmx (P : Program) (b : Builtin) (ats : Array TypeId) (ty : TypeId) (args : Array Value) : Option Value :=
  match b with
  | .min => pv P (Builtin.min_ ats ty args)
  | .max => pv P (Builtin.max_ ats ty args)
  | _ => none
def plains : List LV → Option (List Value)
  | [] => some []
  | x :: r => match plain x, plains r with
    | some v, some l => some (v :: l)
    | _, _ => none
/-- one cell for each part -/
def fillL (P : Program) (fs : Array Field) : List SV → List (Nat × LV) → Option (List SV)
  | cs, [] => some cs
  | cs, (i, x) :: r => match fs[i]?, x with
    | some fd, .a (.s c) => if sz P fd.type == some 1 && one' c && decide (fd.offset < cs.length) then fillL P fs (cs.set fd.offset c) r else none
    | _, _ => none
abbrev Tab := List (FuncId × (List LV → Option LV))
def look : Tab → FuncId → List LV → Option LV
  | [], _, _ => none
  | (g, h) :: r, f, l => if g == f then h l else look r f l
def step (P : Program) (T : TypeId) (C : Tab) (o : Oper) (s : St) (k : St → Tr) : Tr :=
  match o.op with
  | .move x => k (s.put o.dst (ev s x))
  | .assign x => k (s.put o.dst (ev s x))
  | .pick c a b => match ev s c with
    | .a (.s (.v (.bool x))) => br x (k ((s.know c true).put o.dst (ev s a))) (k ((s.know c false).put o.dst (ev s b)))
    | _ => .bad
  | .box e x => newB T s o e (ev s x) k
  | .alloc e => match (P.info? e).bind (·.zero) with
    | some z => newB T s o e (ofV z) k
    | none => .bad
  | .load t x => match ev s x with
    | .a (.s (.p i off)) => match s.h[i]?, isAg P t, sz P t with
      | some (_, cs), some true, some n => if off == 0 && n == cs.length then k (s.put o.dst (.agg cs)) else .bad
      | some (_, cs), some false, _ => match cs[off]? with
        | some c => k (s.put o.dst (.a (.s c)))
        | none => .bad
      | _, _, _ => .bad
    | .a (.s (.en l j)) => match isAg P t with
      | some false => k (s.put o.dst (.v (.int .i64 (l.getD j.toNat 0))))
      | _ => .bad
    | .a (.s (.ew j)) => match isAg P t, s.o with
      | some false, some l => k (s.put o.dst (.v (.int .i64 (l.getD j.toNat 0))))
      | _, _ => .bad
    | _ => .bad
  | .indexAddr t x i => if isSl P T t then match ev s x, plain (ev s i) with
    | .a (.s (.n l)), some (.int _ j) => br (decide (0 ≤ j)) (br (decide (j < l.length)) (k (s.put o.dst (.a (.s (.en l j))))) .bad) .bad
    | .a (.s .ow), some (.int _ j) => match s.o with
      | some l => br (decide (0 ≤ j)) (br (decide (j < l.length)) (k (s.put o.dst (.a (.s (.ew j))))) .bad) .bad
      | none => .bad
    | _, _ => .bad
    else .bad
  | .slice t x none (some h) none => if isSl P T t then match ev s x, plain (ev s h) with
    | .a (.s (.n l)), some (.int _ j) => br (decide (0 ≤ j)) (br (decide (j ≤ l.length)) (k (s.put o.dst (.n (l.take j.toNat)))) .bad) .bad
    | _, _ => .bad
    else .bad
  | .makeSlice t l c => if isSl P T t && s.o.isNone then match plain (ev s l), plain (ev s c) with
    | some (.int _ n), some (.int _ m) => .need (n = m ∧ 0 ≤ n ∧ n ≤ 1099511627776) (k ((s.own (some (List.replicate n.toNat 0))).put o.dst (.a (.s .ow))))
    | _, _ => .bad
    else .bad
  | .store t x y => match ev s x, cellsL (ev s y), sz P t with
    | .a (.s (.ew j)), _, some 1 => match plain (ev s y), s.o with
      | some (.int .i64 z), some l => k (({ s with o := some (l.set j.toNat z) } : St).put o.dst und)
      | _, _ => .bad
    | .a (.s (.p i off)), some l, some n => match s.h[i]? with
      | some (ty, cs) => if n == l.length && l.all one' && decide (off + l.length ≤ cs.length) then k (({ s with h := s.h.set i (ty, splice cs off l) } : St).put o.dst und) else .bad
      | none => .bad
    | _, _, _ => .bad
  | .fieldAddr st x f => match ev s x, P.underlying st with
    | .a (.s (.p i off)), some (.struct fs) => match fs[f]? with
      | some fd => match sz P fd.type with
        | some (_ + 1) => k (s.put o.dst (.p i (off + fd.offset)))
        | _ => .bad
      | none => .bad
    | _, _ => .bad
  | .field st x f => match ev s x, P.underlying st with
    | .a (.agg l), some (.struct fs) => match fs[f]? with
      | some fd => match isAg P fd.type, sz P fd.type with
        | some true, some n => k (s.put o.dst (.agg ((l.drop fd.offset).take n)))
        | some false, _ => match l[fd.offset]? with
          | some c => k (s.put o.dst (.a (.s c)))
          | none => .bad
        | _, _ => .bad
      | none => .bad
    | _, _ => .bad
  | .extract x i => match ev s x with
    | .tup l => match l[i]? with
      | some c => k (s.put o.dst (.a c))
      | none => .bad
    | _ => .bad
  | .binOp op t x y _ => match plain (ev s x), plain (ev s y) with
    | some a, some b => bin P op t x y a b fun v => k (s.put o.dst (.v v))
    | _, _ => .bad
  | .unOp op _ x => match plain (ev s x) with
    | some a => match pv P (Op.unary op a) with
      | some v => k (s.put o.dst (.v v))
      | none => .bad
    | none => .bad
  | .convert t u x => match plain (ev s x) with
    | some a => match pv P (convert t u a) with
      | some v => k (s.put o.dst (.v v))
      | none => .bad
    | none => .bad
  | .call c => match c.callee with
    | .value (.func f) => if (c.args.toList.map fun x => pubL s (ev s x)).all noP then match look C f (c.args.toList.map fun x => pubL s (ev s x)), (P.funcs[f]?).map fun fn => (fn.name != "runtime.NumGoroutine", fn.body.isSome) with
      | some r, some (true, true) => .call f (c.args.toList.map fun x => pubL s (ev s x)) r (k ((retire s).put o.dst r))
      | some r, some (true, false) => .ext f (c.args.toList.map fun x => pubL s (ev s x)) r (k ((retire s).put o.dst r))
      | _, _ => .bad
      else .bad
    | .builtin b => match plains (c.args.toList.map (ev s)) with
      | some l => match mnmx P b c.argTypes o.type l.toArray with
        | some v => k (s.put o.dst (.v v))
        | none => .bad
      | none => match b, c.args.toList, c.argTypes.toList with
        | .len, [x], [t] => if isSl P T t then match asN s (ev s x) with
          | some l => k (s.put o.dst (.v (.int .i64 l.length)))
          | none => .bad
          else .bad
        | .append, [x, y], [t, u] => if isSl P T t && t == u then match ev s x, s.o, ev s y with
          | .a (.s .ow), some l, .a (.s (.n (z :: m))) => .need (l.length + (m.length + 1) ≤ 1099511627776) (k ((s.own (some (l ++ z :: m))).put o.dst (.a (.s .ow))))
          | .a (.s (.v (.slice none 0 0))), none, .a (.s (.n (z :: m))) => .need (m.length + 1 ≤ 1099511627776) (k ((s.own (some (z :: m))).put o.dst (.a (.s .ow))))
          | _, _, _ => .bad
          else .bad
        | _, _, _ => .bad
    | _ => .bad
  | .build t parts => match (P.info? t).bind (·.zero), P.underlying t with
    | some (.agg z), some (.struct fs) => match fillL P fs (z.toList.map .v) (parts.toList.map fun (i, x) => (i, ev s x)) with
      | some cs => if fs.all (fun f => (sz P f.type).isSome) then k (s.put o.dst (.agg cs)) else .bad
      | none => .bad
    | _, _ => .bad
  | .buildSlice t len parts => match parts.toList with
    | [(0, x)] => if isSl P T t && len == 1 then match plain (ev s x) with
      | some (.int .i64 z) => k (s.put o.dst (.n [z]))
      | _ => .bad
      else .bad
    | _ => .bad
  | _ => .bad
inductive Ex where
  | normal
  | exit (id : Nat)
  | ret
def guarded (ops : Array Oper) (o : Oper) (s : St) (run skip : St → Tr) : Tr :=
  match o.guard with
  | none => run s
  | some (j, want) => match (ops[j]?).bind (·.dst) with
    | some d => if d < s.m then match getT s.t d with
      | .a (.s (.v (.bool b))) => match want with
        | true => br b (run (s.know (.tmp d) true)) (skip (s.know (.tmp d) false))
        | false => br b (skip (s.know (.tmp d) true)) (run (s.know (.tmp d) false))
      | .a (.s (.v (.tuple _))) => skip s
      | _ => .bad
      else .bad
    | none => .bad
def seqO (P : Program) (T : TypeId) (C : Tab) (ops : Array Oper) : List Nat → (St → Tr) → St → Tr
  | [], k, s => k s
  | i :: r, k, s => match ops[i]? with
    | some o => guarded ops o s (fun s => step P T C o s (seqO P T C ops r k)) (fun s => seqO P T C ops r k (s.put o.dst und))
    | none => .bad
/-! A region that draws its order. -/
def root (ops : Array Oper) (s : St) : Nat → Operand → Option Nat
  | 0, _ => none
  | n + 1, .tmp t => match ops.toList.find? (fun o => o.dst == some t) with
    | some o => match o.op with
      | .fieldAddr _ x _ => root ops s n x
      | _ => none
    | none => match getT s.t t with
      | .a (.s (.p i _)) => some i
      | _ => none
  | _, _ => none
def mask (ops : Array Oper) (s : St) : List Nat := ops.toList.filterMap fun o => match o.op with
  | .store _ x _ => root ops s 8 x
  | _ => none
def softD (ops : Array Oper) (s : St) (m : List Nat) (o : Oper) : Bool := match o.op with
  | .load _ x => match root ops s 8 x with
    | some i => !m.contains i
    | none => false
  | .move _ | .assign _ | .pick .. | .fieldAddr .. | .field .. | .extract .. | .binOp .. | .unOp .. | .convert .. | .build .. | .indexAddr .. => true
  | .call c => match c.callee with
    | .builtin .append => false
    | .builtin _ => true
    | _ => false
  | _ => false
def mkOrd (ops : Array Oper) (sf : Oper → Bool) : Nat → Array Bool → List (Nat × Bool)
  | 0, _ => []
  | n + 1, l => match (Region.ready .any ops l).find? (fun i => (ops[i]?).any sf && Region.free .any ops l i) with
    | some i => (i, true) :: mkOrd ops sf n (l.setIfInBounds i true)
    | none => match Region.ready .any ops l with
      | [i] => (i, false) :: mkOrd ops sf n (l.setIfInBounds i true)
      | _ => []
/-- may it be taken at once? -/
def okSoft (m : List Nat) (n0 : Nat) (s : St) (o : Oper) : Bool := match o.op with
  | .load _ x => match ev s x with
    | .a (.s (.p i _)) => !m.contains i && decide (i < n0)
    | _ => false
  | .move _ | .assign _ | .pick .. | .fieldAddr .. | .field .. | .extract .. | .binOp .. | .unOp .. | .convert .. | .build .. | .indexAddr .. => true
  | .call c => match c.callee with
    | .builtin .append => false
    | .builtin _ => true
    | _ => false
  | _ => false
def okHard (m : List Nat) (n0 : Nat) (s : St) (o : Oper) : Bool := match o.op with
  | .store _ x _ => match ev s x with
    | .a (.s (.p i _)) => m.contains i || decide (n0 ≤ i)
    | _ => false
  | .makeSlice .. => false
  | .call c => match c.callee with
    | .builtin .append => false
    | _ => true
  | _ => true
def okSeq (md : Region.Mode) (ops : Array Oper) : Array Bool → List (Nat × Bool) → Bool
  | l, [] => Region.ready md ops l == []
  | l, (i, true) :: r => Region.free md ops l i && (Region.ready md ops l).contains i && okSeq md ops (l.setIfInBounds i true) r
  | l, (i, false) :: r => Region.ready md ops l == [i] && okSeq md ops (l.setIfInBounds i true) r
/-- an operation that only reads -/
def isSoft (o : Oper) : Bool := match o.op with
  | .move _ | .assign _ | .pick .. | .fieldAddr .. | .field .. | .extract .. | .binOp .. | .unOp .. | .convert .. | .build .. | .load .. | .indexAddr .. | .slice .. => true
  | .call c => match c.callee with
    | .builtin .append => false
    | .builtin _ => true
    | _ => false
  | _ => false
/-- a region of such operations alone -/
def seqA (P : Program) (T : TypeId) (C : Tab) (ops : Array Oper) : List Nat → (St → Tr) → St → Tr
  | [], k, s => k s
  | i :: r, k, s => match ops[i]? with
    | some o => guarded ops o s (fun s => if isSoft o then step P T C o s (seqA P T C ops r k) else .bad) (fun s => seqA P T C ops r k (s.put o.dst und))
    | none => .bad
def seqD (P : Program) (T : TypeId) (C : Tab) (ops : Array Oper) (m : List Nat) (n0 : Nat) : List (Nat × Bool) → (St → Tr) → St → Tr
  | [], k, s => k s
  | (i, b) :: r, k, s => match ops[i]? with
    | some o => guarded ops o s (fun s => if (if b then okSoft m n0 s o else okHard m n0 s o) then step P T C o s (seqD P T C ops m n0 r k) else .bad) (fun s => seqD P T C ops m n0 r k (s.put o.dst und))
    | none => .bad
/-- one of several, whichever comes up -/
def conj : List Tr → Tr
  | [] => .bad
  | [x] => x
  | x :: r => .both x (conj r)
/-- a region in every order: what only reads comes at once -/
def seqN (P : Program) (T : TypeId) (C : Tab) (ops : Array Oper) (m : List Nat) (n0 : Nat) : Nat → Array Bool → (St → Tr) → St → Tr
  | 0, l, k, s => if Region.ready .any ops l == [] then k s else .bad
  | n + 1, l, k, s => match (Region.ready .any ops l).find? (fun i => (ops[i]?).any (okSoft m n0 s) && Region.free .any ops l i) with
    | some i => match ops[i]? with
      | some o => guarded ops o s (fun s => if okSoft m n0 s o then step P T C o s (seqN P T C ops m n0 n (l.setIfInBounds i true) k) else .bad) (fun s => seqN P T C ops m n0 n (l.setIfInBounds i true) k (s.put o.dst und))
      | none => .bad
    | none => match Region.ready .any ops l with
      | [] => k s
      | j :: r => conj ((j :: r).map fun i => match ops[i]? with
        | some o => guarded ops o s (fun s => if okHard m n0 s o then step P T C o s (seqN P T C ops m n0 n (l.setIfInBounds i true) k) else .bad) (fun s => seqN P T C ops m n0 n (l.setIfInBounds i true) k (s.put o.dst und))
        | none => .bad)
def zipF : List Nat → List LV → List (Nat × LV) → List (Nat × LV)
  | d :: ds, v :: vs, r => (d, v) :: zipF ds vs r
  | _, _, r => r
def enterL (L : LS) (s : St) : St := if L.adopt then (match s.o with
  | none => { s with o := some [], t := mapT adoptL s.t }
  | some _ => s) else { s with t := mapT nilL s.t }
def exec (P : Program) (T : TypeId) (C : Tab) : Code → (Ex → St → Tr) → St → Tr
  | .skip, k, s => k .normal s
  | .label _, k, s => k .normal s
  | .seq a b, k, s => exec P T C a (fun e s' => match e with | .normal => exec P T C b k s' | e => k e s') s
  | .cond c x y, k, s => match ev s c with
    | .a (.s (.v (.bool b))) => br b (exec P T C x k (s.know c true)) (exec P T C y k (s.know c false))
    | _ => .bad
  | .block id c, k, s => exec P T C c (fun e s' => match e with | .exit i => if i = id then k .normal s' else k (.exit i) s' | e => k e s') s
  | .exit id, k, s => k (.exit id) s
  | .ret, k, s => k .ret s
  | .loop c, k, s => match s.l with
    | [] => .bad
    | L :: ls =>
      .loop L (L.ds.map (getT (enterL L s).t)) (enterL L s).o fun x rest => exec P T C c (fun e s' => match e with
      | .normal => .again L (L.ds.map (getT s'.t)) s'.o x s'.h s.h s'.m s.m
      | e => k e s') ⟨s.m, zipF L.ds (L.val x) rest, s.h, L.nx x ++ ls, L.own x⟩
  | .region _ ops false, k, s => seqO P T C ops (List.range ops.size) (k .normal) s
  | .region _ ops true, k, s =>
    let ra := mkOrd ops isSoft ops.size (Array.replicate ops.size false)
    if Region.noSelect ops && okSeq .any ops (Array.replicate ops.size false) ra && ra.length == ops.size && ra.all (·.2) && P.follows .mixedOrders then seqA P T C ops (ra.map (·.1)) (k .normal) s else
    let r := mkOrd ops (softD ops s (mask ops s)) ops.size (Array.replicate ops.size false)
    if Region.noSelect ops && okSeq .any ops (Array.replicate ops.size false) r && r.length == ops.size && P.follows .mixedOrders then seqD P T C ops (mask ops s) s.h.length r (k .normal) s else
    if Region.noSelect ops && P.follows .mixedOrders then seqN P T C ops (mask ops s) s.h.length ops.size (Array.replicate ops.size false) (k .normal) s else .bad
  | _, _, _ => .bad
def noPA : AV → Bool
  | .s x => noS x
  | .agg l => l.all noS
def noR : LV → Bool
  | .a x => noPA x
  | .tup l => l.all noPA
def resA (P : Program) (s : St) : ResultVar → Option AV
  | .tmp t => match getT s.t t with
    | .a x => some (pubA s x)
    | _ => none
  | .cell a t => match getT s.t a with
    | .a (.s (.p i off)) => match s.h[i]?, isAg P t, sz P t with
      | some (_, cs), some true, some n => if off == 0 && n == cs.length then some (pubA s (.agg cs)) else none
      | some (_, cs), some false, _ => match cs[off]? with
        | some c => some (pubA s (.s c))
        | none => none
      | _, _, _ => none
    | _ => none
def resL (P : Program) (s : St) : List ResultVar → Option LV
  | [x] => match resA P s x with
    | some a => some (.a a)
    | none => none
  | [x, y] => match resA P s x, resA P s y with
    | some a, some b => some (.tup [a, b])
    | _, _ => none
  | [x, y, z] => match resA P s x, resA P s y, resA P s z with
    | some a, some b, some c => some (.tup [a, b, c])
    | _, _, _ => none
  | [x, y, z, u] => match resA P s x, resA P s y, resA P s z, resA P s u with
    | some a, some b, some c, some d => some (.tup [a, b, c, d])
    | _, _, _, _ => none
  | _ => none
def fin (P : Program) (fn : Func) (e : Ex) (s : St) : Tr :=
  match e with
  | .exit _ => .bad
  | _ => match resL P s fn.results.toList with
    | some r => if noR r then .ret r else .bad
    | none => .bad
def num : Nat → List LV → List (Nat × LV)
  | _, [] => []
  | i, x :: r => (i, x) :: num (i + 1) r
def ent (fn : Func) (args : List LV) (Ls : List LS) : St := ⟨max fn.ntmps args.length, num 0 args, [], Ls, none⟩
/-- the tree of a function -/
def treeL (P : Program) (T : TypeId) (C : Tab) (Ls : List LS) (f : FuncId) (args : List LV) : Tr :=
  match P.funcs[f]? with
  | some fn => match fn.body with
    | some c => exec P T C c (fin P fn) (ent fn args Ls)
    | none => .bad
  | none => .bad
def tree (P : Program) (T : TypeId) (C : Tab) (f : FuncId) (args : List LV) : Tr := treeL P T C [] f args
end Sx
