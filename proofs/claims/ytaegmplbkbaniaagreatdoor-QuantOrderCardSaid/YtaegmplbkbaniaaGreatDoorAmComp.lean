/-
  THE ABSTRACT MACHINE: from the loaded code to the light code, and from the program's type table to the machine's. No condition: definitions alone.
-/
import Derived.Test.YtaegmplbkbaniaaGreatDoorAmDef
set_option linter.all false
namespace Go.Proofs.YtaegmplbkbaniaaGreatDoor
open Go

/-- A value of one cell that names no address. -/
def scal : Value → Bool
  | .bool _ | .int _ _ | .string _ | .pointer none | .map none | .nilFunc | .nilIface => true
  | .slice none 0 0 => true
  | _ => false
def constOk : Value → Bool
  | .agg cs => cs.toList.all scal
  | .tuple cs => cs.toList.all scal
  | .iface _ v => scal v
  | v => scal v
def dk : TypeDesc → DK
  | .int k => .int k
  | .bool => .bool
  | .string => .str
  | .pointer e => .ptr e
  | .slice e => .slc e
  | .array n e => .arr n e
  | .map k e => .map k e
  | .struct fs => .strc (fs.toList.map fun f => (f.offset, f.type))
  | .interface _ => .iface
  | .func _ _ _ => .func
  | _ => .oth
def dkOf (P : Program) (t : TypeId) : DK :=
  match P.underlying t with
  | some d => dk d
  | none => .oth
def zeroOf (agg : Bool) (v : Value) : Option (List Value) :=
  match agg, v with
  | true, .agg cs => if cs.toList.all scal then some cs.toList else none
  | true, _ => none
  | false, v => if scal v then some [v] else none
def tyOf (P : Program) (t : TypeId) : Option Ti :=
  match P.info? t with
  | none => none
  | some i => match dkOf P t with
    | .oth => none
    | k => some { k, size := i.size, bytes := i.bytes, zero := i.zero.bind (zeroOf k.agg), cmp := i.comparable }

def cOd (P : Program) : Operand → Option Od
  | .tmp n => some (.t n)
  | .const v => if constOk v then some (.c v) else none
  | .global n => if n < P.globals.size then some (.g n) else none
  | .func n => some (.f n)
def cOds (P : Program) : List Operand → Option (List Od)
  | [] => some []
  | x :: r => match cOd P x, cOds P r with
    | some y, some l => some (y :: l)
    | _, _ => none
def cOdO (P : Program) : Option Operand → Option (Option Od)
  | none => some none
  | some x => match cOd P x with
    | some y => some (some y)
    | none => none
def cParts (P : Program) : List (Nat × Operand) → Option (List (Nat × Od))
  | [] => some []
  | (i, x) :: r => match cOd P x, cParts P r with
    | some y, some l => some ((i, y) :: l)
    | _, _ => none
def cBuiltin (P : Program) (b : Builtin) (as : List Od) (ts : Array TypeId) : Option Ai :=
  match b, as, ts[0]? with
  | .append, [s, x], some T => match ts[1]? with
    | some U => match dkOf P U with
      | .int _ => some (.e (.appz T s x))
      | .slc _ => some (.e (.app T s x))
      | .str => some (.e (.app T s x))
      | _ => none
    | none => none
  | .len, [x], some T => match dkOf P T with
    | .map _ _ => some (.r (.mlen T x))
    | .slc _ => some (.p (.len T x))
    | .str => some (.p (.len T x))
    | _ => none
  | .cap, [x], some T => match dkOf P T with
    | .slc _ => some (.p (.cap T x))
    | _ => none
  | .copy, [d, s], some T => some (.e (.cpy T d s))
  | .clear, [x], some T => match dkOf P T with
    | .slc _ => some (.e (.clr T x))
    | _ => none
  | .min, xs, _ => some (.p (.mn xs))
  | .max, xs, _ => some (.p (.mx xs))
  | _, _, _ => none
def cOp1 (P : Program) : Op → Option Ai
  | .move x | .assign x => (cOd P x).map fun x => .p (.mv x)
  | .pick c a b => match cOd P c, cOd P a, cOd P b with
    | some c, some a, some b => some (.p (.pick c a b))
    | _, _, _ => none
  | .alloc T => some (.a (.alloc T))
  | .box T x => (cOd P x).map fun x => .a (.box T x)
  | .build T ps => (cParts P ps.toList).map fun ps => .p (.build T ps)
  | .buildSlice T n ps => (cParts P ps.toList).map fun ps => .a (.bsl T n ps)
  | .load T a => (cOd P a).map fun a => .r (.load T a)
  | .store T a x => match cOd P a, cOd P x with
    | some a, some x => some (.e (.store T a x))
    | _, _ => none
  | .nilCheck x => (cOd P x).map fun x => .p (.nilc x)
  | .binOp op T x y _ => match cOd P x, cOd P y with
    | some x, some y => some (.p (.bin op T x y))
    | _, _ => none
  | .unOp op _ x => (cOd P x).map fun x => .p (.un op x)
  | .convert s d x => match dkOf P s, dkOf P d, cOd P x with
    | .int _, .int k, some x => some (.p (.cnv k x))
    | .str, .str, some x => some (.p (.same x))
    | .slc e, .str, some x => match dkOf P e with
      | .int .u8 => some (.r (.b2s s x))
      | _ => none
    | .str, .slc e, some x => match dkOf P e with
      | .int .u8 => some (.a (.s2b e x))
      | _ => none
    | .slc e, .slc e', some x => match dkOf P e' with
      | .int .u8 => if s = d ∧ e = e' then some (.e (.mkb x)) else none
      | _ => none
    | _, _, _ => none
  | .makeInterface T x => match dkOf P T, cOd P x, P.underlying T with
    | .iface, _, _ => none
    | _, some x, some _ => some (.p (.mkif T x))
    | _, _, _ => none
  | .makeFunc (.func f) a b => match cOds P a.toList, cOds P b.toList with
    | some a, some b => some (.p (.mkfn f a b))
    | _, _ => none
  | .makeMap T none => some (.a (.mkmap T))
  | .makeSlice T l c => match cOd P l, cOd P c with
    | some l, some c => some (.a (.mksl T l c))
    | _, _ => none
  | .slice T x l h m => match cOd P x, cOdO P l, cOdO P h, cOdO P m with
    | some x, some l, some h, some m => if h.isNone && m.isSome then none else some (.p (.slc T x l h m))
    | _, _, _, _ => none
  | .fieldAddr T x i => (cOd P x).map fun x => .p (.fadr T x i)
  | .field T x i => (cOd P x).map fun x => .p (.fld T x i)
  | .indexAddr T x i => match cOd P x, cOd P i with
    | some x, some i => some (.p (.iadr T x i))
    | _, _ => none
  | .index T x i => match cOd P x, cOd P i with
    | some x, some i => some (.p (.idx T x i))
    | _, _ => none
  | .lookup T m k ok => match cOd P m, cOd P k with
    | some m, some k => some (.r (.look T m k ok))
    | _, _ => none
  | .mapUpdate T m k v => match cOd P m, cOd P k, cOd P v with
    | some m, some k, some v => some (.e (.mupd T m k v))
    | _, _, _ => none
  | .typeAssert x T U ok => (cOd P x).map fun x => .p (.tas x T U ok)
  | .extract x i => (cOd P x).map fun x => .p (.ext x i)
  | .call c => match c.callee, cOds P c.args.toList with
    | .value f, some as => (cOd P f).map fun f => .call f as
    | .invoke x m, some as => (cOd P x).map fun x => .inv x m as
    | .builtin b, some as => cBuiltin P b as c.argTypes
    | _, none => none
  | _ => none

/-- What the machine does not take is an operation that it never passes. -/
def cOp (P : Program) (o : Op) : Ai :=
  match cOp1 P o with
  | some a => a
  | none => .p .bad

def cGuard (ops : Array Oper) : Option (Nat × Bool) → Option (Option (Nat × Bool))
  | none => some none
  | some (j, w) => match (ops[j]?).bind (·.dst) with
    | some d => some (some (d, w))
    | none => none
def cLo (P : Program) (nt : Nat) (ops : Array Oper) (o : Oper) : Option Lo :=
  match cGuard ops o.guard with
  | some g => match o.dst with
    | none => some ⟨none, cOp P o.op, g⟩
    | some d => if d < nt then some ⟨some d, cOp P o.op, g⟩ else none
  | none => none
def cLos (P : Program) (nt : Nat) (ops : Array Oper) : List Oper → Option (List Lo)
  | [] => some []
  | o :: r => match cLo P nt ops o, cLos P nt ops r with
    | some x, some l => some (x :: l)
    | _, _ => none

/-! ### Regions that draw their order -/
/-- For each operation, as bits, all that must come ahead of it. -/
def predsOf (ops : List Oper) : List Nat :=
  ops.foldl (fun acc o => acc ++ [o.after.toList.foldl (fun s e => if Region.binds .any e then s ||| 2 ^ e.on ||| acc.getD e.on 0 else s) 0]) []
def Ai.isAl : Ai → Bool
  | .a _ => true
  | _ => false
def Ai.isRd : Ai → Bool
  | .r _ => true
  | _ => false
def Ai.isIm : Ai → Bool
  | .e _ | .call _ _ | .inv _ _ _ => true
  | _ => false
def cDls (ops : Array Oper) (preds : List Nat) (los : List Lo) : List Lo → Nat → List Dl
  | [], _ => []
  | x :: r, i =>
    { lo := x, i, slot := ((los.take i).filter (·.o.isAl)).length,
      back := (((los.take i).zipIdx.filter fun (y, k) => y.o.isIm && !(preds.getD i 0).testBit k)).length,
      keep := x.o.isRd && ((los.drop (i + 1)).zipIdx.any fun (y, k) => y.o.isIm && !(preds.getD (i + 1 + k) 0).testBit i),
      chk := if x.o.isIm then ((los.take i).zipIdx.filter fun (y, k) => y.o.isRd && !(preds.getD i 0).testBit k).map (·.2) else [],
      ls := match ops[i]? with | some o => o.looksAt ops | none => [] } :: cDls ops preds los r (i + 1)
/-- Do two operations, the first ahead of the second in the text, keep out of each other's way or stand in order? -/
def pairOk (ops : Array Oper) (preds : List Nat) (los : List Lo) (i j : Nat) : Bool :=
  (preds.getD j 0).testBit i ||
  (match ops[i]?, ops[j]?, los[i]?, los[j]? with
   | some x, some y, some a, some b => x.apart ops y && !((a.o.isIm || a.o.isAl) && b.o.isIm)
   | _, _, _, _ => false)
def drawOk (ops : Array Oper) (preds : List Nat) (los : List Lo) : Bool :=
  (ops.toList.zipIdx.all fun (o, i) => o.after.toList.all fun e => !(Region.binds .any e) || Nat.blt e.on i) &&
  ((List.range los.length).all fun j => (List.range j).all fun i => pairOk ops preds los i j)
def cRegion (P : Program) (nt : Nat) (ops : Array Oper) (draw : Bool) : Option Ac :=
  match cLos P nt ops ops.toList with
  | none => none
  | some los => match draw with
    | false => some (.reg los)
    | true => match drawOk ops (predsOf ops.toList) los with
      | true => some (.dreg (los.filter (·.o.isAl)).length (cDls ops (predsOf ops.toList) los los 0))
      | false => none
def cCode (P : Program) (nt : Nat) : Code → Option Ac
  | .skip => some .skip
  | .region _ ops draw => cRegion P nt ops draw
  | .seq a b => match cCode P nt a, cCode P nt b with
    | some a, some b => some (.seq a b)
    | _, _ => none
  | .cond c a b => match cOd P c, cCode P nt a, cCode P nt b with
    | some c, some a, some b => some (.cond c a b)
    | _, _, _ => none
  | .block id b => (cCode P nt b).map (.blk id)
  | .loop b => (cCode P nt b).map .loop
  | .exit id => some (.exit id)
  | .ret => some .ret
  | _ => some (.reg [⟨none, .p .bad, none⟩])
def cRes : List ResultVar → List Rv
  | [] => []
  | .tmp n :: r => .t n :: cRes r
  | .cell a T :: r => .cell a T :: cRes r
def cFun (P : Program) (fn : Func) : Option AFun :=
  match fn.body with
  | none => none
  | some c => match cCode P fn.ntmps c with
    | some a => some ⟨a, cRes fn.results.toList, fn.ntmps⟩
    | none => none
def progOf (P : Program) (f : FuncId) : Option AFun :=
  match P.funcs[f]? with
  | some fn => cFun P fn
  | none => none

end Go.Proofs.YtaegmplbkbaniaaGreatDoor
