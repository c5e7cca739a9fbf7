/-
  THE ABSTRACT MACHINE, part 22 (written by wip/tools/tab.py out of parts 2 to 21): the same machine over tables that are quick to look up; that it is the same.
-/
import Derived.Test.YtkjkoejnicbieaaGreatAm21
import Derived.KernelRfl
namespace Go.Proofs.YtkjkoejnicbieaaGreat.AM
open Go Go.RowKit

structure Tab where
  info : TypeId → Option TypeInfo
  fn : FuncId → Option Func
  conc : TypeId → Bool
  eqg : TypeId → Bool
  held : TypeId → Bool

def Tab.und (T : Tab) (t : TypeId) : Option TypeDesc :=
  match T.info t with
  | some { desc := .named _ u, .. } => (T.info u).map (·.desc)
  | some i => some i.desc
  | none => none

def Tab.sz (T : Tab) (t : TypeId) : Option Nat := (T.info t).map (·.size)
def Tab.zero (T : Tab) (t : TypeId) : Option Value := (T.info t).bind (·.zero)

def Tab.of (P : Program) : Tab := ⟨fun t => P.info? t, fun f => P.funcs[f]?, P.concrete, P.eqGuardType P.depth, P.stoodInHeld⟩

def aggTB (T : Tab) (t : TypeId) : Option Bool :=
  match T.und t with
  | some (.struct _) | some (.array _ _) => some true
  | some _ => some false
  | none => none
theorem aggTB_eq (P : Program) : aggTB (Tab.of P) = aggT P := by kernel_rfl

def ldVarB (T : Tab) (hp : Tr AObj) (t : TypeId) (b o : Nat) : Option Value :=
  match aggTB T t with
  | some true => match T.sz t with
    | some n => (ldCells hp b o n).map fun vs => .agg vs.toArray
    | none => none
  | some false => ldCell hp b o
  | none => none
theorem ldVarB_eq (P : Program) : ldVarB (Tab.of P) = ldVar P := by kernel_rfl

def partAB (T : Tab) (t : TypeId) (cs : Array Value) (off : Nat) : Option Value :=
  match aggTB T t with
  | some true => match T.sz t with
    | some n => some (.agg ((cs.toList.drop off).take n).toArray)
    | none => none
  | some false => cs[off]?
  | none => none
theorem partAB_eq (P : Program) : partAB (Tab.of P) = partA P := by kernel_rfl

def eqFieldsAB (T : Tab) (eq : TypeId → Value → Value → Option Bool) (xs ys : Array Value) : List Field → Option Bool
  | [] => some true
  | f :: fs => if f.name ≠ "_" then
      match partAB T f.type xs f.offset, partAB T f.type ys f.offset with
      | some a, some b => match eq f.type a b with
        | some true => eqFieldsAB T eq xs ys fs
        | r => r
      | _, _ => none
    else eqFieldsAB T eq xs ys fs
theorem eqFieldsAB_eq (P : Program) : eqFieldsAB (Tab.of P) = eqFieldsA P := by kernel_rfl

def eqElemsAB (T : Tab) (eq : TypeId → Value → Value → Option Bool) (e : TypeId) (n : Nat) (xs ys : Array Value) : Nat → Nat → Option Bool
  | 0, _ => some true
  | m + 1, i => match partAB T e xs (i * n), partAB T e ys (i * n) with
      | some a, some b => match eq e a b with
        | some true => eqElemsAB T eq e n xs ys m (i + 1)
        | r => r
      | _, _ => none
theorem eqElemsAB_eq (P : Program) : eqElemsAB (Tab.of P) = eqElemsA P := by kernel_rfl

def eqInB (T : Tab) : Nat → TypeId → Value → Value → Option Bool
  | 0, _, _, _ => none
  | d + 1, t, x, y =>
    match T.und t, x, y with
    | some .bool, .bool a, .bool b => some (a == b)
    | some (.int _), .int k a, .int k' b => if k = k' then some (a == b) else none
    | some .string, .string a, .string b => some (strEq a.data.toList b.data.toList)
    | some (.struct fields), .agg xs, .agg ys => if T.held t then none else eqFieldsAB T (eqInB T d) xs ys fields.toList
    | some (.array len e), .agg xs, .agg ys => match T.sz e with
      | some n => eqElemsAB T (eqInB T d) e n xs ys len 0
      | none => none
    | _, _, _ => none
theorem eqInB_eq (P : Program) : eqInB (Tab.of P) = eqIn P := by kernel_rfl

def placeSB (T : Tab) (fields : Array Field) (i : Nat) : Option (Nat × Nat) :=
  match fields[i]? with
  | some f => match T.sz f.type with
    | some n => some (f.offset, n)
    | none => none
  | none => none
theorem placeSB_eq (P : Program) : placeSB (Tab.of P) = placeS P := by kernel_rfl

def sizesKnownB (T : Tab) : List Field → Bool
  | [] => true
  | f :: fs => match T.sz f.type with
    | some _ => sizesKnownB T fs
    | none => false
theorem sizesKnownB_eq (P : Program) : sizesKnownB (Tab.of P) = sizesKnown P := by kernel_rfl

def buildAB (T : Tab) (t : TypeId) (parts : List (Nat × Value)) : Option Value :=
  match T.zero t with
  | none => none
  | some z => bif cst 8 z then
      match T.und t with
      | some (.struct fields) => bif sizesKnownB T fields.toList then
          match fillA (placeSB T fields) z.cells.toList parts with
          | some cs => some (.agg cs.toArray)
          | none => none
        else none
      | some (.array _ elem) => match T.sz elem with
        | some n => match fillA (fun i => some (i * n, n)) z.cells.toList parts with
          | some cs => some (.agg cs.toArray)
          | none => none
        | none => none
      | _ => none
    else none
theorem buildAB_eq (P : Program) : buildAB (Tab.of P) = buildA P := by kernel_rfl

def sliceAB (T : Tab) (hp : Tr AObj) (t : TypeId) (x : Value) (lo hi mx : Option Value) : Option Value :=
  match T.und t with
  | some .string => match x with
    | .string s => match mx with
      | some _ => none
      | none => match boundsA s.size s.size lo hi none with
        | some (l, h, _) => some (.string ⟨((s.data.toList.drop l).take (h - l)).toArray⟩)
        | none => none
    | _ => none
  | some (.slice e) => match T.sz e with
    | none => none
    | some size => match x with
      | .slice none len cap => match boundsA len cap lo hi mx with
        | some (l, h, m) => some (.slice none (h - l) (m - l))
        | none => none
      | .slice (some ⟨b, o, none⟩) len cap =>
        bif Nat.blt cap OPEN then
          match boundsA len cap lo hi mx with
          | some (l, h, m) => bif Nat.beq m l then some (.slice (some ⟨b, o, none⟩) 0 0) else some (.slice (some ⟨b, o + l * size, none⟩) (h - l) (m - l))
          | none => none
        else bif Nat.beq cap OPEN && rowSz hp b == some size then
          match boundsA len len lo hi mx with
          | some (l, h, m) => match mx with
            | none => some (.slice (some ⟨b, o + l * size, none⟩) (h - l) OPEN)
            | some _ => bif Nat.beq m l then some (.slice (some ⟨b, o, none⟩) 0 0) else bif Nat.blt m OPEN then some (.slice (some ⟨b, o + l * size, none⟩) (h - l) (m - l)) else none
          | none => none
        else none
      | _ => none
  | some (.array n e) => match x with
    | .pointer (some ⟨b, o, none⟩) => match T.sz e with
      | none => none
      | some size => match boundsA n n lo hi mx with
        | some (l, h, m) => bif Nat.beq m l then some (.slice (some ⟨b, o, none⟩) 0 0) else bif Nat.blt m OPEN then some (.slice (some ⟨b, o + l * size, none⟩) (h - l) (m - l)) else none
        | none => none
    | _ => none
  | _ => none
theorem sliceAB_eq (P : Program) : sliceAB (Tab.of P) = sliceA P := by kernel_rfl

def fieldAddrAB (T : Tab) (s : TypeId) (x : Value) (field : Nat) : Option Value :=
  match T.und s with
  | some (.struct fields) => match fields[field]? with
    | some f => match T.sz f.type with
      | some (_ + 1) => match x with
        | .pointer (some ⟨b, o, none⟩) => some (.pointer (some ⟨b, o + f.offset, none⟩))
        | _ => none
      | _ => none
    | none => none
  | _ => none
theorem fieldAddrAB_eq (P : Program) : fieldAddrAB (Tab.of P) = fieldAddrA P := by kernel_rfl

def indexAddrAB (T : Tab) (t : TypeId) (x ix : Value) : Option Value :=
  match natV ix with
  | none => none
  | some i => match T.und t with
    | some (.slice e) => match x with
      | .slice (some ⟨b, o, none⟩) len _ => bif Nat.blt i len then
          match T.sz e with
          | some n => some (.pointer (some ⟨b, o + i * n, none⟩))
          | none => none
        else none
      | _ => none
    | some (.array len e) => match x with
      | .pointer (some ⟨b, o, none⟩) => bif Nat.blt i len then
          match T.sz e with
          | some n => some (.pointer (some ⟨b, o + i * n, none⟩))
          | none => none
        else none
      | _ => none
    | _ => none
theorem indexAddrAB_eq (P : Program) : indexAddrAB (Tab.of P) = indexAddrA P := by kernel_rfl

def fieldAB (T : Tab) (t : TypeId) (x : Value) (field : Nat) : Option Value :=
  match T.und t with
  | some (.struct fields) => match fields[field]? with
    | some f => match x with
      | .agg cs => partAB T f.type cs f.offset
      | _ => none
    | none => none
  | _ => none
theorem fieldAB_eq (P : Program) : fieldAB (Tab.of P) = fieldA P := by kernel_rfl

def indexAB (T : Tab) (t : TypeId) (x ix : Value) : Option Value :=
  match natV ix with
  | none => none
  | some i => match T.und t with
    | some .string => match x with
      | .string s => match s.data.toList[i]? with
        | some b => some (.int .u8 b.toNat)
        | none => none
      | _ => none
    | some (.array len e) => match x with
      | .agg cs => bif Nat.blt i len then
          match T.sz e with
          | some n => partAB T e cs (i * n)
          | none => none
        else none
      | _ => none
    | _ => none
theorem indexAB_eq (P : Program) : indexAB (Tab.of P) = indexA P := by kernel_rfl

def keyEqB (T : Tab) (kt : TypeId) (a b : Value) : Option Bool := eqInB T 10000 kt a b
theorem keyEqB_eq (P : Program) : keyEqB (Tab.of P) = keyEq P := by
  funext kt a b
  show eqInB (Tab.of P) 10000 kt a b = eqIn P 10000 kt a b
  rw [eqInB_eq]

def ckFieldsAB (T : Tab) (ck : TypeId → Value → Bool) (cs : Array Value) : List Field → Bool
  | [] => true
  | f :: fs => if f.name ≠ "_" then
      match partAB T f.type cs f.offset with
      | some a => bif ck f.type a then ckFieldsAB T ck cs fs else false
      | none => false
    else ckFieldsAB T ck cs fs
theorem ckFieldsAB_eq (P : Program) : ckFieldsAB (Tab.of P) = ckFieldsA P := by kernel_rfl

def ckElemsAB (T : Tab) (ck : TypeId → Value → Bool) (e : TypeId) (n : Nat) (cs : Array Value) : Nat → Nat → Bool
  | 0, _ => true
  | m + 1, i => match partAB T e cs (i * n) with
      | some a => bif ck e a then ckElemsAB T ck e n cs m (i + 1) else false
      | none => false
theorem ckElemsAB_eq (P : Program) : ckElemsAB (Tab.of P) = ckElemsA P := by kernel_rfl

def ckAB (T : Tab) : Nat → TypeId → Value → Bool
  | 0, _, _ => false
  | d + 1, t, v => match T.und t with
    | some (.struct fields) => match v with
      | .agg cs => ckFieldsAB T (ckAB T d) cs fields.toList
      | _ => false
    | some (.array len e) => match v with
      | .agg cs => match T.sz e with
        | some n => ckElemsAB T (ckAB T d) e n cs len 0
        | none => false
      | _ => false
    | some (.int _) | some .string | some .bool => true
    | _ => false
theorem ckAB_eq (P : Program) : ckAB (Tab.of P) = ckA P := by kernel_rfl

def hitsB (T : Tab) (kt : TypeId) (k : Value) : List (Value × Value) → Option (List Value)
  | [] => some []
  | (k0, v) :: r => bif cst 8 k0 then
      match keyEqB T kt k k0 with
      | some true => match hitsB T kt k r with
        | some l => some (v :: l)
        | none => none
      | some false => hitsB T kt k r
      | none => none
    else none
theorem hitsB_eq (P : Program) : hitsB (Tab.of P) = hits P := by
  funext kt k es
  induction es with
  | nil => rfl
  | cons e es ih =>
    obtain ⟨a, b⟩ := e
    simp only [hitsB, hits, keyEqB_eq, ih]
    kernel_rfl

def lookupAB (T : Tab) (hp : Tr AObj) (t : TypeId) (m k : Value) (ok : Bool) : Option Value :=
  match T.und t with
  | some (.map kt et) => bif cst 8 k && ckAB T 10000 kt k && (T.und kt).isSome then
      match mapAt hp m with
      | none => none
      | some es => match hitsB T kt k es with
        | some [v] => some (bif ok then .tuple #[v, .bool true] else v)
        | some [] => match T.zero et with
          | some z => bif cst 8 z then some (bif ok then .tuple #[z, .bool false] else z) else none
          | none => none
        | _ => none
    else none
  | _ => none
theorem lookupAB_eq (P : Program) : lookupAB (Tab.of P) = lookupA P := by
  unfold lookupAB lookupA
  simp only [ckAB_eq, hitsB_eq]
  kernel_rfl

def eqTopB (T : Tab) (t : TypeId) (x y : Value) : Option Bool :=
  match x, y with
  | .pointer none, .pointer b => match T.und t with
    | some (.pointer _) => some b.isNone
    | _ => none
  | .pointer (some _), .pointer none => match T.und t with
    | some (.pointer _) => some false
    | _ => none
  | .pointer (some ⟨b, o, none⟩), .pointer (some ⟨b2, o2, none⟩) => match T.und t with
    | some (.pointer e) => match T.sz e with
      | some (_ + 1) => bif Nat.beq b b2 then some (Nat.beq o o2) else none
      | _ => none
    | _ => none
  | .slice none _ _, .slice b _ _ => match T.und t with
    | some (.slice _) => some b.isNone
    | _ => none
  | .slice (some _) _ _, .slice none _ _ => match T.und t with
    | some (.slice _) => some false
    | _ => none
  | .map none, .map b => match T.und t with
    | some (.map _ _) => some b.isNone
    | _ => none
  | .map (some _), .map none => match T.und t with
    | some (.map _ _) => some false
    | _ => none
  | .nilFunc, .nilFunc => match T.und t with
    | some (.func _ _ _) => some true
    | _ => none
  | .nilFunc, .func _ _ _ | .func _ _ _, .nilFunc => match T.und t with
    | some (.func _ _ _) => some false
    | _ => none
  | .nilIface, .nilIface => match T.und t with
    | some (.interface _) => some true
    | _ => none
  | .nilIface, .iface _ _ | .iface _ _, .nilIface => match T.und t with
    | some (.interface _) => some false
    | _ => none
  | .iface tx _, .iface ty _ => match T.und t with
    | some (.interface _) => bif Nat.beq tx ty then none else some false
    | _ => none
  | .bool a, .bool b => eqInB T 10000 t (.bool a) (.bool b)
  | .agg a, .agg b => bif T.eqg t then none else eqInB T 10000 t (.agg a) (.agg b)
  | _, _ => none
theorem eqTopB_eq (P : Program) : eqTopB (Tab.of P) = eqTop P := by
  unfold eqTopB eqTop
  simp only [eqInB_eq]
  kernel_rfl

def guardOkB (T : Tab) (t : TypeId) (x : Value) : Bool :=
  match x with
  | .agg _ => !T.eqg t
  | _ => true
theorem guardOkB_eq (P : Program) : guardOkB (Tab.of P) = guardOk P := by kernel_rfl

def binAB (T : Tab) (op : BinOp) (t : TypeId) (xc yc : Bool) (x y : Value) : Option Value :=
  match x, y with
  | .int k a, .int k' b => binInt op k a k' b
  | .string a, .string b => binStr op a b
  | .nilIface, .nilIface => bif xc || yc then eqOp op (eqTopB T t .nilIface .nilIface) else none
  | x, y => bif guardOkB T t x then eqOp op (eqTopB T t x y) else none
theorem binAB_eq (P : Program) : binAB (Tab.of P) = binA P := by
  unfold binAB binA
  simp only [eqTopB_eq]
  kernel_rfl

def convAB (T : Tab) (hp : Tr AObj) (src dst : TypeId) (x : Value) : Option Value :=
  match T.und src, T.und dst with
  | some _, some (.int k) => match x with
    | .int _ n => some (.int k (k.wrap n))
    | _ => none
  | some d, some .string => match x with
    | .string s => some (.string s)
    | .int _ n => some (.string (Utf8.encode n))
    | .slice ba n _ => match d with
      | .slice e => match T.und e with
        | some (.int .u8) => sliceStr hp ba n
        | _ => none
      | _ => none
    | _ => none
  | some (.pointer t), some .unsafePointer => match x with
    | .pointer none => some x
    | .pointer (some ⟨b, o, none⟩) => match ldCell hp b o, T.sz t with
      | some _, some (_ + 1) => some x
      | _, _ => none
    | _ => none
  | some .unsafePointer, some (.pointer u) => match x with
    | .pointer none => some x
    | .pointer (some ⟨b, o, none⟩) => match headAt hp b o, T.sz u with
      | some (e, n), some (m + 1) => bif Nat.beq e u && Nat.ble (m + 1) n then some x else none
      | _, _ => none
    | _ => none
  | _, _ => none
theorem convAB_eq (P : Program) : convAB (Tab.of P) = convA P := by kernel_rfl

def lenAB (T : Tab) (hp : Tr AObj) (t : TypeId) (x : Value) : Option Value :=
  match T.und t with
  | some .string => match x with
    | .string s => some (.int .i64 s.size)
    | _ => none
  | some (.array n _) => some (.int .i64 n)
  | some (.slice _) => match x with
    | .slice _ n _ => some (.int .i64 n)
    | _ => none
  | some (.map _ _) => match mapAt hp x with
    | some es => some (.int .i64 es.length)
    | none => none
  | some (.pointer a) => match T.und a with
    | some (.array n _) => some (.int .i64 n)
    | _ => none
  | _ => none
theorem lenAB_eq (P : Program) : lenAB (Tab.of P) = lenA P := by kernel_rfl

def buildSliceAB (T : Tab) (nx : Nat) (t : TypeId) (len : Nat) (parts : List (Nat × Value)) : Option (Value × AObj) :=
  match T.und t with
  | some (.slice e) => match T.sz e, T.zero e with
    | some size, some z => bif cst 8 z && Nat.beq z.cells.size size && Nat.blt 0 size && Nat.ble (len * size) 16777216 then
        match fillA (fun i => some (i * size, size)) (rep z.cells.toList len) parts with
        | some cs => some (.slice (some ⟨nx, 0, none⟩) len len, .cells cs e size 0 false true)
        | none => none
      else none
    | _, _ => none
  | _ => none
theorem buildSliceAB_eq (P : Program) : buildSliceAB (Tab.of P) = buildSliceA P := by kernel_rfl

def makeSliceAB (T : Tab) (nx : Nat) (t : TypeId) (l c : Value) : Option (Value × AObj) :=
  match T.und t with
  | some (.slice e) => match natV l, natV c, T.info e with
    | some len, some cap, some i => match i.zero with
      | some z => bif cst 8 z && Nat.beq z.cells.size i.size && Nat.blt 0 i.size && Nat.blt 0 i.bytes && Nat.ble len cap && Nat.ble (i.bytes * cap) 281474976710656 then
          some (.slice (some ⟨nx, 0, none⟩) len cap, .cells (rep z.cells.toList cap) e i.size 0 false true)
        else none
      | none => none
    | _, _, _ => none
  | _ => none
theorem makeSliceAB_eq (P : Program) : makeSliceAB (Tab.of P) = makeSliceA P := by kernel_rfl

def strBytesAB (T : Tab) (nx : Nat) (src dst : TypeId) (x : Value) : Option (Value × AObj) :=
  match T.und dst with
  | some (.slice e) => match T.und e with
    | some (.int .u8) => match T.sz e, T.und src with
      | some 1, some .string => match x with
        | .string s => bif Nat.blt s.size 140737488355328 then some (.slice (some ⟨nx, 0, none⟩) s.size OPEN, .cells (s.data.toList.map fun b => .int .u8 b.toNat) e 1 18446744073709551616 true true) else none
        | _ => none
      | _, _ => none
    | _ => none
  | _ => none
theorem strBytesAB_eq (P : Program) : strBytesAB (Tab.of P) = strBytesA P := by kernel_rfl

def qopB (T : Tab) (ev : Operand → Option Value) (hp : Tr AObj) (nx : Nat) (op : Op) : Option QR :=
  match op with
  | .move x | .assign x => match ev x with
    | some v => some (.same v)
    | none => none
  | .pick c a b => match ev c, ev a, ev b with
    | some (.bool t), some u, some v => some (.same (bif t then u else v))
    | _, _, _ => none
  | .alloc t => match T.zero t, T.sz t with
    | some z, some n => bif cst 8 z then some (.new (ptrTo nx) (.cells z.cells.toList t n 0 false true)) else none
    | _, _ => none
  | .box t x => match ev x, T.sz t with
    | some v, some n => some (.new (ptrTo nx) (.cells v.cells.toList t n 0 false true))
    | _, _ => none
  | .build t ps => match evP ev ps.toList with
    | some parts => match buildAB T t parts with
      | some v => some (.same v)
      | none => none
    | none => none
  | .buildSlice t len ps => match evP ev ps.toList with
    | some parts => match buildSliceAB T nx t len parts with
      | some (v, ob) => some (.new v ob)
      | none => none
    | none => none
  | .load t a => match ev a with
    | some (.pointer (some ⟨b, o, none⟩)) => match ldVarB T hp t b o with
      | some v => some (.same v)
      | none => none
    | _ => none
  | .nilCheck x => match ev x with
    | some (.pointer (some a)) => some (.same (.pointer (some a)))
    | some (.func f as cs) => some (.same (.func f as cs))
    | some (.iface t v) => some (.same (.iface t v))
    | _ => none
  | .binOp op t x y _ => match ev x, ev y with
    | some u, some v => match binAB T op t (constO x) (constO y) u v with
      | some r => some (.same r)
      | none => none
    | _, _ => none
  | .unOp op _ x => match ev x with
    | some u => match unA op u with
      | some r => some (.same r)
      | none => none
    | none => none
  | .convert s d x => match ev x with
    | some u => match strBytesAB T nx s d u with
      | some (v, ob) => some (.new v ob)
      | none => match convAB T hp s d u with
        | some r => some (.same r)
        | none => none
    | none => none
  | .makeInterface t x => match ev x, T.conc t with
    | some u, true => some (.same (.iface t u))
    | _, _ => none
  | .makeFunc (.func f) first captured => match evL ev first.toList, evL ev captured.toList with
    | some as, some cs => some (.same (.func (.func f) as.toArray cs.toArray))
    | _, _ => none
  | .makeMap _ none => some (.new (.map (some nx)) (.map [] 0))
  | .makeSlice t l c => match ev l, ev c with
    | some u, some v => match makeSliceAB T nx t u v with
      | some (v, ob) => some (.new v ob)
      | none => none
    | _, _ => none
  | .slice t x lo hi mx => match ev x, evO ev lo, evO ev hi, evO ev mx with
    | some u, some l, some h, some m => match sliceAB T hp t u l h m with
      | some r => some (.same r)
      | none => none
    | _, _, _, _ => none
  | .fieldAddr t x f => match ev x with
    | some u => match fieldAddrAB T t u f with
      | some r => some (.same r)
      | none => none
    | none => none
  | .field t x f => match ev x with
    | some u => match fieldAB T t u f with
      | some r => some (.same r)
      | none => none
    | none => none
  | .indexAddr t x i => match ev x, ev i with
    | some u, some v => match indexAddrAB T t u v with
      | some r => some (.same r)
      | none => none
    | _, _ => none
  | .index t x i => match ev x, ev i with
    | some u, some v => match indexAB T t u v with
      | some r => some (.same r)
      | none => none
    | _, _ => none
  | .lookup t m k ok => match ev m, ev k with
    | some u, some v => match lookupAB T hp t u v ok with
      | some r => some (.same r)
      | none => none
    | _, _ => none
  | .extract t i => match ev t with
    | some u => match extractA u i with
      | some r => some (.same r)
      | none => none
    | none => none
  | .range t x => match ev x, T.und t with
    | some (.string s), some .string => some (.new (ptrTo nx) (.siter s 0))
    | some (.map none), some (.map _ _) => some (.new (ptrTo nx) (.iter none 0 []))
    | some (.map (some r)), some (.map _ _) => match hp.get r with
      | some (.map _ ck) => some (.new (ptrTo nx) (.iter (some r) ck []))
      | _ => none
    | _, _ => none
  | .call ⟨.builtin .len, args, ts⟩ => match args.toList, ts.toList with
    | [x], [t] => match ev x with
      | some u => match lenAB T hp t u with
        | some r => some (.same r)
        | none => none
      | none => none
    | _, _ => none
  | .call ⟨.builtin .min, args, _⟩ => match evL ev args.toList with
    | some [u, v] => match minA u v with
      | some r => some (.same r)
      | none => none
    | _ => none
  | .call ⟨.builtin .max, args, _⟩ => match evL ev args.toList with
    | some [u, v] => match maxA u v with
      | some r => some (.same r)
      | none => none
    | _ => none
  | .call ⟨.builtin .unsafeSliceData, args, _⟩ => match evL ev args.toList with
    | some [.slice none _ _] => some (.same (.pointer none))
    | some [.slice (some ⟨b, o, none⟩) (_ + 1) (_ + 1)] => some (.same (.pointer (some ⟨b, o, none⟩)))
    | _ => none
  | _ => none
theorem qopB_eq (P : Program) : qopB (Tab.of P) = qop P := by
  unfold qopB qop
  simp only [binAB_eq, lookupAB_eq]
  kernel_rfl

def storeAB (T : Tab) (hp : Tr AObj) (t : TypeId) (a v : Value) : Option (Tr AObj) :=
  match a with
  | .pointer (some ⟨b, o, none⟩) => match T.sz t with
    | some n => bif Nat.beq v.cells.size n then stCells hp b o v.cells.toList else none
    | none => none
  | _ => none
theorem storeAB_eq (P : Program) : storeAB (Tab.of P) = storeA P := by kernel_rfl

def updAB (T : Tab) (kt : TypeId) (k v : Value) : List (Value × Value) → Option (List (Value × Value))
  | [] => some []
  | (k0, v0) :: r => match updAB T kt k v r with
    | none => none
    | some r' => match keyEqB T kt k k0 with
      | some true => bif Instr.sameBits 10000 k0 k then some ((k, v) :: r') else none
      | _ => some ((k0, v0) :: r')
theorem updAB_eq (P : Program) : updAB (Tab.of P) = updA P := by
  funext kt k v es
  induction es with
  | nil => rfl
  | cons e es ih =>
    obtain ⟨a, b⟩ := e
    simp only [updAB, updA, keyEqB_eq, ih]
    kernel_rfl

def mapUpdateAB (T : Tab) (hp : Tr AObj) (t : TypeId) (m k v : Value) : Option (Tr AObj) :=
  match T.und t with
  | some (.map kt _) => match m with
    | .map (some r) => match hp.get r with
      | some (.map es ck) => bif cst 8 k && ckAB T 10000 kt k && (T.und kt).isSome then
          match hitsB T kt k es with
          | some [] => some (hp.set r (some (.map (es ++ [(k, v)]) (ck + 1))))
          | some [_] => match updAB T kt k v es with
            | some es2 => some (hp.set r (some (.map es2 ck)))
            | none => none
          | _ => none
        else none
      | _ => none
    | _ => none
  | _ => none
theorem mapUpdateAB_eq (P : Program) : mapUpdateAB (Tab.of P) = mapUpdateA P := by
  unfold mapUpdateAB mapUpdateA
  simp only [updAB_eq, ckAB_eq, hitsB_eq]
  kernel_rfl

def appAB (T : Tab) (hp : Tr AObj) (nx : Nat) (t u : TypeId) (s x : Value) : Option Out :=
  match T.und t with
  | some (.slice e) => match T.und u with
    | none | some (.int _) => none
    | some _ => match T.info e with
      | none => none
      | some i => match i.zero with
        | none => none
        | some z => match srcA hp i.size x with
          | none => none
          | some (n, vs) => bif Nat.blt 0 i.size && Nat.beq z.cells.size i.size && cst 8 z then
            match s with
            | .slice none 0 cap =>
              bif Nat.beq n 0 then some ⟨some (.slice none 0 cap), hp, nx⟩
              else bif Nat.blt cap n && Nat.ble (n * i.bytes) 140737488355328 && Nat.ble n 140737488355328 then
                some ⟨some (.slice (some ⟨nx, 0, none⟩) n OPEN), hp.set nx (some (.cells vs e i.size 0 false true)), nx + 1⟩
              else none
            | .slice (some ⟨b, o, none⟩) len cap =>
              bif Nat.beq n 0 then bif Nat.ble len cap then some ⟨some s, hp, nx⟩ else none
              else bif Nat.ble ((len + n) * i.bytes) 140737488355328 && Nat.ble (len + n) 140737488355328 then
                bif Nat.blt cap OPEN then
                  bif Nat.ble (len + n) cap then
                    match stCells hp b (o + len * i.size) vs with
                    | some hp' => some ⟨some (.slice (some ⟨b, o, none⟩) (len + n) cap), hp', nx⟩
                    | none => none
                  else match oldA hp i.size b o len with
                    | some olds => some ⟨some (.slice (some ⟨nx, 0, none⟩) (len + n) OPEN), hp.set nx (some (.cells (olds ++ vs) e i.size 0 false true)), nx + 1⟩
                    | none => none
                else bif Nat.beq cap OPEN then
                  match hp.get b with
                  | some (.cells c e' sz fz false hd) => bif Nat.beq sz i.size && Nat.beq e' e then
                      bif Nat.blt 0 len && Nat.ble (o + (len + n) * i.size) c.length then
                        match stCells hp b (o + len * i.size) vs with
                        | some hp' => some ⟨some (.slice (some ⟨b, o, none⟩) (len + n) OPEN), hp', nx⟩
                        | none => none
                      else bif Nat.ble fz (bif Nat.beq len 0 then 0 else o + len * i.size) && allOne vs then
                        match oldA hp i.size b o len with
                        | some olds => some ⟨some (.slice (some ⟨nx, 0, none⟩) (len + n) OPEN),
                            (hp.set b none).set nx (some (.cells (olds ++ vs) e i.size (bif Nat.beq len 0 then 0 else fz - o) false (hd && Nat.beq o 0 && Nat.blt 0 len))), nx + 1⟩
                        | none => none
                      else none
                    else none
                  | _ => none
                else none
              else none
            | _ => none
          else none
  | _ => none
theorem appAB_eq (P : Program) : appAB (Tab.of P) = appA P := by kernel_rfl

def strAB (T : Tab) (hp : Tr AObj) (pt : TypeId) (p n : Value) : Option (Value × Tr AObj) :=
  match natV n with
  | some 0 => match p with
    | .pointer _ => some (.string ⟨#[]⟩, hp)
    | _ => none
  | some (m + 1) => match T.und pt with
    | some (.pointer e) => match T.sz e with
      | some 1 => match p with
        | .pointer (some ⟨b, o, none⟩) => match hp.get b with
          | some (.cells c e' sz fz false hd) => bif Nat.beq e' e && Nat.ble (o + (m + 1)) c.length && Nat.blt m 4611686018427387904 then
              match bytesOf ((c.drop o).take (m + 1)) with
              | some bs => some (.string ⟨bs.toArray⟩, hp.set b (some (.cells c e' sz (max fz (o + (m + 1))) false hd)))
              | none => none
            else none
          | _ => none
        | _ => none
      | _ => none
    | _ => none
  | none => none
theorem strAB_eq (P : Program) : strAB (Tab.of P) = strA P := by kernel_rfl

def copyAB (T : Tab) (hp : Tr AObj) (t : TypeId) (d x : Value) : Option (Value × Tr AObj) :=
  match T.und t with
  | some (.slice e) => match T.sz e with
    | some size => match srcA hp size x with
      | some (n, vs) => match d with
        | .slice (some ⟨b, o, none⟩) len _ =>
          bif Nat.ble n len then
            bif Nat.beq n 0 then some (.int .i64 0, hp)
            else match stCells hp b o vs with
              | some hp' => some (.int .i64 n, hp')
              | none => none
          else none
        | _ => none
      | none => none
    | none => none
  | _ => none
theorem copyAB_eq (P : Program) : copyAB (Tab.of P) = copyA P := by kernel_rfl

def lopB (T : Tab) (ev : Operand → Option Value) (hp : Tr AObj) (nx : Nat) (op : Op) : Option (List Out) :=
  match op with
  | .store t a x => match ev a, ev x with
    | some u, some v => match storeAB T hp t u v with
      | some hp' => some [⟨none, hp', nx⟩]
      | none => none
    | _, _ => none
  | .mapUpdate t m k x | .insert t m k x => match ev m, ev k, ev x with
    | some u, some v, some z => match mapUpdateAB T hp t u v z with
      | some hp' => some [⟨none, hp', nx⟩]
      | none => none
    | _, _, _ => none
  | .next it isStr => match ev it with
    | some u => match nextA hp u isStr with
      | some l => some (l.map fun r => ⟨some r.1, r.2, nx⟩)
      | none => none
    | none => none
  | .entry it => match ev it with
    | some u => match entryA hp u with
      | some r => some [⟨some r, hp, nx⟩]
      | none => none
    | none => none
  | .call ⟨.builtin .append, args, ts⟩ => match evL ev args.toList, ts.toList with
    | some [u, v], [t1, t2] => match appAB T hp nx t1 t2 u v with
      | some o => some [o]
      | none => none
    | _, _ => none
  | .call ⟨.builtin .unsafeString, args, ts⟩ => match evL ev args.toList, ts.toList with
    | some [u, v], [t1, _] => match strAB T hp t1 u v with
      | some (r, hp') => some [⟨some r, hp', nx⟩]
      | none => none
    | _, _ => none
  | .call ⟨.builtin .copy, args, ts⟩ => match evL ev args.toList, ts.toList with
    | some [u, v], [t1, _] => match copyAB T hp t1 u v with
      | some (r, hp') => some [⟨some r, hp', nx⟩]
      | none => none
    | _, _ => none
  | _ => none
theorem lopB_eq (P : Program) : lopB (Tab.of P) = lop P := by
  unfold lopB lop
  simp only [mapUpdateAB_eq]
  kernel_rfl

def bigFieldB (T : Tab) (t : TypeId) (f : Nat) : Bool :=
  match T.und t with
  | some (.struct fs) => match fs[f]? with
    | some x => match T.sz x.type with
      | some (_ + 1) => true
      | _ => false
    | none => false
  | _ => false
theorem bigFieldB_eq (P : Program) : bigFieldB (Tab.of P) = bigField P := by kernel_rfl

def freeKB (T : Tab) (op : Op) : Bool :=
  match op with
  | .move _ | .assign _ | .pick _ _ _ | .field _ _ _ | .extract _ _ | .indexAddr _ _ _ | .index _ _ _ | .slice _ _ _ _ _ | .unOp _ _ _ | .binOp _ _ _ _ _ => true
  | .build _ _ | .makeFunc _ _ _ | .makeInterface _ _ | .nilCheck _ => true
  | .fieldAddr t _ f => bigFieldB T t f
  | _ => false
theorem freeKB_eq (P : Program) : freeKB (Tab.of P) = freeK P := by kernel_rfl

def canFreeB (T : Tab) (ops : Array Oper) (listed : Array Bool) (i : Nat) : Bool :=
  (match ops[i]? with
   | some o => freeKB T o.op
   | none => false) && apt ops listed false i
theorem canFreeB_eq (P : Program) : canFreeB (Tab.of P) = canFree P := by kernel_rfl

def methodAB (T : Tab) (t : TypeId) (v : Value) (name : String) : Option (FuncId × Value) :=
  match T.info t with
  | some i => match i.methods.find? (·.name == name) with
    | some m => match m.path.toList, m.func with
      | [], some (f, pr) => match T.und t, pr with
        | some (.pointer _), true => some (f, v)
        | some (.pointer _), false => none
        | some _, false => some (f, v)
        | _, _ => none
      | _, _ => none
    | none => none
  | none => none
theorem methodAB_eq (P : Program) : methodAB (Tab.of P) = methodA P := by kernel_rfl

def loudAB (T : Tab) (ev : Operand → Option Value) (cf : CF) (hp : Tr AObj) (nx : Nat) (op : Op) : Option (List Out) :=
  match op with
  | .call ⟨.value x, args, _⟩ => match ev x with
    | some (.func (.func f) fi ca) => match evL ev args.toList with
      | some l => cf f (fi.toList ++ l ++ ca.toList) hp nx
      | none => none
    | _ => none
  | .call ⟨.invoke x name, args, _⟩ => match ev x with
    | some (.iface t v) => match methodAB T t v name with
      | some (f, r) => match evL ev args.toList with
        | some l => cf f (r :: l) hp nx
        | none => none
      | none => none
    | _ => none
  | op => lopB T ev hp nx op
theorem loudAB_eq (P : Program) : loudAB (Tab.of P) = loudA P := by
  unfold loudAB loudA
  simp only [lopB_eq]
  kernel_rfl

def runOpB (T : Tab) (ev : Operand → Option Value) (cf : CF) (hp : Tr AObj) (nx : Nat) (op : Op) : Option (List Out) :=
  bif quietK op then match qopB T ev hp nx op with
    | some (.same v) => some [⟨some v, hp, nx⟩]
    | some (.new v ob) => some [⟨some v, hp.set nx (some ob), nx + 1⟩]
    | none => none
  else loudAB T ev cf hp nx op
theorem runOpB_eq (P : Program) : runOpB (Tab.of P) = runOp P := by
  unfold runOpB runOp
  simp only [qopB_eq, loudAB_eq]
  kernel_rfl

def opOB (T : Tab) (G nt : Nat) (cf : CF) (ops : Array Oper) (o : Oper) (st : St) : Option (List St) :=
  bif dstOk nt o.dst then
    match wantA ops st.tm o with
    | some true => match runOpB T (aev G st.tm) cf st.hp st.nx o.op with
      | some outs => some (outs.map (stepped st o.dst))
      | none => match dfr (aev G st.tm) o.op with
        | some d => some [(stepped st o.dst ⟨none, st.hp, st.nx⟩).push d]
        | none => none
    | some false => some [stepped st o.dst ⟨none, st.hp, st.nx⟩]
    | none => none
  else none
theorem opOB_eq (P : Program) : opOB (Tab.of P) = opO P := by
  unfold opOB opO
  simp only [runOpB_eq]
  kernel_rfl

def opAB (T : Tab) (G nt : Nat) (cf : CF) (ops : Array Oper) (i : Nat) (st : St) : Option (List St) :=
  match ops[i]? with
  | none => some [st]
  | some o => opOB T G nt cf ops o st
theorem opAB_eq (P : Program) : opAB (Tab.of P) = opA P := by
  unfold opAB opA
  simp only [opOB_eq]
  kernel_rfl

def seqAB (T : Tab) (G nt : Nat) (cf : CF) (ops : Array Oper) : List Oper → St → Option (List St)
  | [], st => some [st]
  | o :: os, st => match opOB T G nt cf ops o st with
    | some [st'] => seqAB T G nt cf ops os st'
    | some outs => andAll (seqAB T G nt cf ops os) outs
    | none => none
theorem seqAB_eq (P : Program) : seqAB (Tab.of P) = seqA P := by
  funext G nt cf ops os
  induction os with
  | nil => rfl
  | cons o os ih =>
    funext st
    simp only [seqAB, seqA, opOB_eq, ih]
    kernel_rfl

def takeAB (T : Tab) (G nt : Nat) (ops : Array Oper) (i : Nat) (st : St) : Option St :=
  match ops[i]? with
  | none => none
  | some o => bif dstOk nt o.dst && quietK o.op then
      match wantA ops st.tm o with
      | some true => match qopB T (aev G st.tm) st.hp st.nx o.op with
        | some (.same v) => some (stepped st o.dst ⟨some v, st.hp, st.nx⟩)
        | _ => none
      | some false => some (stepped st o.dst ⟨none, st.hp, st.nx⟩)
      | none => none
    else none
theorem takeAB_eq (P : Program) : takeAB (Tab.of P) = takeA P := by
  unfold takeAB takeA
  simp only [qopB_eq]
  kernel_rfl

def anyAB (T : Tab) (G nt : Nat) (cf : CF) (ops : Array Oper) : Nat → Array Bool → St → Option (List St)
  | 0, listed, st => match rdy ops listed with
    | [] => some [st]
    | _ :: _ => none
  | n + 1, listed, st => match (rdy ops listed).find? (canFreeB T ops listed) with
    | some i => match takeAB T G nt ops i st with
      | some st' => anyAB T G nt cf ops n (listed.setIfInBounds i true) st'
      | none => none
    | none => match (rdy ops listed).find? (canStable ops listed) with
      | some i => match takeAB T G nt ops i st with
        | some st' => anyAB T G nt cf ops n (listed.setIfInBounds i true) st'
        | none => none
      | none => match rdy ops listed with
        | [] => some [st]
        | i :: is => onceO (andAll (fun i => match opAB T G nt cf ops i st with
          | some outs => andAll (anyAB T G nt cf ops n (listed.setIfInBounds i true)) outs
          | none => none) (i :: is))
theorem anyAB_eq (P : Program) : anyAB (Tab.of P) = anyA P := by
  funext G nt cf ops n
  induction n with
  | zero => rfl
  | succ n ih =>
    funext listed st
    simp only [anyAB, anyA, opAB_eq, takeAB_eq, canFreeB_eq, ih]
    kernel_rfl

def regAB (T : Tab) (G nt : Nat) (cf : CF) (ops : Array Oper) (draw : Bool) (st : St) : Option (List St) :=
  bif draw then bif noSel ops then anyAB T G nt cf ops ops.size (Array.replicate ops.size false) st else none
  else seqAB T G nt cf ops ops.toList st
theorem regAB_eq (P : Program) : regAB (Tab.of P) = regA P := by
  unfold regAB regA
  simp only [anyAB_eq, seqAB_eq]

def codeAB (T : Tab) (G nt : Nat) (cf : CF) : Nat → Code → St → Option (List Co)
  | 0, _, _ => none
  | n + 1, c, st => match c with
    | .skip | .label _ => some [⟨.normal, st⟩]
    | .region _ ops draw => match regAB T G nt cf ops draw st with
      | some outs => some (outs.map Co.normal)
      | none => none
    | .seq a b => match codeAB T G nt cf n a st with
      | some outs => andAll (fun o => match o.ex with
        | .normal => codeAB T G nt cf n b o.st
        | _ => some [o]) outs
      | none => none
    | .cond c x y => match aev G st.tm c with
      | some (.bool t) => codeAB T G nt cf n (bif t then x else y) st
      | _ => none
    | .block id b => match codeAB T G nt cf n b st with
      | some outs => some (outs.map (inBlk id))
      | none => none
    | .loop b => match codeAB T G nt cf n b st with
      | some outs => andAll (fun o => match o.ex with
        | .normal => codeAB T G nt cf n (.loop b) o.st
        | _ => some [o]) outs
      | none => none
    | .exit id => some [⟨.exit id, st⟩]
    | .scope b => match codeAB T G nt cf n b st with
      | some outs => bif outs.all noGo then some outs else none
      | none => none
    | .goto l => some [⟨.goto l, st⟩]
    | .ret => some [⟨.ret, st⟩]
    | _ => none
theorem codeAB_eq (P : Program) : codeAB (Tab.of P) = codeA P := by
  funext G nt cf n
  induction n with
  | zero => rfl
  | succ n ih =>
    funext c st
    cases c <;> first
      | (simp only [codeAB, codeA, regAB_eq, ih]; done)
      | (simp only [codeAB, codeA, regAB_eq, ih]; kernel_rfl)

def resVB (T : Tab) (tm : Tr Value) (hp : Tr AObj) : List ResultVar → Option (List Value)
  | [] => some []
  | .tmp t :: rs => match tm.get t with
    | some v => match resVB T tm hp rs with
      | some vs => some (v :: vs)
      | none => none
    | none => none
  | .cell a t :: rs => match tm.get a with
    | some (.pointer (some ⟨b, o, none⟩)) => match ldVarB T hp t b o with
      | some v => match resVB T tm hp rs with
        | some vs => some (v :: vs)
        | none => none
      | none => none
    | _ => none
theorem resVB_eq (P : Program) : resVB (Tab.of P) = resV P := by kernel_rfl

def retsNB (T : Tab) (fn : Func) : List Co → Option (List Out)
  | [] => some []
  | o :: os => match o.ex, o.st.df with
    | .normal, [] | .ret, [] => match resVB T o.st.tm o.st.hp fn.results.toList with
      | some vs => match retsNB T fn os with
        | some rs => some (⟨some (packV vs), o.st.hp, o.st.nx⟩ :: rs)
        | none => none
      | none => none
    | _, _ => none
theorem retsNB_eq (P : Program) : retsNB (Tab.of P) = retsN P := by kernel_rfl

def outsVB (T : Tab) (fn : Func) (tm : Tr Value) : List (Tr AObj × Nat) → Option (List Out)
  | [] => some []
  | m :: ms => match resVB T tm m.1 fn.results.toList with
    | some vs => match outsVB T fn tm ms with
      | some rs => some (⟨some (packV vs), m.1, m.2⟩ :: rs)
      | none => none
    | none => none
theorem outsVB_eq (P : Program) : outsVB (Tab.of P) = outsV P := by kernel_rfl

def retsB (T : Tab) (fn : Func) (cd : CF) : List Co → Option (List Out)
  | [] => some []
  | o :: os => match o.ex with
    | .normal | .ret => match runDf cd o.st.df o.st.hp o.st.nx with
      | some ms => match outsVB T fn o.st.tm ms with
        | some r1 => match retsB T fn cd os with
          | some rs => some (r1 ++ rs)
          | none => none
        | none => none
      | none => none
    | _ => none
theorem retsB_eq (P : Program) : retsB (Tab.of P) = rets P := by kernel_rfl

def dCallB (T : Tab) (G fuel : Nat) (cf : CF) : CF := fun f l hp nx =>
  match T.fn f with
  | none => none
  | some fn => match fn.body with
    | none => none
    | some c => bif Nat.ble l.length fn.ntmps then
        match codeAB T G fn.ntmps cf fuel c ⟨entryT l 0 .nil, hp, nx, []⟩ with
        | some outs => retsNB T fn outs
        | none => none
      else none
theorem dCallB_eq (P : Program) : dCallB (Tab.of P) = dCall P := by
  unfold dCallB dCall
  simp only [codeAB_eq]
  kernel_rfl

def callAB (T : Tab) (G fuel : Nat) (xf : XF) : Nat → CF
  | 0, _, _, _, _ => none
  | n + 1, f, l, hp, nx => match T.fn f with
    | none => none
    | some fn => match fn.body with
      | none => xf f l hp nx
      | some c => bif Nat.ble l.length fn.ntmps then
          match codeAB T G fn.ntmps (callAB T G fuel xf n) fuel c ⟨entryT l 0 .nil, hp, nx, []⟩ with
          | some outs => retsB T fn (dCallB T G fuel (callAB T G fuel xf n)) outs
          | none => none
        else none
theorem callAB_eq (P : Program) : callAB (Tab.of P) = callA P := by
  funext G fuel xf n
  induction n with
  | zero => rfl
  | succ n ih =>
    funext f l hp nx
    simp only [callAB, callA, codeAB_eq, retsB_eq, dCallB_eq, ih]
    kernel_rfl

end Go.Proofs.YtkjkoejnicbieaaGreat.AM
