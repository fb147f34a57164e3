import Derived.RangeFuncLeaves
import Derived.Orders
import Derived.Below
import Derived.KernelRfl
import Derived.Still
import Derived.Scope
import Derived.Maps.RangeRun
set_option linter.unusedVariables false
set_option linter.unusedSimpArgs false
namespace Wb
open Go Go.RowKit
abbrev Key := List Nat × Nat
inductive PV where
 | int (k : IntKind) (n : Int)
 | bool (b : Bool)
 | undef
 | tnt (p : Prop) (v : PV)
 | sl (rows : List (List PV)) (ex : Bool)
 | sref (K : Key) (v sz n : Nat) (ex : Bool)
 | aref (K : Key) (v off sz n : Nat)
 | ref (K : Key) (v off : Nat)
 | rref (K : Key) (v sz i : Nat) (d : List PV) (off : Nat)
 | eref (row : List PV) (off : Nat)
 | gref (g off : Nat)
 | agg (cs : List PV)
 | tup (vs : List PV)
 | mref (K : Key) (v : Nat)
 | mp (ag : Bool) (kl : Nat) (es : List (List Int × PV))
 | fn (f : Nat) (first cap : List PV)
 | yld (K : Key) (v : Nat)
 | nilfn
 | nilmap
 | nilptr
 deriving Inhabited
structure Rec where
 st : LoopState
 pending : Option Code
 fn : Nat
 params : List Nat
 assign : Code
 body : Code
 tmps : List PV
inductive PB where
 | cells (cs : List PV) (v : Nat) (ro : Bool)
 | rows (sz : Nat) (rs : List (List PV)) (v : Nat) (ro : Bool)
 | map (ag : Bool) (kl : Nat) (es : List (List Int × PV)) (v : Nat) (ro : Bool)
 | loop (r : Rec) (v : Nat)
 /-- A loop over a map that nobody writes any more: which entries are left, and the one at hand. -/
 | iter (ag : Bool) (left : List (List Int × PV)) (cur : Option (List Int × PV)) (v : Nat)
def PB.ver : PB → Nat
 | .cells _ v _ => v
 | .rows _ _ v _ => v
 | .map _ _ _ v _ => v
 | .loop _ v => v
 | .iter _ _ _ v => v
def PB.ro : PB → Bool
 | .cells _ _ r => r
 | .rows _ _ _ r => r
 | .map _ _ _ _ r => r
 | .loop _ _ => false
 | .iter _ _ _ _ => false
def PB.mark : PB → PB
 | .cells cs v _ => .cells cs v true
 | .rows sz rs v _ => .rows sz rs v true
 | .map ag kl es v _ => .map ag kl es v true
 | .loop r v => .loop r v
 | .iter ag l c v => .iter ag l c v
abbrev Heap := Key → Option PB
def Heap.set (H : Heap) (K : Key) (b : PB) : Heap := fun K' => if K' = K then some b else H K'
def verOf (H : Heap) (K : Key) : Nat := match H K with | some b => b.ver | none => 0
def Heap.empty : Heap := fun _ => none
inductive Prg (α : Type) where
 | ret (a : α)
 | get (K : Key) (k : Option PB → Prg α)
 | alc (K : Key) (mk : Nat → PB) (k : Nat → Prg α)
 | put (K : Key) (b : PB) (k : Prg α)
 | ro (K : Key) (k : Prg α)
 | chk (p : Prop) (k : Prg α)
def Prg.wp {α : Type} (q : Prop) : Prg α → (α → Heap → Prop) → Heap → Prop
 | .ret a, Q, H => Q a H
 | .get K k, Q, H => (k (H K)).wp q Q H
 | .alc K mk k, Q, H => (∀ v, (mk v).ver = v) ∧ (k (verOf H K + 1)).wp q Q (H.set K (mk (verOf H K + 1)))
 | .put K b k, Q, H => q ∧ k.wp q Q (H.set K b)
 | .ro K k, Q, H => k.wp q Q (match H K with | some b => H.set K b.mark | none => H)
 | .chk p k, Q, H => (q → p) ∧ k.wp q Q H
abbrev bad : Prg PV := .chk False (.ret .undef)
inductive TK where
 | bad
 | scal
 | boolk
 | struct (offs ftys : List Nat)
 | arr (n e : Nat)
 | slice (e : Nat)
 | map (k e : Nat)
 deriving Inhabited
structure TI where
 kind : TK
 size : Nat
 bytes : Nat
 zero : List PV
 /-- Slice literals of this type hold what they hold alive (cells), not as it stands. -/
 deep : Bool := false
 deriving Inhabited
def TK.isAgg : TK → Bool
 | .struct _ _ => true
 | .arr _ _ => true
 | _ => false
abbrev Spec := List PV → Option (Prop × PV)
abbrev MSpec := List PV → Heap → (PV → Heap → Prop) → Prop
structure Eff where
 pre : Heap → Prop
 D : Key → Prop
 S : Key → Prop
 post : Heap → PV → Heap → Prop
abbrev ESpec := List Nat → List PV → Option Eff
structure Env where
 ti : Nat → TI
 spec : Nat → Option Spec
 inl : Nat → Option Func
 glob : Nat → Option (List PV)
 eqt : Nat → Bool
 keyt : Nat → Bool
 mt : Nat → Option MSpec := fun _ => none
 eff : Nat → Option ESpec := fun _ => none
def cpv : Value → PV
 | .int k n => .int k n
 | .bool b => .bool b
 | .nilFunc => .nilfn
 | .slice none 0 0 => .sl [] true
 | .map none => .nilmap
 | .pointer none => .nilptr
 | _ => .undef
def opd (τ : List PV) : Operand → PV
 | .tmp t => τ.getD t .undef
 | .const v => cpv v
 | .global g => .gref g 0
 | .func f => .fn f [] []
def valCells : PV → List PV
 | .agg cs => cs
 | v => [v]
def cellP : PV → Bool
 | .undef => false
 | .tnt _ _ => false
 | .agg _ => false
 | .tup _ => false
 | _ => true
def cells1 : List PV → Bool
 | [] => true
 | c :: cs => cellP c && cells1 cs
def putAt : List PV → Nat → List PV → List PV
 | cs, _, [] => cs
 | [], _, _ => []
 | _ :: cs, 0, v :: vs => v :: putAt cs 0 vs
 | c :: cs, n + 1, vs => c :: putAt cs n vs
def storeAt (cs : List PV) (off : Nat) (vs : List PV) : List PV :=
 match vs with
 | [v] => cs.set off v
 | vs => putAt cs off vs
def loadAt (ti : TI) (cs : List PV) (off : Nat) : PV :=
 if ti.kind.isAgg then .agg ((cs.drop off).take ti.size) else cs.getD off (ti.zero.getD 0 .undef)
def unt {α : Type} (p : PV) (k : PV → Prg α) : Prg α :=
 match p with
 | .tnt q v => .chk q (k v)
 | v => k v
def taint : PV → Prop
 | .tnt p _ => p
 | _ => True
def clean : PV → PV
 | .tnt _ v => v
 | v => v
def allT : List PV → Prop
 | [] => True
 | p :: ps => taint p ∧ allT ps
def untL {α : Type} (ps : List PV) (k : List PV → Prg α) : Prg α := .chk (allT ps) (k (ps.map clean))
def flat : PV → Bool
 | .int _ _ => true
 | .bool _ => true
 | .agg cs => flatL cs
 | .tup cs => flatL cs
 | _ => false
where flatL : List PV → Bool
 | [] => true
 | c :: cs => flat c && flatL cs
def chunks (sz : Nat) : Nat → List PV → List (List PV)
 | 0, _ => []
 | n + 1, cs => cs.take sz :: chunks sz n (cs.drop sz)
def ones (cs : List PV) : List (List PV) := cs.map fun c => [c]
def arows (sz n : Nat) (cs : List PV) : List (List PV) := if sz = 1 then ones (cs.take n) else chunks sz n cs
def frzL {α : Type} (f : PV → (PV → List Key → Prg α) → Prg α) : List PV → (List PV → List Key → Prg α) → Prg α
 | [], k => k [] []
 | p :: ps, k => f p fun t ks => frzL f ps fun ts ks' => k (t :: ts) (ks ++ ks')
def frz {α : Type} [Inhabited α] : Nat → PV → (PV → List Key → Prg α) → Prg α
 | 0, _, _ => .chk False (.ret default)
 | n + 1, p, k =>
  match p with
  | .sref K v sz m ex => .get K fun b =>
   match b with
   | some (.rows sz' rs v' _) => .chk (v = v' ∧ sz = sz' ∧ m = rs.length) (k (.sl rs ex) [K])
   | _ => .chk False (.ret default)
  | .aref K v off sz m => .get K fun b =>
   match b with
   | some (.cells cs v' _) => .chk (v = v' ∧ 0 < sz ∧ off + m * sz ≤ cs.length) (
    match flat.flatL cs with
    | true => k (.sl (arows sz m (cs.drop off)) false) [K]
    | false => .chk (n ≠ 7) (frzL (frz n) cs fun ts ks => k (.sl (arows sz m (ts.drop off)) false) (K :: ks)))
   | _ => .chk False (.ret default)
  | .ref K v off => .get K fun b =>
   match b with
   | some (.cells cs v' _) => .chk (v = v') (frzL (frz n) cs fun ts ks => k (.eref ts off) (K :: ks))
   | _ => .chk False (.ret default)
  | .mref K v => .get K fun b =>
   match b with
   | some (.map ag kl es v' _) => .chk (v = v') (k (.mp ag kl es) [K])
   | _ => .chk False (.ret default)
  | .agg cs => frzL (frz n) cs fun ts ks => k (.agg ts) ks
  | .tup cs => frzL (frz n) cs fun ts ks => k (.tup ts) ks
  | .fn f first cap => frzL (frz n) first fun ts ks => frzL (frz n) cap fun us ls => k (.fn f ts us) (ks ++ ls)
  | .tnt _ _ => .chk False (.ret default)
  | .rref _ _ _ _ _ _ => .chk False (.ret default)
  | .yld _ _ => .chk False (.ret default)
  | .undef => .chk False (.ret default)
  | v => k v []
def roAll {α : Type} : List Key → Prg α → Prg α
 | [], k => k
 | K :: ks, k => .ro K (roAll ks k)
def callSpec (s : Spec) (args : List PV) : Prg PV :=
 untL args fun as => frzL (frz 8) as fun ts ks =>
  match s ts with
  | some (pre, r) => .chk pre (if flat r then .ret r else roAll ks (.ret r))
  | none => bad
def ints : List PV → Option (List Int)
 | [] => some []
 | .int .i64 n :: cs => (ints cs).map (n :: ·)
 | _ => none
def keyOf : Bool → PV → Option (List Int)
 | false, .int .i64 n => some [n]
 | true, .agg cs => ints cs
 | _, _ => none
def keyPV : Bool → List Int → PV
 | true, l => .agg (l.map (.int .i64 ·))
 | false, [n] => .int .i64 n
 | false, _ => .undef
def mget : List (List Int × PV) → List Int → Option PV
 | [], _ => none
 | e :: es, k => if e.1 = k then some e.2 else mget es k
def mset : List (List Int × PV) → List Int → PV → List (List Int × PV)
 | [], k, v => [(k, v)]
 | e :: es, k, v => if e.1 = k then (k, v) :: es else e :: mset es k v
def bits (op : BinOp) (k : IntKind) (x y : Int) : Int :=
 let a := BitVec.ofInt k.bits x
 let b := BitVec.ofInt k.bits y
 match op with
 | .and => k.wrap (a &&& b).toNat
 | .or => k.wrap (a ||| b).toNat
 | .xor => k.wrap (a ^^^ b).toNat
 | _ => k.wrap (a &&& ~~~b).toNat
def shft (left : Bool) (k : IntKind) (x y : Int) : Int :=
 if left then k.wrap (x * 2 ^ (min y.toNat k.bits)) else x.fdiv (2 ^ (min y.toNat k.bits))
def eqL : List PV → List PV → Bool
 | [], _ => true
 | .int _ a :: xs, .int _ b :: ys => (a == b) && eqL xs ys
 | .bool a :: xs, .bool b :: ys => (a == b) && eqL xs ys
 | _, _ => false
def likeL : List PV → List PV → Bool
 | [], [] => true
 | .int .i64 _ :: xs, .int .i64 _ :: ys => likeL xs ys
 | .bool _ :: xs, .bool _ :: ys => likeL xs ys
 | _, _ => false
def binInt (op : BinOp) (k : IntKind) (a b : Int) : Prg PV :=
 match op with
 | .add => .ret (.int k (k.wrap (a + b)))
 | .sub => .ret (.int k (k.wrap (a - b)))
 | .mul => .ret (.int k (k.wrap (a * b)))
 | .quo => .chk (b ≠ 0) (.ret (.int k (k.wrap (a.tdiv b))))
 | .rem => .chk (b ≠ 0) (.ret (.int k (a.tmod b)))
 | .and => .ret (.int k (bits .and k a b))
 | .or => .ret (.int k (bits .or k a b))
 | .xor => .ret (.int k (bits .xor k a b))
 | .andNot => .ret (.int k (bits .andNot k a b))
 | .eql => .ret (.bool (a == b))
 | .neq => .ret (.bool (a != b))
 | .lss => .ret (.bool (decide (a < b)))
 | .leq => .ret (.bool (decide (a ≤ b)))
 | .gtr => .ret (.bool (decide (a > b)))
 | .geq => .ret (.bool (decide (a ≥ b)))
 | _ => bad
def bin (E : Env) (op : BinOp) (t : Nat) (x y : PV) : Prg PV :=
 match x, y with
 | .int k a, .int k' b =>
  match op with
  | .shl => .chk (0 ≤ b) (.ret (.int k (shft true k a b)))
  | .shr => .chk (0 ≤ b) (.ret (.int k (shft false k a b)))
  | op => .chk (k = k') (binInt op k a b)
 | .bool a, .bool b =>
  match (E.ti t).kind, op with
  | .boolk, .eql => .ret (.bool (a == b))
  | .boolk, .neq => .ret (.bool (a != b))
  | _, _ => bad
 | .agg xs, .agg ys =>
  .chk (E.eqt t = true ∧ likeL xs (E.ti t).zero = true ∧ likeL ys (E.ti t).zero = true) (
  match op with
  | .eql => .ret (.bool (eqL xs ys))
  | .neq => .ret (.bool (!eqL xs ys))
  | _ => bad)
 | _, _ => bad
def nilV : Value → Bool
 | .slice none 0 0 => true
 | _ => false
def isNil : Operand → Bool
 | .const v => nilV v
 | _ => false
def binN (c : Bool) (E : Env) (op : BinOp) (t : Nat) (x y : PV) : Prg PV :=
 match c with
 | false => bin E op t x y
 | true =>
  match (E.ti t).kind, x, op with
  | .slice _, .sl (_ :: _) _, .eql => .ret (.bool false)
  | .slice _, .sl (_ :: _) _, .neq => .ret (.bool true)
  | _, _, _ => bad
def un (op : UnOp) (x : PV) : Prg PV :=
 match op, x with
 | .neg, .int k n => .ret (.int k (k.wrap (0 - n)))
 | .not, .bool b => .ret (.bool !b)
 | _, _ => bad
def pick (c a b : PV) : Prg PV :=
 unt c fun c =>
 match c with
 | .bool c =>
  .chk ((c = true → taint a) ∧ (c = false → taint b)) (
   match clean a, clean b with
   | .bool x, .bool y => .ret (.bool (cond c x y))
   | .int k x, .int k' y => .chk (k = k') (.ret (.int k (cond c x y)))
   | .undef, y => .chk (c = false) (.ret y)
   | x, .undef => .chk (c = true) (.ret x)
   | _, _ => bad)
 | _ => bad
def loadVia (ti : TI) (E : Env) (x : PV) : Prg PV :=
 match x with
 | .ref K v off => .get K fun b =>
  match b with
  | some (.cells cs v' _) => .chk (v = v' ∧ 0 < ti.size ∧ off + ti.size ≤ cs.length) (.ret (loadAt ti cs off))
  | _ => bad
 | .rref K v sz i d off => .get K fun b =>
  match b with
  | some (.rows sz' rs v' _) => .chk (v = v' ∧ sz = sz' ∧ i < rs.length ∧ 0 < ti.size ∧ off + ti.size ≤ sz) (.ret (loadAt ti (rs.getD i d) off))
  | _ => bad
 | .eref row off => .chk (0 < ti.size ∧ off + ti.size ≤ row.length) (.ret (loadAt ti row off))
 | .gref g off =>
  match E.glob g with
  | some cs => .chk (0 < ti.size ∧ off + ti.size ≤ cs.length) (.ret (loadAt ti cs off))
  | none => bad
 | _ => bad
def storeVia (ti : TI) (x v : PV) : Prg PV :=
 match x with
 | .ref K ver off => .get K fun b =>
  match b with
  | some (.cells cs v' ro) => .chk (ver = v' ∧ ro = false ∧ (valCells v).length = ti.size ∧ cells1 (valCells v) = true ∧ 0 < ti.size ∧ off + ti.size ≤ cs.length)
      (.put K (.cells (storeAt cs off (valCells v)) v' ro) (.ret .undef))
  | _ => bad
 | .rref K ver sz i d off => frz 8 v fun v ks => roAll ks <| .get K fun b =>
  match b with
  | some (.rows sz' rs v' ro) => .chk (ver = v' ∧ sz = sz' ∧ ro = false ∧ i < rs.length ∧ (valCells v).length = ti.size ∧ cells1 (valCells v) = true ∧ 0 < ti.size ∧ off + ti.size ≤ sz)
      (.put K (.rows sz' (rs.set i (storeAt (rs.getD i d) off (valCells v))) v' ro) (.ret .undef))
  | _ => bad
 | _ => bad
def fieldVia (E : Env) (t : Nat) (x : PV) (f : Nat) : Prg PV :=
 match (E.ti t).kind with
 | .struct offs ftys =>
  .chk (f < offs.length ∧ f < ftys.length ∧ 0 < (E.ti (ftys.getD f 0)).size) (
  match x with
  | .ref K v off => .ret (.ref K v (off + offs.getD f 0))
  | .rref K v sz i d off => .ret (.rref K v sz i d (off + offs.getD f 0))
  | .eref row off => .ret (.eref row (off + offs.getD f 0))
  | _ => bad)
 | _ => bad
def indexVia (E : Env) (t : Nat) (x ix : PV) : Prg PV :=
 match ix with
 | .int _ i =>
  match (E.ti t).kind with
  | .arr n e =>
   .chk (0 ≤ i ∧ i < n ∧ 0 < (E.ti e).size) (
   match x with
   | .ref K v off => .ret (.ref K v (off + i.toNat * (E.ti e).size))
   | .rref K v sz j d off => .ret (.rref K v sz j d (off + i.toNat * (E.ti e).size))
   | .eref row off => .ret (.eref row (off + i.toNat * (E.ti e).size))
   | .gref g off => .ret (.gref g (off + i.toNat * (E.ti e).size))
   | _ => bad)
  | .slice e =>
   match x with
   | .sl rows _ => .chk (0 ≤ i ∧ i < rows.length ∧ 0 < (E.ti e).size ∧ (rows.getD i.toNat (E.ti e).zero).length = (E.ti e).size) (.ret (.eref (rows.getD i.toNat (E.ti e).zero) 0))
   | .sref K v sz n _ => .chk (0 ≤ i ∧ i < n ∧ 0 < (E.ti e).size ∧ sz = (E.ti e).size) (.ret (.rref K v sz i.toNat (E.ti e).zero 0))
   | .aref K v off sz n => .chk (0 ≤ i ∧ i < n ∧ 0 < (E.ti e).size ∧ sz = (E.ti e).size) (.ret (.ref K v (off + i.toNat * sz)))
   | _ => bad
  | _ => bad
 | _ => bad
def indexIn (E : Env) (t : Nat) (x ix : PV) : Prg PV :=
 match ix, (E.ti t).kind, x with
 | .int _ i, .arr n e, .agg cs => .chk (0 ≤ i ∧ i < n ∧ cs.length = n * (E.ti e).size ∧ 0 < (E.ti e).size) (.ret (loadAt (E.ti e) cs (i.toNat * (E.ti e).size)))
 | _, _, _ => bad
def fieldIn (E : Env) (t : Nat) (x : PV) (f : Nat) : Prg PV :=
 match (E.ti t).kind, x with
 | .struct offs ftys, .agg cs => .chk (f < offs.length ∧ f < ftys.length ∧ 0 < (E.ti (ftys.getD f 0)).size ∧ offs.getD f 0 + (E.ti (ftys.getD f 0)).size ≤ cs.length)
     (.ret (loadAt (E.ti (ftys.getD f 0)) cs (offs.getD f 0)))
 | _, _ => bad
def fillAt (place : Nat → Nat) (size : Nat → Nat) : List (Nat × PV) → List PV → (List PV → Prg PV) → Prg PV
 | [], cs, k => k cs
 | (i, p) :: ps, cs, k => unt p fun v => .chk ((valCells v).length = size i ∧ cells1 (valCells v) = true ∧ 0 < size i ∧ place i + size i ≤ cs.length) (fillAt place size ps (storeAt cs (place i) (valCells v)) k)
def buildIn (E : Env) (t : Nat) (parts : List (Nat × PV)) : Prg PV :=
 match (E.ti t).kind with
 | .struct offs ftys => .chk (0 < (E.ti t).size ∧ parts.all (fun p => p.1 < offs.length && p.1 < ftys.length) = true ∧ ftys.all (fun t => 0 < (E.ti t).size) = true)
     (fillAt (fun i => offs.getD i 0) (fun i => (E.ti (ftys.getD i 0)).size) parts (E.ti t).zero fun cs => .ret (.agg cs))
 | .arr _ e => .chk (0 < (E.ti t).size ∧ 0 < (E.ti e).size) (fillAt (fun i => i * (E.ti e).size) (fun _ => (E.ti e).size) parts (E.ti t).zero fun cs => .ret (.agg cs))
 | _ => bad
def fillRows (sz : Nat) : List (Nat × PV) → List (List PV) → (List (List PV) → Prg PV) → Prg PV
 | [], rs, k => k rs
 | (i, p) :: ps, rs, k => unt p fun v => frz 8 v fun v ks => roAll ks <| .chk ((valCells v).length = sz ∧ cells1 (valCells v) = true ∧ i < rs.length) (fillRows sz ps (rs.set i (valCells v)) k)
def buildRows (E : Env) (K : Key) (t len : Nat) (parts : List (Nat × PV)) : Prg PV :=
 match (E.ti t).kind with
 | .slice e => .chk (len * (E.ti e).size ≤ 16777216 ∧ 0 < (E.ti e).size) (fillRows (E.ti e).size parts (List.replicate len (E.ti e).zero) fun rs =>
     .alc K (fun v => .rows (E.ti e).size rs v false) fun v => .ret (.sref K v (E.ti e).size len true))
 | _ => bad
def buildCells (E : Env) (K : Key) (t len : Nat) (parts : List (Nat × PV)) : Prg PV :=
 match (E.ti t).kind with
 | .slice e => .chk (len * (E.ti e).size ≤ 16777216 ∧ 0 < (E.ti e).size ∧ 0 < len) (fillAt (fun i => i * (E.ti e).size) (fun _ => (E.ti e).size) parts (List.replicate (len * (E.ti e).size) .undef) fun cs =>
     .alc K (fun v => .cells cs v false) fun v => .ret (.aref K v 0 (E.ti e).size len))
 | _ => bad
def makeRows (E : Env) (K : Key) (t : Nat) (n c : PV) : Prg PV :=
 match (E.ti t).kind, n, c with
 | .slice e, .int .i64 n, .int .i64 c => .chk (n = c ∧ 0 ≤ n ∧ n * (E.ti e).bytes ≤ 1099511627776 ∧ 0 < (E.ti e).size ∧ 0 < (E.ti e).bytes)
     (.alc K (fun v => .rows (E.ti e).size (List.replicate n.toNat (E.ti e).zero) v false) fun v => .ret (.sref K v (E.ti e).size n.toNat true))
 | _, _, _ => bad
def cut (E : Env) (t : Nat) (x : PV) (lo hi mx : Option PV) : Prg PV :=
 match (E.ti t).kind with
 | .slice e =>
  .chk (0 < (E.ti e).size) (
  match x with
  | .sl rows ex =>
   match lo, hi, mx with
   | none, none, none => .ret (.sl rows ex)
   | none, some (.int _ h), none => .chk (0 ≤ h ∧ h ≤ rows.length) (.ret (.sl (rows.take h.toNat) false))
   | some (.int _ l), none, none => .chk (0 ≤ l ∧ l ≤ rows.length ∧ ∀ row ∈ rows, row.length = (E.ti e).size) (.ret (.sl (rows.drop l.toNat) ex))
   | some (.int _ l), some (.int _ h), none => .chk (0 ≤ l ∧ l ≤ h ∧ h ≤ rows.length ∧ ∀ row ∈ rows, row.length = (E.ti e).size) (.ret (.sl ((rows.take h.toNat).drop l.toNat) false))
   | none, some (.int _ h), some (.int _ m) => .chk (0 ≤ h ∧ h = m ∧ h ≤ rows.length) (.ret (.sl (rows.take h.toNat) true))
   | _, _, _ => bad
  | .sref K v sz n ex =>
   match lo, hi, mx with
   | none, none, none => .ret (.sref K v sz n ex)
   | none, some (.int _ h), some (.int _ m) => .chk (h = n ∧ m = n) (.ret (.sref K v sz n true))
   | _, _, _ => bad
  | _ => bad)
 | .arr n e =>
  .chk (0 < (E.ti e).size) (
  match x with
  | .ref K v off =>
   match lo, hi, mx with
   | none, none, none => .ret (.aref K v off (E.ti e).size n)
   | none, some (.int _ h), none => .chk (0 ≤ h ∧ h ≤ n) (.ret (.aref K v off (E.ti e).size h.toNat))
   | _, _, _ => bad
  | _ => bad)
 | _ => bad
def rowsOf {α : Type} [Inhabited α] (sz : Nat) (x : PV) (k : List (List PV) → Prg α) : Prg α :=
 frz 8 x fun x _ =>
 match x with
 | .sl rows _ => .chk (∀ row ∈ rows, row.length = sz ∧ cells1 row = true) (k rows)
 | _ => .chk False (.ret default)
def app (E : Env) (K : Key) (t : Nat) (s x : PV) : Prg PV :=
 match (E.ti t).kind with
 | .slice e =>
  .chk (0 < (E.ti e).size) <| rowsOf (E.ti e).size x fun xs =>
  match s with
  | .sl rows ex => .chk (ex = true ∧ (xs ≠ [] ∨ rows = []) ∧ (∀ row ∈ rows, row.length = (E.ti e).size) ∧ 0 < (E.ti e).size ∧ 0 < (E.ti e).bytes ∧ (rows.length + xs.length) * (E.ti e).bytes ≤ 35184372088832)
      (.alc K (fun v => .rows (E.ti e).size (rows ++ xs) v false) fun v => .ret (.sref K v (E.ti e).size (rows.length + xs.length) false))
  | .sref K' v' sz n ex => .get K' fun b =>
   match b with
   | some (.rows sz' rs v ro) =>
    .chk (v = v' ∧ sz = sz' ∧ sz = (E.ti e).size ∧ n = rs.length ∧ 0 < (E.ti e).size ∧ 0 < (E.ti e).bytes ∧ (n + xs.length) * (E.ti e).bytes ≤ 35184372088832) (
    match ex with
    | true =>
     match xs, n with
     | [], m + 1 => .ret (.sref K' v' sz (m + 1) true)
     | xs, n => .alc K (fun v => .rows (E.ti e).size (rs ++ xs) v false) fun v => .ret (.sref K v (E.ti e).size (n + xs.length) false)
    | false => .chk (ro = false) (.put K' (.rows sz' (rs ++ xs) (v + 1) false) (.ret (.sref K' (v + 1) sz (n + xs.length) false))))
   | _ => bad
  | _ => bad
 | _ => bad
def cpy (E : Env) (t : Nat) (d x : PV) : Prg PV :=
 match (E.ti t).kind with
 | .slice e => .chk (0 < (E.ti e).size) <| rowsOf (E.ti e).size x fun rs =>
  match d with
  | .aref K v off sz n => .get K fun b =>
   match b with
   | some (.cells cs v' ro) => .chk (v = v' ∧ ro = false ∧ sz = (E.ti e).size ∧ rs ≠ [] ∧ rs.length ≤ n ∧ off + rs.length * sz ≤ cs.length)
       (.put K (.cells (storeAt cs off rs.flatten) v' ro) (.ret (.int .i64 rs.length)))
   | _ => bad
  | _ => bad
 | _ => bad
def len (E : Env) (t : Nat) (x : PV) : Prg PV :=
 match (E.ti t).kind, x with
 | .arr n _, _ => .ret (.int .i64 n)
 | .slice _, .sl rows _ => .ret (.int .i64 rows.length)
 | .slice _, .sref _ _ _ n _ => .ret (.int .i64 n)
 | .slice _, .aref _ _ _ _ n => .ret (.int .i64 n)
 | .map _ _, .mp _ _ es => .ret (.int .i64 es.length)
 | .map _ _, .nilmap => .ret (.int .i64 0)
 | .map _ _, .mref K v => .get K fun b =>
  match b with
  | some (.map _ _ es v' _) => .chk (v = v') (.ret (.int .i64 es.length))
  | _ => bad
 | _, _ => bad
def maxs : List PV → Prg PV
 | [.int k a, .int k' b] => .chk (k = k') (.ret (.int k (if b > a then b else a)))
 | _ => bad
def mins : List PV → Prg PV
 | [.int k a, .int k' b] => .chk (k = k') (.ret (.int k (if b < a then b else a)))
 | _ => bad
def found (ti : TI) (ok : Bool) (r : Option PV) : PV :=
 match r with
 | some x => if ok then .tup [x, .bool true] else x
 | none => if ok then .tup [loadAt ti ti.zero 0, .bool false] else loadAt ti ti.zero 0
def look (E : Env) (t : Nat) (m k : PV) (ok : Bool) : Prg PV :=
 match (E.ti t).kind with
 | .map kt e =>
  match keyOf (E.ti kt).kind.isAgg k with
  | some key =>
   .chk (E.keyt kt = true ∧ key.length = (E.ti kt).size ∧ 0 < (E.ti e).size ∧ 0 < (E.ti kt).size) (
   match m with
   | .nilmap => .ret (found (E.ti e) ok none)
   | .mp ag kl es => .chk (ag = (E.ti kt).kind.isAgg ∧ kl = (E.ti kt).size) (.ret (found (E.ti e) ok (mget es key)))
   | .mref K v => .get K fun b =>
    match b with
    | some (.map ag kl es v' _) => .chk (v = v' ∧ ag = (E.ti kt).kind.isAgg ∧ kl = (E.ti kt).size) (.ret (found (E.ti e) ok (mget es key)))
    | _ => bad
   | _ => bad)
  | none => bad
 | _ => bad
def mapPut (E : Env) (t : Nat) (m k x : PV) : Prg PV :=
 match (E.ti t).kind with
 | .map kt _ =>
  match keyOf (E.ti kt).kind.isAgg k, m with
  | some key, .mref K v => frz 8 x fun x ks => roAll ks <| .get K fun b =>
   match b with
   | some (.map ag kl es v' ro) => .chk (v = v' ∧ ro = false ∧ ag = (E.ti kt).kind.isAgg ∧ kl = (E.ti kt).size ∧ E.keyt kt = true ∧ key.length = (E.ti kt).size ∧ 0 < (E.ti kt).size) (.put K (.map ag kl (mset es key x) v' ro) (.ret .undef))
   | _ => bad
  | _, _ => bad
 | _ => bad
def rangeV (E : Env) (K : Key) (t : Nat) (x : PV) : Prg PV :=
 match (E.ti t).kind, x with
 | .map _ _, .mp ag _ es => .alc K (fun v => .iter ag es none v) fun v => .ret (.ref K v 0)
 | _, _ => bad
def entryV (x : PV) : Prg PV :=
 match x with
 | .ref K v 0 => .get K fun b =>
  match b with
  | some (.iter ag _ (some c) v') => .chk (v = v') (.ret (.tup [keyPV ag c.1, c.2]))
  | _ => bad
 | _ => bad
def builtin (E : Env) (K : Key) (b : Builtin) (ts : List Nat) (args : List PV) : Prg PV :=
 untL args fun as =>
 match b, as with
 | .len, [x] => .chk (0 < ts.length) (len E (ts.getD 0 0) x)
 | .append, [s, x] => .chk (ts.length = 2 ∧ ts.getD 1 0 = ts.getD 0 0) (app E K (ts.getD 0 0) s x)
 | .copy, [d, x] => .chk (ts.length = 2) (cpy E (ts.getD 0 0) d x)
 | .max, as => maxs as
 | .min, as => mins as
 | _, _ => bad
def lop (E : Env) (K : Key) (τ : List PV) (o : Op) : Prg PV :=
 match o with
 | .move x => unt (opd τ x) .ret
 | .assign x => unt (opd τ x) .ret
 | .pick c a b => pick (opd τ c) (opd τ a) (opd τ b)
 | .alloc e => .chk (0 < (E.ti e).size) (.alc K (fun v => .cells (E.ti e).zero v false) fun v => .ret (.ref K v 0))
 | .box _ x => unt (opd τ x) fun x => .chk (cells1 (valCells x) = true) <| .alc K (fun v => .cells (valCells x) v false) fun v => .ret (.ref K v 0)
 | .build t ps => buildIn E t (ps.toList.map fun p => (p.1, opd τ p.2))
 | .buildSlice t n ps =>
  match (E.ti t).deep with
  | false => buildRows E K t n (ps.toList.map fun p => (p.1, opd τ p.2))
  | true => buildCells E K t n (ps.toList.map fun p => (p.1, opd τ p.2))
 | .load t a => unt (opd τ a) fun a => loadVia (E.ti t) E a
 | .store t a x => unt (opd τ a) fun a => unt (opd τ x) fun x => storeVia (E.ti t) a x
 | .binOp op t x y _ => unt (opd τ x) fun x => unt (opd τ y) fun y' => binN (isNil y) E op t x y'
 | .unOp op _ x => unt (opd τ x) fun x => un op x
 | .makeFunc f first cap =>
  match f with
  | .func f => untL (first.toList.map (opd τ)) fun fs => untL (cap.toList.map (opd τ)) fun cs => .ret (.fn f fs cs)
  | _ => bad
 | .makeMap t r =>
  match r with
  | none =>
   match (E.ti t).kind with
   | .map kt _ => .alc K (fun v => .map (E.ti kt).kind.isAgg (E.ti kt).size [] v false) fun v => .ret (.mref K v)
   | _ => bad
  | some _ => bad
 | .makeSlice t l c => unt (opd τ l) fun l => unt (opd τ c) fun c => makeRows E K t l c
 | .slice t x lo hi mx => unt (opd τ x) fun x => untL ((lo.toList ++ hi.toList ++ mx.toList).map (opd τ)) fun _ => cut E t x (lo.map fun o => clean (opd τ o)) (hi.map fun o => clean (opd τ o)) (mx.map fun o => clean (opd τ o))
 | .fieldAddr t x f => unt (opd τ x) fun x => fieldVia E t x f
 | .field t x f => unt (opd τ x) fun x => fieldIn E t x f
 | .indexAddr t x i => unt (opd τ x) fun x => unt (opd τ i) fun i => indexVia E t x i
 | .index t x i => unt (opd τ x) fun x => unt (opd τ i) fun i => indexIn E t x i
 | .lookup t m k ok => unt (opd τ m) fun m => unt (opd τ k) fun k => look E t m k ok
 | .mapUpdate t m k x => unt (opd τ m) fun m => unt (opd τ k) fun k => unt (opd τ x) fun x => mapPut E t m k x
 | .insert t m k x => unt (opd τ m) fun m => unt (opd τ k) fun k => unt (opd τ x) fun x => mapPut E t m k x
 | .range t x => unt (opd τ x) fun x => rangeV E K t x
 | .entry x => unt (opd τ x) fun x => entryV x
 | .extract x i => unt (opd τ x) fun x =>
  match x with
  | .tup vs => .chk (i < vs.length) (.ret (vs.getD i .undef))
  | _ => bad
 | .call c =>
  match c.callee with
  | .builtin b => builtin E K b c.argTypes.toList (c.args.toList.map (opd τ))
  | _ => bad
 | _ => bad
abbrev Handler := List Nat → PV → List PV → Heap → (PV → Heap → Prop) → Prop
def putT (τ : List PV) (dst : Option Nat) (v : PV) : List PV := match dst with | some d => τ.set d v | none => τ
def dstAt : List Oper → Nat → Option Nat
 | [], _ => none
 | o :: _, 0 => o.dst
 | _ :: os, n + 1 => dstAt os n
def gtmp (ops : Array Oper) (τ : List PV) (j : Nat) : PV := match dstAt ops.toList j with | some t => τ.getD t .undef | none => .undef
def gval : PV → Bool → Prop
 | .bool b, want => b = want
 | .tnt p (.bool b), want => p ∧ b = want
 | _, _ => False
def gis : PV → Bool
 | .bool _ => true
 | .tnt _ (.bool _) => true
 | _ => false
def gcond (ops : Array Oper) (τ : List PV) : Option (Nat × Bool) → Option Prop
 | none => none
 | some (j, want) => some (gval (gtmp ops τ j) want)
def gok (ops : Array Oper) (τ : List PV) : Option (Nat × Bool) → Bool
 | none => true
 | some (j, _) => gis (gtmp ops τ j)
def light (m : Prg PV) (g : Option Prop) (K : PV → Heap → Prop) (H : Heap) : Prop :=
 match g with
 | none => m.wp True K H
 | some q => m.wp q (fun v H => K (.tnt q v) H) H
def heavy (h : Handler) (path : List Nat) (f : PV) (args : List PV) (g : Option Prop) (K : PV → Heap → Prop) (H : Heap) : Prop :=
 match g with
 | none => (untL args .ret).wp True (fun as _ => h path f as H K) H
 | some q => (q → (untL args .ret).wp True (fun as _ => h path f as H K) H) ∧ (¬ q → K .undef H)
def callV (E : Env) (h : Handler) (path : List Nat) (f : PV) (args : List PV) (g : Option Prop) (K : PV → Heap → Prop) (H : Heap) : Prop :=
 match f with
 | .fn n first cap =>
  match E.spec n with
  | some s => light (callSpec s (first ++ args ++ cap)) g K H
  | none => heavy h path (.fn n [] []) (first ++ args ++ cap) g K H
 | .yld L v => heavy h path (.yld L v) args g K H
 | .tnt p (.fn n first cap) =>
  match E.spec n with
  | some s => light (.chk p (callSpec s (first ++ args ++ cap))) g K H
  | none => (g.getD True → p) ∧ heavy h path (.fn n [] []) (first ++ args ++ cap) g K H
 | .tnt p (.yld L v) => (g.getD True → p) ∧ heavy h path (.yld L v) args g K H
 | _ => False
def nextV (it : PV) (str : Bool) (g : Option Prop) (K : PV → Heap → Prop) (H : Heap) : Prop :=
 match it, str, g with
 | .ref L v 0, false, none =>
  match H L with
  | some (.iter ag left _ v') => v = v' ∧ (left = [] → K (.tup [.bool false]) H) ∧
      ∀ (i : Nat) e, left[i]? = some e → K (.tup [.bool true, keyPV ag e.1, e.2]) (H.set L (.iter ag (left.eraseIdx i) (some e) v))
  | _ => False
 | _, _, _ => False
def evOps (E : Env) (h : Handler) (path : List Nat) (site : Nat) (ops : Array Oper) : List Oper → Nat → (List PV → Heap → Prop) → List PV → Heap → Prop
 | [], _, Q, τ, H => Q τ H
 | o :: rest, i, Q, τ, H =>
  gok ops τ o.guard = true ∧
  match o.op with
  | .call { callee := .value f, args := as, argTypes := _ } =>
   callV E h ((site + i) :: path) (opd τ f) (as.toList.map (opd τ)) (gcond ops τ o.guard) (fun v H => evOps E h path site ops rest (i + 1) Q (putT τ o.dst v) H) H
  | .next x s => nextV (opd τ x) s (gcond ops τ o.guard) (fun v H => evOps E h path site ops rest (i + 1) Q (putT τ o.dst v) H) H
  | op => light (lop E (path, site + i) τ op) (gcond ops τ o.guard) (fun v H => evOps E h path site ops rest (i + 1) Q (putT τ o.dst v) H) H
def Prg.wpF {α : Type} (q : Prop) : Prg α → (α → Heap → List Key → List Key → Prop) → Heap → List Key → List Key → Prop
 | .ret a, Q, H, R, W => Q a H R W
 | .get K k, Q, H, R, W => (k (H K)).wpF q Q H (K :: R) W
 | .alc K mk k, Q, H, R, W => (∀ v, (mk v).ver = v) ∧ (k (verOf H K + 1)).wpF q Q (H.set K (mk (verOf H K + 1))) R (K :: W)
 | .put K b k, Q, H, R, W => q ∧ k.wpF q Q (H.set K b) R (K :: W)
 | .ro K k, Q, H, R, W => k.wpF q Q (match H K with | some b => H.set K b.mark | none => H) R (K :: W)
 | .chk p k, Q, H, R, W => (q → p) ∧ k.wpF q Q H R W
def disj : List Key → List Key → Prop
 | [], _ => True
 | K :: Ks, L => K ∉ L ∧ disj Ks L
def waitsFor (o : Oper) (i : Nat) : Bool := o.after.toList.any fun e => Region.binds .any e && e.on == i
def waits2 (ops : Array Oper) (o : Oper) (i : Nat) : Bool := o.after.toList.any fun e => Region.binds .any e && (match ops[e.on]? with
 | some o' => waitsFor o' i
 | none => false)
inductive FP where
 | det (i : Nat) (R W : List Key)
 | eff (i : Nat) (D S : Key → Prop)
def disjP : List Key → (Key → Prop) → Prop
 | [], _ => True
 | K :: Ks, S => ¬ S K ∧ disjP Ks S
def compat (ops : Array Oper) (o : Oper) : List FP → List Key → List Key → Prop
 | [], _, _ => True
 | .det i R' W' :: ps, R, W => ((disj W R' ∧ disj W W' ∧ disj R W') ∨ (waitsFor o i || waits2 ops o i) = true) ∧ compat ops o ps R W
 | .eff i D S :: ps, R, W => ((disjP W D ∧ disjP W S ∧ disjP R S) ∨ (waitsFor o i || waits2 ops o i) = true) ∧ compat ops o ps R W
def compatE (ops : Array Oper) (o : Oper) : List FP → (Key → Prop) → (Key → Prop) → Prop
 | [], _, _ => True
 | .det i R' W' :: ps, D, S => ((disjP W' D ∧ disjP W' S ∧ disjP R' S) ∨ (waitsFor o i || waits2 ops o i) = true) ∧ compatE ops o ps D S
 | .eff i _ _ :: ps, D, S => (waitsFor o i || waits2 ops o i) = true ∧ compatE ops o ps D S
def lightF (m : Prg PV) (g : Option Prop) (K : PV → Heap → List Key → List Key → Prop) (H : Heap) : Prop :=
 match g with
 | none => m.wpF True K H [] []
 | some q => m.wpF q (fun v H R W => K (.tnt q v) H R W) H [] []
def stepV (E : Env) (f : PV) (args : List PV) : Prg PV :=
 match f with
 | .fn n first cap =>
  match E.spec n with
  | some s => callSpec s (first ++ args ++ cap)
  | none => bad
 | .tnt p (.fn n first cap) =>
  match E.spec n with
  | some s => .chk p (callSpec s (first ++ args ++ cap))
  | none => bad
 | _ => bad
def stepOf (E : Env) (K : Key) (τ : List PV) (o : Op) : Prg PV :=
 match o with
 | .call { callee := .value f, args := as, argTypes := _ } => stepV E (opd τ f) (as.toList.map (opd τ))
 | op => lop E K τ op
def effN (sp : Option Spec) (es : Option ESpec) (path : List Nat) (args : List PV) : Option Eff :=
 match sp, es with
 | none, some s => (s path (args.map clean)).map fun e => { e with pre := fun H => allT args ∧ e.pre H }
 | _, _ => none
def effV (E : Env) (path : List Nat) (f : PV) (args : List PV) : Option Eff :=
 match f with
 | .fn n first cap => effN (E.spec n) (E.eff n) path (first ++ args ++ cap)
 | _ => none
def effOf (E : Env) (path : List Nat) (τ : List PV) (o : Op) : Option Eff :=
 match o with
 | .call { callee := .value f, args := as, argTypes := _ } => effV E path (opd τ f) (as.toList.map (opd τ))
 | _ => none
def evDraw (E : Env) (path : List Nat) (site : Nat) (ops : Array Oper) : List Oper → Nat → List FP → (List PV → Heap → Prop) → List PV → Heap → Prop
 | [], _, _, Q, τ, H => Q τ H
 | o :: rest, i, fps, Q, τ, H =>
  match effOf E ((site + i) :: path) τ o.op with
  | some e => o.guard = none ∧ e.pre H ∧ compatE ops o fps e.D e.S ∧
      ∀ v H', (∀ K, ¬ e.S K → H' K = H K) → e.post H v H' → evDraw E path site ops rest (i + 1) (.eff i e.D e.S :: fps) Q (putT τ o.dst v) H'
  | none => gok ops τ o.guard = true ∧
      lightF (stepOf E (path, site + i) τ o.op) (gcond ops τ o.guard)
        (fun v H R W => compat ops o fps R W ∧ evDraw E path site ops rest (i + 1) (.det i R W :: fps) Q (putT τ o.dst v) H) H
def seqK (Q : Exit → List PV → Heap → Prop) (K : List PV → Heap → Prop) : Exit → List PV → Heap → Prop
 | .normal, τ, H => K τ H
 | e, τ, H => Q e τ H
def blkK (id : Nat) (Q : Exit → List PV → Heap → Prop) : Exit → List PV → Heap → Prop
 | .exit i, τ, H => if i = id then Q .normal τ H else Q (.exit i) τ H
 | e, τ, H => Q e τ H
def fg : List PV → List PV → Prop
 | [], [] => True
 | a :: as, b :: bs => (a = .undef ∨ a = b) ∧ fg as bs
 | _, _ => False
def thaw1 (H : Heap) (p' p : PV) : Prop :=
 p' = .undef ∨ p' = p ∨ (frz (α := PV) 20 p fun t ks => .chk (∀ K ∈ ks, ∃ b, H K = some b ∧ b.ro = true) (.ret t)).wp True (fun t _ => p' = t) H
def thawL (H : Heap) : List PV → List PV → Prop
 | [], [] => True
 | a :: as, b :: bs => thaw1 H a b ∧ thawL H as bs
 | _, _ => False
def ThawS (τ' : List PV) (H' : Heap) (τ : List PV) (H : Heap) : Prop :=
 ∃ H1 : Heap, (∀ K, H1 K = H K ∨ ∃ b, H K = some b ∧ H1 K = some b.mark) ∧ thawL H1 τ' τ ∧
  ∀ K, H' K = H1 K ∨ ∃ cs cs' v ro, H1 K = some (.cells cs v ro) ∧ H' K = some (.cells cs' v ro) ∧ thawL H1 cs' cs
def loopK (I : List PV → Heap → Prop) (μ : List PV → Heap → Nat) (m : Nat) (Q : Exit → List PV → Heap → Prop) : Exit → List PV → Heap → Prop
 | .normal, τ, H => ∃ τ' H', ThawS τ' H' τ H ∧ I τ' H' ∧ μ τ' H' < m
 | e, τ, H => Q e τ H
def scopeK (Q : Exit → List PV → Heap → Prop) : Exit → List PV → Heap → Prop
 | .goto _, _, _ => False
 | e, τ, H => Q e τ H
def rangeK (K : Key) (v : Nat) (τ : List PV) (Q : Exit → List PV → Heap → Prop) (H : Heap) : Prop :=
 match H K with
 | some (.loop r v') => v' = v ∧ r.st ≠ .busy ∧
  match r.pending with
  | none => Q .normal τ (H.set K (.loop { r with st := .exhausted } v))
  | some (.exit id) => Q (.exit id) τ (H.set K (.loop { r with st := .exhausted } v))
  | some .ret => Q .ret τ (H.set K (.loop { r with st := .exhausted } v))
  | _ => False
 | _ => False
def okC : Code → Bool
 | .region _ ops true => Region.lexB .any ops
 | .seq a b => okC a && okC b
 | .cond _ x y => okC x && okC y
 | .block _ c => okC c
 | .loop c => okC c
 | .scope c => okC c
 | .rangeFunc _ _ as body => okC as && okC body
 | _ => true
def ev (E : Env) (h : Handler) (path : List Nat) (inR : Bool) (fid : Nat) : Code → (Exit → List PV → Heap → Prop) → List PV → Heap → Prop
 | .skip, Q, τ, H => Q .normal τ H
 | .region id ops false, Q, τ, H => evOps E h path (fid * 1000000 + id * 1000) ops ops.toList 0 (Q .normal) τ H
 | .region id ops true, Q, τ, H => evDraw E path (fid * 1000000 + id * 1000) ops ops.toList 0 [] (Q .normal) τ H
 | .seq a b, Q, τ, H => ev E h path inR fid a (seqK Q (ev E h path inR fid b Q)) τ H
 | .cond c x y, Q, τ, H =>
  match opd τ c with
  | .bool b => (b = true → ev E h path inR fid x Q τ H) ∧ (b = false → ev E h path inR fid y Q τ H)
  | .tnt p (.bool b) => p ∧ (b = true → ev E h path inR fid x Q τ H) ∧ (b = false → ev E h path inR fid y Q τ H)
  | _ => False
 | .block id c, Q, τ, H => ev E h path inR fid c (blkK id Q) τ H
 | .loop c, Q, τ, H => ∃ (I : List PV → Heap → Prop) (μ : List PV → Heap → Nat), (∃ τ' H', ThawS τ' H' τ H ∧ I τ' H') ∧
     ∀ τ H, I τ H → ev E h path inR fid c (loopK I μ (μ τ H) Q) τ H
 | .rangeFunc f ps as body, Q, τ, H =>
  inR = false ∧
  match opd τ f with
  | .fn g first cap =>
   h ((fid * 1000000 + 900000 + ps.toList.getD 0 0) :: path) (.fn g [] [])
    (first ++ [.yld (path, fid * 1000000 + 900000 + ps.toList.getD 0 0) (verOf H (path, fid * 1000000 + 900000 + ps.toList.getD 0 0) + 1)] ++ cap)
    (H.set (path, fid * 1000000 + 900000 + ps.toList.getD 0 0) (.loop { st := .ready, pending := none, fn := fid, params := ps.toList, assign := as, body, tmps := τ } (verOf H (path, fid * 1000000 + 900000 + ps.toList.getD 0 0) + 1)))
    (fun _ H' => rangeK (path, fid * 1000000 + 900000 + ps.toList.getD 0 0) (verOf H (path, fid * 1000000 + 900000 + ps.toList.getD 0 0) + 1) τ Q H')
  | _ => False
 | .exit id, Q, τ, H => Q (.exit id) τ H
 | .scope c, Q, τ, H => ev E h path inR fid c (scopeK Q) τ H
 | .label _, Q, τ, H => Q .normal τ H
 | .ret, Q, τ, H => Q .ret τ H
 | .goto _, _, _, _ => False
 | .refuse _, _, _, _ => False
def Prg.bind {α β : Type} : Prg α → (α → Prg β) → Prg β
 | .ret a, f => f a
 | .get K k, f => .get K fun b => (k b).bind f
 | .alc K mk k, f => .alc K mk fun v => (k v).bind f
 | .put K b k, f => .put K b (k.bind f)
 | .ro K k, f => .ro K (k.bind f)
 | .chk p k, f => .chk p (k.bind f)
def resOne (E : Env) (τ : List PV) : ResultVar → Prg PV
 | .tmp t => unt (τ.getD t .undef) .ret
 | .cell a t => unt (τ.getD a .undef) fun x => loadVia (E.ti t) E x
def resAll (E : Env) (τ : List PV) : List ResultVar → (List PV → Prg PV) → Prg PV
 | [], k => k []
 | r :: rs, k => (resOne E τ r).bind fun v => resAll E τ rs fun vs => k (v :: vs)
def one : List PV → PV
 | [v] => v
 | vs => .tup vs
def retK (E : Env) (rs : List ResultVar) (Q : PV → Heap → Prop) : Exit → List PV → Heap → Prop
 | .normal, τ, H => (resAll E τ rs fun vs => .ret (one vs)).wp True Q H
 | .ret, τ, H => (resAll E τ rs fun vs => .ret (one vs)).wp True Q H
 | _, _, _ => False
def asgK (K : List PV → Heap → Prop) : Exit → List PV → Heap → Prop
 | .normal, τ, H => K τ H
 | _, _, _ => False
def rndK (K : Key) (v : Nat) (r : Rec) (Q : PV → Heap → Prop) : Exit → List PV → Heap → Prop
 | .normal, _, H => H K = some (.loop { r with st := .busy } v) ∧ Q (.bool true) (H.set K (.loop { r with st := .ready, pending := none } v))
 | .ret, _, H => H K = some (.loop { r with st := .busy } v) ∧ Q (.bool false) (H.set K (.loop { r with st := .done, pending := some .ret } v))
 | .exit id, _, H => H K = some (.loop { r with st := .busy } v) ∧ Q (.bool false) (H.set K (.loop { r with st := .done, pending := some (.exit id) } v))
 | _, _, _ => False
def setAll (τ : List PV) : List (Nat × PV) → List PV
 | [] => τ
 | (t, p) :: ps => setAll (τ.set t p) ps
def callN (E : Env) : Nat → Handler
 | 0, _, _, _, _, _ => False
 | n + 1, path, f, args, H, Q =>
  match f with
  | .fn g _ _ =>
   match E.inl g with
   | some fn =>
    match fn.body with
    | some c => args.length ≤ fn.ntmps ∧ ev E (callN E n) path false g c (retK E fn.results.toList Q) (args ++ List.replicate (fn.ntmps - args.length) .undef) H
    | none => False
   | none =>
    match E.mt g with
    | some m => m args H Q
    | none => False
  | .yld K v =>
   match H K with
   | some (.loop r v') => v' = v ∧ r.st = .ready ∧ args.length = r.params.length ∧
    ev E (callN E n) path true r.fn r.assign (asgK fun τ H => H K = some (.loop r v) ∧
     ev E (callN E n) path true r.fn r.body (rndK K v r Q) τ (H.set K (.loop { r with st := .busy } v))) (setAll r.tmps (r.params.zip args)) H
   | _ => False
  | _ => False
def wk : PV → PV → Prop
 | .sl rows ex, .sl rows' ex' => wkR rows rows' ∧ (ex' = true → ex = true)
 | .agg xs, .agg ys => wkL xs ys
 | .tup xs, .tup ys => wkL xs ys
 | .eref r o, .eref r' o' => wkL r r' ∧ o = o'
 | .fn f a b, .fn f' a' b' => f = f' ∧ wkL a a' ∧ wkL b b'
 | a, b => a = b
where
 wkL : List PV → List PV → Prop
 | [], [] => True
 | a :: as, b :: bs => wk a b ∧ wkL as bs
 | _, _ => False
 wkR : List (List PV) → List (List PV) → Prop
 | [], [] => True
 | a :: as, b :: bs => wkL a b ∧ wkR as bs
 | _, _ => False
def finK (r : PV) (v : PV) (H : Heap) : Prop := (frz (α := PV) 8 v fun t _ => .ret t).wp True (fun t _ => wk t r) H
def Fn (E : Env) (n g : Nat) (fn : Func) (c : Code) (args : List PV) (r : PV) : Prop :=
 ev E (callN E n) [] false g c (retK E fn.results.toList (finK r)) (args ++ List.replicate (fn.ntmps - args.length) .undef) Heap.empty
end Wb
