/- A symbolic executor for the functions of this seat: abstract values, states, the operations, the run. Definitions alone. -/
import Derived.Test.YtckbbcjbbmgmoaaDoorGlo
import Derived.Orders
import Derived.ScopeJumps
import Derived.Below
namespace Go.Proofs.YtckbbcjbbmgmoaaDoor
namespace Sy
open Go
set_option linter.unusedVariables false

/-- Leaf operations are applied through a letter of this type, which the evaluation cannot open. -/
abbrev Seal : Type 1 := ∀ {α β : Type}, (α → β) → α → β
def std : Seal := fun f x => f x
def L2 (L : Seal) {α β γ : Type} (f : α → β → γ) (a : α) (b : β) : γ := L (L f a) b
def L3 (L : Seal) {α β γ δ : Type} (f : α → β → γ → δ) (a : α) (b : β) (c : γ) : δ := L (L (L f a) b) c

/-- A map's key; the kind of keys that a map has. -/
inductive Ky where
  | i (n : Int)
  | s (l : List UInt8)
  | a (l : List Int)
  deriving DecidableEq
inductive KK where
  | i (k : IntKind)
  | s
  | a (ks : List IntKind)
  | no
  deriving DecidableEq

inductive AV where
  | dead
  | bool (b : Bool)
  | int (k : IntKind) (n : Int)
  | str (l : List UInt8)
  | nilp
  | nilm
  | nilf
  | nils
  | nili
  | ifb (nil : Bool)              -- an interface's value: is it nil?
  | emp
  | emz
  | lst (sz n : Nat) (get : Nat → Nat → AV)
  | iptr (n : Nat) (get : Nat → AV)
  | ref (id off : Nat)
  | eref (id sz i off : Nat)
  | sl (id sz off n : Nat)
  | fn (f : FuncId) (first caps : List AV)
  | agg (cs : List AV)
  | arr (n : Nat) (get : Nat → AV)              -- an array's value, by a function
  | tup (vs : List AV)
  | mp (id : Nat)                                -- a map of the call's own
  | bidx (id off n i : Nat)                      -- one of n cells of a block, from an offset on
  | mpi (kk : KK) (n : Nat) (has : Ky → Bool) (val : Ky → AV)      -- a map that nothing turns

/-- A block of the call's own. -/
inductive Ob where
  | box (ty : Nat) (cs : List AV)
  | row (ty sz n : Nat) (get : Nat → Nat → AV)
  | spr (ty : Nat) (cs : List AV)              -- a row whose first cells are told one by one
  | map (kk : KK) (n : Nat) (has : Ky → Bool) (val : Ky → AV)
  | gone

structure St where
  slots : List (Nat × AV)
  objs : List (Nat × Ob)
  ice : List Nat
  kn : List (Nat × Bool)        -- slots that hold a bool that is known

inductive Ex where
  | normal | exit (id : Nat) | goto (l : Nat) | ret

inductive Tree : Type 1 where
  | fail (why : Nat)
  | need (b : Bool) (k : Tree)
  | must (p : Prop) (k : Tree)
  | ite (b : Bool) (t e : Tree)
  | done (r : AV)
  | yes
  | call (f : FuncId) (xs : List AV) (k : AV → Tree)
  | ex (X : Type) (f : X → Tree)
  | all (X : Type) (f : X → Tree)
  | sup (p : Prop) (k : Tree)
  | and (a b : Tree)

/-- Tests of numbers that the evaluation does at once. -/
def nbeq (a b : Nat) : Bool := decide (a = b)
def nble (a b : Nat) : Bool := decide (a ≤ b)
def nblt (a b : Nat) : Bool := decide (a < b)

/-! ### Lists, by plain recursion -/
def lget {α : Type} (d : α) : List α → Nat → α
  | [], _ => d
  | x :: _, 0 => x
  | _ :: xs, n + 1 => lget d xs n
def lset {α : Type} (v : α) : List α → Nat → List α
  | [], _ => []
  | _ :: xs, 0 => v :: xs
  | x :: xs, n + 1 => x :: lset v xs n
def ltake {α : Type} : List α → Nat → List α
  | _, 0 => []
  | [], _ + 1 => []
  | x :: xs, n + 1 => x :: ltake xs n
def ldrop {α : Type} : List α → Nat → List α
  | xs, 0 => xs
  | [], _ + 1 => []
  | _ :: xs, n + 1 => ldrop xs n
def lapp {α : Type} : List α → List α → List α
  | [], ys => ys
  | x :: xs, ys => x :: lapp xs ys
def lmap {α β : Type} (f : α → β) : List α → List β
  | [] => []
  | x :: xs => f x :: lmap f xs
def llen {α : Type} : List α → Nat
  | [] => 0
  | _ :: xs => llen xs + 1
/-- ys laid over xs from n on. -/
def lwrite {α : Type} : List α → Nat → List α → List α
  | xs, _, [] => xs
  | xs, n, y :: ys => lwrite (lset y xs n) (n + 1) ys
def ltab {α : Type} (f : Nat → α) : Nat → Nat → List α
  | _, 0 => []
  | i, n + 1 => f i :: ltab f (i + 1) n
def lhas : List Nat → Nat → Bool
  | [], _ => false
  | x :: xs, n => match nbeq x n with | true => true | false => lhas xs n
def aget {α : Type} : List (Nat × α) → Nat → Option α
  | [], _ => none
  | (i, x) :: xs, n => match nbeq i n with | true => some x | false => aget xs n

/-! ### What is known of the program's types -/
inductive TK where
  | int (k : IntKind) | bool | str | ptr | func | map (key elem : Nat) | other | iface
  | slice (elem esz ebytes : Nat)
  | arr (n elem esz : Nat)
  | struct (fs : List (Nat × Nat))        -- offset, type
structure TI where
  sz : Nat
  isAgg : Bool
  zero : List AV
  k : TK
  eq : Bool           -- a struct of plain parts, all of which are looked at by ==
  pt : Option Nat     -- a pointer's element type
  up : Bool           -- unsafe.Pointer
  lies : Bool         -- a variable of the type lies at a variable of the type
inductive TT where
  | leaf
  | node (l : TT) (t : Nat) (i : TI) (r : TT)
def TT.find : TT → Nat → Option TI
  | .leaf, _ => none
  | .node l t i r, n => match nbeq n t with
    | true => some i
    | false => match nblt n t with
      | true => l.find n
      | false => r.find n

/-! ### Values -/
def ofV : Value → AV
  | .bool b => .bool b
  | .int k n => .int k n
  | .string s => .str s.data.toList
  | .pointer none => .nilp
  | .map none => .nilm
  | .nilFunc => .nilf
  | .nilIface => .nili
  | .slice none n c => match n, c with
    | 0, 0 => .nils
    | _, _ => .dead
  | .func (.func f) a b => match a.toList with
    | [] => match b.toList with
      | [] => .fn f [] []
      | _ => .dead
    | _ => .dead
  | _ => .dead
def ofVs : Value → AV
  | .agg cs => .agg (lmap ofV cs.toList)
  | v => ofV v
def AV.cells : AV → List AV
  | .agg cs => cs
  | .arr n get => ltab get 0 n
  | v => [v]
/-- Values that surely fill one cell each. -/
def solid1 : AV → Bool
  | .dead => false
  | .agg _ => false
  | .arr _ _ => false
  | .tup _ => false
  | _ => true
def solidV : AV → Bool
  | .agg _ => true
  | .arr _ _ => true
  | v => solid1 v
def solidVs : List AV → Bool
  | [] => true
  | x :: xs => match solidV x with | true => solidVs xs | false => false
def condG (c : Bool) (g g' : Nat → Nat → AV) : Nat → Nat → AV := cond c g g'
/-- One value or the other, cell by cell. -/
def sel1 (L : Seal) (c : Bool) : AV → AV → AV
  | .bool a, .bool b => .bool (L3 L (fun (c a b : Bool) => cond c a b) c a b)
  | .int k a, .int k' b => match decide (k = k') with
    | true => .int k (L3 L (fun (c : Bool) (a b : Int) => cond c a b) c a b)
    | false => .dead
  | .str a, .str b => .str (L3 L (fun (c : Bool) (a b : List UInt8) => cond c a b) c a b)
  | .nilp, .nilp => .nilp
  | .nilm, .nilm => .nilm
  | .nilf, .nilf => .nilf
  | .nils, .nils => .nils
  | .nili, .nili => .nili
  | .ifb a, .ifb b => .ifb (L3 L (fun (c a b : Bool) => cond c a b) c a b)
  | .lst sz n get, .nils => .lst sz (L3 L (fun (c : Bool) (a b : Nat) => cond c a b) c n 0) get
  | .nils, .lst sz n get => .lst sz (L3 L (fun (c : Bool) (a b : Nat) => cond c a b) c 0 n) get
  | .lst sz n get, .lst sz' n' get' => match decide (sz = sz') with
    | true => .lst sz (L3 L (fun (c : Bool) (a b : Nat) => cond c a b) c n n') (L3 L condG c get get')
    | false => .dead
  | _, _ => .dead

/-- The blocks of the call's own that a value points to. -/
def ids0 : AV → List Nat
  | .ref id _ => [id]
  | .eref id _ _ _ => [id]
  | .sl id _ _ _ => [id]
  | .mp id => [id]
  | .bidx id _ _ _ => [id]
  | _ => []
def ids0L : List AV → List Nat
  | [] => []
  | x :: xs => lapp (ids0 x) (ids0L xs)
def ids1 : AV → List Nat
  | .fn _ a b => lapp (ids0L a) (ids0L b)
  | v => ids0 v
def idsL : List AV → List Nat
  | [] => []
  | x :: xs => lapp (ids1 x) (idsL xs)
/-- Values that point to no block of the call's own. -/
def plain0 : AV → Bool
  | .fn _ _ _ => false
  | .agg _ => false
  | .tup _ => false
  | .ref _ _ => false
  | .eref _ _ _ _ => false
  | .sl _ _ _ _ => false
  | .mp _ => false
  | .bidx _ _ _ _ => false
  | _ => true
def plainL : List AV → Bool
  | [] => true
  | x :: xs => match plain0 x with | true => plainL xs | false => false
def free1 : AV → Bool
  | .fn _ a b => match plainL a with | true => plainL b | false => false
  | v => plain0 v
def freeL : List AV → Bool
  | [] => true
  | x :: xs => match free1 x with | true => freeL xs | false => false
def idsV : AV → List Nat
  | .agg cs => idsL cs
  | .tup cs => idsL cs
  | .fn _ a b => lapp (idsL a) (idsL b)
  | v => ids1 v
def idsVs : List AV → List Nat
  | [] => []
  | x :: xs => lapp (idsV x) (idsVs xs)

/-- A value that no later write can turn: its blocks are frozen. -/
def flat (get : Nat → Nat → AV) (sz : Nat) : Nat → AV :=
  match sz with
  | 1 => fun j => get j 0
  | sz => fun j => get (j / sz) (j % sz)
def imm1 (L : Seal) (ob : Nat → Option Ob) : AV → Option AV
  | .sl id sz off n => match ob id with
    | some (.row ty sz' _ get) => match nbeq sz sz' with
      | true => some (.lst sz n (fun i j => get (L2 L Nat.add off i) j))
      | false => none
    | _ => none
  | .ref id off => match ob id with
    | some (.box ty cs) => match freeL cs with
      | true => some (.iptr (llen cs - off) (fun j => lget .dead cs (off + j)))
      | false => none
    | some (.row ty sz n get) => match off with
      | 0 => some (.iptr (n * sz) (flat get sz))
      | _ => none
    | _ => none
  | .eref id sz i off => match ob id with
    | some (.row ty sz' _ get) => match nbeq sz sz' with
      | true => some (.iptr (sz - off) (fun j => get i (off + j)))
      | false => none
    | _ => none
  | .fn f a b => match free1 (.fn f a b) with
    | true => some (.fn f a b)
    | false => none
  | .agg _ => none
  | .tup _ => none
  | .mp id => match ob id with
    | some (.map kk n has val) => some (.mpi kk n has val)
    | _ => none
  | .bidx _ _ _ _ => none
  | v => some v
def immL (L : Seal) (ob : Nat → Option Ob) : List AV → Option (List AV)
  | [] => some []
  | x :: xs => match imm1 L ob x with
    | some y => match immL L ob xs with
      | some ys => some (y :: ys)
      | none => none
    | none => none
def immV (L : Seal) (ob : Nat → Option Ob) : AV → Option AV
  | .agg cs => match immL L ob cs with | some ds => some (.agg ds) | none => none
  | .fn f a b => match immL L ob a with
    | some a' => match immL L ob b with
      | some b' => some (.fn f a' b')
      | none => none
    | none => none
  | v => imm1 L ob v
def immVs (L : Seal) (ob : Nat → Option Ob) : List AV → Option (List AV)
  | [] => some []
  | x :: xs => match immV L ob x with
    | some y => match immVs L ob xs with
      | some ys => some (y :: ys)
      | none => none
    | none => none

/-! ### Leaf operations -/
def wadd (k : IntKind) (a b : Int) : Int := k.wrap (a + b)
def wsub (k : IntKind) (a b : Int) : Int := k.wrap (a - b)
def wmul (k : IntKind) (a b : Int) : Int := k.wrap (a * b)
def wquo (k : IntKind) (a b : Int) : Int := k.wrap (a.tdiv b)
def band (k : IntKind) (a b : Int) : Int := k.wrap (BitVec.ofInt k.bits a &&& BitVec.ofInt k.bits b).toNat
def bor (k : IntKind) (a b : Int) : Int := k.wrap (BitVec.ofInt k.bits a ||| BitVec.ofInt k.bits b).toNat
def bxor (k : IntKind) (a b : Int) : Int := k.wrap (BitVec.ofInt k.bits a ^^^ BitVec.ofInt k.bits b).toNat
def bandn (k : IntKind) (a b : Int) : Int := k.wrap (BitVec.ofInt k.bits a &&& ~~~ BitVec.ofInt k.bits b).toNat
def wshl (k : IntKind) (a b : Int) : Int := k.wrap (a * 2 ^ (min b.toNat k.bits))
def wshr (k : IntKind) (a b : Int) : Int := a.fdiv (2 ^ (min b.toNat k.bits))
def ieq (a b : Int) : Bool := a == b
def ine (a b : Int) : Bool := a != b
def ilt (a b : Int) : Bool := decide (a < b)
def ile (a b : Int) : Bool := decide (a ≤ b)
def beqB (a b : Bool) : Bool := a == b
def seq (a b : List UInt8) : Bool := a == b
def slt (a b : List UInt8) : Bool := Op.bytesLess a b
def slen (a : List UInt8) : Int := a.length
def scat (a b : List UInt8) : List UInt8 := a ++ b
def sidx (a : List UInt8) (i : Int) : Int := (a.getD i.toNat 0).toNat
def ssub (a : List UInt8) (i j : Int) : List UInt8 := (a.take j.toNat).drop i.toNat
def catOk (a b : List UInt8) : Bool := decide (a.length + b.length ≤ 9223372036854775807)
def inR (i n : Int) : Bool := decide (0 ≤ i) && decide (i < n)
def inS (i j n : Int) : Bool := decide (0 ≤ i) && decide (i ≤ j) && decide (j ≤ n)
def inC (a n : Int) : Bool := decide (0 ≤ a) && decide (a ≤ n)
def natI (n : Nat) : Int := n
def imin (a b : Int) : Int := min a b
def imax (a b : Int) : Int := max a b
def bytesOf (n : Nat) (f : Nat → Int) : List UInt8 := (List.range n).map fun i => UInt8.ofNat (f i).toNat
def AV.toI : AV → Int
  | .int _ n => n
  | _ => 0
def mkOk (eb : Nat) (n c : Int) : Bool := decide (0 ≤ n) && decide (n ≤ c) && decide ((eb : Int) * c ≤ 140737488355328) && decide (c ≤ 9223372036854775807)
def roomOk (bytes n m : Nat) : Bool := decide ((n + m) * bytes ≤ 140737488355328) && decide (n + m ≤ 9223372036854775807)

/-! ### Maps -/
def kyeq (a b : Ky) : Bool := decide (a = b)
/-- The same kind, of keys of one cell. -/
def kkOk : KK → KK → Bool
  | .i a, .i b => decide (a = b)
  | .s, .s => true
  | _, _ => false
def mapN (has : Bool) (n : Nat) : Nat := cond has n (n + 1)
def mapD (has : Bool) (n : Nat) : Nat := cond has (n - 1) n
def andN (a b : Bool) : Bool := !a && b
def selL (L : Seal) (c : Bool) : List AV → List AV → List AV
  | x :: xs, y :: ys => sel1 L c x y :: selL L c xs ys
  | _, _ => []
/-- One value or the other. -/
def selV (L : Seal) (c : Bool) : AV → AV → AV
  | .agg xs, .agg ys => match nbeq (llen xs) (llen ys) with
    | true => .agg (selL L c xs ys)
    | false => .dead
  | x, y => sel1 L c x y
def intsOf : List IntKind → List AV → Option (List Int)
  | [], [] => some []
  | k :: ks, .int k' n :: xs => match decide (k = k') with
    | true => match intsOf ks xs with | some l => some (n :: l) | none => none
    | false => none
  | _, _ => none
def keyOf : KK → AV → Option Ky
  | .i k, .int k' n => match decide (k = k') with | true => some (.i n) | false => none
  | .s, .str l => some (.s l)
  | .a ks, .agg cs => match intsOf ks cs with | some l => some (.a l) | none => none
  | _, _ => none
def kindsOf : List AV → Option (List IntKind)
  | [] => some []
  | .int k _ :: xs => match kindsOf xs with | some l => some (k :: l) | none => none
  | _ => none
def kkOf (T : TT) (t : Nat) : KK := match T.find t with
  | some i => match i.k with
    | .int k => .i k
    | .str => .s
    | _ => match i.eq, kindsOf i.zero with
      | true, some l => .a l
      | _, _ => .no
  | none => .no
def zeroOf (i : TI) : AV := match i.isAgg with
  | true => .agg i.zero
  | false => lget .dead i.zero 0
def mapOf (ob : Nat → Option Ob) : AV → Option (KK × Nat × (Ky → Bool) × (Ky → AV))
  | .mp id => match ob id with
    | some (.map kk n has val) => some (kk, n, has, val)
    | _ => none
  | .mpi kk n has val => some (kk, n, has, val)
  | _ => none
def hasPut (L : Seal) (k : Ky) (has : Ky → Bool) : Ky → Bool := fun x => L2 L or (L2 L kyeq x k) (L has x)
def valPut (L : Seal) (k : Ky) (v : AV) (val : Ky → AV) : Ky → AV := fun x => selV L (L2 L kyeq x k) v (val x)
def hasDel (L : Seal) (k : Ky) (has : Ky → Bool) : Ky → Bool := fun x => L2 L andN (L2 L kyeq x k) (L has x)

/-! ### The operations -/
inductive Act1 where
  | ok (v : AV) (os : List (Nat × Ob)) (ice : List Nat)
  | okIf (b : Bool) (v : AV) (os : List (Nat × Ob)) (ice : List Nat)
  | okP (p : Prop) (v : AV) (os : List (Nat × Ob)) (ice : List Nat)
  | call (f : FuncId) (xs : List AV) (ice : List Nat)
  | bad (why : Nat)

def arith (L : Seal) (op : BinOp) (k : IntKind) (a b : Int) : Act1 :=
  match op with
  | .add => .ok (.int k (L2 L (wadd k) a b)) [] []
  | .sub => .ok (.int k (L2 L (wsub k) a b)) [] []
  | .mul => .ok (.int k (L2 L (wmul k) a b)) [] []
  | .quo => .okIf (L2 L ine b 0) (.int k (L2 L (wquo k) a b)) [] []
  | .rem => .okIf (L2 L ine b 0) (.int k (L2 L Int.tmod a b)) [] []
  | .and => .ok (.int k (L2 L (band k) a b)) [] []
  | .or => .ok (.int k (L2 L (bor k) a b)) [] []
  | .xor => .ok (.int k (L2 L (bxor k) a b)) [] []
  | .andNot => .ok (.int k (L2 L (bandn k) a b)) [] []
  | .eql => .ok (.bool (L2 L ieq a b)) [] []
  | .neq => .ok (.bool (L2 L ine a b)) [] []
  | .lss => .ok (.bool (L2 L ilt a b)) [] []
  | .leq => .ok (.bool (L2 L ile a b)) [] []
  | .gtr => .ok (.bool (L2 L ilt b a)) [] []
  | .geq => .ok (.bool (L2 L ile b a)) [] []
  | .shl => .bad 1
  | .shr => .bad 1
def texts (L : Seal) (op : BinOp) (a b : List UInt8) : Act1 :=
  match op with
  | .add => .okIf (L2 L catOk a b) (.str (L2 L scat a b)) [] []
  | .eql => .ok (.bool (L2 L seq a b)) [] []
  | .neq => .ok (.bool (L not (L2 L seq a b))) [] []
  | .lss => .ok (.bool (L2 L slt a b)) [] []
  | .leq => .ok (.bool (L2 L or (L2 L slt a b) (L2 L seq a b))) [] []
  | .gtr => .ok (.bool (L not (L2 L or (L2 L slt a b) (L2 L seq a b)))) [] []
  | .geq => .ok (.bool (L not (L2 L slt a b))) [] []
  | _ => .bad 2
def eqK (L : Seal) (k : TK) (x y : AV) : Option Bool := match k with
  | .int _ => match x, y with
    | .int k a, .int k' b => match decide (k = k') with
      | true => some (L2 L ieq a b)
      | false => none
    | _, _ => none
  | .bool => match x, y with
    | .bool a, .bool b => some (L2 L beqB a b)
    | _, _ => none
  | .str => match x, y with
    | .str a, .str b => some (L2 L seq a b)
    | _, _ => none
  | _ => none
/-- Are the parts at some places the same? -/
def eqFs (T : TT) (L : Seal) (g : Nat → List AV → List AV → Option Bool) (xs ys : List AV) : List (Nat × Nat) → Option Bool
  | [] => some true
  | (off, t) :: r => match T.find t with
    | some i => match nble (off + i.sz) (llen xs), nble (off + i.sz) (llen ys) with
      | true, true => match g t (ltake (ldrop xs off) i.sz) (ltake (ldrop ys off) i.sz) with
        | some a => match eqFs T L g xs ys r with | some b => some (L2 L and a b) | none => none
        | none => none
      | _, _ => none
    | none => none
/-- Are an array's elements the same, from the k-th on? -/
def eqIs (L : Seal) (g : List AV → List AV → Option Bool) (sz : Nat) (xs ys : List AV) : Nat → Nat → Option Bool
  | _, 0 => some true
  | k, n + 1 => match g (ltake (ldrop xs (k * sz)) sz) (ltake (ldrop ys (k * sz)) sz) with
    | some a => match eqIs L g sz xs ys (k + 1) n with | some b => some (L2 L and a b) | none => none
    | none => none
def eq1 (L : Seal) (k : TK) : List AV → List AV → Option Bool
  | [x], [y] => eqK L k x y
  | _, _ => none
/-- Are cells of a type, of plain parts, the same? -/
def eqD (T : TT) (L : Seal) : Nat → Nat → List AV → List AV → Option Bool
  | 0, _, _, _ => none
  | d + 1, t, xs, ys => match T.find t with
    | some i => match i.k with
      | .struct fs => match i.eq with
        | true => eqFs T L (eqD T L d) xs ys fs
        | false => none
      | .arr n e esz => match i.eq, nbeq (llen xs) (n * esz), nbeq (llen ys) (n * esz), T.find e with
        | true, true, true, some ei => match nbeq ei.sz esz with
          | true => eqIs L (eqD T L d e) esz xs ys 0 n
          | false => none
        | _, _, _, _ => none
      | k => eq1 L k xs ys
    | none => none
def alike1 (T : TT) (L : Seal) (t : Nat) (x y : AV) : Option Bool :=
  match T.find t with
  | some i => match i.k with
    | .bool => match x, y with
      | .bool a, .bool b => some (L2 L beqB a b)
      | _, _ => none
    | .ptr => match x, y with
      | .nilp, .nilp => some true
      | .nilp, .ref _ _ => some false
      | .ref _ _, .nilp => some false
      | .ref a o, .ref b p => match nbeq a b, nbeq o p, i.pt with
        | true, true, some e => match T.find e with | some _ => some true | none => none
        | _, _, _ => none
      | _, _ => none
    | .slice _ _ _ => match x, y with
      | .nils, .nils => some true
      | .emp, .nils => some false
      | .emz, .nils => some false
      | _, _ => none
    | .iface => none
    | .func => match x, y with
      | .nilf, .nilf => some true
      | .nilf, .fn _ _ _ => some false
      | .fn _ _ _, .nilf => some false
      | _, _ => none
    | _ => none
  | none => none
def alike (T : TT) (L : Seal) (t : Nat) (x y : AV) : Option Bool :=
  match x, y with
  | .agg a, .agg b => match T.find t with
    | some i => match i.eq, nbeq (llen a) i.sz, nbeq (llen b) i.sz with
      | true, true, true => eqD T L 6 t a b
      | _, _, _ => none
    | none => none
  | x, y => alike1 T L t x y
def isSl (T : TT) (t : Nat) : Bool := match T.find t with
  | some i => match i.k with
    | .slice _ _ _ => true
    | _ => false
  | none => false
def bin (T : TT) (L : Seal) (op : BinOp) (t : Nat) (x y : AV) : Act1 :=
  match x, y with
  | .int k a, .int k' b => match op with
    | .shl => .okIf (L2 L ile 0 b) (.int k (L2 L (wshl k) a b)) [] []
    | .shr => .okIf (L2 L ile 0 b) (.int k (L2 L (wshr k) a b)) [] []
    | op => match decide (k = k') with
      | true => arith L op k a b
      | false => .bad 3
  | .str a, .str b => texts L op a b
  | .lst sz n get, .nils => match isSl T t with
    | true => match op with
      | .eql => .okIf (L2 L nblt 0 n) (.bool false) [] []
      | .neq => .okIf (L2 L nblt 0 n) (.bool true) [] []
      | _ => .bad 5
    | false => .bad 5
  | x, y => match op with
    | .eql => match alike T L t x y with | some b => .ok (.bool b) [] [] | none => .bad 4
    | .neq => match alike T L t x y with | some b => .ok (.bool (L not b)) [] [] | none => .bad 4
    | _ => .bad 5
def un (L : Seal) (op : UnOp) (x : AV) : Act1 :=
  match op, x with
  | .not, .bool b => .ok (.bool (L not b)) [] []
  | .neg, .int k n => .ok (.int k (L2 L (wsub k) 0 n)) [] []
  | .xor, .int k n => match k.signed with
    | true => .ok (.int k (L2 L (bxor k) (-1) n)) [] []
    | false => .ok (.int k (L2 L (bxor k) k.max n)) [] []
  | _, _ => .bad 6
def toInt : AV → Option Int
  | .int _ n => some n
  | _ => none

def opnds : Op → List Operand
  | .move x | .assign x | .box _ x | .load _ x | .nilCheck x | .sliceToArrayPointer _ x | .unOp _ _ x | .convert _ _ x | .fieldAddr _ x _ | .field _ x _ | .extract x _ => [x]
  | .pick c a b => [c, a, b]
  | .build _ ps | .buildSlice _ _ ps => lmap Prod.snd ps.toList
  | .store _ a v | .binOp _ _ a v _ | .makeSlice _ a v | .indexAddr _ a v | .index _ a v => [a, v]
  | .makeFunc _ first captured => lapp first.toList captured.toList
  | .slice _ x l h m => x :: lapp l.toList (lapp h.toList m.toList)
  | .makeMap _ _ => []
  | .lookup _ m k _ => [m, k]
  | .mapUpdate _ m k v => [m, k, v]
  | .call { callee := .value f, args := xs, .. } => f :: xs.toList
  | .call { callee := .builtin _, args := xs, .. } => xs.toList
  | _ => []

/-- Parts laid into cells. -/
def fillA (place : Nat → Option (Nat × Nat)) : List AV → List (Nat × Operand) → List AV → Option (List AV)
  | cells, [], [] => some cells
  | cells, (i, _) :: ps, v :: vs => match place i with
    | some (off, size) => match nbeq (llen v.cells) size with
      | true => match nble (off + size) (llen cells) with
        | true => fillA place (lwrite cells off v.cells) ps vs
        | false => none
      | false => none
    | none => none
  | _, _, _ => none
def TT.sizeOf (T : TT) (t : Nat) : Option Nat := match T.find t with | some i => some i.sz | none => none
def placesOf (T : TT) : List (Nat × Nat) → Option (List (Nat × Nat))
  | [] => some []
  | (off, t) :: r => match T.sizeOf t with
    | some s => match placesOf T r with
      | some l => some ((off, s) :: l)
      | none => none
    | none => none
def nth {α : Type} : List α → Nat → Option α
  | [], _ => none
  | x :: _, 0 => some x
  | _ :: xs, n + 1 => nth xs n
/-- A row's cells, in its elements' order. -/
def lrepeat (z : List AV) : Nat → List AV
  | 0 => []
  | n + 1 => lapp z (lrepeat z n)

/-- All cells whole numbers of one kind, or all texts. -/
def uniI : List AV → Option (IntKind × List Int)
  | [] => none
  | [.int k n] => some (k, [n])
  | .int k n :: xs => match uniI xs with
    | some (k', l) => match decide (k = k') with
      | true => some (k, n :: l)
      | false => none
    | none => none
  | _ => none
def uniS : List AV → Option (List (List UInt8))
  | [] => none
  | [.str s] => some [s]
  | .str s :: xs => match uniS xs with
    | some l => some (s :: l)
    | none => none
  | _ => none
def nthI (l : List Int) (i : Nat) : Int := l.getD i 0
def nthS (l : List (List UInt8)) (i : Nat) : List UInt8 := l.getD i []
def rowOf (L : Seal) (cs : List AV) (sz : Nat) : Nat → Nat → AV :=
  match sz with
  | 1 => match uniI cs with
    | some (k, l) => fun i _ => .int k (L2 L nthI l i)
    | none => match uniS cs with
      | some l => fun i _ => .str (L2 L nthS l i)
      | none => fun i _ => lget .dead cs i
  | sz => fun i j => lget .dead cs (i * sz + j)

/-- The slice's bounds: low (none: 0), high (none: to the end). -/
def two (vals : List AV) (l h m : Bool) : Option (Option Int × Option Int) :=
  match m, l, h with
  | true, _, _ => none
  | false, false, false => some (none, none)
  | false, true, false => match vals with | [.int _ a] => some (some a, none) | _ => none
  | false, false, true => match vals with | [.int _ b] => some (none, some b) | _ => none
  | false, true, true => match vals with | [.int _ a, .int _ b] => some (some a, some b) | _ => none

def cMove : List AV → Act1
  | [x] => .ok x [] []
  | _ => .bad 1
def cPick : List AV → Act1
  | [.bool c, x, y] => .ok (match c with | true => x | false => y) [] []
  | _ => .bad 2
def cBin (T : TT) (L : Seal) (op : BinOp) (t : Nat) : List AV → Act1
  | [x, y] => bin T L op t x y
  | _ => .bad 3
def isCst : Operand → Bool
  | .const _ => true
  | _ => false
/-- The same, of an interface's nil against the literal too. -/
def cBinC (T : TT) (L : Seal) (op : BinOp) (t : Nat) (c : Bool) : List AV → Act1
  | [.nili, .nili] => match c, T.find t with
    | true, some { k := .iface, .. } => match op with
      | .eql => .ok (.bool true) [] []
      | .neq => .ok (.bool false) [] []
      | _ => .bad 52
    | _, _ => .bad 52
  | [.ifb b, .nili] => match c, T.find t with
    | true, some { k := .iface, .. } => match op with
      | .eql => .ok (.bool b) [] []
      | .neq => .ok (.bool (L not b)) [] []
      | _ => .bad 52
    | _, _ => .bad 52
  | vals => cBin T L op t vals
def cUn (L : Seal) (op : UnOp) : List AV → Act1
  | [x] => un L op x
  | _ => .bad 4
def isU8 (T : TT) (e : Nat) : Bool := match T.find e with
  | some i => match i.k with
    | .int .u8 => true
    | _ => false
  | none => false
def fits3 (off n m : Nat) : Prop := off + n ≤ m
def lenN (l : List UInt8) : Nat := l.length
def byteAt (l : List UInt8) (i : Nat) : Int := (l.getD i 0).toNat
def toBytes (T : TT) (t : Nat) : Bool := match T.find t with
  | some i => match i.k with
    | .slice e 1 _ => isU8 T e
    | _ => false
  | none => false
def isStr (T : TT) (t : Nat) : Bool := match T.find t with
  | some i => match i.k with
    | .str => true
    | _ => false
  | none => false
/-- A text as bytes. -/
def elemT (T : TT) (t : Nat) : Nat := match T.find t with
  | some i => match i.k with
    | .slice e _ _ => e
    | _ => 0
  | none => 0
def cBytes (T : TT) (L : Seal) (dst : Option Nat) (s t : Nat) (nw : Bool) : List AV → Act1
  | [.str l] => match cond nw dst none with
    | some d => match isStr T s with
      | true => .ok (.sl d 1 0 (L lenN l)) [(d, .row (elemT T t) 1 (L lenN l) (fun i _ => .int .u8 (L2 L byteAt l i)))] []
      | false => .bad 43
    | none => .bad 43
  | _ => .bad 43
def cConv (T : TT) (L : Seal) (s t : Nat) (ob : Nat → Option Ob) : List AV → Act1
  | [x] => match T.find s with
    | some si => match T.find t with
      | some ti => match ti.k with
        | .int k => match x with
          | .int _ n => .ok (.int k (L k.wrap n)) [] []
          | _ => .bad 11
        | .str => match x with
          | .str l => .ok (.str l) [] []
          | y => match si.k with
            | .slice e _ _ => match isU8 T e with
              | true => match y with
                | .lst 1 n get => .okP (∀ i, i < n → ∃ x, get i 0 = .int .u8 x) (.str (L2 L bytesOf n (fun i => (get i 0).toI))) [] []
                | .nils => .ok (.str []) [] []
                | .sl id 1 off n => match ob id with
                  | some (.row _ 1 m get) => .okP (L3 L fits3 off n m ∧ ∀ i, i < n → ∃ x, get (off + i) 0 = .int .u8 x) (.str (L2 L bytesOf n (fun i => (get (off + i) 0).toI))) [] []
                  | _ => .bad 10
                | _ => .bad 10
              | false => .bad 10
            | _ => .bad 10
        | .ptr => match x, ti.pt with
          | .ref id 0, some e => match ob id, T.find e with
            | some (.box ty cs), some ei => match si.up, ei.lies, nbeq ty e, nbeq (llen cs) ei.sz, nblt 0 ei.sz with
              | true, true, true, true, true => .ok (.ref id 0) [] []
              | _, _, _, _, _ => .bad 46
            | _, _ => .bad 46
          | _, _ => .bad 46
        | .other => match x, si.pt with
          | .ref id off, some e => match ob id, T.find e with
            | some (.box _ cs), some ei => match ti.up, nblt 0 ei.sz, nblt off (llen cs) with
              | true, true, true => .ok (.ref id off) [] []
              | _, _, _ => .bad 47
            | _, _ => .bad 47
          | _, _ => .bad 47
        | _ => .bad 11
      | none => .bad 11
    | none => .bad 11
  | _ => .bad 11
def sameAV : AV → AV → Bool
  | .bool a, .bool b => decide (a = b)
  | .int k n, .int k' m => match decide (k = k') with | true => decide (n = m) | false => false
  | .str l, .str m => decide (l = m)
  | .nilp, .nilp => true
  | .nilm, .nilm => true
  | .nilf, .nilf => true
  | .nils, .nils => true
  | .nili, .nili => true
  | _, _ => false
def sameAVs : List AV → List AV → Bool
  | [], [] => true
  | x :: xs, y :: ys => match sameAV x y with | true => sameAVs xs ys | false => false
  | _, _ => false
def cAlloc (T : TT) (dst : Option Nat) (t : Nat) (nw : Bool) : Act1 :=
  match cond nw dst none with
  | some d => match T.find t with
    | some i => match i.k with
      | .arr n e esz => match T.find e with
        | some ei => match sameAVs i.zero (lrepeat ei.zero n), nbeq (llen ei.zero) esz, freeL ei.zero with
          | true, true, true => .ok (.ref d 0) [(d, .row t esz n (fun _ j => lget .dead ei.zero j))] []
          | _, _, _ => .bad 12
        | none => .bad 12
      | _ => .ok (.ref d 0) [(d, .box t i.zero)] []
    | none => .bad 12
  | none => .bad 12
def cBox (T : TT) (L : Seal) (dst : Option Nat) (t : Nat) (nw : Bool) : List AV → Act1
  | [x] => match cond nw dst none with
    | some d => match T.find t with
      | some i => match nbeq (llen x.cells) i.sz, solidV x with
        | true, true => match i.k with
          | .arr n _ esz => match freeL x.cells, nbeq (n * esz) i.sz with
            | true, true => .ok (.ref d 0) [(d, .row t esz n (rowOf L x.cells esz))] []
            | _, _ => .bad 13
          | _ => .ok (.ref d 0) [(d, .box t x.cells)] []
        | _, _ => .bad 13
      | none => .bad 13
    | none => .bad 13
  | _ => .bad 13
def cBuild (T : TT) (t : Nat) (ps : List (Nat × Operand)) (vals : List AV) : Act1 :=
  match T.find t with
  | some i => match i.k with
    | .struct fs => match placesOf T fs with
      | some pl => match cond (solidVs vals) (fillA (nth pl) i.zero ps vals) none with
        | some cs => .ok (.agg cs) [] []
        | none => .bad 14
      | none => .bad 14
    | .arr _ _ esz => match cond (solidVs vals) (fillA (fun i => some (i * esz, esz)) i.zero ps vals) none with
      | some cs => .ok (.agg cs) [] []
      | none => .bad 14
    | _ => .bad 14
  | none => .bad 14
def slitV (n d esz : Nat) : AV := match n with
  | 0 => .emz
  | n => .sl d esz 0 n
def cSlit (T : TT) (L : Seal) (dst : Option Nat) (t n : Nat) (ps : List (Nat × Operand)) (vals : List AV) (ob : Nat → Option Ob) (nw : Bool) : Act1 :=
  match cond nw dst none with
  | some d => match T.find t with
    | some i => match i.k with
      | .slice e esz _ => match T.find e with
        | some ei => match cond (nble (n * esz) 16777216) (immVs L ob vals) none with
          | some vals' => match cond (solidVs vals') (fillA (fun i => some (i * esz, esz)) (lrepeat ei.zero n) ps vals') none with
            | some cs => .ok (slitV n d esz) [(d, .row e esz n (rowOf L cs esz))] (idsVs vals)
            | none => .bad 15
          | none => .bad 15
        | none => .bad 15
      | _ => .bad 15
    | none => .bad 15
  | none => .bad 15
def cLoad (T : TT) (L : Seal) (t : Nat) (ob : Nat → Option Ob) : List AV → Act1
  | [p] => match T.find t with
    | some i => match p with
      | .ref id off => match ob id with
        | some (.box ty cs) => match nble (off + i.sz) (llen cs) with
          | true => match i.isAgg with
            | true => .ok (.agg (ltake (ldrop cs off) i.sz)) [] []
            | false => .ok (lget .dead cs off) [] []
          | false => .bad 16
        | some (.row ty sz n get) => match off, i.isAgg, nbeq i.sz (n * sz) with
          | 0, true, true => match nblt 16 i.sz with
            | true => .ok (.arr i.sz (flat get sz)) [] []
            | false => .ok (.agg (ltab (flat get sz) 0 i.sz)) [] []
          | _, _, _ => .bad 16
        | some (.spr ty cs) => match nble (off + i.sz) (llen cs) with
          | true => match i.isAgg with
            | true => .ok (.agg (ltake (ldrop cs off) i.sz)) [] []
            | false => .ok (lget .dead cs off) [] []
          | false => .bad 16
        | _ => .bad 16
      | .eref id sz e off => match ob id with
        | some (.row ty sz' _ get) => match nbeq sz sz' with
          | true => match nble (off + i.sz) sz with
            | true => match i.isAgg with
              | true => .ok (.agg (ltab (fun j => get e (off + j)) 0 i.sz)) [] []
              | false => .ok (get e (off + 0)) [] []
            | false => .bad 17
          | false => .bad 17
        | _ => .bad 17
      | .iptr n get => match nble i.sz n with
        | true => match i.isAgg with
          | true => .ok (.agg (ltab get 0 i.sz)) [] []
          | false => .ok (get 0) [] []
        | false => .bad 18
      | .bidx id off n q => match ob id with
        | some (.box _ cs) => match i.isAgg, nble (off + n) (llen cs) with
          | false, true => .ok (rowOf L (ltake (ldrop cs off) n) 1 q 0) [] []
          | _, _ => .bad 18
        | _ => .bad 18
      | _ => .bad 19
    | none => .bad 19
  | _ => .bad 19
/-- Cells of which the i-th is another one. -/
def setN (L : Seal) (i : Nat) (v : AV) : Nat → List AV → List AV
  | _, [] => []
  | k, x :: xs => sel1 L (L2 L nbeq i k) v x :: setN L i v (k + 1) xs
/-- What a store of cells makes of an element's cells. -/
def over (L : Seal) (e off n : Nat) (cs : List AV) (get : Nat → Nat → AV) : Nat → Nat → AV :=
  fun e' j => match nble off j with
    | true => match nblt j (off + n) with
      | true => sel1 L (L2 L nbeq e' e) (lget .dead cs (j - off)) (get e' j)
      | false => get e' j
    | false => get e' j
def cStore (T : TT) (L : Seal) (t : Nat) (ob : Nat → Option Ob) (ice : Nat → Bool) : List AV → Act1
  | [p, v] => match T.find t with
    | some i => match nbeq (llen v.cells) i.sz with
      | true => match cond (solidV v) p .dead with
        | .ref id off => match ice id with
          | false => match ob id with
            | some (.box ty cs) => match nble (off + i.sz) (llen cs) with
              | true => .ok .dead [(id, .box ty (lwrite cs off v.cells))] []
              | false => .bad 20
            | some (.row ty sz n _) => match off, nbeq i.sz (n * sz), freeL v.cells with
              | 0, true, true => match v, nbeq sz 1 with
                | .arr _ get', true => .ok .dead [(id, .row ty sz n (fun i _ => get' i))] []
                | v, _ => .ok .dead [(id, .row ty sz n (rowOf L v.cells sz))] []
              | _, _, _ => .bad 20
            | some (.spr ty cs) => match nble (off + i.sz) (llen cs) with
              | true => .ok .dead [(id, .spr ty (lwrite cs off v.cells))] []
              | false => .bad 20
            | _ => .bad 20
          | true => .bad 20
        | .eref id sz e off => match ice id with
          | false => match ob id with
            | some (.row ty sz' n get) => match nbeq sz sz' with
              | true => match nble (off + i.sz) sz with
                | true => match immL L ob v.cells with
                  | some cs' => match lhas (idsL v.cells) id with
                    | false => .ok .dead [(id, .row ty sz n (over L e off i.sz cs' get))] (idsL v.cells)
                    | true => .bad 21
                  | none => .bad 21
                | false => .bad 21
              | false => .bad 21
            | _ => .bad 21
          | true => .bad 21
        | .bidx id off n q => match ice id with
          | false => match ob id with
            | some (.box ty cs) => match v.cells, nble (off + n) (llen cs) with
              | [x], true => .ok .dead [(id, .box ty (lwrite cs off (setN L q x 0 (ltake (ldrop cs off) n))))] []
              | _, _ => .bad 22
            | _ => .bad 22
          | true => .bad 22
        | _ => .bad 22
      | false => .bad 23
    | none => .bad 24
  | _ => .bad 24
def cFaddr (T : TT) (t f : Nat) : List AV → Act1
  | [p] => match T.find t with
    | some { k := .struct fs, .. } => match nblt f (llen fs) with
      | true => match T.sizeOf (lget (0, 0) fs f).2 with
        | some (_ + 1) => match p with
          | .ref id off => .ok (.ref id (off + (lget (0, 0) fs f).1)) [] []
          | .eref id sz i off => .ok (.eref id sz i (off + (lget (0, 0) fs f).1)) [] []
          | .iptr n get => .ok (.iptr (n - (lget (0, 0) fs f).1) (fun j => get ((lget (0, 0) fs f).1 + j))) [] []
          | _ => .bad 25
        | _ => .bad 25
      | false => .bad 25
    | _ => .bad 25
  | _ => .bad 25
def cField (T : TT) (t f : Nat) : List AV → Act1
  | [.agg cs] => match T.find t with
    | some { k := .struct fs, .. } => match nblt f (llen fs) with
      | true => match T.find (lget (0, 0) fs f).2 with
        | some i => match nble ((lget (0, 0) fs f).1 + i.sz) (llen cs) with
          | true => match i.isAgg with
            | true => .ok (.agg (ltake (ldrop cs (lget (0, 0) fs f).1) i.sz)) [] []
            | false => match nbeq i.sz 1 with
              | true => .ok (lget .dead cs (lget (0, 0) fs f).1) [] []
              | false => .bad 26
          | false => .bad 26
        | none => .bad 26
      | false => .bad 26
    | _ => .bad 26
  | _ => .bad 26
def cIaddr (T : TT) (L : Seal) (t : Nat) (ob : Nat → Option Ob) : List AV → Act1
  | [p, .int _ i] => match T.find t with
    | some ti => match ti.k with
      | .slice _ esz _ => match p with
        | .lst sz n get => match nbeq esz sz with
          | true => .okIf (L2 L inR i (L natI n)) (.iptr sz (fun j => get (L Int.toNat i) j)) [] []
          | false => .bad 27
        | .sl id sz off n => match nbeq esz sz with
          | true => match ob id with
            | some (.spr _ cs) => match off, nblt (llen cs / sz - 1) n, nble ((llen cs / sz - 1) * sz) (llen cs) with
              | 0, true, true => .okIf (L2 L ieq i (natI (llen cs / sz - 1))) (.ref id ((llen cs / sz - 1) * sz)) [] []
              | _, _, _ => .bad 27
            | _ => .okIf (L2 L inR i (L natI n)) (.eref id sz (L2 L Nat.add off (L Int.toNat i)) 0) [] []
          | false => .bad 27
        | _ => .bad 27
      | .arr n _ esz => match nblt 1 n with
        | true => match p with
          | .ref id off => match ob id with
            | some (.row _ sz m _) => match off, nbeq esz sz, nbeq m n with
              | 0, true, true => .okIf (L2 L inR i (L natI n)) (.eref id sz (L Int.toNat i) 0) [] []
              | _, _, _ => .bad 28
            | some (.box _ _) => match nbeq esz 1 with
              | true => .okIf (L2 L inR i (L natI n)) (.bidx id off n (L Int.toNat i)) [] []
              | false => .bad 28
            | _ => .bad 28
          | .iptr m get => match nbeq m (n * esz) with
            | true => match esz with
              | 1 => .okIf (L2 L inR i (L natI n)) (.iptr 1 (fun _ => get (L Int.toNat i))) [] []
              | esz => .okIf (L2 L inR i (L natI n)) (.iptr esz (fun j => get (L2 L Nat.add (L2 L Nat.mul (L Int.toNat i) esz) j))) [] []
            | false => .bad 28
          | _ => .bad 28
        | false => .bad 28
      | _ => .bad 29
    | none => .bad 29
  | _ => .bad 29
def cIndex (T : TT) (L : Seal) (t : Nat) : List AV → Act1
  | [.str l, .int _ i] => match T.find t with
    | some { k := .str, .. } => .okIf (L2 L inR i (L slen l)) (.int .u8 (L2 L sidx l i)) [] []
    | _ => .bad 30
  | [.agg cs, .int _ i] => match T.find t with
    | some { k := .arr n e 1, .. } => match nbeq (llen cs) n, T.find e with
      | true, some ei => match ei.isAgg, nbeq ei.sz 1 with
        | false, true => .okIf (L2 L inR i (L natI n)) (rowOf L cs 1 (L Int.toNat i) 0) [] []
        | _, _ => .bad 30
      | _, _ => .bad 30
    | _ => .bad 30
  | _ => .bad 30
/-- What is left of n elements from l on to h. -/
def cutN (L : Seal) (n : Nat) : Option Int → Option Int → Nat
  | none, none => n
  | none, some b => L Int.toNat b
  | some a, none => L2 L Nat.sub n (L Int.toNat a)
  | some a, some b => L2 L Nat.sub (L Int.toNat b) (L Int.toNat a)
def cutO (L : Seal) (off : Nat) : Option Int → Nat
  | none => off
  | some a => L2 L Nat.add off (L Int.toNat a)
def cutG (L : Seal) (get : Nat → Nat → AV) : Option Int → Nat → Nat → AV
  | none => get
  | some a => fun i j => get (L2 L Nat.add (L Int.toNat a) i) j
def cutS (L : Seal) (s : List UInt8) : Option Int → Option Int → List UInt8
  | none, none => s
  | none, some b => L2 L (fun (s : List UInt8) (b : Int) => s.take b.toNat) s b
  | some a, none => L2 L (fun (s : List UInt8) (a : Int) => s.drop a.toNat) s a
  | some a, some b => L3 L ssub s a b
def cutOk (L : Seal) (n : Int) : Option Int → Option Int → Bool
  | none, none => true
  | none, some b => L2 L inC b n
  | some a, none => L2 L inC a n
  | some a, some b => L3 L inS a b n
def cSlice (T : TT) (L : Seal) (t : Nat) (ob : Nat → Option Ob) (l h m : Bool) : List AV → Act1
  | x :: vs => match T.find t with
    | some ti => match two vs l h m with
      | some (a, b) => match ti.k, x with
        | .arr n _ esz, .ref id off => match ob id with
          | some (.row _ sz n' _) => match off, nbeq esz sz, nbeq n' n with
            | 0, true, true => .okIf (cutOk L (L natI n) a b) (.sl id esz (cutO L 0 a) (cutN L n a b)) [] []
            | _, _, _ => .bad 32
          | some (.box _ cs) => match nbeq esz 1, nble (off + n) (llen cs), freeL (ltake (ldrop cs off) n) with
            | true, true, true => .okIf (cutOk L (L natI n) a b) (.lst 1 (cutN L n a b) (cutG L (rowOf L (ltake (ldrop cs off) n) 1) a)) [] [id]
            | _, _, _ => .bad 32
          | _ => .bad 32
        | .str, .str s => .okIf (cutOk L (L slen s) a b) (.str (cutS L s a b)) [] []
        | .slice _ esz _, .lst sz n get => match nbeq esz sz with
          | true => .okIf (cutOk L (L natI n) a b) (.lst sz (cutN L n a b) (cutG L get a)) [] []
          | false => .bad 32
        | .slice _ esz _, .sl id sz off n => match nbeq esz sz with
          | true => .okIf (cutOk L (L natI n) a b) (.sl id sz (cutO L off a) (cutN L n a b)) [] []
          | false => .bad 32
        | _, _ => .bad 33
      | none => .bad 33
    | none => .bad 33
  | _ => .bad 33
/-- A pointer to the array behind a slice: the cells are frozen. -/
def cArr (T : TT) (L : Seal) (t : Nat) (ob : Nat → Option Ob) : List AV → Act1
  | [x] => match T.find t with
    | some { k := .arr m _ 1, .. } => match imm1 L ob x with
      | some (.lst 1 n get) => match nblt 0 m with
        | true => .okIf (L2 L nble m n) (.iptr m (fun j => get j 0)) [] (ids1 x)
        | false => .bad 51
      | _ => .bad 51
    | _ => .bad 51
  | _ => .bad 51
def cExtract (i : Nat) : List AV → Act1
  | [.tup vs] => match nblt i (llen vs) with
    | true => .ok (lget .dead vs i) [] []
    | false => .bad 34
  | _ => .bad 34
def cFunc (fn : Fn) (n : Nat) (vals : List AV) : Act1 :=
  match fn with
  | .func f => .ok (.fn f (ltake vals n) (ldrop vals n)) [] []
  | _ => .bad 35
def cNil : List AV → Act1
  | [.ref id off] => .ok (.ref id off) [] []
  | [.eref id sz i off] => .ok (.eref id sz i off) [] []
  | [.iptr n get] => .ok (.iptr n get) [] []
  | [.bidx id off n i] => .ok (.bidx id off n i) [] []
  | _ => .bad 36
def cMslice (T : TT) (L : Seal) (dst : Option Nat) (t : Nat) (nw : Bool) : List AV → Act1
  | [.int _ n, .int _ c] => match cond nw dst none with
    | some d => match T.find t with
      | some { k := .slice e esz eb, .. } => match T.find e with
        | some ei => match freeL ei.zero with
          | true => .okIf (L3 L mkOk eb n c) (.sl d esz 0 (L Int.toNat n)) [(d, .row e esz (L Int.toNat n) (fun _ j => lget .dead ei.zero j))] []
          | false => .bad 37
        | none => .bad 37
      | _ => .bad 37
    | none => .bad 37
  | _ => .bad 37
def cCall (L : Seal) (ob : Nat → Option Ob) : List AV → Act1
  | .fn f first caps :: xs => match immVs L ob (lapp first (lapp xs caps)) with
    | some ys => .call f ys (idsVs (lapp first (lapp xs caps)))
    | none => .bad 38
  | _ => .bad 38
def cMake (T : TT) (dst : Option Nat) (t : Nat) (nw : Bool) : Act1 :=
  match cond nw dst none with
  | some d => match T.find t with
    | some { k := .map kt _, .. } => .ok (.mp d) [(d, .map (kkOf T kt) 0 (fun _ => false) (fun _ => .dead))] []
    | _ => .bad 60
  | none => .bad 60
def cLook (T : TT) (L : Seal) (t : Nat) (ok : Bool) (ob : Nat → Option Ob) : List AV → Act1
  | [m, k] => match T.find t with
    | some { k := .map kt et, .. } => match T.find et with
      | some ei => match mapOf ob m with
        | some (kk, n, has, val) => match kkOk kk (kkOf T kt), keyOf kk k with
          | true, some key => .ok (cond ok (.tup [selV L (L has key) (val key) (zeroOf ei), .bool (L has key)]) (selV L (L has key) (val key) (zeroOf ei))) [] []
          | _, _ => .bad 61
        | none => .bad 61
      | none => .bad 61
    | _ => .bad 61
  | _ => .bad 61
def cMup (T : TT) (L : Seal) (t : Nat) (ob : Nat → Option Ob) (ice : Nat → Bool) : List AV → Act1
  | [.mp id, k, v] => match T.find t with
    | some { k := .map kt _, .. } => match ice id, ob id with
      | false, some (.map kk n has val) => match kkOk kk (kkOf T kt), keyOf kk k with
        | true, some key => match immV L ob v, lhas (idsV v) id with
          | some v', false => .ok .dead [(id, .map kk (L2 L mapN (L has key) n) (hasPut L key has) (valPut L key v' val))] (idsV v)
          | _, _ => .bad 62
        | _, _ => .bad 62
      | _, _ => .bad 62
    | _ => .bad 62
  | _ => .bad 62
def cMdel (T : TT) (L : Seal) (t : Nat) (ob : Nat → Option Ob) (ice : Nat → Bool) : List AV → Act1
  | [.mp id, k] => match T.find t with
    | some { k := .map kt _, .. } => match ice id, ob id with
      | false, some (.map kk n has val) => match kkOk kk (kkOf T kt), keyOf kk k with
        | true, some key => .ok (.tup []) [(id, .map kk (L2 L mapD (L has key) n) (hasDel L key has) val)] []
        | _, _ => .bad 63
      | _, _ => .bad 63
    | _ => .bad 63
  | _ => .bad 63
def cLen (T : TT) (L : Seal) (t : Nat) (ob : Nat → Option Ob) : List AV → Act1
  | [x] => match T.find t with
    | some i => match i.k with
      | .str => match x with
        | .str l => .ok (.int .i64 (L slen l)) [] []
        | _ => .bad 39
      | .slice _ _ _ => match x with
        | .lst _ n _ => .ok (.int .i64 (L natI n)) [] []
        | .sl _ _ _ n => .ok (.int .i64 (L natI n)) [] []
        | .nils => .ok (.int .i64 0) [] []
        | .emp => .ok (.int .i64 0) [] []
        | .emz => .ok (.int .i64 0) [] []
        | _ => .bad 39
      | .arr n _ _ => .ok (.int .i64 (natI n)) [] []
      | .map _ _ => match x with
        | .nilm => .ok (.int .i64 0) [] []
        | x => match mapOf ob x with
          | some (_, n, _, _) => .ok (.int .i64 (L natI n)) [] []
          | none => .bad 39
      | _ => .bad 39
    | none => .bad 39
  | _ => .bad 39
/-- 'unsafe.SliceData' of bytes of the call's own, which are some. -/
def cSData (L : Seal) : List AV → Act1
  | [.sl id 1 0 n] => .okIf (L2 L nblt 0 n) (.eref id 1 0 0) [] []
  | _ => .bad 48
def byteIn (get : Nat → Nat → AV) (n : Nat) : Prop := ∀ i, i < n → ∃ x, get i 0 = .int .u8 x ∧ 0 ≤ x ∧ x < 256
/-- 'unsafe.String' of bytes of the call's own: they are gone. -/
def cUStr (T : TT) (L : Seal) (pt : Nat) (ob : Nat → Option Ob) (ice : Nat → Bool) : List AV → Act1
  | [.eref id 1 0 0, .int .i64 n] => match ice id, ob id, T.find pt with
    | false, some (.row ty 1 m get), some pi => match pi.pt with
      | some e => match nbeq ty e, isU8 T e with
        | true, true => .okP (L3 L (fun (n : Int) (m : Nat) (g : Nat → Nat → AV) => 0 < n ∧ n ≤ (m : Int) ∧ n ≤ 9223372036854775807 ∧ byteIn g n.toNat) n m get) (.str (L2 L bytesOf (L Int.toNat n) (fun i => (get i 0).toI))) [(id, .gone)] []
        | _, _ => .bad 49
      | none => .bad 49
    | _, _, _ => .bad 49
  | _ => .bad 49
def cMin (L : Seal) : List AV → Act1
  | [.int k a, .int k' b] => match decide (k = k') with
    | true => .ok (.int k (L2 L imin a b)) [] []
    | false => .bad 40
  | _ => .bad 40
def cMax (L : Seal) : List AV → Act1
  | [.int k a, .int k' b] => match decide (k = k') with
    | true => .ok (.int k (L2 L imax a b)) [] []
    | false => .bad 40
  | _ => .bad 40
/-- The elements of what is appended. -/
def srcOf (L : Seal) (esz : Nat) (ob : Nat → Option Ob) : AV → Option (Nat × (Nat → Nat → AV))
  | .lst sz n get => match nbeq sz esz with | true => some (n, get) | false => none
  | .nils => some (0, fun _ _ => .dead)
  | .emp => some (0, fun _ _ => .dead)
  | .emz => some (0, fun _ _ => .dead)
  | .sl id sz off n => match nbeq sz esz with
    | true => match ob id with
      | some (.row ty sz' _ get) => match nbeq sz sz' with
        | true => some (n, fun i j => get (L2 L Nat.add off i) j)
        | false => none
      | _ => none
    | false => none
  | .str l => match esz with
    | 1 => some (L List.length l, fun i _ => .int .u8 (L2 L sidx l (L natI i)))
    | _ => none
  | _ => none
/-- The same of what is told from its first element on. -/
def src0 (ob : Nat → Option Ob) (src : Nat → Nat → AV) : AV → Nat → Nat → AV
  | .sl id _ 0 _ => match ob id with
    | some (.row _ _ _ get) => get
    | _ => src
  | _ => src
/-- 'append': the first argument is the call's own, or has no room at all. -/
def notInt (T : TT) (t : Nat) : Bool := match T.find t with
  | some i => match i.k with
    | .slice _ _ _ => true
    | .str => true
    | _ => false
  | none => false
def cAppend (T : TT) (L : Seal) (dst : Option Nat) (t t' : Nat) (ob : Nat → Option Ob) (ice : Nat → Bool) (nw : Bool) : List AV → Act1
  | [s, x] => match cond nw dst none with
    | some d => match T.find t with
      | some { k := .slice e esz eb, .. } => match cond (notInt T t') (cond (nble 1 esz) (cond (T.find e).isSome (srcOf L esz ob x) none) none) none with
        | some (m, src) => match s with
          | .nils => .okIf (L3 L roomOk eb 0 m) (.sl d esz 0 m) [(d, .row e esz m src)] []
          | .emz => .okIf (L3 L roomOk eb 0 m) (.sl d esz 0 m) [(d, .row e esz m src)] []
          | .sl id sz off n => match nbeq sz esz, ice id, off, ob id with
            | true, false, 0, some (.row ty sz' _ get) => match nbeq sz sz' with
             | false => .bad 41
             | true => match nbeq ty e with
               | false => .bad 41
               | true => .okIf (L3 L roomOk eb n m) (.sl d esz 0 (L2 L Nat.add n m))
                [(d, .row e esz (L2 L Nat.add n m) (fun i j => sel1 L (L2 L nblt i n) (get i j) (src (L2 L Nat.sub i n) j))), (id, .gone)] []
            | true, false, 0, some (.spr ty cs) => match nble (n * sz) (llen cs), nbeq ty e, nblt 0 n with
              | true, true, true => .okIf (L3 L roomOk eb n m) (.sl d esz 0 (n + m)) [(d, .spr e (lapp (ltake cs (n * sz)) (ltab (flat (src0 ob src x) sz) 0 (m * sz)))), (id, .gone)] []
              | _, _, _ => .bad 41
            | _, _, _, _ => .bad 41
          | _ => .bad 41
        | none => .bad 41
      | _ => .bad 41
    | none => .bad 41
  | _ => .bad 41

/-- 'copy' into a slice of the call's own that has room for all of it, and is not empty. -/
def segCp (off n e : Nat) : Bool := nble off e && nblt e (off + n)
def roomCp (m n : Nat) : Bool := nblt 0 n && nble m n
def cCopy (T : TT) (L : Seal) (t t' : Nat) (ob : Nat → Option Ob) (ice : Nat → Bool) : List AV → Act1
  | [.sl id sz off n, x] => match T.find t with
    | some { k := .slice e esz eb, .. } => match cond (notInt T t') (cond (nble 1 esz) (cond (T.find e).isSome (srcOf L esz ob x) none) none) none with
      | some (m, src) => match nbeq sz esz, ice id, ob id with
        | true, false, some (.row ty sz' k get) => match nbeq sz sz' with
          | true => .okIf (L2 L roomCp m n) (.int .i64 (L natI m)) [(id, .row ty sz k (fun i j => sel1 L (L3 L segCp off m i) (src (L2 L Nat.sub i off) j) (get i j)))] []
          | false => .bad 50
        | _, _, _ => .bad 50
      | none => .bad 50
    | _ => .bad 50
  | _ => .bad 50

def core (T : TT) (L : Seal) (dst : Option Nat) (op : Op) (vals : List AV) (ob : Nat → Option Ob) (ice : Nat → Bool) (nw : Bool) : Act1 :=
  match op with
  | .move _ => cMove vals
  | .assign _ => cMove vals
  | .pick _ _ _ => cPick vals
  | .binOp op t x y _ => cBinC T L op t (cond (isCst x) true (isCst y)) vals
  | .unOp op _ _ => cUn L op vals
  | .convert s t _ => match toBytes T t with
    | true => cBytes T L dst s t nw vals
    | false => cConv T L s t ob vals
  | .alloc t => cAlloc T dst t nw
  | .box t _ => cBox T L dst t nw vals
  | .build t ps => cBuild T t ps.toList vals
  | .buildSlice t n ps => cSlit T L dst t n ps.toList vals ob nw
  | .load t _ => cLoad T L t ob vals
  | .store t _ _ => cStore T L t ob ice vals
  | .fieldAddr t _ f => cFaddr T t f vals
  | .field t _ f => cField T t f vals
  | .indexAddr t _ _ => cIaddr T L t ob vals
  | .index t _ _ => cIndex T L t vals
  | .slice t _ l h m => cSlice T L t ob l.isSome h.isSome m.isSome vals
  | .extract _ i => cExtract i vals
  | .makeFunc fn first _ => cFunc fn first.size vals
  | .nilCheck _ => cNil vals
  | .sliceToArrayPointer t _ => cArr T L t ob vals
  | .makeSlice t _ _ => cMslice T L dst t nw vals
  | .makeMap t none => cMake T dst t nw
  | .lookup t _ _ ok => cLook T L t ok ob vals
  | .mapUpdate t _ _ _ => cMup T L t ob ice vals
  | .call c => match c.callee with
    | .value _ => cCall L ob vals
    | .builtin .len => match c.argTypes.toList with
      | t :: _ => cLen T L t ob vals
      | [] => .bad 39
    | .builtin .min => cMin L vals
    | .builtin .unsafeSliceData => cSData L vals
    | .builtin .unsafeString => match c.argTypes.toList with
      | [t, _] => cUStr T L t ob ice vals
      | _ => .bad 49
    | .builtin .max => cMax L vals
    | .builtin .append => match c.argTypes.toList with
      | [t, t'] => cAppend T L dst t t' ob ice nw vals
      | _ => .bad 41
    | .builtin .copy => match c.argTypes.toList with
      | [t, t'] => cCopy T L t t' ob ice vals
      | _ => .bad 50
    | .builtin .delete => match c.argTypes.toList with
      | [t, _] => cMdel T L t ob ice vals
      | _ => .bad 63
    | _ => .bad 42
  | _ => .bad 0
def creates : Op → Bool
  | .alloc _ => true
  | .box _ _ => true
  | .buildSlice _ _ _ => true
  | .makeSlice _ _ _ => true
  | .makeMap _ _ => true
  | .convert _ _ _ => true
  | .call { callee := .builtin .append, .. } => true
  | _ => false
def writes1 : Op → Bool
  | .store _ _ _ => true
  | .mapUpdate _ _ _ _ => true
  | .call { callee := .builtin .delete, .. } => true
  | .call { callee := .builtin .unsafeString, .. } => true
  | .call { callee := .builtin .append, .. } => true
  | .call { callee := .builtin .copy, .. } => true
  | _ => false

/-! ### One operation -/
def evf (f : Nat → Option AV) (kn : List (Nat × Bool)) : Operand → AV
  | .tmp t => match aget kn t with
    | some b => .bool b
    | none => match f t with
      | some v => v
      | none => .dead
  | .const v => ofVs v
  | .func f => .fn f [] []
  | .global _ => .dead
def look (g : Nat → Option Ob) (ids : List Nat) (id : Nat) : Option Ob := match lhas ids id with | true => g id | false => none
def heads : List AV → List Nat
  | [] => []
  | x :: _ => idsV x
def iceOf (c : Nat → Bool) (op : Op) (vals : List AV) (id : Nat) : Bool :=
  match writes1 op with
  | true => match lhas (heads vals) id with | true => c id | false => true
  | false => true
def newOf (g : Nat → Option Ob) (op : Op) (dst : Option Nat) : Bool :=
  match creates op with
  | true => match dst with
    | some d => match g d with | none => true | some _ => false
    | none => false
  | false => false
def stepV (T : TT) (L : Seal) (f : Nat → Option AV) (g : Nat → Option Ob) (c : Nat → Bool) (kn : List (Nat × Bool)) (o : Oper) : Act1 :=
  core T L o.dst o.op (lmap (evf f kn) (opnds o.op)) (look g (idsVs (lmap (evf f kn) (opnds o.op)))) (iceOf c o.op (lmap (evf f kn) (opnds o.op))) (newOf g o.op o.dst)
def kdel : List (Nat × Bool) → Nat → List (Nat × Bool)
  | [], _ => []
  | (t, b) :: r, d => match nbeq t d with
    | true => kdel r d
    | false => (t, b) :: kdel r d
def litOf (kn : List (Nat × Bool)) : Operand → Option Bool
  | .const (.bool b) => some b
  | .tmp t => aget kn t
  | _ => none
def learn (kn : List (Nat × Bool)) : Op → Option Bool
  | .move x => litOf kn x
  | .assign x => litOf kn x
  | .pick c a b => match litOf kn c with
    | some true => litOf kn a
    | some false => litOf kn b
    | none => none
  | _ => none
def kput (kn : List (Nat × Bool)) (dst : Option Nat) (x : Option Bool) : List (Nat × Bool) :=
  match dst with
  | none => kn
  | some d => match x with
    | some b => (d, b) :: kdel kn d
    | none => kdel kn d
def St.put (s : St) (dst : Option Nat) (v : AV) : List (Nat × AV) := match dst with | some d => (d, v) :: s.slots | none => s.slots
def St.eff (s : St) (dst : Option Nat) (v : AV) (os : List (Nat × Ob)) (ice : List Nat) (x : Option Bool) : St :=
  ⟨s.put dst v, lapp os s.objs, lapp ice s.ice, kput s.kn dst x⟩
def St.know (s : St) (t : Nat) (b : Bool) : St := ⟨s.slots, s.objs, s.ice, (t, b) :: s.kn⟩

/-! ### Regions -/
/-- What an operation touches: the blocks it may look at, those it writes. -/
structure Ent where
  ids : List Nat
  wr : List Nat
def keys {α : Type} : List (Nat × α) → List Nat
  | [] => []
  | x :: xs => x.1 :: keys xs
def meets : List Nat → List Nat → Bool
  | [], _ => false
  | x :: xs, ys => match lhas ys x with | true => true | false => meets xs ys
def clash (a b : Ent) : Bool := match meets a.wr (lapp b.ids b.wr) with | true => true | false => meets b.wr a.ids
def direct1 : List Edge → Nat → Bool
  | [], _ => false
  | e :: es, j => match Region.binds .any e with
    | true => match nbeq e.on j with | true => true | false => direct1 es j
    | false => direct1 es j
/-- Is operation j ahead of one with these edges, over at most so many others? -/
def ahead (ops : List Oper) : Nat → List Edge → Nat → Bool
  | 0, es, j => direct1 es j
  | n + 1, es, j => match direct1 es j with
    | true => true
    | false => es.any fun e => match Region.binds .any e with
      | true => match nble e.on j with
        | true => false
        | false => match ops[e.on]? with
          | some o => ahead ops n o.after.toList j
          | none => false
      | false => false
def orderly (ops : List Oper) (es : List Edge) (x : Ent) : List (Nat × Ent) → Bool
  | [] => true
  | (j, y) :: r => match clash x y with
    | true => match ahead ops 4 es j with
      | true => orderly ops es x r
      | false => false
    | false => orderly ops es x r
/-- The slot on which an operation's guard hangs. -/
def guardOf (ops : List Oper) (o : Oper) : Option (Option Nat × Bool) :=
  match o.guard with
  | none => none
  | some (j, w) => match ops[j]? with
    | some o' => some (o'.dst, w)
    | none => some (none, w)
/-- The same value, the blocks' names turned: which leaves must agree, which names answer which (none: a slice that is nil yet). -/
structure Meet where
  ps : List Prop
  ids : List (Nat × Option Nat)        -- the template's name, the state's
def Meet.add (m : Meet) (p : Prop) : Meet := ⟨p :: m.ps, m.ids⟩
def isId (id : Nat) : Option Nat → Bool
  | some x => nbeq x id
  | none => false
def usedId (id : Nat) : List (Nat × Option Nat) → Bool
  | [] => false
  | p :: r => match isId id p.2 with | true => true | false => usedId id r
def pairUp (m : Meet) (tid id : Nat) : Option Meet :=
  match aget m.ids tid with
  | some x => match isId id x with | true => some m | false => none
  | none => match usedId id m.ids with
    | true => none
    | false => some ⟨m.ps, (tid, some id) :: m.ids⟩
def pairNil (m : Meet) (tid : Nat) : Option Meet :=
  match aget m.ids tid with
  | some _ => none
  | none => some ⟨m.ps, (tid, none) :: m.ids⟩
def meetV (m : Meet) : AV → AV → Option Meet        -- the template's value, the state's
  | .dead, _ => some m
  | .bool a, .bool b => some (m.add (b = a))
  | .int k a, .int k' b => match decide (k = k') with
    | true => some (m.add (b = a))
    | false => none
  | .str a, .str b => some (m.add (b = a))
  | .nilp, .nilp => some m
  | .nilm, .nilm => some m
  | .nilf, .nilf => some m
  | .nils, .nils => some m
  | .nili, .nili => some m
  | .ifb a, .ifb b => some (m.add (b = a))
  | .emp, .emp => some m
  | .emz, .emz => some m
  | .lst sz n get, .lst sz' n' get' => match nbeq sz sz' with
    | true => some (m.add (n' = n ∧ ∀ i j, i < n → j < sz → get' i j = get i j))
    | false => none
  | .lst _ n _, .nils => some (m.add (0 = n))
  | .lst _ n _, .emp => some (m.add (0 = n))
  | .lst _ n _, .emz => some (m.add (0 = n))
  | .iptr n get, .iptr n' get' => some (m.add (n ≤ n' ∧ ∀ j, j < n → get' j = get j))
  | .arr n get, .arr n' get' => match nbeq n n' with
    | true => some (m.add (∀ j, j < n → get' j = get j))
    | false => none
  | .ref tid off, .ref id off' => match nbeq off off' with
    | true => pairUp m tid id
    | false => none
  | .eref tid sz i off, .eref id sz' i' off' => match nbeq sz sz' with
    | true => match nbeq off off' with
      | true => match pairUp m tid id with | some m => some (m.add (i' = i)) | none => none
      | false => none
    | false => none
  | .sl tid sz off n, .sl id sz' off' n' => match nbeq sz sz' with
    | true => match pairUp m tid id with | some m => some (m.add (off' = off ∧ n' = n)) | none => none
    | false => none
  | .sl tid _ off n, .nils => match pairNil m tid with | some m => some (m.add (0 = off ∧ 0 = n)) | none => none
  | .fn f a b, .fn f' a' b' => match nbeq f f', free1 (.fn f' a' b') with
    | true, true => some (m.add (a' = a ∧ b' = b))
    | _, _ => none
  | .mp tid, .mp id => pairUp m tid id
  | .mpi kk n has val, .mpi kk' n' has' val' => match decide (kk = kk') with
    | true => some (m.add (n' = n ∧ (∀ k, has' k = has k) ∧ ∀ k, has k = true → val' k = val k))
    | false => none
  | _, _ => none
def meetL (m : Meet) : List AV → List AV → Option Meet
  | [], [] => some m
  | x :: xs, y :: ys => match meetV m x y with
    | some m => meetL m xs ys
    | none => none
  | _, _ => none
def meetA (m : Meet) : AV → AV → Option Meet
  | .agg a, .agg b => meetL m a b
  | a, b => meetV m a b
def meetSlots (slots : List (Nat × AV)) : List (Nat × AV) → Meet → Option Meet
  | [], m => some m
  | (t, v) :: r, m => match aget slots t with
    | some u => match meetA m v u with
      | some m => meetSlots slots r m
      | none => none
    | none => none
/-- The same where the state's value points to no block: what the template names is nil. -/
def meetN (m : Meet) (y : AV) : AV → Option Meet
  | .dead => some m
  | .sl tid _ off n => match pairNil m tid with
    | some m => some (m.add (y = .nils ∧ 0 = off ∧ 0 = n))
    | none => none
  | x => match plain0 x with
    | true => some (m.add (y = x))
    | false => none
def meetNL (m : Meet) (y : Nat → AV) : Nat → List AV → Option Meet
  | _, [] => some m
  | j, x :: xs => match meetN m (y j) x with
    | some m => meetNL m y (j + 1) xs
    | none => none
def meetOb (m : Meet) : Ob → Ob → Option Meet
  | .box ty a, .box ty' b => match nbeq ty ty' with
    | true => meetL m a b
    | false => none
  | .row ty sz n get, .row ty' sz' n' get' => match nbeq ty ty', nbeq sz sz' with
    | true, true => some (m.add (n' = n ∧ ∀ i j, i < n → j < sz → get' i j = get i j))
    | _, _ => none
  | .spr ty cs, .spr ty' cs' => match nbeq ty ty', nble (llen cs) (llen cs') with
    | true, true => meetL m cs (ltake cs' (llen cs))
    | _, _ => none
  | .map kk n has val, .map kk' n' has' val' => match decide (kk = kk') with
    | true => some (m.add (n' = n ∧ (∀ k, has' k = has k) ∧ ∀ k, has k = true → val' k = val k))
    | false => none
  | .spr ty cs, .row ty' sz n get => match nbeq ty ty' with
    | true => match meetNL m (flat get sz) 0 cs with
      | some m => some (m.add (llen cs ≤ n * sz))
      | none => none
    | false => none
  | _, _ => none
def meetNil (m : Meet) : Ob → Option Meet
  | .row _ _ n _ => some (m.add (0 = n))
  | .spr _ [] => some m
  | _ => none
/-- The blocks: the template's names are 'mut' where it may be written. -/
def meetObs (s : St) (ice : List Nat) : List (Nat × Ob) → Meet → Option Meet
  | [], m => some m
  | (tid, o) :: r, m => match aget m.ids tid with
    | some (some id) => match lhas s.ice id, lhas ice tid with
      | true, false => none
      | _, _ => match aget s.objs id with
        | some o' => match meetOb m o o' with
          | some m => meetObs s ice r m
          | none => none
        | none => none
    | some none => match meetNil m o with
      | some m => meetObs s ice r m
      | none => none
    | none => none
def same1 : List Nat → List (Nat × Option Nat)
  | [] => []
  | i :: r => (i, some i) :: same1 r
def inObs (objs : List (Nat × Ob)) : List (Nat × Option Nat) → Bool
  | [] => true
  | p :: r => match aget objs p.1 with | some _ => inObs objs r | none => false
def iceIn (objs : List (Nat × Ob)) : List Nat → Bool
  | [] => true
  | p :: r => match aget objs p with | some _ => iceIn objs r | none => false

/-! ### Calls that turn blocks of the caller's own -/
/-- A function's word: of such arguments, the blocks so, where p holds, it answers r, the blocks are as O1 says (a name that is not in it is gone). -/
structure MTpl where
  xs : List AV
  O : List (Nat × Ob)
  p : Prop
  r : AV
  O1 : List (Nat × Ob)
abbrev MSum := List AV → (Nat → Option Ob) → Option MTpl
structure Sums where
  fz : FuncId → List AV → Option (Prop × AV)
  mt : FuncId → Option MSum
def numb {α : Type} : Nat → List α → List (Nat × α)
  | _, [] => []
  | i, x :: xs => (i, x) :: numb (i + 1) xs
/-- A template's name in the caller's state. -/
def tgt (F : List (Nat × Option Nat)) (fr n : Nat) : Nat := match aget F n with
  | some (some id) => id
  | _ => fr + n
def ren0 (F : List (Nat × Option Nat)) (fr : Nat) : AV → AV
  | .ref id off => .ref (tgt F fr id) off
  | .eref id sz i off => .eref (tgt F fr id) sz i off
  | .sl id sz off n => .sl (tgt F fr id) sz off n
  | .mp id => .mp (tgt F fr id)
  | .bidx id off n i => .bidx (tgt F fr id) off n i
  | .fn f a b => match free1 (.fn f a b) with | true => .fn f a b | false => .dead
  | .agg _ => .dead
  | .tup _ => .dead
  | v => v
def renV (F : List (Nat × Option Nat)) (fr : Nat) : AV → AV
  | .agg cs => .agg (lmap (ren0 F fr) cs)
  | .tup cs => .tup (lmap (ren0 F fr) cs)
  | v => ren0 F fr v
def renOb (F : List (Nat × Option Nat)) (fr : Nat) : Ob → Ob
  | .box ty cs => .box ty (lmap (ren0 F fr) cs)
  | .spr ty cs => .spr ty (lmap (ren0 F fr) cs)
  | o => o
def goneOf (F : List (Nat × Option Nat)) (O1 : List (Nat × Ob)) : List (Nat × Ob) → List (Nat × Ob)
  | [] => []
  | (n, _) :: r => match aget O1 n with
    | some _ => goneOf F O1 r
    | none => match aget F n with
      | some (some id) => (id, .gone) :: goneOf F O1 r
      | _ => goneOf F O1 r
def newOs (F : List (Nat × Option Nat)) (fr : Nat) : List (Nat × Ob) → List (Nat × Ob)
  | [] => []
  | (n, o) :: r => (tgt F fr n, renOb F fr o) :: newOs F fr r
/-- Names of blocks that a call was given: they stay with their blocks. -/
def isPin (id : Nat) : Bool := match nble 500000 id with | true => nblt id 600000 | false => false
/-- New names are free. -/
def freshOk (objs : List (Nat × Ob)) (F : List (Nat × Option Nat)) (fr : Nat) : List (Nat × Ob) → Bool
  | [] => true
  | (n, _) :: r => match aget F n with
    | some (some _) => freshOk objs F fr r
    | _ => match aget objs (fr + n), isPin (fr + n) with
      | none, false => freshOk objs F fr r
      | _, _ => false
def noGone : List (Nat × Ob) → Bool
  | [] => true
  | (_, .gone) :: _ => false
  | _ :: r => noGone r
/-- The state meets a call's template: what must hold, the names. -/
def meetM (s : St) (raw : List AV) (T : MTpl) : Option Meet :=
  match nbeq (llen raw) (llen T.xs) with
  | true => match meetSlots (numb 0 raw) (numb 0 T.xs) ⟨[], []⟩ with
    | some m => match meetObs s [] T.O m with
      | some m => match inObs T.O m.ids, noGone T.O1 with
        | true, true => some m
        | _, _ => none
      | none => none
    | none => none
  | false => none
def mustL : List Prop → Tree → Tree
  | [], t => t
  | p :: r, t => .must p (mustL r t)
section
variable (T : TT) (L : Seal) (S : Sums) (draw : Bool) (ops : List Oper)
def noteOf (acc : List (Nat × Ent)) (i : Nat) (x : Ent) : List (Nat × Ent) :=
  match x.ids with
  | [] => match x.wr with
    | [] => acc
    | _ => (i, x) :: acc
  | _ => (i, x) :: acc
def after1 (o : Oper) (i : Nat) (s : St) (acc : List (Nat × Ent)) (ids wr : List Nat) (v : AV) (os : List (Nat × Ob)) (ice : List Nat)
    (next : St → List (Nat × Ent) → Tree) : Tree :=
  match draw with
  | true => match orderly ops o.after.toList ⟨lapp ice ids, lapp wr (keys os)⟩ acc with
    | true => next (s.eff o.dst v os ice (learn s.kn o.op)) (noteOf acc i ⟨lapp ice ids, lapp wr (keys os)⟩)
    | false => .fail 100
  | false => next (s.eff o.dst v os ice (learn s.kn o.op)) acc
def exec2 (o : Oper) (i : Nat) (s : St) (acc : List (Nat × Ent)) (ids wr : List Nat) (next : St → List (Nat × Ent) → Tree) : Act1 → Tree
  | .ok v os ice => after1 draw ops o i s acc ids wr v os ice next
  | .okIf b v os ice => .need b (after1 draw ops o i s acc ids wr v os ice next)
  | .okP p v os ice => .must p (after1 draw ops o i s acc ids wr v os ice next)
  | .call f xs ice => match S.fz f xs with
    | some (p, r) => .must p (after1 draw ops o i s acc ids wr r [] ice next)
    | none => .call f xs (fun r => after1 draw ops o i s acc ids wr r [] ice next)
  | .bad n => .fail n
def idsOf (s : St) (o : Oper) : List Nat := match draw with
  | true => lapp (match creates o.op with | true => (match o.dst with | some d => [d] | none => []) | false => []) (idsVs (lmap (evf (aget s.slots) s.kn) (opnds o.op)))
  | false => []
def wrOf (s : St) (o : Oper) : List Nat := match draw with
  | true => match writes1 o.op with
    | true => heads (lmap (evf (aget s.slots) s.kn) (opnds o.op))
    | false => []
  | false => []
/-- A call that may turn blocks of the caller's own. -/
def execM (o : Oper) (i : Nat) (s : St) (acc : List (Nat × Ent)) (next : St → List (Nat × Ent) → Tree) (m : MSum) (raw : List AV) : Tree :=
  match m raw (aget s.objs) with
  | some t => match meetM s raw t with
    | some mt => match freshOk s.objs mt.ids (1000000 * (llen s.objs + 1)) t.O1 with
      | true => mustL mt.ps (.must t.p (after1 draw ops o i s acc (idsOf draw s o) (wrOf draw s o) (renV mt.ids (1000000 * (llen s.objs + 1)) t.r)
          (lapp (newOs mt.ids (1000000 * (llen s.objs + 1)) t.O1) (goneOf mt.ids t.O1 t.O)) [] next))
      | false => .fail 107
    | none => .fail 106
  | none => .fail 105
def isCallV : Op → Bool
  | .call { callee := .value _, .. } => true
  | _ => false
def exec1 (o : Oper) (i : Nat) (s : St) (acc : List (Nat × Ent)) (next : St → List (Nat × Ent) → Tree) : Tree :=
  match (match isCallV o.op with
    | true => match lmap (evf (aget s.slots) s.kn) (opnds o.op) with
      | .fn f first caps :: xs => match S.mt f with
        | some m => some (m, lapp first (lapp xs caps))
        | none => none
      | _ => none
    | false => none) with
  | some (m, raw) => execM draw ops o i s acc next m raw
  | none => exec2 S draw ops o i s acc (idsOf draw s o) (wrOf draw s o) next (stepV T L (aget s.slots) (aget s.objs) (lhas s.ice) s.kn o)
def runOps : List Oper → Nat → St → List (Nat × Ent) → (St → Tree) → Tree
  | [], _, s, _, k => k s
  | o :: r, i, s, acc, k => match guardOf ops o with
    | none => exec1 T L S draw ops o i s acc (fun s acc => runOps r (i + 1) s acc k)
    | some (none, _) => .fail 101
    | some (some t, w) => match aget s.kn t with
      | some b => match w, b with
        | true, true => exec1 T L S draw ops o i s acc (fun s acc => runOps r (i + 1) s acc k)
        | false, false => exec1 T L S draw ops o i s acc (fun s acc => runOps r (i + 1) s acc k)
        | _, _ => runOps r (i + 1) (s.eff o.dst (.tup []) [] [] none) acc k
      | none => match aget s.slots t with
        | some (.tup []) => runOps r (i + 1) (s.eff o.dst (.tup []) [] [] none) acc k
        | some (.bool b) => match w with
          | true => .ite b (exec1 T L S draw ops o i (s.know t true) acc (fun s acc => runOps r (i + 1) s acc k))
              (runOps r (i + 1) ((s.know t false).eff o.dst (.tup []) [] [] none) acc k)
          | false => .ite b (runOps r (i + 1) ((s.know t true).eff o.dst (.tup []) [] [] none) acc k)
              (exec1 T L S draw ops o i (s.know t false) acc (fun s acc => runOps r (i + 1) s acc k))
        | _ => .fail 102
end

/-! ### A region that chooses: two stores, either of them first -/
def isBoolStore : Op → Bool
  | .store _ _ (.const (.bool _)) => true
  | _ => false
def noGuard : List Oper → Bool
  | [] => true
  | o :: r => match o.guard with | none => noGuard r | some _ => false
def choiceV : List Oper → Option Nat
  | [a, b, c, d] => match isBoolStore b.op, isBoolStore c.op with
    | true, true => match direct1 b.after.toList 0, direct1 c.after.toList 0, direct1 d.after.toList 1, direct1 d.after.toList 2, noGuard [a, b, c, d] with
      | true, true, true, true, true => d.dst
      | _, _, _, _, _ => none
    | _, _ => none
  | _ => none
def swap12 : List Oper → List Oper
  | [a, b, c, d] => [a, c, b, d]
  | l => l
def knowK (v : Nat) (k : St → Tree) (s : St) : Tree := match aget s.slots v with
  | some (.bool b) => k (s.know v b)
  | _ => .fail 103
def regionT (T : TT) (L : Seal) (S : Sums) (draw : Bool) (ops : List Oper) (s : St) (k : St → Tree) : Tree :=
  match cond draw (choiceV ops) none with
  | some v => runOps T L S false ops (ltake ops 1) 0 s [] (fun s => .and (runOps T L S false ops (ldrop ops 1) 1 s [] (knowK v k))
      (runOps T L S false ops (ldrop (swap12 ops) 1) 1 s [] (knowK v k)))
  | none => runOps T L S draw ops ops 0 s [] k

/-! ### Loops: what holds at a round's head -/
structure Ann where
  X : Type
  slots : X → List (Nat × AV)        -- what the loop writes, as far as it is read later
  objs : X → List (Nat × Ob)
  keep : List Nat                    -- slots that the loop leaves alone
  hold : List Nat                    -- blocks that the loop leaves alone
  inv : X → Prop
  mu : X → Nat
def keepS (slots : List (Nat × AV)) : List Nat → Option (List (Nat × AV))
  | [] => some []
  | t :: r => match nble 700000 t with
    | true => keepS slots r
    | false => match aget slots t with
      | some v => match keepS slots r with
        | some l => some ((t, v) :: l)
        | none => none
      | none => none
/-- Blocks that a loop's word freezes: 700000 + their names, among the slots to keep. -/
def iceX : List Nat → List Nat
  | [] => []
  | t :: r => match nble 700000 t with
    | true => (t - 700000) :: iceX r
    | false => iceX r
def keepO (objs : List (Nat × Ob)) : List Nat → Option (List (Nat × Ob))
  | [] => some []
  | t :: r => match aget objs t with
    | some v => match keepO objs r with
      | some l => some ((t, v) :: l)
      | none => none
    | none => none

def pinOk : List (Nat × Option Nat) → Bool
  | [] => true
  | (t, x) :: r => match isPin t with
    | true => match isId t x with | true => pinOk r | false => false
    | false => pinOk r
/-- The state is one of the template's. -/
def meetT (s tm : St) (hold : List Nat) (next : Tree) : Tree :=
  match meetSlots s.slots tm.slots ⟨[], same1 hold⟩ with
  | some m => match meetObs s tm.ice tm.objs m with
    | some m => match inObs tm.objs m.ids, iceIn tm.objs tm.ice, pinOk m.ids with
      | true, true, true => mustL m.ps next
      | _, _, _ => .fail 202
    | none => .fail 201
  | none => .fail 200
def iceKeep (ice : List Nat) : List Nat → List Nat
  | [] => []
  | i :: r => match lhas ice i with | true => i :: iceKeep ice r | false => iceKeep ice r
/-- What a slot holds at a loop's beginning. -/
def St.int (s : St) (t : Nat) : Int := match aget s.slots t with | some (.int _ n) => n | _ => 0
def St.str (s : St) (t : Nat) : List UInt8 := match aget s.slots t with | some (.str l) => l | _ => []
/-- A loop's word that hangs on what a slot holds at its beginning. -/
def withInt (s : St) (t : Nat) (f : Int → Option Ann) : Option Ann := match aget s.slots t with | some (.int _ n) => f n | _ => none
def withStr (s : St) (t : Nat) (f : List UInt8 → Option Ann) : Option Ann := match aget s.slots t with | some (.str l) => f l | _ => none
def withLst (s : St) (t : Nat) (f : Nat → (Nat → Nat → AV) → Option Ann) : Option Ann := match aget s.slots t with | some (.lst _ n g) => f n g | _ => none
def Ann.st (a : Ann) (ks : List (Nat × AV)) (ko : List (Nat × Ob)) (ice : List Nat) (x : a.X) : St :=
  ⟨lapp (a.slots x) ks, lapp (a.objs x) ko, lapp (iceX a.keep) (iceKeep ice a.hold), []⟩

/-! ### The run -/
def labelsOf : Code → List Nat
  | .seq a b => lapp (labelsOf a) (labelsOf b)
  | .label l => [l]
  | _ => []
section
variable (T : TT) (L : Seal) (S : Sums) (lo lb : Nat → St → Option Ann)
def noL : Nat → Bool := fun _ => false
/-- A round of an annotated loop ends well: the head's condition holds again, with less to do. -/
def loopEnd (a : Ann) (ks : List (Nat × AV)) (ko : List (Nat × Ob)) (ice : List Nat) (m : Option Nat) (s : St) : Tree :=
  .ex a.X fun x => meetT s (a.st ks ko ice x) a.hold (.must (a.inv x) (match m with
    | some m => .must (a.mu x < m) .yes
    | none => .yes))
abbrev K := Ex → St → Tree
/-- Behind a scope's code: a jump to a label of its own goes on behind the label ('again'), or meets what is said of it. -/
def jump (again : Code → St → Tree) (body : Code) (base : St) (m : Option Nat) (k : K) : K := fun e s => match e with
  | .goto l => match findLabel body l with
    | some rest => match lb l base with
      | some a => match keepS base.slots a.keep with
        | some ks => match keepO base.objs a.hold with
          | some ko => loopEnd a ks ko base.ice m s
          | none => .fail 210
        | none => .fail 211
      | none => again rest s
    | none => k (.goto l) s
  | e => k e s
def eachLabel (body : Code) (base : St) (pass : Code → St → Nat → Tree) : List Nat → Tree → Tree
  | [], t => t
  | l :: r, t => match lb l base with
    | some a => match findLabel body l with
      | some rest => match keepS base.slots a.keep with
        | some ks => match keepO base.objs a.hold with
          | some ko => .and (.all a.X fun x => .sup (a.inv x) (pass rest (a.st ks ko base.ice x) (a.mu x))) (eachLabel body base pass r t)
          | none => .fail 210
        | none => .fail 211
      | none => eachLabel body base pass r t
    | none => eachLabel body base pass r t
def scopeT (pass : Code → Code → St → K → Option Nat → St → Tree) (body : Code) (s : St) (k : K) : Tree :=
  eachLabel lb body s (fun rest s' m => pass body rest s' k (some m) s) (labelsOf body) (pass body body s k none s)
def isSome1 : Option Ann → Bool
  | some _ => true
  | none => false
/-- The run of a code; 'A': the labels at which it stops; 'sc': how a scope is run. -/
def run (sc : Code → St → K → Tree) : (Nat → Bool) → Code → St → K → Tree
  | _, .skip, s, k => k .normal s
  | _, .region _ ops d, s, k => regionT T L S d ops.toList s (fun s => k .normal s)
  | A, .seq a b, s, k => run sc A a s (fun e s' => match e with
    | .normal => run sc (fun l => match findLabel a l with | some _ => false | none => A l) b s' k
    | e => k e s')
  | _, .cond c a b, s, k => match litOf s.kn c with
    | some true => run sc noL a s k
    | some false => run sc noL b s k
    | none => match c with
      | .tmp t => match aget s.slots t with
        | some (.bool x) => match lo (1000000 + t) s with
          | none => .ite x (run sc noL a (s.know t true) k) (run sc noL b (s.know t false) k)
          | some an => match keepS s.slots an.keep with
            | some ks => match keepO s.objs an.hold with
              | some ko => .and (.ite x (run sc noL a (s.know t true) (fun e s' => match e with | .normal => loopEnd an ks ko s.ice none s' | e => k e s'))
                    (run sc noL b (s.know t false) (fun e s' => match e with | .normal => loopEnd an ks ko s.ice none s' | e => k e s')))
                  (.all an.X fun y => .sup (an.inv y) (k .normal (an.st ks ko s.ice y)))
              | none => .fail 231
            | none => .fail 231
        | _ => .fail 230
      | _ => .fail 230
  | _, .block id (.loop body), s, k => match lo id s with
    | some a => match keepS s.slots a.keep with
      | some ks => match keepO s.objs a.hold with
        | some ko => .and (loopEnd a ks ko s.ice none s)
            (.all a.X fun x => .sup (a.inv x) (run sc noL body (a.st ks ko s.ice x) (fun e s' => match e with
              | .normal => loopEnd a ks ko s.ice (some (a.mu x)) s'
              | .exit j => match nbeq j id with
                | true => k .normal s'
                | false => k (.exit j) s'
              | e => k e s')))
        | none => .fail 210
      | none => .fail 211
    | none => .fail 220
  | _, .block id b, s, k => run sc noL b s (fun e s' => match e with
    | .exit j => match nbeq j id with
      | true => k .normal s'
      | false => k (.exit j) s'
    | e => k e s')
  | _, .exit id, s, k => k (.exit id) s
  | _, .scope b, s, k => sc b s k
  | A, .label l, s, k => match A l with
    | true => k (.goto l) s
    | false => k .normal s
  | _, .goto l, s, k => k (.goto l) s
  | _, .ret, s, k => k .ret s
  | _, _, _, _ => .fail 240
def pass : Nat → Code → Code → St → K → Option Nat → St → Tree
  | 0, _, _, _, _, _, _ => .fail 250
  | n + 1, body, rest, s, k, m, base => run T L S lo (scopeT lb (pass n)) (fun l => isSome1 (lb l base)) rest s (jump lb (fun rest' s' => pass n body rest' s' k m base) body base m k)

/-! ### A function -/
def resV (s : St) : ResultVar → Option AV
  | .tmp t => some (evf (aget s.slots) [] (.tmp t))
  | .cell a t => match cLoad T std t (aget s.objs) [evf (aget s.slots) [] (.tmp a)] with
    | .ok v _ _ => some v
    | _ => none
def resVs (s : St) : List ResultVar → Option (List AV)
  | [] => some []
  | x :: xs => match resV T s x with
    | some v => match resVs s xs with
      | some l => some (v :: l)
      | none => none
    | none => none
def endT (rs : List ResultVar) (s : St) : Tree :=
  match resVs T s rs with
  | some vs => match immVs L (aget s.objs) vs with
    | some [v] => .done v
    | some vs => .done (.tup vs)
    | none => .fail 260
  | none => .fail 261
def finT (rs : List ResultVar) : K := fun e s => match e with
  | .normal => endT T L rs s
  | .ret => endT T L rs s
  | _ => .fail 262
def number {α : Type} : Nat → List α → List (Nat × α)
  | _, [] => []
  | i, x :: xs => (i, x) :: number (i + 1) xs
def runF (n : Nat) (f : Func) (xs : List AV) : Tree :=
  match f.body with
  | some c => run T L S lo (scopeT lb (pass T L S lo lb n)) noL c ⟨number 0 xs, [], [], []⟩ (finT T L f.results.toList)
  | none => .fail 270
end
end Sy
end Go.Proofs.YtckbbcjbbmgmoaaDoor
