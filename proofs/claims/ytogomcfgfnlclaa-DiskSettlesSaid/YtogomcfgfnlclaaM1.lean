/-What package-level variables hold when a call begins: nothing is asked here. A symbolic executor for the functions of this seat: abstract values, states, the operations, the run. Definitions alone; and what stands between these and the texts behind.-/
import Derived.Test.YtogomcfgfnlclaaProg
import Derived.Orders
import Derived.ScopeJumps
import Derived.Below
import Derived.Laws.CopyRow
import Derived.Laws.AppendOwn
import Derived.Laws.OwnMore
import Derived.Laws.StructEq
import Derived.MapKept
import Derived.Lib.IndexBytes
import Derived.LaidEqlPtr
import Derived.ChangeKeysEq
import Derived.Lib.UnsafeStr
import Derived.Lib.Builder
import Derived.Laws.IdiomStrings
namespace Go.Proofs.Ytogomcfgfnlclaa
namespace Sy
open Go
set_option linter.unusedVariables false
def gN : Nat := 0
def GOk (w : World) : Prop := True
theorem yb9 {w w' : World} (h : GOk w) (hs : w.heap.size <= w'.heap.size) (hb : ∀ b, b < gN -> w'.heap[b]? = w.heap[b]?) : GOk w' := trivial
theorem zrm {w : World} (h : GOk w) : gN <= w.heap.size := Nat.zero_le _
end Sy
end Go.Proofs.Ytogomcfgfnlclaa
namespace Go.Proofs.Ytogomcfgfnlclaa
namespace Sy
open Go
set_option linter.unusedVariables false
abbrev zad : Type 1 := ∀ {α β : Type}, (α -> β) -> α -> β
def std : zad := fun f x => f x
def L2 (L : zad) {α β γ : Type} (f : α -> β -> γ) (a : α) (b : β) : γ := L (L f a) b
def L3 (L : zad) {α β γ δ : Type} (f : α -> β -> γ -> δ) (a : α) (b : β) (c : γ) : δ := L (L (L f a) b) c
inductive Ky where
 | i (n : Int)
 | s (l : List UInt8)
 | a (l : List Int)
 deriving DecidableEq
inductive KK where
 | i (k : IntKind)
 | s
 | a (ks : List IntKind)
 | no
 deriving DecidableEq
inductive AV where
 | dead
 | bool (b : Bool)
 | int (k : IntKind) (n : Int)
 | str (l : List UInt8)
 | nilp
 | nilm
 | nilf
 | nils
 | nili
 | ifb (nil : Bool)
 | emp
 | emz
 | lst (sz n : Nat) (get : Nat -> Nat -> AV)
 | lstx (sz n : Nat) (get : Nat -> Nat -> AV)
 | iptr (n : Nat) (get : Nat -> AV)
 | ref (id off : Nat)
 | eref (id sz i off : Nat)
 | sl (id sz off n : Nat)
 | slc (id sz off n cap : Nat)
 | fn (f : FuncId) (first caps : List AV)
 | agg (cs : List AV)
 | arr (n : Nat) (get : Nat -> AV)
 | tup (vs : List AV)
 | mp (id : Nat)
 | bidx (id off n i : Nat)
 | flt (k : FloatKind) (b : Nat)
 | cpx (k : FloatKind) (a b : Nat)
 | mpi (kk : KK) (n : Nat) (has : Ky -> Bool) (val : Ky -> AV)
 | aer (p k sz i off : Nat)
 | asl (p k sz off n : Nat)
 | aep (c : Bool) (p k sz i off : Nat)
inductive Ob where
 | box (ty : Nat) (cs : List AV)
 | row (ty sz n : Nat) (get : Nat -> Nat -> AV)
 | spr (ty : Nat) (cs : List AV)
 | map (kk : KK) (n : Nat) (has : Ky -> Bool) (val : Ky -> AV)
 | mapl (kk : KK) (es : List (Ky × AV))
 | mapq (e : Bool)
 | rowp (q ty sz n : Nat) (get : Nat -> Nat -> AV)
 | tab (ty sz n : Nat) (len : Nat -> Nat) (get : Nat -> Nat -> Nat -> AV)
 | mapp (q sz : Nat) (l : List (List UInt8 × Nat))
 | mapr (q sz : Nat) (l : List Nat)
 | gone
structure St where
 slots : List (Nat × AV)
 objs : List (Nat × Ob)
 ice : List Nat
 kn : List (Nat × Bool)
inductive Ex where
 | normal | exit (id : Nat) | goto (l : Nat) | ret
inductive zbz : Type 1 where
 | fail (why : Nat)
 | need (b : Bool) (k : zbz)
 | must (p : Prop) (k : zbz)
 | ite (b : Bool) (t e : zbz)
 | done (r : AV)
 | yes
 | call (f : FuncId) (xs : List AV) (k : AV -> zbz)
 | ex (X : Type) (f : X -> zbz)
 | all (X : Type) (f : X -> zbz)
 | sup (p : Prop) (k : zbz)
 | and (a b : zbz)
def zbn : Nat := 1000000000000
def mid (t k : Nat) : Nat := t + zbn * (k + 1)
def zaw (id : Nat) : Bool := decide (zbn <= id)
def zfg (id : Nat) : Nat := id % zbn
def zmd (id : Nat) : Nat := id / zbn - 1
def yiv : Nat := 600100
def yiu : Nat := 600101
def za5 (a b : Nat) : Bool := decide (a = b)
def zbd (a b : Nat) : Bool := decide (a <= b)
def zau (a b : Nat) : Bool := decide (a < b)
def zbe {α : Type} (d : α) : List α -> Nat -> α
 | [], _ => d
 | x :: _, 0 => x
 | _ :: xs, n + 1 => zbe d xs n
def yf8 {α : Type} (v : α) : List α -> Nat -> List α
 | [], _ => []
 | _ :: xs, 0 => v :: xs
 | x :: xs, n + 1 => x :: yf8 v xs n
def zch {α : Type} : List α -> Nat -> List α
 | _, 0 => []
 | [], _ + 1 => []
 | x :: xs, n + 1 => x :: zch xs n
def zcs {α : Type} : List α -> Nat -> List α
 | xs, 0 => xs
 | [], _ + 1 => []
 | _ :: xs, n + 1 => zcs xs n
def zb4 {α : Type} : List α -> List α -> List α
 | [], ys => ys
 | x :: xs, ys => x :: zb4 xs ys
def zcd {α β : Type} (f : α -> β) : List α -> List β
 | [] => []
 | x :: xs => f x :: zcd f xs
def zd8 {α : Type} : List α -> Nat
 | [] => 0
 | _ :: xs => zd8 xs + 1
def zf3 {α : Type} : List α -> Nat -> List α -> List α
 | xs, _, [] => xs
 | xs, n, y :: ys => zf3 (yf8 y xs n) (n + 1) ys
def zjs {α : Type} (f : Nat -> α) : Nat -> Nat -> List α
 | _, 0 => []
 | i, n + 1 => f i :: zjs f (i + 1) n
def zbh : List Nat -> Nat -> Bool
 | [], _ => false
 | x :: xs, n => match za5 x n with | true => true | false => zbh xs n
def za2 {α : Type} : List (Nat × α) -> Nat -> Option α
 | [], _ => none
 | (i, x) :: xs, n => match za5 i n with | true => some x | false => za2 xs n
inductive TK where
 | int (k : IntKind) | bool | str | ptr | func | map (key elem : Nat) | other | iface | flt (k : FloatKind)
 | slice (elem esz ebytes : Nat)
 | arr (n elem esz : Nat)
 | struct (fs : List (Nat × Nat))
structure TI where
 sz : Nat
 isAgg : Bool
 zero : List AV
 k : TK
 eq : Bool
 pt : Option Nat
 up : Bool
 lies : Bool
inductive TT where
 | leaf
 | node (l : TT) (t : Nat) (i : TI) (r : TT)
def TT.find : TT -> Nat -> Option TI
 | .leaf, _ => none
 | .node l t i r, n => match za5 n t with
   | true => some i
   | false => match zau n t with
     | true => l.find n
     | false => r.find n
def ofV : Value -> AV
 | .bool b => .bool b
 | .int k n => .int k n
 | .string s => .str s.data.toList
 | .float k b => .flt k b
 | .complex k a b => .cpx k a b
 | .pointer none => .nilp
 | .map none => .nilm
 | .nilFunc => .nilf
 | .nilIface => .nili
 | .slice none n c => match n, c with
   | 0, 0 => .nils
   | _, _ => .dead
 | .func (.func f) a b => match a.toList with
   | [] => match b.toList with
     | [] => .fn f [] []
     | _ => .dead
   | _ => .dead
 | _ => .dead
def yje : Value -> AV
 | .agg cs => .agg (zcd ofV cs.toList)
 | v => ofV v
def AV.cells : AV -> List AV
 | .agg cs => cs
 | .arr n get => zjs get 0 n
 | v => [v]
def yg1 : AV -> Bool
 | .dead => false
 | .agg _ => false
 | .arr _ _ => false
 | .tup _ => false
 | _ => true
def zg7 : AV -> Bool
 | .agg _ => true
 | .arr _ _ => true
 | v => yg1 v
def zeg : List AV -> Bool
 | [] => true
 | x :: xs => match zg7 x with | true => zeg xs | false => false
def yk4 (c : Bool) (g g' : Nat -> Nat -> AV) : Nat -> Nat -> AV := cond c g g'
def yb2 (c : Bool) (x y : AV) : AV := cond c x y
def zcc (L : zad) (c : Bool) : AV -> AV -> AV
 | .bool a, .bool b => .bool (L3 L (fun (c a b : Bool) => cond c a b) c a b)
 | .int k a, .int k' b => match decide (k = k') with
   | true => .int k (L3 L (fun (c : Bool) (a b : Int) => cond c a b) c a b)
   | false => .dead
 | .str a, .str b => .str (L3 L (fun (c : Bool) (a b : List UInt8) => cond c a b) c a b)
 | .cpx k a b, .cpx k' a' b' => match decide (k = k') with
   | true => .cpx k (L3 L (fun (c : Bool) (a b : Nat) => cond c a b) c a a') (L3 L (fun (c : Bool) (a b : Nat) => cond c a b) c b b')
   | false => .dead
 | .nilp, .nilp => .nilp
 | .nilm, .nilm => .nilm
 | .nilf, .nilf => .nilf
 | .nils, .nils => .nils
 | .nili, .nili => .nili
 | .ifb a, .ifb b => .ifb (L3 L (fun (c a b : Bool) => cond c a b) c a b)
 | .lst sz n get, .nils => .lst sz (L3 L (fun (c : Bool) (a b : Nat) => cond c a b) c n 0) get
 | .nils, .lst sz n get => .lst sz (L3 L (fun (c : Bool) (a b : Nat) => cond c a b) c 0 n) get
 | .lst sz n get, .lst sz' n' get' => match decide (sz = sz') with
   | true => .lst sz (L3 L (fun (c : Bool) (a b : Nat) => cond c a b) c n n') (L3 L yk4 c get get')
   | false => .dead
 | .asl p k sz off n, .asl p' k' sz' off' n' => match za5 p p', za5 sz sz' with
   | true, true => .asl p (L3 L (fun (c : Bool) (a b : Nat) => cond c a b) c k k') sz (L3 L (fun (c : Bool) (a b : Nat) => cond c a b) c off off') (L3 L (fun (c : Bool) (a b : Nat) => cond c a b) c n n')
   | _, _ => .dead
 | .asl p k sz off n, .lst sz' n' get => L3 L yb2 c (.asl p k sz off n) (.lst sz' n' get)
 | .lst sz' n' get, .asl p k sz off n => L3 L yb2 c (.lst sz' n' get) (.asl p k sz off n)
 | .aer p k sz i off, .aer p' k' sz' i' off' => match za5 p p', za5 sz sz', za5 off off' with
   | true, true, true => .aer p (L3 L (fun (c : Bool) (a b : Nat) => cond c a b) c k k') sz (L3 L (fun (c : Bool) (a b : Nat) => cond c a b) c i i') off
   | _, _, _ => .dead
 | .aep a p k sz i off, .aep a' p' k' sz' i' off' => match za5 p p', za5 sz sz', za5 i i', za5 off off' with
   | true, true, true, true => .aep (L3 L (fun (c a b : Bool) => cond c a b) c a a') p (L3 L (fun (c : Bool) (a b : Nat) => cond c a b) c k k') sz i off
   | _, _, _, _ => .dead
 | .dead, y => L3 L yb2 c .dead y
 | x, .dead => L3 L yb2 c x .dead
 | _, _ => .dead
def zea : AV -> List Nat
 | .ref id _ => [id]
 | .eref id _ _ _ => [id]
 | .sl id _ _ _ => [id]
 | .slc id _ _ _ _ => [id]
 | .mp id => [id]
 | .bidx id _ _ _ => [id]
 | _ => []
def zpc : List AV -> List Nat
 | [] => []
 | x :: xs => zb4 (zea x) (zpc xs)
def zd3 : AV -> List Nat
 | .fn _ a b => zb4 (zpc a) (zpc b)
 | v => zea v
def ze9 : List AV -> List Nat
 | [] => []
 | x :: xs => zb4 (zd3 x) (ze9 xs)
def zij : AV -> Bool
 | .fn _ _ _ => false
 | .agg _ => false
 | .tup _ => false
 | .ref _ _ => false
 | .eref _ _ _ _ => false
 | .sl _ _ _ _ => false
 | .slc _ _ _ _ _ => false
 | .mp _ => false
 | .bidx _ _ _ _ => false
 | .aer _ _ _ _ _ => false
 | .asl _ _ _ _ _ => false
 | .aep _ _ _ _ _ _ => false
 | _ => true
def zgb : List AV -> Bool
 | [] => true
 | x :: xs => match zij x with | true => zgb xs | false => false
def zje : AV -> Bool
 | .fn _ a b => match zgb a with | true => zgb b | false => false
 | v => zij v
def zgs : List AV -> Bool
 | [] => true
 | x :: xs => match zje x with | true => zgs xs | false => false
def zr7 : AV -> List Nat
 | .agg cs => ze9 cs
 | .tup cs => ze9 cs
 | .fn _ a b => zb4 (ze9 a) (ze9 b)
 | v => zd3 v
def zdg : List AV -> List Nat
 | [] => []
 | x :: xs => zb4 (zr7 x) (zdg xs)
def ztw (get : Nat -> Nat -> AV) (sz : Nat) : Nat -> AV :=
 match sz with
 | 1 => fun j => get j 0
 | sz => fun j => get (j / sz) (j % sz)
def zjt (L : zad) (ob : Nat -> Option Ob) : AV -> Option AV
 | .sl id sz off n => match ob id with
   | some (.row ty sz' _ get) => match za5 sz sz' with
     | true => some (.lst sz n (fun i j => get (L2 L Nat.add off i) j))
     | false => none
   | _ => none
 | .slc id sz off n _ => match ob id with
   | some (.row ty sz' _ get) => match za5 sz sz' with
     | true => some (.lst sz n (fun i j => get (L2 L Nat.add off i) j))
     | false => none
   | _ => none
 | .ref id off => match ob id with
   | some (.box ty cs) => match zgs cs with
     | true => some (.iptr (zd8 cs - off) (fun j => zbe .dead cs (off + j)))
     | false => none
   | some (.row ty sz n get) => match off with
     | 0 => some (.iptr (n * sz) (ztw get sz))
     | _ => none
   | _ => none
 | .eref id sz i off => match ob id with
   | some (.row ty sz' _ get) => match za5 sz sz' with
     | true => some (.iptr (sz - off) (fun j => get i (off + j)))
     | false => none
   | _ => none
 | .fn f a b => match zje (.fn f a b) with
   | true => some (.fn f a b)
   | false => none
 | .agg _ => none
 | .tup _ => none
 | .mp id => match ob id with
   | some (.map kk n has val) => some (.mpi kk n has val)
   | _ => none
 | .bidx _ _ _ _ => none
 | .aer _ _ _ _ _ => none
 | .asl _ _ _ _ _ => none
 | .aep _ _ _ _ _ _ => none
 | v => some v
def immL (L : zad) (ob : Nat -> Option Ob) : List AV -> Option (List AV)
 | [] => some []
 | x :: xs => match zjt L ob x with
   | some y => match immL L ob xs with
     | some ys => some (y :: ys)
     | none => none
   | none => none
def yds (L : zad) (ob : Nat -> Option Ob) : AV -> Option AV
 | .agg cs => match immL L ob cs with | some ds => some (.agg ds) | none => none
 | .fn f a b => match immL L ob a with
   | some a' => match immL L ob b with
     | some b' => some (.fn f a' b')
     | none => none
   | none => none
 | v => zjt L ob v
def immVs (L : zad) (ob : Nat -> Option Ob) : List AV -> Option (List AV)
 | [] => some []
 | x :: xs => match yds L ob x with
   | some y => match immVs L ob xs with
     | some ys => some (y :: ys)
     | none => none
   | none => none
def yjx : AV -> Bool
 | .aep _ _ _ _ _ _ => true
 | .aer _ _ _ _ _ => true
 | .asl _ _ _ _ _ => true
 | _ => false
def ydy : List AV -> Bool
 | [] => false
 | x :: xs => match yjx x with | true => true | false => ydy xs
def yjw : List AV -> Bool
 | [.agg cs] => ydy cs
 | _ => false
def yg5 (ob : Nat -> Option Ob) : AV -> AV
 | .asl p k sz off n => match ob p with
   | some (.tab _ sz' _ _ get) => match za5 sz sz' with
     | true => .lst sz n (fun i j => get k (off + i) j)
     | false => .dead
   | _ => .dead
 | v => match zij v with
   | true => v
   | false => .dead
def yi1 (L : zad) (ob : Nat -> Option Ob) : AV -> Option AV
 | .sl id sz off n => match ob id with
   | some (.rowp q ty sz' _ get) => match za5 sz sz', ob q with
     | true, some (.tab _ _ _ _ _) => some (.lst sz n (fun i j => yg5 ob (get (L2 L Nat.add off i) j)))
     | _, _ => none
   | _ => zjt L ob (.sl id sz off n)
 | .asl p k sz off n => match ob p with
   | some (.tab _ sz' _ _ get) => match za5 sz sz' with
     | true => some (.lst sz n (fun i j => get k (L2 L Nat.add off i) j))
     | false => none
   | _ => none
 | .aer _ _ _ _ _ => none
 | .aep _ _ _ _ _ _ => none
 | v => zjt L ob v
def yi0 (L : zad) (ob : Nat -> Option Ob) : List AV -> Option (List AV)
 | [] => some []
 | x :: xs => match yi1 L ob x with
   | some y => match yi0 L ob xs with
     | some ys => some (y :: ys)
     | none => none
   | none => none
def yj1 (L : zad) (ob : Nat -> Option Ob) : AV -> Option AV
 | .agg cs => match yi0 L ob cs with | some ds => some (.agg ds) | none => none
 | v => yi1 L ob v
def zru (L : zad) (ob : Nat -> Option Ob) : List AV -> Option (List AV)
 | [] => some []
 | x :: xs => match yj1 L ob x with
   | some y => match zru L ob xs with
     | some ys => some (y :: ys)
     | none => none
   | none => none
def zzb : AV -> Bool
 | .bool _ => true
 | .int _ _ => true
 | .str _ => true
 | .flt _ _ => true
 | .cpx _ _ _ => true
 | .nilp => true
 | .nilm => true
 | .nilf => true
 | .nils => true
 | .nili => true
 | _ => false
def zux : List AV -> Bool
 | [] => true
 | x :: xs => match zzb x with | true => zux xs | false => false
def zuw : AV -> Bool
 | .agg cs => zux cs
 | .tup cs => zux cs
 | v => zzb v
def putP (L : zad) (q : Nat) (ob : Nat -> Option Ob) : List AV -> Option (List AV)
 | [] => some []
 | x :: xs => match (match x with
     | .asl p k sz off n => match za5 p q, zau p zbn with | true, true => some (.asl p k sz off n) | _, _ => none
     | .aer p k sz i off => match za5 p q, zau p zbn with | true, true => some (.aer p k sz i off) | _, _ => none
     | .aep c p k sz i off => match za5 p q, zau p zbn with | true, true => some (.aep c p k sz i off) | _, _ => none
     | x => zjt L ob x) with
   | some y => match putP L q ob xs with
     | some ys => some (y :: ys)
     | none => none
   | none => none
def pOf1 : AV -> List Nat
 | .aep _ p _ _ _ _ => [p]
 | .aer p _ _ _ _ => [p]
 | .asl p _ _ _ _ => [p]
 | _ => []
def yi5 : List AV -> List Nat
 | [] => []
 | x :: xs => zb4 (pOf1 x) (yi5 xs)
def ygm : List Nat -> Option Nat
 | [] => none
 | x :: _ => some x
def yfv (ob : Nat -> Option Ob) (e t : Nat) : Bool := match ob t with
 | some (.tab ty _ _ _ _) => za5 ty e
 | _ => false
def zq3 (ob : Nat -> Option Ob) (e : Nat) : Option Nat := match yfv ob e yiv with
 | true => some yiv
 | false => match yfv ob e yiu with
   | true => some yiu
   | false => none
def zz8 (c : Bool) (a b : Nat) : Nat := cond c a b
def zuc (L : zad) (ty sz n : Nat) (len : Nat -> Nat) (get : Nat -> Nat -> Nat -> AV) (m : Nat) (src : Nat -> Nat -> AV) : Ob :=
 .tab ty sz (L2 L Nat.add n 1) (fun k => L3 L zz8 (L2 L za5 k n) m (len k)) (fun k i j => zcc L (L2 L za5 k n) (src i j) (get k i j))
def zes (k : IntKind) (a b : Int) : Int := k.wrap (a + b)
def ztz (k : IntKind) (a b : Int) : Int := k.wrap (a - b)
def yhv (k : IntKind) (a b : Int) : Int := k.wrap (a * b)
def zyr (k : IntKind) (a b : Int) : Int := k.wrap (a.tdiv b)
def ybx (k : IntKind) (a b : Int) : Int := k.wrap (BitVec.ofInt k.bits a &&& BitVec.ofInt k.bits b).toNat
def bor (k : IntKind) (a b : Int) : Int := k.wrap (BitVec.ofInt k.bits a ||| BitVec.ofInt k.bits b).toNat
def yb3 (k : IntKind) (a b : Int) : Int := k.wrap (BitVec.ofInt k.bits a ^^^ BitVec.ofInt k.bits b).toNat
def yhl (k : IntKind) (a b : Int) : Int := k.wrap (BitVec.ofInt k.bits a &&& ~~~ BitVec.ofInt k.bits b).toNat
def yii (k : IntKind) (a b : Int) : Int := k.wrap (a * 2 ^ (min b.toNat k.bits))
def yc2 (k : IntKind) (a b : Int) : Int := a.fdiv (2 ^ (min b.toNat k.bits))
def ieq (a b : Int) : Bool := a == b
def ine (a b : Int) : Bool := a != b
def ilt (a b : Int) : Bool := decide (a < b)
def ile (a b : Int) : Bool := decide (a <= b)
def beqB (a b : Bool) : Bool := a == b
def seq (a b : List UInt8) : Bool := a == b
def slt (a b : List UInt8) : Bool := Op.bytesLess a b
def slen (a : List UInt8) : Int := a.length
def yj4 (a b : List UInt8) : List UInt8 := a ++ b
def zod (a : List UInt8) (i : Int) : Int := (a.getD i.toNat 0).toNat
def yhy (a : List UInt8) (i j : Int) : List UInt8 := (a.take j.toNat).drop i.toNat
def yed (a b : List UInt8) : Bool := decide (a.length + b.length <= 9223372036854775807)
def inR (i n : Int) : Bool := decide (0 <= i) && decide (i < n)
def inS (i j n : Int) : Bool := decide (0 <= i) && decide (i <= j) && decide (j <= n)
def inC (a n : Int) : Bool := decide (0 <= a) && decide (a <= n)
def zab (n : Nat) : Int := n
def imin (a b : Int) : Int := min a b
def yi8 (a b : Int) : Int := max a b
def zb1 (n : Nat) (f : Nat -> Int) : List UInt8 := (List.range n).map fun i => UInt8.ofNat (f i).toNat
def AV.toI : AV -> Int
 | .int _ n => n
 | _ => 0
def ydh (eb : Nat) (n c : Int) : Bool := decide (0 <= n) && decide (n <= c) && decide ((eb : Int) * c <= 140737488355328) && decide (c <= 9223372036854775807)
def zbj (bytes n m : Nat) : Bool := decide ((n + m) * bytes <= 140737488355328) && decide (n + m <= 9223372036854775807)
def zr0 (a b : Ky) : Bool := decide (a = b)
def ztb : KK -> KK -> Bool
 | .i a, .i b => decide (a = b)
 | .s, .s => true
 | _, _ => false
def zt6 (has : Bool) (n : Nat) : Nat := cond has n (n + 1)
def zt7 (has : Bool) (n : Nat) : Nat := cond has (n - 1) n
def yhp (a b : Bool) : Bool := !a && b
def zz9 (L : zad) (c : Bool) : List AV -> List AV -> List AV
 | x :: xs, y :: ys => zcc L c x y :: zz9 L c xs ys
 | _, _ => []
def ybd (L : zad) (c : Bool) : AV -> AV -> AV
 | .agg xs, .agg ys => match za5 (zd8 xs) (zd8 ys) with
   | true => .agg (zz9 L c xs ys)
   | false => .dead
 | x, y => zcc L c x y
def zkf : List IntKind -> List AV -> Option (List Int)
 | [], [] => some []
 | k :: ks, .int k' n :: xs => match decide (k = k') with
   | true => match zkf ks xs with | some l => some (n :: l) | none => none
   | false => none
 | _, _ => none
def keyOf : KK -> AV -> Option Ky
 | .i k, .int k' n => match decide (k = k') with | true => some (.i n) | false => none
 | .s, .str l => some (.s l)
 | .a ks, .agg cs => match zkf ks cs with | some l => some (.a l) | none => none
 | _, _ => none
def zww : List AV -> Option (List IntKind)
 | [] => some []
 | .int k _ :: xs => match zww xs with | some l => some (k :: l) | none => none
 | _ => none
def zd9 (T : TT) (t : Nat) : KK := match T.find t with
 | some i => match i.k with
   | .int k => .i k
   | .str => .s
   | _ => match i.eq, zww i.zero with
     | true, some l => .a l
     | _, _ => .no
 | none => .no
def zer (i : TI) : AV := match i.isAgg with
 | true => .agg i.zero
 | false => zbe .dead i.zero 0
def yab (ob : Nat -> Option Ob) : AV -> Option (KK × Nat × (Ky -> Bool) × (Ky -> AV))
 | .mp id => match ob id with
   | some (.map kk n has val) => some (kk, n, has, val)
   | _ => none
 | .mpi kk n has val => some (kk, n, has, val)
 | _ => none
def zgq (L : zad) (k : Ky) (has : Ky -> Bool) : Ky -> Bool := fun x => L2 L or (L2 L zr0 x k) (L has x)
def zi6 (L : zad) (k : Ky) (v : AV) (val : Ky -> AV) : Ky -> AV := fun x => ybd L (L2 L zr0 x k) v (val x)
def zhi (L : zad) (k : Ky) (has : Ky -> Bool) : Ky -> Bool := fun x => L2 L yhp (L2 L zr0 x k) (L has x)
def yfa : List UInt8 -> List UInt8 -> Bool
 | [], [] => true
 | a :: x, b :: y => match za5 a.toNat b.toNat with
   | true => yfa x y
   | false => false
 | _, _ => false
def kyb : Ky -> Ky -> Bool
 | .i a, .i b => decide (a = b)
 | .s a, .s b => yfa a b
 | _, _ => false
def zb7 : List (Ky × AV) -> Ky -> Option AV
 | [], _ => none
 | (k, x) :: r, q => match kyb k q with | true => some x | false => zb7 r q
def zr2 : List (Ky × AV) -> Ky -> AV -> List (Ky × AV)
 | [], q, v => [(q, v)]
 | (k, x) :: r, q, v => match kyb k q with | true => (q, v) :: r | false => (k, x) :: zr2 r q v
def zp8 : List (Ky × AV) -> Ky -> List (Ky × AV)
 | [], _ => []
 | (k, x) :: r, q => match kyb k q with | true => r | false => (k, x) :: zp8 r q
def zyu (ob : Nat -> Option Ob) : List AV -> Option (Nat × KK × List (Ky × AV))
 | .mp id :: _ => match ob id with
   | some (.mapl kk es) => some (id, kk, es)
   | _ => none
 | _ => none
def ztd (T : TT) (t : Nat) : Bool := match T.find t with
 | some { k := .ptr, .. } => true
 | _ => false
def ygh (T : TT) (t : Nat) : Bool := match T.find t with
 | some { k := .map kt et, .. } => ztd T et
 | _ => false
def ygi (T : TT) (t : Nat) : Bool := match T.find t with
 | some { k := .map kt et, .. } => ztd T kt
 | _ => false
def yf7 (ob : Nat -> Option Ob) : List AV -> Option (Nat × Bool)
 | .mp id :: _ => match ob id with
   | some (.mapq e) => some (id, e)
   | _ => none
 | _ => none
def zc8 : List (List UInt8 × Nat) -> List UInt8 -> Bool
 | [], _ => false
 | x :: r, k => cond (decide (x.1 = k)) true (zc8 r k)
def zdb : List (List UInt8 × Nat) -> List UInt8 -> Nat
 | [], _ => 0
 | x :: r, k => cond (decide (x.1 = k)) x.2 (zdb r k)
def zft : List (List UInt8 × Nat) -> List UInt8 -> Nat -> List (List UInt8 × Nat)
 | [], k, v => [(k, v)]
 | x :: r, k, v => cond (decide (x.1 = k)) ((k, v) :: r) (cond (slt k x.1) ((k, v) :: x :: r) (x :: zft r k v))
def zhy : List (List UInt8 × Nat) -> List UInt8 -> List (List UInt8 × Nat)
 | [], _ => []
 | x :: r, k => cond (decide (x.1 = k)) r (x :: zhy r k)
def mlen (l : List (List UInt8 × Nat)) : Nat := l.length
def zt1 (l : List Nat) (k : Nat) : Bool := l.any (fun x => decide (x = k))
def zyv (l : List Nat) (k : Nat) : List Nat := cond (zt1 l k) l (k :: l)
def zyt (ob : Nat -> Option Ob) : List AV -> Option (Nat × Nat × Nat × List (List UInt8 × Nat))
 | .mp id :: _ => match ob id with
   | some (.mapp q sz l) => some (id, q, sz, l)
   | _ => none
 | _ => none
def yf6 (ob : Nat -> Option Ob) : List AV -> Option (Nat × Nat × Nat × List Nat)
 | .mp id :: _ => match ob id with
   | some (.mapr q sz l) => some (id, q, sz, l)
   | _ => none
 | _ => none
def ygj (T : TT) (t : Nat) : Option Nat := match T.find t with
 | some { k := .ptr, pt := some e, zero := [.nilp], isAgg := false, .. } => some e
 | _ => none
def zix (T : TT) (t : Nat) : Option (Nat × Nat) := match T.find t with
 | some { k := .map kt et, .. } => some (kt, et)
 | _ => none
def yfu (T : TT) (ob : Nat -> Option Ob) (t : Nat) : Option Nat := match ygj T t with
 | some e => zq3 ob e
 | none => none
def szOf (ob : Nat -> Option Ob) (q : Nat) : Nat := match ob q with
 | some (.tab _ sz _ _ _) => sz
 | _ => 0
inductive zbr where
 | ok (v : AV) (os : List (Nat × Ob)) (ice : List Nat)
 | okIf (b : Bool) (v : AV) (os : List (Nat × Ob)) (ice : List Nat)
 | okP (p : Prop) (v : AV) (os : List (Nat × Ob)) (ice : List Nat)
 | call (f : FuncId) (xs : List AV) (ice : List Nat)
 | alt (b : Bool) (v : AV) (os : List (Nat × Ob)) (q : Bool) (v' : AV) (os' : List (Nat × Ob))
 | callB (f : FuncId) (xs : List AV)
 | bad (why : Nat)
def yhn (L : zad) (op : BinOp) (k : IntKind) (a b : Int) : zbr :=
 match op with
 | .add => .ok (.int k (L2 L (zes k) a b)) [] []
 | .sub => .ok (.int k (L2 L (ztz k) a b)) [] []
 | .mul => .ok (.int k (L2 L (yhv k) a b)) [] []
 | .quo => .okIf (L2 L ine b 0) (.int k (L2 L (zyr k) a b)) [] []
 | .rem => .okIf (L2 L ine b 0) (.int k (L2 L Int.tmod a b)) [] []
 | .and => .ok (.int k (L2 L (ybx k) a b)) [] []
 | .or => .ok (.int k (L2 L (bor k) a b)) [] []
 | .xor => .ok (.int k (L2 L (yb3 k) a b)) [] []
 | .andNot => .ok (.int k (L2 L (yhl k) a b)) [] []
 | .eql => .ok (.bool (L2 L ieq a b)) [] []
 | .neq => .ok (.bool (L2 L ine a b)) [] []
 | .lss => .ok (.bool (L2 L ilt a b)) [] []
 | .leq => .ok (.bool (L2 L ile a b)) [] []
 | .gtr => .ok (.bool (L2 L ilt b a)) [] []
 | .geq => .ok (.bool (L2 L ile b a)) [] []
 | .shl => .bad 1
 | .shr => .bad 1
def yjy (k : FloatKind) (a b : Nat) : Option Ordering := k.format.order a b
def fEq (k : FloatKind) (a b : Nat) : Bool := yjy k a b == some .eq
def fLt (k : FloatKind) (a b : Nat) : Bool := yjy k a b == some .lt
def fGt (k : FloatKind) (a b : Nat) : Bool := yjy k a b == some .gt
def fLe (k : FloatKind) (a b : Nat) : Bool := fLt k a b || fEq k a b
def fGe (k : FloatKind) (a b : Nat) : Bool := fGt k a b || fEq k a b
def ye3 (op : BinOp) (k : FloatKind) (a b : Nat) : Option Nat := match op with
 | .add => k.format.add a b
 | .sub => k.format.sub a b
 | .mul => k.format.mul a b
 | .quo => k.format.div a b
 | _ => none
def fIs (op : BinOp) (k : FloatKind) (a b : Nat) : Bool := (ye3 op k a b).isSome
def ybt (op : BinOp) (k : FloatKind) (a b : Nat) : Nat := (ye3 op k a b).getD 0
def fNeg (k : FloatKind) (b : Nat) : Nat := Op.negFloat k b
def ybq (L : zad) (op : BinOp) (k : FloatKind) (a b : Nat) : zbr :=
 match op with
 | .eql => .ok (.bool (L2 L (fEq k) a b)) [] []
 | .neq => .ok (.bool (L not (L2 L (fEq k) a b))) [] []
 | .lss => .ok (.bool (L2 L (fLt k) a b)) [] []
 | .leq => .ok (.bool (L2 L (fLe k) a b)) [] []
 | .gtr => .ok (.bool (L2 L (fGt k) a b)) [] []
 | .geq => .ok (.bool (L2 L (fGe k) a b)) [] []
 | .add => .okIf (L2 L (fIs .add k) a b) (.flt k (L2 L (ybt .add k) a b)) [] []
 | .sub => .okIf (L2 L (fIs .sub k) a b) (.flt k (L2 L (ybt .sub k) a b)) [] []
 | .mul => .okIf (L2 L (fIs .mul k) a b) (.flt k (L2 L (ybt .mul k) a b)) [] []
 | _ => .bad 101
def cpxs (L : zad) (op : BinOp) (k : FloatKind) (a b a' b' : Nat) : zbr :=
 match op with
 | .eql => .ok (.bool (L2 L and (L2 L (fEq k) a a') (L2 L (fEq k) b b'))) [] []
 | .neq => .ok (.bool (L not (L2 L and (L2 L (fEq k) a a') (L2 L (fEq k) b b')))) [] []
 | _ => .bad 102
def zz6 (L : zad) (op : BinOp) (a b : List UInt8) : zbr :=
 match op with
 | .add => .okIf (L2 L yed a b) (.str (L2 L yj4 a b)) [] []
 | .eql => .ok (.bool (L2 L seq a b)) [] []
 | .neq => .ok (.bool (L not (L2 L seq a b))) [] []
 | .lss => .ok (.bool (L2 L slt a b)) [] []
 | .leq => .ok (.bool (L2 L or (L2 L slt a b) (L2 L seq a b))) [] []
 | .gtr => .ok (.bool (L not (L2 L or (L2 L slt a b) (L2 L seq a b)))) [] []
 | .geq => .ok (.bool (L not (L2 L slt a b))) [] []
 | _ => .bad 2
def eqK (L : zad) (k : TK) (x y : AV) : Option Bool := match k with
 | .int _ => match x, y with
   | .int k a, .int k' b => match decide (k = k') with
     | true => some (L2 L ieq a b)
     | false => none
   | _, _ => none
 | .bool => match x, y with
   | .bool a, .bool b => some (L2 L beqB a b)
   | _, _ => none
 | .str => match x, y with
   | .str a, .str b => some (L2 L seq a b)
   | _, _ => none
 | _ => none
def yh9 (T : TT) (L : zad) (g : Nat -> List AV -> List AV -> Option Bool) (xs ys : List AV) : List (Nat × Nat) -> Option Bool
 | [] => some true
 | (off, t) :: r => match T.find t with
   | some i => match zbd (off + i.sz) (zd8 xs), zbd (off + i.sz) (zd8 ys) with
     | true, true => match g t (zch (zcs xs off) i.sz) (zch (zcs ys off) i.sz) with
       | some a => match yh9 T L g xs ys r with | some b => some (L2 L and a b) | none => none
       | none => none
     | _, _ => none
   | none => none
def yh8 (L : zad) (g : List AV -> List AV -> Option Bool) (sz : Nat) (xs ys : List AV) : Nat -> Nat -> Option Bool
 | _, 0 => some true
 | k, n + 1 => match g (zch (zcs xs (k * sz)) sz) (zch (zcs ys (k * sz)) sz) with
   | some a => match yh8 L g sz xs ys (k + 1) n with | some b => some (L2 L and a b) | none => none
   | none => none
def eq1 (L : zad) (k : TK) : List AV -> List AV -> Option Bool
 | [x], [y] => eqK L k x y
 | _, _ => none
def eqD (T : TT) (L : zad) : Nat -> Nat -> List AV -> List AV -> Option Bool
 | 0, _, _, _ => none
 | d + 1, t, xs, ys => match T.find t with
   | some i => match i.k with
     | .struct fs => match i.eq with
       | true => yh9 T L (eqD T L d) xs ys fs
       | false => none
     | .arr n e esz => match i.eq, za5 (zd8 xs) (n * esz), za5 (zd8 ys) (n * esz), T.find e with
       | true, true, true, some ei => match za5 ei.sz esz with
         | true => yh8 L (eqD T L d e) esz xs ys 0 n
         | false => none
       | _, _, _, _ => none
     | k => eq1 L k xs ys
   | none => none
def zo7 (T : TT) (L : zad) (t : Nat) (x y : AV) : Option Bool :=
 match T.find t with
 | some i => match i.k with
   | .bool => match x, y with
     | .bool a, .bool b => some (L2 L beqB a b)
     | _, _ => none
   | .ptr => match x, y with
     | .nilp, .nilp => some true
     | .nilp, .ref _ _ => some false
     | .ref _ _, .nilp => some false
     | .ref a o, .ref b p => match za5 a b, za5 o p, i.pt with
       | true, true, some e => match T.find e with | some _ => some true | none => none
       | _, _, _ => none
     | _, _ => none
   | .slice _ _ _ => match x, y with
     | .nils, .nils => some true
     | .emp, .nils => some false
     | .emz, .nils => some false
     | _, _ => none
   | .iface => none
   | .func => match x, y with
     | .nilf, .nilf => some true
     | .nilf, .fn _ _ _ => some false
     | .fn _ _ _, .nilf => some false
     | _, _ => none
   | _ => none
 | none => none
def zym (T : TT) (L : zad) (t : Nat) (x y : AV) : Option Bool :=
 match x, y with
 | .agg a, .agg b => match T.find t with
   | some i => match i.eq, za5 (zd8 a) i.sz, za5 (zd8 b) i.sz with
     | true, true, true => eqD T L 6 t a b
     | _, _, _ => none
   | none => none
 | x, y => zo7 T L t x y
def isSl (T : TT) (t : Nat) : Bool := match T.find t with
 | some i => match i.k with
   | .slice _ _ _ => true
   | _ => false
 | none => false
def bin (T : TT) (L : zad) (op : BinOp) (t : Nat) (x y : AV) : zbr :=
 match x, y with
 | .int k a, .int k' b => match op with
   | .shl => .okIf (L2 L ile 0 b) (.int k (L2 L (yii k) a b)) [] []
   | .shr => .okIf (L2 L ile 0 b) (.int k (L2 L (yc2 k) a b)) [] []
   | op => match decide (k = k') with
     | true => yhn L op k a b
     | false => .bad 3
 | .str a, .str b => zz6 L op a b
 | .flt k a, .flt k' b => match decide (k = k') with
   | true => ybq L op k a b
   | false => .bad 103
 | .cpx k a b, .cpx k' a' b' => match decide (k = k') with
   | true => cpxs L op k a b a' b'
   | false => .bad 103
 | .lst sz n get, .nils => match isSl T t with
   | true => match op with
     | .eql => .okIf (L2 L zau 0 n) (.bool false) [] []
     | .neq => .okIf (L2 L zau 0 n) (.bool true) [] []
     | _ => .bad 5
   | false => .bad 5
 | x, y => match op with
   | .eql => match zym T L t x y with | some b => .ok (.bool b) [] [] | none => .bad 4
   | .neq => match zym T L t x y with | some b => .ok (.bool (L not b)) [] [] | none => .bad 4
   | _ => .bad 5
def un (L : zad) (op : UnOp) (x : AV) : zbr :=
 match op, x with
 | .not, .bool b => .ok (.bool (L not b)) [] []
 | .neg, .int k n => .ok (.int k (L2 L (ztz k) 0 n)) [] []
 | .neg, .flt k b => .ok (.flt k (L (fNeg k) b)) [] []
 | .xor, .int k n => match k.signed with
   | true => .ok (.int k (L2 L (yb3 k) (-1) n)) [] []
   | false => .ok (.int k (L2 L (yb3 k) k.max n)) [] []
 | _, _ => .bad 6
def zbm : Op -> List Operand
 | .move x | .assign x | .box _ x | .load _ x | .nilCheck x | .sliceToArrayPointer _ x | .unOp _ _ x | .convert _ _ x | .fieldAddr _ x _ | .field _ x _ | .extract x _ => [x]
 | .pick c a b => [c, a, b]
 | .build _ ps | .buildSlice _ _ ps => zcd Prod.snd ps.toList
 | .store _ a v | .binOp _ _ a v _ | .makeSlice _ a v | .indexAddr _ a v | .index _ a v => [a, v]
 | .makeFunc _ first captured => zb4 first.toList captured.toList
 | .slice _ x l h m => x :: zb4 l.toList (zb4 h.toList m.toList)
 | .makeMap _ _ => []
 | .lookup _ m k _ => [m, k]
 | .mapUpdate _ m k v => [m, k, v]
 | .call { callee := .value f, args := xs, .. } => f :: xs.toList
 | .call { callee := .builtin _, args := xs, .. } => xs.toList
 | _ => []
def zm2 (place : Nat -> Option (Nat × Nat)) : List AV -> List (Nat × Operand) -> List AV -> Option (List AV)
 | cells, [], [] => some cells
 | cells, (i, _) :: ps, v :: vs => match place i with
   | some (off, size) => match za5 (zd8 v.cells) size with
     | true => match zbd (off + size) (zd8 cells) with
       | true => zm2 place (zf3 cells off v.cells) ps vs
       | false => none
     | false => none
   | none => none
 | _, _, _ => none
def TT.sizeOf (T : TT) (t : Nat) : Option Nat := match T.find t with | some i => some i.sz | none => none
def zhv (T : TT) : List (Nat × Nat) -> Option (List (Nat × Nat))
 | [] => some []
 | (off, t) :: r => match T.sizeOf t with
   | some s => match zhv T r with
     | some l => some ((off, s) :: l)
     | none => none
   | none => none
def nth {α : Type} : List α -> Nat -> Option α
 | [], _ => none
 | x :: _, 0 => some x
 | _ :: xs, n + 1 => nth xs n
def zcr (z : List AV) : Nat -> List AV
 | 0 => []
 | n + 1 => zb4 z (zcr z n)
def yf3 : List AV -> Option (IntKind × List Int)
 | [] => none
 | [.int k n] => some (k, [n])
 | .int k n :: xs => match yf3 xs with
   | some (k', l) => match decide (k = k') with
     | true => some (k, n :: l)
     | false => none
   | none => none
 | _ => none
def yf2 : List AV -> Option (List (List UInt8))
 | [] => none
 | [.str s] => some [s]
 | .str s :: xs => match yf2 xs with
   | some l => some (s :: l)
   | none => none
 | _ => none
def zgg (l : List Int) (i : Nat) : Int := l.getD i 0
def nthS (l : List (List UInt8)) (i : Nat) : List UInt8 := l.getD i []
def yjb : List AV -> Bool
 | [.str _, .str _, .str _, .int _ _] => true
 | _ => false
def zh4 (L : zad) (cs : List AV) (sz : Nat) : Nat -> Nat -> AV :=
 match sz with
 | 1 => match yf3 cs with
   | some (k, l) => fun i _ => .int k (L2 L zgg l i)
   | none => match yf2 cs with
     | some l => fun i _ => .str (L2 L nthS l i)
     | none => fun i _ => zbe .dead cs i
 | 4 => match yjb cs with
   | true => fun _ j => zbe .dead cs j
   | false => fun i j => zbe .dead cs (i * 4 + j)
 | sz => fun i j => zbe .dead cs (i * sz + j)
def two (vals : List AV) (l h m : Bool) : Option (Option Int × Option Int) :=
 match m, l, h with
 | true, _, _ => none
 | false, false, false => some (none, none)
 | false, true, false => match vals with | [.int _ a] => some (some a, none) | _ => none
 | false, false, true => match vals with | [.int _ b] => some (none, some b) | _ => none
 | false, true, true => match vals with | [.int _ a, .int _ b] => some (some a, some b) | _ => none
def zxy : List AV -> zbr
 | [x] => .ok x [] []
 | _ => .bad 1
def zxx : List AV -> zbr
 | [.bool c, x, y] => .ok (match c with | true => x | false => y) [] []
 | _ => .bad 2
def yka (T : TT) (L : zad) (op : BinOp) (t : Nat) : List AV -> zbr
 | [x, y] => bin T L op t x y
 | _ => .bad 3
def zlx : Operand -> Bool
 | .const _ => true
 | _ => false
def yev (T : TT) (L : zad) (op : BinOp) (t : Nat) (c : Bool) : List AV -> zbr
 | [.nili, .nili] => match c, T.find t with
   | true, some { k := .iface, .. } => match op with
     | .eql => .ok (.bool true) [] []
     | .neq => .ok (.bool false) [] []
     | _ => .bad 52
   | _, _ => .bad 52
 | [.ifb b, .nili] => match c, T.find t with
   | true, some { k := .iface, .. } => match op with
     | .eql => .ok (.bool b) [] []
     | .neq => .ok (.bool (L not b)) [] []
     | _ => .bad 52
   | _, _ => .bad 52
 | vals => yka T L op t vals
def cUn (L : zad) (op : UnOp) : List AV -> zbr
 | [x] => un L op x
 | _ => .bad 4
def ydq (T : TT) (e : Nat) : Bool := match T.find e with
 | some i => match i.k with
   | .int .u8 => true
   | _ => false
 | none => false
def yh3 (off n m : Nat) : Prop := off + n <= m
def yi7 (l : List UInt8) : Nat := l.length
def zrh (l : List UInt8) (i : Nat) : Int := (l.getD i 0).toNat
def zok (T : TT) (t : Nat) : Bool := match T.find t with
 | some i => match i.k with
   | .slice e 1 _ => ydq T e
   | _ => false
 | none => false
def yh2 (T : TT) (t : Nat) : Bool := match T.find t with
 | some i => match i.k with
   | .str => true
   | _ => false
 | none => false
def yay (T : TT) (t : Nat) : Nat := match T.find t with
 | some i => match i.k with
   | .slice e _ _ => e
   | _ => 0
 | none => 0
def zyf (T : TT) (L : zad) (dst : Option Nat) (s t : Nat) (nw : Bool) : List AV -> zbr
 | [.str l] => match cond nw dst none with
   | some d => match yh2 T s with
     | true => .ok (.sl d 1 0 (L yi7 l)) [(d, .row (yay T t) 1 (L yi7 l) (fun i _ => .int .u8 (L2 L zrh l i)))] []
     | false => .bad 43
   | none => .bad 43
 | _ => .bad 43
def yer (T : TT) (L : zad) (s t : Nat) (ob : Nat -> Option Ob) : List AV -> zbr
 | [x] => match T.find s with
   | some si => match T.find t with
     | some ti => match ti.k with
       | .int k => match x with
         | .int _ n => .ok (.int k (L k.wrap n)) [] []
         | _ => .bad 11
       | .flt k => match x with
         | .int _ n => .ok (.flt k (L k.nearest n)) [] []
         | _ => .bad 104
       | .str => match x with
         | .str l => .ok (.str l) [] []
         | y => match si.k with
           | .slice e _ _ => match ydq T e with
             | true => match y with
               | .lst 1 n get => .okP (∀ i, i < n -> ∃ x, get i 0 = .int .u8 x) (.str (L2 L zb1 n (fun i => (get i 0).toI))) [] []
               | .nils => .ok (.str []) [] []
               | .sl id 1 off n => match ob id with
                 | some (.row _ 1 m get) => .okP (L3 L yh3 off n m /\ ∀ i, i < n -> ∃ x, get (off + i) 0 = .int .u8 x) (.str (L2 L zb1 n (fun i => (get (off + i) 0).toI))) [] []
                 | _ => .bad 10
               | _ => .bad 10
             | false => .bad 10
           | _ => .bad 10
       | .ptr => match x, ti.pt with
         | .ref id 0, some e => match ob id, T.find e with
           | some (.box ty cs), some ei => match si.up, ei.lies, za5 ty e, za5 (zd8 cs) ei.sz, zau 0 ei.sz with
             | true, true, true, true, true => .ok (.ref id 0) [] []
             | _, _, _, _, _ => .bad 46
           | _, _ => .bad 46
         | _, _ => .bad 46
       | .other => match x, si.pt with
         | .ref id off, some e => match ob id, T.find e with
           | some (.box _ cs), some ei => match ti.up, zau 0 ei.sz, zau off (zd8 cs) with
             | true, true, true => .ok (.ref id off) [] []
             | _, _, _ => .bad 47
           | _, _ => .bad 47
         | _, _ => .bad 47
       | _ => .bad 11
     | none => .bad 11
   | none => .bad 11
 | _ => .bad 11
def zvm : AV -> AV -> Bool
 | .bool a, .bool b => decide (a = b)
 | .int k n, .int k' m => match decide (k = k') with | true => decide (n = m) | false => false
 | .str l, .str m => decide (l = m)
 | .nilp, .nilp => true
 | .nilm, .nilm => true
 | .nilf, .nilf => true
 | .nils, .nils => true
 | .nili, .nili => true
 | _, _ => false
def zl6 : List AV -> List AV -> Bool
 | [], [] => true
 | x :: xs, y :: ys => match zvm x y with | true => zl6 xs ys | false => false
 | _, _ => false
def zyh (T : TT) (dst : Option Nat) (t : Nat) (nw : Bool) : zbr :=
 match cond nw dst none with
 | some d => match T.find t with
   | some i => match i.k with
     | .arr n e esz => match T.find e with
       | some ei => match zl6 i.zero (zcr ei.zero n), za5 (zd8 ei.zero) esz, zgs ei.zero with
         | true, true, true => .ok (.ref d 0) [(d, .row t esz n (fun _ j => zbe .dead ei.zero j))] []
         | _, _, _ => .bad 12
       | none => .bad 12
     | _ => .ok (.ref d 0) [(d, .box t i.zero)] []
   | none => .bad 12
 | none => .bad 12
def zpu (T : TT) (L : zad) (p t : Nat) (ob : Nat -> Option Ob) : zbr :=
 match T.find t with
 | some i => match i.k with
   | .struct _ => match ob p with
     | some (.tab ty sz n len get) => match za5 ty t, za5 sz i.sz, za5 (zd8 i.zero) i.sz, zgs i.zero with
       | true, true, true, true => .ok (.aer p n sz 0 0) [(p, zuc L ty sz n len get 1 (fun _ j => zbe .dead i.zero j))] []
       | _, _, _, _ => .bad 82
     | _ => .bad 82
   | _ => .bad 82
 | none => .bad 82
def yk9 (T : TT) (L : zad) (dst : Option Nat) (t : Nat) (nw : Bool) : List AV -> zbr
 | [x] => match cond nw dst none with
   | some d => match T.find t with
     | some i => match za5 (zd8 x.cells) i.sz, zg7 x with
       | true, true => match i.k with
         | .arr n _ esz => match zgs x.cells, za5 (n * esz) i.sz with
           | true, true => .ok (.ref d 0) [(d, .row t esz n (zh4 L x.cells esz))] []
           | _, _ => .bad 13
         | _ => .ok (.ref d 0) [(d, .box t x.cells)] []
       | _, _ => .bad 13
     | none => .bad 13
   | none => .bad 13
 | _ => .bad 13
def yeu (T : TT) (L : zad) (p t : Nat) (ob : Nat -> Option Ob) : List AV -> zbr
 | [x] => match T.find t with
   | some i => match i.k with
     | .struct _ => match ob p with
       | some (.tab ty sz n len get) => match za5 ty t, za5 sz i.sz, za5 (zd8 x.cells) i.sz, zgs x.cells && zg7 x with
         | true, true, true, true => .ok (.aer p n sz 0 0) [(p, zuc L ty sz n len get 1 (fun _ j => zbe .dead x.cells j))] []
         | _, _, _, _ => .bad 82
       | _ => .bad 82
     | _ => .bad 82
   | none => .bad 82
 | _ => .bad 82
def zyg (T : TT) (t : Nat) (ps : List (Nat × Operand)) (vals : List AV) : zbr :=
 match T.find t with
 | some i => match i.k with
   | .struct fs => match zhv T fs with
     | some pl => match cond (zeg vals) (zm2 (nth pl) i.zero ps vals) none with
       | some cs => .ok (.agg cs) [] []
       | none => .bad 14
     | none => .bad 14
   | .arr _ _ esz => match cond (zeg vals) (zm2 (fun i => some (i * esz, esz)) i.zero ps vals) none with
     | some cs => .ok (.agg cs) [] []
     | none => .bad 14
   | _ => .bad 14
 | none => .bad 14
def ycp (n d esz : Nat) : AV := match n with
 | 0 => .emz
 | n => .sl d esz 0 n
def zu7 (ob : Nat -> Option Ob) : AV -> AV
 | .ref id off => match ob id with | some (.box _ _) => .dead | _ => .ref id off
 | v => v
def zyz (ob : Nat -> Option Ob) : AV -> AV
 | .agg cs => .agg (zcd (zu7 ob) cs)
 | v => v
def yee (T : TT) (L : zad) (dst : Option Nat) (t n : Nat) (ps : List (Nat × Operand)) (vals : List AV) (ob : Nat -> Option Ob) (nw : Bool) : zbr :=
 match cond nw dst none with
 | some d => match T.find t with
   | some i => match i.k with
     | .slice e esz _ => match T.find e with
       | some ei => match cond (zbd (n * esz) 16777216) (immVs L ob vals) none with
         | some vals' => match cond (zeg vals') (zm2 (fun i => some (i * esz, esz)) (zcr ei.zero n) ps vals') none with
           | some cs => .ok (ycp n d esz) [(d, .row e esz n (zh4 L cs esz))] (zdg vals)
           | none => .bad 15
         | none => .bad 15
       | none => .bad 15
     | _ => .bad 15
   | none => .bad 15
 | none => .bad 15
def zxv (T : TT) (L : zad) (dst : Option Nat) (t n : Nat) (ps : List (Nat × Operand)) (vals : List AV) (ob : Nat -> Option Ob) (nw : Bool) : zbr :=
 match cond nw dst none with
 | some d => match T.find t with
   | some i => match i.k with
     | .slice e esz _ => match T.find e, n with
       | some ei, 1 => match cond (zbd esz 16777216 && zau 0 esz) (ygm (yi5 (match vals with | [.agg cs] => cs | _ => []))) none with
         | some q => match vals with
           | [.agg cs0] => match putP L q ob cs0 with
             | some cs1 => match zm2 (fun i => some (i * esz, esz)) (zcr ei.zero 1) ps [.agg cs1] with
               | some cs => .ok (.sl d esz 0 1) [(d, .rowp q e esz 1 (fun _ j => zbe .dead cs j))] (ze9 cs0)
               | none => .bad 83
             | none => .bad 83
           | _ => .bad 83
         | none => .bad 83
       | _, _ => .bad 83
     | _ => .bad 83
   | none => .bad 83
 | none => .bad 83
def zto (T : TT) (L : zad) (t : Nat) (ob : Nat -> Option Ob) : List AV -> zbr
 | [p] => match T.find t with
   | some i => match p with
     | .ref id off => match ob id with
       | some (.box ty cs) => match zbd (off + i.sz) (zd8 cs) with
         | true => match i.isAgg with
           | true => .ok (.agg (zch (zcs cs off) i.sz)) [] []
           | false => .ok (zbe .dead cs off) [] []
         | false => .bad 16
       | some (.row ty sz n get) => match off, i.isAgg, za5 i.sz (n * sz) with
         | 0, true, true => match zau 16 i.sz with
           | true => .ok (.arr i.sz (ztw get sz)) [] []
           | false => .ok (.agg (zjs (ztw get sz) 0 i.sz)) [] []
         | _, _, _ => .bad 16
       | some (.spr ty cs) => match zbd (off + i.sz) (zd8 cs) with
         | true => match i.isAgg with
           | true => .ok (.agg (zch (zcs cs off) i.sz)) [] []
           | false => .ok (zbe .dead cs off) [] []
         | false => .bad 16
       | _ => .bad 16
     | .eref id sz e off => match ob id with
       | some (.row ty sz' _ get) => match za5 sz sz' with
         | true => match zbd (off + i.sz) sz with
           | true => match i.isAgg with
             | true => .ok (.agg (zjs (fun j => get e (off + j)) 0 i.sz)) [] []
             | false => .ok (get e (off + 0)) [] []
           | false => .bad 17
         | false => .bad 17
       | some (.rowp _ ty sz' _ get) => match za5 sz sz' with
         | true => match zbd (off + i.sz) sz with
           | true => match i.isAgg with
             | true => .ok (.agg (zjs (fun j => get e (off + j)) 0 i.sz)) [] []
             | false => .ok (get e (off + 0)) [] []
           | false => .bad 17
         | false => .bad 17
       | _ => .bad 17
     | .aer p k sz e off => match ob p with
       | some (.tab ty sz' _ _ get) => match za5 sz sz' with
         | true => match zbd (off + i.sz) sz with
           | true => match i.isAgg with
             | true => .ok (.agg (zjs (fun j => get k e (off + j)) 0 i.sz)) [] []
             | false => .ok (get k e (off + 0)) [] []
           | false => .bad 17
         | false => .bad 17
       | _ => .bad 17
     | .iptr n get => match zbd i.sz n with
       | true => match i.isAgg with
         | true => .ok (.agg (zjs get 0 i.sz)) [] []
         | false => .ok (get 0) [] []
       | false => .bad 18
     | .bidx id off n q => match ob id with
       | some (.box _ cs) => match i.isAgg, zbd (off + n) (zd8 cs) with
         | false, true => .ok (zh4 L (zch (zcs cs off) n) 1 q 0) [] []
         | _, _ => .bad 18
       | _ => .bad 18
     | _ => .bad 19
   | none => .bad 19
 | _ => .bad 19
def ybc (L : zad) (i : Nat) (v : AV) : Nat -> List AV -> List AV
 | _, [] => []
 | k, x :: xs => zcc L (L2 L za5 i k) v x :: ybc L i v (k + 1) xs
def over (L : zad) (e off n : Nat) (cs : List AV) (get : Nat -> Nat -> AV) : Nat -> Nat -> AV :=
 fun e' j => match zbd off j with
   | true => match zau j (off + n) with
     | true => zcc L (L2 L za5 e' e) (zbe .dead cs (j - off)) (get e' j)
     | false => get e' j
   | false => get e' j
def zoz (L : zad) (k e off n : Nat) (cs : List AV) (get : Nat -> Nat -> Nat -> AV) : Nat -> Nat -> Nat -> AV :=
 fun k' e' j => match zbd off j with
   | true => match zau j (off + n) with
     | true => zcc L (L2 L and (L2 L za5 k' k) (L2 L za5 e' e)) (zbe .dead cs (j - off)) (get k' e' j)
     | false => get k' e' j
   | false => get k' e' j
def zxu (T : TT) (L : zad) (t : Nat) (ob : Nat -> Option Ob) (ice : Nat -> Bool) : List AV -> zbr
 | [p, v] => match T.find t with
   | some i => match za5 (zd8 v.cells) i.sz with
     | true => match cond (zg7 v) p .dead with
       | .ref id off => match ice id with
         | false => match ob id with
           | some (.box ty cs) => match zbd (off + i.sz) (zd8 cs) with
             | true => .ok .dead [(id, .box ty (zf3 cs off v.cells))] []
             | false => .bad 20
           | some (.row ty sz n _) => match off, za5 i.sz (n * sz), zgs v.cells with
             | 0, true, true => match v, za5 sz 1 with
               | .arr _ get', true => .ok .dead [(id, .row ty sz n (fun i _ => get' i))] []
               | v, _ => .ok .dead [(id, .row ty sz n (zh4 L v.cells sz))] []
             | _, _, _ => .bad 20
           | some (.spr ty cs) => match zbd (off + i.sz) (zd8 cs) with
             | true => .ok .dead [(id, .spr ty (zf3 cs off v.cells))] []
             | false => .bad 20
           | _ => .bad 20
         | true => .bad 20
       | .eref id sz e off => match ice id with
         | false => match ob id with
           | some (.rowp q ty sz' n get) => match za5 sz sz' with
             | true => match zbd (off + i.sz) sz with
               | true => match putP L q ob v.cells with
                 | some cs' => match zbh (ze9 v.cells) id with
                   | false => .ok .dead [(id, .rowp q ty sz n (over L e off i.sz cs' get))] (ze9 v.cells)
                   | true => .bad 21
                 | none => .bad 21
               | false => .bad 21
             | false => .bad 21
           | some (.row ty sz' n get) => match ydy v.cells with
            | true => match za5 sz sz', ygm (yi5 v.cells) with
             | true, some q => match zbd (off + i.sz) sz with
               | true => match putP L q ob v.cells with
                 | some cs' => match zbh (ze9 v.cells) id with
                   | false => .ok .dead [(id, .rowp q ty sz n (over L e off i.sz cs' get))] (ze9 v.cells)
                   | true => .bad 21
                 | none => .bad 21
               | false => .bad 21
             | _, _ => .bad 21
            | false => match za5 sz sz' with
             | true => match zbd (off + i.sz) sz with
               | true => match immL L ob v.cells with
                 | some cs' => match zbh (ze9 v.cells) id with
                   | false => .ok .dead [(id, .row ty sz n (over L e off i.sz cs' get))] (ze9 v.cells)
                   | true => .bad 21
                 | none => .bad 21
               | false => .bad 21
             | false => .bad 21
           | _ => .bad 21
         | true => .bad 21
       | .aer p k sz e off => match ice p with
         | false => match ob p with
           | some (.tab ty sz' n len get) => match za5 sz sz' with
             | true => match zbd (off + i.sz) sz with
               | true => match zgs v.cells with
                 | true => .ok .dead [(p, .tab ty sz n len (zoz L k e off i.sz v.cells get))] []
                 | false => .bad 21
               | false => .bad 21
             | false => .bad 21
           | _ => .bad 21
         | true => .bad 21
       | .bidx id off n q => match ice id with
         | false => match ob id with
           | some (.box ty cs) => match v.cells, zbd (off + n) (zd8 cs) with
             | [x], true => .ok .dead [(id, .box ty (zf3 cs off (ybc L q x 0 (zch (zcs cs off) n))))] []
             | _, _ => .bad 22
           | _ => .bad 22
         | true => .bad 22
       | _ => .bad 22
     | false => .bad 23
   | none => .bad 24
 | _ => .bad 24
def zyc (T : TT) (t f : Nat) : List AV -> zbr
 | [p] => match T.find t with
   | some { k := .struct fs, .. } => match zau f (zd8 fs) with
     | true => match T.sizeOf (zbe (0, 0) fs f).2 with
       | some (_ + 1) => match p with
         | .ref id off => .ok (.ref id (off + (zbe (0, 0) fs f).1)) [] []
         | .eref id sz i off => .ok (.eref id sz i (off + (zbe (0, 0) fs f).1)) [] []
         | .aer id k sz i off => .ok (.aer id k sz i (off + (zbe (0, 0) fs f).1)) [] []
         | .aep c id k sz i off => .okIf c (.aer id k sz i (off + (zbe (0, 0) fs f).1)) [] []
         | .iptr n get => .ok (.iptr (n - (zbe (0, 0) fs f).1) (fun j => get ((zbe (0, 0) fs f).1 + j))) [] []
         | _ => .bad 25
       | _ => .bad 25
     | false => .bad 25
   | _ => .bad 25
 | _ => .bad 25
def zyb (T : TT) (t f : Nat) : List AV -> zbr
 | [.agg cs] => match T.find t with
   | some { k := .struct fs, .. } => match zau f (zd8 fs) with
     | true => match T.find (zbe (0, 0) fs f).2 with
       | some i => match zbd ((zbe (0, 0) fs f).1 + i.sz) (zd8 cs) with
         | true => match i.isAgg with
           | true => .ok (.agg (zch (zcs cs (zbe (0, 0) fs f).1) i.sz)) [] []
           | false => match za5 i.sz 1 with
             | true => .ok (zbe .dead cs (zbe (0, 0) fs f).1) [] []
             | false => .bad 26
         | false => .bad 26
       | none => .bad 26
     | false => .bad 26
   | _ => .bad 26
 | _ => .bad 26
def zya (T : TT) (L : zad) (t : Nat) (ob : Nat -> Option Ob) : List AV -> zbr
 | [p, .int _ i] => match T.find t with
   | some ti => match ti.k with
     | .slice _ esz _ => match p with
       | .lst sz n get => match za5 esz sz with
         | true => .okIf (L2 L inR i (L zab n)) (.iptr sz (fun j => get (L Int.toNat i) j)) [] []
         | false => .bad 27
       | .sl id sz off n => match za5 esz sz with
         | true => match ob id with
           | some (.spr _ cs) => match off, zau (zd8 cs / sz - 1) n, zbd ((zd8 cs / sz - 1) * sz) (zd8 cs) with
             | 0, true, true => .okIf (L2 L ieq i (zab (zd8 cs / sz - 1))) (.ref id ((zd8 cs / sz - 1) * sz)) [] []
             | _, _, _ => .bad 27
           | _ => .okIf (L2 L inR i (L zab n)) (.eref id sz (L2 L Nat.add off (L Int.toNat i)) 0) [] []
         | false => .bad 27
       | .asl p k sz off n => match za5 esz sz with
         | true => .okIf (L2 L inR i (L zab n)) (.aer p k sz (L2 L Nat.add off (L Int.toNat i)) 0) [] []
         | false => .bad 27
       | _ => .bad 27
     | .arr n _ esz => match zau 1 n with
       | true => match p with
         | .ref id off => match ob id with
           | some (.row _ sz m _) => match off, za5 esz sz, za5 m n with
             | 0, true, true => .okIf (L2 L inR i (L zab n)) (.eref id sz (L Int.toNat i) 0) [] []
             | _, _, _ => .bad 28
           | some (.box _ _) => match za5 esz 1 with
             | true => .okIf (L2 L inR i (L zab n)) (.bidx id off n (L Int.toNat i)) [] []
             | false => .bad 28
           | _ => .bad 28
         | .iptr m get => match za5 m (n * esz) with
           | true => match esz with
             | 1 => .okIf (L2 L inR i (L zab n)) (.iptr 1 (fun _ => get (L Int.toNat i))) [] []
             | esz => .okIf (L2 L inR i (L zab n)) (.iptr esz (fun j => get (L2 L Nat.add (L2 L Nat.mul (L Int.toNat i) esz) j))) [] []
           | false => .bad 28
         | _ => .bad 28
       | false => .bad 28
     | _ => .bad 29
   | none => .bad 29
 | _ => .bad 29
def zy9 (T : TT) (L : zad) (t : Nat) : List AV -> zbr
 | [.str l, .int _ i] => match T.find t with
   | some { k := .str, .. } => .okIf (L2 L inR i (L slen l)) (.int .u8 (L2 L zod l i)) [] []
   | _ => .bad 30
 | [.agg cs, .int _ i] => match T.find t with
   | some { k := .arr n e 1, .. } => match za5 (zd8 cs) n, T.find e with
     | true, some ei => match ei.isAgg, za5 ei.sz 1 with
       | false, true => .okIf (L2 L inR i (L zab n)) (zh4 L cs 1 (L Int.toNat i) 0) [] []
       | _, _ => .bad 30
     | _, _ => .bad 30
   | _ => .bad 30
 | _ => .bad 30
def zof (L : zad) (n : Nat) : Option Int -> Option Int -> Nat
 | none, none => n
 | none, some b => L Int.toNat b
 | some a, none => L2 L Nat.sub n (L Int.toNat a)
 | some a, some b => L2 L Nat.sub (L Int.toNat b) (L Int.toNat a)
def ye8 (L : zad) (off : Nat) : Option Int -> Nat
 | none => off
 | some a => L2 L Nat.add off (L Int.toNat a)
def zyw (L : zad) (get : Nat -> Nat -> AV) : Option Int -> Nat -> Nat -> AV
 | none => get
 | some a => fun i j => get (L2 L Nat.add (L Int.toNat a) i) j
def yfg (L : zad) (s : List UInt8) : Option Int -> Option Int -> List UInt8
 | none, none => s
 | none, some b => L2 L (fun (s : List UInt8) (b : Int) => s.take b.toNat) s b
 | some a, none => L2 L (fun (s : List UInt8) (a : Int) => s.drop a.toNat) s a
 | some a, some b => L3 L yhy s a b
def zjy (L : zad) (n : Int) : Option Int -> Option Int -> Bool
 | none, none => true
 | none, some b => L2 L inC b n
 | some a, none => L2 L inC a n
 | some a, some b => L3 L inS a b n
def zxw (T : TT) (L : zad) (t : Nat) (ob : Nat -> Option Ob) (l h m : Bool) : List AV -> zbr
 | x :: vs => match T.find t with
   | some ti => match two vs l h m with
     | some (a, b) => match ti.k, x with
       | .arr n _ esz, .ref id off => match ob id with
         | some (.row _ sz n' _) => match off, za5 esz sz, za5 n' n with
           | 0, true, true => .okIf (zjy L (L zab n) a b) (.sl id esz (ye8 L 0 a) (zof L n a b)) [] []
           | _, _, _ => .bad 32
         | some (.box _ cs) => match za5 esz 1, zbd (off + n) (zd8 cs), zgs (zch (zcs cs off) n) with
           | true, true, true => .okIf (zjy L (L zab n) a b) (.lst 1 (zof L n a b) (zyw L (zh4 L (zch (zcs cs off) n) 1) a)) [] [id]
           | _, _, _ => .bad 32
         | _ => .bad 32
       | .str, .str s => .okIf (zjy L (L slen s) a b) (.str (yfg L s a b)) [] []
       | .slice _ esz _, .lst sz n get => match za5 esz sz with
         | true => .okIf (zjy L (L zab n) a b) (.lst sz (zof L n a b) (zyw L get a)) [] []
         | false => .bad 32
       | .slice _ esz _, .sl id sz off n => match za5 esz sz with
         | true => .okIf (zjy L (L zab n) a b) (.sl id sz (ye8 L off a) (zof L n a b)) [] []
         | false => .bad 32
       | .slice _ esz _, .asl p k sz off n => match za5 esz sz with
         | true => .okIf (zjy L (L zab n) a b) (.asl p k sz (ye8 L off a) (zof L n a b)) [] []
         | false => .bad 32
       | _, _ => .bad 33
     | none => .bad 33
   | none => .bad 33
 | _ => .bad 33
def ykb (T : TT) (L : zad) (t : Nat) (ob : Nat -> Option Ob) : List AV -> zbr
 | [x] => match T.find t with
   | some { k := .arr m _ 1, .. } => match zjt L ob x with
     | some (.lst 1 n get) => match zau 0 m with
       | true => .okIf (L2 L zbd m n) (.iptr m (fun j => get j 0)) [] (zd3 x)
       | false => .bad 51
     | _ => .bad 51
   | _ => .bad 51
 | _ => .bad 51
def zm7 (i : Nat) : List AV -> zbr
 | [.tup vs] => match zau i (zd8 vs) with
   | true => .ok (zbe .dead vs i) [] []
   | false => .bad 34
 | _ => .bad 34
def yep (fn : Fn) (n : Nat) (vals : List AV) : zbr :=
 match fn with
 | .func f => .ok (.fn f (zch vals n) (zcs vals n)) [] []
 | _ => .bad 35
def yk5 : List AV -> zbr
 | [.ref id off] => .ok (.ref id off) [] []
 | [.eref id sz i off] => .ok (.eref id sz i off) [] []
 | [.aer p k sz i off] => .ok (.aer p k sz i off) [] []
 | [.aep c p k sz i off] => .okIf c (.aer p k sz i off) [] []
 | [.iptr n get] => .ok (.iptr n get) [] []
 | [.bidx id off n i] => .ok (.bidx id off n i) [] []
 | _ => .bad 36
def zpt (T : TT) (L : zad) (dst : Option Nat) (t : Nat) (nw : Bool) : List AV -> zbr
 | [.int _ n, .int _ c] => match cond nw dst none with
   | some d => match T.find t with
     | some { k := .slice e esz eb, .. } => match T.find e with
       | some ei => match zgs ei.zero with
         | true => .okIf (L3 L ydh eb n c) (.sl d esz 0 (L Int.toNat n)) [(d, .row e esz (L Int.toNat n) (fun _ j => zbe .dead ei.zero j))] []
         | false => .bad 37
       | none => .bad 37
     | _ => .bad 37
   | none => .bad 37
 | _ => .bad 37
def yet (L : zad) (ob : Nat -> Option Ob) : List AV -> zbr
 | .fn f first caps :: xs => match immVs L ob (zb4 first (zb4 xs caps)) with
   | some ys => .call f ys (zdg (zb4 first (zb4 xs caps)))
   | none => match zru L ob (zb4 first (zb4 xs caps)) with
     | some ys => .callB f ys
     | none => .bad 38
 | _ => .bad 38
def yek (T : TT) (dst : Option Nat) (t : Nat) (nw : Bool) : zbr :=
 match cond nw dst none with
 | some d => match T.find t with
   | some { k := .map kt _, .. } => .ok (.mp d) [(d, .map (zd9 T kt) 0 (fun _ => false) (fun _ => .dead))] []
   | _ => .bad 60
 | none => .bad 60
def yel (T : TT) (L : zad) (t : Nat) (ok : Bool) (ob : Nat -> Option Ob) : List AV -> zbr
 | [m, k] => match T.find t with
   | some { k := .map kt et, .. } => match T.find et with
     | some ei => match yab ob m with
       | some (kk, n, has, val) => match ztb kk (zd9 T kt), keyOf kk k with
         | true, some key => .ok (cond ok (.tup [ybd L (L has key) (val key) (zer ei), .bool (L has key)]) (ybd L (L has key) (val key) (zer ei))) [] []
         | _, _ => .bad 61
       | none => .bad 61
     | none => .bad 61
   | _ => .bad 61
 | _ => .bad 61
def yk6 (T : TT) (L : zad) (t : Nat) (ob : Nat -> Option Ob) (ice : Nat -> Bool) : List AV -> zbr
 | [.mp id, k, v] => match T.find t with
   | some { k := .map kt _, .. } => match ice id, ob id with
     | false, some (.map kk n has val) => match ztb kk (zd9 T kt), keyOf kk k with
       | true, some key => match yds L ob v, zbh (zr7 v) id with
         | some v', false => .ok .dead [(id, .map kk (L2 L zt6 (L has key) n) (zgq L key has) (zi6 L key v' val))] (zr7 v)
         | _, _ => .bad 62
       | _, _ => .bad 62
     | _, _ => .bad 62
   | _ => .bad 62
 | _ => .bad 62
def zy0 (T : TT) (L : zad) (t : Nat) (ob : Nat -> Option Ob) (ice : Nat -> Bool) : List AV -> zbr
 | [.mp id, k] => match T.find t with
   | some { k := .map kt _, .. } => match ice id, ob id with
     | false, some (.map kk n has val) => match ztb kk (zd9 T kt), keyOf kk k with
       | true, some key => .ok (.tup []) [(id, .map kk (L2 L zt7 (L has key) n) (zhi L key has) val)] []
       | _, _ => .bad 63
     | _, _ => .bad 63
   | _ => .bad 63
 | _ => .bad 63
def zy4 (T : TT) (dst : Option Nat) (t : Nat) (nw : Bool) : zbr :=
 match cond nw dst none with
 | some d => match T.find t with
   | some { k := .map kt _, .. } => .ok (.mp d) [(d, .mapl (zd9 T kt) [])] []
   | _ => .bad 64
 | none => .bad 64
def zy8 (T : TT) (t : Nat) (ok : Bool) (kk : KK) (es : List (Ky × AV)) : List AV -> zbr
 | [_, k] => match T.find t with
   | some { k := .map kt et, .. } => match T.find et with
     | some ei => match ztb kk (zd9 T kt), keyOf kk k with
       | true, some key => match zb7 es key with
         | some v => .ok (cond ok (.tup [v, .bool true]) v) [] []
         | none => .ok (cond ok (.tup [zer ei, .bool false]) (zer ei)) [] []
       | _, _ => .bad 65
     | none => .bad 65
   | _ => .bad 65
 | _ => .bad 65
def yei (T : TT) (t : Nat) (ice : Nat -> Bool) (id : Nat) (kk : KK) (es : List (Ky × AV)) : List AV -> zbr
 | [_, k, v] => match T.find t with
   | some { k := .map kt _, .. } => match ice id, ztb kk (zd9 T kt), keyOf kk k with
     | false, true, some key => .ok .dead [(id, .mapl kk (zr2 es key v))] []
     | _, _, _ => .bad 66
   | _ => .bad 66
 | _ => .bad 66
def zy2 (T : TT) (dst : Option Nat) (t : Nat) (nw : Bool) : zbr :=
 match cond nw dst none with
 | some d => match T.find t with
   | some { k := .map _ _, .. } => .ok (.mp d) [(d, .mapq true)] []
   | _ => .bad 78
 | none => .bad 78
def zy6 (T : TT) (t : Nat) (ok : Bool) (e : Bool) : List AV -> zbr
 | [_, _] => match T.find t with
   | some { k := .map kt et, .. } => match T.find et, ztd T kt with
     | some ei, true => .okIf e (cond ok (.tup [zer ei, .bool false]) (zer ei)) [] []
     | _, _ => .bad 79
   | _ => .bad 79
 | _ => .bad 79
def yeg (T : TT) (t : Nat) (ice : Nat -> Bool) (id : Nat) (e : Bool) : List AV -> zbr
 | [_, _, _] => match T.find t with
   | some { k := .map kt _, .. } => match ice id, ztd T kt with
     | false, true => .okIf e .dead [(id, .mapq false)] []
     | _, _ => .bad 80
   | _ => .bad 80
 | _ => .bad 80
def zxz (T : TT) (t : Nat) (ice : Nat -> Bool) (id : Nat) (kk : KK) (es : List (Ky × AV)) : List AV -> zbr
 | [_, k] => match T.find t with
   | some { k := .map kt _, .. } => match ice id, ztb kk (zd9 T kt), keyOf kk k with
     | false, true, some key => .ok (.tup []) [(id, .mapl kk (zp8 es key))] []
     | _, _, _ => .bad 67
   | _ => .bad 67
 | _ => .bad 67
def yen (T : TT) (t : Nat) (es : List (Ky × AV)) : List AV -> zbr
 | [_] => match T.find t with
   | some { k := .map _ _, .. } => .ok (.int .i64 (zab (zd8 es))) [] []
   | _ => .bad 68
 | _ => .bad 68
def zy3 (T : TT) (dst : Option Nat) (t q sz : Nat) (nw : Bool) : zbr :=
 match cond nw dst none with
 | some d => match zix T t with
   | some (kt, _) => match ztb .s (zd9 T kt), zau q zbn with
     | true, true => .ok (.mp d) [(d, .mapp q sz [])] []
     | _, _ => .bad 84
   | _ => .bad 84
 | none => .bad 84
def zy1 (T : TT) (dst : Option Nat) (t q sz : Nat) (nw : Bool) : zbr :=
 match cond nw dst none with
 | some d => match zix T t, zau q zbn with
   | some _, true => .ok (.mp d) [(d, .mapr q sz [])] []
   | _, _ => .bad 85
 | none => .bad 85
def zy7 (T : TT) (L : zad) (t : Nat) (ok : Bool) (q sz : Nat) (l : List (List UInt8 × Nat)) : List AV -> zbr
 | [_, .str k] => match zix T t with
   | some (kt, et) => match ztb .s (zd9 T kt), ygj T et with
     | true, some _ => .ok (cond ok (.tup [.aep (L2 L zc8 l k) q (L2 L zdb l k) sz 0 0, .bool (L2 L zc8 l k)]) (.aep (L2 L zc8 l k) q (L2 L zdb l k) sz 0 0)) [] []
     | _, _ => .bad 86
   | _ => .bad 86
 | _ => .bad 86
def yeh (T : TT) (L : zad) (t : Nat) (ice : Nat -> Bool) (id q sz : Nat) (l : List (List UInt8 × Nat)) : List AV -> zbr
 | [_, .str k, v] => match zix T t with
   | some (kt, _) => match ice id, ztb .s (zd9 T kt) with
     | false, true => match v with
       | .aer p j sz' 0 0 => match za5 p q, za5 sz' sz with
         | true, true => .ok .dead [(id, .mapp q sz (L3 L zft l k j))] []
         | _, _ => .bad 87
       | .aep c p j sz' 0 0 => match za5 p q, za5 sz' sz with
         | true, true => .okIf c .dead [(id, .mapp q sz (L3 L zft l k j))] []
         | _, _ => .bad 87
       | _ => .bad 87
     | _, _ => .bad 87
   | _ => .bad 87
 | _ => .bad 87
def zo0 (T : TT) (L : zad) (t : Nat) (ice : Nat -> Bool) (id q sz : Nat) (l : List (List UInt8 × Nat)) : List AV -> zbr
 | [_, .str k] => match zix T t with
   | some (kt, _) => match ice id, ztb .s (zd9 T kt) with
     | false, true => .ok (.tup []) [(id, .mapp q sz (L2 L zhy l k))] []
     | _, _ => .bad 88
   | _ => .bad 88
 | _ => .bad 88
def yem (T : TT) (L : zad) (t : Nat) (l : List (List UInt8 × Nat)) : List AV -> zbr
 | [_] => match zix T t with
   | some _ => .ok (.int .i64 (L zab (L mlen l))) [] []
   | _ => .bad 89
 | _ => .bad 89
def zly (T : TT) (t : Nat) : Bool := match T.find t with
 | some { k := .bool, zero := [.bool false], isAgg := false, .. } => true
 | _ => false
def zyi (T : TT) (t : Nat) : Bool := match ygj T t with
 | some e => match T.find e with | some i => zau 0 i.sz | none => false
 | none => false
def zq4 (ob : Nat -> Option Ob) (q : Nat) : Bool := match ob q with
 | some (.tab _ sz _ _ _) => zau 1 sz
 | _ => false
def zy5 (T : TT) (L : zad) (t q sz : Nat) (l : List Nat) (ob : Nat -> Option Ob) : List AV -> zbr
 | [_, v] => match zix T t with
   | some (kt, et) => match zly T et, zyi T kt && zq4 ob q with
     | true, true => match v with
       | .aer p j sz' 0 0 => match za5 p q, za5 sz' sz with
         | true, true => .ok (.bool (L2 L zt1 l j)) [] []
         | _, _ => .bad 90
       | .aep c p j sz' 0 0 => match za5 p q, za5 sz' sz with
         | true, true => .okIf c (.bool (L2 L zt1 l j)) [] []
         | _, _ => .bad 90
       | _ => .bad 90
     | _, _ => .bad 90
   | _ => .bad 90
 | _ => .bad 90
def yef (T : TT) (L : zad) (t : Nat) (ice : Nat -> Bool) (id q sz : Nat) (l : List Nat) (ob : Nat -> Option Ob) : List AV -> zbr
 | [_, v, .bool true] => match zix T t with
   | some (kt, et) => match zly T et, zyi T kt && zq4 ob q, ice id with
     | true, true, false => match v with
       | .aer p j sz' 0 0 => match za5 p q, za5 sz' sz with
         | true, true => .ok .dead [(id, .mapr q sz (L2 L zyv l j))] []
         | _, _ => .bad 91
       | .aep c p j sz' 0 0 => match za5 p q, za5 sz' sz with
         | true, true => .okIf c .dead [(id, .mapr q sz (L2 L zyv l j))] []
         | _, _ => .bad 91
       | _ => .bad 91
     | _, _, _ => .bad 91
   | _ => .bad 91
 | _ => .bad 91
def yk7 (T : TT) (L : zad) (t : Nat) (ob : Nat -> Option Ob) : List AV -> zbr
 | [x] => match T.find t with
   | some i => match i.k with
     | .str => match x with
       | .str l => .ok (.int .i64 (L slen l)) [] []
       | _ => .bad 39
     | .slice _ _ _ => match x with
       | .lst _ n _ => .ok (.int .i64 (L zab n)) [] []
       | .sl _ _ _ n => .ok (.int .i64 (L zab n)) [] []
       | .asl _ _ _ _ n => .ok (.int .i64 (L zab n)) [] []
       | .nils => .ok (.int .i64 0) [] []
       | .emp => .ok (.int .i64 0) [] []
       | .emz => .ok (.int .i64 0) [] []
       | _ => .bad 39
     | .arr n _ _ => .ok (.int .i64 (zab n)) [] []
     | .map _ _ => match x with
       | .nilm => .ok (.int .i64 0) [] []
       | x => match yab ob x with
         | some (_, n, _, _) => .ok (.int .i64 (L zab n)) [] []
         | none => .bad 39
     | _ => .bad 39
   | none => .bad 39
 | _ => .bad 39
def znz (L : zad) : List AV -> zbr
 | [.sl id 1 0 n] => .okIf (L2 L zau 0 n) (.eref id 1 0 0) [] []
 | _ => .bad 48
def yhh (get : Nat -> Nat -> AV) (n : Nat) : Prop := ∀ i, i < n -> ∃ x, get i 0 = .int .u8 x /\ 0 <= x /\ x < 256
def zpr (T : TT) (L : zad) (pt : Nat) (ob : Nat -> Option Ob) (ice : Nat -> Bool) : List AV -> zbr
 | [.eref id 1 0 0, .int .i64 n] => match ice id, ob id, T.find pt with
   | false, some (.row ty 1 m get), some pi => match pi.pt with
     | some e => match za5 ty e, ydq T e with
       | true, true => .okP (L3 L (fun (n : Int) (m : Nat) (g : Nat -> Nat -> AV) => 0 < n /\ n <= (m : Int) /\ n <= 9223372036854775807 /\ yhh g n.toNat) n m get) (.str (L2 L zb1 (L Int.toNat n) (fun i => (get i 0).toI))) [(id, .gone)] []
       | _, _ => .bad 49
     | none => .bad 49
   | _, _, _ => .bad 49
 | _ => .bad 49
def yfe (k : FloatKind) (a b : Nat) : Bool := (k.format.order a b).isSome
def yib (k : FloatKind) (a b : Nat) : Nat := match k.format.order a b with
 | some .lt => a
 | some .gt => b
 | some .eq => if (k.decode a).neg then a else b
 | none => 0
def yic (k : FloatKind) (a b : Nat) : Nat := match k.format.order a b with
 | some .lt => b
 | some .gt => a
 | some .eq => if (k.decode a).neg then b else a
 | none => 0
def yhg (L : zad) : List AV -> zbr
 | [.int k a, .int k' b] => match decide (k = k') with
   | true => .ok (.int k (L2 L imin a b)) [] []
   | false => .bad 40
 | [.flt k a, .flt k' b] => match decide (k = k') with
   | true => .okIf (L2 L (yfe k) a b) (.flt k (L2 L (yib k) a b)) [] []
   | false => .bad 107
 | _ => .bad 40
def yeq : List AV -> zbr
 | [.flt k a, .flt k' b] => match decide (k = k') with
   | true => .ok (.cpx k a b) [] []
   | false => .bad 105
 | _ => .bad 105
def cRe : List AV -> zbr
 | [.cpx k a _] => .ok (.flt k a) [] []
 | _ => .bad 106
def cIm : List AV -> zbr
 | [.cpx k _ b] => .ok (.flt k b) [] []
 | _ => .bad 106
def yej (L : zad) : List AV -> zbr
 | [.int k a, .int k' b] => match decide (k = k') with
   | true => .ok (.int k (L2 L yi8 a b)) [] []
   | false => .bad 40
 | [.flt k a, .flt k' b] => match decide (k = k') with
   | true => .okIf (L2 L (yfe k) a b) (.flt k (L2 L (yic k) a b)) [] []
   | false => .bad 107
 | [.int k a, .int k' b, .int k'' d] => match decide (k = k') with
   | true => match decide (k = k'') with
     | true => .ok (.int k (L2 L yi8 (L2 L yi8 a b) d)) [] []
     | false => .bad 40
   | false => .bad 40
 | _ => .bad 40
def zc6 (L : zad) (esz : Nat) (ob : Nat -> Option Ob) : AV -> Option (Nat × (Nat -> Nat -> AV))
 | .lst sz n get => match za5 sz esz with | true => some (n, get) | false => none
 | .nils => some (0, fun _ _ => .dead)
 | .emp => some (0, fun _ _ => .dead)
 | .emz => some (0, fun _ _ => .dead)
 | .sl id sz off n => match za5 sz esz with
   | true => match ob id with
     | some (.row ty sz' _ get) => match za5 sz sz' with
       | true => some (n, fun i j => get (L2 L Nat.add off i) j)
       | false => none
     | _ => none
   | false => none
 | .lstx sz n get => match za5 sz esz with | true => some (n, get) | false => none
 | .slc id sz off n _ => match za5 sz esz with
   | true => match ob id with
     | some (.row ty sz' _ get) => match za5 sz sz' with
       | true => some (n, fun i j => get (L2 L Nat.add off i) j)
       | false => none
     | _ => none
   | false => none
 | .str l => match esz with
   | 1 => some (L List.length l, fun i _ => .int .u8 (L2 L zod l (L zab i)))
   | _ => none
 | _ => none
def yj0 (ob : Nat -> Option Ob) (src : Nat -> Nat -> AV) : AV -> Nat -> Nat -> AV
 | .sl id _ 0 _ => match ob id with
   | some (.row _ _ _ get) => get
   | _ => src
 | _ => src
def zc7 (T : TT) (t : Nat) : Bool := match T.find t with
 | some i => match i.k with
   | .slice _ _ _ => true
   | .str => true
   | _ => false
 | none => false
def zm8 (T : TT) (L : zad) (dst : Option Nat) (t t' : Nat) (ob : Nat -> Option Ob) (ice : Nat -> Bool) (nw : Bool) : List AV -> zbr
 | [s, x] => match cond nw dst none with
   | some d => match T.find t with
     | some { k := .slice e esz eb, .. } => match cond (zc7 T t') (cond (zbd 1 esz) (cond (T.find e).isSome (zc6 L esz ob x) none) none) none with
       | some (m, src) => match s with
         | .nils => .okIf (L3 L zbj eb 0 m) (.sl d esz 0 m) [(d, .row e esz m src)] []
         | .emz => .okIf (L3 L zbj eb 0 m) (.sl d esz 0 m) [(d, .row e esz m src)] []
         | .sl id sz off n => match za5 sz esz, ice id, off, ob id with
           | true, false, 0, some (.row ty sz' _ get) => match za5 sz sz' with
            | false => .bad 41
            | true => match za5 ty e with
              | false => .bad 41
              | true => .okIf (L3 L zbj eb n m) (.sl d esz 0 (L2 L Nat.add n m))
               [(d, .row e esz (L2 L Nat.add n m) (fun i j => zcc L (L2 L zau i n) (get i j) (src (L2 L Nat.sub i n) j))), (id, .gone)] []
           | true, false, 0, some (.spr ty cs) => match zbd (n * sz) (zd8 cs), za5 ty e, zau 0 n with
             | true, true, true => .okIf (L3 L zbj eb n m) (.sl d esz 0 (n + m)) [(d, .spr e (zb4 (zch cs (n * sz)) (zjs (ztw (yj0 ob src x) sz) 0 (m * sz)))), (id, .gone)] []
             | _, _, _ => .bad 41
           | _, _, _, _ => .bad 41
         | _ => .bad 41
       | none => .bad 41
     | _ => .bad 41
   | none => .bad 41
 | _ => .bad 41
def yg8 (ob : Nat -> Option Ob) : AV -> Option (Nat × Nat × Nat × (Nat -> Nat -> AV))
 | .sl id sz 0 n => match ob id with
   | some (.rowp q _ sz' _ get) => match za5 sz sz' with
     | true => some (q, sz, n, get)
     | false => none
   | _ => none
 | _ => none
def zi3 (T : TT) (L : zad) (dst : Option Nat) (t t' : Nat) (ob : Nat -> Option Ob) (ice : Nat -> Bool) (nw : Bool) (q sx m : Nat) (src : Nat -> Nat -> AV) : List AV -> zbr
 | [.sl id sz off n, _] => match cond nw dst none with
   | some d => match T.find t with
     | some { k := .slice e esz eb, .. } => match cond (zc7 T t') (cond (zbd 1 esz) (cond (T.find e).isSome (cond (zau 0 m) (za5 sx esz) false) false) false) false with
       | true => match za5 sz esz, ice id, off, ob id with
         | true, false, 0, some (.rowp q' ty sz' _ get) => match za5 sz sz', za5 ty e, za5 q' q with
           | true, true, true => .okIf (L3 L zbj eb n m) (.sl d esz 0 (L2 L Nat.add n m))
               [(d, .rowp q e esz (L2 L Nat.add n m) (fun i j => zcc L (L2 L zau i n) (get i j) (src (L2 L Nat.sub i n) j))), (id, .gone)] []
           | _, _, _ => .bad 92
         | _, _, _, _ => .bad 92
       | false => .bad 92
     | _ => .bad 92
   | none => .bad 92
 | _ => .bad 92
def zoe (c : Bool) (x y : AV) : AV := match c with | true => x | false => y
def ybe (L : zad) (sz : Nat) (c : Bool) (x y : AV) : AV := match sz with
 | 1 => zcc L c x y
 | _ => L3 L zoe c x y
def zdq (off n e : Nat) : Bool := zbd off e && zau e (off + n)
def yg9 (m n : Nat) : Bool := zau 0 n && zbd m n
def zyd (T : TT) (L : zad) (t t' : Nat) (ob : Nat -> Option Ob) (ice : Nat -> Bool) : List AV -> zbr
 | [.sl id sz off n, x] => match T.find t with
   | some { k := .slice e esz eb, .. } => match cond (zc7 T t') (cond (zbd 1 esz) (cond (T.find e).isSome (zc6 L esz ob x) none) none) none with
     | some (m, src) => match za5 sz esz, ice id, ob id with
       | true, false, some (.row ty sz' k get) => match za5 sz sz' with
         | true => .okIf (L2 L yg9 m n) (.int .i64 (L zab m)) [(id, .row ty sz k (fun i j => ybe L sz (L3 L zdq off m i) (src (L2 L Nat.sub i off) j) (get i j)))] []
         | false => .bad 50
       | _, _, _ => .bad 50
     | none => .bad 50
   | _ => .bad 50
 | _ => .bad 50
def ydx : List AV -> Bool
 | .slc _ _ _ _ _ :: _ => true
 | _ => false
def yae : List AV -> List AV
 | .slc id sz off n _ :: r => .sl id sz off n :: r
 | .lstx sz n get :: r => .lst sz n get :: r
 | l => l
def yk8 (T : TT) (L : zad) (t : Nat) : List AV -> zbr
 | [.slc _ _ _ _ cap] => match T.find t with
   | some { k := .slice _ _ _, .. } => .ok (.int .i64 (L zab cap)) [] []
   | _ => .bad 71
 | _ => .bad 71
def ycd (vals : List AV) (l h m : Bool) : Option (Option Int × Option Int × Option Int) :=
 match l, h, m, vals with
 | false, false, false, [] => some (none, none, none)
 | true, false, false, [.int _ a] => some (some a, none, none)
 | false, true, false, [.int _ b] => some (none, some b, none)
 | true, true, false, [.int _ a, .int _ b] => some (some a, some b, none)
 | false, true, true, [.int _ b, .int _ c] => some (none, some b, some c)
 | true, true, true, [.int _ a, .int _ b, .int _ c] => some (some a, some b, some c)
 | _, _, _, _ => none
def geo (L : zad) : Option Int -> Nat -> Nat
 | none, n => n
 | some a, _ => L Int.toNat a
def zys (L : zad) (off : Nat) : Option Int -> Nat
 | none => off
 | some a => L2 L Nat.add off (L Int.toNat a)
def zoc (L : zad) (x : Nat) : Option Int -> Nat
 | none => x
 | some a => L2 L Nat.sub x (L Int.toNat a)
def gei (L : zad) : Option Int -> Nat -> Int
 | none, n => L zab n
 | some a, _ => a
def yfc (i j k n : Int) : Bool := decide (0 <= i) && decide (i <= j) && decide (j <= k) && decide (k <= n)
def zps (T : TT) (L : zad) (t : Nat) (l h m : Bool) : List AV -> zbr
 | x :: vs => match T.find t with
   | some { k := .slice _ esz _, .. } => match ycd vs l h m with
     | some (a, b, c) => match x with
       | .slc id sz off n cap => match za5 esz sz with
         | true => .okIf (L (L (L (L yfc (gei L a 0)) (gei L b n)) (gei L c cap)) (L zab cap)) (.slc id sz (zys L off a) (zoc L (geo L b n) a) (zoc L (geo L c cap) a)) [] []
         | false => .bad 73
       | .sl id sz off n => match za5 esz sz, c with
         | true, some _ => .okIf (L (L (L (L yfc (gei L a 0)) (gei L b n)) (gei L c n)) (L zab n)) (.slc id sz (zys L off a) (zoc L (geo L b n) a) (zoc L (geo L c n) a)) [] []
         | _, _ => .bad 73
       | .lst sz n get => match za5 esz sz, c with
         | true, some c0 => .okIf (L2 L and (L (L (L (L yfc (gei L a 0)) (gei L b n)) c0) (L zab n)) (L2 L ieq (gei L b n) c0)) (.lstx sz (zoc L (geo L b n) a) (zyw L get a)) [] []
         | _, _ => .bad 73
       | _ => .bad 73
     | none => .bad 73
   | _ => .bad 73
 | _ => .bad 73
def zx2 (T : TT) (t : Nat) : Bool := match T.find t with
 | some { k := .int .i64, .. } => true
 | _ => false
def yih (ei : TI) : Nat -> Nat -> AV := fun _ j => zbe .dead ei.zero j
def yiz (T : TT) (L : zad) (esz eb : Nat) (ei : TI) (t' : Nat) (ob : Nat -> Option Ob) (x : AV) : Option (Bool × Nat × (Nat -> Nat -> AV)) :=
 match zc7 T t' with
 | true => match zc6 L esz ob x with
   | some (m, g) => some (true, m, g)
   | none => none
 | false => match zx2 T t', zgs ei.zero, x with
   | true, true, .int .i64 n => some (L2 L and (L2 L inC n 9223372036854775807) (L3 L zbj eb 0 (L Int.toNat n)), L Int.toNat n, yih ei)
   | _, _, _ => none
def zgw (T : TT) (L : zad) (dst : Option Nat) (t t' : Nat) (ob : Nat -> Option Ob) (ice : Nat -> Bool) (nw : Bool) : List AV -> zbr
 | [.slc id sz off n cap, x] => match cond nw dst none with
   | some d => match T.find t with
     | some { k := .slice e esz eb, .. } => match T.find e with
       | some ei => match cond (zbd 1 esz) (yiz T L esz eb ei t' ob x) none with
         | some (q, m, src) => match za5 sz esz, ice id, ob id with
           | true, false, some (.row ty sz' k get) => match za5 sz sz', za5 ty e with
             | true, true => .alt (L2 L and q (L2 L zbd (L2 L Nat.add n m) cap)) (.slc id sz off (L2 L Nat.add n m) cap) [(id, .row ty sz k (fun i j => L3 L zoe (L3 L zdq (L2 L Nat.add off n) m i) (src (L2 L Nat.sub i (L2 L Nat.add off n)) j) (get i j)))]
                 (L2 L and q (L3 L zbj eb n m)) (.sl d esz 0 (L2 L Nat.add n m)) [(d, .row e esz (L2 L Nat.add n m) (fun i j => L3 L zoe (L2 L zau i n) (get (L2 L Nat.add off i) j) (src (L2 L Nat.sub i n) j)))]
             | _, _ => .bad 74
           | _, _, _ => .bad 74
         | none => .bad 74
       | none => .bad 74
     | _ => .bad 74
   | none => .bad 74
 | _ => .bad 74
def yjv : List AV -> Bool
 | .lstx _ _ _ :: _ => true
 | _ => false
def zgv (T : TT) (L : zad) (p t t' : Nat) (ob : Nat -> Option Ob) : List AV -> zbr
 | [.lstx sz n get, x] => match T.find t with
   | some { k := .slice e esz eb, .. } => match cond (zc7 T t') (cond (zbd 1 esz) (cond (T.find e).isSome (zc6 L esz ob x) none) none) none with
     | some (m, src) => match za5 sz esz, ob p with
       | true, some (.tab ty sz' n0 len get0) => match za5 ty e, za5 sz' esz with
         | true, true => .okIf (L2 L and (L2 L za5 n 0) (L3 L zbj eb 0 m)) (.asl p n0 esz 0 m) [(p, zuc L ty esz n0 len get0 m src)] []
         | _, _ => .bad 81
       | _, _ => .bad 81
     | none => .bad 81
   | _ => .bad 81
 | _ => .bad 81
def zgu (T : TT) (L : zad) (dst : Option Nat) (t t' : Nat) (ob : Nat -> Option Ob) (nw : Bool) : List AV -> zbr
 | [.lstx sz n get, x] => match cond nw dst none with
   | some d => match T.find t with
     | some { k := .slice e esz eb, .. } => match cond (zc7 T t') (cond (zbd 1 esz) (cond (T.find e).isSome (zc6 L esz ob x) none) none) none with
       | some (m, src) => match za5 sz esz with
         | true => .okIf (L2 L and (L2 L zau 0 m) (L3 L zbj eb n m)) (.sl d esz 0 (L2 L Nat.add n m)) [(d, .row e esz (L2 L Nat.add n m) (fun i j => zcc L (L2 L zau i n) (get i j) (src (L2 L Nat.sub i n) j)))] []
         | false => .bad 77
       | none => .bad 77
     | _ => .bad 77
   | none => .bad 77
 | _ => .bad 77
def yam : AV -> Bool
 | .str _ => false
 | _ => true
def zo1 (T : TT) (L : zad) (t t' : Nat) (ob : Nat -> Option Ob) (ice : Nat -> Bool) : List AV -> zbr
 | [.slc id sz off n _, x] => match T.find t with
   | some { k := .slice e esz eb, .. } => match cond (yam x) (cond (zc7 T t') (cond (zbd 1 esz) (cond (T.find e).isSome (zc6 L esz ob x) none) none) none) none with
     | some (m, src) => match za5 sz esz, ice id, ob id with
       | true, false, some (.row ty sz' k get) => match za5 sz sz' with
         | true => .okIf (L2 L zau 0 n) (.int .i64 (L zab (L2 L Nat.min m n))) [(id, .row ty sz k (fun i j => L3 L zoe (L3 L zdq off (L2 L Nat.min m n) i) (src (L2 L Nat.sub i off) j) (get i j)))] []
         | false => .bad 75
       | _, _, _ => .bad 75
     | none => .bad 75
   | _ => .bad 75
 | _ => .bad 75
def slOf : AV -> Option (Nat × Nat × Nat × Nat)
 | .sl id sz off n => some (id, sz, off, n)
 | .slc id sz off n _ => some (id, sz, off, n)
 | _ => none
def zye (T : TT) (L : zad) (t : Nat) (ob : Nat -> Option Ob) (ice : Nat -> Bool) : List AV -> zbr
 | [x] => match slOf x, T.find t with
   | some (id, sz, off, n), some { k := .slice e esz _, .. } => match T.find e, za5 sz esz, zbd 1 esz, ice id, ob id with
     | some ei, true, true, false, some (.row ty sz' k get) => match za5 sz sz', zgs ei.zero with
       | true, true => .ok (.tup []) [(id, .row ty sz k (fun i j => L3 L zoe (L3 L zdq off n i) (zbe .dead ei.zero j) (get i j)))] []
       | _, _ => .bad 76
     | _, _, _, _, _ => .bad 76
   | _, _ => .bad 76
 | _ => .bad 76
def yk3 (T : TT) (L : zad) (dst : Option Nat) (op : Op) (vals : List AV) (ob : Nat -> Option Ob) (ice : Nat -> Bool) (nw : Bool) : zbr :=
 match op with
 | .move _ => zxy vals
 | .assign _ => zxy vals
 | .pick _ _ _ => zxx vals
 | .binOp op t x y _ => yev T L op t (cond (zlx x) true (zlx y)) vals
 | .unOp op _ _ => cUn L op vals
 | .convert s t _ => match zok T t with
   | true => zyf T L dst s t nw vals
   | false => yer T L s t ob vals
 | .alloc t => match zq3 ob t with
   | some p => zpu T L p t ob
   | none => zyh T dst t nw
 | .box t _ => match zq3 ob t with
   | some p => yeu T L p t ob vals
   | none => yk9 T L dst t nw vals
 | .build t ps => zyg T t ps.toList vals
 | .buildSlice t n ps => match yjw vals with
   | true => zxv T L dst t n ps.toList vals ob nw
   | false => yee T L dst t n ps.toList (zcd (zyz ob) vals) ob nw
 | .load t _ => zto T L t ob vals
 | .store t _ _ => zxu T L t ob ice vals
 | .fieldAddr t _ f => zyc T t f vals
 | .field t _ f => zyb T t f vals
 | .indexAddr t _ _ => zya T L t ob (yae vals)
 | .index t _ _ => zy9 T L t vals
 | .slice t _ l h m => match cond m.isSome true (ydx vals) with
   | true => zps T L t l.isSome h.isSome m.isSome vals
   | false => zxw T L t ob l.isSome h.isSome m.isSome vals
 | .extract _ i => zm7 i vals
 | .makeFunc fn first _ => yep fn first.size vals
 | .nilCheck _ => yk5 vals
 | .sliceToArrayPointer t _ => ykb T L t ob vals
 | .makeSlice t _ _ => zpt T L dst t nw vals
 | .makeMap t none => match zix T t with
   | some (kt, et) => match yfu T ob kt with
     | some q => zy1 T dst t q (szOf ob q) nw
     | none => match ygi T t with
       | true => zy2 T dst t nw
       | false => match yfu T ob et with
         | some q => zy3 T dst t q (szOf ob q) nw
         | none => match ygh T t with
           | true => zy4 T dst t nw
           | false => yek T dst t nw
   | none => .bad 60
 | .lookup t _ _ ok => match zyu ob vals with
   | some (_, kk, es) => zy8 T t ok kk es vals
   | none => match yf7 ob vals with
     | some (_, e) => zy6 T t ok e vals
     | none => match zyt ob vals with
       | some (_, q, sz, l) => zy7 T L t ok q sz l vals
       | none => match yf6 ob vals with
         | some (_, q, sz, l) => match ok with
           | false => zy5 T L t q sz l ob vals
           | true => .bad 90
         | none => yel T L t ok ob vals
 | .mapUpdate t _ _ _ => match zyu ob vals with
   | some (id, kk, es) => yei T t ice id kk es vals
   | none => match yf7 ob vals with
     | some (id, e) => yeg T t ice id e vals
     | none => match zyt ob vals with
       | some (id, q, sz, l) => yeh T L t ice id q sz l vals
       | none => match yf6 ob vals with
         | some (id, q, sz, l) => yef T L t ice id q sz l ob vals
         | none => yk6 T L t ob ice vals
 | .call c => match c.callee with
   | .value _ => yet L ob vals
   | .builtin .len => match c.argTypes.toList with
     | t :: _ => match zyu ob vals with
       | some (_, _, es) => yen T t es vals
       | none => match zyt ob vals with
         | some (_, _, _, l) => yem T L t l vals
         | none => yk7 T L t ob (yae vals)
     | [] => .bad 39
   | .builtin .cap => match c.argTypes.toList with
     | t :: _ => yk8 T L t vals
     | [] => .bad 71
   | .builtin .clear => match c.argTypes.toList with
     | t :: _ => zye T L t ob ice vals
     | [] => .bad 76
   | .builtin .min => yhg L vals
   | .builtin .complex => yeq vals
   | .builtin .real => cRe vals
   | .builtin .imag => cIm vals
   | .builtin .unsafeSliceData => znz L vals
   | .builtin .unsafeString => match c.argTypes.toList with
     | [t, _] => zpr T L t ob ice vals
     | _ => .bad 49
   | .builtin .max => yej L vals
   | .builtin .append => match c.argTypes.toList with
     | [t, t'] => match ydx vals with
       | true => zgw T L dst t t' ob ice nw vals
       | false => match yjv vals with
         | true => match zq3 ob (yay T t) with
           | some p => zgv T L p t t' ob vals
           | none => zgu T L dst t t' ob nw vals
         | false => match yg8 ob (zbe .dead vals 1) with
           | some (q, sz, m, src) => zi3 T L dst t t' ob ice nw q sz m src vals
           | none => zm8 T L dst t t' ob ice nw vals
     | _ => .bad 41
   | .builtin .copy => match c.argTypes.toList with
     | [t, t'] => match ydx vals with
       | true => zo1 T L t t' ob ice vals
       | false => zyd T L t t' ob ice vals
     | _ => .bad 50
   | .builtin .delete => match c.argTypes.toList with
     | [t, _] => match zyu ob vals with
       | some (id, kk, es) => zxz T t ice id kk es vals
       | none => match zyt ob vals with
         | some (id, q, sz, l) => zo0 T L t ice id q sz l vals
         | none => zy0 T L t ob ice vals
     | _ => .bad 63
   | _ => .bad 42
 | _ => .bad 0
def zbq : Op -> Bool
 | .alloc _ => true
 | .box _ _ => true
 | .buildSlice _ _ _ => true
 | .makeSlice _ _ _ => true
 | .makeMap _ _ => true
 | .convert _ _ _ => true
 | .call { callee := .builtin .append, .. } => true
 | _ => false
def zks : Op -> Bool
 | .store _ _ _ => true
 | .mapUpdate _ _ _ _ => true
 | .call { callee := .builtin .delete, .. } => true
 | .call { callee := .builtin .unsafeString, .. } => true
 | .call { callee := .builtin .append, .. } => true
 | .call { callee := .builtin .copy, .. } => true
 | .call { callee := .builtin .clear, .. } => true
 | _ => false
def evf (f : Nat -> Option AV) (kn : List (Nat × Bool)) : Operand -> AV
 | .tmp t => match za2 kn t with
   | some b => .bool b
   | none => match f t with
     | some v => v
     | none => .dead
 | .const v => yje v
 | .func f => .fn f [] []
 | .global _ => .dead
def yf9 (g : Nat -> Option Ob) (ids : List Nat) (id : Nat) : Option Ob := match zbh ids id with | true => g id | false => none
def yit : Op -> Bool
 | .alloc _ => true
 | .box _ _ => true
 | .makeMap _ _ => true
 | .call _ => true
 | _ => false
def yao : List AV -> List Nat
 | [] => []
 | x :: _ => zb4 (pOf1 x) (zr7 x)
def ztg (c : Nat -> Bool) (op : Op) (vals : List AV) (id : Nat) : Bool :=
 match zks op with
 | true => match zbh (yao vals) id with | true => c id | false => true
 | false => true
def zc3 (g : Nat -> Option Ob) (op : Op) (dst : Option Nat) : Bool :=
 match zbq op with
 | true => match dst with
   | some d => match g d with | none => true | some _ => false
   | none => false
 | false => false
def yji : Op -> Bool
 | .move _ => false
 | _ => true
def yis (op : Op) : List Nat := match yit op with
 | true => [yiv, yiu]
 | false => []
def yfd (op : Op) (vs : List AV) : List Nat := match yji op with
 | true => zb4 (yis op) (zb4 (yi5 vs) (zdg vs))
 | false => []
def zho (T : TT) (L : zad) (f : Nat -> Option AV) (g : Nat -> Option Ob) (c : Nat -> Bool) (kn : List (Nat × Bool)) (o : Oper) : zbr :=
 yk3 T L o.dst o.op (zcd (evf f kn) (zbm o.op)) (yf9 g (yfd o.op (zcd (evf f kn) (zbm o.op)))) (ztg c o.op (zcd (evf f kn) (zbm o.op))) (zc3 g o.op o.dst)
def ydo : List (Nat × Bool) -> Nat -> List (Nat × Bool)
 | [], _ => []
 | (t, b) :: r, d => match za5 t d with
   | true => ydo r d
   | false => (t, b) :: ydo r d
def litOf (kn : List (Nat × Bool)) : Operand -> Option Bool
 | .const (.bool b) => some b
 | .tmp t => za2 kn t
 | _ => none
def zne (kn : List (Nat × Bool)) : Op -> Option Bool
 | .move x => litOf kn x
 | .assign x => litOf kn x
 | .pick c a b => match litOf kn c with
   | some true => litOf kn a
   | some false => litOf kn b
   | none => none
 | _ => none
def ygz (kn : List (Nat × Bool)) (dst : Option Nat) (x : Option Bool) : List (Nat × Bool) :=
 match dst with
 | none => kn
 | some d => match x with
   | some b => (d, b) :: ydo kn d
   | none => ydo kn d
def St.put (s : St) (dst : Option Nat) (v : AV) : List (Nat × AV) := match dst with | some d => (d, v) :: s.slots | none => s.slots
def St.eff (s : St) (dst : Option Nat) (v : AV) (os : List (Nat × Ob)) (ice : List Nat) (x : Option Bool) : St :=
 ⟨s.put dst v, zb4 os s.objs, zb4 ice s.ice, ygz s.kn dst x⟩
def St.know (s : St) (t : Nat) (b : Bool) : St := ⟨s.slots, s.objs, s.ice, (t, b) :: s.kn⟩
structure Ent where
 ids : List Nat
 wr : List Nat
def keys {α : Type} : List (Nat × α) -> List Nat
 | [] => []
 | x :: xs => x.1 :: keys xs
def zwi : List Nat -> List Nat -> Bool
 | [], _ => false
 | x :: xs, ys => match zbh ys x with | true => true | false => zwi xs ys
def zpq (a b : Ent) : Bool := match zwi a.wr (zb4 b.ids b.wr) with | true => true | false => zwi b.wr a.ids
def zaq : List Edge -> Nat -> Bool
 | [], _ => false
 | e :: es, j => match Region.binds .any e with
   | true => match za5 e.on j with | true => true | false => zaq es j
   | false => zaq es j
def ahead (ops : List Oper) : Nat -> List Edge -> Nat -> Bool
 | 0, es, j => zaq es j
 | n + 1, es, j => match zaq es j with
   | true => true
   | false => es.any fun e => match Region.binds .any e with
     | true => match zbd e.on j with
       | true => false
       | false => match ops[e.on]? with
         | some o => ahead ops n o.after.toList j
         | none => false
     | false => false
def zh6 (ops : List Oper) (es : List Edge) (x : Ent) : List (Nat × Ent) -> Bool
 | [] => true
 | (j, y) :: r => match zpq x y with
   | true => match ahead ops 4 es j with
     | true => zh6 ops es x r
     | false => false
   | false => zh6 ops es x r
def zg1 (ops : List Oper) (o : Oper) : Option (Option Nat × Bool) :=
 match o.guard with
 | none => none
 | some (j, w) => match ops[j]? with
   | some o' => some (o'.dst, w)
   | none => some (none, w)
structure zca where
 ps : List Prop
 ids : List (Nat × Option Nat)
def zca.add (m : zca) (p : Prop) : zca := ⟨p :: m.ps, m.ids⟩
def ybn (id : Nat) : Option Nat -> Bool
 | some x => za5 x id
 | none => false
def zmf (id : Nat) : List (Nat × Option Nat) -> Bool
 | [] => false
 | p :: r => match ybn id p.2 with | true => true | false => zmf id r
def zcm (m : zca) (tid id : Nat) : Option zca :=
 match zau tid zbn with
 | false => none
 | true => match za2 m.ids tid with
   | some x => match ybn id x with | true => some m | false => none
   | none => match zmf id m.ids with
     | true => none
     | false => some ⟨m.ps, (tid, some id) :: m.ids⟩
def zfx (m : zca) (tid : Nat) : Option zca :=
 match zau tid zbn with
 | false => none
 | true => match za2 m.ids tid with
   | some _ => none
   | none => some ⟨m.ps, (tid, none) :: m.ids⟩
def zd5 (m : zca) : AV -> AV -> Option zca
 | .dead, _ => some m
 | .bool a, .bool b => some (m.add (b = a))
 | .int k a, .int k' b => match decide (k = k') with
   | true => some (m.add (b = a))
   | false => none
 | .str a, .str b => some (m.add (b = a))
 | .flt k a, .flt k' b => match decide (k = k') with
   | true => some (m.add (b = a))
   | false => none
 | .cpx k a b, .cpx k' a' b' => match decide (k = k') with
   | true => some ((m.add (a' = a)).add (b' = b))
   | false => none
 | .nilp, .nilp => some m
 | .nilm, .nilm => some m
 | .nilf, .nilf => some m
 | .nils, .nils => some m
 | .nili, .nili => some m
 | .ifb a, .ifb b => some (m.add (b = a))
 | .emp, .emp => some m
 | .emz, .emz => some m
 | .lst sz n get, .lst sz' n' get' => match za5 sz sz' with
   | true => some (m.add (n' = n /\ ∀ i j, i < n -> j < sz -> get' i j = get i j))
   | false => none
 | .lst sz n get, .lstx sz' n' get' => match za5 sz sz' with
   | true => some (m.add (n' = n /\ ∀ i j, i < n -> j < sz -> get' i j = get i j))
   | false => none
 | .lst _ n _, .nils => some (m.add (0 = n))
 | .lst _ n _, .emp => some (m.add (0 = n))
 | .lst _ n _, .emz => some (m.add (0 = n))
 | .iptr n get, .iptr n' get' => some (m.add (n <= n' /\ ∀ j, j < n -> get' j = get j))
 | .arr n get, .arr n' get' => match za5 n n' with
   | true => some (m.add (∀ j, j < n -> get' j = get j))
   | false => none
 | .ref tid off, .ref id off' => match za5 off off' with
   | true => zcm m tid id
   | false => none
 | .eref tid sz i off, .eref id sz' i' off' => match za5 sz sz' with
   | true => match za5 off off' with
     | true => match zcm m tid id with | some m => some (m.add (i' = i)) | none => none
     | false => none
   | false => none
 | .sl tid sz off n, .sl id sz' off' n' => match za5 sz sz' with
   | true => match zcm m tid id with | some m => some (m.add (off' = off /\ n' = n)) | none => none
   | false => none
 | .sl tid sz off n, .slc id sz' off' n' _ => match za5 sz sz' with
   | true => match zcm m tid id with | some m => some (m.add (off' = off /\ n' = n)) | none => none
   | false => none
 | .slc tid sz off n cap, .slc id sz' off' n' cap' => match za5 sz sz' with
   | true => match zcm m tid id with | some m => some (m.add (off' = off /\ n' = n /\ cap' = cap)) | none => none
   | false => none
 | .sl tid _ off n, .nils => match zfx m tid with | some m => some (m.add (0 = off /\ 0 = n)) | none => none
 | .fn f a b, .fn f' a' b' => match za5 f f', zje (.fn f' a' b') with
   | true, true => some (m.add (a' = a /\ b' = b))
   | _, _ => none
 | .mp tid, .mp id => zcm m tid id
 | .asl p k sz off n, .asl p' k' sz' off' n' => match za5 p p', za5 sz sz' with
   | true, true => match zcm m p p with | some m => some (m.add (k' = k /\ off' = off /\ n' = n)) | none => none
   | _, _ => none
 | .aer p k sz i off, .aer p' k' sz' i' off' => match za5 p p', za5 sz sz', za5 off off' with
   | true, true, true => match zcm m p p with | some m => some (m.add (k' = k /\ i' = i)) | none => none
   | _, _, _ => none
 | .mpi kk n has val, .mpi kk' n' has' val' => match decide (kk = kk') with
   | true => some (m.add (n' = n /\ (∀ k, has' k = has k) /\ ∀ k, has k = true -> val' k = val k))
   | false => none
 | .aep c p k sz i off, .aep c' p' k' sz' i' off' => match za5 p p', za5 sz sz', za5 off off' with
   | true, true, true => match zcm m p p with | some m => some (m.add (c' = c /\ k' = k /\ i' = i)) | none => none
   | _, _, _ => none
 | .aep c p k sz i off, .aer p' k' sz' i' off' => match za5 p p', za5 sz sz', za5 off off' with
   | true, true, true => match zcm m p p with | some m => some (m.add (true = c /\ k' = k /\ i' = i)) | none => none
   | _, _, _ => none
 | .aer p k sz i off, .aep c' p' k' sz' i' off' => match za5 p p', za5 sz sz', za5 off off' with
   | true, true, true => match zcm m p p with | some m => some (m.add (c' = true /\ k' = k /\ i' = i)) | none => none
   | _, _, _ => none
 | .aep c p _ _ _ _, .nilp => match zcm m p p with | some m => some (m.add (false = c)) | none => none
 | _, _ => none
def zgi (m : zca) : List AV -> List AV -> Option zca
 | [], [] => some m
 | x :: xs, y :: ys => match zd5 m x y with
   | some m => zgi m xs ys
   | none => none
 | _, _ => none
def zew (m : zca) : AV -> AV -> Option zca
 | .fn f a b, .fn f' a' b' => match zje (.fn f' a' b') with
   | true => zd5 m (.fn f a b) (.fn f' a' b')
   | false => match za5 f f', zgi m a a' with
     | true, some m => zgi m b b'
     | _, _ => none
 | .agg a, .agg b => zgi m a b
 | a, b => zd5 m a b
def zf2 (slots : List (Nat × AV)) : List (Nat × AV) -> zca -> Option zca
 | [], m => some m
 | (t, v) :: r, m => match za2 slots t with
   | some u => match zew m v u with
     | some m => zf2 slots r m
     | none => none
   | none => none
def ydi (m : zca) (y : AV) : AV -> Option zca
 | .dead => some m
 | .sl tid _ off n => match zfx m tid with
   | some m => some (m.add (y = .nils /\ 0 = off /\ 0 = n))
   | none => none
 | x => match zij x with
   | true => some (m.add (y = x))
   | false => none
def zqr (m : zca) (y : Nat -> AV) : Nat -> List AV -> Option zca
 | _, [] => some m
 | j, x :: xs => match ydi m (y j) x with
   | some m => zqr m y (j + 1) xs
   | none => none
def ya8 : List (Ky × AV) -> List (Ky × AV) -> Bool
 | [], [] => true
 | x :: xs, y :: ys => match kyb x.1 y.1 with | true => ya8 xs ys | false => false
 | _, _ => false
def ziv (m : zca) : Ob -> Ob -> Option zca
 | .box ty a, .box ty' b => match za5 ty ty' with
   | true => zgi m a b
   | false => none
 | .row ty sz n get, .row ty' sz' n' get' => match za5 ty ty', za5 sz sz' with
   | true, true => some (m.add (n' = n /\ ∀ i j, i < n -> j < sz -> get' i j = get i j))
   | _, _ => none
 | .rowp q ty sz n get, .rowp q' ty' sz' n' get' => match za5 q q', za5 ty ty', za5 sz sz' with
   | true, true, true => match zcm m q q with | some m => some (m.add (n' = n /\ ∀ i j, i < n -> j < sz -> get' i j = get i j)) | none => none
   | _, _, _ => none
 | .rowp q ty sz n get, .row ty' sz' n' get' => match za5 ty ty', za5 sz sz' with
   | true, true => some (m.add (n' = n /\ ∀ i j, i < n -> j < sz -> get' i j = get i j))
   | _, _ => none
 | .tab ty sz n len get, .tab ty' sz' n' len' get' => match za5 ty ty', za5 sz sz' with
   | true, true => some (m.add (n' = n /\ (∀ k, k < n -> len' k = len k) /\ ∀ k i j, k < n -> i < len k -> j < sz -> get' k i j = get k i j))
   | _, _ => none
 | .spr ty cs, .spr ty' cs' => match za5 ty ty', zbd (zd8 cs) (zd8 cs') with
   | true, true => zgi m cs (zch cs' (zd8 cs))
   | _, _ => none
 | .map kk n has val, .map kk' n' has' val' => match decide (kk = kk') with
   | true => some (m.add (n' = n /\ (∀ k, has' k = has k) /\ ∀ k, has k = true -> val' k = val k))
   | false => none
 | .mapq e, .mapq e' => some (m.add (e = true -> e' = true))
 | .mapp q sz l, .mapp q' sz' l' => match za5 q q', za5 sz sz' with
   | true, true => match zcm m q q with | some m => some (m.add (l' = l)) | none => none
   | _, _ => none
 | .mapr q sz l, .mapr q' sz' l' => match za5 q q', za5 sz sz' with
   | true, true => match zcm m q q with | some m => some (m.add (l' = l)) | none => none
   | _, _ => none
 | .mapl kk a, .mapl kk' b => match decide (kk = kk'), ya8 a b with
   | true, true => zgi m (zcd Prod.snd a) (zcd Prod.snd b)
   | _, _ => none
 | .spr ty cs, .row ty' sz n get => match za5 ty ty' with
   | true => match zqr m (ztw get sz) 0 cs with
     | some m => some (m.add (zd8 cs <= n * sz))
     | none => none
   | false => none
 | _, _ => none
def ziw (m : zca) : Ob -> Option zca
 | .row _ _ n _ => some (m.add (0 = n))
 | .rowp _ _ _ n _ => some (m.add (0 = n))
 | .spr _ [] => some m
 | _ => none
def zfy (s : St) (ice : List Nat) : List (Nat × Ob) -> zca -> Option zca
 | [], m => some m
 | (tid, o) :: r, m => match za2 m.ids tid with
   | some (some id) => match zbh s.ice id, zbh ice tid with
     | true, false => none
     | _, _ => match za2 s.objs id with
       | some o' => match ziv m o o' with
         | some m => zfy s ice r m
         | none => none
       | none => none
   | some none => match ziw m o with
     | some m => zfy s ice r m
     | none => none
   | none => none
def zmt : List Nat -> List (Nat × Option Nat)
 | [] => []
 | i :: r => (i, some i) :: zmt r
def zmi : List (Nat × Ob) -> List Nat
 | [] => []
 | (i, .tab _ _ _ _ _) :: r => i :: zmi r
 | _ :: r => zmi r
def zan : Ob -> Bool
 | .tab _ _ _ _ _ => true
 | _ => false
def zx4 (objs : List (Nat × Ob)) : List (Nat × Option Nat) -> Bool
 | [] => true
 | p :: r => match za2 objs p.1 with | some _ => zx4 objs r | none => false
def yan (objs : List (Nat × Ob)) : List Nat -> Bool
 | [] => true
 | p :: r => match za2 objs p with | some _ => yan objs r | none => false
structure yf0 where
 xs : List AV
 O : List (Nat × Ob)
 p : Prop
 r : AV
 O1 : List (Nat × Ob)
abbrev ykh := List AV -> (Nat -> Option Ob) -> Option yf0
structure zkp where
 fz : FuncId -> List AV -> Option (Prop × AV)
 mt : FuncId -> Option ykh
def zsw {α : Type} : Nat -> List α -> List (Nat × α)
 | _, [] => []
 | i, x :: xs => (i, x) :: zsw (i + 1) xs
def tgt (F : List (Nat × Option Nat)) (fr n : Nat) : Nat := match za2 F n with
 | some (some id) => id
 | _ => fr + n
def zga (F : List (Nat × Option Nat)) (fr : Nat) : AV -> AV
 | .ref id off => match zau id zbn with | true => .ref (tgt F fr id) off | false => .dead
 | .eref id sz i off => match zau id zbn with | true => .eref (tgt F fr id) sz i off | false => .dead
 | .sl id sz off n => match zau id zbn with | true => .sl (tgt F fr id) sz off n | false => .dead
 | .slc id sz off n cap => match zau id zbn with | true => .slc (tgt F fr id) sz off n cap | false => .dead
 | .mp id => match zau id zbn with | true => .mp (tgt F fr id) | false => .dead
 | .bidx id off n i => match zau id zbn with | true => .bidx (tgt F fr id) off n i | false => .dead
 | .aer p k sz i off => match zau p zbn with | true => .aer p k sz i off | false => .dead
 | .asl p k sz off n => match zau p zbn with | true => .asl p k sz off n | false => .dead
 | .aep c p k sz i off => match zau p zbn with | true => .aep c p k sz i off | false => .dead
 | .fn f a b => match zje (.fn f a b) with | true => .fn f a b | false => .dead
 | .agg _ => .dead
 | .tup _ => .dead
 | v => v
def ygc (F : List (Nat × Option Nat)) (fr : Nat) : AV -> AV
 | .agg cs => .agg (zcd (zga F fr) cs)
 | .tup cs => .tup (zcd (zga F fr) cs)
 | .fn f a b => match zje (.fn f a b) with | true => .fn f a b | false => .fn f (zcd (zga F fr) a) (zcd (zga F fr) b)
 | v => zga F fr v
def zii (F : List (Nat × Option Nat)) (fr : Nat) : Ob -> Ob
 | .box ty cs => .box ty (zcd (zga F fr) cs)
 | .spr ty cs => .spr ty (zcd (zga F fr) cs)
 | .mapl kk es => .mapl kk (zcd (fun x => (x.1, zga F fr x.2)) es)
 | o => o
def zf7 (F : List (Nat × Option Nat)) (O1 : List (Nat × Ob)) : List (Nat × Ob) -> List (Nat × Ob)
 | [] => []
 | (n, _) :: r => match za2 O1 n with
   | some _ => zf7 F O1 r
   | none => match za2 F n with
     | some (some id) => (id, .gone) :: zf7 F O1 r
     | _ => zf7 F O1 r
def zjv (F : List (Nat × Option Nat)) (fr : Nat) : List (Nat × Ob) -> List (Nat × Ob)
 | [] => []
 | (n, o) :: r => (tgt F fr n, zii F fr o) :: zjv F fr r
def zci (id : Nat) : Bool := match zbd 500000 id with | true => zau id 600000 | false => false
def zhb (objs : List (Nat × Ob)) (F : List (Nat × Option Nat)) (fr : Nat) : List (Nat × Ob) -> Bool
 | [] => true
 | (n, o) :: r => match za2 F n with
   | some (some _) => zhb objs F fr r
   | _ => match za2 objs (fr + n), zci (fr + n), zaw (fr + n), zan o with
     | none, false, false, false => zhb objs F fr r
     | _, _, _, _ => false
def tabsOk (F : List (Nat × Option Nat)) (O O1 : List (Nat × Ob)) : Bool := tabsOk1 O O1 && (tabsOk1 O1 O && tabsOk2 F O)
where
 tabsOk1 : List (Nat × Ob) -> List (Nat × Ob) -> Bool
   | [], _ => true
   | (i, .tab ty sz _ _ _) :: r, O1 => match za2 O1 i with
     | some (.tab ty' sz' _ _ _) => match za5 ty ty', za5 sz sz' with | true, true => tabsOk1 r O1 | _, _ => false
     | _ => false
   | (i, _) :: r, O1 => match za2 O1 i with
     | some (.tab _ _ _ _ _) => false
     | _ => tabsOk1 r O1
 tabsOk2 (F : List (Nat × Option Nat)) : List (Nat × Ob) -> Bool
   | [] => true
   | (i, .tab _ _ _ _ _) :: r => match za2 F i with
     | some x => match ybn i x with | true => tabsOk2 F r | false => false
     | none => false
   | _ :: r => tabsOk2 F r
def zqj : List (Nat × Ob) -> Bool
 | [] => true
 | (_, .gone) :: _ => false
 | _ :: r => zqj r
def yfh : List (Nat × Ob) -> Bool
 | [] => true
 | (n, _) :: r => match zau n zbn with | true => yfh r | false => false
def znn (O1 : List (Nat × Ob)) : List (Nat × Ob) -> List Prop
 | [] => []
 | (i, .tab _ _ n _ _) :: r => match za2 O1 i with
   | some (.tab _ _ n' _ _) => (n <= n') :: znn O1 r
   | _ => znn O1 r
 | _ :: r => znn O1 r
def ydj (s : St) (raw : List AV) (T : yf0) : Option zca :=
 match za5 (zd8 raw) (zd8 T.xs) with
 | true => match zf2 (zsw 0 raw) (zsw 0 T.xs) ⟨[], zmt (zmi T.O)⟩ with
   | some m => match zfy s [] T.O m with
     | some m => match zx4 T.O m.ids, zqj T.O1, tabsOk m.ids T.O T.O1, yfh T.O && yfh T.O1 with
       | true, true, true, true => some ⟨zb4 (znn T.O1 T.O) m.ps, m.ids⟩
       | _, _, _, _ => none
     | none => none
   | none => none
 | false => none
def ya2 : List Prop -> zbz -> zbz
 | [], t => t
 | p :: r, t => .must p (ya2 r t)
section
variable (T : TT) (L : zad) (S : zkp) (draw : Bool) (ops : List Oper)
def zqi (acc : List (Nat × Ent)) (i : Nat) (x : Ent) : List (Nat × Ent) :=
 match x.ids with
 | [] => match x.wr with
   | [] => acc
   | _ => (i, x) :: acc
 | _ => (i, x) :: acc
def zev (o : Oper) (i : Nat) (s : St) (acc : List (Nat × Ent)) (ids wr : List Nat) (v : AV) (os : List (Nat × Ob)) (ice : List Nat)
   (next : St -> List (Nat × Ent) -> zbz) : zbz :=
 match draw with
 | true => match zh6 ops o.after.toList ⟨zb4 ice ids, zb4 wr (keys os)⟩ acc with
   | true => next (s.eff o.dst v os ice (zne s.kn o.op)) (zqi acc i ⟨zb4 ice ids, zb4 wr (keys os)⟩)
   | false => .fail 100
 | false => next (s.eff o.dst v os ice (zne s.kn o.op)) acc
def yh6 (o : Oper) (i : Nat) (s : St) (acc : List (Nat × Ent)) (ids wr : List Nat) (next : St -> List (Nat × Ent) -> zbz) : zbr -> zbz
 | .ok v os ice => zev draw ops o i s acc ids wr v os ice next
 | .okIf b v os ice => .need b (zev draw ops o i s acc ids wr v os ice next)
 | .okP p v os ice => .must p (zev draw ops o i s acc ids wr v os ice next)
 | .alt b v os q v' os' => .ite b (zev draw ops o i s acc ids wr v os [] next) (.need q (zev draw ops o i s acc ids wr v' os' [] next))
 | .call f xs ice => match S.fz f xs with
   | some (p, r) => .must p (zev draw ops o i s acc ids wr r [] ice next)
   | none => .call f xs (fun r => zev draw ops o i s acc ids wr r [] ice next)
 | .callB f xs => match S.fz f xs with
   | some (p, r) => match zuw r with
     | true => .must p (zev draw ops o i s acc ids wr r [] [] next)
     | false => .fail 108
   | none => .fail 108
 | .bad n => .fail n
def ztf (s : St) (o : Oper) : List Nat := match draw with
 | true => zb4 (match zbq o.op with | true => (match o.dst with | some d => [d] | none => []) | false => []) (yfd o.op (zcd (evf (za2 s.slots) s.kn) (zbm o.op)))
 | false => []
def yfl (s : St) (o : Oper) : List Nat := match draw with
 | true => match zks o.op with
   | true => yao (zcd (evf (za2 s.slots) s.kn) (zbm o.op))
   | false => []
 | false => []
def yh5 (o : Oper) (i : Nat) (s : St) (acc : List (Nat × Ent)) (next : St -> List (Nat × Ent) -> zbz) (m : ykh) (raw : List AV) : zbz :=
 match m raw (za2 s.objs) with
 | some t => match ydj s raw t with
   | some mt => match zhb s.objs mt.ids (1000000 * (zd8 s.objs + 1)) t.O1 with
     | true => ya2 mt.ps (.must t.p (zev draw ops o i s acc (ztf draw s o) (yfl draw s o) (ygc mt.ids (1000000 * (zd8 s.objs + 1)) t.r)
         (zb4 (zjv mt.ids (1000000 * (zd8 s.objs + 1)) t.O1) (zf7 mt.ids t.O1 t.O)) [] next))
     | false => .fail 107
   | none => .fail 106
 | none => .fail 105
def zpa : Op -> Bool
 | .call { callee := .value _, .. } => true
 | _ => false
def znu (o : Oper) (i : Nat) (s : St) (acc : List (Nat × Ent)) (next : St -> List (Nat × Ent) -> zbz) : zbz :=
 match (match zpa o.op with
   | true => match zcd (evf (za2 s.slots) s.kn) (zbm o.op) with
     | .fn f first caps :: xs => match S.mt f with
       | some m => some (m, zb4 first (zb4 xs caps))
       | none => none
     | _ => none
   | false => none) with
 | some (m, raw) => yh5 draw ops o i s acc next m raw
 | none => yh6 S draw ops o i s acc (ztf draw s o) (yfl draw s o) next (zho T L (za2 s.slots) (za2 s.objs) (zbh s.ice) s.kn o)
def zcu : List Oper -> Nat -> St -> List (Nat × Ent) -> (St -> zbz) -> zbz
 | [], _, s, _, k => k s
 | o :: r, i, s, acc, k => match zg1 ops o with
   | none => znu T L S draw ops o i s acc (fun s acc => zcu r (i + 1) s acc k)
   | some (none, _) => .fail 101
   | some (some t, w) => match za2 s.kn t with
     | some b => match w, b with
       | true, true => znu T L S draw ops o i s acc (fun s acc => zcu r (i + 1) s acc k)
       | false, false => znu T L S draw ops o i s acc (fun s acc => zcu r (i + 1) s acc k)
       | _, _ => zcu r (i + 1) (s.eff o.dst (.tup []) [] [] none) acc k
     | none => match za2 s.slots t with
       | some (.tup []) => zcu r (i + 1) (s.eff o.dst (.tup []) [] [] none) acc k
       | some (.bool b) => match w with
         | true => .ite b (znu T L S draw ops o i (s.know t true) acc (fun s acc => zcu r (i + 1) s acc k))
             (zcu r (i + 1) ((s.know t false).eff o.dst (.tup []) [] [] none) acc k)
         | false => .ite b (zcu r (i + 1) ((s.know t true).eff o.dst (.tup []) [] [] none) acc k)
             (znu T L S draw ops o i (s.know t false) acc (fun s acc => zcu r (i + 1) s acc k))
       | _ => .fail 102
end
def zj7 : Op -> Bool
 | .store _ _ (.const (.bool _)) => true
 | _ => false
def zp1 : List Oper -> Bool
 | [] => true
 | o :: r => match o.guard with | none => zp1 r | some _ => false
def zxt : List Oper -> Option Nat
 | [a, b, c, d] => match zj7 b.op, zj7 c.op with
   | true, true => match zaq b.after.toList 0, zaq c.after.toList 0, zaq d.after.toList 1, zaq d.after.toList 2, zp1 [a, b, c, d] with
     | true, true, true, true, true => d.dst
     | _, _, _, _, _ => none
   | _, _ => none
 | _ => none
def yfx : List Oper -> List Oper
 | [a, b, c, d] => [a, c, b, d]
 | l => l
def yai (v : Nat) (k : St -> zbz) (s : St) : zbz := match za2 s.slots v with
 | some (.bool b) => k (s.know v b)
 | _ => .fail 103
def zow (T : TT) (L : zad) (S : zkp) (draw : Bool) (ops : List Oper) (s : St) (k : St -> zbz) : zbz :=
 match cond draw (zxt ops) none with
 | some v => zcu T L S false ops (zch ops 1) 0 s [] (fun s => .and (zcu T L S false ops (zcs ops 1) 1 s [] (yai v k))
     (zcu T L S false ops (zcs (yfx ops) 1) 1 s [] (yai v k)))
 | none => zcu T L S draw ops ops 0 s [] k
structure Ann where
 X : Type
 slots : X -> List (Nat × AV)
 objs : X -> List (Nat × Ob)
 keep : List Nat
 hold : List Nat
 inv : X -> Prop
 mu : X -> Nat
def zjw (slots : List (Nat × AV)) : List Nat -> Option (List (Nat × AV))
 | [] => some []
 | t :: r => match zbd 700000 t with
   | true => zjw slots r
   | false => match za2 slots t with
     | some v => match zjw slots r with
       | some l => some ((t, v) :: l)
       | none => none
     | none => none
def yjt : List Nat -> List Nat
 | [] => []
 | t :: r => match zbd 700000 t with
   | true => (t - 700000) :: yjt r
   | false => yjt r
def zlt (objs : List (Nat × Ob)) : List Nat -> Option (List (Nat × Ob))
 | [] => some []
 | t :: r => match za2 objs t with
   | some v => match zlt objs r with
     | some l => some ((t, v) :: l)
     | none => none
   | none => none
def zoy : List (Nat × Option Nat) -> Bool
 | [] => true
 | (t, x) :: r => match zci t with
   | true => match ybn t x with | true => zoy r | false => false
   | false => zoy r
def zgm : List (Nat × Ob) -> List (Nat × Ob) -> Bool
 | [], _ => true
 | (i, .tab _ _ _ _ _) :: r, tm => match za2 tm i with
   | some (.tab _ _ _ _ _) => zgm r tm
   | _ => false
 | _ :: r, tm => zgm r tm
def zt2 (s tm : St) (hold : List Nat) (next : zbz) : zbz :=
 match zf2 s.slots tm.slots ⟨[], zmt (zb4 (zmi tm.objs) hold)⟩ with
 | some m => match zfy s tm.ice tm.objs m with
   | some m => match zx4 tm.objs m.ids, yan tm.objs tm.ice, zoy m.ids with
     | true, true, true => match zgm s.objs tm.objs && yfh tm.objs with
       | true => ya2 (zb4 (znn tm.objs s.objs) m.ps) next
       | false => .fail 203
     | _, _, _ => .fail 202
   | none => .fail 201
 | none => .fail 200
def zpd (ice : List Nat) : List Nat -> List Nat
 | [] => []
 | i :: r => match zbh ice i with | true => i :: zpd ice r | false => zpd ice r
def St.int (s : St) (t : Nat) : Int := match za2 s.slots t with | some (.int _ n) => n | _ => 0
def St.str (s : St) (t : Nat) : List UInt8 := match za2 s.slots t with | some (.str l) => l | _ => []
def zu3 (s : St) (t : Nat) (f : Int -> Option Ann) : Option Ann := match za2 s.slots t with | some (.int _ n) => f n | _ => none
def Ann.st (a : Ann) (ks : List (Nat × AV)) (ko : List (Nat × Ob)) (ice : List Nat) (x : a.X) : St :=
 ⟨zb4 (a.slots x) ks, zb4 (a.objs x) ko, zb4 (yjt a.keep) (zpd ice a.hold), []⟩
def zd2 : Code -> List Nat
 | .seq a b => zb4 (zd2 a) (zd2 b)
 | .label l => [l]
 | _ => []
section
variable (T : TT) (L : zad) (S : zkp) (lo lb : Nat -> St -> Option Ann)
def noL : Nat -> Bool := fun _ => false
def zem (a : Ann) (ks : List (Nat × AV)) (ko : List (Nat × Ob)) (ice : List Nat) (m : Option Nat) (s : St) : zbz :=
 .ex a.X fun x => zt2 s (a.st ks ko ice x) a.hold (.must (a.inv x) (match m with
   | some m => .must (a.mu x < m) .yes
   | none => .yes))
abbrev K := Ex -> St -> zbz
def jump (again : Code -> St -> zbz) (body : Code) (base : St) (m : Option Nat) (k : K) : K := fun e s => match e with
 | .goto l => match findLabel body l with
   | some rest => match lb l base with
     | some a => match zjw base.slots a.keep with
       | some ks => match zlt base.objs a.hold with
         | some ko => zem a ks ko base.ice m s
         | none => .fail 210
       | none => .fail 211
     | none => again rest s
   | none => k (.goto l) s
 | e => k e s
def ze4 (body : Code) (base : St) (pass : Code -> St -> Nat -> zbz) : List Nat -> zbz -> zbz
 | [], t => t
 | l :: r, t => match lb l base with
   | some a => match findLabel body l with
     | some rest => match zjw base.slots a.keep with
       | some ks => match zlt base.objs a.hold with
         | some ko => .and (.all a.X fun x => .sup (a.inv x) (pass rest (a.st ks ko base.ice x) (a.mu x))) (ze4 body base pass r t)
         | none => .fail 210
       | none => .fail 211
     | none => ze4 body base pass r t
   | none => ze4 body base pass r t
def zk7 (pass : Code -> Code -> St -> K -> Option Nat -> St -> zbz) (body : Code) (s : St) (k : K) : zbz :=
 ze4 lb body s (fun rest s' m => pass body rest s' k (some m) s) (zd2 body) (pass body body s k none s)
def ydr : Option Ann -> Bool
 | some _ => true
 | none => false
def litJ : Operand -> St -> Option Ann
 | .tmp t, s => lo (2000000 + t) s
 | _, _ => none
def yh1 (an : Ann) (ks : List (Nat × AV)) (ko : List (Nat × Ob)) (ice : List Nat) (k : K) : K := fun e s' => match e with
 | .normal => zem an ks ko ice none s'
 | e => k e s'
def run (sc : Code -> St -> K -> zbz) : (Nat -> Bool) -> Code -> St -> K -> zbz
 | _, .skip, s, k => k .normal s
 | _, .region _ ops d, s, k => zow T L S d ops.toList s (fun s => k .normal s)
 | A, .seq a b, s, k => run sc A a s (fun e s' => match e with
   | .normal => run sc (fun l => match findLabel a l with | some _ => false | none => A l) b s' k
   | e => k e s')
 | _, .cond c a b, s, k => match litOf s.kn c with
   | some v => match litJ lo c s with
     | none => match v with
       | true => run sc noL a s k
       | false => run sc noL b s k
     | some an => match zjw s.slots an.keep with
       | some ks => match zlt s.objs an.hold with
         | some ko => .and (match v with
             | true => run sc noL a s (yh1 an ks ko s.ice k)
             | false => run sc noL b s (yh1 an ks ko s.ice k))
             (.all an.X fun y => .sup (an.inv y) (k .normal (an.st ks ko s.ice y)))
         | none => .fail 231
       | none => .fail 231
   | none => match c with
     | .tmp t => match za2 s.slots t with
       | some (.bool x) => match lo (1000000 + t) s with
         | none => .ite x (run sc noL a (s.know t true) k) (run sc noL b (s.know t false) k)
         | some an => match zjw s.slots an.keep with
           | some ks => match zlt s.objs an.hold with
             | some ko => .and (.ite x (run sc noL a (s.know t true) (fun e s' => match e with | .normal => zem an ks ko s.ice none s' | e => k e s'))
                   (run sc noL b (s.know t false) (fun e s' => match e with | .normal => zem an ks ko s.ice none s' | e => k e s')))
                 (.all an.X fun y => .sup (an.inv y) (k .normal (an.st ks ko s.ice y)))
             | none => .fail 231
           | none => .fail 231
       | _ => .fail 230
     | _ => .fail 230
 | _, .block id (.loop body), s, k => match lo id s with
   | some a => match zjw s.slots a.keep with
     | some ks => match zlt s.objs a.hold with
       | some ko => .and (zem a ks ko s.ice none s)
           (.all a.X fun x => .sup (a.inv x) (run sc noL body (a.st ks ko s.ice x) (fun e s' => match e with
             | .normal => zem a ks ko s.ice (some (a.mu x)) s'
             | .exit j => match za5 j id with
               | true => k .normal s'
               | false => k (.exit j) s'
             | e => k e s')))
       | none => .fail 210
     | none => .fail 211
   | none => .fail 220
 | _, .block id b, s, k => run sc noL b s (fun e s' => match e with
   | .exit j => match za5 j id with
     | true => k .normal s'
     | false => k (.exit j) s'
   | e => k e s')
 | _, .exit id, s, k => k (.exit id) s
 | _, .scope b, s, k => sc b s k
 | A, .label l, s, k => match A l with
   | true => k (.goto l) s
   | false => k .normal s
 | _, .goto l, s, k => k (.goto l) s
 | _, .ret, s, k => k .ret s
 | _, _, _, _ => .fail 240
def pass : Nat -> Code -> Code -> St -> K -> Option Nat -> St -> zbz
 | 0, _, _, _, _, _, _ => .fail 250
 | n + 1, body, rest, s, k, m, base => run T L S lo (zk7 lb (pass n)) (fun l => ydr (lb l base)) rest s (jump lb (fun rest' s' => pass n body rest' s' k m base) body base m k)
def yi3 (s : St) : ResultVar -> Option AV
 | .tmp t => some (evf (za2 s.slots) [] (.tmp t))
 | .cell a t => match zto T std t (za2 s.objs) [evf (za2 s.slots) [] (.tmp a)] with
   | .ok v _ _ => some v
   | _ => none
def zvo (s : St) : List ResultVar -> Option (List AV)
 | [] => some []
 | x :: xs => match yi3 T s x with
   | some v => match zvo s xs with
     | some l => some (v :: l)
     | none => none
   | none => none
def yid (rs : List ResultVar) (s : St) : zbz :=
 match zvo T s rs with
 | some vs => match immVs L (za2 s.objs) vs with
   | some [v] => .done v
   | some vs => .done (.tup vs)
   | none => match zru L (za2 s.objs) vs with
     | some [v] => .done v
     | some vs => .done (.tup vs)
     | none => .fail 260
 | none => .fail 261
def finT (rs : List ResultVar) : K := fun e s => match e with
 | .normal => yid T L rs s
 | .ret => yid T L rs s
 | _ => .fail 262
def zio {α : Type} : Nat -> List α -> List (Nat × α)
 | _, [] => []
 | i, x :: xs => (i, x) :: zio (i + 1) xs
def zzq (n : Nat) (f : Func) (xs : List AV) (O : List (Nat × Ob)) : zbz :=
 match f.body with
 | some c => run T L S lo (zk7 lb (pass T L S lo lb n)) noL c ⟨zio 0 xs, O, [], []⟩ (finT T L f.results.toList)
 | none => .fail 270
def runF (n : Nat) (f : Func) (xs : List AV) : zbz := zzq T L S lo lb n f xs []
end
end Sy
end Go.Proofs.Ytogomcfgfnlclaa
namespace Go.Proofs.Ytogomcfgfnlclaa
namespace Sy
open Go Go.RowKit
set_option linter.unusedSimpArgs false
set_option linter.unusedVariables false
abbrev Mu := Nat -> Option (Option (Nat × Nat × Nat))
abbrev zao : Mu := fun _ => none
def hcell (h : Array Obj) (b o : Nat) : Option Value := match h[b]? with
 | some (.cells c _ _) => c[o]?
 | _ => none
theorem ze6 (w : World) (b o : Nat) : w.cell? ⟨b, o, none⟩ = hcell w.heap b o := by
 unfold World.cell? hcell
 cases h : w.heap[b]? with
 | none => rfl
 | some x => cases x <;> rfl
theorem zr8 {h h' : Array Obj} {b : Nat} (e : h'[b]? = h[b]?) (o : Nat) : hcell h' b o = hcell h b o := by unfold hcell; rw [e]
theorem zak {h : Array Obj} {b : Nat} {c : Array Value} {t : TypeId} {fr : Nat × Nat} (e : h[b]? = some (.cells c t fr)) (o : Nat) : hcell h b o = c[o]? := by unfold hcell; rw [e]
theorem zcj {id : Nat} : zaw id = true ↔ zbn <= id := decide_eq_true_iff
theorem zap {id : Nat} : zaw id = false ↔ id < zbn := by rw [<- Bool.not_eq_true, zcj]; omega
theorem zdm {t : Nat} (ht : t < zbn) (k : Nat) : zaw (mid t k) = true /\ zfg (mid t k) = t /\ zmd (mid t k) = k := by
 unfold mid zfg zmd
 refine ⟨zcj.2 ?_, ?_, ?_⟩
 · rw [Nat.mul_add]; omega
 · rw [Nat.add_mul_mod_self_left, Nat.mod_eq_of_lt ht]
 · rw [Nat.add_mul_div_left _ _ (Nat.lt_of_le_of_lt (Nat.zero_le _) ht), Nat.div_eq_of_lt ht, Nat.zero_add, Nat.add_sub_cancel]
theorem ygp {id : Nat} (h : zaw id = true) : zfg id < zbn /\ mid (zfg id) (zmd id) = id := by
 have h := zcj.1 h
 have hb : 0 < zbn := by unfold zbn; omega
 unfold mid zfg zmd
 refine ⟨Nat.mod_lt _ hb, ?_⟩
 have h1 : 0 < id / zbn := Nat.div_pos h hb
 rw [Nat.sub_add_cancel h1]
 exact Nat.mod_add_div id zbn
def zde (o : Option Ob) (k : Nat) : Option Ob := match o with
 | some (.tab ty sz n len get) => if k < n then some (.row ty sz (len k) (get k)) else none
 | _ => none
def gx (g : Nat -> Option Ob) : Nat -> Option Ob := fun id => if zaw id = true then zde (g (zfg id)) (zmd id) else g id
theorem ybp {g : Nat -> Option Ob} {t : Nat} (ht : t < zbn) (k : Nat) : gx g (mid t k) = zde (g t) k := by
 obtain ⟨h1, h2, h3⟩ := zdm ht k
 unfold gx
 rw [if_pos h1, h2, h3]
theorem za7 {g : Nat -> Option Ob} {id : Nat} (h : zaw id = false) : gx g id = g id := by unfold gx; rw [if_neg (by rw [h]; decide)]
def pm (q : Nat) (μ : Mu) : Mu := fun id => if zaw id = true /\ zfg id = q then μ id else none
theorem zvw {q : Nat} {μ : Mu} {id : Nat} {x : Option (Nat × Nat × Nat)} (h : pm q μ id = some x) : μ id = some x := by
 unfold pm at h
 split at h
 · exact h
 · cases h
theorem zl9 {q : Nat} {μ μ' : Mu} (hm : ∀ id x, μ id = some x -> μ' id = some x) : ∀ id x, pm q μ id = some x -> pm q μ' id = some x := by
 intro id x h
 unfold pm at h |-
 split at h
 · rename_i e; rw [if_pos e]; exact hm _ _ h
 · cases h
abbrev one (v : Value) : Prop := v.oneCell' = true
def zkq (kk : KK) (v : Value) (k : Ky) : Prop := match kk with
 | .i ik => ∃ n, v = .int ik n /\ k = .i n
 | .s => ∃ s : ByteArray, v = .string s /\ k = .s s.data.toList
 | .a ks => ∃ l : List Int, l.length = ks.length /\ v = .agg ((ks.zip l).map fun x => Value.int x.1 x.2).toArray /\ k = .a l
 | .no => False
structure zco (kk : KK) (has : Ky -> Bool) (es : Array MapEntry) (clock : Nat) (kf : Nat -> Ky) : Prop where
 key : ∀ (i : Nat) e, es[i]? = some e -> zkq kk e.key (kf i) /\ has (kf i) = true
 all : ∀ k, has k = true -> ∃ i, i < es.size /\ kf i = k
 st : MapKept.Stamped es clock
inductive R (h : Array Obj) (D : Nat -> Prop) : Mu -> AV -> Value -> Prop
 | dead {μ : Mu} (v : Value) : R h D μ .dead v
 | bool {μ : Mu} (b : Bool) : R h D μ (.bool b) (.bool b)
 | int {μ : Mu} (k : IntKind) (n : Int) : R h D μ (.int k n) (.int k n)
 | str {μ : Mu} (l : List UInt8) (s : ByteArray) (e : s.data.toList = l) : R h D μ (.str l) (.string s)
 | flt {μ : Mu} (k : FloatKind) (b : Nat) : R h D μ (.flt k b) (.float k b)
 | cpx {μ : Mu} (k : FloatKind) (a b : Nat) : R h D μ (.cpx k a b) (.complex k a b)
 | nilp {μ : Mu} : R h D μ .nilp (.pointer none)
 | nilm {μ : Mu} : R h D μ .nilm (.map none)
 | nilf {μ : Mu} : R h D μ .nilf .nilFunc
 | nils {μ : Mu} : R h D μ .nils (.slice none 0 0)
 | nili {μ : Mu} : R h D μ .nili .nilIface
 | ifn {μ : Mu} : R h D μ (.ifb true) .nilIface
 | ifs {μ : Mu} (t : TypeId) (p : Value) : R h D μ (.ifb false) (.iface t p)
 | emp {μ : Mu} (a : Addr) (cap : Nat) : R h D μ .emp (.slice (some a) 0 cap)
 | emz {μ : Mu} (a : Addr) : R h D μ .emz (.slice (some a) 0 0)
 | lst0 {μ : Mu} (sz : Nat) (get : Nat -> Nat -> AV) (a : Option Addr) (cap : Nat) (hn : a = none -> cap = 0) : R h D μ (.lst sz 0 get) (.slice a 0 cap)
 | lst {μ : Mu} (sz n : Nat) (get : Nat -> Nat -> AV) (b o cap : Nat) (vs : Nat -> Nat -> Value) (hD : D b) (hc : n <= cap)
     (hv : ∀ i j, i < n -> j < sz -> hcell h b (o + i * sz + j) = some (vs i j)) (h1 : ∀ i j, i < n -> j < sz -> one (vs i j))
     (hr : ∀ i j, i < n -> j < sz -> R h D zao (get i j) (vs i j)) : R h D μ (.lst sz n get) (.slice (some ⟨b, o, none⟩) n cap)
 | lstx {μ : Mu} (sz n : Nat) (get : Nat -> Nat -> AV) (a : Option Addr) (r : R h D μ (.lst sz n get) (.slice a n n)) : R h D μ (.lstx sz n get) (.slice a n n)
 | iptr {μ : Mu} (n : Nat) (get : Nat -> AV) (b o : Nat) (vs : Nat -> Value) (hD : D b) (hv : ∀ j, j < n -> hcell h b (o + j) = some (vs j))
     (h1 : ∀ j, j < n -> one (vs j)) (hr : ∀ j, j < n -> R h D zao (get j) (vs j)) : R h D μ (.iptr n get) (.pointer (some ⟨b, o, none⟩))
 | ref {μ : Mu} (id off b z m : Nat) (hm : μ id = some (some (b, z, m))) : R h D μ (.ref id off) (.pointer (some ⟨b, off, none⟩))
 | eref {μ : Mu} (id sz i off b z m : Nat) (hm : μ id = some (some (b, z, m))) (hi : i < m) : R h D μ (.eref id sz i off) (.pointer (some ⟨b, i * sz + off, none⟩))
 | slv {μ : Mu} (id sz : Nat) (a : Option Addr) (hm : μ id = some none) : R h D μ (.sl id sz 0 0) (.slice a 0 0)
 | sl0 {μ : Mu} (id sz off b z m o : Nat) (hm : μ id = some (some (b, z, m))) (ho : off <= m) : R h D μ (.sl id sz off 0) (.slice (some ⟨b, o, none⟩) 0 0)
 | sl {μ : Mu} (id sz off n b z m cap : Nat) (hm : μ id = some (some (b, z, m))) (hn : n <= cap) (hz : (off + cap) * sz <= z) (ho : off + n <= m) : R h D μ (.sl id sz off n) (.slice (some ⟨b, off * sz, none⟩) n cap)
 | slcv {μ : Mu} (id sz : Nat) (a : Option Addr) (hm : μ id = some none) : R h D μ (.slc id sz 0 0 0) (.slice a 0 0)
 | slc0 {μ : Mu} (id sz off b z m o : Nat) (hm : μ id = some (some (b, z, m))) (ho : off <= m) : R h D μ (.slc id sz off 0 0) (.slice (some ⟨b, o, none⟩) 0 0)
 | slc {μ : Mu} (id sz off n cap b z m : Nat) (hm : μ id = some (some (b, z, m))) (hn : n <= cap) (hz : (off + cap) * sz <= z) (ho : off + cap <= m) : R h D μ (.slc id sz off n cap) (.slice (some ⟨b, off * sz, none⟩) n cap)
 | fn {μ : Mu} (f : FuncId) (xs ys : List AV) (vs us : Array Value) (e1 : xs.length = vs.size) (e2 : ys.length = us.size)
     (h1 : ∀ (i : Nat) x v, xs[i]? = some x -> vs[i]? = some v -> R h D μ x v) (h2 : ∀ (i : Nat) x v, ys[i]? = some x -> us[i]? = some v -> R h D μ x v) : R h D μ (.fn f xs ys) (.func (.func f) vs us)
 | agg {μ : Mu} (cs : List AV) (vs : Array Value) (e : cs.length = vs.size) (h1 : ∀ (i : Nat) v, vs[i]? = some v -> one v)
     (hr : ∀ (i : Nat) x v, cs[i]? = some x -> vs[i]? = some v -> R h D μ x v) : R h D μ (.agg cs) (.agg vs)
 | arr {μ : Mu} (n : Nat) (get : Nat -> AV) (vs : Array Value) (e : n = vs.size) (h1 : ∀ (i : Nat) v, vs[i]? = some v -> one v)
     (hr : ∀ (i : Nat) v, vs[i]? = some v -> R h D zao (get i) v) : R h D μ (.arr n get) (.agg vs)
 | tup {μ : Mu} (cs : List AV) (vs : Array Value) (e : cs.length = vs.size) (hr : ∀ (i : Nat) x v, cs[i]? = some x -> vs[i]? = some v -> R h D μ x v) : R h D μ (.tup cs) (.tuple vs)
 | bidx {μ : Mu} (id off n i b z m : Nat) (hm : μ id = some (some (b, z, m))) (hi : i < n) : R h D μ (.bidx id off n i) (.pointer (some ⟨b, off + i, none⟩))
 | mp {μ : Mu} (id b z m : Nat) (hm : μ id = some (some (b, z, m))) : R h D μ (.mp id) (.map (some b))
 | mpi {μ : Mu} (kk : KK) (n : Nat) (has : Ky -> Bool) (val : Ky -> AV) (b : Nat) (es : Array MapEntry) (clock : Nat) (kf : Nat -> Ky) (hD : D b)
     (hb : h[b]? = some (.map es clock)) (hn : es.size = n) (hk : zco kk has es clock kf)
     (hr : ∀ (i : Nat) e, es[i]? = some e -> R h D zao (val (kf i)) e.val) : R h D μ (.mpi kk n has val) (.map (some b))
 | aer {μ : Mu} (p k sz i off b z m : Nat) (hm : μ (mid p k) = some (some (b, z, m))) (hi : i < m) : R h D μ (.aer p k sz i off) (.pointer (some ⟨b, i * sz + off, none⟩))
 | aslv {μ : Mu} (p k sz : Nat) (a : Option Addr) (hm : μ (mid p k) = some none) : R h D μ (.asl p k sz 0 0) (.slice a 0 0)
 | asl0 {μ : Mu} (p k sz off b z m o : Nat) (hm : μ (mid p k) = some (some (b, z, m))) (ho : off <= m) : R h D μ (.asl p k sz off 0) (.slice (some ⟨b, o, none⟩) 0 0)
 | asl {μ : Mu} (p k sz off n b z m cap : Nat) (hm : μ (mid p k) = some (some (b, z, m))) (hn : n <= cap) (hz : (off + cap) * sz <= z) (ho : off + n <= m) : R h D μ (.asl p k sz off n) (.slice (some ⟨b, off * sz, none⟩) n cap)
 | aepn {μ : Mu} (p k sz i off : Nat) : R h D μ (.aep false p k sz i off) (.pointer none)
 | aepp {μ : Mu} (p k sz i off b z m : Nat) (hm : μ (mid p k) = some (some (b, z, m))) (hi : i < m) : R h D μ (.aep true p k sz i off) (.pointer (some ⟨b, i * sz + off, none⟩))
theorem R.mono' {h h' : Array Obj} {D D' : Nat -> Prop} (hb : ∀ b, D b -> h'[b]? = h[b]?) (hD : ∀ b, D b -> D' b) {μ : Mu} {x : AV} {v : Value}
   (r : R h D μ x v) : ∀ μ' : Mu, (∀ id x, μ id = some x -> μ' id = some x) -> R h' D' μ' x v := by
 induction r with
 | dead v => exact fun _ _ => .dead v
 | bool b => exact fun _ _ => .bool b
 | int k n => exact fun _ _ => .int k n
 | str l s e => exact fun _ _ => .str l s e
 | flt k b => exact fun _ _ => .flt k b
 | cpx k a b => exact fun _ _ => .cpx k a b
 | nilp => exact fun _ _ => .nilp
 | nilm => exact fun _ _ => .nilm
 | nilf => exact fun _ _ => .nilf
 | nils => exact fun _ _ => .nils
 | nili => exact fun _ _ => .nili
 | ifn => exact fun _ _ => .ifn
 | ifs t p => exact fun _ _ => .ifs t p
 | emp a cap => exact fun _ _ => .emp a cap
 | emz a => exact fun _ _ => .emz a
 | lst0 sz get a cap hn => exact fun _ _ => .lst0 sz get a cap hn
 | lst sz n get b o cap vs hD0 hc hv h1 hr ih => exact fun _ _ => .lst sz n get b o cap vs (hD b hD0) hc (fun i j hi hj => by rw [zr8 (hb b hD0)]; exact hv i j hi hj) h1 (fun i j hi hj => ih i j hi hj zao (fun _ _ h => h))
 | lstx sz n get a r ih => exact fun μ' hm => .lstx sz n get a (ih μ' hm)
 | iptr n get b o vs hD0 hv h1 hr ih => exact fun _ _ => .iptr n get b o vs (hD b hD0) (fun j hj => by rw [zr8 (hb b hD0)]; exact hv j hj) h1 (fun j hj => ih j hj zao (fun _ _ h => h))
 | ref id off b z m hm0 => exact fun _ hm => .ref id off b z m (hm _ _ hm0)
 | eref id sz i off b z m hm0 hi => exact fun _ hm => .eref id sz i off b z m (hm _ _ hm0) hi
 | slv id sz a hm0 => exact fun _ hm => .slv id sz a (hm _ _ hm0)
 | sl0 id sz off b z m o hm0 ho => exact fun _ hm => .sl0 id sz off b z m o (hm _ _ hm0) ho
 | sl id sz off n b z m cap hm0 hn hz ho => exact fun _ hm => .sl id sz off n b z m cap (hm _ _ hm0) hn hz ho
 | slcv id sz a hm0 => exact fun _ hm => .slcv id sz a (hm _ _ hm0)
 | slc0 id sz off b z m o hm0 ho => exact fun _ hm => .slc0 id sz off b z m o (hm _ _ hm0) ho
 | slc id sz off n cap b z m hm0 hn hz ho => exact fun _ hm => .slc id sz off n cap b z m (hm _ _ hm0) hn hz ho
 | fn f xs ys vs us e1 e2 h1 h2 ih1 ih2 => exact fun μ' hm => .fn f xs ys vs us e1 e2 (fun i x v h1 h2 => ih1 i x v h1 h2 μ' hm) (fun i x v h1 h2 => ih2 i x v h1 h2 μ' hm)
 | agg cs vs e h1 hr ih => exact fun μ' hm => .agg cs vs e h1 (fun i x v h1 h2 => ih i x v h1 h2 μ' hm)
 | arr n get vs e h1 hr ih => exact fun _ _ => .arr n get vs e h1 (fun i v hv => ih i v hv zao (fun _ _ h => h))
 | tup cs vs e hr ih => exact fun μ' hm => .tup cs vs e (fun i x v h1 h2 => ih i x v h1 h2 μ' hm)
 | bidx id off n i b z m hm0 hi => exact fun _ hm => .bidx id off n i b z m (hm _ _ hm0) hi
 | mp id b z m hm0 => exact fun _ hm => .mp id b z m (hm _ _ hm0)
 | mpi kk n has val b es clock kf hD0 hb0 hn hk hr ih => exact fun _ _ => .mpi kk n has val b es clock kf (hD b hD0) ((hb b hD0).trans hb0) hn hk (fun i e he => ih i e he zao (fun _ _ h => h))
 | aer p k sz i off b z m hm0 hi => exact fun _ hm => .aer p k sz i off b z m (hm _ _ hm0) hi
 | aslv p k sz a hm0 => exact fun _ hm => .aslv p k sz a (hm _ _ hm0)
 | asl0 p k sz off b z m o hm0 ho => exact fun _ hm => .asl0 p k sz off b z m o (hm _ _ hm0) ho
 | asl p k sz off n b z m cap hm0 hn hz ho => exact fun _ hm => .asl p k sz off n b z m cap (hm _ _ hm0) hn hz ho
 | aepn p k sz i off => exact fun _ _ => .aepn p k sz i off
 | aepp p k sz i off b z m hm0 hi => exact fun _ hm => .aepp p k sz i off b z m (hm _ _ hm0) hi
theorem R.mono {h h' : Array Obj} {D D' : Nat -> Prop} {μ μ' : Mu} (hb : ∀ b, D b -> h'[b]? = h[b]?) (hD : ∀ b, D b -> D' b) (hm : ∀ id x, μ id = some x -> μ' id = some x) {x : AV} {v : Value}
   (r : R h D μ x v) : R h' D' μ' x v := r.mono' hb hD μ' hm
theorem zp6 {h : Array Obj} {D : Nat -> Prop} {μ μ' : Mu} {sz n : Nat} {get : Nat -> Nat -> AV} {v : Value} (r : R h D μ (.lst sz n get) v) : R h D μ' (.lst sz n get) v := by
 cases r with
 | lst0 _ _ a cap hn => exact .lst0 _ _ a cap hn
 | lst _ _ _ b o cap vs hD hc hv h1 hr => exact .lst _ _ _ b o cap vs hD hc hv h1 hr
theorem R.lessx {h : Array Obj} {D : Nat -> Prop} {μ : Mu} {sz n : Nat} {get : Nat -> Nat -> AV} {v : Value} (r : R h D μ (.lstx sz n get) v) : R h D μ (.lst sz n get) v := by
 cases r with
 | lstx _ _ _ a r => exact r
theorem R.less {h : Array Obj} {D : Nat -> Prop} {μ : Mu} {id sz off n cap : Nat} {v : Value} (r : R h D μ (.slc id sz off n cap) v) : R h D μ (.sl id sz off n) v := by
 cases r with
 | slcv _ _ a hm => exact .slv _ _ a hm
 | slc0 _ _ _ b z m o hm ho => exact .sl0 _ _ _ b z m o hm ho
 | slc _ _ _ _ _ b z m hm hn hz ho => exact .sl _ _ _ _ b z m cap hm hn hz (by omega)
theorem R.aer_of {h : Array Obj} {D : Nat -> Prop} {μ : Mu} {p k sz i off : Nat} {v : Value} (r : R h D μ (.aep true p k sz i off) v) : R h D μ (.aer p k sz i off) v := by
 cases r with
 | aepp _ _ _ _ _ b z m hm hi => exact .aer _ _ _ _ _ b z m hm hi
theorem R.aep_of {h : Array Obj} {D : Nat -> Prop} {μ : Mu} {p k sz i off : Nat} {v : Value} (r : R h D μ (.aer p k sz i off) v) : R h D μ (.aep true p k sz i off) v := by
 cases r with
 | aer _ _ _ _ _ b z m hm hi => exact .aepp _ _ _ _ _ b z m hm hi
def ydz (l : List (List UInt8 × Nat)) : Ky -> Bool
 | .s k => zc8 l k
 | _ => false
def yhw (q sz : Nat) (l : List (List UInt8 × Nat)) : Ky -> AV
 | .s k => .aer q (zdb l k) sz 0 0
 | _ => .dead
def zh7 (l : List (List UInt8 × Nat)) : Prop := l.Pairwise (fun a b => slt a.1 b.1 = true)
theorem R.unpm {h : Array Obj} {D : Nat -> Prop} {q : Nat} {μ : Mu} {x : AV} {v : Value} (r : R h D (pm q μ) x v) : R h D μ x v := r.mono (fun _ _ => rfl) (fun _ h => h) (fun _ _ h => zvw h)
theorem R.free {h : Array Obj} {D : Nat -> Prop} {μ : Mu} {x : AV} {v : Value} (r : R h D zao x v) : R h D μ x v := r.mono (fun _ _ => rfl) (fun _ h => h) (fun _ _ h => by cases h)
def RL (h : Array Obj) (D : Nat -> Prop) (μ : Mu) (xs : List AV) (vs : Array Value) : Prop := xs.length = vs.size /\ ∀ (i : Nat) x v, xs[i]? = some x -> vs[i]? = some v -> R h D μ x v
def ones (vs : Array Value) : Prop := ∀ (i : Nat) v, vs[i]? = some v -> one v
def zqk (n : Nat) (fr : Nat × Nat) : Prop := ∀ o, o < n -> ¬ (fr.1 <= o /\ o < fr.2)
def zd0 (h : Array Obj) (D : Nat -> Prop) (μ : Mu) : Ob -> Option (Nat × Nat × Nat) -> Prop
 | .box ty cs, some (b, z, _) => ∃ c t fr, h[b]? = some (.cells c t fr) /\ c.size = z /\ (zqk z fr /\ t = ty) /\ ones c /\ RL h D μ cs c
 | .row ty sz n get, some (b, z, m) => n = m /\ ∃ c t fr, h[b]? = some (.cells c t fr) /\ c.size = z /\ (zqk z fr /\ t = ty /\ ones c /\ (1 < sz -> zqk (z + 1) fr)) /\ n * sz <= z /\
     ∀ i j, i < n -> j < sz -> ∃ v, c[i * sz + j]? = some v /\ one v /\ R h D zao (get i j) v
 | .spr ty cs, some (b, z, _) => ∃ c t fr, h[b]? = some (.cells c t fr) /\ c.size = z /\ (zqk z fr /\ t = ty) /\ cs.length <= z /\
     ∀ (i : Nat) x, cs[i]? = some x -> ∃ v, c[i]? = some v /\ one v /\ R h D μ x v
 | .rowp q ty sz n get, some (b, z, m) => n = m /\ ∃ c t fr, h[b]? = some (.cells c t fr) /\ c.size = z /\ (zqk z fr /\ t = ty /\ ones c /\ (1 < sz -> zqk (z + 1) fr)) /\ n * sz <= z /\
     ∀ i j, i < n -> j < sz -> ∃ v, c[i * sz + j]? = some v /\ one v /\ R h D (pm q μ) (get i j) v
 | .tab _ _ _ _ _, none => True
 | .tab _ _ _ _ _, some _ => False
 | .rowp _ _ _ n _, none => n = 0
 | .map kk n has val, some (b, _) => ∃ es clock kf, h[b]? = some (.map es clock) /\ es.size = n /\ zco kk has es clock kf /\ ∀ (i : Nat) e, es[i]? = some e -> R h D zao (val (kf i)) e.val
 | .mapl kk l, some (b, _) => ∃ es clock kf, h[b]? = some (.map es clock) /\ es.size = l.length /\ zco kk (fun k => (zb7 l k).isSome) es clock kf /\ (l.map Prod.fst).Nodup /\ ∀ (i : Nat) e, es[i]? = some e -> ∃ x, zb7 l (kf i) = some x /\ R h D μ x e.val
 | .mapl _ _, none => False
 | .mapq e, some (b, _) => ∃ es clock, h[b]? = some (.map es clock) /\ (e = true -> es = #[])
 | .mapq _, none => False
 | .mapp q sz l, some (b, _) => q < zbn /\ ∃ es clock kf, h[b]? = some (.map es clock) /\ es.size = l.length /\ zco .s (ydz l) es clock kf /\ zh7 l /\ ∀ (i : Nat) e, es[i]? = some e -> R h D (pm q μ) (yhw q sz l (kf i)) e.val
 | .mapp _ _ _, none => False
 | .mapr q sz l, some (b, _) => q < zbn /\ ∃ (es : Array MapEntry) (clock : Nat) (kf : Nat -> Nat), h[b]? = some (.map es clock) /\ (∀ (i : Nat) e, es[i]? = some e -> R h D (pm q μ) (.aer q (kf i) sz 0 0) e.key /\ e.val = .bool true /\ kf i ∈ l) /\ ∀ k ∈ l, ∃ i, i < es.size /\ kf i = k
 | .mapr _ _ _, none => False
 | .map _ _ _ _, none => False
 | .row _ _ n _, none => n = 0
 | .spr _ cs, none => cs = []
 | .gone, _ => True
 | .box _ _, none => False
structure Two where
 wr : Nat -> Prop
 imm : Nat -> Prop
 pin : Nat -> Option (Nat × Nat × Nat)
 mem : Mu := zao
def Plain (g : Nat -> Option Ob) : Prop := ∀ id o, g id = some o -> id < zbn /\ (zan o = true -> zci id = false)
theorem Plain.up {g : Nat -> Option Ob} (h : Plain g) {id : Nat} {o : Ob} (e : g id = some o) : gx g id = some o := by rw [za7 (zap.2 (h id o e).1), e]
theorem Plain.mem {g : Nat -> Option Ob} (h : Plain g) {p k : Nat} {ty sz n : Nat} {len : Nat -> Nat} {get : Nat -> Nat -> Nat -> AV} (e : g p = some (.tab ty sz n len get)) : gx g (mid p k) = if k < n then some (.row ty sz (len k) (get k)) else none := by
 rw [ybp (h p _ e).1, e]; rfl
def GIn (base : Nat) (M : Two) (W : World) : Prop := GOk W /\ gN <= base /\ ∀ b, M.wr b -> gN <= b
structure Sim (base : Nat) (M : Two) (W : World) (nt : Nat) (f : Nat -> Option AV) (g : Nat -> Option Ob) (c : Nat -> Bool) (a : Act) (w : World) (D : Nat -> Prop) (μ : Mu) : Prop where
 os : w.os = W.os
 tape : w.tape = W.tape
 output : w.output = W.output
 size : W.heap.size <= w.heap.size
 bs : base <= w.heap.size
 old : ∀ b, b < base -> ¬ M.wr b -> w.heap[b]? = W.heap[b]?
 defers : a.defers = []
 tmps : a.tmps.size = nt
 slots : ∀ t v, f t = some v -> R w.heap D μ v (a.tmps.getD t undef)
 dlt : ∀ b, D b -> b < w.heap.size
 low : ∀ b, D b -> b < base -> M.imm b \/ M.wr b
 domx : ∀ id, μ id = none ↔ gx g id = none
 obsx : ∀ id o x, gx g id = some o -> μ id = some x -> zd0 w.heap D μ o x
 injx : ∀ id id' b z z' o o', μ id = some (some (b, z)) -> μ id' = some (some (b, z')) -> gx g id = some o -> gx g id' = some o' -> o ≠ .gone -> o' ≠ .gone -> id = id'
 own : ∀ id b z, μ id = some (some (b, z)) -> b < w.heap.size /\ (base <= b \/ M.wr b)
 kdx : ∀ id b z o, μ id = some (some (b, z)) -> gx g id = some o -> o ≠ .gone -> (c id = true -> D b) /\ (c id = false -> ¬ D b)
 icyx : ∀ id, c id = true -> gx g id ≠ none
 tbs : Plain g
 icm : ∀ id, zaw id = true -> c id = false
 mems : ∀ id y, zaw id = true -> M.mem id = some y -> μ id = some y
 ntb : nt <= 500000
 pin : ∀ id y, zci id = true -> μ id = some y -> y = M.pin id
 gl : GIn base M W
def zi0 (f : Nat -> Option AV) (dst : Option Nat) (v : AV) : Nat -> Option AV := match dst with
 | some d => fun t => if t = d then some v else f t
 | none => f
def zay (g : Nat -> Option Ob) (os : List (Nat × Ob)) : Nat -> Option Ob := fun id => match za2 os id with
 | some o => some o
 | none => g id
def zg5 (c : Nat -> Bool) (ice : List Nat) : Nat -> Bool := fun id => zbh ice id || c id
theorem za9 {a b : Nat} (h : a ≠ b) : za5 a b = false := by simp [za5, h]
theorem za3 (a : Nat) : za5 a a = true := by simp [za5]
theorem za1 {a b : Nat} (h : za5 a b = true) : a = b := of_decide_eq_true h
theorem zcg {a b : Nat} : (zau a b = true) = (a < b) := by simp [zau]
theorem zda {a b : Nat} : (zbd a b = true) = (a <= b) := by simp [zbd]
theorem zd4 (c : Nat -> Bool) : zg5 c [] = c := by funext id; rfl
section
variable {base : Nat} {M : Two} {W : World} {nt : Nat} {f : Nat -> Option AV} {g : Nat -> Option Ob} {c : Nat -> Bool} {a : Act} {w : World} {D : Nat -> Prop} {μ : Mu}
theorem Sim.obs (h : Sim base M W nt f g c a w D μ) (id : Nat) (o : Ob) (x : Option (Nat × Nat × Nat)) (hg : g id = some o) (hm : μ id = some x) : zd0 w.heap D μ o x := h.obsx id o x (h.tbs.up hg) hm
theorem Sim.inj (h : Sim base M W nt f g c a w D μ) (id id' b : Nat) (z z' : Nat × Nat) (o o' : Ob) (h1 : μ id = some (some (b, z))) (h2 : μ id' = some (some (b, z'))) (h3 : g id = some o) (h4 : g id' = some o') (h5 : o ≠ .gone) (h6 : o' ≠ .gone) : id = id' :=
 h.injx id id' b z z' o o' h1 h2 (h.tbs.up h3) (h.tbs.up h4) h5 h6
theorem Sim.kd (h : Sim base M W nt f g c a w D μ) (id b : Nat) (z : Nat × Nat) (o : Ob) (h1 : μ id = some (some (b, z))) (h2 : g id = some o) (h3 : o ≠ .gone) : (c id = true -> D b) /\ (c id = false -> ¬ D b) := h.kdx id b z o h1 (h.tbs.up h2) h3
theorem Sim.gok (h : Sim base M W nt f g c a w D μ) : GOk w := yb9 h.gl.1 h.size fun b hb => h.old b (Nat.lt_of_lt_of_le hb h.gl.2.1) fun hw => absurd hb (Nat.not_lt_of_le (h.gl.2.2 b hw))
theorem Sim.gown (h : Sim base M W nt f g c a w D μ) {id b : Nat} {z : Nat × Nat} (hm : μ id = some (some (b, z))) : gN <= b := by
 rcases (h.own id b z hm).2 with h1 | h1
 · exact Nat.le_trans h.gl.2.1 h1
 · exact h.gl.2.2 b h1
theorem yap (a : Act) (d : Tmp) (v : Value) (t : Tmp) (hd : d < a.tmps.size) : (a.put (some d) v).tmps.getD t undef = if t = d then v else a.tmps.getD t undef := by
 simp only [Act.put, Array.getD_eq_getD_getElem?, Array.getElem?_setIfInBounds]
 by_cases h : d = t
 · subst h; simp [hd]
 · rw [if_neg h, if_neg (fun e => h e.symm)]
theorem Sim.put (h : Sim base M W nt f g c a w D μ) {dst : Option Nat} (hd : ∀ d, dst = some d -> d < nt) {v : AV} {u : Value} (r : R w.heap D μ v u) :
   Sim base M W nt (zi0 f dst v) g c (a.put dst u) w D μ := by
 cases dst with
 | none => exact h
 | some d =>
   refine { h with defers := h.defers, tmps := by simpa [Act.put] using h.tmps, slots := fun t x hx => ?_ }
   have hlt : d < a.tmps.size := by rw [h.tmps]; exact hd d rfl
   rw [yap _ _ _ _ hlt]
   simp only [zi0] at hx
   split at hx
   · rename_i e; subst e; rw [if_pos rfl]; cases hx; exact r
   · rename_i e; rw [if_neg e]; exact h.slots t x hx
theorem zd0.mono {h h' : Array Obj} {D D' : Nat -> Prop} {μ μ' : Mu} (hb : ∀ b, D b -> h'[b]? = h[b]?) (hD : ∀ b, D b -> D' b) (hm : ∀ id x, μ id = some x -> μ' id = some x) {o : Ob} {x : Option (Nat × Nat × Nat)}
   (hx : ∀ b z, x = some (b, z) -> o ≠ .gone -> h'[b]? = h[b]?) (r : zd0 h D μ o x) : zd0 h' D' μ' o x := by
 match o, x, r with
 | .box ty cs, some (b, z, m), ⟨c, t, fr, e, r1, r2, r3, r4, r5⟩ => exact ⟨c, t, fr, (hx b _ rfl (by simp)).trans e, r1, r2, r3, r4, fun i x v h1 h2 => (r5 i x v h1 h2).mono hb hD hm⟩
 | .row ty sz n get, some (b, z, m), ⟨r0, c, t, fr, e, r1, r2, r3, r4⟩ => exact ⟨r0, c, t, fr, (hx b _ rfl (by simp)).trans e, r1, r2, r3, fun i j hi hj => by
     obtain ⟨v, h1, h2, h3⟩ := r4 i j hi hj
     exact ⟨v, h1, h2, h3.mono hb hD (fun _ _ h => by cases h)⟩⟩
 | .spr ty cs, some (b, z, m), ⟨c, t, fr, e, r1, r2, r3, r4⟩ => exact ⟨c, t, fr, (hx b _ rfl (by simp)).trans e, r1, r2, r3, fun i x hi => by
     obtain ⟨v, h1, h2, h3⟩ := r4 i x hi
     exact ⟨v, h1, h2, h3.mono hb hD hm⟩⟩
 | .map kk n has val, some (b, z), ⟨es, clock, kf, e, r1, r2, r3⟩ => exact ⟨es, clock, kf, (hx b _ rfl (by simp)).trans e, r1, r2, fun i x hi => (r3 i x hi).mono hb hD (fun _ _ h => by cases h)⟩
 | .mapq q, some (b, z), ⟨es, clock, e, r1⟩ => exact ⟨es, clock, (hx b _ rfl (by simp)).trans e, r1⟩
 | .mapl kk l, some (b, z), ⟨es, clock, kf, e, r1, r2, r3, r4⟩ => exact ⟨es, clock, kf, (hx b _ rfl (by simp)).trans e, r1, r2, r3, fun i x hi => by
     obtain ⟨y, h1, h2⟩ := r4 i x hi
     exact ⟨y, h1, h2.mono hb hD hm⟩⟩
 | .mapp q sz l, some (b, z), ⟨r0, es, clock, kf, e, r1, r2, r3, r4⟩ => exact ⟨r0, es, clock, kf, (hx b _ rfl (by simp)).trans e, r1, r2, r3, fun i x hi => (r4 i x hi).mono hb hD (zl9 hm)⟩
 | .mapr q sz l, some (b, z), ⟨r0, es, clock, kf, e, r1, r2⟩ => exact ⟨r0, es, clock, kf, (hx b _ rfl (by simp)).trans e, fun i x hi => by
     obtain ⟨h1, h2, h3⟩ := r1 i x hi
     exact ⟨h1.mono hb hD (zl9 hm), h2, h3⟩, r2⟩
 | .row _ _ n _, none, r => exact r
 | .spr _ _, none, r => exact r
 | .rowp q ty sz n get, some (b, z, m), ⟨r0, c, t, fr, e, r1, r2, r3, r4⟩ => exact ⟨r0, c, t, fr, (hx b _ rfl (by simp)).trans e, r1, r2, r3, fun i j hi hj => by
     obtain ⟨v, h1, h2, h3⟩ := r4 i j hi hj
     exact ⟨v, h1, h2, h3.mono hb hD (zl9 hm)⟩⟩
 | .rowp _ _ _ n _, none, r => exact r
 | .tab _ _ _ _ _, none, _ => exact trivial
 | .gone, _, _ => exact trivial
theorem Sim.world (h : Sim base M W nt f g c a w D μ) {w' : World} (hos : w'.os = w.os) (htape : w'.tape = w.tape) (hout : w'.output = w.output) (hsz : w.heap.size <= w'.heap.size)
   (hb : ∀ b, b < w.heap.size -> w'.heap[b]? = w.heap[b]?) {D' : Nat -> Prop} (hD : ∀ b, D b -> D' b) (hD' : ∀ b, D' b -> D b \/ (w.heap.size <= b /\ b < w'.heap.size)) :
   Sim base M W nt f g c a w' D' μ where
 os := hos.trans h.os
 tape := htape.trans h.tape
 output := hout.trans h.output
 size := Nat.le_trans h.size hsz
 bs := Nat.le_trans h.bs hsz
 old := fun b h1 h2 => (hb b (by have := h.bs; omega)).trans (h.old b h1 h2)
 defers := h.defers
 tmps := h.tmps
 slots := fun t v hv => (h.slots t v hv).mono (fun b hb' => hb b (h.dlt b hb')) hD (fun _ _ h => h)
 dlt := fun b hb' => by
   rcases hD' b hb' with h1 | h1
   · exact Nat.lt_of_lt_of_le (h.dlt b h1) hsz
   · exact h1.2
 low := fun b hb' hlt => by
   rcases hD' b hb' with h1 | h1
   · exact h.low b h1 hlt
   · have := h.bs; omega
 domx := h.domx
 obsx := fun id o x h1 h2 => (h.obsx id o x h1 h2).mono (fun b hb' => hb b (h.dlt b hb')) hD (fun _ _ h => h) (fun b z e hne => hb b (h.own id b z (by rw [h2, e])).1)
 injx := h.injx
 own := fun id b z hm => ⟨Nat.lt_of_lt_of_le (h.own id b z hm).1 hsz, (h.own id b z hm).2⟩
 icyx := h.icyx
 tbs := h.tbs
 icm := h.icm
 mems := h.mems
 ntb := h.ntb
 pin := h.pin
 gl := h.gl
 kdx := fun id b z o hm ho hne => ⟨fun hc => hD b ((h.kdx id b z o hm ho hne).1 hc), fun hc hd => by
   rcases hD' b hd with h1 | h1
   · exact (h.kdx id b z o hm ho hne).2 hc h1
   · have := (h.own id b z hm).1; omega⟩
theorem Sim.drew (h : Sim base M W nt f g c a w D μ) : Sim base M W nt f g c a w.drew D μ :=
 h.world (w' := w.drew) rfl rfl rfl (Nat.le_refl _) (fun _ _ => rfl) (fun _ h => h) (fun _ h => .inl h)
theorem zsz {d nt : Nat} (h : d < nt) (hn : nt <= 500000) : zci d = false := by
 unfold zci
 split
 · rename_i h2; have := of_decide_eq_true h2; omega
 · rfl
theorem zha (g : Nat -> Option Ob) (d : Nat) (o : Ob) (id : Nat) : zay g [(d, o)] id = if id = d then some o else g id := by
 by_cases e : id = d
 · subst e; simp [zay, za2, za3]
 · have : za5 d id = false := za9 fun h => e h.symm
   simp [zay, za2, this, e]
theorem zbw {o : Option Ob} (h : ∀ x, o = some x -> zan x = false) (k : Nat) : zde o k = none := by
 unfold zde
 split
 · have := h _ rfl; cases this
 · rfl
theorem zgr {g : Nat -> Option Ob} {d : Nat} {o : Ob} (hd : d < zbn) (ho : zan o = false) (hg : ∀ x, g d = some x -> zan x = false) (id : Nat) : gx (zay g [(d, o)]) id = if id = d then some o else gx g id := by
 unfold gx
 by_cases hm : zaw id = true
 · have hne : id ≠ d := by have := zcj.1 hm; omega
   rw [if_pos hm, if_pos hm, if_neg hne, zha]
   by_cases e : zfg id = d
   · rw [if_pos e, zbw (by intro x hx; cases hx; exact ho), e, zbw hg]
   · rw [if_neg e]
 · rw [if_neg hm, if_neg hm, zha]
theorem zh0 {g : Nat -> Option Ob} {d : Nat} {o : Ob} (h : Plain g) (hd : d < zbn) (ho : zan o = true -> zci d = false) : Plain (zay g [(d, o)]) := by
 intro t x hx
 rw [zha] at hx
 split at hx
 · rename_i e; cases hx; rw [e]; exact ⟨hd, ho⟩
 · exact h t x hx
theorem ybo {g : Nat -> Option Ob} {p : Nat} (hp : p < zbn) {ty sz n n' : Nat} {len len' : Nat -> Nat} {get get' : Nat -> Nat -> Nat -> AV} (e : g p = some (.tab ty sz n len get)) (id : Nat) :
   gx (zay g [(p, .tab ty sz n' len' get')]) id = if id = p then some (.tab ty sz n' len' get') else if zaw id = true /\ zfg id = p then (if zmd id < n' then some (.row ty sz (len' (zmd id)) (get' (zmd id))) else none) else gx g id := by
 unfold gx
 by_cases hm : zaw id = true
 · have hne : id ≠ p := by have := zcj.1 hm; omega
   rw [if_pos hm, if_pos hm, if_neg hne, zha]
   by_cases e2 : zfg id = p
   · rw [if_pos e2, if_pos ⟨hm, e2⟩]; rfl
   · rw [if_neg e2, if_neg (fun h => e2 h.2)]
 · rw [if_neg hm, if_neg hm, zha, if_neg (show ¬ (zaw id = true /\ zfg id = p) from fun h => hm h.1)]
def zk2 (g g' : Nat -> Option Ob) (i : Nat) : Prop := gx g' i = gx g i \/ ∃ t t', gx g i = some t /\ gx g' i = some t' /\ t ≠ .gone /\ t' ≠ .gone /\ ∀ h D μ y, zd0 h D μ t y -> zd0 h D μ t' y
theorem ygt {h : Array Obj} {D : Nat -> Prop} {μ : Mu} {t : Ob} (ht : zan t = true) {y : Nat × Nat × Nat} (k : zd0 h D μ t (some y)) : False := by
 cases t with
 | tab ty sz n len get => exact k
 | _ => cases ht
theorem Sim.domS (h : Sim base M W nt f g c a w D μ) {g' : Nat -> Option Ob} {i : Nat} (k : zk2 g g' i) : μ i = none ↔ gx g' i = none := by
 rcases k with e | ⟨t, t', e1, e2, _⟩
 · rw [e]; exact h.domx i
 · rw [h.domx i, e1, e2]; simp
theorem zk2.live {g g' : Nat -> Option Ob} {i : Nat} (k : zk2 g g' i) {o : Ob} (ho : gx g' i = some o) : ∃ o0, gx g i = some o0 /\ (o ≠ .gone -> o0 ≠ .gone) /\ (o0 ≠ .gone -> o ≠ .gone) /\ ∀ h D μ y, zd0 h D μ o0 y -> zd0 h D μ o y := by
 rcases k with e | ⟨t, t', e1, e2, h1, h2, h3⟩
 · exact ⟨o, by rw [<- e]; exact ho, fun h => h, fun h => h, fun _ _ _ _ h => h⟩
 · rw [e2] at ho; cases ho
   exact ⟨t, e1, fun _ => h1, fun _ => h2, h3⟩
theorem zk2.some {g g' : Nat -> Option Ob} {i : Nat} (k : zk2 g g' i) (h : gx g i ≠ none) : gx g' i ≠ none := by
 rcases k with e | ⟨t, t', e1, e2, _⟩
 · rw [e]; exact h
 · rw [e2]; simp
theorem Sim.newG (h : Sim base M W nt f g c a w D μ) {d : Nat} (hp : zci d = false) (hd : gx g d = none) (o : Ob) (X : Obj) (z m : Nat) (hne : o ≠ .gone) {g' : Nat -> Option Ob}
   (hgd : gx g' d = some o) (hg : ∀ i, i ≠ d -> zk2 g g' i) (ht : Plain g')
   (hok : zd0 (w.alloc X).heap D μ o (some (w.heap.size, z, m))) :
   Sim base M W nt f g' c a (w.alloc X) D (fun id => if id = d then some (some (w.heap.size, z, m)) else μ id) := by
 have hmd : μ d = none := (h.domx d).2 hd
 have hc : c d = false := by
   cases e : c d with
   | false => rfl
   | true => exact absurd hd (h.icyx d e)
 have hmm : ∀ id x, μ id = some x -> (if id = d then some (some (w.heap.size, z, m)) else μ id) = some x := by
   intro id x hx
   have : id ≠ d := by rintro rfl; rw [hmd] at hx; cases hx
   rw [if_neg this, hx]
 have h' := h.world (w' := w.alloc X) rfl rfl rfl (by simp) (fun b hb => Below.heap_alloc _ _ _ hb) (D' := D) (fun _ h => h) (fun _ h => .inl h)
 refine { h' with slots := fun t v hv => (h'.slots t v hv).mono (fun _ _ => rfl) (fun _ h => h) hmm, domx := fun id => ?_, obsx := fun id o' x h1 h2 => ?_, injx := ?_, own := ?_, kdx := ?_, icyx := ?_, pin := fun id y hp' hy => ?_, tbs := ht, mems := fun id y h1 h2 => hmm _ _ (h.mems id y h1 h2) }
 rotate_right
 · by_cases e : id = d
   · rw [e, hp] at hp'; cases hp'
   · rw [if_neg e] at hy; exact h.pin id y hp' hy
 · by_cases e : id = d
   · subst e; simp [hgd]
   · simp only [if_neg e]; exact h.domS (hg id e)
 · by_cases e : id = d
   · subst e
     rw [hgd] at h1; cases h1
     rw [if_pos rfl] at h2; cases h2
     exact hok.mono (fun _ _ => rfl) (fun _ h => h) hmm (fun _ _ _ _ => rfl)
   · rw [if_neg e] at h2
     obtain ⟨o0, h3, _, _, h4⟩ := (hg id e).live h1
     exact h4 _ _ _ _ ((h'.obsx id o0 x h3 h2).mono (fun _ _ => rfl) (fun _ h => h) hmm (fun _ _ _ _ => rfl))
 · intro id id' b z z' o1 o2 h1 h2 h3 h4 h5 h6
   by_cases e : id = d <;> by_cases e' : id' = d
   · rw [e, e']
   · rw [if_pos e] at h1; rw [if_neg e'] at h2
     cases h1
     have := (h.own id' _ _ h2).1
     omega
   · rw [if_neg e] at h1; rw [if_pos e'] at h2
     cases h2
     have := (h.own id _ _ h1).1
     omega
   · rw [if_neg e] at h1; rw [if_neg e'] at h2
     obtain ⟨p1, q1, r1, _⟩ := (hg id e).live h3
     obtain ⟨p2, q2, r2, _⟩ := (hg id' e').live h4
     exact h.injx id id' b z z' p1 p2 h1 h2 q1 q2 (r1 h5) (r2 h6)
 · intro id b z h1
   by_cases e : id = d
   · rw [if_pos e] at h1; cases h1
     exact ⟨by simp, .inl h.bs⟩
   · rw [if_neg e] at h1; exact h'.own id b z h1
 · intro id b z o' h1 h2 h3
   by_cases e : id = d
   · rw [if_pos e] at h1; cases h1
     subst e
     refine ⟨fun hx => (by rw [hc] at hx; cases hx), fun _ hD => ?_⟩
     have := h.dlt _ hD
     omega
   · rw [if_neg e] at h1
     obtain ⟨p1, q1, r1, _⟩ := (hg id e).live h2
     exact h'.kdx id b z p1 h1 q1 (r1 h3)
 · intro id h1
   by_cases e : id = d
   · rw [e, hgd]; simp
   · exact (hg id e).some (h.icyx id h1)
theorem zhl {d : Nat} (h : d < nt) (hn : nt <= 500000) : d < zbn := by unfold zbn; omega
theorem zhs {g : Nat -> Option Ob} (hpl : Plain g) {p k : Nat} {ty sz n n' : Nat} {len len' : Nat -> Nat} {get get' : Nat -> Nat -> Nat -> AV} (e : g p = some (.tab ty sz n len get))
   (hn : ∀ j, j ≠ k -> (j < n' ↔ j < n)) (hl : ∀ j, j ≠ k -> len' j = len j) (hget : ∀ j, j ≠ k -> ∀ i q h D μ v, R h D μ (get j i q) v -> R h D μ (get' j i q) v) :
   gx (zay g [(p, .tab ty sz n' len' get')]) (mid p k) = (if k < n' then some (.row ty sz (len' k) (get' k)) else none) /\ (∀ i, i ≠ mid p k -> zk2 g (zay g [(p, .tab ty sz n' len' get')]) i) /\ Plain (zay g [(p, .tab ty sz n' len' get')]) := by
 have hp := hpl p _ e
 obtain ⟨m1, m2, m3⟩ := zdm hp.1 k
 refine ⟨?_, fun i hi => ?_, zh0 hpl hp.1 (fun _ => hp.2 rfl)⟩
 · rw [ybo hp.1 e, if_neg (by have := zcj.1 m1; omega), if_pos ⟨m1, m2⟩, m3]
 · unfold zk2
   rw [ybo hp.1 e]
   by_cases h1 : i = p
   · rw [if_pos h1, h1]
     refine .inr ⟨_, _, hpl.up e, rfl, by simp, by simp, fun h D μ y k => ?_⟩
     match y, k with
     | none, _ => exact trivial
     | some y, k => exact k
   · rw [if_neg h1]
     by_cases h2 : zaw i = true /\ zfg i = p
     · rw [if_pos h2]
       have hj : zmd i ≠ k := by
         rintro rfl
         apply hi
         have := (ygp h2.1).2
         rw [h2.2] at this
         exact this.symm
       have hg : gx g i = if zmd i < n then some (.row ty sz (len (zmd i)) (get (zmd i))) else none := by
         unfold gx
         rw [if_pos h2.1, h2.2, e]; rfl
       rw [hg, hl _ hj]
       by_cases h3 : zmd i < n
       · rw [if_pos h3, if_pos ((hn _ hj).2 h3)]
         refine .inr ⟨_, _, rfl, rfl, by simp, by simp, fun h D μ y k => ?_⟩
         match y, k with
         | none, k => exact k
         | some (b, z, m), ⟨k0, c, t, fr, k1, k2, k3, k4, k5⟩ =>
           refine ⟨k0, c, t, fr, k1, k2, k3, k4, fun a b ha hb => ?_⟩
           obtain ⟨v, v1, v2, v3⟩ := k5 a b ha hb
           exact ⟨v, v1, v2, hget _ hj _ _ _ _ _ _ v3⟩
       · rw [if_neg h3, if_neg (fun h => h3 ((hn _ hj).1 h))]; exact .inl rfl
     · rw [if_neg h2]; exact .inl rfl
theorem Sim.newO (h : Sim base M W nt f g c a w D μ) {d : Nat} (hlt : d < nt) (hd : g d = none) (o : Ob) (X : Obj) (z m : Nat) (hne : o ≠ .gone)
   (hok : zd0 (w.alloc X).heap D μ o (some (w.heap.size, z, m))) (ht : zan o = false := by rfl) :
   Sim base M W nt f (zay g [(d, o)]) c a (w.alloc X) D (fun id => if id = d then some (some (w.heap.size, z, m)) else μ id) :=
 h.newG (zsz hlt h.ntb) (by rw [za7 (zap.2 (zhl hlt h.ntb)), hd]) o X z m hne (by rw [zgr (zhl hlt h.ntb) ht (fun x hx => by rw [hd] at hx; cases hx), if_pos rfl]) (fun i hi => .inl (by rw [zgr (zhl hlt h.ntb) ht (fun x hx => by rw [hd] at hx; cases hx), if_neg hi])) (zh0 h.tbs (zhl hlt h.ntb) (fun _ => zsz hlt h.ntb)) hok
theorem Sim.new (h : Sim base M W nt f g c a w D μ) {d : Nat} {fr : Nat × Nat} (hlt : d < nt) (hd : g d = none) (o : Ob) (cs : Array Value) (t : TypeId) (m : Nat) (hne : o ≠ .gone)
   (hok : zd0 (w.alloc (.cells cs t fr)).heap D μ o (some (w.heap.size, cs.size, m))) (ht : zan o = false := by rfl) :
   Sim base M W nt f (zay g [(d, o)]) c a (w.alloc (.cells cs t fr)) D (fun id => if id = d then some (some (w.heap.size, cs.size, m)) else μ id) :=
 h.newO hlt hd o (.cells cs t fr) cs.size m hne hok ht
theorem zbx : ∀ {l : List Nat} {n : Nat}, zbh l n = true ↔ n ∈ l
 | [], n => by simp [zbh]
 | x :: xs, n => by
   unfold zbh
   cases e : za5 x n with
   | true => simp [za1 e]
   | false =>
     have : x ≠ n := by rintro rfl; rw [za3] at e; cases e
     simp [zbx (l := xs)]
     exact fun h => absurd h.symm this
theorem Sim.freeze (h : Sim base M W nt f g c a w D μ) (ids : List Nat) (hids0 : ∀ id, id ∈ ids -> ∃ o, g id = some o /\ o ≠ .gone) :
   Sim base M W nt f g (zg5 c ids) a w (fun b => D b \/ ∃ id z m, id ∈ ids /\ μ id = some (some (b, z, m))) μ := by
 have hids : ∀ id, id ∈ ids -> ∃ o, gx g id = some o /\ o ≠ .gone := fun id hi => by
   obtain ⟨o, h1, h2⟩ := hids0 id hi
   exact ⟨o, h.tbs.up h1, h2⟩
 have hD : ∀ b, D b -> (D b \/ ∃ id z m, id ∈ ids /\ μ id = some (some (b, z, m))) := fun b h => .inl h
 refine { h with slots := fun t v hv => (h.slots t v hv).mono (fun _ _ => rfl) hD (fun _ _ h => h), dlt := ?_, low := ?_, obsx := fun id o x h1 h2 => (h.obsx id o x h1 h2).mono (fun _ _ => rfl) hD (fun _ _ h => h) (fun _ _ _ _ => rfl), kdx := ?_, icyx := ?_, icm := fun id hm => ?_ }
 rotate_right
 · show (zbh ids id || c id) = false
   rw [h.icm id hm, Bool.or_false, Bool.eq_false_iff]
   intro hi
   obtain ⟨o, h1, _⟩ := hids0 id (zbx.1 hi)
   have h2 := (h.tbs id o h1).1
   have h3 := zcj.1 hm
   omega
 · rintro b (hb | ⟨id, z, m, _, hm⟩)
   · exact h.dlt b hb
   · exact (h.own id b _ hm).1
 · rintro b (hb | ⟨id, z, m, _, hm⟩) hlt
   · exact h.low b hb hlt
   · rcases (h.own id b _ hm).2 with h1 | h1
     · omega
     · exact .inr h1
 · intro id b z o h1 h2 h3
   refine ⟨fun hc => ?_, fun hc => ?_⟩
   · simp only [zg5, Bool.or_eq_true] at hc
     rcases hc with hc | hc
     · exact .inr ⟨id, z.1, z.2, zbx.1 hc, h1⟩
     · exact .inl ((h.kdx id b z o h1 h2 h3).1 hc)
   · simp only [zg5, Bool.or_eq_false_iff] at hc
     rintro (hb | ⟨id', z', m', hi, hm⟩)
     · exact (h.kdx id b z o h1 h2 h3).2 hc.2 hb
     · obtain ⟨o', ho', hne'⟩ := hids id' hi
       have := h.injx id id' b z (z', m') o o' h1 hm h2 ho' h3 hne'
       subst this
       have := zbx.2 hi
       rw [hc.1] at this
       cases this
 · intro id hc
   simp only [zg5, Bool.or_eq_true] at hc
   rcases hc with hc | hc
   · obtain ⟨o, ho, _⟩ := hids id (zbx.1 hc)
     rw [ho]; simp
   · exact h.icyx id hc
end
end Sy
end Go.Proofs.Ytogomcfgfnlclaa
namespace Go.Proofs.Ytogomcfgfnlclaa
namespace Sy
open Go Go.RowKit
set_option linter.unusedSimpArgs false
set_option linter.unusedVariables false
def yjj : AV -> Value -> Bool
 | .dead, _ => true
 | .bool a, .bool b => a == b
 | .int k a, .int k' b => k == k' && a == b
 | .str l, .string s => s.data.toList == l
 | .flt k b, .float k' b' => decide (k = k') && b == b'
 | .cpx k a b, .complex k' a' b' => decide (k = k') && (a == a' && b == b')
 | .nilp, .pointer none => true
 | .nilm, .map none => true
 | .nilf, .nilFunc => true
 | .nils, .slice none n c => n == 0 && c == 0
 | .nili, .nilIface => true
 | _, _ => false
theorem ygy {h : Array Obj} {D : Nat -> Prop} {μ : Mu} {x : AV} {v : Value} (e : yjj x v = true) : R h D μ x v := by
 unfold yjj at e
 split at e
 · exact .dead _
 · simp at e; subst e; exact .bool _
 · simp at e; obtain ⟨rfl, rfl⟩ := e; exact .int _ _
 · simp at e; exact .str _ _ e
 · simp at e; obtain ⟨rfl, rfl⟩ := e; exact .flt _ _
 · simp at e; obtain ⟨rfl, rfl, rfl⟩ := e; exact .cpx _ _ _
 · exact .nilp
 · exact .nilm
 · exact .nilf
 · simp at e; obtain ⟨rfl, rfl⟩ := e; exact .nils
 · exact .nili
 · cases e
def yac : List AV -> List Value -> Bool
 | [], [] => true
 | x :: xs, v :: vs => yjj x v && yac xs vs
 | _, _ => false
theorem zwq {h : Array Obj} {D : Nat -> Prop} {μ : Mu} : ∀ {xs : List AV} {vs : List Value}, yac xs vs = true -> xs.length = vs.length /\ ∀ (i : Nat) x v, xs[i]? = some x -> vs[i]? = some v -> R h D μ x v
 | [], [], _ => ⟨rfl, fun i x v h => by simp at h⟩
 | x :: xs, v :: vs, e => by
   simp only [yac, Bool.and_eq_true] at e
   obtain ⟨h1, h2⟩ := zwq e.2
   refine ⟨by simp [h1], fun i y u hy hu => ?_⟩
   cases i with
   | zero => simp at hy hu; subst hy; subst hu; exact ygy e.1
   | succ i => exact h2 i y u (by simpa using hy) (by simpa using hu)
def kOk (P : Program) (t : Nat) : TK -> Prop
 | .int k => P.underlying t = some (.int k)
 | .bool => P.underlying t = some .bool
 | .str => P.underlying t = some .string
 | .flt k => P.underlying t = some (.float k)
 | .ptr => ∃ e, P.underlying t = some (.pointer e)
 | .func => ∃ p r v, P.underlying t = some (.func p r v)
 | .map kt et => P.underlying t = some (.map kt et)
 | .other => True
 | .iface => ∃ ms, P.underlying t = some (.interface ms)
 | .slice e esz eb => P.underlying t = some (.slice e) /\ (P.info? e).map (fun i => (i.size, i.bytes)) = some (esz, eb)
 | .arr n e esz => P.underlying t = some (.array n e) /\ (P.info? e).map (·.size) = some esz
 | .struct fs => ∃ F : Array Field, P.underlying t = some (.struct F) /\ F.toList.map (fun f => (f.offset, f.type)) = fs
def EqOk (P : Program) (t : Nat) : Prop := P.eqGuardType P.depth t = false /\ ((∃ F : Array Field, P.underlying t = some (.struct F) /\ (∀ f, f ∈ F.toList -> f.name ≠ "_") /\ P.stoodInHeld t = false) \/ ∃ n e, P.underlying t = some (.array n e))
structure TOk (P : Program) (t : Nat) (ti : TI) : Prop where
 info : ∃ i z, P.info? t = some i /\ i.size = ti.sz /\ i.zero = some z /\ ones z.cells /\ z.cells.size = ti.sz /\ (∀ h D μ, RL h D μ ti.zero z.cells)
 zag : ∀ i z, P.info? t = some i -> i.zero = some z -> ti.isAgg = (match z with | .agg _ => true | _ => false)
 agg : ti.isAgg = (match P.underlying t with | some (.struct _) => true | some (.array _ _) => true | _ => false)
 und : ∃ d, P.underlying t = some d
 single : ti.isAgg = false -> ti.sz = 1
 k : kOk P t ti.k
 eqf : ti.eq = true -> EqOk P t
 ptf : ∀ e, ti.pt = some e -> P.underlying t = some (.pointer e)
 upf : ti.up = true -> P.underlying t = some .unsafePointer
 lief : ti.lies = true -> liesAt P P.depth t 1 0 t 1 = true
def eqB (P : Program) (t : Nat) : Bool := match P.underlying t with
 | some (.struct F) => (F.toList.all fun f => !(f.name == "_")) && !P.stoodInHeld t && !P.eqGuardType P.depth t
 | some (.array _ _) => !P.eqGuardType P.depth t
 | _ => false
theorem yha {P : Program} {t : Nat} (h : eqB P t = true) : EqOk P t := by
 unfold eqB at h
 split at h
 · rename_i F hF
   simp only [Bool.and_eq_true, Bool.not_eq_true', List.all_eq_true] at h
   exact ⟨h.2, .inl ⟨F, hF, fun f hf hn => by have := h.1.1 f hf; simp [hn] at this, h.1.2⟩⟩
 · rename_i n e hF
   exact ⟨by simpa using h, .inr ⟨n, e, hF⟩⟩
 · cases h
def kB (P : Program) (t : Nat) (k : TK) : Bool :=
 match k, P.underlying t with
 | .int k, some (.int k') => k == k'
 | .bool, some .bool => true
 | .str, some .string => true
 | .flt k, some (.float k') => decide (k = k')
 | .ptr, some (.pointer _) => true
 | .func, some (.func _ _ _) => true
 | .map kt et, some (.map kt' et') => kt == kt' && et == et'
 | .other, _ => true
 | .iface, some (.interface _) => true
 | .slice e esz eb, some (.slice e') => e == e' && (match P.info? e with | some i => i.size == esz && i.bytes == eb | none => false)
 | .arr n e esz, some (.array n' e') => n == n' && e == e' && (match P.info? e with | some i => i.size == esz | none => false)
 | .struct fs, some (.struct F) => F.toList.map (fun f => (f.offset, f.type)) == fs
 | _, _ => false
def tB (P : Program) (t : Nat) (ti : TI) : Bool :=
 (match P.info? t with
   | some i => (match i.zero with
     | some z => i.size == ti.sz && z.cells.size == ti.sz && z.cells.toList.all Value.oneCell' && yac ti.zero z.cells.toList && ti.isAgg == (match z with | .agg _ => true | _ => false)
     | none => false)
   | none => false) &&
 (match P.underlying t with
   | some d => ti.isAgg == (match d with | .struct _ => true | .array _ _ => true | _ => false)
   | none => false) && (ti.isAgg || ti.sz == 1) && kB P t ti.k && (!ti.eq || eqB P t) &&
 ((match ti.pt with | some e => (match P.underlying t with | some (.pointer e') => e == e' | _ => false) | none => true) && (!ti.up || (match P.underlying t with | some .unsafePointer => true | _ => false)) && (!ti.lies || liesAt P P.depth t 1 0 t 1))
theorem szB {P : Program} {e esz eb : Nat} (h : (match P.info? e with | some i => i.size == esz && i.bytes == eb | none => false) = true) : (P.info? e).map (fun i => (i.size, i.bytes)) = some (esz, eb) := by
 split at h
 · rename_i i hi; simp only [Bool.and_eq_true, beq_iff_eq] at h; rw [hi]; simp [h.1, h.2]
 · cases h
theorem szB1 {P : Program} {e esz : Nat} (h : (match P.info? e with | some i => i.size == esz | none => false) = true) : (P.info? e).map (·.size) = some esz := by
 split at h
 · rename_i i hi; simp only [beq_iff_eq] at h; rw [hi]; simp [h]
 · cases h
theorem yjm {P : Program} {t : Nat} {k : TK} (h : kB P t k = true) : kOk P t k := by
 unfold kB at h
 cases k with
 | map kt et => cases hu : P.underlying t with
   | none => rw [hu] at h; cases h
   | some d => rw [hu] at h; cases d <;> first | (cases h; done) | (simp only [Bool.and_eq_true, beq_iff_eq] at h; obtain ⟨rfl, rfl⟩ := h; exact hu)
 | other => trivial
 | iface => cases hu : P.underlying t with
   | none => rw [hu] at h; cases h
   | some d => rw [hu] at h; cases d <;> first | (cases h; done) | exact ⟨_, hu⟩
 | int k => cases hu : P.underlying t with
   | none => rw [hu] at h; cases h
   | some d => rw [hu] at h; cases d <;> first | (cases h; done) | (simp only [beq_iff_eq] at h; subst h; exact hu)
 | bool => cases hu : P.underlying t with
   | none => rw [hu] at h; cases h
   | some d => rw [hu] at h; cases d <;> first | (cases h; done) | exact hu
 | flt k => cases hu : P.underlying t with
   | none => rw [hu] at h; cases h
   | some d => rw [hu] at h; cases d <;> first | (cases h; done) | (simp only [decide_eq_true_eq] at h; subst h; exact hu)
 | str => cases hu : P.underlying t with
   | none => rw [hu] at h; cases h
   | some d => rw [hu] at h; cases d <;> first | (cases h; done) | exact hu
 | ptr => cases hu : P.underlying t with
   | none => rw [hu] at h; cases h
   | some d => rw [hu] at h; cases d <;> first | (cases h; done) | exact ⟨_, hu⟩
 | func => cases hu : P.underlying t with
   | none => rw [hu] at h; cases h
   | some d => rw [hu] at h; cases d <;> first | (cases h; done) | exact ⟨_, _, _, hu⟩
 | slice e esz eb => cases hu : P.underlying t with
   | none => rw [hu] at h; cases h
   | some d =>
     rw [hu] at h
     cases d <;> first | (cases h; done) | skip
     simp only [Bool.and_eq_true, beq_iff_eq] at h
     obtain ⟨rfl, h2⟩ := h
     exact ⟨hu, szB h2⟩
 | arr n e esz => cases hu : P.underlying t with
   | none => rw [hu] at h; cases h
   | some d =>
     rw [hu] at h
     cases d <;> first | (cases h; done) | skip
     simp only [Bool.and_eq_true, beq_iff_eq] at h
     obtain ⟨⟨rfl, rfl⟩, h2⟩ := h
     exact ⟨hu, szB1 h2⟩
 | struct fs => cases hu : P.underlying t with
   | none => rw [hu] at h; cases h
   | some d =>
     rw [hu] at h
     cases d <;> first | (cases h; done) | skip
     simp only [beq_iff_eq] at h
     exact ⟨_, hu, h⟩
theorem yiw {P : Program} {t : Nat} {ti : TI} (h : tB P t ti = true) : TOk P t ti := by
 unfold tB at h
 simp only [Bool.and_eq_true] at h
 obtain ⟨⟨⟨⟨⟨h1, h2⟩, h4⟩, h3⟩, h5⟩, ⟨h6, h7⟩, h8⟩ := h
 refine ⟨?_, ?_, ?_, ?_, fun e => by simpa [e] using h4, yjm h3, fun e => yha (by simpa [e] using h5), fun e he => ?_, fun e => ?_, fun e => by simpa [e] using h8⟩
 rotate_left 4
 · rw [he] at h6
   simp only at h6
   split at h6
   · rename_i e' hu; simp only [beq_iff_eq] at h6; rw [hu, h6]
   · cases h6
 · rw [e] at h7
   simp only [Bool.not_true, Bool.false_or] at h7
   split at h7
   · rename_i hu; exact hu
   · cases h7
 · split at h1
   · rename_i i hi
     split at h1
     · rename_i z hz
       simp only [Bool.and_eq_true, beq_iff_eq] at h1
       obtain ⟨⟨⟨⟨a, b⟩, c⟩, d⟩, -⟩ := h1
       refine ⟨i, z, hi, a, hz, fun j v hv => ?_, b, fun h D μ => ?_⟩
       · rw [List.all_eq_true] at c
         exact c v (List.mem_of_getElem? (i := j) (by simpa using hv))
       · have := zwq (h := h) (D := D) (μ := μ) d
         exact ⟨by simpa using this.1, fun i x v hx hv => this.2 i x v hx (by simpa using hv)⟩
     · cases h1
   · cases h1
 · intro i z hi hz
   rw [hi] at h1
   simp only [hz, Bool.and_eq_true, beq_iff_eq] at h1
   exact h1.2
 · split at h2
   · rename_i d hd
     rw [hd]
     simp only [beq_iff_eq] at h2
     rw [h2]
     cases d <;> rfl
   · cases h2
 · split at h2
   · rename_i d hd; exact ⟨d, hd⟩
   · cases h2
def TT.all (p : Nat -> TI -> Bool) : TT -> Bool
 | .leaf => true
 | .node l t i r => l.all p && p t i && r.all p
theorem TT.all_find {p : Nat -> TI -> Bool} : ∀ {T : TT}, T.all p = true -> ∀ {t : Nat} {i : TI}, T.find t = some i -> p t i = true
 | .leaf, _, t, i, h => by cases h
 | .node l t' i' r, ha, t, i, h => by
   simp only [TT.all, Bool.and_eq_true] at ha
   unfold TT.find at h
   split at h
   · rename_i e; cases h; rw [za1 e]; exact ha.1.2
   · split at h
     · exact TT.all_find ha.1.1 h
     · exact TT.all_find ha.2 h
abbrev zb6 (P : Program) (T : TT) : Prop := ∀ t i, T.find t = some i -> TOk P t i
theorem ycc {P : Program} {T : TT} (h : T.all (tB P) = true) : zb6 P T := fun t i hf => yiw (TT.all_find h hf)
section
variable {P : Program} {t : Nat} {ti : TI}
theorem TOk.sizeOf (h : TOk P t ti) (w : World) : (sizeOf t).run P w = .ok ti.sz w := by
 obtain ⟨i, z, h1, h2, _⟩ := h.info
 simp [Go.sizeOf, typeInfo, program, Sem.run, h1, h2]
theorem TOk.isAgg_ (h : TOk P t ti) (w : World) : (isAgg t).run P w = .ok ti.isAgg w := by
 obtain ⟨d, hd⟩ := h.und
 have := h.agg
 rw [hd] at this
 rw [this]
 simp only [Go.isAgg, Sem.run_bind, run_underlying hd, Result.andThen_ok]
 cases d <;> rfl
theorem TOk.zeroV (h : TOk P t ti) : ∃ z : Value, (∀ w, (zeroValue t).run P w = .ok z w) /\ ones z.cells /\ z.cells.size = ti.sz /\ ∀ h D μ, RL h D μ ti.zero z.cells := by
 obtain ⟨i, z, h1, h2, h3, h4, h5, h6⟩ := h.info
 exact ⟨z, fun w => by simp [zeroValue, typeInfo, program, Sem.run, h1, h3], h4, h5, h6⟩
theorem TOk.zeroR (h : TOk P t ti) : ∃ z : Value, (∀ w, (zeroValue t).run P w = .ok z w) /\ ∀ hp D μ, R hp D μ (zer ti) z := by
 obtain ⟨i, z, h1, h2, h3, h4, h5, h6⟩ := h.info
 refine ⟨z, fun w => by simp [zeroValue, typeInfo, program, Sem.run, h1, h3], fun hp D μ => ?_⟩
 have hz := h.zag i z h1 h3
 have r := h6 hp D μ
 unfold zer
 cases hag : ti.isAgg with
 | true =>
   rw [hag] at hz
   cases z with
   | agg cs => exact .agg _ _ r.1 h4 r.2
   | _ => cases hz
 | false =>
   rw [hag] at hz
   have hs := h.single hag
   have hc : z.cells = #[z] := by cases z <;> first | rfl | (simp at hz)
   rw [hc] at r h5
   have hl : ti.zero.length = 1 := by rw [r.1]; rfl
   match hq : ti.zero, hl with
   | [x], _ => rw [hq] at r; exact r.2 0 x z rfl rfl
end
end Sy
end Go.Proofs.Ytogomcfgfnlclaa
namespace Go.Proofs.Ytogomcfgfnlclaa
namespace Sy
open Go Go.RowKit
set_option linter.unusedSimpArgs false
set_option linter.unusedVariables false
def zfe (P : Program) (f : FuncId) (args : Array Value) (w : World) (Q : Ending -> World -> Prop) : Prop :=
 match (callFunc f args).run P w with
 | .ok (.enter f' args') w' => Calls P f' args' w' Q
 | .ok (.value v) w' => Q (.returned v) w'
 | _ => False
def zcp (P : Program) (f : FuncId) (xs : List AV) (r : AV) : Prop :=
 ∀ (D : Nat -> Prop) (w : World) (vs : Array Value), (∀ b, D b -> b < w.heap.size) -> RL w.heap D zao xs vs -> GOk w ->
   zfe P f vs w fun e w' => ∃ v D', e = .returned v /\ Below w.heap.size w w' /\ (∀ b, D b -> D' b) /\ (∀ b, D' b -> D b \/ (w.heap.size <= b /\ b < w'.heap.size)) /\ R w'.heap D' zao r v
def zfr (base : Nat) (M : Two) (W : World) (nt : Nat) (f : Nat -> Option AV) (g : Nat -> Option Ob) (c : Nat -> Bool) (a : Act) (w : World) : Prop := ∃ D μ, Sim base M W nt f g c a w D μ
def Adv (P : Program) (base : Nat) (M : Two) (W : World) (nt : Nat) (f : Nat -> Option AV) (g : Nat -> Option Ob) (c : Nat -> Bool) (o : Oper) (a : Act) (w : World) (v : AV) (os : List (Nat × Ob)) (ice : List Nat) : Prop :=
 ∀ (K : Act -> World -> Prop) (Q : Exit -> Act -> World -> Prop), (∀ a' w', zfr base M W nt (zi0 f o.dst v) (zay g os) (zg5 c ice) a' w' -> K a' w') -> o.wp P a w K Q
def zbo (P : Program) (base : Nat) (M : Two) (W : World) (nt : Nat) (f : Nat -> Option AV) (g : Nat -> Option Ob) (c : Nat -> Bool) (o : Oper) (a : Act) (w : World) : zbr -> Prop
 | .ok v os ice => Adv P base M W nt f g c o a w v os ice
 | .okIf b v os ice => b = true -> Adv P base M W nt f g c o a w v os ice
 | .okP p v os ice => p -> Adv P base M W nt f g c o a w v os ice
 | .call k xs ice => ∀ r, zcp P k xs r -> Adv P base M W nt f g c o a w r [] ice
 | .callB k xs => ∀ r, zuw r = true -> zcp P k xs r -> Adv P base M W nt f g c o a w r [] []
 | .alt b v os q v' os' => (b = true -> Adv P base M W nt f g c o a w v os []) /\ (b = false -> q = true -> Adv P base M W nt f g c o a w v' os' [])
 | .bad _ => True
section
variable {P : Program} {T : TT} {base : Nat} {M : Two} {W : World} {nt : Nat} {f : Nat -> Option AV} {g : Nat -> Option Ob} {c : Nat -> Bool} {a : Act} {w : World} {D : Nat -> Prop} {μ : Mu} {o : Oper}
theorem za0 (h : Sim base M W nt f g c a w D μ) (hd : ∀ d, o.dst = some d -> d < nt) {v : AV} {u : Value} (hr : (execOp a.eval o).run P w = .ok (.value u) w) (r : R w.heap D μ v u) :
   Adv P base M W nt f g c o a w v [] [] := fun K Q hK => by
 unfold Oper.wp
 rw [hr]
 exact hK _ _ ⟨D, μ, h.put hd r⟩
def Ops (h : Array Obj) (D : Nat -> Prop) (μ : Mu) (a : Act) : List Operand -> List AV -> Prop
 | [], [] => True
 | x :: xs, v :: vs => R h D μ v (a.eval x) /\ Ops h D μ a xs vs
 | _, _ => False
theorem ygr (h : Array Obj) (D : Nat -> Prop) (μ : Mu) (v : Value) : R h D μ (ofV v) v := by
 unfold ofV
 split
 · exact .bool _
 · exact .int _ _
 · exact .str _ _ rfl
 · exact .flt _ _
 · exact .cpx _ _ _
 · exact .nilp
 · exact .nilm
 · exact .nilf
 · exact .nili
 · split
   · exact .nils
   · exact .dead _
 · rename_i k xs ys
   cases hx : xs.toList with
   | cons _ _ => exact .dead _
   | nil =>
     simp only
     cases hy : ys.toList with
     | cons _ _ => exact .dead _
     | nil =>
       have h1 : xs = #[] := by simpa using hx
       have h2 : ys = #[] := by simpa using hy
       subst h1; subst h2
       exact .fn k [] [] #[] #[] rfl rfl (fun i x v h => by simp at h) (fun i x v h => by simp at h)
 · exact .dead _
theorem zgj {α β : Type} (k : α -> β) : ∀ l, zcd k l = l.map k
 | [] => rfl
 | x :: xs => by simp [zcd, zgj k xs]
def zgd : Value -> Bool
 | .agg cs => cs.toList.all Value.oneCell'
 | _ => true
theorem ygq (h : Array Obj) (D : Nat -> Prop) (μ : Mu) (v : Value) (hp : zgd v = true) : R h D μ (yje v) v := by
 unfold yje
 split
 · rename_i cs
   refine .agg _ _ (by simp [zgj]) (fun i v hv => ?_) (fun i x v hx hv => ?_)
   · simp only [zgd, List.all_eq_true] at hp
     exact hp v (List.mem_of_getElem? (i := i) (by simpa using hv))
   · simp [zgj] at hx
     rw [hv] at hx
     simp at hx
     subst hx
     exact ygr _ _ _ _
 · exact ygr _ _ _ _
theorem ye4 (h : Sim base M W nt f g c a w D μ) {kn : List (Nat × Bool)} (hk : ∀ t b, za2 kn t = some b -> f t = some (.bool b)) (x : Operand) (hx : ∀ v, x = .const v -> zgd v = true) : R w.heap D μ (evf f kn x) (a.eval x) := by
 unfold evf
 cases x with
 | tmp t =>
   simp only
   cases e : za2 kn t with
   | some b => exact h.slots t _ (hk t b e)
   | none =>
     simp only
     cases e' : f t with
     | none => exact .dead _
     | some v => exact h.slots t v e'
 | const v => exact ygq _ _ _ _ (hx v rfl)
 | global n => exact .dead _
 | func n => exact .fn n [] [] #[] #[] rfl rfl (fun i x v h => by simp at h) (fun i x v h => by simp at h)
theorem zm9 {s t : ByteArray} : (s.toList == t.toList) = (s.data.toList == t.data.toList) := by rw [Lib.toList_data, Lib.toList_data]
theorem zac {α : Type} : ∀ l : List α, zd8 l = l.length
 | [] => rfl
 | x :: xs => by simp [zd8, zac xs]
theorem zai {a b : Nat} (h : zau a b = true) : a < b := of_decide_eq_true h
theorem zav {a b : Nat} (h : zbd a b = true) : a <= b := of_decide_eq_true h
theorem zeo {α : Type} (d : α) : ∀ (l : List α) (i : Nat), zbe d l i = l.getD i d
 | [], _ => by simp [zbe]
 | x :: _, 0 => by simp [zbe]
 | x :: xs, i + 1 => by simp [zbe, zeo d xs i]
theorem zaf {α : Type} (d : α) (l : List α) (i : Nat) (h : i < l.length) : l[i]? = some (zbe d l i) := by
 rw [zeo]; simp [List.getD, h]
theorem zax {α : Type} : ∀ (l : List α) (n : Nat), zch l n = l.take n
 | [], 0 => rfl
 | [], n + 1 => rfl
 | x :: xs, 0 => rfl
 | x :: xs, n + 1 => by simp [zch, zax xs n]
theorem zbb {α : Type} : ∀ (l : List α) (n : Nat), zcs l n = l.drop n
 | [], 0 => rfl
 | [], n + 1 => rfl
 | x :: xs, 0 => rfl
 | x :: xs, n + 1 => by simp [zcs, zbb xs n]
theorem za8 {α : Type} : ∀ (l m : List α), zb4 l m = l ++ m
 | [], m => rfl
 | x :: xs, m => by simp [zb4, za8 xs m]
theorem ziy {α : Type} (v : α) : ∀ (l : List α) (n : Nat), yf8 v l n = l.set n v
 | [], n => by simp [yf8]
 | x :: xs, 0 => rfl
 | x :: xs, n + 1 => by simp [yf8, ziy v xs n]
theorem R.inv_tup {h : Array Obj} {D : Nat -> Prop} {μ : Mu} {cs : List AV} {v : Value} (r : R h D μ (.tup cs) v) : ∃ us, v = .tuple us /\ RL h D μ cs us := by
 cases r with | tup _ us e hr => exact ⟨us, rfl, e, hr⟩
theorem R.inv_agg {h : Array Obj} {D : Nat -> Prop} {μ : Mu} {cs : List AV} {v : Value} (r : R h D μ (.agg cs) v) : ∃ us, v = .agg us /\ ones us /\ RL h D μ cs us := by
 cases r with | agg _ us e h1 hr => exact ⟨us, rfl, h1, e, hr⟩
theorem R.inv_flt {h : Array Obj} {D : Nat -> Prop} {μ : Mu} {k : FloatKind} {b : Nat} {v : Value} (r : R h D μ (.flt k b) v) : v = .float k b := by cases r; rfl
theorem R.inv_cpx {h : Array Obj} {D : Nat -> Prop} {μ : Mu} {k : FloatKind} {a b : Nat} {v : Value} (r : R h D μ (.cpx k a b) v) : v = .complex k a b := by cases r; rfl
theorem R.inv_bool {h : Array Obj} {D : Nat -> Prop} {μ : Mu} {b : Bool} {v : Value} (r : R h D μ (.bool b) v) : v = .bool b := by cases r; rfl
theorem R.inv_int {h : Array Obj} {D : Nat -> Prop} {μ : Mu} {k : IntKind} {n : Int} {v : Value} (r : R h D μ (.int k n) v) : v = .int k n := by cases r; rfl
theorem R.inv_str {h : Array Obj} {D : Nat -> Prop} {μ : Mu} {l : List UInt8} {v : Value} (r : R h D μ (.str l) v) : ∃ s, v = .string s /\ s.data.toList = l := by cases r with | str l s e => exact ⟨s, rfl, e⟩
variable (h : Sim base M W nt f g c a w D μ) (hd : ∀ d, o.dst = some d -> d < nt)
include h hd
theorem zml {x : Operand} (e : o.op = .move x \/ o.op = .assign x) {vals : List AV} (hv : Ops w.heap D μ a [x] vals) : zbo P base M W nt f g c o a w (zxy vals) := by
 match vals, hv with
 | [v], hv =>
   refine za0 h hd (u := a.eval x) ?_ hv.1
   rcases e with e | e <;> (unfold execOp; rw [e]; rfl)
theorem zv1 {b x y : Operand} (e : o.op = .pick b x y) {vals : List AV} (hv : Ops w.heap D μ a [b, x, y] vals) : zbo P base M W nt f g c o a w (zxx vals) := by
 match vals, hv with
 | [vb, vx, vy], ⟨h1, h2, h3, _⟩ =>
   unfold zxx
   split
   · rename_i t x' y' he
     simp only [List.cons.injEq, and_true] at he
     obtain ⟨rfl, rfl, rfl⟩ := he
     have hb := h1.inv_bool
     cases t with
     | true => exact za0 h hd (u := a.eval x) (by unfold execOp; rw [e]; simp [hb, asBool]) h2
     | false => exact za0 h hd (u := a.eval y) (by unfold execOp; rw [e]; simp [hb, asBool]) h3
   · trivial
theorem zsm {op : BinOp} {t t' : TypeId} {x y : Operand} (e : o.op = .binOp op t x y t') {k : IntKind} {m n : Int} (h1 : a.eval x = .int k m) (h2 : a.eval y = .int k n) (hs : op ≠ .shl /\ op ≠ .shr) :
   zbo P base M W nt f g c o a w (yhn std op k m n) := by
 have run : ∀ u, (binOp op t (.int k m) (.int k n)).run P w = .ok u w -> (execOp a.eval o).run P w = .ok (.value u) w := by
   intro u hu
   unfold execOp
   rw [e]
   simp only [h1, h2]
   have hg : (eqGuard op t x y (.int k m) (.int k n)).run P w = .ok () w := by
     unfold eqGuard; split <;> rfl
   simp [hg, hu]
 have res : ∀ v : AV, ∀ u : Value, (binOp op t (.int k m) (.int k n)).run P w = .ok u w -> R w.heap D μ v u -> Adv P base M W nt f g c o a w v [] [] := fun v u hu r => za0 h hd (run u hu) r
 have hq : L2 std ine n 0 = true -> n ≠ 0 := fun hb => by simpa [L2, std, ine] using hb
 cases op with
 | shl => exact absurd rfl hs.1
 | shr => exact absurd rfl hs.2
 | quo => exact fun hb => res _ (.int k (k.wrap (m.tdiv n))) (by simp [binOp, Op.intDiv, hq hb]) (.int _ _)
 | rem => exact fun hb => res _ (.int k (m.tmod n)) (by simp [binOp, Op.intDiv, hq hb]) (.int _ _)
 | add => exact res _ (.int k (k.wrap (m + n))) (by simp [binOp]; rfl) (.int _ _)
 | sub => exact res _ (.int k (k.wrap (m - n))) (by simp [binOp]; rfl) (.int _ _)
 | mul => exact res _ (.int k (k.wrap (m * n))) (by simp [binOp]; rfl) (.int _ _)
 | and => exact res _ (.int k (ybx k m n)) (by simp [binOp]; rfl) (.int _ _)
 | or => exact res _ (.int k (bor k m n)) (by simp [binOp]; rfl) (.int _ _)
 | xor => exact res _ (.int k (yb3 k m n)) (by simp [binOp]; rfl) (.int _ _)
 | andNot => exact res _ (.int k (yhl k m n)) (by simp [binOp]; rfl) (.int _ _)
 | eql => exact res _ (.bool (ieq m n)) (by simp [binOp]; rfl) (.bool _)
 | neq => exact res _ (.bool (ine m n)) (by simp [binOp]; rfl) (.bool _)
 | lss => exact res _ (.bool (ilt m n)) (by simp [binOp]; rfl) (.bool _)
 | leq => exact res _ (.bool (ile m n)) (by simp [binOp]; rfl) (.bool _)
 | gtr => exact res _ (.bool (ilt n m)) (by simp [binOp]; rfl) (.bool _)
 | geq => exact res _ (.bool (ile n m)) (by simp [binOp]; rfl) (.bool _)
theorem zrz {op : BinOp} {t t' : TypeId} {x y : Operand} (e : o.op = .binOp op t x y t') {l m : List UInt8} (h1 : R w.heap D μ (.str l) (a.eval x)) (h2 : R w.heap D μ (.str m) (a.eval y)) :
   zbo P base M W nt f g c o a w (zz6 std op l m) := by
 obtain ⟨s1, e1, rfl⟩ := h1.inv_str
 obtain ⟨s2, e2, rfl⟩ := h2.inv_str
 have run : ∀ u, (binOp op t (.string s1) (.string s2)).run P w = .ok u w -> (execOp a.eval o).run P w = .ok (.value u) w := by
   intro u hu
   unfold execOp
   rw [e]
   simp only [e1, e2]
   have hg : (eqGuard op t x y (.string s1) (.string s2)).run P w = .ok () w := by
     unfold eqGuard; split <;> rfl
   simp [hg, hu]
 have res : ∀ v : AV, ∀ u : Value, (binOp op t (.string s1) (.string s2)).run P w = .ok u w -> R w.heap D μ v u -> Adv P base M W nt f g c o a w v [] [] := fun v u hu r => za0 h hd (run u hu) r
 cases op with
 | add =>
   intro hb
   have hl : s1.size + s2.size <= 9223372036854775807 := by
     have h1 := of_decide_eq_true hb
     simpa using h1
   refine res _ (.string (s1 ++ s2)) ?_ (.str _ _ ?_)
   · have : ¬ (((s1.size + s2.size : Nat) : Int) > IntKind.i64.max) := by rw [show IntKind.i64.max = 9223372036854775807 from rfl]; omega
     simp only [binOp, Op.stringOp]
     rw [if_neg this]
     rfl
   · simp [L2, std, yj4]
 | eql => exact res _ (.bool (s1.toList == s2.toList)) (by simp [binOp, Op.stringOp]) (by rw [zm9]; exact .bool _)
 | neq => exact res _ (.bool (!(s1.toList == s2.toList))) (by simp [binOp, Op.stringOp]) (by rw [zm9]; exact .bool _)
 | lss => exact res _ (.bool (Op.bytesLess s1.toList s2.toList)) (by simp [binOp, Op.stringOp]) (by simp only [Lib.toList_data]; exact .bool _)
 | leq => exact res _ (.bool (Op.bytesLess s1.toList s2.toList || (s1.toList == s2.toList))) (by simp [binOp, Op.stringOp]) (by simp only [Lib.toList_data]; exact .bool _)
 | gtr => exact res _ (.bool (!(Op.bytesLess s1.toList s2.toList || (s1.toList == s2.toList)))) (by simp [binOp, Op.stringOp]) (by simp only [Lib.toList_data]; exact .bool _)
 | geq => exact res _ (.bool (!(Op.bytesLess s1.toList s2.toList))) (by simp [binOp, Op.stringOp]) (by simp only [Lib.toList_data]; exact .bool _)
 | _ => trivial
theorem zor {op : BinOp} {t t' : TypeId} {x y : Operand} (e : o.op = .binOp op t x y t') {k : FloatKind} {m n : Nat} (h1 : a.eval x = .float k m) (h2 : a.eval y = .float k n) :
   zbo P base M W nt f g c o a w (ybq std op k m n) := by
 have run : ∀ u, (binOp op t (.float k m) (.float k n)).run P w = .ok u w -> (execOp a.eval o).run P w = .ok (.value u) w := by
   intro u hu
   unfold execOp
   rw [e]
   simp only [h1, h2]
   have hg : (eqGuard op t x y (.float k m) (.float k n)).run P w = .ok () w := by
     unfold eqGuard; split <;> rfl
   simp [hg, hu]
 have res : ∀ v : AV, ∀ u : Value, (binOp op t (.float k m) (.float k n)).run P w = .ok u w -> R w.heap D μ v u -> Adv P base M W nt f g c o a w v [] [] := fun v u hu r => za0 h hd (run u hu) r
 have ar : ∀ op', (op' = .add \/ op' = .sub \/ op' = .mul) -> fIs op' k m n = true -> (Op.floatArith op' k m n).run P w = .ok (.float k (ybt op' k m n)) w := by
   intro op' ho hb
   unfold fIs at hb
   unfold ybt
   rcases ho with rfl | rfl | rfl
   all_goals
     unfold ye3 at hb |-
     obtain ⟨r, hr⟩ := Option.isSome_iff_exists.1 hb
     simp [Op.floatArith, hr]
 cases op with
 | eql => exact res _ (.bool (fEq k m n)) (by simp [binOp, Op.floatCmp]; rfl) (.bool _)
 | neq => exact res _ (.bool (!(fEq k m n))) (by simp [binOp, Op.floatCmp]; rfl) (.bool _)
 | lss => exact res _ (.bool (fLt k m n)) (by simp [binOp, Op.floatCmp]; rfl) (.bool _)
 | leq => exact res _ (.bool (fLe k m n)) (by simp [binOp, Op.floatCmp]; rfl) (.bool _)
 | gtr => exact res _ (.bool (fGt k m n)) (by simp [binOp, Op.floatCmp]; rfl) (.bool _)
 | geq => exact res _ (.bool (fGe k m n)) (by simp [binOp, Op.floatCmp]; rfl) (.bool _)
 | add => exact fun hb => res _ (.float k (ybt .add k m n)) (by simp [binOp]; exact ar .add (.inl rfl) hb) (.flt _ _)
 | sub => exact fun hb => res _ (.float k (ybt .sub k m n)) (by simp [binOp]; exact ar .sub (.inr (.inl rfl)) hb) (.flt _ _)
 | mul => exact fun hb => res _ (.float k (ybt .mul k m n)) (by simp [binOp]; exact ar .mul (.inr (.inr rfl)) hb) (.flt _ _)
 | _ => trivial
theorem zvf {op : BinOp} {t t' : TypeId} {x y : Operand} (e : o.op = .binOp op t x y t') {k : FloatKind} {m n m' n' : Nat} (h1 : a.eval x = .complex k m n) (h2 : a.eval y = .complex k m' n') :
   zbo P base M W nt f g c o a w (cpxs std op k m n m' n') := by
 have run : ∀ u, (binOp op t (.complex k m n) (.complex k m' n')).run P w = .ok u w -> (execOp a.eval o).run P w = .ok (.value u) w := by
   intro u hu
   unfold execOp
   rw [e]
   simp only [h1, h2]
   have hg : (eqGuard op t x y (.complex k m n) (.complex k m' n')).run P w = .ok () w := by
     unfold eqGuard; split <;> rfl
   simp [hg, hu]
 have res : ∀ v : AV, ∀ u : Value, (binOp op t (.complex k m n) (.complex k m' n')).run P w = .ok u w -> R w.heap D μ v u -> Adv P base M W nt f g c o a w v [] [] := fun v u hu r => za0 h hd (run u hu) r
 cases op with
 | eql => exact res _ (.bool (fEq k m m' && fEq k n n')) (by simp [binOp, Op.complexOp, Op.Complex.cmp, Op.floatCmp, asBool]; rfl) (.bool _)
 | neq => exact res _ (.bool (!(fEq k m m' && fEq k n n'))) (by simp [binOp, Op.complexOp, Op.Complex.cmp, Op.floatCmp, asBool]; rfl) (.bool _)
 | _ => trivial
theorem ycy {op : UnOp} {t : TypeId} {x : Operand} (e : o.op = .unOp op t x) {vals : List AV} (hv : Ops w.heap D μ a [x] vals) : zbo P base M W nt f g c o a w (cUn std op vals) := by
 match vals, hv with
 | [v], ⟨hv, _⟩ =>
   have res : ∀ v' : AV, ∀ u : Value, (Op.unary op (a.eval x)).run P w = .ok u w -> R w.heap D μ v' u -> Adv P base M W nt f g c o a w v' [] [] := fun v' u hu r =>
     za0 h hd (by unfold execOp; rw [e]; simp [hu]) r
   simp only [cUn]
   unfold un
   split
   · rename_i b
     have := hv.inv_bool
     exact res _ (.bool (!b)) (by rw [this]; rfl) (.bool _)
   · rename_i k n
     have := hv.inv_int
     exact res _ (.int k (k.wrap (0 - n))) (by rw [this]; rfl) (.int _ _)
   · rename_i k b
     have : a.eval x = .float k b := hv.inv_flt
     exact res _ (.float k (fNeg k b)) (by rw [this]; rfl) (.flt _ _)
   · rename_i k n
     have := hv.inv_int
     cases hk : k.signed with
     | true => exact res _ (.int k (yb3 k (-1) n)) (by rw [this]; simp only [Op.unary, hk]; rfl) (.int _ _)
     | false => exact res _ (.int k (yb3 k k.max n)) (by rw [this]; simp only [Op.unary, hk]; rfl) (.int _ _)
   · trivial
theorem zmm {i : Nat} {x : Operand} (e : o.op = .extract x i) {vals : List AV} (hv : Ops w.heap D μ a [x] vals) : zbo P base M W nt f g c o a w (zm7 i vals) := by
 match vals, hv with
 | [v], ⟨hv, _⟩ =>
   unfold zm7
   split
   · rename_i vs he
     simp only [List.cons.injEq, and_true] at he
     subst he
     split
     · rename_i hlt
       obtain ⟨us, hu, e1, hr⟩ := hv.inv_tup
       have hl : i < vs.length := by rw [<- zac]; exact zai hlt
       have h1 : us[i]? = some (us[i]'(by omega)) := by simp [e1 ▸ hl]
       refine za0 h hd (u := us[i]'(by omega)) ?_ (hr i _ _ (zaf AV.dead vs i hl) h1)
       unfold execOp; rw [e]; simp [hu, Instr.extract, h1]
     · trivial
   · trivial
end
end Sy
end Go.Proofs.Ytogomcfgfnlclaa
namespace Go.Proofs.Ytogomcfgfnlclaa
namespace Sy
open Go Go.RowKit
set_option linter.unusedSimpArgs false
set_option linter.unusedVariables false
theorem zdi {P : Program} {w : World} (op : BinOp) (t : TypeId) (x y : Operand) (a b : Value) (h1 : a ≠ .nilIface) (h2 : ∀ cs, a ≠ .agg cs) : (eqGuard op t x y a b).run P w = .ok () w := by
 cases a <;> first | exact absurd rfl h1 | exact absurd rfl (h2 _) | (cases op <;> rfl)
theorem zji {P : Program} {w : World} (op : BinOp) (t : TypeId) {x y : Operand} (hc : cond (zlx x) true (zlx y) = true) : (eqGuard op t x y .nilIface .nilIface).run P w = .ok () w := by
 cases x <;> cases y <;> first | (simp [zlx] at hc; done) | (cases op <;> rfl)
theorem zpk {P : Program} {w : World} (op : BinOp) (t : TypeId) {x y : Operand} (hc : cond (zlx x) true (zlx y) = true) (u : Value) (hu : u = .nilIface \/ ∃ t p, u = .iface t p) : (eqGuard op t x y u .nilIface).run P w = .ok () w := by
 rcases hu with rfl | ⟨t', p, rfl⟩
 · exact zji op t hc
 · cases op <;> rfl
theorem zah (t : TypeId) (x y : Value) : Op.equal t x y = Op.equalIn (9999 + 1) t x y := rfl
section
variable {P : Program} {T : TT} {base : Nat} {M : Two} {W : World} {nt : Nat} {f : Nat -> Option AV} {g : Nat -> Option Ob} {c : Nat -> Bool} {a : Act} {w : World} {D : Nat -> Prop} {μ : Mu} {o : Oper}
theorem zyk (hT : zb6 P T) {t : Nat} {x y : AV} {b : Bool} (e : zo7 T std t x y = some b) {u v : Value} (hx : R w.heap D μ x u) (hy : R w.heap D μ y v) :
   (Op.equal t u v).run P w = .ok b w /\ u ≠ .nilIface /\ (∀ cs, u ≠ .agg cs) := by
 unfold zo7 at e
 split at e
 · rename_i i hi
   have ok := (hT t i hi).k
   split at e
   · rename_i hk
     rw [hk] at ok
     split at e
     · cases e
       rename_i p q
       cases hx; cases hy
       refine ⟨?_, by simp, by simp⟩
       rw [zah, Op.equalIn]
       simp [run_underlying ok]
       rfl
     · cases e
   · rename_i hk
     rw [hk] at ok
     obtain ⟨e', ok⟩ := ok
     split at e
     · cases e; cases hx; cases hy
       refine ⟨?_, by simp, by simp⟩
       rw [zah, Op.equalIn]
       simp [run_underlying ok]
     · cases e; cases hx; cases hy
       refine ⟨?_, by simp, by simp⟩
       rw [zah, Op.equalIn]
       simp [run_underlying ok]
     · cases e; cases hx; cases hy
       refine ⟨?_, by simp, by simp⟩
       rw [zah, Op.equalIn]
       simp [run_underlying ok]
     · split at e
       · rename_i a1 o1 a2 o2 el e1 e2 hpt
         split at e <;> cases e
         rename_i eli hel
         obtain ⟨j, z, hj, _⟩ := (hT el eli hel).info
         have hp2 := (hT t i hi).ptf el hpt
         obtain rfl := za1 e1
         obtain rfl := za1 e2
         cases hx with
         | ref _ _ b z m hm =>
           cases hy with
           | ref _ _ b' z' m' hm' =>
             rw [hm] at hm'
             cases hm'
             refine ⟨?_, by simp, by simp⟩
             rw [zah, Op.equalIn]
             simp [run_underlying hp2, sizeOf, typeInfo, hj, run_sameAddr_same]
       · cases e
     · cases e
   · rename_i hk
     rw [hk] at ok
     obtain ⟨ok, _⟩ := ok
     split at e
     · cases e; cases hx; cases hy
       refine ⟨?_, by simp, by simp⟩
       rw [zah, Op.equalIn]
       simp [run_underlying ok]
     · cases e; cases hx; cases hy
       refine ⟨?_, by simp, by simp⟩
       rw [zah, Op.equalIn]
       simp [run_underlying ok]
     · cases e; cases hx; cases hy
       refine ⟨?_, by simp, by simp⟩
       rw [zah, Op.equalIn]
       simp [run_underlying ok]
     · cases e
   · cases e
   · rename_i hk
     rw [hk] at ok
     obtain ⟨p', r', v', ok⟩ := ok
     split at e
     · cases e; cases hx; cases hy
       refine ⟨?_, by simp, by simp⟩
       rw [zah, Op.equalIn]
       simp [run_underlying ok]
     · cases e; cases hx; cases hy
       refine ⟨?_, by simp, by simp⟩
       rw [zah, Op.equalIn]
       simp [run_underlying ok]
     · cases e; cases hx; cases hy
       refine ⟨?_, by simp, by simp⟩
       rw [zah, Op.equalIn]
       simp [run_underlying ok]
     · cases e
   · cases e
 · cases e
theorem ye5 {t : Nat} {ti : TI} (ok : TOk P t ti) (d : Nat) {x y : AV} {b : Bool} (e : eqK std ti.k x y = some b) : ti.isAgg = false /\ x ≠ .dead /\ y ≠ .dead /\
   ∀ u v, R w.heap D μ x u -> R w.heap D μ y v -> (Op.equalIn (d + 1) t u v).run P w = .ok b w := by
 have hk := ok.k
 have hag := ok.agg
 unfold eqK at e
 split at e
 · rename_i k0 hti
   rw [hti] at hk
   rw [show P.underlying t = some (.int k0) from hk] at hag
   split at e
   · split at e
     · rename_i hkk
       obtain rfl := of_decide_eq_true hkk
       cases e
       refine ⟨by simpa using hag, by simp, by simp, fun u v ru rv => ?_⟩
       cases ru; cases rv
       exact run_equalIn_int w d _ _ _ _ _ hk
     · cases e
   · cases e
 · rename_i hti
   rw [hti] at hk
   rw [show P.underlying t = some .bool from hk] at hag
   split at e
   · cases e
     refine ⟨by simpa using hag, by simp, by simp, fun u v ru rv => ?_⟩
     cases ru; cases rv
     exact run_equalIn_bool' w d _ _ _ hk
   · cases e
 · rename_i hti
   rw [hti] at hk
   rw [show P.underlying t = some .string from hk] at hag
   split at e
   · cases e
     refine ⟨by simpa using hag, by simp, by simp, fun u v ru rv => ?_⟩
     cases ru with | str _ s1 q1 => cases rv with | str _ s2 q2 =>
     subst q1; subst q2
     rw [run_equalIn_string w d _ _ _ hk, zm9]
     rfl
   · cases e
 · cases e
theorem zeh (hT : zb6 P T) {t : Nat} {i : TI} (hi : T.find t = some i) {cs : List AV} {us : Array Value} (h1 : ones us) (hr : RL w.heap D μ cs us) (off : Nat) (hlt : off + i.sz <= cs.length) (hs : i.isAgg = false -> i.sz = 1) :
   ∃ u, (part t us off).run P w = .ok u w /\ R w.heap D μ (match i.isAgg with | true => .agg (zch (zcs cs off) i.sz) | false => zbe .dead cs off) u := by
 obtain ⟨e1, hr⟩ := hr
 have ok := hT t i hi
 unfold part
 simp only [Sem.run_bind, ok.isAgg_, ok.sizeOf, Result.andThen_ok]
 cases hag : i.isAgg with
 | true =>
   refine ⟨.agg (us.extract off (off + i.sz)), by simp [ok.sizeOf], .agg _ _ ?_ (fun j v hj => ?_) (fun j x v hx hj => ?_)⟩
   · rw [zax, zbb]; simp; omega
   · rw [Array.getElem?_extract] at hj
     split at hj
     · exact h1 _ v hj
     · cases hj
   · rw [Array.getElem?_extract] at hj
     rw [zax, zbb, List.getElem?_take, List.getElem?_drop] at hx
     split at hj
     · split at hx
       · exact hr _ x v hx hj
       · cases hx
     · cases hj
 | false =>
   have := hs hag
   have hlt' : off < us.size := by omega
   refine ⟨us[off], by simp [hlt'], hr off _ _ (zaf .dead cs off (by omega)) (by simp [hlt'])⟩
theorem zre (hT : zb6 P T) (d : Nat) {q : Nat -> List AV -> List AV -> Option Bool} {xs ys : List AV} {us vs : Array Value} (ox : ones us) (oy : ones vs) (hx : RL w.heap D μ xs us) (hy : RL w.heap D μ ys vs)
   (hq : ∀ t i xs ys b, T.find t = some i -> q t xs ys = some b -> xs.length = i.sz -> ys.length = i.sz -> ∀ u v, R w.heap D μ (match i.isAgg with | true => .agg xs | false => zbe .dead xs 0) u -> R w.heap D μ (match i.isAgg with | true => .agg ys | false => zbe .dead ys 0) v -> (Op.equalIn d t u v).run P w = .ok b w) : ∀ {F : List Field} {b : Bool}, (∀ f, f ∈ F -> f.name ≠ "_") ->
   yh9 T std q xs ys (F.map fun f => (f.offset, f.type)) = some b -> (Op.eqFields d us vs F).run P w = .ok b w
 | [], b, _, e => by cases e; rfl
 | f :: F, b, hn, e => by
   have hn0 := hn f (by simp)
   have ih : ∀ {b}, yh9 T std q xs ys (F.map fun f => (f.offset, f.type)) = some b -> (Op.eqFields d us vs F).run P w = .ok b w := fun e => zre hT d ox oy hx hy hq (fun g hg => hn g (by simp [hg])) e
   simp only [List.map_cons] at e
   unfold yh9 at e
   split at e
   · rename_i ti hti
     split at e
     · rename_i l1 l2
       have l1 := zav l1
       have l2 := zav l2
       rw [zac] at l1 l2
       split at e
       · rename_i x hx1
         obtain ⟨u, p1, ru⟩ := zeh (P := P) hT hti ox hx f.offset l1 (hT _ _ hti).single
         obtain ⟨v, p2, rv⟩ := zeh (P := P) hT hti oy hy f.offset l2 (hT _ _ hti).single
         have hlen : ∀ zs : List AV, f.offset + ti.sz <= zs.length -> (zch (zcs zs f.offset) ti.sz).length = ti.sz := fun zs hz => by rw [zax, zbb]; simp; omega
         have h0 : ∀ zs : List AV, f.offset + ti.sz <= zs.length -> ti.isAgg = false -> zbe AV.dead (zch (zcs zs f.offset) ti.sz) 0 = zbe .dead zs f.offset := fun zs hz hag => by
           have := (hT _ _ hti).single hag
           rw [zeo, zeo, zax, zbb, this]
           simp [List.getD]
         have heq := hq _ _ _ _ _ hti hx1 (hlen _ l1) (hlen _ l2) u v (by
           cases hag : ti.isAgg with
           | true => rw [hag] at ru; exact ru
           | false => rw [hag] at ru; simp only [h0 _ l1 hag]; exact ru) (by
           cases hag : ti.isAgg with
           | true => rw [hag] at rv; exact rv
           | false => rw [hag] at rv; simp only [h0 _ l2 hag]; exact rv)
         unfold Op.eqFields
         rw [if_pos hn0]
         simp only [Sem.run_bind, p1, p2, heq, Result.andThen_ok]
         split at e
         · rename_i b' hb'
           cases e
           cases x with
           | true => simpa [L2, std] using ih hb'
           | false => simp [L2, std]
         · cases e
       · cases e
     · cases e
   · cases e
theorem zrd (hT : zb6 P T) (d : Nat) {q : List AV -> List AV -> Option Bool} {et : Nat} {ei : TI} (hei : T.find et = some ei) {xs ys : List AV} {us vs : Array Value} (ox : ones us) (oy : ones vs) (hx : RL w.heap D μ xs us) (hy : RL w.heap D μ ys vs)
   (hq : ∀ xs ys b, q xs ys = some b -> xs.length = ei.sz -> ys.length = ei.sz -> ∀ u v, R w.heap D μ (match ei.isAgg with | true => .agg xs | false => zbe .dead xs 0) u -> R w.heap D μ (match ei.isAgg with | true => .agg ys | false => zbe .dead ys 0) v -> (Op.equalIn d et u v).run P w = .ok b w) : ∀ (n k : Nat) {b : Bool}, (k + n) * ei.sz <= xs.length -> (k + n) * ei.sz <= ys.length ->
   yh8 std q ei.sz xs ys k n = some b -> (Op.eqItems d et ei.sz us vs (List.range' k n)).run P w = .ok b w
 | 0, k, b, _, _, e => by cases e; rfl
 | n + 1, k, b, l1, l2, e => by
   have ih : ∀ {b}, yh8 std q ei.sz xs ys (k + 1) n = some b -> (Op.eqItems d et ei.sz us vs (List.range' (k + 1) n)).run P w = .ok b w := fun e => zrd hT d hei ox oy hx hy hq n (k + 1) (by rw [show k + 1 + n = k + (n + 1) by omega]; exact l1) (by rw [show k + 1 + n = k + (n + 1) by omega]; exact l2) e
   unfold yh8 at e
   have hk : k * ei.sz + ei.sz <= (k + (n + 1)) * ei.sz := by
     rw [<- Nat.succ_mul]; exact Nat.mul_le_mul_right _ (by omega)
   split at e
   · rename_i x hx1
     have l1' : k * ei.sz + ei.sz <= xs.length := Nat.le_trans hk l1
     have l2' : k * ei.sz + ei.sz <= ys.length := Nat.le_trans hk l2
     obtain ⟨u, p1, ru⟩ := zeh (P := P) hT hei ox hx (k * ei.sz) l1' (hT _ _ hei).single
     obtain ⟨v, p2, rv⟩ := zeh (P := P) hT hei oy hy (k * ei.sz) l2' (hT _ _ hei).single
     have hlen : ∀ zs : List AV, k * ei.sz + ei.sz <= zs.length -> (zch (zcs zs (k * ei.sz)) ei.sz).length = ei.sz := fun zs hz => by rw [zax, zbb]; simp; omega
     have h0 : ∀ zs : List AV, ei.isAgg = false -> zbe AV.dead (zch (zcs zs (k * ei.sz)) ei.sz) 0 = zbe .dead zs (k * ei.sz) := fun zs hag => by
       have := (hT _ _ hei).single hag
       rw [zeo, zeo, zax, zbb, this]
       simp [List.getD]
     have heq := hq _ _ _ hx1 (hlen _ l1') (hlen _ l2') u v (by
       cases hag : ei.isAgg with
       | true => rw [hag] at ru; exact ru
       | false => rw [hag] at ru; simp only [h0 _ hag]; exact ru) (by
       cases hag : ei.isAgg with
       | true => rw [hag] at rv; exact rv
       | false => rw [hag] at rv; simp only [h0 _ hag]; exact rv)
     rw [List.range'_succ]
     unfold Op.eqItems
     simp only [Sem.run_bind, p1, p2, heq, Result.andThen_ok]
     split at e
     · rename_i b' hb'
       cases e
       cases x with
       | true => simpa [L2, std] using ih hb'
       | false => simp [L2, std]
     · cases e
   · cases e
theorem zxm (hT : zb6 P T) (f0 : Nat) : ∀ (d : Nat) (t : Nat) (i : TI) (xs ys : List AV) (b : Bool), T.find t = some i -> eqD T std d t xs ys = some b -> xs.length = i.sz -> ys.length = i.sz ->
   ∀ u v, R w.heap D μ (match i.isAgg with | true => .agg xs | false => zbe .dead xs 0) u -> R w.heap D μ (match i.isAgg with | true => .agg ys | false => zbe .dead ys 0) v -> (Op.equalIn (f0 + d) t u v).run P w = .ok b w
 | 0, t, i, xs, ys, b, hi, e, _, _, u, v, _, _ => by cases e
 | d + 1, t, i, xs, ys, b, hi, e, lx, ly, u, v, ru, rv => by
   have ok := hT _ _ hi
   have ih := zxm hT f0 d
   unfold eqD at e
   rw [hi] at e
   simp only at e
   have hag := ok.agg
   have hkk := ok.k
   split at e
   · rename_i fs hk
     rw [hk] at hkk
     split at e
     · rename_i heq
       obtain ⟨hg, hs⟩ := ok.eqf heq
       obtain ⟨F', hF', hfs⟩ := hkk
       obtain ⟨F, hF, hnm, hh⟩ : ∃ F : Array Field, P.underlying t = some (.struct F) /\ (∀ f, f ∈ F.toList -> f.name ≠ "_") /\ P.stoodInHeld t = false := by
         rcases hs with hs | ⟨n, e', hs⟩
         · exact hs
         · rw [hF'] at hs; cases hs
       rw [hF] at hF' hag; cases hF'
       simp only at hag
       rw [hag] at ru rv
       obtain ⟨us, rfl, o1, r1⟩ := ru.inv_agg
       obtain ⟨vs, rfl, o2, r2⟩ := rv.inv_agg
       rw [<- hfs] at e
       have hfo : P.fieldsOf t = F' := by unfold Program.fieldsOf; rw [hF]
       rw [show f0 + (d + 1) = (f0 + d) + 1 from rfl, run_equalIn_struct w (f0 + d) t us vs (by rw [hfo]; exact hF) hh, hfo]
       exact zre hT (f0 + d) o1 o2 r1 r2 (fun t i xs ys b h1 h2 h3 h4 => ih t i xs ys b h1 h2 h3 h4) hnm e
     · cases e
   · rename_i n et esz hk
     rw [hk] at hkk
     obtain ⟨hu, hs⟩ := hkk
     obtain ⟨ei', hei', hes⟩ := Option.map_eq_some_iff.1 hs
     rw [hu] at hag
     simp only at hag
     rw [hag] at ru rv
     obtain ⟨us, rfl, o1, r1⟩ := ru.inv_agg
     obtain ⟨vs, rfl, o2, r2⟩ := rv.inv_agg
     split at e
     · rename_i ei heq hl1 hl2 hei
       have hl1 := za1 hl1
       have hl2 := za1 hl2
       rw [zac] at hl1 hl2
       split at e
       · rename_i hsz
         obtain rfl := za1 hsz
         have hcl : P.cellsOf et = ei.sz := by unfold Program.cellsOf; rw [hei']; simpa using hes
         rw [show f0 + (d + 1) = (f0 + d) + 1 from rfl, run_equalIn_array w (f0 + d) us vs hu hei', hcl, List.range_eq_range']
         exact zrd hT (f0 + d) hei o1 o2 r1 r2 (fun xs ys b h2 h3 h4 => ih et ei xs ys b hei h2 h3 h4) n 0 (by rw [Nat.zero_add]; omega) (by rw [Nat.zero_add]; omega) e
       · cases e
     · cases e
   · rename_i hk1 hk2
     unfold eq1 at e
     split at e
     · rename_i x y
       obtain ⟨hag', n1, n2, heq⟩ := ye5 (w := w) (D := D) (μ := μ) ok (f0 + d) e
       rw [hag'] at ru rv
       exact heq u v ru rv
     · cases e
theorem zyl (hT : zb6 P T) {t : Nat} {x y : AV} {b : Bool} (e : zym T std t x y = some b) {u v : Value} (hx : R w.heap D μ x u) (hy : R w.heap D μ y v) :
   (∀ op p q, (eqGuard op t p q u v).run P w = .ok () w) /\ (binOp .eql t u v).run P w = .ok (.bool b) w /\ (binOp .neq t u v).run P w = .ok (.bool (!b)) w := by
 unfold zym at e
 split at e
 · rename_i xs ys
   split at e
   · rename_i i hi
     split at e
     · rename_i heq lx ly
       have lx := za1 lx
       have ly := za1 ly
       rw [zac] at lx ly
       have ok := hT _ _ hi
       obtain ⟨hg, hs⟩ := ok.eqf heq
       have hag : i.isAgg = true := by
         rw [ok.agg]
         rcases hs with ⟨F, hF, _⟩ | ⟨n, e', hF⟩ <;> rw [hF]
       have h1 : (Op.equal t u v).run P w = .ok b w := by
         rw [zah]
         exact zxm hT 9994 6 t i xs ys b hi e lx ly u v (by rw [hag]; exact hx) (by rw [hag]; exact hy)
       obtain ⟨us, rfl, o1, r1⟩ := hx.inv_agg
       obtain ⟨vs, rfl, o2, r2⟩ := hy.inv_agg
       refine ⟨fun op p q => ?_, ?_, ?_⟩
       · cases op <;> simp [eqGuard, program, Sem.run, hg]
       · simp [binOp, h1]
       · simp [binOp, h1]
     · cases e
   · cases e
 · obtain ⟨r1, r2, r3⟩ := zyk hT e hx hy
   refine ⟨fun op p q => zdi op t p q u v r2 r3, ?_, ?_⟩
   · unfold zo7 at e
     split at e
     · split at e <;> first | (cases e; done) | (split at e <;> first | (cases e; done) | (cases hx; cases hy; simp [binOp] at r1 |-; simp [r1]))
     · cases e
   · unfold zo7 at e
     split at e
     · split at e <;> first | (cases e; done) | (split at e <;> first | (cases e; done) | (cases hx; cases hy; simp [binOp] at r1 |-; simp [r1]))
     · cases e
theorem ya4 {k : FloatKind} {m n : Nat} (hb : yfe k m n = true) : Builtin.min2 (.float k m) (.float k n) = pure (.float k (yib k m n)) := by
 unfold yfe at hb
 obtain ⟨o, ho⟩ := Option.isSome_iff_exists.1 hb
 unfold yib
 simp only [Builtin.min2, ho]
 cases o <;> rfl
theorem yaa {k : FloatKind} {m n : Nat} (hb : yfe k m n = true) : Builtin.max2 (.float k m) (.float k n) = pure (.float k (yic k m n)) := by
 unfold yfe at hb
 obtain ⟨o, ho⟩ := Option.isSome_iff_exists.1 hb
 unfold yic
 simp only [Builtin.max2, ho]
 cases o <;> rfl
variable (h : Sim base M W nt f g c a w D μ) (hd : ∀ d, o.dst = some d -> d < nt)
include h hd
theorem zzj (hT : zb6 P T) {op : BinOp} {t t' : TypeId} {x y : Operand} (e : o.op = .binOp op t x y t') {vals : List AV} (hv : Ops w.heap D μ a [x, y] vals) :
   zbo P base M W nt f g c o a w (yka T std op t vals) := by
 match vals, hv with
 | [vx, vy], ⟨hx, hy, _⟩ =>
   simp only [yka]
   unfold bin
   split
   · rename_i k m k' n
     have e1 := hx.inv_int
     have e2 := hy.inv_int
     have shift : ∀ u, (op = .shl \/ op = .shr) -> (Op.shift op k m k' n).run P w = .ok u w -> (execOp a.eval o).run P w = .ok (.value u) w := by
       intro u hop hu
       unfold execOp
       rw [e]
       simp only [e1, e2, Sem.run_bind, zdi op t x y (.int k m) (.int k' n) (by simp) (by simp), Result.andThen_ok]
       rcases hop with rfl | rfl <;> simp [binOp, hu]
     split
     · intro hb
       have hn : 0 <= n := of_decide_eq_true hb
       refine za0 h hd (u := .int k (yii k m n)) (shift _ (.inl rfl) ?_) (.int _ _)
       have : ¬ n < 0 := by omega
       simp [Op.shift, this]
       rfl
     · intro hb
       have hn : 0 <= n := of_decide_eq_true hb
       refine za0 h hd (u := .int k (yc2 k m n)) (shift _ (.inr rfl) ?_) (.int _ _)
       have : ¬ n < 0 := by omega
       simp [Op.shift, this]
       rfl
     · rename_i h1 h2
       split
       · rename_i hk
         obtain rfl : k = k' := of_decide_eq_true hk
         exact zsm h hd e e1 e2 ⟨h1, h2⟩
       · trivial
   · exact zrz h hd e hx hy
   · rename_i k m k' n
     split
     · rename_i hk
       obtain rfl : k = k' := of_decide_eq_true hk
       exact zor h hd e hx.inv_flt hy.inv_flt
     · trivial
   · rename_i k m n k' m' n'
     split
     · rename_i hk
       obtain rfl : k = k' := of_decide_eq_true hk
       exact zvf h hd e hx.inv_cpx hy.inv_cpx
     · trivial
   · rename_i sz n get
     split
     · rename_i hsl
       obtain ⟨el, hel⟩ : ∃ el, P.underlying t = some (.slice el) := by
         unfold isSl at hsl
         split at hsl
         · rename_i i hi
           have ok := (hT t i hi).k
           split at hsl
           · rename_i hk; rw [hk] at ok; exact ⟨_, ok.1⟩
           · cases hsl
         · cases hsl
       have key : zau 0 n = true -> (Op.equal t (a.eval x) (a.eval y)).run P w = .ok false w /\ a.eval x ≠ .nilIface /\ (∀ cs, a.eval x ≠ .agg cs) /\ (∃ p q r, a.eval x = .slice p q r) /\ ∃ p q r, a.eval y = .slice p q r := by
         intro hn
         have hn := zai hn
         generalize a.eval x = u at hx
         generalize a.eval y = v at hy
         cases hy
         cases hx with
         | lst0 => omega
         | lst _ _ _ b o' cap vs =>
           refine ⟨?_, by simp, by simp, ⟨_, _, _, rfl⟩, ⟨_, _, _, rfl⟩⟩
           rw [zah, Op.equalIn]
           simp [run_underlying hel]
       split
       · intro hn
         obtain ⟨r1, r2, r3, ⟨p, q, r, hp⟩, ⟨p', q', r', hp'⟩⟩ := key hn
         refine za0 h hd (u := .bool false) ?_ (.bool _)
         unfold execOp
         rw [e]
         rw [hp, hp'] at r1
         rw [hp] at r2 r3
         simp [zdi .eql t x y _ (.slice p' q' r') r2 r3, binOp, hp, hp', r1]
       · intro hn
         obtain ⟨r1, r2, r3, ⟨p, q, r, hp⟩, ⟨p', q', r', hp'⟩⟩ := key hn
         refine za0 h hd (u := .bool true) ?_ (.bool _)
         unfold execOp
         rw [e]
         rw [hp, hp'] at r1
         rw [hp] at r2 r3
         simp [zdi .neq t x y _ (.slice p' q' r') r2 r3, binOp, hp, hp', r1]
       · trivial
     · trivial
   · have run : ∀ b op', (op' = .eql \/ op' = .neq) -> op = op' -> zym T std t vx vy = some b -> (execOp a.eval o).run P w = .ok (.value (.bool (if op' = .eql then b else !b))) w := by
       intro b op' hop hop2 hb
       obtain ⟨r1, r2, r3⟩ := zyl hT hb hx hy
       subst hop2
       unfold execOp
       rw [e]
       rcases hop with rfl | rfl
       · simp [r1, r2]
       · simp [r1, r3]
     split
     · split
       · rename_i b hb
         exact za0 h hd (run b .eql (.inl rfl) rfl hb) (.bool _)
       · trivial
     · split
       · rename_i b hb
         exact za0 h hd (run b .neq (.inr rfl) rfl hb) (.bool _)
       · trivial
     · trivial
theorem zvk (hT : zb6 P T) {op : BinOp} {t t' : TypeId} {x y : Operand} (e : o.op = .binOp op t x y t') {vals : List AV} (hv : Ops w.heap D μ a [x, y] vals) :
   zbo P base M W nt f g c o a w (yev T std op t (cond (zlx x) true (zlx y)) vals) := by
 unfold yev
 split
 · obtain ⟨hx, hy, _⟩ := hv
   split
   · rename_i sz ag ze eqf p1 p2 p3 hc hi
     obtain ⟨ms, ok⟩ := (hT t _ hi).k
     have e1 : a.eval x = .nilIface := by generalize a.eval x = u at hx; cases hx; rfl
     have e2 : a.eval y = .nilIface := by generalize a.eval y = u at hy; cases hy; rfl
     have hg := zji (P := P) (w := w) op t hc
     have he : (Op.equal t .nilIface .nilIface).run P w = .ok true w := by
       rw [zah, Op.equalIn]
       simp [run_underlying ok]
     split
     · refine za0 h hd (u := .bool true) ?_ (.bool _)
       unfold execOp
       rw [e]
       simp [e1, e2, hg, binOp, he]
     · refine za0 h hd (u := .bool false) ?_ (.bool _)
       unfold execOp
       rw [e]
       simp [e1, e2, hg, binOp, he]
     · trivial
   · trivial
 · rename_i b
   obtain ⟨hx, hy, _⟩ := hv
   split
   · rename_i sz ag ze eqf p1 p2 p3 hc hi
     obtain ⟨ms, ok⟩ := (hT t _ hi).k
     have e2 : a.eval y = .nilIface := by generalize a.eval y = u at hy; cases hy; rfl
     obtain ⟨u, e1, hu, hb⟩ : ∃ u, a.eval x = u /\ (u = .nilIface \/ ∃ t p, u = .iface t p) /\ ((Op.equal t u .nilIface).run P w = .ok b w) := by
       generalize a.eval x = u at hx
       cases hx with
       | ifn => exact ⟨_, rfl, .inl rfl, by rw [zah, Op.equalIn]; simp [run_underlying ok]⟩
       | ifs t' p => exact ⟨_, rfl, .inr ⟨t', p, rfl⟩, by rw [zah, Op.equalIn]; simp [run_underlying ok]⟩
     have hg := zpk (P := P) (w := w) op t hc u hu
     split
     · refine za0 h hd (u := .bool b) ?_ (.bool _)
       unfold execOp
       rw [e]
       simp [e1, e2, hg, binOp, hb]
     · refine za0 h hd (u := .bool (!b)) ?_ (.bool _)
       unfold execOp
       rw [e]
       simp [e1, e2, hg, binOp, hb]
     · trivial
   · trivial
 · exact zzj h hd hT e hv
theorem zze {x y : Operand} {ts : Array TypeId} (e : o.op = .call { callee := .builtin .min, args := #[x, y], argTypes := ts }) {vals : List AV}
   (hv : Ops w.heap D μ a [x, y] vals) : zbo P base M W nt f g c o a w (yhg std vals) := by
 match vals, hv with
 | [v, v'], ⟨hx, hy, _⟩ =>
   unfold yhg
   split
   · rename_i k m k' n he
     simp only [List.cons.injEq, and_true] at he
     obtain ⟨rfl, rfl⟩ := he
     split
     · rename_i hk
       obtain rfl : k = k' := of_decide_eq_true hk
       refine za0 h hd (u := .int k (min m n)) ?_ (.int _ _)
       unfold execOp
       rw [e]
       have : (if n < m then n else m) = min m n := by rw [Int.min_def]; split <;> split <;> omega
       simp [resolve, invoke, builtin, Builtin.min_, hx.inv_int, hy.inv_int, Builtin.min2, this]
     · trivial
   · rename_i k m k' n he
     simp only [List.cons.injEq, and_true] at he
     obtain ⟨rfl, rfl⟩ := he
     split
     · rename_i hk
       obtain rfl : k = k' := of_decide_eq_true hk
       intro hb
       have e1 : a.eval x = .float k m := hx.inv_flt
       have e2 : a.eval y = .float k n := hy.inv_flt
       refine za0 h hd (u := .float k (yib k m n)) ?_ (.flt _ _)
       unfold execOp
       rw [e]
       simp [resolve, invoke, builtin, Builtin.min_, e1, e2, ya4 hb]
     · trivial
   · trivial
theorem zmn {x y : Operand} {ts : Array TypeId} (e : o.op = .call { callee := .builtin .complex, args := #[x, y], argTypes := ts }) {vals : List AV}
   (hv : Ops w.heap D μ a [x, y] vals) : zbo P base M W nt f g c o a w (yeq vals) := by
 match vals, hv with
 | [v, v'], ⟨hx, hy, _⟩ =>
   unfold yeq
   split
   · rename_i k m k' n he
     simp only [List.cons.injEq, and_true] at he
     obtain ⟨rfl, rfl⟩ := he
     split
     · rename_i hk
       obtain rfl : k = k' := of_decide_eq_true hk
       have e1 : a.eval x = .float k m := hx.inv_flt
       have e2 : a.eval y = .float k n := hy.inv_flt
       refine za0 h hd (u := .complex k m n) ?_ (.cpx _ _ _)
       unfold execOp
       rw [e]
       have hb : Builtin.complex_ ts o.type #[.float k m, .float k n] = pure (.complex k m n) := (if_pos rfl : (if k = k then (pure (.complex k m n) : Sem Value) else stuck "complex: parts of different kinds") = _)
       simp [resolve, invoke, builtin, hb, e1, e2]
     · trivial
   · trivial
theorem zv0 {x : Operand} {ts : Array TypeId} (e : o.op = .call { callee := .builtin .real, args := #[x], argTypes := ts }) {vals : List AV}
   (hv : Ops w.heap D μ a [x] vals) : zbo P base M W nt f g c o a w (cRe vals) := by
 match vals, hv with
 | [v], ⟨hx, _⟩ =>
   unfold cRe
   split
   · rename_i k m n he
     simp only [List.cons.injEq, and_true] at he
     subst he
     have e1 : a.eval x = .complex k m n := hx.inv_cpx
     refine za0 h hd (u := .float k m) ?_ (.flt _ _)
     unfold execOp
     rw [e]
     have hb : Builtin.real_ ts o.type #[.complex k m n] = pure (.float k m) := rfl
     simp [resolve, invoke, builtin, hb, e1]
   · trivial
theorem zvd {x : Operand} {ts : Array TypeId} (e : o.op = .call { callee := .builtin .imag, args := #[x], argTypes := ts }) {vals : List AV}
   (hv : Ops w.heap D μ a [x] vals) : zbo P base M W nt f g c o a w (cIm vals) := by
 match vals, hv with
 | [v], ⟨hx, _⟩ =>
   unfold cIm
   split
   · rename_i k m n he
     simp only [List.cons.injEq, and_true] at he
     subst he
     have e1 : a.eval x = .complex k m n := hx.inv_cpx
     refine za0 h hd (u := .float k n) ?_ (.flt _ _)
     unfold execOp
     rw [e]
     have hb : Builtin.imag_ ts o.type #[.complex k m n] = pure (.float k n) := rfl
     simp [resolve, invoke, builtin, hb, e1]
   · trivial
theorem zzf {x y : Operand} {ts : Array TypeId} (e : o.op = .call { callee := .builtin .max, args := #[x, y], argTypes := ts }) {vals : List AV}
   (hv : Ops w.heap D μ a [x, y] vals) : zbo P base M W nt f g c o a w (yej std vals) := by
 match vals, hv with
 | [v, v'], ⟨hx, hy, _⟩ =>
   unfold yej
   split
   · rename_i k m k' n he
     simp only [List.cons.injEq, and_true] at he
     obtain ⟨rfl, rfl⟩ := he
     split
     · rename_i hk
       obtain rfl : k = k' := of_decide_eq_true hk
       refine za0 h hd (u := .int k (max m n)) ?_ (.int _ _)
       unfold execOp
       rw [e]
       have : (if n > m then n else m) = max m n := by rw [Int.max_def]; split <;> split <;> omega
       simp [resolve, invoke, builtin, Builtin.max_, hx.inv_int, hy.inv_int, Builtin.max2, this]
     · trivial
   · rename_i k m k' n he
     simp only [List.cons.injEq, and_true] at he
     obtain ⟨rfl, rfl⟩ := he
     split
     · rename_i hk
       obtain rfl : k = k' := of_decide_eq_true hk
       intro hb
       have e1 : a.eval x = .float k m := hx.inv_flt
       have e2 : a.eval y = .float k n := hy.inv_flt
       refine za0 h hd (u := .float k (yic k m n)) ?_ (.flt _ _)
       unfold execOp
       rw [e]
       simp [resolve, invoke, builtin, Builtin.max_, e1, e2, yaa hb]
     · trivial
   · rename_i he; simp at he
   · trivial
theorem zv7 {x y z : Operand} {ts : Array TypeId} (e : o.op = .call { callee := .builtin .max, args := #[x, y, z], argTypes := ts }) {vals : List AV}
   (hv : Ops w.heap D μ a [x, y, z] vals) : zbo P base M W nt f g c o a w (yej std vals) := by
 match vals, hv with
 | [v, v', v''], ⟨hx, hy, hz, _⟩ =>
   unfold yej
   split
   · rename_i he; simp at he
   · rename_i he; simp at he
   · rename_i k m k' n k'' q he
     simp only [List.cons.injEq, and_true] at he
     obtain ⟨rfl, rfl, rfl⟩ := he
     split
     · rename_i hk
       obtain rfl : k = k' := of_decide_eq_true hk
       split
       · rename_i hk
         obtain rfl : k = k'' := of_decide_eq_true hk
         refine za0 h hd (u := .int k (max (max m n) q)) ?_ (.int _ _)
         unfold execOp
         rw [e]
         have e1 : ∀ m n : Int, (if n > m then n else m) = max m n := fun m n => by rw [Int.max_def]; split <;> split <;> omega
         simp [resolve, invoke, builtin, Builtin.max_, hx.inv_int, hy.inv_int, hz.inv_int, Builtin.max2, e1]
       · trivial
     · trivial
   · trivial
theorem zzc {x : Operand} (e : o.op = .nilCheck x) {vals : List AV} (hv : Ops w.heap D μ a [x] vals) : zbo P base M W nt f g c o a w (yk5 vals) := by
 match vals, hv with
 | [v], ⟨hv, _⟩ =>
   have run : ∀ ad, a.eval x = .pointer (some ad) -> (execOp a.eval o).run P w = .ok (.value (.pointer (some ad))) w := by
     intro ad hu; unfold execOp; rw [e]; simp [hu]
   unfold yk5
   split
   · rename_i id off he
     simp only [List.cons.injEq, and_true] at he; subst he
     generalize hu : a.eval x = u at *
     have hv' := hv
     cases hv; exact za0 h hd (run _ rfl) hv'
   · rename_i id sz i off he
     simp only [List.cons.injEq, and_true] at he; subst he
     generalize hu : a.eval x = u at *
     have hv' := hv
     cases hv; exact za0 h hd (run _ rfl) hv'
   · rename_i p k sz i off he
     simp only [List.cons.injEq, and_true] at he; subst he
     generalize hu : a.eval x = u at *
     have hv' := hv
     cases hv; exact za0 h hd (run _ rfl) hv'
   · rename_i cc p k sz i off he
     simp only [List.cons.injEq, and_true] at he; subst he
     generalize hu : a.eval x = u at *
     intro hc
     subst hc
     have hv' := hv.aer_of
     cases hv; exact za0 h hd (run _ rfl) hv'
   rotate_left
   · rename_i id off n i he
     simp only [List.cons.injEq, and_true] at he; subst he
     generalize hu : a.eval x = u at *
     have hv' := hv
     cases hv; exact za0 h hd (run _ rfl) hv'
   rotate_left
   · rename_i n get he
     simp only [List.cons.injEq, and_true] at he; subst he
     generalize hu : a.eval x = u at *
     have hv' := hv
     cases hv; exact za0 h hd (run _ rfl) hv'
   · trivial
end
end Sy
end Go.Proofs.Ytogomcfgfnlclaa
namespace Go.Proofs.Ytogomcfgfnlclaa
namespace Sy
open Go Go.RowKit
set_option linter.unusedSimpArgs false
set_option linter.unusedVariables false
theorem zkn : ∀ (ns : List Int) (s : ByteArray), (ns.foldl (fun r n => r.push (UInt8.ofNat n.toNat)) s).data.toList = s.data.toList ++ ns.map fun n => UInt8.ofNat n.toNat
 | [], s => by simp
 | n :: ns, s => by simp [zkn ns]
theorem zb3 (b o j : Nat) : (⟨b, o, none⟩ : Addr).add j = ⟨b, o + j, none⟩ := by unfold Addr.add; split <;> simp_all
section
variable {P : Program} {T : TT} {base : Nat} {M : Two} {W : World} {nt : Nat} {f : Nat -> Option AV} {g : Nat -> Option Ob} {c : Nat -> Bool} {a : Act} {w : World} {D : Nat -> Prop} {μ : Mu} {o : Oper}
theorem zg0 (hT : zb6 P T) {e : Nat} (h : ydq T e = true) : P.underlying e = some (.int .u8) := by
 unfold ydq at h
 split at h
 · rename_i i hi
   have := (hT e i hi).k
   split at h
   · rename_i hk; rw [hk] at this; exact this
   · cases h
 · cases h
theorem zo2 (hT : zb6 P T) {s t e esz eb : Nat} {si ti : TI} (hs : T.find s = some si) (hsk : si.k = .slice e esz eb) (hu : ydq T e = true) (ht : T.find t = some ti) (htk : ti.k = .str)
   (b o n cap : Nat) (k : Nat -> Int) (hc : ∀ i, i < n -> hcell w.heap b (o + i) = some (.int .u8 (k i))) :
   ∃ r : ByteArray, (convert s t (.slice (some ⟨b, o, none⟩) n cap)).run P w = .ok (.string r) w /\ r.data.toList = zb1 n k := by
 have h1 := (hT s si hs).k
 rw [hsk] at h1
 have h2 := (hT t ti ht).k
 rw [htk] at h2
 have hl := run_loadCells (P := P) w ⟨b, o, none⟩ n (fun i => .int .u8 (k i)) (fun j hj => by rw [zb3, ze6]; exact hc j hj)
 have hl' : (loadCells ⟨b, o, none⟩ n).run P w = .ok (((List.range n).map k).map (Value.int .u8)).toArray w := by rw [hl]; simp
 refine ⟨_, by rw [run_convert_bytes_string w s t e _ n cap h1.1 (zg0 hT hu) h2, run_bytesToString w _ n cap _ hl'], ?_⟩
 rw [zkn]
 simp [zb1, ByteArray.empty, ByteArray.emptyWithCapacity]
 rfl
variable (h : Sim base M W nt f g c a w D μ) (hd : ∀ d, o.dst = some d -> d < nt)
include h hd
theorem zvh (hT : zb6 P T) {s t : TypeId} {x : Operand} (e : o.op = .convert s t x) {vals : List AV} (hv : Ops w.heap D μ a [x] vals) {ob : Nat -> Option Ob} (hob : ∀ id z, ob id = some z -> g id = some z) :
   zbo P base M W nt f g c o a w (yer T std s t ob vals) := by
 match vals, hv with
 | [v], ⟨hv, _⟩ =>
   have run : ∀ u, (convert s t (a.eval x)).run P w = .ok u w -> (execOp a.eval o).run P w = .ok (.value u) w := by
     intro u hu; unfold execOp; rw [e]; simp [hu]
   generalize a.eval x = u at *
   unfold yer
   simp only
   split
   · rename_i si hsi
     obtain ⟨sd, hsd⟩ := (hT s si hsi).und
     split
     · rename_i ti hti
       have ok := (hT t ti hti).k
       split
       · rename_i k hk
         rw [hk] at ok
         split
         · rename_i k' n
           have := hv.inv_int
           subst this
           refine za0 h hd (u := .int k (k.wrap n)) (run _ ?_) (.int _ _)
           simp only [convert, Sem.run_bind, run_underlying hsd, run_underlying ok, Result.andThen_ok]
           cases sd <;> rfl
         · trivial
       · rename_i k hk
         rw [hk] at ok
         split
         · rename_i k' n
           have := hv.inv_int
           subst this
           refine za0 h hd (u := .float k (k.nearest n)) (run _ ?_) (.flt _ _)
           simp only [convert, Sem.run_bind, run_underlying hsd, run_underlying ok, Result.andThen_ok]
           cases sd <;> rfl
         · trivial
       · rename_i hk
         rw [hk] at ok
         split
         · rename_i l
           have hv' := hv
           obtain ⟨r, rfl, rfl⟩ := hv.inv_str
           refine za0 h hd (u := .string r) (run _ ?_) hv'
           simp only [convert, Sem.run_bind, run_underlying hsd, run_underlying ok, Result.andThen_ok]
           cases sd <;> rfl
         · split
           · rename_i e' esz eb hsk
             split
             · rename_i hu8
               have h1 := (hT s si hsi).k
               rw [hsk] at h1
               split
               · rename_i n get _
                 intro hp
                 have key : ∀ b o' cap, (∀ i, i < n -> hcell w.heap b (o' + i) = some (.int .u8 (get i 0).toI)) -> u = .slice (some ⟨b, o', none⟩) n cap ->
                     Adv P base M W nt f g c o a w (.str (L2 std zb1 n (fun i => (get i 0).toI))) [] [] := by
                   rintro b o' cap hc rfl
                   obtain ⟨r, hr1, hr2⟩ := zo2 (P := P) (w := w) hT hsi hsk hu8 hti hk b o' n cap (fun i => (get i 0).toI) hc
                   exact za0 h hd (run _ hr1) (.str _ _ hr2)
                 cases hv with
                 | lst0 _ _ ad cap hn =>
                   cases ad with
                   | none =>
                     refine za0 h hd (u := .string .empty) (run _ ?_) (.str _ _ rfl)
                     rw [run_convert_bytes_string w s t e' none 0 cap h1.1 (zg0 hT hu8) ok]
                     rfl
                   | some ad =>
                     refine za0 h hd (u := .string .empty) (run _ ?_) (.str _ _ rfl)
                     rw [run_convert_bytes_string w s t e' _ 0 cap h1.1 (zg0 hT hu8) ok]
                     rfl
                 | lst _ _ _ b o' cap vs hD hn hv h1' hr =>
                   refine key b o' cap (fun i hi => ?_) rfl
                   have h3 := hv i 0 hi (by omega)
                   have h4 := hr i 0 hi (by omega)
                   obtain ⟨q, hq⟩ := hp i hi
                   rw [hq] at h4 |-
                   rw [h4.inv_int] at h3
                   simpa [AV.toI] using h3
               · cases hv with
                 | nils =>
                   refine za0 h hd (u := .string .empty) (run _ ?_) (.str _ _ rfl)
                   rw [run_convert_bytes_string w s t e' none 0 0 h1.1 (zg0 hT hu8) ok]
                   rfl
               · rename_i id off n _
                 split
                 · rename_i m get hob'
                   have hg := hob _ _ hob'
                   rintro ⟨hm0, hp⟩
                   have hm : off + n <= m := hm0
                   have empty : ∀ ad cap, n = 0 -> u = .slice ad 0 cap -> Adv P base M W nt f g c o a w (.str (L2 std zb1 n (fun i => (get (off + i) 0).toI))) [] [] := by
                     rintro ad cap rfl rfl
                     refine za0 h hd (u := .string .empty) (run _ ?_) (.str _ _ rfl)
                     rw [run_convert_bytes_string w s t e' _ 0 cap h1.1 (zg0 hT hu8) ok]
                     cases ad <;> rfl
                   cases hv with
                   | slv => exact empty _ _ rfl rfl
                   | sl0 => exact empty _ _ rfl rfl
                   | sl _ _ _ _ b z m' cap hμ hn hz ho =>
                     obtain ⟨_, cs, t', fr, hh, _, _, _, hrow⟩ := h.obs id _ _ hg hμ
                     obtain ⟨r, hr1, hr2⟩ := zo2 (P := P) (w := w) hT hsi hsk hu8 hti hk b (off * 1) n cap (fun i => (get (off + i) 0).toI) (fun i hi => by
                       obtain ⟨y, hy1, _, hy2⟩ := hrow (off + i) 0 (by omega) (by omega)
                       obtain ⟨q, hq⟩ := hp i hi
                       rw [hq] at hy2 |-
                       rw [hy2.inv_int] at hy1
                       rw [zak hh]
                       simpa [AV.toI] using hy1)
                     exact za0 h hd (run _ hr1) (.str _ _ hr2)
                 · trivial
               · trivial
             · trivial
           · trivial
       · rename_i hk
         split
         · rename_i id el hpt
           split
           · rename_i ty cs ei hg hei
             have hg := hob _ _ hg
             split
             · rename_i hup hli hty hsz hpos
               obtain rfl := za1 hty
               have hsz := za1 hsz
               rw [zac] at hsz
               cases hv with
               | ref _ _ b z m hμ =>
                 obtain ⟨C, t', fr, hh, hcs, ⟨_, rfl⟩, _, hr, _⟩ := h.obs id _ _ hg hμ
                 obtain ⟨j, zv, hj, hj2, _, _, hj5, _⟩ := (hT _ ei hei).info
                 have hsh : w.shape? b = some (t', C.size) := by simp [World.shape?, hh]
                 have hpos : 0 < ei.sz := zai hpos
                 refine za0 h hd (run _ (Lib.run_from_unsafe w (cells := C.size) ⟨b, 0, none⟩ ((hT s si hsi).upf hup) ((hT t ti hti).ptf _ hpt) hj hsh ?_)) (.ref id 0 b z m hμ)
                 have hc : P.cellsOf t' = ei.sz := by rw [Program.cellsOf, hj]; simpa using hj2
                 rw [hc, show C.size = ei.sz by rw [<- hr, hsz], Nat.div_self hpos]
                 exact (hT _ ei hei).lief hli
             · trivial
           · trivial
         · trivial
       · rename_i hk
         split
         · rename_i id off el hpt
           split
           · rename_i ty cs ei hg hei
             have hg := hob _ _ hg
             split
             · rename_i hup hpos hoff
               have hpos := zai hpos
               have hoff := zai hoff
               rw [zac] at hoff
               cases hv with
               | ref _ _ b z m hμ =>
                 obtain ⟨C, t', fr, hh, hcs, ⟨_, rfl⟩, _, hr, _⟩ := h.obs id _ _ hg hμ
                 obtain ⟨j, zv, hj, hj2, _⟩ := (hT _ ei hei).info
                 have hsh : w.shape? b = some (t', C.size) := by simp [World.shape?, hh]
                 exact za0 h hd (run _ (Lib.run_to_unsafe w (cells := C.size) ⟨b, off, none⟩ ((hT s si hsi).ptf _ hpt) ((hT t ti hti).upf hup) hj (by rw [hj2]; omega) hsh (by show off < C.size; rw [<- hr]; exact hoff))) (.ref id off b z m hμ)
             · trivial
           · trivial
         · trivial
       · trivial
     · trivial
   · trivial
theorem zsh (hT : zb6 P T) {t : TypeId} {x : Operand} {k : Nat} (e : o.op = .fieldAddr t x k) {vals : List AV} (hv : Ops w.heap D μ a [x] vals) : zbo P base M W nt f g c o a w (zyc T t k vals) := by
 match vals, hv with
 | [v], ⟨hv, _⟩ =>
   have run : ∀ u, (Instr.fieldAt t (a.eval x) k).run P w = .ok u w -> (execOp a.eval o).run P w = .ok (.value u) w := by
     intro u hu; unfold execOp; rw [e]; simp [hu]
   generalize a.eval x = u at *
   unfold zyc
   simp only
   split
   · rename_i sz ag ze fs eqf p1 p2 p3 hi
     have ok := (hT t _ hi).k
     obtain ⟨F, hF, hfs⟩ := ok
     split
     · rename_i hlt
       have hlt := zai hlt
       rw [zac] at hlt
       split
       · rename_i m hm
         have hk : k < F.size := by rw [<- hfs] at hlt; simpa using hlt
         have hfd : zbe (0, 0) fs k = (F[k].offset, F[k].type) := by
           rw [zeo]; simp [<- hfs, List.getD, hk]
         rw [hfd] at hm |-
         have hsz : ∀ w' : World, (sizeOf F[k].type).run P w' = .ok (m + 1) w' := by
           intro w'
           unfold TT.sizeOf at hm
           split at hm
           · rename_i fi hfi
             injection hm with hmm
             have := (hT _ fi hfi).sizeOf w'
             rw [this, hmm]
           · cases hm
         have go : ∀ b o', u = .pointer (some ⟨b, o', none⟩) -> (Instr.fieldAt t u k).run P w = .ok (.pointer (some ⟨b, o' + F[k].offset, none⟩)) w := by
           rintro b o' rfl
           simp [Instr.fieldAt, run_underlying hF, hk, Instr.sureAddr, fieldPlace, hsz, zb3]
         split
         · rename_i id off
           cases hv with
           | ref _ _ b z m hμ => exact za0 h hd (run _ (go _ _ rfl)) (.ref _ _ b z m hμ)
         · rename_i id sz' i off
           cases hv with
           | eref _ _ _ _ b z m hμ hi' =>
             refine za0 h hd (run _ (go _ _ rfl)) ?_
             rw [Nat.add_assoc]
             exact .eref _ _ _ _ b z m hμ hi'
         · rename_i p' k' sz' i off
           cases hv with
           | aer _ _ _ _ _ b z m hμ hi' =>
             refine za0 h hd (run _ (go _ _ rfl)) ?_
             rw [Nat.add_assoc]
             exact .aer _ _ _ _ _ b z m hμ hi'
         · rename_i cc p' k' sz' i off
           intro hc
           subst hc
           cases hv with
           | aepp _ _ _ _ _ b z m hμ hi' =>
             refine za0 h hd (run _ (go _ _ rfl)) ?_
             rw [Nat.add_assoc]
             exact .aer _ _ _ _ _ b z m hμ hi'
         · rename_i n get
           cases hv with
           | iptr _ _ b o' vs hD hv h1 hr =>
             exact za0 h hd (run _ (go _ _ rfl)) (.iptr _ _ b _ (fun j => vs (F[k].offset + j)) hD (fun j hj => by rw [Nat.add_assoc]; exact hv _ (by omega)) (fun j hj => h1 _ (by omega)) (fun j hj => hr _ (by omega)))
         · trivial
       · trivial
     · trivial
   · trivial
theorem zsg (hT : zb6 P T) {t : TypeId} {x : Operand} {k : Nat} (e : o.op = .field t x k) {vals : List AV} (hv : Ops w.heap D μ a [x] vals) : zbo P base M W nt f g c o a w (zyb T t k vals) := by
 match vals, hv with
 | [v], ⟨hv, _⟩ =>
   have run : ∀ u, (Instr.field t (a.eval x) k).run P w = .ok u w -> (execOp a.eval o).run P w = .ok (.value u) w := by
     intro u hu; unfold execOp; rw [e]; simp [hu]
   generalize a.eval x = u at *
   unfold zyb
   split
   · rename_i cs he
     simp only [List.cons.injEq, and_true] at he
     subst he
     obtain ⟨us, rfl, h1, hr⟩ := hv.inv_agg
     split
     · rename_i sz ag ze fs eqf p1 p2 p3 hi
       have ok := (hT t _ hi).k
       obtain ⟨F, hF, hfs⟩ := ok
       split
       · rename_i hlt
         have hlt := zai hlt
         rw [zac] at hlt
         have hk : k < F.size := by rw [<- hfs] at hlt; simpa using hlt
         have hfd : zbe (0, 0) fs k = (F[k].offset, F[k].type) := by
           rw [zeo]; simp [<- hfs, List.getD, hk]
         rw [hfd]
         split
         · rename_i i hfi
           split
           · rename_i hle
             have hle := zav hle
             rw [zac] at hle
             have go : ∀ u, (part F[k].type us F[k].offset).run P w = .ok u w -> (Instr.field t (.agg us) k).run P w = .ok u w := by
               intro u hu
               simp [Instr.field, run_underlying hF, hk, asAgg, hu]
             split
             · rename_i hag
               obtain ⟨u, hu, r⟩ := zeh (P := P) hT hfi h1 hr F[k].offset hle (by rw [hag]; simp)
               rw [hag] at r
               exact za0 h hd (run _ (go _ hu)) r
             · rename_i hag
               split
               · rename_i hs
                 obtain ⟨u, hu, r⟩ := zeh (P := P) hT hfi h1 hr F[k].offset hle (fun _ => za1 hs)
                 rw [hag] at r
                 exact za0 h hd (run _ (go _ hu)) r
               · trivial
           · trivial
         · trivial
       · trivial
     · trivial
   · trivial
end
end Sy
end Go.Proofs.Ytogomcfgfnlclaa
