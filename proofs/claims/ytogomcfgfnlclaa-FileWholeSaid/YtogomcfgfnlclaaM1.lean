/-What package-level variables hold when a call begins: nothing is asked here. A symbolic executor for the functions of this seat: abstract values, states, the operations, the run. Definitions alone; and what stands between these and the texts behind.-/
import Derived.Test.YtogomcfgfnlclaaProg
import Derived.Orders
import Derived.ScopeJumps
import Derived.Below
import Derived.Laws.CopyRow
import Derived.Laws.AppendOwn
import Derived.Laws.OwnMore
import Derived.Laws.StructEq
import Derived.MapKept
import Derived.Lib.IndexBytes
import Derived.LaidEqlPtr
import Derived.ChangeKeysEq
import Derived.Lib.UnsafeStr
import Derived.Lib.Builder
import Derived.Laws.IdiomStrings
namespace Go.Proofs.Ytogomcfgfnlclaa
namespace Sy
open Go
set_option linter.unusedVariables false
def gN : Nat := 0
def GOk (w : World) : Prop := True
theorem yhz {w w' : World} (h : GOk w) (hs : w.heap.size <= w'.heap.size) (hb : ∀ b, b < gN -> w'.heap[b]? = w.heap[b]?) : GOk w' := trivial
theorem zvf {w : World} (h : GOk w) : gN <= w.heap.size := Nat.zero_le _
end Sy
end Go.Proofs.Ytogomcfgfnlclaa
namespace Go.Proofs.Ytogomcfgfnlclaa
namespace Sy
open Go
set_option linter.unusedVariables false
abbrev za9 : Type 1 := ∀ {α β : Type}, (α -> β) -> α -> β
def std : za9 := fun f x => f x
def L2 (L : za9) {α β γ : Type} (f : α -> β -> γ) (a : α) (b : β) : γ := L (L f a) b
def L3 (L : za9) {α β γ δ : Type} (f : α -> β -> γ -> δ) (a : α) (b : β) (c : γ) : δ := L (L (L f a) b) c
inductive Ky where
 | i (n : Int)
 | s (l : List UInt8)
 | a (l : List Int)
 deriving DecidableEq
inductive KK where
 | i (k : IntKind)
 | s
 | a (ks : List IntKind)
 | no
 deriving DecidableEq
inductive AV where
 | dead
 | bool (b : Bool)
 | int (k : IntKind) (n : Int)
 | str (l : List UInt8)
 | nilp
 | nilm
 | nilf
 | nils
 | nili
 | ifb (nil : Bool)
 | emp
 | emz
 | lst (sz n : Nat) (get : Nat -> Nat -> AV)
 | lstx (sz n : Nat) (get : Nat -> Nat -> AV)
 | iptr (n : Nat) (get : Nat -> AV)
 | ref (id off : Nat)
 | eref (id sz i off : Nat)
 | sl (id sz off n : Nat)
 | slc (id sz off n cap : Nat)
 | fn (f : FuncId) (first caps : List AV)
 | agg (cs : List AV)
 | arr (n : Nat) (get : Nat -> AV)
 | tup (vs : List AV)
 | mp (id : Nat)
 | bidx (id off n i : Nat)
 | flt (k : FloatKind) (b : Nat)
 | cpx (k : FloatKind) (a b : Nat)
 | mpi (kk : KK) (n : Nat) (has : Ky -> Bool) (val : Ky -> AV)
 | aer (p k sz i off : Nat)
 | asl (p k sz off n : Nat)
 | aep (c : Bool) (p k sz i off : Nat)
inductive Ob where
 | box (ty : Nat) (cs : List AV)
 | row (ty sz n : Nat) (get : Nat -> Nat -> AV)
 | spr (ty : Nat) (cs : List AV)
 | map (kk : KK) (n : Nat) (has : Ky -> Bool) (val : Ky -> AV)
 | mapl (kk : KK) (es : List (Ky × AV))
 | mapq (e : Bool)
 | rowp (q ty sz n : Nat) (get : Nat -> Nat -> AV)
 | tab (ty sz n : Nat) (len : Nat -> Nat) (get : Nat -> Nat -> Nat -> AV)
 | mapp (q sz : Nat) (l : List (List UInt8 × Nat))
 | mapr (q sz : Nat) (l : List Nat)
 | gone
structure St where
 slots : List (Nat × AV)
 objs : List (Nat × Ob)
 ice : List Nat
 kn : List (Nat × Bool)
inductive Ex where
 | normal | exit (id : Nat) | goto (l : Nat) | ret
inductive zcb : Type 1 where
 | fail (why : Nat)
 | need (b : Bool) (k : zcb)
 | must (p : Prop) (k : zcb)
 | ite (b : Bool) (t e : zcb)
 | done (r : AV)
 | yes
 | call (f : FuncId) (xs : List AV) (k : AV -> zcb)
 | ex (X : Type) (f : X -> zcb)
 | all (X : Type) (f : X -> zcb)
 | sup (p : Prop) (k : zcb)
 | and (a b : zcb)
def zbv : Nat := 1000000000000
def mid (t k : Nat) : Nat := t + zbv * (k + 1)
def zb4 (id : Nat) : Bool := decide (zbv <= id)
def zgg (id : Nat) : Nat := id % zbv
def zp1 (id : Nat) : Nat := id / zbv - 1
def yrm : Nat := 600100
def yrl : Nat := 600101
def za5 (a b : Nat) : Bool := decide (a = b)
def zbh (a b : Nat) : Bool := decide (a <= b)
def zb3 (a b : Nat) : Bool := decide (a < b)
def zbl {α : Type} (d : α) : List α -> Nat -> α
 | [], _ => d
 | x :: _, 0 => x
 | _ :: xs, n + 1 => zbl d xs n
def ynd {α : Type} (v : α) : List α -> Nat -> List α
 | [], _ => []
 | _ :: xs, 0 => v :: xs
 | x :: xs, n + 1 => x :: ynd v xs n
def zcs {α : Type} : List α -> Nat -> List α
 | _, 0 => []
 | [], _ + 1 => []
 | x :: xs, n + 1 => x :: zcs xs n
def zd4 {α : Type} : List α -> Nat -> List α
 | xs, 0 => xs
 | [], _ + 1 => []
 | _ :: xs, n + 1 => zd4 xs n
def zb9 {α : Type} : List α -> List α -> List α
 | [], ys => ys
 | x :: xs, ys => x :: zb9 xs ys
def zcn {α β : Type} (f : α -> β) : List α -> List β
 | [] => []
 | x :: xs => f x :: zcn f xs
def zdo {α : Type} : List α -> Nat
 | [] => 0
 | _ :: xs => zdo xs + 1
def zfz {α : Type} : List α -> Nat -> List α -> List α
 | xs, _, [] => xs
 | xs, n, y :: ys => zfz (ynd y xs n) (n + 1) ys
def zln {α : Type} (f : Nat -> α) : Nat -> Nat -> List α
 | _, 0 => []
 | i, n + 1 => f i :: zln f (i + 1) n
def zbp : List Nat -> Nat -> Bool
 | [], _ => false
 | x :: xs, n => match za5 x n with | true => true | false => zbp xs n
def za2 {α : Type} : List (Nat × α) -> Nat -> Option α
 | [], _ => none
 | (i, x) :: xs, n => match za5 i n with | true => some x | false => za2 xs n
inductive TK where
 | int (k : IntKind) | bool | str | ptr | func | map (key elem : Nat) | other | iface | flt (k : FloatKind)
 | slice (elem esz ebytes : Nat)
 | arr (n elem esz : Nat)
 | struct (fs : List (Nat × Nat))
structure TI where
 sz : Nat
 isAgg : Bool
 zero : List AV
 k : TK
 eq : Bool
 pt : Option Nat
 up : Bool
 lies : Bool
inductive TT where
 | leaf
 | node (l : TT) (t : Nat) (i : TI) (r : TT)
def TT.find : TT -> Nat -> Option TI
 | .leaf, _ => none
 | .node l t i r, n => match za5 n t with
   | true => some i
   | false => match zb3 n t with
     | true => l.find n
     | false => r.find n
def ofV : Value -> AV
 | .bool b => .bool b
 | .int k n => .int k n
 | .string s => .str s.data.toList
 | .float k b => .flt k b
 | .complex k a b => .cpx k a b
 | .pointer none => .nilp
 | .map none => .nilm
 | .nilFunc => .nilf
 | .nilIface => .nili
 | .slice none n c => match n, c with
   | 0, 0 => .nils
   | _, _ => .dead
 | .func (.func f) a b => match a.toList with
   | [] => match b.toList with
     | [] => .fn f [] []
     | _ => .dead
   | _ => .dead
 | _ => .dead
def ysb : Value -> AV
 | .agg cs => .agg (zcn ofV cs.toList)
 | v => ofV v
def AV.cells : AV -> List AV
 | .agg cs => cs
 | .arr n get => zln get 0 n
 | v => [v]
def yo5 : AV -> Bool
 | .dead => false
 | .agg _ => false
 | .arr _ _ => false
 | .tup _ => false
 | _ => true
def zhi : AV -> Bool
 | .agg _ => true
 | .arr _ _ => true
 | v => yo5 v
def zf8 : List AV -> Bool
 | [] => true
 | x :: xs => match zhi x with | true => zf8 xs | false => false
def yt2 (c : Bool) (g g' : Nat -> Nat -> AV) : Nat -> Nat -> AV := cond c g g'
def yhm (c : Bool) (x y : AV) : AV := cond c x y
def zci (L : za9) (c : Bool) : AV -> AV -> AV
 | .bool a, .bool b => .bool (L3 L (fun (c a b : Bool) => cond c a b) c a b)
 | .int k a, .int k' b => match decide (k = k') with
   | true => .int k (L3 L (fun (c : Bool) (a b : Int) => cond c a b) c a b)
   | false => .dead
 | .str a, .str b => .str (L3 L (fun (c : Bool) (a b : List UInt8) => cond c a b) c a b)
 | .cpx k a b, .cpx k' a' b' => match decide (k = k') with
   | true => .cpx k (L3 L (fun (c : Bool) (a b : Nat) => cond c a b) c a a') (L3 L (fun (c : Bool) (a b : Nat) => cond c a b) c b b')
   | false => .dead
 | .nilp, .nilp => .nilp
 | .nilm, .nilm => .nilm
 | .nilf, .nilf => .nilf
 | .nils, .nils => .nils
 | .nili, .nili => .nili
 | .ifb a, .ifb b => .ifb (L3 L (fun (c a b : Bool) => cond c a b) c a b)
 | .lst sz n get, .nils => .lst sz (L3 L (fun (c : Bool) (a b : Nat) => cond c a b) c n 0) get
 | .nils, .lst sz n get => .lst sz (L3 L (fun (c : Bool) (a b : Nat) => cond c a b) c 0 n) get
 | .lst sz n get, .lst sz' n' get' => match decide (sz = sz') with
   | true => .lst sz (L3 L (fun (c : Bool) (a b : Nat) => cond c a b) c n n') (L3 L yt2 c get get')
   | false => .dead
 | .asl p k sz off n, .asl p' k' sz' off' n' => match za5 p p', za5 sz sz' with
   | true, true => .asl p (L3 L (fun (c : Bool) (a b : Nat) => cond c a b) c k k') sz (L3 L (fun (c : Bool) (a b : Nat) => cond c a b) c off off') (L3 L (fun (c : Bool) (a b : Nat) => cond c a b) c n n')
   | _, _ => .dead
 | .asl p k sz off n, .lst sz' n' get => L3 L yhm c (.asl p k sz off n) (.lst sz' n' get)
 | .lst sz' n' get, .asl p k sz off n => L3 L yhm c (.lst sz' n' get) (.asl p k sz off n)
 | .aer p k sz i off, .aer p' k' sz' i' off' => match za5 p p', za5 sz sz', za5 off off' with
   | true, true, true => .aer p (L3 L (fun (c : Bool) (a b : Nat) => cond c a b) c k k') sz (L3 L (fun (c : Bool) (a b : Nat) => cond c a b) c i i') off
   | _, _, _ => .dead
 | .aep a p k sz i off, .aep a' p' k' sz' i' off' => match za5 p p', za5 sz sz', za5 i i', za5 off off' with
   | true, true, true, true => .aep (L3 L (fun (c a b : Bool) => cond c a b) c a a') p (L3 L (fun (c : Bool) (a b : Nat) => cond c a b) c k k') sz i off
   | _, _, _, _ => .dead
 | .dead, y => L3 L yhm c .dead y
 | x, .dead => L3 L yhm c x .dead
 | _, _ => .dead
def zf2 : AV -> List Nat
 | .ref id _ => [id]
 | .eref id _ _ _ => [id]
 | .sl id _ _ _ => [id]
 | .slc id _ _ _ _ => [id]
 | .mp id => [id]
 | .bidx id _ _ _ => [id]
 | _ => []
def zsg : List AV -> List Nat
 | [] => []
 | x :: xs => zb9 (zf2 x) (zsg xs)
def zdj : AV -> List Nat
 | .fn _ a b => zb9 (zsg a) (zsg b)
 | v => zf2 v
def zf1 : List AV -> List Nat
 | [] => []
 | x :: xs => zb9 (zdj x) (zf1 xs)
def zki : AV -> Bool
 | .fn _ _ _ => false
 | .agg _ => false
 | .tup _ => false
 | .ref _ _ => false
 | .eref _ _ _ _ => false
 | .sl _ _ _ _ => false
 | .slc _ _ _ _ _ => false
 | .mp _ => false
 | .bidx _ _ _ _ => false
 | .aer _ _ _ _ _ => false
 | .asl _ _ _ _ _ => false
 | .aep _ _ _ _ _ _ => false
 | _ => true
def zhm : List AV -> Bool
 | [] => true
 | x :: xs => match zki x with | true => zhm xs | false => false
def zl8 : AV -> Bool
 | .fn _ a b => match zhm a with | true => zhm b | false => false
 | v => zki v
def zi3 : List AV -> Bool
 | [] => true
 | x :: xs => match zl8 x with | true => zi3 xs | false => false
def zv0 : AV -> List Nat
 | .agg cs => zf1 cs
 | .tup cs => zf1 cs
 | .fn _ a b => zb9 (zf1 a) (zf1 b)
 | v => zdj v
def zdz : List AV -> List Nat
 | [] => []
 | x :: xs => zb9 (zv0 x) (zdz xs)
def zy6 (get : Nat -> Nat -> AV) (sz : Nat) : Nat -> AV :=
 match sz with
 | 1 => fun j => get j 0
 | sz => fun j => get (j / sz) (j % sz)
def zlo (L : za9) (ob : Nat -> Option Ob) : AV -> Option AV
 | .sl id sz off n => match ob id with
   | some (.row ty sz' _ get) => match za5 sz sz' with
     | true => some (.lst sz n (fun i j => get (L2 L Nat.add off i) j))
     | false => none
   | _ => none
 | .slc id sz off n _ => match ob id with
   | some (.row ty sz' _ get) => match za5 sz sz' with
     | true => some (.lst sz n (fun i j => get (L2 L Nat.add off i) j))
     | false => none
   | _ => none
 | .ref id off => match ob id with
   | some (.box ty cs) => match zi3 cs with
     | true => some (.iptr (zdo cs - off) (fun j => zbl .dead cs (off + j)))
     | false => none
   | some (.row ty sz n get) => match off with
     | 0 => some (.iptr (n * sz) (zy6 get sz))
     | _ => none
   | _ => none
 | .eref id sz i off => match ob id with
   | some (.row ty sz' _ get) => match za5 sz sz' with
     | true => some (.iptr (sz - off) (fun j => get i (off + j)))
     | false => none
   | _ => none
 | .fn f a b => match zl8 (.fn f a b) with
   | true => some (.fn f a b)
   | false => none
 | .agg _ => none
 | .tup _ => none
 | .mp id => match ob id with
   | some (.map kk n has val) => some (.mpi kk n has val)
   | _ => none
 | .bidx _ _ _ _ => none
 | .aer _ _ _ _ _ => none
 | .asl _ _ _ _ _ => none
 | .aep _ _ _ _ _ _ => none
 | v => some v
def immL (L : za9) (ob : Nat -> Option Ob) : List AV -> Option (List AV)
 | [] => some []
 | x :: xs => match zlo L ob x with
   | some y => match immL L ob xs with
     | some ys => some (y :: ys)
     | none => none
   | none => none
def ylk (L : za9) (ob : Nat -> Option Ob) : AV -> Option AV
 | .agg cs => match immL L ob cs with | some ds => some (.agg ds) | none => none
 | .fn f a b => match immL L ob a with
   | some a' => match immL L ob b with
     | some b' => some (.fn f a' b')
     | none => none
   | none => none
 | v => zlo L ob v
def immVs (L : za9) (ob : Nat -> Option Ob) : List AV -> Option (List AV)
 | [] => some []
 | x :: xs => match ylk L ob x with
   | some y => match immVs L ob xs with
     | some ys => some (y :: ys)
     | none => none
   | none => none
def ysw : AV -> Bool
 | .aep _ _ _ _ _ _ => true
 | .aer _ _ _ _ _ => true
 | .asl _ _ _ _ _ => true
 | _ => false
def ylq : List AV -> Bool
 | [] => false
 | x :: xs => match ysw x with | true => true | false => ylq xs
def ysv : List AV -> Bool
 | [.agg cs] => ylq cs
 | _ => false
def yoa (ob : Nat -> Option Ob) : AV -> AV
 | .asl p k sz off n => match ob p with
   | some (.tab _ sz' _ _ get) => match za5 sz sz' with
     | true => .lst sz n (fun i j => get k (off + i) j)
     | false => .dead
   | _ => .dead
 | v => match zki v with
   | true => v
   | false => .dead
def yqs (L : za9) (ob : Nat -> Option Ob) : AV -> Option AV
 | .sl id sz off n => match ob id with
   | some (.rowp q ty sz' _ get) => match za5 sz sz', ob q with
     | true, some (.tab _ _ _ _ _) => some (.lst sz n (fun i j => yoa ob (get (L2 L Nat.add off i) j)))
     | _, _ => none
   | _ => zlo L ob (.sl id sz off n)
 | .asl p k sz off n => match ob p with
   | some (.tab _ sz' _ _ get) => match za5 sz sz' with
     | true => some (.lst sz n (fun i j => get k (L2 L Nat.add off i) j))
     | false => none
   | _ => none
 | .aer _ _ _ _ _ => none
 | .aep _ _ _ _ _ _ => none
 | v => zlo L ob v
def yqr (L : za9) (ob : Nat -> Option Ob) : List AV -> Option (List AV)
 | [] => some []
 | x :: xs => match yqs L ob x with
   | some y => match yqr L ob xs with
     | some ys => some (y :: ys)
     | none => none
   | none => none
def yrr (L : za9) (ob : Nat -> Option Ob) : AV -> Option AV
 | .agg cs => match yqr L ob cs with | some ds => some (.agg ds) | none => none
 | v => yqs L ob v
def zvp (L : za9) (ob : Nat -> Option Ob) : List AV -> Option (List AV)
 | [] => some []
 | x :: xs => match yrr L ob x with
   | some y => match zvp L ob xs with
     | some ys => some (y :: ys)
     | none => none
   | none => none
def yf5 : AV -> Bool
 | .bool _ => true
 | .int _ _ => true
 | .str _ => true
 | .flt _ _ => true
 | .cpx _ _ _ => true
 | .nilp => true
 | .nilm => true
 | .nilf => true
 | .nils => true
 | .nili => true
 | _ => false
def zze : List AV -> Bool
 | [] => true
 | x :: xs => match yf5 x with | true => zze xs | false => false
def zzd : AV -> Bool
 | .agg cs => zze cs
 | .tup cs => zze cs
 | v => yf5 v
def putP (L : za9) (q : Nat) (ob : Nat -> Option Ob) : List AV -> Option (List AV)
 | [] => some []
 | x :: xs => match (match x with
     | .asl p k sz off n => match za5 p q, zb3 p zbv with | true, true => some (.asl p k sz off n) | _, _ => none
     | .aer p k sz i off => match za5 p q, zb3 p zbv with | true, true => some (.aer p k sz i off) | _, _ => none
     | .aep c p k sz i off => match za5 p q, zb3 p zbv with | true, true => some (.aep c p k sz i off) | _, _ => none
     | x => zlo L ob x) with
   | some y => match putP L q ob xs with
     | some ys => some (y :: ys)
     | none => none
   | none => none
def pOf1 : AV -> List Nat
 | .aep _ p _ _ _ _ => [p]
 | .aer p _ _ _ _ => [p]
 | .asl p _ _ _ _ => [p]
 | _ => []
def yqw : List AV -> List Nat
 | [] => []
 | x :: xs => zb9 (pOf1 x) (yqw xs)
def yov : List Nat -> Option Nat
 | [] => none
 | x :: _ => some x
def yny (ob : Nat -> Option Ob) (e t : Nat) : Bool := match ob t with
 | some (.tab ty _ _ _ _) => za5 ty e
 | _ => false
def ztd (ob : Nat -> Option Ob) (e : Nat) : Option Nat := match yny ob e yrm with
 | true => some yrm
 | false => match yny ob e yrl with
   | true => some yrl
   | false => none
def yf2 (c : Bool) (a b : Nat) : Nat := cond c a b
def zyp (L : za9) (ty sz n : Nat) (len : Nat -> Nat) (get : Nat -> Nat -> Nat -> AV) (m : Nat) (src : Nat -> Nat -> AV) : Ob :=
 .tab ty sz (L2 L Nat.add n 1) (fun k => L3 L yf2 (L2 L za5 k n) m (len k)) (fun k i j => zci L (L2 L za5 k n) (src i j) (get k i j))
def zco (k : IntKind) (a b : Int) : Int := k.wrap (a + b)
def zp3 (k : IntKind) (a b : Int) : Int := k.wrap (a - b)
def zjz (k : IntKind) (a b : Int) : Int := k.wrap (a * b)
def yj8 (k : IntKind) (a b : Int) : Int := k.wrap (a.tdiv b)
def zxs (k : IntKind) (a b : Int) : Int := k.wrap (BitVec.ofInt k.bits a &&& BitVec.ofInt k.bits b).toNat
def bor (k : IntKind) (a b : Int) : Int := k.wrap (BitVec.ofInt k.bits a ||| BitVec.ofInt k.bits b).toNat
def yhr (k : IntKind) (a b : Int) : Int := k.wrap (BitVec.ofInt k.bits a ^^^ BitVec.ofInt k.bits b).toNat
def yqa (k : IntKind) (a b : Int) : Int := k.wrap (BitVec.ofInt k.bits a &&& ~~~ BitVec.ofInt k.bits b).toNat
def yea (k : IntKind) (a b : Int) : Int := k.wrap (a * 2 ^ (min b.toNat k.bits))
def zra (k : IntKind) (a b : Int) : Int := a.fdiv (2 ^ (min b.toNat k.bits))
def ieq (a b : Int) : Bool := a == b
def ine (a b : Int) : Bool := a != b
def ilt (a b : Int) : Bool := decide (a < b)
def ile (a b : Int) : Bool := decide (a <= b)
def ynm (a b : Bool) : Bool := a == b
def seq (a b : List UInt8) : Bool := a == b
def slt (a b : List UInt8) : Bool := Op.bytesLess a b
def slen (a : List UInt8) : Int := a.length
def yec (a b : List UInt8) : List UInt8 := a ++ b
def zng (a : List UInt8) (i : Int) : Int := (a.getD i.toNat 0).toNat
def yn9 (a : List UInt8) (i j : Int) : List UInt8 := (a.take j.toNat).drop i.toNat
def yme (a b : List UInt8) : Bool := decide (a.length + b.length <= 9223372036854775807)
def inR (i n : Int) : Bool := decide (0 <= i) && decide (i < n)
def inS (i j n : Int) : Bool := decide (0 <= i) && decide (i <= j) && decide (j <= n)
def inC (a n : Int) : Bool := decide (0 <= a) && decide (a <= n)
def za7 (n : Nat) : Int := n
def imin (a b : Int) : Int := min a b
def yr0 (a b : Int) : Int := max a b
def zay (n : Nat) (f : Nat -> Int) : List UInt8 := (List.range n).map fun i => UInt8.ofNat (f i).toNat
def AV.toI : AV -> Int
 | .int _ n => n
 | _ => 0
def yl1 (eb : Nat) (n c : Int) : Bool := decide (0 <= n) && decide (n <= c) && decide ((eb : Int) * c <= 140737488355328) && decide (c <= 9223372036854775807)
def zbx (bytes n m : Nat) : Bool := decide ((n + m) * bytes <= 140737488355328) && decide (n + m <= 9223372036854775807)
def zuq (a b : Ky) : Bool := decide (a = b)
def zx8 : KK -> KK -> Bool
 | .i a, .i b => decide (a = b)
 | .s, .s => true
 | _, _ => false
def zx3 (has : Bool) (n : Nat) : Nat := cond has n (n + 1)
def zx4 (has : Bool) (n : Nat) : Nat := cond has (n - 1) n
def yqf (a b : Bool) : Bool := !a && b
def yf3 (L : za9) (c : Bool) : List AV -> List AV -> List AV
 | x :: xs, y :: ys => zci L c x y :: yf3 L c xs ys
 | _, _ => []
def yi4 (L : za9) (c : Bool) : AV -> AV -> AV
 | .agg xs, .agg ys => match za5 (zdo xs) (zdo ys) with
   | true => .agg (yf3 L c xs ys)
   | false => .dead
 | x, y => zci L c x y
def zmp : List IntKind -> List AV -> Option (List Int)
 | [], [] => some []
 | k :: ks, .int k' n :: xs => match decide (k = k') with
   | true => match zmp ks xs with | some l => some (n :: l) | none => none
   | false => none
 | _, _ => none
def keyOf : KK -> AV -> Option Ky
 | .i k, .int k' n => match decide (k = k') with | true => some (.i n) | false => none
 | .s, .str l => some (.s l)
 | .a ks, .agg cs => match zmp ks cs with | some l => some (.a l) | none => none
 | _, _ => none
def yc3 : List AV -> Option (List IntKind)
 | [] => some []
 | .int k _ :: xs => match yc3 xs with | some l => some (k :: l) | none => none
 | _ => none
def zdp (T : TT) (t : Nat) : KK := match T.find t with
 | some i => match i.k with
   | .int k => .i k
   | .str => .s
   | _ => match i.eq, yc3 i.zero with
     | true, some l => .a l
     | _, _ => .no
 | none => .no
def zfk (i : TI) : AV := match i.isAgg with
 | true => .agg i.zero
 | false => zbl .dead i.zero 0
def ygh (ob : Nat -> Option Ob) : AV -> Option (KK × Nat × (Ky -> Bool) × (Ky -> AV))
 | .mp id => match ob id with
   | some (.map kk n has val) => some (kk, n, has, val)
   | _ => none
 | .mpi kk n has val => some (kk, n, has, val)
 | _ => none
def zi1 (L : za9) (k : Ky) (has : Ky -> Bool) : Ky -> Bool := fun x => L2 L or (L2 L zuq x k) (L has x)
def zk0 (L : za9) (k : Ky) (v : AV) (val : Ky -> AV) : Ky -> AV := fun x => yi4 L (L2 L zuq x k) v (val x)
def zj0 (L : za9) (k : Ky) (has : Ky -> Bool) : Ky -> Bool := fun x => L2 L yqf (L2 L zuq x k) (L has x)
def ynf : List UInt8 -> List UInt8 -> Bool
 | [], [] => true
 | a :: x, b :: y => match za5 a.toNat b.toNat with
   | true => ynf x y
   | false => false
 | _, _ => false
def kyb : Ky -> Ky -> Bool
 | .i a, .i b => decide (a = b)
 | .s a, .s b => ynf a b
 | _, _ => false
def zbe : List (Ky × AV) -> Ky -> Option AV
 | [], _ => none
 | (k, x) :: r, q => match kyb k q with | true => some x | false => zbe r q
def zus : List (Ky × AV) -> Ky -> AV -> List (Ky × AV)
 | [], q, v => [(q, v)]
 | (k, x) :: r, q, v => match kyb k q with | true => (q, v) :: r | false => (k, x) :: zus r q v
def zsc : List (Ky × AV) -> Ky -> List (Ky × AV)
 | [], _ => []
 | (k, x) :: r, q => match kyb k q with | true => r | false => (k, x) :: zsc r q
def yeh (ob : Nat -> Option Ob) : List AV -> Option (Nat × KK × List (Ky × AV))
 | .mp id :: _ => match ob id with
   | some (.mapl kk es) => some (id, kk, es)
   | _ => none
 | _ => none
def zxa (T : TT) (t : Nat) : Bool := match T.find t with
 | some { k := .ptr, .. } => true
 | _ => false
def yop (T : TT) (t : Nat) : Bool := match T.find t with
 | some { k := .map kt et, .. } => zxa T et
 | _ => false
def yoq (T : TT) (t : Nat) : Bool := match T.find t with
 | some { k := .map kt et, .. } => zxa T kt
 | _ => false
def ync (ob : Nat -> Option Ob) : List AV -> Option (Nat × Bool)
 | .mp id :: _ => match ob id with
   | some (.mapq e) => some (id, e)
   | _ => none
 | _ => none
def zc8 : List (List UInt8 × Nat) -> List UInt8 -> Bool
 | [], _ => false
 | x :: r, k => cond (decide (x.1 = k)) true (zc8 r k)
def zds : List (List UInt8 × Nat) -> List UInt8 -> Nat
 | [], _ => 0
 | x :: r, k => cond (decide (x.1 = k)) x.2 (zds r k)
def zgu : List (List UInt8 × Nat) -> List UInt8 -> Nat -> List (List UInt8 × Nat)
 | [], k, v => [(k, v)]
 | x :: r, k, v => cond (decide (x.1 = k)) ((k, v) :: r) (cond (slt k x.1) ((k, v) :: x :: r) (x :: zgu r k v))
def ziy : List (List UInt8 × Nat) -> List UInt8 -> List (List UInt8 × Nat)
 | [], _ => []
 | x :: r, k => cond (decide (x.1 = k)) r (x :: ziy r k)
def mlen (l : List (List UInt8 × Nat)) : Nat := l.length
def zwy (l : List Nat) (k : Nat) : Bool := l.any (fun x => decide (x = k))
def yei (l : List Nat) (k : Nat) : List Nat := cond (zwy l k) l (k :: l)
def yeg (ob : Nat -> Option Ob) : List AV -> Option (Nat × Nat × Nat × List (List UInt8 × Nat))
 | .mp id :: _ => match ob id with
   | some (.mapp q sz l) => some (id, q, sz, l)
   | _ => none
 | _ => none
def ynb (ob : Nat -> Option Ob) : List AV -> Option (Nat × Nat × Nat × List Nat)
 | .mp id :: _ => match ob id with
   | some (.mapr q sz l) => some (id, q, sz, l)
   | _ => none
 | _ => none
def yor (T : TT) (t : Nat) : Option Nat := match T.find t with
 | some { k := .ptr, pt := some e, zero := [.nilp], isAgg := false, .. } => some e
 | _ => none
def zkq (T : TT) (t : Nat) : Option (Nat × Nat) := match T.find t with
 | some { k := .map kt et, .. } => some (kt, et)
 | _ => none
def ynx (T : TT) (ob : Nat -> Option Ob) (t : Nat) : Option Nat := match yor T t with
 | some e => ztd ob e
 | none => none
def szOf (ob : Nat -> Option Ob) (q : Nat) : Nat := match ob q with
 | some (.tab _ sz _ _ _) => sz
 | _ => 0
inductive zc0 where
 | ok (v : AV) (os : List (Nat × Ob)) (ice : List Nat)
 | okIf (b : Bool) (v : AV) (os : List (Nat × Ob)) (ice : List Nat)
 | okP (p : Prop) (v : AV) (os : List (Nat × Ob)) (ice : List Nat)
 | call (f : FuncId) (xs : List AV) (ice : List Nat)
 | alt (b : Bool) (v : AV) (os : List (Nat × Ob)) (q : Bool) (v' : AV) (os' : List (Nat × Ob))
 | callB (f : FuncId) (xs : List AV)
 | bad (why : Nat)
def yqc (L : za9) (op : BinOp) (k : IntKind) (a b : Int) : zc0 :=
 match op with
 | .add => .ok (.int k (L2 L (zco k) a b)) [] []
 | .sub => .ok (.int k (L2 L (zp3 k) a b)) [] []
 | .mul => .ok (.int k (L2 L (zjz k) a b)) [] []
 | .quo => .okIf (L2 L ine b 0) (.int k (L2 L (yj8 k) a b)) [] []
 | .rem => .okIf (L2 L ine b 0) (.int k (L2 L Int.tmod a b)) [] []
 | .and => .ok (.int k (L2 L (zxs k) a b)) [] []
 | .or => .ok (.int k (L2 L (bor k) a b)) [] []
 | .xor => .ok (.int k (L2 L (yhr k) a b)) [] []
 | .andNot => .ok (.int k (L2 L (yqa k) a b)) [] []
 | .eql => .ok (.bool (L2 L ieq a b)) [] []
 | .neq => .ok (.bool (L2 L ine a b)) [] []
 | .lss => .ok (.bool (L2 L ilt a b)) [] []
 | .leq => .ok (.bool (L2 L ile a b)) [] []
 | .gtr => .ok (.bool (L2 L ilt b a)) [] []
 | .geq => .ok (.bool (L2 L ile b a)) [] []
 | .shl => .bad 1
 | .shr => .bad 1
def ysx (k : FloatKind) (a b : Nat) : Option Ordering := k.format.order a b
def fEq (k : FloatKind) (a b : Nat) : Bool := ysx k a b == some .eq
def fLt (k : FloatKind) (a b : Nat) : Bool := ysx k a b == some .lt
def fGt (k : FloatKind) (a b : Nat) : Bool := ysx k a b == some .gt
def fLe (k : FloatKind) (a b : Nat) : Bool := fLt k a b || fEq k a b
def fGe (k : FloatKind) (a b : Nat) : Bool := fGt k a b || fEq k a b
def ym2 (op : BinOp) (k : FloatKind) (a b : Nat) : Option Nat := match op with
 | .add => k.format.add a b
 | .sub => k.format.sub a b
 | .mul => k.format.mul a b
 | .quo => k.format.div a b
 | _ => none
def fIs (op : BinOp) (k : FloatKind) (a b : Nat) : Bool := (ym2 op k a b).isSome
def yiw (op : BinOp) (k : FloatKind) (a b : Nat) : Nat := (ym2 op k a b).getD 0
def fNeg (k : FloatKind) (b : Nat) : Nat := Op.negFloat k b
def yit (L : za9) (op : BinOp) (k : FloatKind) (a b : Nat) : zc0 :=
 match op with
 | .eql => .ok (.bool (L2 L (fEq k) a b)) [] []
 | .neq => .ok (.bool (L not (L2 L (fEq k) a b))) [] []
 | .lss => .ok (.bool (L2 L (fLt k) a b)) [] []
 | .leq => .ok (.bool (L2 L (fLe k) a b)) [] []
 | .gtr => .ok (.bool (L2 L (fGt k) a b)) [] []
 | .geq => .ok (.bool (L2 L (fGe k) a b)) [] []
 | .add => .okIf (L2 L (fIs .add k) a b) (.flt k (L2 L (yiw .add k) a b)) [] []
 | .sub => .okIf (L2 L (fIs .sub k) a b) (.flt k (L2 L (yiw .sub k) a b)) [] []
 | .mul => .okIf (L2 L (fIs .mul k) a b) (.flt k (L2 L (yiw .mul k) a b)) [] []
 | _ => .bad 101
def cpxs (L : za9) (op : BinOp) (k : FloatKind) (a b a' b' : Nat) : zc0 :=
 match op with
 | .eql => .ok (.bool (L2 L and (L2 L (fEq k) a a') (L2 L (fEq k) b b'))) [] []
 | .neq => .ok (.bool (L not (L2 L and (L2 L (fEq k) a a') (L2 L (fEq k) b b')))) [] []
 | _ => .bad 102
def yeu (L : za9) (op : BinOp) (a b : List UInt8) : zc0 :=
 match op with
 | .add => .okIf (L2 L yme a b) (.str (L2 L yec a b)) [] []
 | .eql => .ok (.bool (L2 L seq a b)) [] []
 | .neq => .ok (.bool (L not (L2 L seq a b))) [] []
 | .lss => .ok (.bool (L2 L slt a b)) [] []
 | .leq => .ok (.bool (L2 L or (L2 L slt a b) (L2 L seq a b))) [] []
 | .gtr => .ok (.bool (L not (L2 L or (L2 L slt a b) (L2 L seq a b)))) [] []
 | .geq => .ok (.bool (L not (L2 L slt a b))) [] []
 | _ => .bad 2
def eqK (L : za9) (k : TK) (x y : AV) : Option Bool := match k with
 | .int _ => match x, y with
   | .int k a, .int k' b => match decide (k = k') with
     | true => some (L2 L ieq a b)
     | false => none
   | _, _ => none
 | .bool => match x, y with
   | .bool a, .bool b => some (L2 L ynm a b)
   | _, _ => none
 | .str => match x, y with
   | .str a, .str b => some (L2 L seq a b)
   | _, _ => none
 | _ => none
def ypx (T : TT) (L : za9) (g : Nat -> List AV -> List AV -> Option Bool) (xs ys : List AV) : List (Nat × Nat) -> Option Bool
 | [] => some true
 | (off, t) :: r => match T.find t with
   | some i => match zbh (off + i.sz) (zdo xs), zbh (off + i.sz) (zdo ys) with
     | true, true => match g t (zcs (zd4 xs off) i.sz) (zcs (zd4 ys off) i.sz) with
       | some a => match ypx T L g xs ys r with | some b => some (L2 L and a b) | none => none
       | none => none
     | _, _ => none
   | none => none
def ypw (L : za9) (g : List AV -> List AV -> Option Bool) (sz : Nat) (xs ys : List AV) : Nat -> Nat -> Option Bool
 | _, 0 => some true
 | k, n + 1 => match g (zcs (zd4 xs (k * sz)) sz) (zcs (zd4 ys (k * sz)) sz) with
   | some a => match ypw L g sz xs ys (k + 1) n with | some b => some (L2 L and a b) | none => none
   | none => none
def eq1 (L : za9) (k : TK) : List AV -> List AV -> Option Bool
 | [x], [y] => eqK L k x y
 | _, _ => none
def eqD (T : TT) (L : za9) : Nat -> Nat -> List AV -> List AV -> Option Bool
 | 0, _, _, _ => none
 | d + 1, t, xs, ys => match T.find t with
   | some i => match i.k with
     | .struct fs => match i.eq with
       | true => ypx T L (eqD T L d) xs ys fs
       | false => none
     | .arr n e esz => match i.eq, za5 (zdo xs) (n * esz), za5 (zdo ys) (n * esz), T.find e with
       | true, true, true, some ei => match za5 ei.sz esz with
         | true => ypw L (eqD T L d e) esz xs ys 0 n
         | false => none
       | _, _, _, _ => none
     | k => eq1 L k xs ys
   | none => none
def zr4 (T : TT) (L : za9) (t : Nat) (x y : AV) : Option Bool :=
 match T.find t with
 | some i => match i.k with
   | .bool => match x, y with
     | .bool a, .bool b => some (L2 L ynm a b)
     | _, _ => none
   | .ptr => match x, y with
     | .nilp, .nilp => some true
     | .nilp, .ref _ _ => some false
     | .ref _ _, .nilp => some false
     | .ref a o, .ref b p => match za5 a b, za5 o p, i.pt with
       | true, true, some e => match T.find e with | some _ => some true | none => none
       | _, _, _ => none
     | _, _ => none
   | .slice _ _ _ => match x, y with
     | .nils, .nils => some true
     | .emp, .nils => some false
     | .emz, .nils => some false
     | _, _ => none
   | .iface => none
   | .func => match x, y with
     | .nilf, .nilf => some true
     | .nilf, .fn _ _ _ => some false
     | .fn _ _ _, .nilf => some false
     | _, _ => none
   | _ => none
 | none => none
def ye4 (T : TT) (L : za9) (t : Nat) (x y : AV) : Option Bool :=
 match x, y with
 | .agg a, .agg b => match T.find t with
   | some i => match i.eq, za5 (zdo a) i.sz, za5 (zdo b) i.sz with
     | true, true, true => eqD T L 6 t a b
     | _, _, _ => none
   | none => none
 | x, y => zr4 T L t x y
def isSl (T : TT) (t : Nat) : Bool := match T.find t with
 | some i => match i.k with
   | .slice _ _ _ => true
   | _ => false
 | none => false
def bin (T : TT) (L : za9) (op : BinOp) (t : Nat) (x y : AV) : zc0 :=
 match x, y with
 | .int k a, .int k' b => match op with
   | .shl => .okIf (L2 L ile 0 b) (.int k (L2 L (yea k) a b)) [] []
   | .shr => .okIf (L2 L ile 0 b) (.int k (L2 L (zra k) a b)) [] []
   | op => match decide (k = k') with
     | true => yqc L op k a b
     | false => .bad 3
 | .str a, .str b => yeu L op a b
 | .flt k a, .flt k' b => match decide (k = k') with
   | true => yit L op k a b
   | false => .bad 103
 | .cpx k a b, .cpx k' a' b' => match decide (k = k') with
   | true => cpxs L op k a b a' b'
   | false => .bad 103
 | .lst sz n get, .nils => match isSl T t with
   | true => match op with
     | .eql => .okIf (L2 L zb3 0 n) (.bool false) [] []
     | .neq => .okIf (L2 L zb3 0 n) (.bool true) [] []
     | _ => .bad 5
   | false => .bad 5
 | x, y => match op with
   | .eql => match ye4 T L t x y with | some b => .ok (.bool b) [] [] | none => .bad 4
   | .neq => match ye4 T L t x y with | some b => .ok (.bool (L not b)) [] [] | none => .bad 4
   | _ => .bad 5
def un (L : za9) (op : UnOp) (x : AV) : zc0 :=
 match op, x with
 | .not, .bool b => .ok (.bool (L not b)) [] []
 | .neg, .int k n => .ok (.int k (L2 L (zp3 k) 0 n)) [] []
 | .neg, .flt k b => .ok (.flt k (L (fNeg k) b)) [] []
 | .xor, .int k n => match k.signed with
   | true => .ok (.int k (L2 L (yhr k) (-1) n)) [] []
   | false => .ok (.int k (L2 L (yhr k) k.max n)) [] []
 | _, _ => .bad 6
def zbu : Op -> List Operand
 | .move x | .assign x | .box _ x | .load _ x | .nilCheck x | .sliceToArrayPointer _ x | .unOp _ _ x | .convert _ _ x | .fieldAddr _ x _ | .field _ x _ | .extract x _ => [x]
 | .pick c a b => [c, a, b]
 | .build _ ps | .buildSlice _ _ ps => zcn Prod.snd ps.toList
 | .store _ a v | .binOp _ _ a v _ | .makeSlice _ a v | .indexAddr _ a v | .index _ a v => [a, v]
 | .makeFunc _ first captured => zb9 first.toList captured.toList
 | .slice _ x l h m => x :: zb9 l.toList (zb9 h.toList m.toList)
 | .makeMap _ _ => []
 | .lookup _ m k _ => [m, k]
 | .mapUpdate _ m k v => [m, k, v]
 | .call { callee := .value f, args := xs, .. } => f :: xs.toList
 | .call { callee := .builtin _, args := xs, .. } => xs.toList
 | _ => []
def zoo (place : Nat -> Option (Nat × Nat)) : List AV -> List (Nat × Operand) -> List AV -> Option (List AV)
 | cells, [], [] => some cells
 | cells, (i, _) :: ps, v :: vs => match place i with
   | some (off, size) => match za5 (zdo v.cells) size with
     | true => match zbh (off + size) (zdo cells) with
       | true => zoo place (zfz cells off v.cells) ps vs
       | false => none
     | false => none
   | none => none
 | _, _, _ => none
def TT.sizeOf (T : TT) (t : Nat) : Option Nat := match T.find t with | some i => some i.sz | none => none
def zjl (T : TT) : List (Nat × Nat) -> Option (List (Nat × Nat))
 | [] => some []
 | (off, t) :: r => match T.sizeOf t with
   | some s => match zjl T r with
     | some l => some ((off, s) :: l)
     | none => none
   | none => none
def nth {α : Type} : List α -> Nat -> Option α
 | [], _ => none
 | x :: _, 0 => some x
 | _ :: xs, n + 1 => nth xs n
def zd3 (z : List AV) : Nat -> List AV
 | 0 => []
 | n + 1 => zb9 z (zd3 z n)
def yn8 : List AV -> Option (IntKind × List Int)
 | [] => none
 | [.int k n] => some (k, [n])
 | .int k n :: xs => match yn8 xs with
   | some (k', l) => match decide (k = k') with
     | true => some (k, n :: l)
     | false => none
   | none => none
 | _ => none
def yn7 : List AV -> Option (List (List UInt8))
 | [] => none
 | [.str s] => some [s]
 | .str s :: xs => match yn7 xs with
   | some l => some (s :: l)
   | none => none
 | _ => none
def zaa (l : List Int) (i : Nat) : Int := l.getD i 0
def yb3 (l : List (List UInt8)) (i : Nat) : List UInt8 := l.getD i []
def ys8 : List AV -> Bool
 | [.str _, .str _, .str _, .int _ _] => true
 | _ => false
def zii (L : za9) (cs : List AV) (sz : Nat) : Nat -> Nat -> AV :=
 match sz with
 | 1 => match yn8 cs with
   | some (k, l) => fun i _ => .int k (L2 L zaa l i)
   | none => match yn7 cs with
     | some l => fun i _ => .str (L2 L yb3 l i)
     | none => fun i _ => zbl .dead cs i
 | 4 => match ys8 cs with
   | true => fun _ j => zbl .dead cs j
   | false => fun i j => zbl .dead cs (i * 4 + j)
 | sz => fun i j => zbl .dead cs (i * sz + j)
def two (vals : List AV) (l h m : Bool) : Option (Option Int × Option Int) :=
 match m, l, h with
 | true, _, _ => none
 | false, false, false => some (none, none)
 | false, true, false => match vals with | [.int _ a] => some (some a, none) | _ => none
 | false, false, true => match vals with | [.int _ b] => some (none, some b) | _ => none
 | false, true, true => match vals with | [.int _ a, .int _ b] => some (some a, some b) | _ => none
def ydc : List AV -> zc0
 | [x] => .ok x [] []
 | _ => .bad 1
def ydb : List AV -> zc0
 | [.bool c, x, y] => .ok (match c with | true => x | false => y) [] []
 | _ => .bad 2
def yt8 (T : TT) (L : za9) (op : BinOp) (t : Nat) : List AV -> zc0
 | [x, y] => bin T L op t x y
 | _ => .bad 3
def zog : Operand -> Bool
 | .const _ => true
 | _ => false
def ymv (T : TT) (L : za9) (op : BinOp) (t : Nat) (c : Bool) : List AV -> zc0
 | [.nili, .nili] => match c, T.find t with
   | true, some { k := .iface, .. } => match op with
     | .eql => .ok (.bool true) [] []
     | .neq => .ok (.bool false) [] []
     | _ => .bad 52
   | _, _ => .bad 52
 | [.ifb b, .nili] => match c, T.find t with
   | true, some { k := .iface, .. } => match op with
     | .eql => .ok (.bool b) [] []
     | .neq => .ok (.bool (L not b)) [] []
     | _ => .bad 52
   | _, _ => .bad 52
 | vals => yt8 T L op t vals
def cUn (L : za9) (op : UnOp) : List AV -> zc0
 | [x] => un L op x
 | _ => .bad 4
def ylh (T : TT) (e : Nat) : Bool := match T.find e with
 | some i => match i.k with
   | .int .u8 => true
   | _ => false
 | none => false
def yps (off n m : Nat) : Prop := off + n <= m
def yqz (l : List UInt8) : Nat := l.length
def zce (l : List UInt8) (i : Nat) : Int := (l.getD i 0).toNat
def zrh (T : TT) (t : Nat) : Bool := match T.find t with
 | some i => match i.k with
   | .slice e 1 _ => ylh T e
   | _ => false
 | none => false
def ypn (T : TT) (t : Nat) : Bool := match T.find t with
 | some i => match i.k with
   | .str => true
   | _ => false
 | none => false
def yhg (T : TT) (t : Nat) : Nat := match T.find t with
 | some i => match i.k with
   | .slice e _ _ => e
   | _ => 0
 | none => 0
def ydt (T : TT) (L : za9) (dst : Option Nat) (s t : Nat) (nw : Bool) : List AV -> zc0
 | [.str l] => match cond nw dst none with
   | some d => match ypn T s with
     | true => .ok (.sl d 1 0 (L yqz l)) [(d, .row (yhg T t) 1 (L yqz l) (fun i _ => .int .u8 (L2 L zce l i)))] []
     | false => .bad 43
   | none => .bad 43
 | _ => .bad 43
def yms (T : TT) (L : za9) (s t : Nat) (ob : Nat -> Option Ob) : List AV -> zc0
 | [x] => match T.find s with
   | some si => match T.find t with
     | some ti => match ti.k with
       | .int k => match x with
         | .int _ n => .ok (.int k (L k.wrap n)) [] []
         | _ => .bad 11
       | .flt k => match x with
         | .int _ n => .ok (.flt k (L k.nearest n)) [] []
         | _ => .bad 104
       | .str => match x with
         | .str l => .ok (.str l) [] []
         | y => match si.k with
           | .slice e _ _ => match ylh T e with
             | true => match y with
               | .lst 1 n get => .okP (∀ i, i < n -> ∃ x, get i 0 = .int .u8 x) (.str (L2 L zay n (fun i => (get i 0).toI))) [] []
               | .nils => .ok (.str []) [] []
               | .sl id 1 off n => match ob id with
                 | some (.row _ 1 m get) => .okP (L3 L yps off n m /\ ∀ i, i < n -> ∃ x, get (off + i) 0 = .int .u8 x) (.str (L2 L zay n (fun i => (get (off + i) 0).toI))) [] []
                 | _ => .bad 10
               | _ => .bad 10
             | false => .bad 10
           | _ => .bad 10
       | .ptr => match x, ti.pt with
         | .ref id 0, some e => match ob id, T.find e with
           | some (.box ty cs), some ei => match si.up, ei.lies, za5 ty e, za5 (zdo cs) ei.sz, zb3 0 ei.sz with
             | true, true, true, true, true => .ok (.ref id 0) [] []
             | _, _, _, _, _ => .bad 46
           | _, _ => .bad 46
         | _, _ => .bad 46
       | .other => match x, si.pt with
         | .ref id off, some e => match ob id, T.find e with
           | some (.box _ cs), some ei => match ti.up, zb3 0 ei.sz, zb3 off (zdo cs) with
             | true, true, true => .ok (.ref id off) [] []
             | _, _, _ => .bad 47
           | _, _ => .bad 47
         | _, _ => .bad 47
       | _ => .bad 11
     | none => .bad 11
   | none => .bad 11
 | _ => .bad 11
def ya4 : AV -> AV -> Bool
 | .bool a, .bool b => decide (a = b)
 | .int k n, .int k' m => match decide (k = k') with | true => decide (n = m) | false => false
 | .str l, .str m => decide (l = m)
 | .nilp, .nilp => true
 | .nilm, .nilm => true
 | .nilf, .nilf => true
 | .nils, .nils => true
 | .nili, .nili => true
 | _, _ => false
def znl : List AV -> List AV -> Bool
 | [], [] => true
 | x :: xs, y :: ys => match ya4 x y with | true => znl xs ys | false => false
 | _, _ => false
def ydv (T : TT) (dst : Option Nat) (t : Nat) (nw : Bool) : zc0 :=
 match cond nw dst none with
 | some d => match T.find t with
   | some i => match i.k with
     | .arr n e esz => match T.find e with
       | some ei => match znl i.zero (zd3 ei.zero n), za5 (zdo ei.zero) esz, zi3 ei.zero with
         | true, true, true => .ok (.ref d 0) [(d, .row t esz n (fun _ j => zbl .dead ei.zero j))] []
         | _, _, _ => .bad 12
       | none => .bad 12
     | _ => .ok (.ref d 0) [(d, .box t i.zero)] []
   | none => .bad 12
 | none => .bad 12
def zt2 (T : TT) (L : za9) (p t : Nat) (ob : Nat -> Option Ob) : zc0 :=
 match T.find t with
 | some i => match i.k with
   | .struct _ => match ob p with
     | some (.tab ty sz n len get) => match za5 ty t, za5 sz i.sz, za5 (zdo i.zero) i.sz, zi3 i.zero with
       | true, true, true, true => .ok (.aer p n sz 0 0) [(p, zyp L ty sz n len get 1 (fun _ j => zbl .dead i.zero j))] []
       | _, _, _, _ => .bad 82
     | _ => .bad 82
   | _ => .bad 82
 | none => .bad 82
def yt7 (T : TT) (L : za9) (dst : Option Nat) (t : Nat) (nw : Bool) : List AV -> zc0
 | [x] => match cond nw dst none with
   | some d => match T.find t with
     | some i => match za5 (zdo x.cells) i.sz, zhi x with
       | true, true => match i.k with
         | .arr n _ esz => match zi3 x.cells, za5 (n * esz) i.sz with
           | true, true => .ok (.ref d 0) [(d, .row t esz n (zii L x.cells esz))] []
           | _, _ => .bad 13
         | _ => .ok (.ref d 0) [(d, .box t x.cells)] []
       | _, _ => .bad 13
     | none => .bad 13
   | none => .bad 13
 | _ => .bad 13
def ymu (T : TT) (L : za9) (p t : Nat) (ob : Nat -> Option Ob) : List AV -> zc0
 | [x] => match T.find t with
   | some i => match i.k with
     | .struct _ => match ob p with
       | some (.tab ty sz n len get) => match za5 ty t, za5 sz i.sz, za5 (zdo x.cells) i.sz, zi3 x.cells && zhi x with
         | true, true, true, true => .ok (.aer p n sz 0 0) [(p, zyp L ty sz n len get 1 (fun _ j => zbl .dead x.cells j))] []
         | _, _, _, _ => .bad 82
       | _ => .bad 82
     | _ => .bad 82
   | none => .bad 82
 | _ => .bad 82
def ydu (T : TT) (t : Nat) (ps : List (Nat × Operand)) (vals : List AV) : zc0 :=
 match T.find t with
 | some i => match i.k with
   | .struct fs => match zjl T fs with
     | some pl => match cond (zf8 vals) (zoo (nth pl) i.zero ps vals) none with
       | some cs => .ok (.agg cs) [] []
       | none => .bad 14
     | none => .bad 14
   | .arr _ _ esz => match cond (zf8 vals) (zoo (fun i => some (i * esz, esz)) i.zero ps vals) none with
     | some cs => .ok (.agg cs) [] []
     | none => .bad 14
   | _ => .bad 14
 | none => .bad 14
def yjt (n d esz : Nat) : AV := match n with
 | 0 => .emz
 | n => .sl d esz 0 n
def zyj (ob : Nat -> Option Ob) : AV -> AV
 | .ref id off => match ob id with | some (.box _ _) => .dead | _ => .ref id off
 | v => v
def yen (ob : Nat -> Option Ob) : AV -> AV
 | .agg cs => .agg (zcn (zyj ob) cs)
 | v => v
def ymf (T : TT) (L : za9) (dst : Option Nat) (t n : Nat) (ps : List (Nat × Operand)) (vals : List AV) (ob : Nat -> Option Ob) (nw : Bool) : zc0 :=
 match cond nw dst none with
 | some d => match T.find t with
   | some i => match i.k with
     | .slice e esz _ => match T.find e with
       | some ei => match cond (zbh (n * esz) 16777216) (immVs L ob vals) none with
         | some vals' => match cond (zf8 vals') (zoo (fun i => some (i * esz, esz)) (zd3 ei.zero n) ps vals') none with
           | some cs => .ok (yjt n d esz) [(d, .row e esz n (zii L cs esz))] (zdz vals)
           | none => .bad 15
         | none => .bad 15
       | none => .bad 15
     | _ => .bad 15
   | none => .bad 15
 | none => .bad 15
def yd9 (T : TT) (L : za9) (dst : Option Nat) (t n : Nat) (ps : List (Nat × Operand)) (vals : List AV) (ob : Nat -> Option Ob) (nw : Bool) : zc0 :=
 match cond nw dst none with
 | some d => match T.find t with
   | some i => match i.k with
     | .slice e esz _ => match T.find e, n with
       | some ei, 1 => match cond (zbh esz 16777216 && zb3 0 esz) (yov (yqw (match vals with | [.agg cs] => cs | _ => []))) none with
         | some q => match vals with
           | [.agg cs0] => match putP L q ob cs0 with
             | some cs1 => match zoo (fun i => some (i * esz, esz)) (zd3 ei.zero 1) ps [.agg cs1] with
               | some cs => .ok (.sl d esz 0 1) [(d, .rowp q e esz 1 (fun _ j => zbl .dead cs j))] (zf1 cs0)
               | none => .bad 83
             | none => .bad 83
           | _ => .bad 83
         | none => .bad 83
       | _, _ => .bad 83
     | _ => .bad 83
   | none => .bad 83
 | none => .bad 83
def zxo (T : TT) (L : za9) (t : Nat) (ob : Nat -> Option Ob) : List AV -> zc0
 | [p] => match T.find t with
   | some i => match p with
     | .ref id off => match ob id with
       | some (.box ty cs) => match zbh (off + i.sz) (zdo cs) with
         | true => match i.isAgg with
           | true => .ok (.agg (zcs (zd4 cs off) i.sz)) [] []
           | false => .ok (zbl .dead cs off) [] []
         | false => .bad 16
       | some (.row ty sz n get) => match off, i.isAgg, za5 i.sz (n * sz) with
         | 0, true, true => match zb3 16 i.sz with
           | true => .ok (.arr i.sz (zy6 get sz)) [] []
           | false => .ok (.agg (zln (zy6 get sz) 0 i.sz)) [] []
         | _, _, _ => .bad 16
       | some (.spr ty cs) => match zbh (off + i.sz) (zdo cs) with
         | true => match i.isAgg with
           | true => .ok (.agg (zcs (zd4 cs off) i.sz)) [] []
           | false => .ok (zbl .dead cs off) [] []
         | false => .bad 16
       | _ => .bad 16
     | .eref id sz e off => match ob id with
       | some (.row ty sz' _ get) => match za5 sz sz' with
         | true => match zbh (off + i.sz) sz with
           | true => match i.isAgg with
             | true => .ok (.agg (zln (fun j => get e (off + j)) 0 i.sz)) [] []
             | false => .ok (get e (off + 0)) [] []
           | false => .bad 17
         | false => .bad 17
       | some (.rowp _ ty sz' _ get) => match za5 sz sz' with
         | true => match zbh (off + i.sz) sz with
           | true => match i.isAgg with
             | true => .ok (.agg (zln (fun j => get e (off + j)) 0 i.sz)) [] []
             | false => .ok (get e (off + 0)) [] []
           | false => .bad 17
         | false => .bad 17
       | _ => .bad 17
     | .aer p k sz e off => match ob p with
       | some (.tab ty sz' _ _ get) => match za5 sz sz' with
         | true => match zbh (off + i.sz) sz with
           | true => match i.isAgg with
             | true => .ok (.agg (zln (fun j => get k e (off + j)) 0 i.sz)) [] []
             | false => .ok (get k e (off + 0)) [] []
           | false => .bad 17
         | false => .bad 17
       | _ => .bad 17
     | .iptr n get => match zbh i.sz n with
       | true => match i.isAgg with
         | true => .ok (.agg (zln get 0 i.sz)) [] []
         | false => .ok (get 0) [] []
       | false => .bad 18
     | .bidx id off n q => match ob id with
       | some (.box _ cs) => match i.isAgg, zbh (off + n) (zdo cs) with
         | false, true => .ok (zii L (zcs (zd4 cs off) n) 1 q 0) [] []
         | _, _ => .bad 18
       | _ => .bad 18
     | _ => .bad 19
   | none => .bad 19
 | _ => .bad 19
def yi2 (L : za9) (i : Nat) (v : AV) : Nat -> List AV -> List AV
 | _, [] => []
 | k, x :: xs => zci L (L2 L za5 i k) v x :: yi2 L i v (k + 1) xs
def over (L : za9) (e off n : Nat) (cs : List AV) (get : Nat -> Nat -> AV) : Nat -> Nat -> AV :=
 fun e' j => match zbh off j with
   | true => match zb3 j (off + n) with
     | true => zci L (L2 L za5 e' e) (zbl .dead cs (j - off)) (get e' j)
     | false => get e' j
   | false => get e' j
def zry (L : za9) (k e off n : Nat) (cs : List AV) (get : Nat -> Nat -> Nat -> AV) : Nat -> Nat -> Nat -> AV :=
 fun k' e' j => match zbh off j with
   | true => match zb3 j (off + n) with
     | true => zci L (L2 L and (L2 L za5 k' k) (L2 L za5 e' e)) (zbl .dead cs (j - off)) (get k' e' j)
     | false => get k' e' j
   | false => get k' e' j
def yd8 (T : TT) (L : za9) (t : Nat) (ob : Nat -> Option Ob) (ice : Nat -> Bool) : List AV -> zc0
 | [p, v] => match T.find t with
   | some i => match za5 (zdo v.cells) i.sz with
     | true => match cond (zhi v) p .dead with
       | .ref id off => match ice id with
         | false => match ob id with
           | some (.box ty cs) => match zbh (off + i.sz) (zdo cs) with
             | true => .ok .dead [(id, .box ty (zfz cs off v.cells))] []
             | false => .bad 20
           | some (.row ty sz n _) => match off, za5 i.sz (n * sz), zi3 v.cells with
             | 0, true, true => match v, za5 sz 1 with
               | .arr _ get', true => .ok .dead [(id, .row ty sz n (fun i _ => get' i))] []
               | v, _ => .ok .dead [(id, .row ty sz n (zii L v.cells sz))] []
             | _, _, _ => .bad 20
           | some (.spr ty cs) => match zbh (off + i.sz) (zdo cs) with
             | true => .ok .dead [(id, .spr ty (zfz cs off v.cells))] []
             | false => .bad 20
           | _ => .bad 20
         | true => .bad 20
       | .eref id sz e off => match ice id with
         | false => match ob id with
           | some (.rowp q ty sz' n get) => match za5 sz sz' with
             | true => match zbh (off + i.sz) sz with
               | true => match putP L q ob v.cells with
                 | some cs' => match zbp (zf1 v.cells) id with
                   | false => .ok .dead [(id, .rowp q ty sz n (over L e off i.sz cs' get))] (zf1 v.cells)
                   | true => .bad 21
                 | none => .bad 21
               | false => .bad 21
             | false => .bad 21
           | some (.row ty sz' n get) => match ylq v.cells with
            | true => match za5 sz sz', yov (yqw v.cells) with
             | true, some q => match zbh (off + i.sz) sz with
               | true => match putP L q ob v.cells with
                 | some cs' => match zbp (zf1 v.cells) id with
                   | false => .ok .dead [(id, .rowp q ty sz n (over L e off i.sz cs' get))] (zf1 v.cells)
                   | true => .bad 21
                 | none => .bad 21
               | false => .bad 21
             | _, _ => .bad 21
            | false => match za5 sz sz' with
             | true => match zbh (off + i.sz) sz with
               | true => match immL L ob v.cells with
                 | some cs' => match zbp (zf1 v.cells) id with
                   | false => .ok .dead [(id, .row ty sz n (over L e off i.sz cs' get))] (zf1 v.cells)
                   | true => .bad 21
                 | none => .bad 21
               | false => .bad 21
             | false => .bad 21
           | _ => .bad 21
         | true => .bad 21
       | .aer p k sz e off => match ice p with
         | false => match ob p with
           | some (.tab ty sz' n len get) => match za5 sz sz' with
             | true => match zbh (off + i.sz) sz with
               | true => match zi3 v.cells with
                 | true => .ok .dead [(p, .tab ty sz n len (zry L k e off i.sz v.cells get))] []
                 | false => .bad 21
               | false => .bad 21
             | false => .bad 21
           | _ => .bad 21
         | true => .bad 21
       | .bidx id off n q => match ice id with
         | false => match ob id with
           | some (.box ty cs) => match v.cells, zbh (off + n) (zdo cs) with
             | [x], true => .ok .dead [(id, .box ty (zfz cs off (yi2 L q x 0 (zcs (zd4 cs off) n))))] []
             | _, _ => .bad 22
           | _ => .bad 22
         | true => .bad 22
       | _ => .bad 22
     | false => .bad 23
   | none => .bad 24
 | _ => .bad 24
def ydq (T : TT) (t f : Nat) : List AV -> zc0
 | [p] => match T.find t with
   | some { k := .struct fs, .. } => match zb3 f (zdo fs) with
     | true => match T.sizeOf (zbl (0, 0) fs f).2 with
       | some (_ + 1) => match p with
         | .ref id off => .ok (.ref id (off + (zbl (0, 0) fs f).1)) [] []
         | .eref id sz i off => .ok (.eref id sz i (off + (zbl (0, 0) fs f).1)) [] []
         | .aer id k sz i off => .ok (.aer id k sz i (off + (zbl (0, 0) fs f).1)) [] []
         | .aep c id k sz i off => .okIf c (.aer id k sz i (off + (zbl (0, 0) fs f).1)) [] []
         | .iptr n get => .ok (.iptr (n - (zbl (0, 0) fs f).1) (fun j => get ((zbl (0, 0) fs f).1 + j))) [] []
         | _ => .bad 25
       | _ => .bad 25
     | false => .bad 25
   | _ => .bad 25
 | _ => .bad 25
def ydp (T : TT) (t f : Nat) : List AV -> zc0
 | [.agg cs] => match T.find t with
   | some { k := .struct fs, .. } => match zb3 f (zdo fs) with
     | true => match T.find (zbl (0, 0) fs f).2 with
       | some i => match zbh ((zbl (0, 0) fs f).1 + i.sz) (zdo cs) with
         | true => match i.isAgg with
           | true => .ok (.agg (zcs (zd4 cs (zbl (0, 0) fs f).1) i.sz)) [] []
           | false => match za5 i.sz 1 with
             | true => .ok (zbl .dead cs (zbl (0, 0) fs f).1) [] []
             | false => .bad 26
         | false => .bad 26
       | none => .bad 26
     | false => .bad 26
   | _ => .bad 26
 | _ => .bad 26
def ydo (T : TT) (L : za9) (t : Nat) (ob : Nat -> Option Ob) : List AV -> zc0
 | [p, .int _ i] => match T.find t with
   | some ti => match ti.k with
     | .slice _ esz _ => match p with
       | .lst sz n get => match za5 esz sz with
         | true => .okIf (L2 L inR i (L za7 n)) (.iptr sz (fun j => get (L Int.toNat i) j)) [] []
         | false => .bad 27
       | .sl id sz off n => match za5 esz sz with
         | true => match ob id with
           | some (.spr _ cs) => match off, zb3 (zdo cs / sz - 1) n, zbh ((zdo cs / sz - 1) * sz) (zdo cs) with
             | 0, true, true => .okIf (L2 L ieq i (za7 (zdo cs / sz - 1))) (.ref id ((zdo cs / sz - 1) * sz)) [] []
             | _, _, _ => .bad 27
           | _ => .okIf (L2 L inR i (L za7 n)) (.eref id sz (L2 L Nat.add off (L Int.toNat i)) 0) [] []
         | false => .bad 27
       | .asl p k sz off n => match za5 esz sz with
         | true => .okIf (L2 L inR i (L za7 n)) (.aer p k sz (L2 L Nat.add off (L Int.toNat i)) 0) [] []
         | false => .bad 27
       | _ => .bad 27
     | .arr n _ esz => match zb3 1 n with
       | true => match p with
         | .ref id off => match ob id with
           | some (.row _ sz m _) => match off, za5 esz sz, za5 m n with
             | 0, true, true => .okIf (L2 L inR i (L za7 n)) (.eref id sz (L Int.toNat i) 0) [] []
             | _, _, _ => .bad 28
           | some (.box _ _) => match za5 esz 1 with
             | true => .okIf (L2 L inR i (L za7 n)) (.bidx id off n (L Int.toNat i)) [] []
             | false => .bad 28
           | _ => .bad 28
         | .iptr m get => match za5 m (n * esz) with
           | true => match esz with
             | 1 => .okIf (L2 L inR i (L za7 n)) (.iptr 1 (fun _ => get (L Int.toNat i))) [] []
             | esz => .okIf (L2 L inR i (L za7 n)) (.iptr esz (fun j => get (L2 L Nat.add (L2 L Nat.mul (L Int.toNat i) esz) j))) [] []
           | false => .bad 28
         | _ => .bad 28
       | false => .bad 28
     | _ => .bad 29
   | none => .bad 29
 | _ => .bad 29
def ydn (T : TT) (L : za9) (t : Nat) : List AV -> zc0
 | [.str l, .int _ i] => match T.find t with
   | some { k := .str, .. } => .okIf (L2 L inR i (L slen l)) (.int .u8 (L2 L zng l i)) [] []
   | _ => .bad 30
 | [.agg cs, .int _ i] => match T.find t with
   | some { k := .arr n e 1, .. } => match za5 (zdo cs) n, T.find e with
     | true, some ei => match ei.isAgg, za5 ei.sz 1 with
       | false, true => .okIf (L2 L inR i (L za7 n)) (zii L cs 1 (L Int.toNat i) 0) [] []
       | _, _ => .bad 30
     | _, _ => .bad 30
   | _ => .bad 30
 | _ => .bad 30
def zre (L : za9) (n : Nat) : Option Int -> Option Int -> Nat
 | none, none => n
 | none, some b => L Int.toNat b
 | some a, none => L2 L Nat.sub n (L Int.toNat a)
 | some a, some b => L2 L Nat.sub (L Int.toNat b) (L Int.toNat a)
def ym6 (L : za9) (off : Nat) : Option Int -> Nat
 | none => off
 | some a => L2 L Nat.add off (L Int.toNat a)
def yej (L : za9) (get : Nat -> Nat -> AV) : Option Int -> Nat -> Nat -> AV
 | none => get
 | some a => fun i j => get (L2 L Nat.add (L Int.toNat a) i) j
def ynk (L : za9) (s : List UInt8) : Option Int -> Option Int -> List UInt8
 | none, none => s
 | none, some b => L2 L (fun (s : List UInt8) (b : Int) => s.take b.toNat) s b
 | some a, none => L2 L (fun (s : List UInt8) (a : Int) => s.drop a.toNat) s a
 | some a, some b => L3 L yn9 s a b
def zly (L : za9) (n : Int) : Option Int -> Option Int -> Bool
 | none, none => true
 | none, some b => L2 L inC b n
 | some a, none => L2 L inC a n
 | some a, some b => L3 L inS a b n
def yda (T : TT) (L : za9) (t : Nat) (ob : Nat -> Option Ob) (l h m : Bool) : List AV -> zc0
 | x :: vs => match T.find t with
   | some ti => match two vs l h m with
     | some (a, b) => match ti.k, x with
       | .arr n _ esz, .ref id off => match ob id with
         | some (.row _ sz n' _) => match off, za5 esz sz, za5 n' n with
           | 0, true, true => .okIf (zly L (L za7 n) a b) (.sl id esz (ym6 L 0 a) (zre L n a b)) [] []
           | _, _, _ => .bad 32
         | some (.box _ cs) => match za5 esz 1, zbh (off + n) (zdo cs), zi3 (zcs (zd4 cs off) n) with
           | true, true, true => .okIf (zly L (L za7 n) a b) (.lst 1 (zre L n a b) (yej L (zii L (zcs (zd4 cs off) n) 1) a)) [] [id]
           | _, _, _ => .bad 32
         | _ => .bad 32
       | .str, .str s => .okIf (zly L (L slen s) a b) (.str (ynk L s a b)) [] []
       | .slice _ esz _, .lst sz n get => match za5 esz sz with
         | true => .okIf (zly L (L za7 n) a b) (.lst sz (zre L n a b) (yej L get a)) [] []
         | false => .bad 32
       | .slice _ esz _, .sl id sz off n => match za5 esz sz with
         | true => .okIf (zly L (L za7 n) a b) (.sl id sz (ym6 L off a) (zre L n a b)) [] []
         | false => .bad 32
       | .slice _ esz _, .asl p k sz off n => match za5 esz sz with
         | true => .okIf (zly L (L za7 n) a b) (.asl p k sz (ym6 L off a) (zre L n a b)) [] []
         | false => .bad 32
       | _, _ => .bad 33
     | none => .bad 33
   | none => .bad 33
 | _ => .bad 33
def yt9 (T : TT) (L : za9) (t : Nat) (ob : Nat -> Option Ob) : List AV -> zc0
 | [x] => match T.find t with
   | some { k := .arr m _ 1, .. } => match zlo L ob x with
     | some (.lst 1 n get) => match zb3 0 m with
       | true => .okIf (L2 L zbh m n) (.iptr m (fun j => get j 0)) [] (zdj x)
       | false => .bad 51
     | _ => .bad 51
   | _ => .bad 51
 | _ => .bad 51
def zos (i : Nat) : List AV -> zc0
 | [.tup vs] => match zb3 i (zdo vs) with
   | true => .ok (zbl .dead vs i) [] []
   | false => .bad 34
 | _ => .bad 34
def ymq (fn : Fn) (n : Nat) (vals : List AV) : zc0 :=
 match fn with
 | .func f => .ok (.fn f (zcs vals n) (zd4 vals n)) [] []
 | _ => .bad 35
def yt3 : List AV -> zc0
 | [.ref id off] => .ok (.ref id off) [] []
 | [.eref id sz i off] => .ok (.eref id sz i off) [] []
 | [.aer p k sz i off] => .ok (.aer p k sz i off) [] []
 | [.aep c p k sz i off] => .okIf c (.aer p k sz i off) [] []
 | [.iptr n get] => .ok (.iptr n get) [] []
 | [.bidx id off n i] => .ok (.bidx id off n i) [] []
 | _ => .bad 36
def zt1 (T : TT) (L : za9) (dst : Option Nat) (t : Nat) (nw : Bool) : List AV -> zc0
 | [.int _ n, .int _ c] => match cond nw dst none with
   | some d => match T.find t with
     | some { k := .slice e esz eb, .. } => match T.find e with
       | some ei => match zi3 ei.zero with
         | true => .okIf (L3 L yl1 eb n c) (.sl d esz 0 (L Int.toNat n)) [(d, .row e esz (L Int.toNat n) (fun _ j => zbl .dead ei.zero j))] []
         | false => .bad 37
       | none => .bad 37
     | _ => .bad 37
   | none => .bad 37
 | _ => .bad 37
def ymt (L : za9) (ob : Nat -> Option Ob) : List AV -> zc0
 | .fn f first caps :: xs => match immVs L ob (zb9 first (zb9 xs caps)) with
   | some ys => .call f ys (zdz (zb9 first (zb9 xs caps)))
   | none => match zvp L ob (zb9 first (zb9 xs caps)) with
     | some ys => .callB f ys
     | none => .bad 38
 | _ => .bad 38
def yml (T : TT) (dst : Option Nat) (t : Nat) (nw : Bool) : zc0 :=
 match cond nw dst none with
 | some d => match T.find t with
   | some { k := .map kt _, .. } => .ok (.mp d) [(d, .map (zdp T kt) 0 (fun _ => false) (fun _ => .dead))] []
   | _ => .bad 60
 | none => .bad 60
def ymm (T : TT) (L : za9) (t : Nat) (ok : Bool) (ob : Nat -> Option Ob) : List AV -> zc0
 | [m, k] => match T.find t with
   | some { k := .map kt et, .. } => match T.find et with
     | some ei => match ygh ob m with
       | some (kk, n, has, val) => match zx8 kk (zdp T kt), keyOf kk k with
         | true, some key => .ok (cond ok (.tup [yi4 L (L has key) (val key) (zfk ei), .bool (L has key)]) (yi4 L (L has key) (val key) (zfk ei))) [] []
         | _, _ => .bad 61
       | none => .bad 61
     | none => .bad 61
   | _ => .bad 61
 | _ => .bad 61
def yt4 (T : TT) (L : za9) (t : Nat) (ob : Nat -> Option Ob) (ice : Nat -> Bool) : List AV -> zc0
 | [.mp id, k, v] => match T.find t with
   | some { k := .map kt _, .. } => match ice id, ob id with
     | false, some (.map kk n has val) => match zx8 kk (zdp T kt), keyOf kk k with
       | true, some key => match ylk L ob v, zbp (zv0 v) id with
         | some v', false => .ok .dead [(id, .map kk (L2 L zx3 (L has key) n) (zi1 L key has) (zk0 L key v' val))] (zv0 v)
         | _, _ => .bad 62
       | _, _ => .bad 62
     | _, _ => .bad 62
   | _ => .bad 62
 | _ => .bad 62
def yde (T : TT) (L : za9) (t : Nat) (ob : Nat -> Option Ob) (ice : Nat -> Bool) : List AV -> zc0
 | [.mp id, k] => match T.find t with
   | some { k := .map kt _, .. } => match ice id, ob id with
     | false, some (.map kk n has val) => match zx8 kk (zdp T kt), keyOf kk k with
       | true, some key => .ok (.tup []) [(id, .map kk (L2 L zx4 (L has key) n) (zj0 L key has) val)] []
       | _, _ => .bad 63
     | _, _ => .bad 63
   | _ => .bad 63
 | _ => .bad 63
def ydi (T : TT) (dst : Option Nat) (t : Nat) (nw : Bool) : zc0 :=
 match cond nw dst none with
 | some d => match T.find t with
   | some { k := .map kt _, .. } => .ok (.mp d) [(d, .mapl (zdp T kt) [])] []
   | _ => .bad 64
 | none => .bad 64
def ydm (T : TT) (t : Nat) (ok : Bool) (kk : KK) (es : List (Ky × AV)) : List AV -> zc0
 | [_, k] => match T.find t with
   | some { k := .map kt et, .. } => match T.find et with
     | some ei => match zx8 kk (zdp T kt), keyOf kk k with
       | true, some key => match zbe es key with
         | some v => .ok (cond ok (.tup [v, .bool true]) v) [] []
         | none => .ok (cond ok (.tup [zfk ei, .bool false]) (zfk ei)) [] []
       | _, _ => .bad 65
     | none => .bad 65
   | _ => .bad 65
 | _ => .bad 65
def ymj (T : TT) (t : Nat) (ice : Nat -> Bool) (id : Nat) (kk : KK) (es : List (Ky × AV)) : List AV -> zc0
 | [_, k, v] => match T.find t with
   | some { k := .map kt _, .. } => match ice id, zx8 kk (zdp T kt), keyOf kk k with
     | false, true, some key => .ok .dead [(id, .mapl kk (zus es key v))] []
     | _, _, _ => .bad 66
   | _ => .bad 66
 | _ => .bad 66
def ydg (T : TT) (dst : Option Nat) (t : Nat) (nw : Bool) : zc0 :=
 match cond nw dst none with
 | some d => match T.find t with
   | some { k := .map _ _, .. } => .ok (.mp d) [(d, .mapq true)] []
   | _ => .bad 78
 | none => .bad 78
def ydk (T : TT) (t : Nat) (ok : Bool) (e : Bool) : List AV -> zc0
 | [_, _] => match T.find t with
   | some { k := .map kt et, .. } => match T.find et, zxa T kt with
     | some ei, true => .okIf e (cond ok (.tup [zfk ei, .bool false]) (zfk ei)) [] []
     | _, _ => .bad 79
   | _ => .bad 79
 | _ => .bad 79
def ymh (T : TT) (t : Nat) (ice : Nat -> Bool) (id : Nat) (e : Bool) : List AV -> zc0
 | [_, _, _] => match T.find t with
   | some { k := .map kt _, .. } => match ice id, zxa T kt with
     | false, true => .okIf e .dead [(id, .mapq false)] []
     | _, _ => .bad 80
   | _ => .bad 80
 | _ => .bad 80
def ydd (T : TT) (t : Nat) (ice : Nat -> Bool) (id : Nat) (kk : KK) (es : List (Ky × AV)) : List AV -> zc0
 | [_, k] => match T.find t with
   | some { k := .map kt _, .. } => match ice id, zx8 kk (zdp T kt), keyOf kk k with
     | false, true, some key => .ok (.tup []) [(id, .mapl kk (zsc es key))] []
     | _, _, _ => .bad 67
   | _ => .bad 67
 | _ => .bad 67
def ymo (T : TT) (t : Nat) (es : List (Ky × AV)) : List AV -> zc0
 | [_] => match T.find t with
   | some { k := .map _ _, .. } => .ok (.int .i64 (za7 (zdo es))) [] []
   | _ => .bad 68
 | _ => .bad 68
def ydh (T : TT) (dst : Option Nat) (t q sz : Nat) (nw : Bool) : zc0 :=
 match cond nw dst none with
 | some d => match zkq T t with
   | some (kt, _) => match zx8 .s (zdp T kt), zb3 q zbv with
     | true, true => .ok (.mp d) [(d, .mapp q sz [])] []
     | _, _ => .bad 84
   | _ => .bad 84
 | none => .bad 84
def ydf (T : TT) (dst : Option Nat) (t q sz : Nat) (nw : Bool) : zc0 :=
 match cond nw dst none with
 | some d => match zkq T t, zb3 q zbv with
   | some _, true => .ok (.mp d) [(d, .mapr q sz [])] []
   | _, _ => .bad 85
 | none => .bad 85
def ydl (T : TT) (L : za9) (t : Nat) (ok : Bool) (q sz : Nat) (l : List (List UInt8 × Nat)) : List AV -> zc0
 | [_, .str k] => match zkq T t with
   | some (kt, et) => match zx8 .s (zdp T kt), yor T et with
     | true, some _ => .ok (cond ok (.tup [.aep (L2 L zc8 l k) q (L2 L zds l k) sz 0 0, .bool (L2 L zc8 l k)]) (.aep (L2 L zc8 l k) q (L2 L zds l k) sz 0 0)) [] []
     | _, _ => .bad 86
   | _ => .bad 86
 | _ => .bad 86
def ymi (T : TT) (L : za9) (t : Nat) (ice : Nat -> Bool) (id q sz : Nat) (l : List (List UInt8 × Nat)) : List AV -> zc0
 | [_, .str k, v] => match zkq T t with
   | some (kt, _) => match ice id, zx8 .s (zdp T kt) with
     | false, true => match v with
       | .aer p j sz' 0 0 => match za5 p q, za5 sz' sz with
         | true, true => .ok .dead [(id, .mapp q sz (L3 L zgu l k j))] []
         | _, _ => .bad 87
       | .aep c p j sz' 0 0 => match za5 p q, za5 sz' sz with
         | true, true => .okIf c .dead [(id, .mapp q sz (L3 L zgu l k j))] []
         | _, _ => .bad 87
       | _ => .bad 87
     | _, _ => .bad 87
   | _ => .bad 87
 | _ => .bad 87
def zqx (T : TT) (L : za9) (t : Nat) (ice : Nat -> Bool) (id q sz : Nat) (l : List (List UInt8 × Nat)) : List AV -> zc0
 | [_, .str k] => match zkq T t with
   | some (kt, _) => match ice id, zx8 .s (zdp T kt) with
     | false, true => .ok (.tup []) [(id, .mapp q sz (L2 L ziy l k))] []
     | _, _ => .bad 88
   | _ => .bad 88
 | _ => .bad 88
def ymn (T : TT) (L : za9) (t : Nat) (l : List (List UInt8 × Nat)) : List AV -> zc0
 | [_] => match zkq T t with
   | some _ => .ok (.int .i64 (L za7 (L mlen l))) [] []
   | _ => .bad 89
 | _ => .bad 89
def zoh (T : TT) (t : Nat) : Bool := match T.find t with
 | some { k := .bool, zero := [.bool false], isAgg := false, .. } => true
 | _ => false
def ydz (T : TT) (t : Nat) : Bool := match yor T t with
 | some e => match T.find e with | some i => zb3 0 i.sz | none => false
 | none => false
def zte (ob : Nat -> Option Ob) (q : Nat) : Bool := match ob q with
 | some (.tab _ sz _ _ _) => zb3 1 sz
 | _ => false
def ydj (T : TT) (L : za9) (t q sz : Nat) (l : List Nat) (ob : Nat -> Option Ob) : List AV -> zc0
 | [_, v] => match zkq T t with
   | some (kt, et) => match zoh T et, ydz T kt && zte ob q with
     | true, true => match v with
       | .aer p j sz' 0 0 => match za5 p q, za5 sz' sz with
         | true, true => .ok (.bool (L2 L zwy l j)) [] []
         | _, _ => .bad 90
       | .aep c p j sz' 0 0 => match za5 p q, za5 sz' sz with
         | true, true => .okIf c (.bool (L2 L zwy l j)) [] []
         | _, _ => .bad 90
       | _ => .bad 90
     | _, _ => .bad 90
   | _ => .bad 90
 | _ => .bad 90
def ymg (T : TT) (L : za9) (t : Nat) (ice : Nat -> Bool) (id q sz : Nat) (l : List Nat) (ob : Nat -> Option Ob) : List AV -> zc0
 | [_, v, .bool true] => match zkq T t with
   | some (kt, et) => match zoh T et, ydz T kt && zte ob q, ice id with
     | true, true, false => match v with
       | .aer p j sz' 0 0 => match za5 p q, za5 sz' sz with
         | true, true => .ok .dead [(id, .mapr q sz (L2 L yei l j))] []
         | _, _ => .bad 91
       | .aep c p j sz' 0 0 => match za5 p q, za5 sz' sz with
         | true, true => .okIf c .dead [(id, .mapr q sz (L2 L yei l j))] []
         | _, _ => .bad 91
       | _ => .bad 91
     | _, _, _ => .bad 91
   | _ => .bad 91
 | _ => .bad 91
def yt5 (T : TT) (L : za9) (t : Nat) (ob : Nat -> Option Ob) : List AV -> zc0
 | [x] => match T.find t with
   | some i => match i.k with
     | .str => match x with
       | .str l => .ok (.int .i64 (L slen l)) [] []
       | _ => .bad 39
     | .slice _ _ _ => match x with
       | .lst _ n _ => .ok (.int .i64 (L za7 n)) [] []
       | .sl _ _ _ n => .ok (.int .i64 (L za7 n)) [] []
       | .asl _ _ _ _ n => .ok (.int .i64 (L za7 n)) [] []
       | .nils => .ok (.int .i64 0) [] []
       | .emp => .ok (.int .i64 0) [] []
       | .emz => .ok (.int .i64 0) [] []
       | _ => .bad 39
     | .arr n _ _ => .ok (.int .i64 (za7 n)) [] []
     | .map _ _ => match x with
       | .nilm => .ok (.int .i64 0) [] []
       | x => match ygh ob x with
         | some (_, n, _, _) => .ok (.int .i64 (L za7 n)) [] []
         | none => .bad 39
     | _ => .bad 39
   | none => .bad 39
 | _ => .bad 39
def zqw (L : za9) : List AV -> zc0
 | [.sl id 1 0 n] => .okIf (L2 L zb3 0 n) (.eref id 1 0 0) [] []
 | _ => .bad 48
def yq7 (get : Nat -> Nat -> AV) (n : Nat) : Prop := ∀ i, i < n -> ∃ x, get i 0 = .int .u8 x /\ 0 <= x /\ x < 256
def zsz (T : TT) (L : za9) (pt : Nat) (ob : Nat -> Option Ob) (ice : Nat -> Bool) : List AV -> zc0
 | [.eref id 1 0 0, .int .i64 n] => match ice id, ob id, T.find pt with
   | false, some (.row ty 1 m get), some pi => match pi.pt with
     | some e => match za5 ty e, ylh T e with
       | true, true => .okP (L3 L (fun (n : Int) (m : Nat) (g : Nat -> Nat -> AV) => 0 < n /\ n <= (m : Int) /\ n <= 9223372036854775807 /\ yq7 g n.toNat) n m get) (.str (L2 L zay (L Int.toNat n) (fun i => (get i 0).toI))) [(id, .gone)] []
       | _, _ => .bad 49
     | none => .bad 49
   | _, _, _ => .bad 49
 | _ => .bad 49
def ynj (k : FloatKind) (a b : Nat) : Bool := (k.format.order a b).isSome
def yr2 (k : FloatKind) (a b : Nat) : Nat := match k.format.order a b with
 | some .lt => a
 | some .gt => b
 | some .eq => if (k.decode a).neg then a else b
 | none => 0
def yr3 (k : FloatKind) (a b : Nat) : Nat := match k.format.order a b with
 | some .lt => b
 | some .gt => a
 | some .eq => if (k.decode a).neg then b else a
 | none => 0
def yq6 (L : za9) : List AV -> zc0
 | [.int k a, .int k' b] => match decide (k = k') with
   | true => .ok (.int k (L2 L imin a b)) [] []
   | false => .bad 40
 | [.flt k a, .flt k' b] => match decide (k = k') with
   | true => .okIf (L2 L (ynj k) a b) (.flt k (L2 L (yr2 k) a b)) [] []
   | false => .bad 107
 | _ => .bad 40
def ymr : List AV -> zc0
 | [.flt k a, .flt k' b] => match decide (k = k') with
   | true => .ok (.cpx k a b) [] []
   | false => .bad 105
 | _ => .bad 105
def cRe : List AV -> zc0
 | [.cpx k a _] => .ok (.flt k a) [] []
 | _ => .bad 106
def cIm : List AV -> zc0
 | [.cpx k _ b] => .ok (.flt k b) [] []
 | _ => .bad 106
def ymk (L : za9) : List AV -> zc0
 | [.int k a, .int k' b] => match decide (k = k') with
   | true => .ok (.int k (L2 L yr0 a b)) [] []
   | false => .bad 40
 | [.flt k a, .flt k' b] => match decide (k = k') with
   | true => .okIf (L2 L (ynj k) a b) (.flt k (L2 L (yr3 k) a b)) [] []
   | false => .bad 107
 | [.int k a, .int k' b, .int k'' d] => match decide (k = k') with
   | true => match decide (k = k'') with
     | true => .ok (.int k (L2 L yr0 (L2 L yr0 a b) d)) [] []
     | false => .bad 40
   | false => .bad 40
 | _ => .bad 40
def zch (L : za9) (esz : Nat) (ob : Nat -> Option Ob) : AV -> Option (Nat × (Nat -> Nat -> AV))
 | .lst sz n get => match za5 sz esz with | true => some (n, get) | false => none
 | .nils => some (0, fun _ _ => .dead)
 | .emp => some (0, fun _ _ => .dead)
 | .emz => some (0, fun _ _ => .dead)
 | .sl id sz off n => match za5 sz esz with
   | true => match ob id with
     | some (.row ty sz' _ get) => match za5 sz sz' with
       | true => some (n, fun i j => get (L2 L Nat.add off i) j)
       | false => none
     | _ => none
   | false => none
 | .lstx sz n get => match za5 sz esz with | true => some (n, get) | false => none
 | .slc id sz off n _ => match za5 sz esz with
   | true => match ob id with
     | some (.row ty sz' _ get) => match za5 sz sz' with
       | true => some (n, fun i j => get (L2 L Nat.add off i) j)
       | false => none
     | _ => none
   | false => none
 | .str l => match esz with
   | 1 => some (L List.length l, fun i _ => .int .u8 (L2 L zng l (L za7 i)))
   | _ => none
 | _ => none
def yrq (ob : Nat -> Option Ob) (src : Nat -> Nat -> AV) : AV -> Nat -> Nat -> AV
 | .sl id _ 0 _ => match ob id with
   | some (.row _ _ _ get) => get
   | _ => src
 | _ => src
def zcj (T : TT) (t : Nat) : Bool := match T.find t with
 | some i => match i.k with
   | .slice _ _ _ => true
   | .str => true
   | _ => false
 | none => false
def zot (T : TT) (L : za9) (dst : Option Nat) (t t' : Nat) (ob : Nat -> Option Ob) (ice : Nat -> Bool) (nw : Bool) : List AV -> zc0
 | [s, x] => match cond nw dst none with
   | some d => match T.find t with
     | some { k := .slice e esz eb, .. } => match cond (zcj T t') (cond (zbh 1 esz) (cond (T.find e).isSome (zch L esz ob x) none) none) none with
       | some (m, src) => match s with
         | .nils => .okIf (L3 L zbx eb 0 m) (.sl d esz 0 m) [(d, .row e esz m src)] []
         | .emz => .okIf (L3 L zbx eb 0 m) (.sl d esz 0 m) [(d, .row e esz m src)] []
         | .sl id sz off n => match za5 sz esz, ice id, off, ob id with
           | true, false, 0, some (.row ty sz' _ get) => match za5 sz sz' with
            | false => .bad 41
            | true => match za5 ty e with
              | false => .bad 41
              | true => .okIf (L3 L zbx eb n m) (.sl d esz 0 (L2 L Nat.add n m))
               [(d, .row e esz (L2 L Nat.add n m) (fun i j => zci L (L2 L zb3 i n) (get i j) (src (L2 L Nat.sub i n) j))), (id, .gone)] []
           | true, false, 0, some (.spr ty cs) => match zbh (n * sz) (zdo cs), za5 ty e, zb3 0 n with
             | true, true, true => .okIf (L3 L zbx eb n m) (.sl d esz 0 (n + m)) [(d, .spr e (zb9 (zcs cs (n * sz)) (zln (zy6 (yrq ob src x) sz) 0 (m * sz)))), (id, .gone)] []
             | _, _, _ => .bad 41
           | _, _, _, _ => .bad 41
         | _ => .bad 41
       | none => .bad 41
     | _ => .bad 41
   | none => .bad 41
 | _ => .bad 41
def yof (ob : Nat -> Option Ob) : AV -> Option (Nat × Nat × Nat × (Nat -> Nat -> AV))
 | .sl id sz 0 n => match ob id with
   | some (.rowp q _ sz' _ get) => match za5 sz sz' with
     | true => some (q, sz, n, get)
     | false => none
   | _ => none
 | _ => none
def zju (T : TT) (L : za9) (dst : Option Nat) (t t' : Nat) (ob : Nat -> Option Ob) (ice : Nat -> Bool) (nw : Bool) (q sx m : Nat) (src : Nat -> Nat -> AV) : List AV -> zc0
 | [.sl id sz off n, _] => match cond nw dst none with
   | some d => match T.find t with
     | some { k := .slice e esz eb, .. } => match cond (zcj T t') (cond (zbh 1 esz) (cond (T.find e).isSome (cond (zb3 0 m) (za5 sx esz) false) false) false) false with
       | true => match za5 sz esz, ice id, off, ob id with
         | true, false, 0, some (.rowp q' ty sz' _ get) => match za5 sz sz', za5 ty e, za5 q' q with
           | true, true, true => .okIf (L3 L zbx eb n m) (.sl d esz 0 (L2 L Nat.add n m))
               [(d, .rowp q e esz (L2 L Nat.add n m) (fun i j => zci L (L2 L zb3 i n) (get i j) (src (L2 L Nat.sub i n) j))), (id, .gone)] []
           | _, _, _ => .bad 92
         | _, _, _, _ => .bad 92
       | false => .bad 92
     | _ => .bad 92
   | none => .bad 92
 | _ => .bad 92
def zrc (c : Bool) (x y : AV) : AV := match c with | true => x | false => y
def yi5 (L : za9) (sz : Nat) (c : Bool) (x y : AV) : AV := match sz with
 | 1 => zci L c x y
 | _ => L3 L zrc c x y
def zdr (off n e : Nat) : Bool := zbh off e && zb3 e (off + n)
def ya6 (m n : Nat) : Bool := zb3 0 n && zbh m n
def ydr (T : TT) (L : za9) (t t' : Nat) (ob : Nat -> Option Ob) (ice : Nat -> Bool) : List AV -> zc0
 | [.sl id sz off n, x] => match T.find t with
   | some { k := .slice e esz eb, .. } => match cond (zcj T t') (cond (zbh 1 esz) (cond (T.find e).isSome (zch L esz ob x) none) none) none with
     | some (m, src) => match za5 sz esz, ice id, ob id with
       | true, false, some (.row ty sz' k get) => match za5 sz sz' with
         | true => .okIf (L2 L ya6 m n) (.int .i64 (L za7 m)) [(id, .row ty sz k (fun i j => yi5 L sz (L3 L zdr off m i) (src (L2 L Nat.sub i off) j) (get i j)))] []
         | false => .bad 50
       | _, _, _ => .bad 50
     | none => .bad 50
   | _ => .bad 50
 | _ => .bad 50
def ylp : List AV -> Bool
 | .slc _ _ _ _ _ :: _ => true
 | _ => false
def ygn : List AV -> List AV
 | .slc id sz off n _ :: r => .sl id sz off n :: r
 | .lstx sz n get :: r => .lst sz n get :: r
 | l => l
def yt6 (T : TT) (L : za9) (t : Nat) : List AV -> zc0
 | [.slc _ _ _ _ cap] => match T.find t with
   | some { k := .slice _ _ _, .. } => .ok (.int .i64 (L za7 cap)) [] []
   | _ => .bad 71
 | _ => .bad 71
def three (vals : List AV) (l h m : Bool) : Option (Option Int × Option Int × Option Int) :=
 match l, h, m, vals with
 | false, false, false, [] => some (none, none, none)
 | true, false, false, [.int _ a] => some (some a, none, none)
 | false, true, false, [.int _ b] => some (none, some b, none)
 | true, true, false, [.int _ a, .int _ b] => some (some a, some b, none)
 | false, true, true, [.int _ b, .int _ c] => some (none, some b, some c)
 | true, true, true, [.int _ a, .int _ b, .int _ c] => some (some a, some b, some c)
 | _, _, _, _ => none
def geo (L : za9) : Option Int -> Nat -> Nat
 | none, n => n
 | some a, _ => L Int.toNat a
def yef (L : za9) (off : Nat) : Option Int -> Nat
 | none => off
 | some a => L2 L Nat.add off (L Int.toNat a)
def zrb (L : za9) (x : Nat) : Option Int -> Nat
 | none => x
 | some a => L2 L Nat.sub x (L Int.toNat a)
def gei (L : za9) : Option Int -> Nat -> Int
 | none, n => L za7 n
 | some a, _ => a
def ynh (i j k n : Int) : Bool := decide (0 <= i) && decide (i <= j) && decide (j <= k) && decide (k <= n)
def zt0 (T : TT) (L : za9) (t : Nat) (l h m : Bool) : List AV -> zc0
 | x :: vs => match T.find t with
   | some { k := .slice _ esz _, .. } => match three vs l h m with
     | some (a, b, c) => match x with
       | .slc id sz off n cap => match za5 esz sz with
         | true => .okIf (L (L (L (L ynh (gei L a 0)) (gei L b n)) (gei L c cap)) (L za7 cap)) (.slc id sz (yef L off a) (zrb L (geo L b n) a) (zrb L (geo L c cap) a)) [] []
         | false => .bad 73
       | .sl id sz off n => match za5 esz sz, c with
         | true, some _ => .okIf (L (L (L (L ynh (gei L a 0)) (gei L b n)) (gei L c n)) (L za7 n)) (.slc id sz (yef L off a) (zrb L (geo L b n) a) (zrb L (geo L c n) a)) [] []
         | _, _ => .bad 73
       | .lst sz n get => match za5 esz sz, c with
         | true, some c0 => .okIf (L2 L and (L (L (L (L ynh (gei L a 0)) (gei L b n)) c0) (L za7 n)) (L2 L ieq (gei L b n) c0)) (.lstx sz (zrb L (geo L b n) a) (yej L get a)) [] []
         | _, _ => .bad 73
       | _ => .bad 73
     | none => .bad 73
   | _ => .bad 73
 | _ => .bad 73
def yca (T : TT) (t : Nat) : Bool := match T.find t with
 | some { k := .int .i64, .. } => true
 | _ => false
def yr7 (ei : TI) : Nat -> Nat -> AV := fun _ j => zbl .dead ei.zero j
def yrp (T : TT) (L : za9) (esz eb : Nat) (ei : TI) (t' : Nat) (ob : Nat -> Option Ob) (x : AV) : Option (Bool × Nat × (Nat -> Nat -> AV)) :=
 match zcj T t' with
 | true => match zch L esz ob x with
   | some (m, g) => some (true, m, g)
   | none => none
 | false => match yca T t', zi3 ei.zero, x with
   | true, true, .int .i64 n => some (L2 L and (L2 L inC n 9223372036854775807) (L3 L zbx eb 0 (L Int.toNat n)), L Int.toNat n, yr7 ei)
   | _, _, _ => none
def zia (T : TT) (L : za9) (dst : Option Nat) (t t' : Nat) (ob : Nat -> Option Ob) (ice : Nat -> Bool) (nw : Bool) : List AV -> zc0
 | [.slc id sz off n cap, x] => match cond nw dst none with
   | some d => match T.find t with
     | some { k := .slice e esz eb, .. } => match T.find e with
       | some ei => match cond (zbh 1 esz) (yrp T L esz eb ei t' ob x) none with
         | some (q, m, src) => match za5 sz esz, ice id, ob id with
           | true, false, some (.row ty sz' k get) => match za5 sz sz', za5 ty e with
             | true, true => .alt (L2 L and q (L2 L zbh (L2 L Nat.add n m) cap)) (.slc id sz off (L2 L Nat.add n m) cap) [(id, .row ty sz k (fun i j => L3 L zrc (L3 L zdr (L2 L Nat.add off n) m i) (src (L2 L Nat.sub i (L2 L Nat.add off n)) j) (get i j)))]
                 (L2 L and q (L3 L zbx eb n m)) (.sl d esz 0 (L2 L Nat.add n m)) [(d, .row e esz (L2 L Nat.add n m) (fun i j => L3 L zrc (L2 L zb3 i n) (get (L2 L Nat.add off i) j) (src (L2 L Nat.sub i n) j)))]
             | _, _ => .bad 74
           | _, _, _ => .bad 74
         | none => .bad 74
       | none => .bad 74
     | _ => .bad 74
   | none => .bad 74
 | _ => .bad 74
def ysu : List AV -> Bool
 | .lstx _ _ _ :: _ => true
 | _ => false
def zi9 (T : TT) (L : za9) (p t t' : Nat) (ob : Nat -> Option Ob) : List AV -> zc0
 | [.lstx sz n get, x] => match T.find t with
   | some { k := .slice e esz eb, .. } => match cond (zcj T t') (cond (zbh 1 esz) (cond (T.find e).isSome (zch L esz ob x) none) none) none with
     | some (m, src) => match za5 sz esz, ob p with
       | true, some (.tab ty sz' n0 len get0) => match za5 ty e, za5 sz' esz with
         | true, true => .okIf (L2 L and (L2 L za5 n 0) (L3 L zbx eb 0 m)) (.asl p n0 esz 0 m) [(p, zyp L ty esz n0 len get0 m src)] []
         | _, _ => .bad 81
       | _, _ => .bad 81
     | none => .bad 81
   | _ => .bad 81
 | _ => .bad 81
def zi8 (T : TT) (L : za9) (dst : Option Nat) (t t' : Nat) (ob : Nat -> Option Ob) (nw : Bool) : List AV -> zc0
 | [.lstx sz n get, x] => match cond nw dst none with
   | some d => match T.find t with
     | some { k := .slice e esz eb, .. } => match cond (zcj T t') (cond (zbh 1 esz) (cond (T.find e).isSome (zch L esz ob x) none) none) none with
       | some (m, src) => match za5 sz esz with
         | true => .okIf (L2 L and (L2 L zb3 0 m) (L3 L zbx eb n m)) (.sl d esz 0 (L2 L Nat.add n m)) [(d, .row e esz (L2 L Nat.add n m) (fun i j => zci L (L2 L zb3 i n) (get i j) (src (L2 L Nat.sub i n) j)))] []
         | false => .bad 77
       | none => .bad 77
     | _ => .bad 77
   | none => .bad 77
 | _ => .bad 77
def ygy : AV -> Bool
 | .str _ => false
 | _ => true
def zqy (T : TT) (L : za9) (t t' : Nat) (ob : Nat -> Option Ob) (ice : Nat -> Bool) : List AV -> zc0
 | [.slc id sz off n _, x] => match T.find t with
   | some { k := .slice e esz eb, .. } => match cond (ygy x) (cond (zcj T t') (cond (zbh 1 esz) (cond (T.find e).isSome (zch L esz ob x) none) none) none) none with
     | some (m, src) => match za5 sz esz, ice id, ob id with
       | true, false, some (.row ty sz' k get) => match za5 sz sz' with
         | true => .okIf (L2 L zb3 0 n) (.int .i64 (L za7 (L2 L Nat.min m n))) [(id, .row ty sz k (fun i j => L3 L zrc (L3 L zdr off (L2 L Nat.min m n) i) (src (L2 L Nat.sub i off) j) (get i j)))] []
         | false => .bad 75
       | _, _, _ => .bad 75
     | none => .bad 75
   | _ => .bad 75
 | _ => .bad 75
def slOf : AV -> Option (Nat × Nat × Nat × Nat)
 | .sl id sz off n => some (id, sz, off, n)
 | .slc id sz off n _ => some (id, sz, off, n)
 | _ => none
def yds (T : TT) (L : za9) (t : Nat) (ob : Nat -> Option Ob) (ice : Nat -> Bool) : List AV -> zc0
 | [x] => match slOf x, T.find t with
   | some (id, sz, off, n), some { k := .slice e esz _, .. } => match T.find e, za5 sz esz, zbh 1 esz, ice id, ob id with
     | some ei, true, true, false, some (.row ty sz' k get) => match za5 sz sz', zi3 ei.zero with
       | true, true => .ok (.tup []) [(id, .row ty sz k (fun i j => L3 L zrc (L3 L zdr off n i) (zbl .dead ei.zero j) (get i j)))] []
       | _, _ => .bad 76
     | _, _, _, _, _ => .bad 76
   | _, _ => .bad 76
 | _ => .bad 76
def yt1 (T : TT) (L : za9) (dst : Option Nat) (op : Op) (vals : List AV) (ob : Nat -> Option Ob) (ice : Nat -> Bool) (nw : Bool) : zc0 :=
 match op with
 | .move _ => ydc vals
 | .assign _ => ydc vals
 | .pick _ _ _ => ydb vals
 | .binOp op t x y _ => ymv T L op t (cond (zog x) true (zog y)) vals
 | .unOp op _ _ => cUn L op vals
 | .convert s t _ => match zrh T t with
   | true => ydt T L dst s t nw vals
   | false => yms T L s t ob vals
 | .alloc t => match ztd ob t with
   | some p => zt2 T L p t ob
   | none => ydv T dst t nw
 | .box t _ => match ztd ob t with
   | some p => ymu T L p t ob vals
   | none => yt7 T L dst t nw vals
 | .build t ps => ydu T t ps.toList vals
 | .buildSlice t n ps => match ysv vals with
   | true => yd9 T L dst t n ps.toList vals ob nw
   | false => ymf T L dst t n ps.toList (zcn (yen ob) vals) ob nw
 | .load t _ => zxo T L t ob vals
 | .store t _ _ => yd8 T L t ob ice vals
 | .fieldAddr t _ f => ydq T t f vals
 | .field t _ f => ydp T t f vals
 | .indexAddr t _ _ => ydo T L t ob (ygn vals)
 | .index t _ _ => ydn T L t vals
 | .slice t _ l h m => match cond m.isSome true (ylp vals) with
   | true => zt0 T L t l.isSome h.isSome m.isSome vals
   | false => yda T L t ob l.isSome h.isSome m.isSome vals
 | .extract _ i => zos i vals
 | .makeFunc fn first _ => ymq fn first.size vals
 | .nilCheck _ => yt3 vals
 | .sliceToArrayPointer t _ => yt9 T L t ob vals
 | .makeSlice t _ _ => zt1 T L dst t nw vals
 | .makeMap t none => match zkq T t with
   | some (kt, et) => match ynx T ob kt with
     | some q => ydf T dst t q (szOf ob q) nw
     | none => match yoq T t with
       | true => ydg T dst t nw
       | false => match ynx T ob et with
         | some q => ydh T dst t q (szOf ob q) nw
         | none => match yop T t with
           | true => ydi T dst t nw
           | false => yml T dst t nw
   | none => .bad 60
 | .lookup t _ _ ok => match yeh ob vals with
   | some (_, kk, es) => ydm T t ok kk es vals
   | none => match ync ob vals with
     | some (_, e) => ydk T t ok e vals
     | none => match yeg ob vals with
       | some (_, q, sz, l) => ydl T L t ok q sz l vals
       | none => match ynb ob vals with
         | some (_, q, sz, l) => match ok with
           | false => ydj T L t q sz l ob vals
           | true => .bad 90
         | none => ymm T L t ok ob vals
 | .mapUpdate t _ _ _ => match yeh ob vals with
   | some (id, kk, es) => ymj T t ice id kk es vals
   | none => match ync ob vals with
     | some (id, e) => ymh T t ice id e vals
     | none => match yeg ob vals with
       | some (id, q, sz, l) => ymi T L t ice id q sz l vals
       | none => match ynb ob vals with
         | some (id, q, sz, l) => ymg T L t ice id q sz l ob vals
         | none => yt4 T L t ob ice vals
 | .call c => match c.callee with
   | .value _ => ymt L ob vals
   | .builtin .len => match c.argTypes.toList with
     | t :: _ => match yeh ob vals with
       | some (_, _, es) => ymo T t es vals
       | none => match yeg ob vals with
         | some (_, _, _, l) => ymn T L t l vals
         | none => yt5 T L t ob (ygn vals)
     | [] => .bad 39
   | .builtin .cap => match c.argTypes.toList with
     | t :: _ => yt6 T L t vals
     | [] => .bad 71
   | .builtin .clear => match c.argTypes.toList with
     | t :: _ => yds T L t ob ice vals
     | [] => .bad 76
   | .builtin .min => yq6 L vals
   | .builtin .complex => ymr vals
   | .builtin .real => cRe vals
   | .builtin .imag => cIm vals
   | .builtin .unsafeSliceData => zqw L vals
   | .builtin .unsafeString => match c.argTypes.toList with
     | [t, _] => zsz T L t ob ice vals
     | _ => .bad 49
   | .builtin .max => ymk L vals
   | .builtin .append => match c.argTypes.toList with
     | [t, t'] => match ylp vals with
       | true => zia T L dst t t' ob ice nw vals
       | false => match ysu vals with
         | true => match ztd ob (yhg T t) with
           | some p => zi9 T L p t t' ob vals
           | none => zi8 T L dst t t' ob nw vals
         | false => match yof ob (zbl .dead vals 1) with
           | some (q, sz, m, src) => zju T L dst t t' ob ice nw q sz m src vals
           | none => zot T L dst t t' ob ice nw vals
     | _ => .bad 41
   | .builtin .copy => match c.argTypes.toList with
     | [t, t'] => match ylp vals with
       | true => zqy T L t t' ob ice vals
       | false => ydr T L t t' ob ice vals
     | _ => .bad 50
   | .builtin .delete => match c.argTypes.toList with
     | [t, _] => match yeh ob vals with
       | some (id, kk, es) => ydd T t ice id kk es vals
       | none => match yeg ob vals with
         | some (id, q, sz, l) => zqx T L t ice id q sz l vals
         | none => yde T L t ob ice vals
     | _ => .bad 63
   | _ => .bad 42
 | _ => .bad 0
def zbz : Op -> Bool
 | .alloc _ => true
 | .box _ _ => true
 | .buildSlice _ _ _ => true
 | .makeSlice _ _ _ => true
 | .makeMap _ _ => true
 | .convert _ _ _ => true
 | .call { callee := .builtin .append, .. } => true
 | _ => false
def zn5 : Op -> Bool
 | .store _ _ _ => true
 | .mapUpdate _ _ _ _ => true
 | .call { callee := .builtin .delete, .. } => true
 | .call { callee := .builtin .unsafeString, .. } => true
 | .call { callee := .builtin .append, .. } => true
 | .call { callee := .builtin .copy, .. } => true
 | .call { callee := .builtin .clear, .. } => true
 | _ => false
def evf (f : Nat -> Option AV) (kn : List (Nat × Bool)) : Operand -> AV
 | .tmp t => match za2 kn t with
   | some b => .bool b
   | none => match f t with
     | some v => v
     | none => .dead
 | .const v => ysb v
 | .func f => .fn f [] []
 | .global _ => .dead
def yne (g : Nat -> Option Ob) (ids : List Nat) (id : Nat) : Option Ob := match zbp ids id with | true => g id | false => none
def yrk : Op -> Bool
 | .alloc _ => true
 | .box _ _ => true
 | .makeMap _ _ => true
 | .call _ => true
 | _ => false
def yh1 : List AV -> List Nat
 | [] => []
 | x :: _ => zb9 (pOf1 x) (zv0 x)
def zxd (c : Nat -> Bool) (op : Op) (vals : List AV) (id : Nat) : Bool :=
 match zn5 op with
 | true => match zbp (yh1 vals) id with | true => c id | false => true
 | false => true
def zcd (g : Nat -> Option Ob) (op : Op) (dst : Option Nat) : Bool :=
 match zbz op with
 | true => match dst with
   | some d => match g d with | none => true | some _ => false
   | none => false
 | false => false
def ysf : Op -> Bool
 | .move _ => false
 | _ => true
def yrj (op : Op) : List Nat := match yrk op with
 | true => [yrm, yrl]
 | false => []
def yni (op : Op) (vs : List AV) : List Nat := match ysf op with
 | true => zb9 (yrj op) (zb9 (yqw vs) (zdz vs))
 | false => []
def zj6 (T : TT) (L : za9) (f : Nat -> Option AV) (g : Nat -> Option Ob) (c : Nat -> Bool) (kn : List (Nat × Bool)) (o : Oper) : zc0 :=
 yt1 T L o.dst o.op (zcn (evf f kn) (zbu o.op)) (yne g (yni o.op (zcn (evf f kn) (zbu o.op)))) (zxd c o.op (zcn (evf f kn) (zbu o.op))) (zcd g o.op o.dst)
def yld : List (Nat × Bool) -> Nat -> List (Nat × Bool)
 | [], _ => []
 | (t, b) :: r, d => match za5 t d with
   | true => yld r d
   | false => (t, b) :: yld r d
def litOf (kn : List (Nat × Bool)) : Operand -> Option Bool
 | .const (.bool b) => some b
 | .tmp t => za2 kn t
 | _ => none
def zq6 (kn : List (Nat × Bool)) : Op -> Option Bool
 | .move x => litOf kn x
 | .assign x => litOf kn x
 | .pick c a b => match litOf kn c with
   | some true => litOf kn a
   | some false => litOf kn b
   | none => none
 | _ => none
def yph (kn : List (Nat × Bool)) (dst : Option Nat) (x : Option Bool) : List (Nat × Bool) :=
 match dst with
 | none => kn
 | some d => match x with
   | some b => (d, b) :: yld kn d
   | none => yld kn d
def St.put (s : St) (dst : Option Nat) (v : AV) : List (Nat × AV) := match dst with | some d => (d, v) :: s.slots | none => s.slots
def St.eff (s : St) (dst : Option Nat) (v : AV) (os : List (Nat × Ob)) (ice : List Nat) (x : Option Bool) : St :=
 ⟨s.put dst v, zb9 os s.objs, zb9 ice s.ice, yph s.kn dst x⟩
def St.know (s : St) (t : Nat) (b : Bool) : St := ⟨s.slots, s.objs, s.ice, (t, b) :: s.kn⟩
structure Ent where
 ids : List Nat
 wr : List Nat
def keys {α : Type} : List (Nat × α) -> List Nat
 | [] => []
 | x :: xs => x.1 :: keys xs
def ybo : List Nat -> List Nat -> Bool
 | [], _ => false
 | x :: xs, ys => match zbp ys x with | true => true | false => ybo xs ys
def zsy (a b : Ent) : Bool := match ybo a.wr (zb9 b.ids b.wr) with | true => true | false => ybo b.wr a.ids
def zax : List Edge -> Nat -> Bool
 | [], _ => false
 | e :: es, j => match Region.binds .any e with
   | true => match za5 e.on j with | true => true | false => zax es j
   | false => zax es j
def ahead (ops : List Oper) : Nat -> List Edge -> Nat -> Bool
 | 0, es, j => zax es j
 | n + 1, es, j => match zax es j with
   | true => true
   | false => es.any fun e => match Region.binds .any e with
     | true => match zbh e.on j with
       | true => false
       | false => match ops[e.on]? with
         | some o => ahead ops n o.after.toList j
         | none => false
     | false => false
def zil (ops : List Oper) (es : List Edge) (x : Ent) : List (Nat × Ent) -> Bool
 | [] => true
 | (j, y) :: r => match zsy x y with
   | true => match ahead ops 4 es j with
     | true => zil ops es x r
     | false => false
   | false => zil ops es x r
def zh8 (ops : List Oper) (o : Oper) : Option (Option Nat × Bool) :=
 match o.guard with
 | none => none
 | some (j, w) => match ops[j]? with
   | some o' => some (o'.dst, w)
   | none => some (none, w)
structure zcm where
 ps : List Prop
 ids : List (Nat × Option Nat)
def zcm.add (m : zcm) (p : Prop) : zcm := ⟨p :: m.ps, m.ids⟩
def yiq (id : Nat) : Option Nat -> Bool
 | some x => za5 x id
 | none => false
def zp6 (id : Nat) : List (Nat × Option Nat) -> Bool
 | [] => false
 | p :: r => match yiq id p.2 with | true => true | false => zp6 id r
def zcx (m : zcm) (tid id : Nat) : Option zcm :=
 match zb3 tid zbv with
 | false => none
 | true => match za2 m.ids tid with
   | some x => match yiq id x with | true => some m | false => none
   | none => match zp6 id m.ids with
     | true => none
     | false => some ⟨m.ps, (tid, some id) :: m.ids⟩
def zh2 (m : zcm) (tid : Nat) : Option zcm :=
 match zb3 tid zbv with
 | false => none
 | true => match za2 m.ids tid with
   | some _ => none
   | none => some ⟨m.ps, (tid, none) :: m.ids⟩
def zdm (m : zcm) : AV -> AV -> Option zcm
 | .dead, _ => some m
 | .bool a, .bool b => some (m.add (b = a))
 | .int k a, .int k' b => match decide (k = k') with
   | true => some (m.add (b = a))
   | false => none
 | .str a, .str b => some (m.add (b = a))
 | .flt k a, .flt k' b => match decide (k = k') with
   | true => some (m.add (b = a))
   | false => none
 | .cpx k a b, .cpx k' a' b' => match decide (k = k') with
   | true => some ((m.add (a' = a)).add (b' = b))
   | false => none
 | .nilp, .nilp => some m
 | .nilm, .nilm => some m
 | .nilf, .nilf => some m
 | .nils, .nils => some m
 | .nili, .nili => some m
 | .ifb a, .ifb b => some (m.add (b = a))
 | .emp, .emp => some m
 | .emz, .emz => some m
 | .lst sz n get, .lst sz' n' get' => match za5 sz sz' with
   | true => some (m.add (n' = n /\ ∀ i j, i < n -> j < sz -> get' i j = get i j))
   | false => none
 | .lst sz n get, .lstx sz' n' get' => match za5 sz sz' with
   | true => some (m.add (n' = n /\ ∀ i j, i < n -> j < sz -> get' i j = get i j))
   | false => none
 | .lst _ n _, .nils => some (m.add (0 = n))
 | .lst _ n _, .emp => some (m.add (0 = n))
 | .lst _ n _, .emz => some (m.add (0 = n))
 | .iptr n get, .iptr n' get' => some (m.add (n <= n' /\ ∀ j, j < n -> get' j = get j))
 | .arr n get, .arr n' get' => match za5 n n' with
   | true => some (m.add (∀ j, j < n -> get' j = get j))
   | false => none
 | .ref tid off, .ref id off' => match za5 off off' with
   | true => zcx m tid id
   | false => none
 | .eref tid sz i off, .eref id sz' i' off' => match za5 sz sz' with
   | true => match za5 off off' with
     | true => match zcx m tid id with | some m => some (m.add (i' = i)) | none => none
     | false => none
   | false => none
 | .sl tid sz off n, .sl id sz' off' n' => match za5 sz sz' with
   | true => match zcx m tid id with | some m => some (m.add (off' = off /\ n' = n)) | none => none
   | false => none
 | .sl tid sz off n, .slc id sz' off' n' _ => match za5 sz sz' with
   | true => match zcx m tid id with | some m => some (m.add (off' = off /\ n' = n)) | none => none
   | false => none
 | .slc tid sz off n cap, .slc id sz' off' n' cap' => match za5 sz sz' with
   | true => match zcx m tid id with | some m => some (m.add (off' = off /\ n' = n /\ cap' = cap)) | none => none
   | false => none
 | .sl tid _ off n, .nils => match zh2 m tid with | some m => some (m.add (0 = off /\ 0 = n)) | none => none
 | .fn f a b, .fn f' a' b' => match za5 f f', zl8 (.fn f' a' b') with
   | true, true => some (m.add (a' = a /\ b' = b))
   | _, _ => none
 | .mp tid, .mp id => zcx m tid id
 | .asl p k sz off n, .asl p' k' sz' off' n' => match za5 p p', za5 sz sz' with
   | true, true => match zcx m p p with | some m => some (m.add (k' = k /\ off' = off /\ n' = n)) | none => none
   | _, _ => none
 | .aer p k sz i off, .aer p' k' sz' i' off' => match za5 p p', za5 sz sz', za5 off off' with
   | true, true, true => match zcx m p p with | some m => some (m.add (k' = k /\ i' = i)) | none => none
   | _, _, _ => none
 | .mpi kk n has val, .mpi kk' n' has' val' => match decide (kk = kk') with
   | true => some (m.add (n' = n /\ (∀ k, has' k = has k) /\ ∀ k, has k = true -> val' k = val k))
   | false => none
 | .aep c p k sz i off, .aep c' p' k' sz' i' off' => match za5 p p', za5 sz sz', za5 off off' with
   | true, true, true => match zcx m p p with | some m => some (m.add (c' = c /\ k' = k /\ i' = i)) | none => none
   | _, _, _ => none
 | .aep c p k sz i off, .aer p' k' sz' i' off' => match za5 p p', za5 sz sz', za5 off off' with
   | true, true, true => match zcx m p p with | some m => some (m.add (true = c /\ k' = k /\ i' = i)) | none => none
   | _, _, _ => none
 | .aer p k sz i off, .aep c' p' k' sz' i' off' => match za5 p p', za5 sz sz', za5 off off' with
   | true, true, true => match zcx m p p with | some m => some (m.add (c' = true /\ k' = k /\ i' = i)) | none => none
   | _, _, _ => none
 | .aep c p _ _ _ _, .nilp => match zcx m p p with | some m => some (m.add (false = c)) | none => none
 | _, _ => none
def zht (m : zcm) : List AV -> List AV -> Option zcm
 | [], [] => some m
 | x :: xs, y :: ys => match zdm m x y with
   | some m => zht m xs ys
   | none => none
 | _, _ => none
def zfq (m : zcm) : AV -> AV -> Option zcm
 | .fn f a b, .fn f' a' b' => match zl8 (.fn f' a' b') with
   | true => zdm m (.fn f a b) (.fn f' a' b')
   | false => match za5 f f', zht m a a' with
     | true, some m => zht m b b'
     | _, _ => none
 | .agg a, .agg b => zht m a b
 | a, b => zdm m a b
def zfy (slots : List (Nat × AV)) : List (Nat × AV) -> zcm -> Option zcm
 | [], m => some m
 | (t, v) :: r, m => match za2 slots t with
   | some u => match zfq m v u with
     | some m => zfy slots r m
     | none => none
   | none => none
def yl2 (m : zcm) (y : AV) : AV -> Option zcm
 | .dead => some m
 | .sl tid _ off n => match zh2 m tid with
   | some m => some (m.add (y = .nils /\ 0 = off /\ 0 = n))
   | none => none
 | x => match zki x with
   | true => some (m.add (y = x))
   | false => none
def zuc (m : zcm) (y : Nat -> AV) : Nat -> List AV -> Option zcm
 | _, [] => some m
 | j, x :: xs => match yl2 m (y j) x with
   | some m => zuc m y (j + 1) xs
   | none => none
def yge : List (Ky × AV) -> List (Ky × AV) -> Bool
 | [], [] => true
 | x :: xs, y :: ys => match kyb x.1 y.1 with | true => yge xs ys | false => false
 | _, _ => false
def zko (m : zcm) : Ob -> Ob -> Option zcm
 | .box ty a, .box ty' b => match za5 ty ty' with
   | true => zht m a b
   | false => none
 | .row ty sz n get, .row ty' sz' n' get' => match za5 ty ty', za5 sz sz' with
   | true, true => some (m.add (n' = n /\ ∀ i j, i < n -> j < sz -> get' i j = get i j))
   | _, _ => none
 | .rowp q ty sz n get, .rowp q' ty' sz' n' get' => match za5 q q', za5 ty ty', za5 sz sz' with
   | true, true, true => match zcx m q q with | some m => some (m.add (n' = n /\ ∀ i j, i < n -> j < sz -> get' i j = get i j)) | none => none
   | _, _, _ => none
 | .rowp q ty sz n get, .row ty' sz' n' get' => match za5 ty ty', za5 sz sz' with
   | true, true => some (m.add (n' = n /\ ∀ i j, i < n -> j < sz -> get' i j = get i j))
   | _, _ => none
 | .tab ty sz n len get, .tab ty' sz' n' len' get' => match za5 ty ty', za5 sz sz' with
   | true, true => some (m.add (n' = n /\ (∀ k, k < n -> len' k = len k) /\ ∀ k i j, k < n -> i < len k -> j < sz -> get' k i j = get k i j))
   | _, _ => none
 | .spr ty cs, .spr ty' cs' => match za5 ty ty', zbh (zdo cs) (zdo cs') with
   | true, true => zht m cs (zcs cs' (zdo cs))
   | _, _ => none
 | .map kk n has val, .map kk' n' has' val' => match decide (kk = kk') with
   | true => some (m.add (n' = n /\ (∀ k, has' k = has k) /\ ∀ k, has k = true -> val' k = val k))
   | false => none
 | .mapq e, .mapq e' => some (m.add (e = true -> e' = true))
 | .mapp q sz l, .mapp q' sz' l' => match za5 q q', za5 sz sz' with
   | true, true => match zcx m q q with | some m => some (m.add (l' = l)) | none => none
   | _, _ => none
 | .mapr q sz l, .mapr q' sz' l' => match za5 q q', za5 sz sz' with
   | true, true => match zcx m q q with | some m => some (m.add (l' = l)) | none => none
   | _, _ => none
 | .mapl kk a, .mapl kk' b => match decide (kk = kk'), yge a b with
   | true, true => zht m (zcn Prod.snd a) (zcn Prod.snd b)
   | _, _ => none
 | .spr ty cs, .row ty' sz n get => match za5 ty ty' with
   | true => match zuc m (zy6 get sz) 0 cs with
     | some m => some (m.add (zdo cs <= n * sz))
     | none => none
   | false => none
 | _, _ => none
def zkp (m : zcm) : Ob -> Option zcm
 | .row _ _ n _ => some (m.add (0 = n))
 | .rowp _ _ _ n _ => some (m.add (0 = n))
 | .spr _ [] => some m
 | _ => none
def zh5 (s : St) (ice : List Nat) : List (Nat × Ob) -> zcm -> Option zcm
 | [], m => some m
 | (tid, o) :: r, m => match za2 m.ids tid with
   | some (some id) => match zbp s.ice id, zbp ice tid with
     | true, false => none
     | _, _ => match za2 s.objs id with
       | some o' => match zko m o o' with
         | some m => zh5 s ice r m
         | none => none
       | none => none
   | some none => match zkp m o with
     | some m => zh5 s ice r m
     | none => none
   | none => none
def zpk : List Nat -> List (Nat × Option Nat)
 | [] => []
 | i :: r => (i, some i) :: zpk r
def zp8 : List (Nat × Ob) -> List Nat
 | [] => []
 | (i, .tab _ _ _ _ _) :: r => i :: zp8 r
 | _ :: r => zp8 r
def zau : Ob -> Bool
 | .tab _ _ _ _ _ => true
 | _ => false
def ycd (objs : List (Nat × Ob)) : List (Nat × Option Nat) -> Bool
 | [] => true
 | p :: r => match za2 objs p.1 with | some _ => ycd objs r | none => false
def yh0 (objs : List (Nat × Ob)) : List Nat -> Bool
 | [] => true
 | p :: r => match za2 objs p with | some _ => yh0 objs r | none => false
structure yn4 where
 xs : List AV
 O : List (Nat × Ob)
 p : Prop
 r : AV
 O1 : List (Nat × Ob)
abbrev yth := List AV -> (Nat -> Option Ob) -> Option yn4
structure zn1 where
 fz : FuncId -> List AV -> Option (Prop × AV)
 mt : FuncId -> Option yth
def zwt {α : Type} : Nat -> List α -> List (Nat × α)
 | _, [] => []
 | i, x :: xs => (i, x) :: zwt (i + 1) xs
def tgt (F : List (Nat × Option Nat)) (fr n : Nat) : Nat := match za2 F n with
 | some (some id) => id
 | _ => fr + n
def zhl (F : List (Nat × Option Nat)) (fr : Nat) : AV -> AV
 | .ref id off => match zb3 id zbv with | true => .ref (tgt F fr id) off | false => .dead
 | .eref id sz i off => match zb3 id zbv with | true => .eref (tgt F fr id) sz i off | false => .dead
 | .sl id sz off n => match zb3 id zbv with | true => .sl (tgt F fr id) sz off n | false => .dead
 | .slc id sz off n cap => match zb3 id zbv with | true => .slc (tgt F fr id) sz off n cap | false => .dead
 | .mp id => match zb3 id zbv with | true => .mp (tgt F fr id) | false => .dead
 | .bidx id off n i => match zb3 id zbv with | true => .bidx (tgt F fr id) off n i | false => .dead
 | .aer p k sz i off => match zb3 p zbv with | true => .aer p k sz i off | false => .dead
 | .asl p k sz off n => match zb3 p zbv with | true => .asl p k sz off n | false => .dead
 | .aep c p k sz i off => match zb3 p zbv with | true => .aep c p k sz i off | false => .dead
 | .fn f a b => match zl8 (.fn f a b) with | true => .fn f a b | false => .dead
 | .agg _ => .dead
 | .tup _ => .dead
 | v => v
def yok (F : List (Nat × Option Nat)) (fr : Nat) : AV -> AV
 | .agg cs => .agg (zcn (zhl F fr) cs)
 | .tup cs => .tup (zcn (zhl F fr) cs)
 | .fn f a b => match zl8 (.fn f a b) with | true => .fn f a b | false => .fn f (zcn (zhl F fr) a) (zcn (zhl F fr) b)
 | v => zhl F fr v
def zkd (F : List (Nat × Option Nat)) (fr : Nat) : Ob -> Ob
 | .box ty cs => .box ty (zcn (zhl F fr) cs)
 | .spr ty cs => .spr ty (zcn (zhl F fr) cs)
 | .mapl kk es => .mapl kk (zcn (fun x => (x.1, zhl F fr x.2)) es)
 | o => o
def zg5 (F : List (Nat × Option Nat)) (O1 : List (Nat × Ob)) : List (Nat × Ob) -> List (Nat × Ob)
 | [] => []
 | (n, _) :: r => match za2 O1 n with
   | some _ => zg5 F O1 r
   | none => match za2 F n with
     | some (some id) => (id, .gone) :: zg5 F O1 r
     | _ => zg5 F O1 r
def zls (F : List (Nat × Option Nat)) (fr : Nat) : List (Nat × Ob) -> List (Nat × Ob)
 | [] => []
 | (n, o) :: r => (tgt F fr n, zkd F fr o) :: zls F fr r
def zct (id : Nat) : Bool := match zbh 500000 id with | true => zb3 id 600000 | false => false
def zit (objs : List (Nat × Ob)) (F : List (Nat × Option Nat)) (fr : Nat) : List (Nat × Ob) -> Bool
 | [] => true
 | (n, o) :: r => match za2 F n with
   | some (some _) => zit objs F fr r
   | _ => match za2 objs (fr + n), zct (fr + n), zb4 (fr + n), zau o with
     | none, false, false, false => zit objs F fr r
     | _, _, _, _ => false
def tabsOk (F : List (Nat × Option Nat)) (O O1 : List (Nat × Ob)) : Bool := tabsOk1 O O1 && (tabsOk1 O1 O && tabsOk2 F O)
where
 tabsOk1 : List (Nat × Ob) -> List (Nat × Ob) -> Bool
   | [], _ => true
   | (i, .tab ty sz _ _ _) :: r, O1 => match za2 O1 i with
     | some (.tab ty' sz' _ _ _) => match za5 ty ty', za5 sz sz' with | true, true => tabsOk1 r O1 | _, _ => false
     | _ => false
   | (i, _) :: r, O1 => match za2 O1 i with
     | some (.tab _ _ _ _ _) => false
     | _ => tabsOk1 r O1
 tabsOk2 (F : List (Nat × Option Nat)) : List (Nat × Ob) -> Bool
   | [] => true
   | (i, .tab _ _ _ _ _) :: r => match za2 F i with
     | some x => match yiq i x with | true => tabsOk2 F r | false => false
     | none => false
   | _ :: r => tabsOk2 F r
def zu2 : List (Nat × Ob) -> Bool
 | [] => true
 | (_, .gone) :: _ => false
 | _ :: r => zu2 r
def ynl : List (Nat × Ob) -> Bool
 | [] => true
 | (n, _) :: r => match zb3 n zbv with | true => ynl r | false => false
def zqi (O1 : List (Nat × Ob)) : List (Nat × Ob) -> List Prop
 | [] => []
 | (i, .tab _ _ n _ _) :: r => match za2 O1 i with
   | some (.tab _ _ n' _ _) => (n <= n') :: zqi O1 r
   | _ => zqi O1 r
 | _ :: r => zqi O1 r
def yl3 (s : St) (raw : List AV) (T : yn4) : Option zcm :=
 match za5 (zdo raw) (zdo T.xs) with
 | true => match zfy (zwt 0 raw) (zwt 0 T.xs) ⟨[], zpk (zp8 T.O)⟩ with
   | some m => match zh5 s [] T.O m with
     | some m => match ycd T.O m.ids, zu2 T.O1, tabsOk m.ids T.O T.O1, ynl T.O && ynl T.O1 with
       | true, true, true, true => some ⟨zb9 (zqi T.O1 T.O) m.ps, m.ids⟩
       | _, _, _, _ => none
     | none => none
   | none => none
 | false => none
def yg4 : List Prop -> zcb -> zcb
 | [], t => t
 | p :: r, t => .must p (yg4 r t)
section
variable (T : TT) (L : za9) (S : zn1) (draw : Bool) (ops : List Oper)
def zu1 (acc : List (Nat × Ent)) (i : Nat) (x : Ent) : List (Nat × Ent) :=
 match x.ids with
 | [] => match x.wr with
   | [] => acc
   | _ => (i, x) :: acc
 | _ => (i, x) :: acc
def zfo (o : Oper) (i : Nat) (s : St) (acc : List (Nat × Ent)) (ids wr : List Nat) (v : AV) (os : List (Nat × Ob)) (ice : List Nat)
   (next : St -> List (Nat × Ent) -> zcb) : zcb :=
 match draw with
 | true => match zil ops o.after.toList ⟨zb9 ice ids, zb9 wr (keys os)⟩ acc with
   | true => next (s.eff o.dst v os ice (zq6 s.kn o.op)) (zu1 acc i ⟨zb9 ice ids, zb9 wr (keys os)⟩)
   | false => .fail 100
 | false => next (s.eff o.dst v os ice (zq6 s.kn o.op)) acc
def ypu (o : Oper) (i : Nat) (s : St) (acc : List (Nat × Ent)) (ids wr : List Nat) (next : St -> List (Nat × Ent) -> zcb) : zc0 -> zcb
 | .ok v os ice => zfo draw ops o i s acc ids wr v os ice next
 | .okIf b v os ice => .need b (zfo draw ops o i s acc ids wr v os ice next)
 | .okP p v os ice => .must p (zfo draw ops o i s acc ids wr v os ice next)
 | .alt b v os q v' os' => .ite b (zfo draw ops o i s acc ids wr v os [] next) (.need q (zfo draw ops o i s acc ids wr v' os' [] next))
 | .call f xs ice => match S.fz f xs with
   | some (p, r) => .must p (zfo draw ops o i s acc ids wr r [] ice next)
   | none => .call f xs (fun r => zfo draw ops o i s acc ids wr r [] ice next)
 | .callB f xs => match S.fz f xs with
   | some (p, r) => match zzd r with
     | true => .must p (zfo draw ops o i s acc ids wr r [] [] next)
     | false => .fail 108
   | none => .fail 108
 | .bad n => .fail n
def zxc (s : St) (o : Oper) : List Nat := match draw with
 | true => zb9 (match zbz o.op with | true => (match o.dst with | some d => [d] | none => []) | false => []) (yni o.op (zcn (evf (za2 s.slots) s.kn) (zbu o.op)))
 | false => []
def ynr (s : St) (o : Oper) : List Nat := match draw with
 | true => match zn5 o.op with
   | true => yh1 (zcn (evf (za2 s.slots) s.kn) (zbu o.op))
   | false => []
 | false => []
def ypt (o : Oper) (i : Nat) (s : St) (acc : List (Nat × Ent)) (next : St -> List (Nat × Ent) -> zcb) (m : yth) (raw : List AV) : zcb :=
 match m raw (za2 s.objs) with
 | some t => match yl3 s raw t with
   | some mt => match zit s.objs mt.ids (1000000 * (zdo s.objs + 1)) t.O1 with
     | true => yg4 mt.ps (.must t.p (zfo draw ops o i s acc (zxc draw s o) (ynr draw s o) (yok mt.ids (1000000 * (zdo s.objs + 1)) t.r)
         (zb9 (zls mt.ids (1000000 * (zdo s.objs + 1)) t.O1) (zg5 mt.ids t.O1 t.O)) [] next))
     | false => .fail 107
   | none => .fail 106
 | none => .fail 105
def zse : Op -> Bool
 | .call { callee := .value _, .. } => true
 | _ => false
def zqr (o : Oper) (i : Nat) (s : St) (acc : List (Nat × Ent)) (next : St -> List (Nat × Ent) -> zcb) : zcb :=
 match (match zse o.op with
   | true => match zcn (evf (za2 s.slots) s.kn) (zbu o.op) with
     | .fn f first caps :: xs => match S.mt f with
       | some m => some (m, zb9 first (zb9 xs caps))
       | none => none
     | _ => none
   | false => none) with
 | some (m, raw) => ypt draw ops o i s acc next m raw
 | none => ypu S draw ops o i s acc (zxc draw s o) (ynr draw s o) next (zj6 T L (za2 s.slots) (za2 s.objs) (zbp s.ice) s.kn o)
def zd6 : List Oper -> Nat -> St -> List (Nat × Ent) -> (St -> zcb) -> zcb
 | [], _, s, _, k => k s
 | o :: r, i, s, acc, k => match zh8 ops o with
   | none => zqr T L S draw ops o i s acc (fun s acc => zd6 r (i + 1) s acc k)
   | some (none, _) => .fail 101
   | some (some t, w) => match za2 s.kn t with
     | some b => match w, b with
       | true, true => zqr T L S draw ops o i s acc (fun s acc => zd6 r (i + 1) s acc k)
       | false, false => zqr T L S draw ops o i s acc (fun s acc => zd6 r (i + 1) s acc k)
       | _, _ => zd6 r (i + 1) (s.eff o.dst (.tup []) [] [] none) acc k
     | none => match za2 s.slots t with
       | some (.tup []) => zd6 r (i + 1) (s.eff o.dst (.tup []) [] [] none) acc k
       | some (.bool b) => match w with
         | true => .ite b (zqr T L S draw ops o i (s.know t true) acc (fun s acc => zd6 r (i + 1) s acc k))
             (zd6 r (i + 1) ((s.know t false).eff o.dst (.tup []) [] [] none) acc k)
         | false => .ite b (zd6 r (i + 1) ((s.know t true).eff o.dst (.tup []) [] [] none) acc k)
             (zqr T L S draw ops o i (s.know t false) acc (fun s acc => zd6 r (i + 1) s acc k))
       | _ => .fail 102
end
def zkz : Op -> Bool
 | .store _ _ (.const (.bool _)) => true
 | _ => false
def zs5 : List Oper -> Bool
 | [] => true
 | o :: r => match o.guard with | none => zs5 r | some _ => false
def yd7 : List Oper -> Option Nat
 | [a, b, c, d] => match zkz b.op, zkz c.op with
   | true, true => match zax b.after.toList 0, zax c.after.toList 0, zax d.after.toList 1, zax d.after.toList 2, zs5 [a, b, c, d] with
     | true, true, true, true, true => d.dst
     | _, _, _, _, _ => none
   | _, _ => none
 | _ => none
def yo1 : List Oper -> List Oper
 | [a, b, c, d] => [a, c, b, d]
 | l => l
def ygs (v : Nat) (k : St -> zcb) (s : St) : zcb := match za2 s.slots v with
 | some (.bool b) => k (s.know v b)
 | _ => .fail 103
def zru (T : TT) (L : za9) (S : zn1) (draw : Bool) (ops : List Oper) (s : St) (k : St -> zcb) : zcb :=
 match cond draw (yd7 ops) none with
 | some v => zd6 T L S false ops (zcs ops 1) 0 s [] (fun s => .and (zd6 T L S false ops (zd4 ops 1) 1 s [] (ygs v k))
     (zd6 T L S false ops (zd4 (yo1 ops) 1) 1 s [] (ygs v k)))
 | none => zd6 T L S draw ops ops 0 s [] k
structure Ann where
 X : Type
 slots : X -> List (Nat × AV)
 objs : X -> List (Nat × Ob)
 keep : List Nat
 hold : List Nat
 inv : X -> Prop
 mu : X -> Nat
def zlv (slots : List (Nat × AV)) : List Nat -> Option (List (Nat × AV))
 | [] => some []
 | t :: r => match zbh 700000 t with
   | true => zlv slots r
   | false => match za2 slots t with
     | some v => match zlv slots r with
       | some l => some ((t, v) :: l)
       | none => none
     | none => none
def yss : List Nat -> List Nat
 | [] => []
 | t :: r => match zbh 700000 t with
   | true => (t - 700000) :: yss r
   | false => yss r
def zob (objs : List (Nat × Ob)) : List Nat -> Option (List (Nat × Ob))
 | [] => some []
 | t :: r => match za2 objs t with
   | some v => match zob objs r with
     | some l => some ((t, v) :: l)
     | none => none
   | none => none
def zrx : List (Nat × Option Nat) -> Bool
 | [] => true
 | (t, x) :: r => match zct t with
   | true => match yiq t x with | true => zrx r | false => false
   | false => zrx r
def zhz : List (Nat × Ob) -> List (Nat × Ob) -> Bool
 | [], _ => true
 | (i, .tab _ _ _ _ _) :: r, tm => match za2 tm i with
   | some (.tab _ _ _ _ _) => zhz r tm
   | _ => false
 | _ :: r, tm => zhz r tm
def zwz (s tm : St) (hold : List Nat) (next : zcb) : zcb :=
 match zfy s.slots tm.slots ⟨[], zpk (zb9 (zp8 tm.objs) hold)⟩ with
 | some m => match zh5 s tm.ice tm.objs m with
   | some m => match ycd tm.objs m.ids, yh0 tm.objs tm.ice, zrx m.ids with
     | true, true, true => match zhz s.objs tm.objs && ynl tm.objs with
       | true => yg4 (zb9 (zqi tm.objs s.objs) m.ps) next
       | false => .fail 203
     | _, _, _ => .fail 202
   | none => .fail 201
 | none => .fail 200
def zsh (ice : List Nat) : List Nat -> List Nat
 | [] => []
 | i :: r => match zbp ice i with | true => i :: zsh ice r | false => zsh ice r
def St.int (s : St) (t : Nat) : Int := match za2 s.slots t with | some (.int _ n) => n | _ => 0
def St.str (s : St) (t : Nat) : List UInt8 := match za2 s.slots t with | some (.str l) => l | _ => []
def zh0 (s : St) (t : Nat) (f : Int -> Option Ann) : Option Ann := match za2 s.slots t with | some (.int _ n) => f n | _ => none
def Ann.st (a : Ann) (ks : List (Nat × AV)) (ko : List (Nat × Ob)) (ice : List Nat) (x : a.X) : St :=
 ⟨zb9 (a.slots x) ks, zb9 (a.objs x) ko, zb9 (yss a.keep) (zsh ice a.hold), []⟩
def zdh : Code -> List Nat
 | .seq a b => zb9 (zdh a) (zdh b)
 | .label l => [l]
 | _ => []
section
variable (T : TT) (L : za9) (S : zn1) (lo lb : Nat -> St -> Option Ann)
def noL : Nat -> Bool := fun _ => false
def zff (a : Ann) (ks : List (Nat × AV)) (ko : List (Nat × Ob)) (ice : List Nat) (m : Option Nat) (s : St) : zcb :=
 .ex a.X fun x => zwz s (a.st ks ko ice x) a.hold (.must (a.inv x) (match m with
   | some m => .must (a.mu x < m) .yes
   | none => .yes))
abbrev K := Ex -> St -> zcb
def jump (again : Code -> St -> zcb) (body : Code) (base : St) (m : Option Nat) (k : K) : K := fun e s => match e with
 | .goto l => match findLabel body l with
   | some rest => match lb l base with
     | some a => match zlv base.slots a.keep with
       | some ks => match zob base.objs a.hold with
         | some ko => zff a ks ko base.ice m s
         | none => .fail 210
       | none => .fail 211
     | none => again rest s
   | none => k (.goto l) s
 | e => k e s
def zev (body : Code) (base : St) (pass : Code -> St -> Nat -> zcb) : List Nat -> zcb -> zcb
 | [], t => t
 | l :: r, t => match lb l base with
   | some a => match findLabel body l with
     | some rest => match zlv base.slots a.keep with
       | some ks => match zob base.objs a.hold with
         | some ko => .and (.all a.X fun x => .sup (a.inv x) (pass rest (a.st ks ko base.ice x) (a.mu x))) (zev body base pass r t)
         | none => .fail 210
       | none => .fail 211
     | none => zev body base pass r t
   | none => zev body base pass r t
def zmb (pass : Code -> Code -> St -> K -> Option Nat -> St -> zcb) (body : Code) (s : St) (k : K) : zcb :=
 zev lb body s (fun rest s' m => pass body rest s' k (some m) s) (zdh body) (pass body body s k none s)
def yli : Option Ann -> Bool
 | some _ => true
 | none => false
def litJ : Operand -> St -> Option Ann
 | .tmp t, s => lo (2000000 + t) s
 | _, _ => none
def ypm (an : Ann) (ks : List (Nat × AV)) (ko : List (Nat × Ob)) (ice : List Nat) (k : K) : K := fun e s' => match e with
 | .normal => zff an ks ko ice none s'
 | e => k e s'
def run (sc : Code -> St -> K -> zcb) : (Nat -> Bool) -> Code -> St -> K -> zcb
 | _, .skip, s, k => k .normal s
 | _, .region _ ops d, s, k => zru T L S d ops.toList s (fun s => k .normal s)
 | A, .seq a b, s, k => run sc A a s (fun e s' => match e with
   | .normal => run sc (fun l => match findLabel a l with | some _ => false | none => A l) b s' k
   | e => k e s')
 | _, .cond c a b, s, k => match litOf s.kn c with
   | some v => match litJ lo c s with
     | none => match v with
       | true => run sc noL a s k
       | false => run sc noL b s k
     | some an => match zlv s.slots an.keep with
       | some ks => match zob s.objs an.hold with
         | some ko => .and (match v with
             | true => run sc noL a s (ypm an ks ko s.ice k)
             | false => run sc noL b s (ypm an ks ko s.ice k))
             (.all an.X fun y => .sup (an.inv y) (k .normal (an.st ks ko s.ice y)))
         | none => .fail 231
       | none => .fail 231
   | none => match c with
     | .tmp t => match za2 s.slots t with
       | some (.bool x) => match lo (1000000 + t) s with
         | none => .ite x (run sc noL a (s.know t true) k) (run sc noL b (s.know t false) k)
         | some an => match zlv s.slots an.keep with
           | some ks => match zob s.objs an.hold with
             | some ko => .and (.ite x (run sc noL a (s.know t true) (fun e s' => match e with | .normal => zff an ks ko s.ice none s' | e => k e s'))
                   (run sc noL b (s.know t false) (fun e s' => match e with | .normal => zff an ks ko s.ice none s' | e => k e s')))
                 (.all an.X fun y => .sup (an.inv y) (k .normal (an.st ks ko s.ice y)))
             | none => .fail 231
           | none => .fail 231
       | _ => .fail 230
     | _ => .fail 230
 | _, .block id (.loop body), s, k => match lo id s with
   | some a => match zlv s.slots a.keep with
     | some ks => match zob s.objs a.hold with
       | some ko => .and (zff a ks ko s.ice none s)
           (.all a.X fun x => .sup (a.inv x) (run sc noL body (a.st ks ko s.ice x) (fun e s' => match e with
             | .normal => zff a ks ko s.ice (some (a.mu x)) s'
             | .exit j => match za5 j id with
               | true => k .normal s'
               | false => k (.exit j) s'
             | e => k e s')))
       | none => .fail 210
     | none => .fail 211
   | none => .fail 220
 | _, .block id b, s, k => run sc noL b s (fun e s' => match e with
   | .exit j => match za5 j id with
     | true => k .normal s'
     | false => k (.exit j) s'
   | e => k e s')
 | _, .exit id, s, k => k (.exit id) s
 | _, .scope b, s, k => sc b s k
 | A, .label l, s, k => match A l with
   | true => k (.goto l) s
   | false => k .normal s
 | _, .goto l, s, k => k (.goto l) s
 | _, .ret, s, k => k .ret s
 | _, _, _, _ => .fail 240
def pass : Nat -> Code -> Code -> St -> K -> Option Nat -> St -> zcb
 | 0, _, _, _, _, _, _ => .fail 250
 | n + 1, body, rest, s, k, m, base => run T L S lo (zmb lb (pass n)) (fun l => yli (lb l base)) rest s (jump lb (fun rest' s' => pass n body rest' s' k m base) body base m k)
def yqt (s : St) : ResultVar -> Option AV
 | .tmp t => some (evf (za2 s.slots) [] (.tmp t))
 | .cell a t => match zxo T std t (za2 s.objs) [evf (za2 s.slots) [] (.tmp a)] with
   | .ok v _ _ => some v
   | _ => none
def ya9 (s : St) : List ResultVar -> Option (List AV)
 | [] => some []
 | x :: xs => match yqt T s x with
   | some v => match ya9 s xs with
     | some l => some (v :: l)
     | none => none
   | none => none
def yr4 (rs : List ResultVar) (s : St) : zcb :=
 match ya9 T s rs with
 | some vs => match immVs L (za2 s.objs) vs with
   | some [v] => .done v
   | some vs => .done (.tup vs)
   | none => match zvp L (za2 s.objs) vs with
     | some [v] => .done v
     | some vs => .done (.tup vs)
     | none => .fail 260
 | none => .fail 261
def finT (rs : List ResultVar) : K := fun e s => match e with
 | .normal => yr4 T L rs s
 | .ret => yr4 T L rs s
 | _ => .fail 262
def zkm {α : Type} : Nat -> List α -> List (Nat × α)
 | _, [] => []
 | i, x :: xs => (i, x) :: zkm (i + 1) xs
def yfk (n : Nat) (f : Func) (xs : List AV) (O : List (Nat × Ob)) : zcb :=
 match f.body with
 | some c => run T L S lo (zmb lb (pass T L S lo lb n)) noL c ⟨zkm 0 xs, O, [], []⟩ (finT T L f.results.toList)
 | none => .fail 270
def runF (n : Nat) (f : Func) (xs : List AV) : zcb := yfk T L S lo lb n f xs []
end
end Sy
end Go.Proofs.Ytogomcfgfnlclaa
namespace Go.Proofs.Ytogomcfgfnlclaa
namespace Sy
open Go Go.RowKit
set_option linter.unusedSimpArgs false
set_option linter.unusedVariables false
abbrev Mu := Nat -> Option (Option (Nat × Nat × Nat))
abbrev zar : Mu := fun _ => none
def hcell (h : Array Obj) (b o : Nat) : Option Value := match h[b]? with
 | some (.cells c _ _) => c[o]?
 | _ => none
theorem zel (w : World) (b o : Nat) : w.cell? ⟨b, o, none⟩ = hcell w.heap b o := by
 unfold World.cell? hcell
 cases h : w.heap[b]? with
 | none => rfl
 | some x => cases x <;> rfl
theorem zv1 {h h' : Array Obj} {b : Nat} (e : h'[b]? = h[b]?) (o : Nat) : hcell h' b o = hcell h b o := by unfold hcell; rw [e]
theorem zao {h : Array Obj} {b : Nat} {c : Array Value} {t : TypeId} {fr : Nat × Nat} (e : h[b]? = some (.cells c t fr)) (o : Nat) : hcell h b o = c[o]? := by unfold hcell; rw [e]
theorem zcu {id : Nat} : zb4 id = true ↔ zbv <= id := decide_eq_true_iff
theorem zaw {id : Nat} : zb4 id = false ↔ id < zbv := by rw [<- Bool.not_eq_true, zcu]; omega
theorem ze6 {t : Nat} (ht : t < zbv) (k : Nat) : zb4 (mid t k) = true /\ zgg (mid t k) = t /\ zp1 (mid t k) = k := by
 unfold mid zgg zp1
 refine ⟨zcu.2 ?_, ?_, ?_⟩
 · rw [Nat.mul_add]; omega
 · rw [Nat.add_mul_mod_self_left, Nat.mod_eq_of_lt ht]
 · rw [Nat.add_mul_div_left _ _ (Nat.lt_of_le_of_lt (Nat.zero_le _) ht), Nat.div_eq_of_lt ht, Nat.zero_add, Nat.add_sub_cancel]
theorem yp2 {id : Nat} (h : zb4 id = true) : zgg id < zbv /\ mid (zgg id) (zp1 id) = id := by
 have h := zcu.1 h
 have hb : 0 < zbv := by unfold zbv; omega
 unfold mid zgg zp1
 refine ⟨Nat.mod_lt _ hb, ?_⟩
 have h1 : 0 < id / zbv := Nat.div_pos h hb
 rw [Nat.sub_add_cancel h1]
 exact Nat.mod_add_div id zbv
def zdx (o : Option Ob) (k : Nat) : Option Ob := match o with
 | some (.tab ty sz n len get) => if k < n then some (.row ty sz (len k) (get k)) else none
 | _ => none
def gx (g : Nat -> Option Ob) : Nat -> Option Ob := fun id => if zb4 id = true then zdx (g (zgg id)) (zp1 id) else g id
theorem yis {g : Nat -> Option Ob} {t : Nat} (ht : t < zbv) (k : Nat) : gx g (mid t k) = zdx (g t) k := by
 obtain ⟨h1, h2, h3⟩ := ze6 ht k
 unfold gx
 rw [if_pos h1, h2, h3]
theorem zab {g : Nat -> Option Ob} {id : Nat} (h : zb4 id = false) : gx g id = g id := by unfold gx; rw [if_neg (by rw [h]; decide)]
def pm (q : Nat) (μ : Mu) : Mu := fun id => if zb4 id = true /\ zgg id = q then μ id else none
theorem yas {q : Nat} {μ : Mu} {id : Nat} {x : Option (Nat × Nat × Nat)} (h : pm q μ id = some x) : μ id = some x := by
 unfold pm at h
 split at h
 · exact h
 · cases h
theorem zno {q : Nat} {μ μ' : Mu} (hm : ∀ id x, μ id = some x -> μ' id = some x) : ∀ id x, pm q μ id = some x -> pm q μ' id = some x := by
 intro id x h
 unfold pm at h |-
 split at h
 · rename_i e; rw [if_pos e]; exact hm _ _ h
 · cases h
abbrev one (v : Value) : Prop := v.oneCell' = true
def zn2 (kk : KK) (v : Value) (k : Ky) : Prop := match kk with
 | .i ik => ∃ n, v = .int ik n /\ k = .i n
 | .s => ∃ s : ByteArray, v = .string s /\ k = .s s.data.toList
 | .a ks => ∃ l : List Int, l.length = ks.length /\ v = .agg ((ks.zip l).map fun x => Value.int x.1 x.2).toArray /\ k = .a l
 | .no => False
structure zd0 (kk : KK) (has : Ky -> Bool) (es : Array MapEntry) (clock : Nat) (kf : Nat -> Ky) : Prop where
 key : ∀ (i : Nat) e, es[i]? = some e -> zn2 kk e.key (kf i) /\ has (kf i) = true
 all : ∀ k, has k = true -> ∃ i, i < es.size /\ kf i = k
 st : MapKept.Stamped es clock
inductive R (h : Array Obj) (D : Nat -> Prop) : Mu -> AV -> Value -> Prop
 | dead {μ : Mu} (v : Value) : R h D μ .dead v
 | bool {μ : Mu} (b : Bool) : R h D μ (.bool b) (.bool b)
 | int {μ : Mu} (k : IntKind) (n : Int) : R h D μ (.int k n) (.int k n)
 | str {μ : Mu} (l : List UInt8) (s : ByteArray) (e : s.data.toList = l) : R h D μ (.str l) (.string s)
 | flt {μ : Mu} (k : FloatKind) (b : Nat) : R h D μ (.flt k b) (.float k b)
 | cpx {μ : Mu} (k : FloatKind) (a b : Nat) : R h D μ (.cpx k a b) (.complex k a b)
 | nilp {μ : Mu} : R h D μ .nilp (.pointer none)
 | nilm {μ : Mu} : R h D μ .nilm (.map none)
 | nilf {μ : Mu} : R h D μ .nilf .nilFunc
 | nils {μ : Mu} : R h D μ .nils (.slice none 0 0)
 | nili {μ : Mu} : R h D μ .nili .nilIface
 | ifn {μ : Mu} : R h D μ (.ifb true) .nilIface
 | ifs {μ : Mu} (t : TypeId) (p : Value) : R h D μ (.ifb false) (.iface t p)
 | emp {μ : Mu} (a : Addr) (cap : Nat) : R h D μ .emp (.slice (some a) 0 cap)
 | emz {μ : Mu} (a : Addr) : R h D μ .emz (.slice (some a) 0 0)
 | lst0 {μ : Mu} (sz : Nat) (get : Nat -> Nat -> AV) (a : Option Addr) (cap : Nat) (hn : a = none -> cap = 0) : R h D μ (.lst sz 0 get) (.slice a 0 cap)
 | lst {μ : Mu} (sz n : Nat) (get : Nat -> Nat -> AV) (b o cap : Nat) (vs : Nat -> Nat -> Value) (hD : D b) (hc : n <= cap)
     (hv : ∀ i j, i < n -> j < sz -> hcell h b (o + i * sz + j) = some (vs i j)) (h1 : ∀ i j, i < n -> j < sz -> one (vs i j))
     (hr : ∀ i j, i < n -> j < sz -> R h D zar (get i j) (vs i j)) : R h D μ (.lst sz n get) (.slice (some ⟨b, o, none⟩) n cap)
 | lstx {μ : Mu} (sz n : Nat) (get : Nat -> Nat -> AV) (a : Option Addr) (r : R h D μ (.lst sz n get) (.slice a n n)) : R h D μ (.lstx sz n get) (.slice a n n)
 | iptr {μ : Mu} (n : Nat) (get : Nat -> AV) (b o : Nat) (vs : Nat -> Value) (hD : D b) (hv : ∀ j, j < n -> hcell h b (o + j) = some (vs j))
     (h1 : ∀ j, j < n -> one (vs j)) (hr : ∀ j, j < n -> R h D zar (get j) (vs j)) : R h D μ (.iptr n get) (.pointer (some ⟨b, o, none⟩))
 | ref {μ : Mu} (id off b z m : Nat) (hm : μ id = some (some (b, z, m))) : R h D μ (.ref id off) (.pointer (some ⟨b, off, none⟩))
 | eref {μ : Mu} (id sz i off b z m : Nat) (hm : μ id = some (some (b, z, m))) (hi : i < m) : R h D μ (.eref id sz i off) (.pointer (some ⟨b, i * sz + off, none⟩))
 | slv {μ : Mu} (id sz : Nat) (a : Option Addr) (hm : μ id = some none) : R h D μ (.sl id sz 0 0) (.slice a 0 0)
 | sl0 {μ : Mu} (id sz off b z m o : Nat) (hm : μ id = some (some (b, z, m))) (ho : off <= m) : R h D μ (.sl id sz off 0) (.slice (some ⟨b, o, none⟩) 0 0)
 | sl {μ : Mu} (id sz off n b z m cap : Nat) (hm : μ id = some (some (b, z, m))) (hn : n <= cap) (hz : (off + cap) * sz <= z) (ho : off + n <= m) : R h D μ (.sl id sz off n) (.slice (some ⟨b, off * sz, none⟩) n cap)
 | slcv {μ : Mu} (id sz : Nat) (a : Option Addr) (hm : μ id = some none) : R h D μ (.slc id sz 0 0 0) (.slice a 0 0)
 | slc0 {μ : Mu} (id sz off b z m o : Nat) (hm : μ id = some (some (b, z, m))) (ho : off <= m) : R h D μ (.slc id sz off 0 0) (.slice (some ⟨b, o, none⟩) 0 0)
 | slc {μ : Mu} (id sz off n cap b z m : Nat) (hm : μ id = some (some (b, z, m))) (hn : n <= cap) (hz : (off + cap) * sz <= z) (ho : off + cap <= m) : R h D μ (.slc id sz off n cap) (.slice (some ⟨b, off * sz, none⟩) n cap)
 | fn {μ : Mu} (f : FuncId) (xs ys : List AV) (vs us : Array Value) (e1 : xs.length = vs.size) (e2 : ys.length = us.size)
     (h1 : ∀ (i : Nat) x v, xs[i]? = some x -> vs[i]? = some v -> R h D μ x v) (h2 : ∀ (i : Nat) x v, ys[i]? = some x -> us[i]? = some v -> R h D μ x v) : R h D μ (.fn f xs ys) (.func (.func f) vs us)
 | agg {μ : Mu} (cs : List AV) (vs : Array Value) (e : cs.length = vs.size) (h1 : ∀ (i : Nat) v, vs[i]? = some v -> one v)
     (hr : ∀ (i : Nat) x v, cs[i]? = some x -> vs[i]? = some v -> R h D μ x v) : R h D μ (.agg cs) (.agg vs)
 | arr {μ : Mu} (n : Nat) (get : Nat -> AV) (vs : Array Value) (e : n = vs.size) (h1 : ∀ (i : Nat) v, vs[i]? = some v -> one v)
     (hr : ∀ (i : Nat) v, vs[i]? = some v -> R h D zar (get i) v) : R h D μ (.arr n get) (.agg vs)
 | tup {μ : Mu} (cs : List AV) (vs : Array Value) (e : cs.length = vs.size) (hr : ∀ (i : Nat) x v, cs[i]? = some x -> vs[i]? = some v -> R h D μ x v) : R h D μ (.tup cs) (.tuple vs)
 | bidx {μ : Mu} (id off n i b z m : Nat) (hm : μ id = some (some (b, z, m))) (hi : i < n) : R h D μ (.bidx id off n i) (.pointer (some ⟨b, off + i, none⟩))
 | mp {μ : Mu} (id b z m : Nat) (hm : μ id = some (some (b, z, m))) : R h D μ (.mp id) (.map (some b))
 | mpi {μ : Mu} (kk : KK) (n : Nat) (has : Ky -> Bool) (val : Ky -> AV) (b : Nat) (es : Array MapEntry) (clock : Nat) (kf : Nat -> Ky) (hD : D b)
     (hb : h[b]? = some (.map es clock)) (hn : es.size = n) (hk : zd0 kk has es clock kf)
     (hr : ∀ (i : Nat) e, es[i]? = some e -> R h D zar (val (kf i)) e.val) : R h D μ (.mpi kk n has val) (.map (some b))
 | aer {μ : Mu} (p k sz i off b z m : Nat) (hm : μ (mid p k) = some (some (b, z, m))) (hi : i < m) : R h D μ (.aer p k sz i off) (.pointer (some ⟨b, i * sz + off, none⟩))
 | aslv {μ : Mu} (p k sz : Nat) (a : Option Addr) (hm : μ (mid p k) = some none) : R h D μ (.asl p k sz 0 0) (.slice a 0 0)
 | asl0 {μ : Mu} (p k sz off b z m o : Nat) (hm : μ (mid p k) = some (some (b, z, m))) (ho : off <= m) : R h D μ (.asl p k sz off 0) (.slice (some ⟨b, o, none⟩) 0 0)
 | asl {μ : Mu} (p k sz off n b z m cap : Nat) (hm : μ (mid p k) = some (some (b, z, m))) (hn : n <= cap) (hz : (off + cap) * sz <= z) (ho : off + n <= m) : R h D μ (.asl p k sz off n) (.slice (some ⟨b, off * sz, none⟩) n cap)
 | aepn {μ : Mu} (p k sz i off : Nat) : R h D μ (.aep false p k sz i off) (.pointer none)
 | aepp {μ : Mu} (p k sz i off b z m : Nat) (hm : μ (mid p k) = some (some (b, z, m))) (hi : i < m) : R h D μ (.aep true p k sz i off) (.pointer (some ⟨b, i * sz + off, none⟩))
theorem R.mono' {h h' : Array Obj} {D D' : Nat -> Prop} (hb : ∀ b, D b -> h'[b]? = h[b]?) (hD : ∀ b, D b -> D' b) {μ : Mu} {x : AV} {v : Value}
   (r : R h D μ x v) : ∀ μ' : Mu, (∀ id x, μ id = some x -> μ' id = some x) -> R h' D' μ' x v := by
 induction r with
 | dead v => exact fun _ _ => .dead v
 | bool b => exact fun _ _ => .bool b
 | int k n => exact fun _ _ => .int k n
 | str l s e => exact fun _ _ => .str l s e
 | flt k b => exact fun _ _ => .flt k b
 | cpx k a b => exact fun _ _ => .cpx k a b
 | nilp => exact fun _ _ => .nilp
 | nilm => exact fun _ _ => .nilm
 | nilf => exact fun _ _ => .nilf
 | nils => exact fun _ _ => .nils
 | nili => exact fun _ _ => .nili
 | ifn => exact fun _ _ => .ifn
 | ifs t p => exact fun _ _ => .ifs t p
 | emp a cap => exact fun _ _ => .emp a cap
 | emz a => exact fun _ _ => .emz a
 | lst0 sz get a cap hn => exact fun _ _ => .lst0 sz get a cap hn
 | lst sz n get b o cap vs hD0 hc hv h1 hr ih => exact fun _ _ => .lst sz n get b o cap vs (hD b hD0) hc (fun i j hi hj => by rw [zv1 (hb b hD0)]; exact hv i j hi hj) h1 (fun i j hi hj => ih i j hi hj zar (fun _ _ h => h))
 | lstx sz n get a r ih => exact fun μ' hm => .lstx sz n get a (ih μ' hm)
 | iptr n get b o vs hD0 hv h1 hr ih => exact fun _ _ => .iptr n get b o vs (hD b hD0) (fun j hj => by rw [zv1 (hb b hD0)]; exact hv j hj) h1 (fun j hj => ih j hj zar (fun _ _ h => h))
 | ref id off b z m hm0 => exact fun _ hm => .ref id off b z m (hm _ _ hm0)
 | eref id sz i off b z m hm0 hi => exact fun _ hm => .eref id sz i off b z m (hm _ _ hm0) hi
 | slv id sz a hm0 => exact fun _ hm => .slv id sz a (hm _ _ hm0)
 | sl0 id sz off b z m o hm0 ho => exact fun _ hm => .sl0 id sz off b z m o (hm _ _ hm0) ho
 | sl id sz off n b z m cap hm0 hn hz ho => exact fun _ hm => .sl id sz off n b z m cap (hm _ _ hm0) hn hz ho
 | slcv id sz a hm0 => exact fun _ hm => .slcv id sz a (hm _ _ hm0)
 | slc0 id sz off b z m o hm0 ho => exact fun _ hm => .slc0 id sz off b z m o (hm _ _ hm0) ho
 | slc id sz off n cap b z m hm0 hn hz ho => exact fun _ hm => .slc id sz off n cap b z m (hm _ _ hm0) hn hz ho
 | fn f xs ys vs us e1 e2 h1 h2 ih1 ih2 => exact fun μ' hm => .fn f xs ys vs us e1 e2 (fun i x v h1 h2 => ih1 i x v h1 h2 μ' hm) (fun i x v h1 h2 => ih2 i x v h1 h2 μ' hm)
 | agg cs vs e h1 hr ih => exact fun μ' hm => .agg cs vs e h1 (fun i x v h1 h2 => ih i x v h1 h2 μ' hm)
 | arr n get vs e h1 hr ih => exact fun _ _ => .arr n get vs e h1 (fun i v hv => ih i v hv zar (fun _ _ h => h))
 | tup cs vs e hr ih => exact fun μ' hm => .tup cs vs e (fun i x v h1 h2 => ih i x v h1 h2 μ' hm)
 | bidx id off n i b z m hm0 hi => exact fun _ hm => .bidx id off n i b z m (hm _ _ hm0) hi
 | mp id b z m hm0 => exact fun _ hm => .mp id b z m (hm _ _ hm0)
 | mpi kk n has val b es clock kf hD0 hb0 hn hk hr ih => exact fun _ _ => .mpi kk n has val b es clock kf (hD b hD0) ((hb b hD0).trans hb0) hn hk (fun i e he => ih i e he zar (fun _ _ h => h))
 | aer p k sz i off b z m hm0 hi => exact fun _ hm => .aer p k sz i off b z m (hm _ _ hm0) hi
 | aslv p k sz a hm0 => exact fun _ hm => .aslv p k sz a (hm _ _ hm0)
 | asl0 p k sz off b z m o hm0 ho => exact fun _ hm => .asl0 p k sz off b z m o (hm _ _ hm0) ho
 | asl p k sz off n b z m cap hm0 hn hz ho => exact fun _ hm => .asl p k sz off n b z m cap (hm _ _ hm0) hn hz ho
 | aepn p k sz i off => exact fun _ _ => .aepn p k sz i off
 | aepp p k sz i off b z m hm0 hi => exact fun _ hm => .aepp p k sz i off b z m (hm _ _ hm0) hi
theorem R.mono {h h' : Array Obj} {D D' : Nat -> Prop} {μ μ' : Mu} (hb : ∀ b, D b -> h'[b]? = h[b]?) (hD : ∀ b, D b -> D' b) (hm : ∀ id x, μ id = some x -> μ' id = some x) {x : AV} {v : Value}
   (r : R h D μ x v) : R h' D' μ' x v := r.mono' hb hD μ' hm
theorem zs9 {h : Array Obj} {D : Nat -> Prop} {μ μ' : Mu} {sz n : Nat} {get : Nat -> Nat -> AV} {v : Value} (r : R h D μ (.lst sz n get) v) : R h D μ' (.lst sz n get) v := by
 cases r with
 | lst0 _ _ a cap hn => exact .lst0 _ _ a cap hn
 | lst _ _ _ b o cap vs hD hc hv h1 hr => exact .lst _ _ _ b o cap vs hD hc hv h1 hr
theorem R.lessx {h : Array Obj} {D : Nat -> Prop} {μ : Mu} {sz n : Nat} {get : Nat -> Nat -> AV} {v : Value} (r : R h D μ (.lstx sz n get) v) : R h D μ (.lst sz n get) v := by
 cases r with
 | lstx _ _ _ a r => exact r
theorem R.less {h : Array Obj} {D : Nat -> Prop} {μ : Mu} {id sz off n cap : Nat} {v : Value} (r : R h D μ (.slc id sz off n cap) v) : R h D μ (.sl id sz off n) v := by
 cases r with
 | slcv _ _ a hm => exact .slv _ _ a hm
 | slc0 _ _ _ b z m o hm ho => exact .sl0 _ _ _ b z m o hm ho
 | slc _ _ _ _ _ b z m hm hn hz ho => exact .sl _ _ _ _ b z m cap hm hn hz (by omega)
theorem R.aer_of {h : Array Obj} {D : Nat -> Prop} {μ : Mu} {p k sz i off : Nat} {v : Value} (r : R h D μ (.aep true p k sz i off) v) : R h D μ (.aer p k sz i off) v := by
 cases r with
 | aepp _ _ _ _ _ b z m hm hi => exact .aer _ _ _ _ _ b z m hm hi
theorem R.aep_of {h : Array Obj} {D : Nat -> Prop} {μ : Mu} {p k sz i off : Nat} {v : Value} (r : R h D μ (.aer p k sz i off) v) : R h D μ (.aep true p k sz i off) v := by
 cases r with
 | aer _ _ _ _ _ b z m hm hi => exact .aepp _ _ _ _ _ b z m hm hi
def ylr (l : List (List UInt8 × Nat)) : Ky -> Bool
 | .s k => zc8 l k
 | _ => false
def yqo (q sz : Nat) (l : List (List UInt8 × Nat)) : Ky -> AV
 | .s k => .aer q (zds l k) sz 0 0
 | _ => .dead
def zin (l : List (List UInt8 × Nat)) : Prop := l.Pairwise (fun a b => slt a.1 b.1 = true)
theorem R.unpm {h : Array Obj} {D : Nat -> Prop} {q : Nat} {μ : Mu} {x : AV} {v : Value} (r : R h D (pm q μ) x v) : R h D μ x v := r.mono (fun _ _ => rfl) (fun _ h => h) (fun _ _ h => yas h)
theorem R.free {h : Array Obj} {D : Nat -> Prop} {μ : Mu} {x : AV} {v : Value} (r : R h D zar x v) : R h D μ x v := r.mono (fun _ _ => rfl) (fun _ h => h) (fun _ _ h => by cases h)
def RL (h : Array Obj) (D : Nat -> Prop) (μ : Mu) (xs : List AV) (vs : Array Value) : Prop := xs.length = vs.size /\ ∀ (i : Nat) x v, xs[i]? = some x -> vs[i]? = some v -> R h D μ x v
def ones (vs : Array Value) : Prop := ∀ (i : Nat) v, vs[i]? = some v -> one v
def zu3 (n : Nat) (fr : Nat × Nat) : Prop := ∀ o, o < n -> ¬ (fr.1 <= o /\ o < fr.2)
def zdg (h : Array Obj) (D : Nat -> Prop) (μ : Mu) : Ob -> Option (Nat × Nat × Nat) -> Prop
 | .box ty cs, some (b, z, _) => ∃ c t fr, h[b]? = some (.cells c t fr) /\ c.size = z /\ (zu3 z fr /\ t = ty) /\ ones c /\ RL h D μ cs c
 | .row ty sz n get, some (b, z, m) => n = m /\ ∃ c t fr, h[b]? = some (.cells c t fr) /\ c.size = z /\ (zu3 z fr /\ t = ty /\ ones c /\ (1 < sz -> zu3 (z + 1) fr)) /\ n * sz <= z /\
     ∀ i j, i < n -> j < sz -> ∃ v, c[i * sz + j]? = some v /\ one v /\ R h D zar (get i j) v
 | .spr ty cs, some (b, z, _) => ∃ c t fr, h[b]? = some (.cells c t fr) /\ c.size = z /\ (zu3 z fr /\ t = ty) /\ cs.length <= z /\
     ∀ (i : Nat) x, cs[i]? = some x -> ∃ v, c[i]? = some v /\ one v /\ R h D μ x v
 | .rowp q ty sz n get, some (b, z, m) => n = m /\ ∃ c t fr, h[b]? = some (.cells c t fr) /\ c.size = z /\ (zu3 z fr /\ t = ty /\ ones c /\ (1 < sz -> zu3 (z + 1) fr)) /\ n * sz <= z /\
     ∀ i j, i < n -> j < sz -> ∃ v, c[i * sz + j]? = some v /\ one v /\ R h D (pm q μ) (get i j) v
 | .tab _ _ _ _ _, none => True
 | .tab _ _ _ _ _, some _ => False
 | .rowp _ _ _ n _, none => n = 0
 | .map kk n has val, some (b, _) => ∃ es clock kf, h[b]? = some (.map es clock) /\ es.size = n /\ zd0 kk has es clock kf /\ ∀ (i : Nat) e, es[i]? = some e -> R h D zar (val (kf i)) e.val
 | .mapl kk l, some (b, _) => ∃ es clock kf, h[b]? = some (.map es clock) /\ es.size = l.length /\ zd0 kk (fun k => (zbe l k).isSome) es clock kf /\ (l.map Prod.fst).Nodup /\ ∀ (i : Nat) e, es[i]? = some e -> ∃ x, zbe l (kf i) = some x /\ R h D μ x e.val
 | .mapl _ _, none => False
 | .mapq e, some (b, _) => ∃ es clock, h[b]? = some (.map es clock) /\ (e = true -> es = #[])
 | .mapq _, none => False
 | .mapp q sz l, some (b, _) => q < zbv /\ ∃ es clock kf, h[b]? = some (.map es clock) /\ es.size = l.length /\ zd0 .s (ylr l) es clock kf /\ zin l /\ ∀ (i : Nat) e, es[i]? = some e -> R h D (pm q μ) (yqo q sz l (kf i)) e.val
 | .mapp _ _ _, none => False
 | .mapr q sz l, some (b, _) => q < zbv /\ ∃ (es : Array MapEntry) (clock : Nat) (kf : Nat -> Nat), h[b]? = some (.map es clock) /\ (∀ (i : Nat) e, es[i]? = some e -> R h D (pm q μ) (.aer q (kf i) sz 0 0) e.key /\ e.val = .bool true /\ kf i ∈ l) /\ ∀ k ∈ l, ∃ i, i < es.size /\ kf i = k
 | .mapr _ _ _, none => False
 | .map _ _ _ _, none => False
 | .row _ _ n _, none => n = 0
 | .spr _ cs, none => cs = []
 | .gone, _ => True
 | .box _ _, none => False
structure Two where
 wr : Nat -> Prop
 imm : Nat -> Prop
 pin : Nat -> Option (Nat × Nat × Nat)
 mem : Mu := zar
def Plain (g : Nat -> Option Ob) : Prop := ∀ id o, g id = some o -> id < zbv /\ (zau o = true -> zct id = false)
theorem Plain.up {g : Nat -> Option Ob} (h : Plain g) {id : Nat} {o : Ob} (e : g id = some o) : gx g id = some o := by rw [zab (zaw.2 (h id o e).1), e]
theorem Plain.mem {g : Nat -> Option Ob} (h : Plain g) {p k : Nat} {ty sz n : Nat} {len : Nat -> Nat} {get : Nat -> Nat -> Nat -> AV} (e : g p = some (.tab ty sz n len get)) : gx g (mid p k) = if k < n then some (.row ty sz (len k) (get k)) else none := by
 rw [yis (h p _ e).1, e]; rfl
def GIn (base : Nat) (M : Two) (W : World) : Prop := GOk W /\ gN <= base /\ ∀ b, M.wr b -> gN <= b
structure Sim (base : Nat) (M : Two) (W : World) (nt : Nat) (f : Nat -> Option AV) (g : Nat -> Option Ob) (c : Nat -> Bool) (a : Act) (w : World) (D : Nat -> Prop) (μ : Mu) : Prop where
 os : w.os = W.os
 tape : w.tape = W.tape
 output : w.output = W.output
 size : W.heap.size <= w.heap.size
 bs : base <= w.heap.size
 old : ∀ b, b < base -> ¬ M.wr b -> w.heap[b]? = W.heap[b]?
 defers : a.defers = []
 tmps : a.tmps.size = nt
 slots : ∀ t v, f t = some v -> R w.heap D μ v (a.tmps.getD t undef)
 dlt : ∀ b, D b -> b < w.heap.size
 low : ∀ b, D b -> b < base -> M.imm b \/ M.wr b
 domx : ∀ id, μ id = none ↔ gx g id = none
 obsx : ∀ id o x, gx g id = some o -> μ id = some x -> zdg w.heap D μ o x
 injx : ∀ id id' b z z' o o', μ id = some (some (b, z)) -> μ id' = some (some (b, z')) -> gx g id = some o -> gx g id' = some o' -> o ≠ .gone -> o' ≠ .gone -> id = id'
 own : ∀ id b z, μ id = some (some (b, z)) -> b < w.heap.size /\ (base <= b \/ M.wr b)
 kdx : ∀ id b z o, μ id = some (some (b, z)) -> gx g id = some o -> o ≠ .gone -> (c id = true -> D b) /\ (c id = false -> ¬ D b)
 icyx : ∀ id, c id = true -> gx g id ≠ none
 tbs : Plain g
 icm : ∀ id, zb4 id = true -> c id = false
 mems : ∀ id y, zb4 id = true -> M.mem id = some y -> μ id = some y
 ntb : nt <= 500000
 pin : ∀ id y, zct id = true -> μ id = some y -> y = M.pin id
 gl : GIn base M W
def zjq (f : Nat -> Option AV) (dst : Option Nat) (v : AV) : Nat -> Option AV := match dst with
 | some d => fun t => if t = d then some v else f t
 | none => f
def zb7 (g : Nat -> Option Ob) (os : List (Nat × Ob)) : Nat -> Option Ob := fun id => match za2 os id with
 | some o => some o
 | none => g id
def zhd (c : Nat -> Bool) (ice : List Nat) : Nat -> Bool := fun id => zbp ice id || c id
theorem zac {a b : Nat} (h : a ≠ b) : za5 a b = false := by simp [za5, h]
theorem za3 (a : Nat) : za5 a a = true := by simp [za5]
theorem za1 {a b : Nat} (h : za5 a b = true) : a = b := of_decide_eq_true h
theorem zc7 {a b : Nat} : (zb3 a b = true) = (a < b) := by simp [zb3]
theorem zcr {a b : Nat} : (zbh a b = true) = (a <= b) := by simp [zbh]
theorem zdk (c : Nat -> Bool) : zhd c [] = c := by funext id; rfl
section
variable {base : Nat} {M : Two} {W : World} {nt : Nat} {f : Nat -> Option AV} {g : Nat -> Option Ob} {c : Nat -> Bool} {a : Act} {w : World} {D : Nat -> Prop} {μ : Mu}
theorem Sim.obs (h : Sim base M W nt f g c a w D μ) (id : Nat) (o : Ob) (x : Option (Nat × Nat × Nat)) (hg : g id = some o) (hm : μ id = some x) : zdg w.heap D μ o x := h.obsx id o x (h.tbs.up hg) hm
theorem Sim.inj (h : Sim base M W nt f g c a w D μ) (id id' b : Nat) (z z' : Nat × Nat) (o o' : Ob) (h1 : μ id = some (some (b, z))) (h2 : μ id' = some (some (b, z'))) (h3 : g id = some o) (h4 : g id' = some o') (h5 : o ≠ .gone) (h6 : o' ≠ .gone) : id = id' :=
 h.injx id id' b z z' o o' h1 h2 (h.tbs.up h3) (h.tbs.up h4) h5 h6
theorem Sim.kd (h : Sim base M W nt f g c a w D μ) (id b : Nat) (z : Nat × Nat) (o : Ob) (h1 : μ id = some (some (b, z))) (h2 : g id = some o) (h3 : o ≠ .gone) : (c id = true -> D b) /\ (c id = false -> ¬ D b) := h.kdx id b z o h1 (h.tbs.up h2) h3
theorem Sim.gok (h : Sim base M W nt f g c a w D μ) : GOk w := yhz h.gl.1 h.size fun b hb => h.old b (Nat.lt_of_lt_of_le hb h.gl.2.1) fun hw => absurd hb (Nat.not_lt_of_le (h.gl.2.2 b hw))
theorem Sim.gown (h : Sim base M W nt f g c a w D μ) {id b : Nat} {z : Nat × Nat} (hm : μ id = some (some (b, z))) : gN <= b := by
 rcases (h.own id b z hm).2 with h1 | h1
 · exact Nat.le_trans h.gl.2.1 h1
 · exact h.gl.2.2 b h1
theorem yh6 (a : Act) (d : Tmp) (v : Value) (t : Tmp) (hd : d < a.tmps.size) : (a.put (some d) v).tmps.getD t undef = if t = d then v else a.tmps.getD t undef := by
 simp only [Act.put, Array.getD_eq_getD_getElem?, Array.getElem?_setIfInBounds]
 by_cases h : d = t
 · subst h; simp [hd]
 · rw [if_neg h, if_neg (fun e => h e.symm)]
theorem Sim.put (h : Sim base M W nt f g c a w D μ) {dst : Option Nat} (hd : ∀ d, dst = some d -> d < nt) {v : AV} {u : Value} (r : R w.heap D μ v u) :
   Sim base M W nt (zjq f dst v) g c (a.put dst u) w D μ := by
 cases dst with
 | none => exact h
 | some d =>
   refine { h with defers := h.defers, tmps := by simpa [Act.put] using h.tmps, slots := fun t x hx => ?_ }
   have hlt : d < a.tmps.size := by rw [h.tmps]; exact hd d rfl
   rw [yh6 _ _ _ _ hlt]
   simp only [zjq] at hx
   split at hx
   · rename_i e; subst e; rw [if_pos rfl]; cases hx; exact r
   · rename_i e; rw [if_neg e]; exact h.slots t x hx
theorem zdg.mono {h h' : Array Obj} {D D' : Nat -> Prop} {μ μ' : Mu} (hb : ∀ b, D b -> h'[b]? = h[b]?) (hD : ∀ b, D b -> D' b) (hm : ∀ id x, μ id = some x -> μ' id = some x) {o : Ob} {x : Option (Nat × Nat × Nat)}
   (hx : ∀ b z, x = some (b, z) -> o ≠ .gone -> h'[b]? = h[b]?) (r : zdg h D μ o x) : zdg h' D' μ' o x := by
 match o, x, r with
 | .box ty cs, some (b, z, m), ⟨c, t, fr, e, r1, r2, r3, r4, r5⟩ => exact ⟨c, t, fr, (hx b _ rfl (by simp)).trans e, r1, r2, r3, r4, fun i x v h1 h2 => (r5 i x v h1 h2).mono hb hD hm⟩
 | .row ty sz n get, some (b, z, m), ⟨r0, c, t, fr, e, r1, r2, r3, r4⟩ => exact ⟨r0, c, t, fr, (hx b _ rfl (by simp)).trans e, r1, r2, r3, fun i j hi hj => by
     obtain ⟨v, h1, h2, h3⟩ := r4 i j hi hj
     exact ⟨v, h1, h2, h3.mono hb hD (fun _ _ h => by cases h)⟩⟩
 | .spr ty cs, some (b, z, m), ⟨c, t, fr, e, r1, r2, r3, r4⟩ => exact ⟨c, t, fr, (hx b _ rfl (by simp)).trans e, r1, r2, r3, fun i x hi => by
     obtain ⟨v, h1, h2, h3⟩ := r4 i x hi
     exact ⟨v, h1, h2, h3.mono hb hD hm⟩⟩
 | .map kk n has val, some (b, z), ⟨es, clock, kf, e, r1, r2, r3⟩ => exact ⟨es, clock, kf, (hx b _ rfl (by simp)).trans e, r1, r2, fun i x hi => (r3 i x hi).mono hb hD (fun _ _ h => by cases h)⟩
 | .mapq q, some (b, z), ⟨es, clock, e, r1⟩ => exact ⟨es, clock, (hx b _ rfl (by simp)).trans e, r1⟩
 | .mapl kk l, some (b, z), ⟨es, clock, kf, e, r1, r2, r3, r4⟩ => exact ⟨es, clock, kf, (hx b _ rfl (by simp)).trans e, r1, r2, r3, fun i x hi => by
     obtain ⟨y, h1, h2⟩ := r4 i x hi
     exact ⟨y, h1, h2.mono hb hD hm⟩⟩
 | .mapp q sz l, some (b, z), ⟨r0, es, clock, kf, e, r1, r2, r3, r4⟩ => exact ⟨r0, es, clock, kf, (hx b _ rfl (by simp)).trans e, r1, r2, r3, fun i x hi => (r4 i x hi).mono hb hD (zno hm)⟩
 | .mapr q sz l, some (b, z), ⟨r0, es, clock, kf, e, r1, r2⟩ => exact ⟨r0, es, clock, kf, (hx b _ rfl (by simp)).trans e, fun i x hi => by
     obtain ⟨h1, h2, h3⟩ := r1 i x hi
     exact ⟨h1.mono hb hD (zno hm), h2, h3⟩, r2⟩
 | .row _ _ n _, none, r => exact r
 | .spr _ _, none, r => exact r
 | .rowp q ty sz n get, some (b, z, m), ⟨r0, c, t, fr, e, r1, r2, r3, r4⟩ => exact ⟨r0, c, t, fr, (hx b _ rfl (by simp)).trans e, r1, r2, r3, fun i j hi hj => by
     obtain ⟨v, h1, h2, h3⟩ := r4 i j hi hj
     exact ⟨v, h1, h2, h3.mono hb hD (zno hm)⟩⟩
 | .rowp _ _ _ n _, none, r => exact r
 | .tab _ _ _ _ _, none, _ => exact trivial
 | .gone, _, _ => exact trivial
theorem Sim.world (h : Sim base M W nt f g c a w D μ) {w' : World} (hos : w'.os = w.os) (htape : w'.tape = w.tape) (hout : w'.output = w.output) (hsz : w.heap.size <= w'.heap.size)
   (hb : ∀ b, b < w.heap.size -> w'.heap[b]? = w.heap[b]?) {D' : Nat -> Prop} (hD : ∀ b, D b -> D' b) (hD' : ∀ b, D' b -> D b \/ (w.heap.size <= b /\ b < w'.heap.size)) :
   Sim base M W nt f g c a w' D' μ where
 os := hos.trans h.os
 tape := htape.trans h.tape
 output := hout.trans h.output
 size := Nat.le_trans h.size hsz
 bs := Nat.le_trans h.bs hsz
 old := fun b h1 h2 => (hb b (by have := h.bs; omega)).trans (h.old b h1 h2)
 defers := h.defers
 tmps := h.tmps
 slots := fun t v hv => (h.slots t v hv).mono (fun b hb' => hb b (h.dlt b hb')) hD (fun _ _ h => h)
 dlt := fun b hb' => by
   rcases hD' b hb' with h1 | h1
   · exact Nat.lt_of_lt_of_le (h.dlt b h1) hsz
   · exact h1.2
 low := fun b hb' hlt => by
   rcases hD' b hb' with h1 | h1
   · exact h.low b h1 hlt
   · have := h.bs; omega
 domx := h.domx
 obsx := fun id o x h1 h2 => (h.obsx id o x h1 h2).mono (fun b hb' => hb b (h.dlt b hb')) hD (fun _ _ h => h) (fun b z e hne => hb b (h.own id b z (by rw [h2, e])).1)
 injx := h.injx
 own := fun id b z hm => ⟨Nat.lt_of_lt_of_le (h.own id b z hm).1 hsz, (h.own id b z hm).2⟩
 icyx := h.icyx
 tbs := h.tbs
 icm := h.icm
 mems := h.mems
 ntb := h.ntb
 pin := h.pin
 gl := h.gl
 kdx := fun id b z o hm ho hne => ⟨fun hc => hD b ((h.kdx id b z o hm ho hne).1 hc), fun hc hd => by
   rcases hD' b hd with h1 | h1
   · exact (h.kdx id b z o hm ho hne).2 hc h1
   · have := (h.own id b z hm).1; omega⟩
theorem Sim.drew (h : Sim base M W nt f g c a w D μ) : Sim base M W nt f g c a w.drew D μ :=
 h.world (w' := w.drew) rfl rfl rfl (Nat.le_refl _) (fun _ _ => rfl) (fun _ h => h) (fun _ h => .inl h)
theorem zww {d nt : Nat} (h : d < nt) (hn : nt <= 500000) : zct d = false := by
 unfold zct
 split
 · rename_i h2; have := of_decide_eq_true h2; omega
 · rfl
theorem zis (g : Nat -> Option Ob) (d : Nat) (o : Ob) (id : Nat) : zb7 g [(d, o)] id = if id = d then some o else g id := by
 by_cases e : id = d
 · subst e; simp [zb7, za2, za3]
 · have : za5 d id = false := zac fun h => e h.symm
   simp [zb7, za2, this, e]
theorem zc9 {o : Option Ob} (h : ∀ x, o = some x -> zau x = false) (k : Nat) : zdx o k = none := by
 unfold zdx
 split
 · have := h _ rfl; cases this
 · rfl
theorem zi2 {g : Nat -> Option Ob} {d : Nat} {o : Ob} (hd : d < zbv) (ho : zau o = false) (hg : ∀ x, g d = some x -> zau x = false) (id : Nat) : gx (zb7 g [(d, o)]) id = if id = d then some o else gx g id := by
 unfold gx
 by_cases hm : zb4 id = true
 · have hne : id ≠ d := by have := zcu.1 hm; omega
   rw [if_pos hm, if_pos hm, if_neg hne, zis]
   by_cases e : zgg id = d
   · rw [if_pos e, zc9 (by intro x hx; cases hx; exact ho), e, zc9 hg]
   · rw [if_neg e]
 · rw [if_neg hm, if_neg hm, zis]
theorem zie {g : Nat -> Option Ob} {d : Nat} {o : Ob} (h : Plain g) (hd : d < zbv) (ho : zau o = true -> zct d = false) : Plain (zb7 g [(d, o)]) := by
 intro t x hx
 rw [zis] at hx
 split at hx
 · rename_i e; cases hx; rw [e]; exact ⟨hd, ho⟩
 · exact h t x hx
theorem yir {g : Nat -> Option Ob} {p : Nat} (hp : p < zbv) {ty sz n n' : Nat} {len len' : Nat -> Nat} {get get' : Nat -> Nat -> Nat -> AV} (e : g p = some (.tab ty sz n len get)) (id : Nat) :
   gx (zb7 g [(p, .tab ty sz n' len' get')]) id = if id = p then some (.tab ty sz n' len' get') else if zb4 id = true /\ zgg id = p then (if zp1 id < n' then some (.row ty sz (len' (zp1 id)) (get' (zp1 id))) else none) else gx g id := by
 unfold gx
 by_cases hm : zb4 id = true
 · have hne : id ≠ p := by have := zcu.1 hm; omega
   rw [if_pos hm, if_pos hm, if_neg hne, zis]
   by_cases e2 : zgg id = p
   · rw [if_pos e2, if_pos ⟨hm, e2⟩]; rfl
   · rw [if_neg e2, if_neg (fun h => e2 h.2)]
 · rw [if_neg hm, if_neg hm, zis, if_neg (show ¬ (zb4 id = true /\ zgg id = p) from fun h => hm h.1)]
def zm2 (g g' : Nat -> Option Ob) (i : Nat) : Prop := gx g' i = gx g i \/ ∃ t t', gx g i = some t /\ gx g' i = some t' /\ t ≠ .gone /\ t' ≠ .gone /\ ∀ h D μ y, zdg h D μ t y -> zdg h D μ t' y
theorem yp6 {h : Array Obj} {D : Nat -> Prop} {μ : Mu} {t : Ob} (ht : zau t = true) {y : Nat × Nat × Nat} (k : zdg h D μ t (some y)) : False := by
 cases t with
 | tab ty sz n len get => exact k
 | _ => cases ht
theorem Sim.domS (h : Sim base M W nt f g c a w D μ) {g' : Nat -> Option Ob} {i : Nat} (k : zm2 g g' i) : μ i = none ↔ gx g' i = none := by
 rcases k with e | ⟨t, t', e1, e2, _⟩
 · rw [e]; exact h.domx i
 · rw [h.domx i, e1, e2]; simp
theorem zm2.live {g g' : Nat -> Option Ob} {i : Nat} (k : zm2 g g' i) {o : Ob} (ho : gx g' i = some o) : ∃ o0, gx g i = some o0 /\ (o ≠ .gone -> o0 ≠ .gone) /\ (o0 ≠ .gone -> o ≠ .gone) /\ ∀ h D μ y, zdg h D μ o0 y -> zdg h D μ o y := by
 rcases k with e | ⟨t, t', e1, e2, h1, h2, h3⟩
 · exact ⟨o, by rw [<- e]; exact ho, fun h => h, fun h => h, fun _ _ _ _ h => h⟩
 · rw [e2] at ho; cases ho
   exact ⟨t, e1, fun _ => h1, fun _ => h2, h3⟩
theorem zm2.some {g g' : Nat -> Option Ob} {i : Nat} (k : zm2 g g' i) (h : gx g i ≠ none) : gx g' i ≠ none := by
 rcases k with e | ⟨t, t', e1, e2, _⟩
 · rw [e]; exact h
 · rw [e2]; simp
theorem Sim.newG (h : Sim base M W nt f g c a w D μ) {d : Nat} (hp : zct d = false) (hd : gx g d = none) (o : Ob) (X : Obj) (z m : Nat) (hne : o ≠ .gone) {g' : Nat -> Option Ob}
   (hgd : gx g' d = some o) (hg : ∀ i, i ≠ d -> zm2 g g' i) (ht : Plain g')
   (hok : zdg (w.alloc X).heap D μ o (some (w.heap.size, z, m))) :
   Sim base M W nt f g' c a (w.alloc X) D (fun id => if id = d then some (some (w.heap.size, z, m)) else μ id) := by
 have hmd : μ d = none := (h.domx d).2 hd
 have hc : c d = false := by
   cases e : c d with
   | false => rfl
   | true => exact absurd hd (h.icyx d e)
 have hmm : ∀ id x, μ id = some x -> (if id = d then some (some (w.heap.size, z, m)) else μ id) = some x := by
   intro id x hx
   have : id ≠ d := by rintro rfl; rw [hmd] at hx; cases hx
   rw [if_neg this, hx]
 have h' := h.world (w' := w.alloc X) rfl rfl rfl (by simp) (fun b hb => Below.heap_alloc _ _ _ hb) (D' := D) (fun _ h => h) (fun _ h => .inl h)
 refine { h' with slots := fun t v hv => (h'.slots t v hv).mono (fun _ _ => rfl) (fun _ h => h) hmm, domx := fun id => ?_, obsx := fun id o' x h1 h2 => ?_, injx := ?_, own := ?_, kdx := ?_, icyx := ?_, pin := fun id y hp' hy => ?_, tbs := ht, mems := fun id y h1 h2 => hmm _ _ (h.mems id y h1 h2) }
 rotate_right
 · by_cases e : id = d
   · rw [e, hp] at hp'; cases hp'
   · rw [if_neg e] at hy; exact h.pin id y hp' hy
 · by_cases e : id = d
   · subst e; simp [hgd]
   · simp only [if_neg e]; exact h.domS (hg id e)
 · by_cases e : id = d
   · subst e
     rw [hgd] at h1; cases h1
     rw [if_pos rfl] at h2; cases h2
     exact hok.mono (fun _ _ => rfl) (fun _ h => h) hmm (fun _ _ _ _ => rfl)
   · rw [if_neg e] at h2
     obtain ⟨o0, h3, _, _, h4⟩ := (hg id e).live h1
     exact h4 _ _ _ _ ((h'.obsx id o0 x h3 h2).mono (fun _ _ => rfl) (fun _ h => h) hmm (fun _ _ _ _ => rfl))
 · intro id id' b z z' o1 o2 h1 h2 h3 h4 h5 h6
   by_cases e : id = d <;> by_cases e' : id' = d
   · rw [e, e']
   · rw [if_pos e] at h1; rw [if_neg e'] at h2
     cases h1
     have := (h.own id' _ _ h2).1
     omega
   · rw [if_neg e] at h1; rw [if_pos e'] at h2
     cases h2
     have := (h.own id _ _ h1).1
     omega
   · rw [if_neg e] at h1; rw [if_neg e'] at h2
     obtain ⟨p1, q1, r1, _⟩ := (hg id e).live h3
     obtain ⟨p2, q2, r2, _⟩ := (hg id' e').live h4
     exact h.injx id id' b z z' p1 p2 h1 h2 q1 q2 (r1 h5) (r2 h6)
 · intro id b z h1
   by_cases e : id = d
   · rw [if_pos e] at h1; cases h1
     exact ⟨by simp, .inl h.bs⟩
   · rw [if_neg e] at h1; exact h'.own id b z h1
 · intro id b z o' h1 h2 h3
   by_cases e : id = d
   · rw [if_pos e] at h1; cases h1
     subst e
     refine ⟨fun hx => (by rw [hc] at hx; cases hx), fun _ hD => ?_⟩
     have := h.dlt _ hD
     omega
   · rw [if_neg e] at h1
     obtain ⟨p1, q1, r1, _⟩ := (hg id e).live h2
     exact h'.kdx id b z p1 h1 q1 (r1 h3)
 · intro id h1
   by_cases e : id = d
   · rw [e, hgd]; simp
   · exact (hg id e).some (h.icyx id h1)
theorem zj4 {d : Nat} (h : d < nt) (hn : nt <= 500000) : d < zbv := by unfold zbv; omega
theorem zjf {g : Nat -> Option Ob} (hpl : Plain g) {p k : Nat} {ty sz n n' : Nat} {len len' : Nat -> Nat} {get get' : Nat -> Nat -> Nat -> AV} (e : g p = some (.tab ty sz n len get))
   (hn : ∀ j, j ≠ k -> (j < n' ↔ j < n)) (hl : ∀ j, j ≠ k -> len' j = len j) (hget : ∀ j, j ≠ k -> ∀ i q h D μ v, R h D μ (get j i q) v -> R h D μ (get' j i q) v) :
   gx (zb7 g [(p, .tab ty sz n' len' get')]) (mid p k) = (if k < n' then some (.row ty sz (len' k) (get' k)) else none) /\ (∀ i, i ≠ mid p k -> zm2 g (zb7 g [(p, .tab ty sz n' len' get')]) i) /\ Plain (zb7 g [(p, .tab ty sz n' len' get')]) := by
 have hp := hpl p _ e
 obtain ⟨m1, m2, m3⟩ := ze6 hp.1 k
 refine ⟨?_, fun i hi => ?_, zie hpl hp.1 (fun _ => hp.2 rfl)⟩
 · rw [yir hp.1 e, if_neg (by have := zcu.1 m1; omega), if_pos ⟨m1, m2⟩, m3]
 · unfold zm2
   rw [yir hp.1 e]
   by_cases h1 : i = p
   · rw [if_pos h1, h1]
     refine .inr ⟨_, _, hpl.up e, rfl, by simp, by simp, fun h D μ y k => ?_⟩
     match y, k with
     | none, _ => exact trivial
     | some y, k => exact k
   · rw [if_neg h1]
     by_cases h2 : zb4 i = true /\ zgg i = p
     · rw [if_pos h2]
       have hj : zp1 i ≠ k := by
         rintro rfl
         apply hi
         have := (yp2 h2.1).2
         rw [h2.2] at this
         exact this.symm
       have hg : gx g i = if zp1 i < n then some (.row ty sz (len (zp1 i)) (get (zp1 i))) else none := by
         unfold gx
         rw [if_pos h2.1, h2.2, e]; rfl
       rw [hg, hl _ hj]
       by_cases h3 : zp1 i < n
       · rw [if_pos h3, if_pos ((hn _ hj).2 h3)]
         refine .inr ⟨_, _, rfl, rfl, by simp, by simp, fun h D μ y k => ?_⟩
         match y, k with
         | none, k => exact k
         | some (b, z, m), ⟨k0, c, t, fr, k1, k2, k3, k4, k5⟩ =>
           refine ⟨k0, c, t, fr, k1, k2, k3, k4, fun a b ha hb => ?_⟩
           obtain ⟨v, v1, v2, v3⟩ := k5 a b ha hb
           exact ⟨v, v1, v2, hget _ hj _ _ _ _ _ _ v3⟩
       · rw [if_neg h3, if_neg (fun h => h3 ((hn _ hj).1 h))]; exact .inl rfl
     · rw [if_neg h2]; exact .inl rfl
theorem Sim.newO (h : Sim base M W nt f g c a w D μ) {d : Nat} (hlt : d < nt) (hd : g d = none) (o : Ob) (X : Obj) (z m : Nat) (hne : o ≠ .gone)
   (hok : zdg (w.alloc X).heap D μ o (some (w.heap.size, z, m))) (ht : zau o = false := by rfl) :
   Sim base M W nt f (zb7 g [(d, o)]) c a (w.alloc X) D (fun id => if id = d then some (some (w.heap.size, z, m)) else μ id) :=
 h.newG (zww hlt h.ntb) (by rw [zab (zaw.2 (zj4 hlt h.ntb)), hd]) o X z m hne (by rw [zi2 (zj4 hlt h.ntb) ht (fun x hx => by rw [hd] at hx; cases hx), if_pos rfl]) (fun i hi => .inl (by rw [zi2 (zj4 hlt h.ntb) ht (fun x hx => by rw [hd] at hx; cases hx), if_neg hi])) (zie h.tbs (zj4 hlt h.ntb) (fun _ => zww hlt h.ntb)) hok
theorem Sim.new (h : Sim base M W nt f g c a w D μ) {d : Nat} {fr : Nat × Nat} (hlt : d < nt) (hd : g d = none) (o : Ob) (cs : Array Value) (t : TypeId) (m : Nat) (hne : o ≠ .gone)
   (hok : zdg (w.alloc (.cells cs t fr)).heap D μ o (some (w.heap.size, cs.size, m))) (ht : zau o = false := by rfl) :
   Sim base M W nt f (zb7 g [(d, o)]) c a (w.alloc (.cells cs t fr)) D (fun id => if id = d then some (some (w.heap.size, cs.size, m)) else μ id) :=
 h.newO hlt hd o (.cells cs t fr) cs.size m hne hok ht
theorem zca : ∀ {l : List Nat} {n : Nat}, zbp l n = true ↔ n ∈ l
 | [], n => by simp [zbp]
 | x :: xs, n => by
   unfold zbp
   cases e : za5 x n with
   | true => simp [za1 e]
   | false =>
     have : x ≠ n := by rintro rfl; rw [za3] at e; cases e
     simp [zca (l := xs)]
     exact fun h => absurd h.symm this
theorem Sim.freeze (h : Sim base M W nt f g c a w D μ) (ids : List Nat) (hids0 : ∀ id, id ∈ ids -> ∃ o, g id = some o /\ o ≠ .gone) :
   Sim base M W nt f g (zhd c ids) a w (fun b => D b \/ ∃ id z m, id ∈ ids /\ μ id = some (some (b, z, m))) μ := by
 have hids : ∀ id, id ∈ ids -> ∃ o, gx g id = some o /\ o ≠ .gone := fun id hi => by
   obtain ⟨o, h1, h2⟩ := hids0 id hi
   exact ⟨o, h.tbs.up h1, h2⟩
 have hD : ∀ b, D b -> (D b \/ ∃ id z m, id ∈ ids /\ μ id = some (some (b, z, m))) := fun b h => .inl h
 refine { h with slots := fun t v hv => (h.slots t v hv).mono (fun _ _ => rfl) hD (fun _ _ h => h), dlt := ?_, low := ?_, obsx := fun id o x h1 h2 => (h.obsx id o x h1 h2).mono (fun _ _ => rfl) hD (fun _ _ h => h) (fun _ _ _ _ => rfl), kdx := ?_, icyx := ?_, icm := fun id hm => ?_ }
 rotate_right
 · show (zbp ids id || c id) = false
   rw [h.icm id hm, Bool.or_false, Bool.eq_false_iff]
   intro hi
   obtain ⟨o, h1, _⟩ := hids0 id (zca.1 hi)
   have h2 := (h.tbs id o h1).1
   have h3 := zcu.1 hm
   omega
 · rintro b (hb | ⟨id, z, m, _, hm⟩)
   · exact h.dlt b hb
   · exact (h.own id b _ hm).1
 · rintro b (hb | ⟨id, z, m, _, hm⟩) hlt
   · exact h.low b hb hlt
   · rcases (h.own id b _ hm).2 with h1 | h1
     · omega
     · exact .inr h1
 · intro id b z o h1 h2 h3
   refine ⟨fun hc => ?_, fun hc => ?_⟩
   · simp only [zhd, Bool.or_eq_true] at hc
     rcases hc with hc | hc
     · exact .inr ⟨id, z.1, z.2, zca.1 hc, h1⟩
     · exact .inl ((h.kdx id b z o h1 h2 h3).1 hc)
   · simp only [zhd, Bool.or_eq_false_iff] at hc
     rintro (hb | ⟨id', z', m', hi, hm⟩)
     · exact (h.kdx id b z o h1 h2 h3).2 hc.2 hb
     · obtain ⟨o', ho', hne'⟩ := hids id' hi
       have := h.injx id id' b z (z', m') o o' h1 hm h2 ho' h3 hne'
       subst this
       have := zca.2 hi
       rw [hc.1] at this
       cases this
 · intro id hc
   simp only [zhd, Bool.or_eq_true] at hc
   rcases hc with hc | hc
   · obtain ⟨o, ho, _⟩ := hids id (zca.1 hc)
     rw [ho]; simp
   · exact h.icyx id hc
end
end Sy
end Go.Proofs.Ytogomcfgfnlclaa
namespace Go.Proofs.Ytogomcfgfnlclaa
namespace Sy
open Go Go.RowKit
set_option linter.unusedSimpArgs false
set_option linter.unusedVariables false
def ysj : AV -> Value -> Bool
 | .dead, _ => true
 | .bool a, .bool b => a == b
 | .int k a, .int k' b => k == k' && a == b
 | .str l, .string s => s.data.toList == l
 | .flt k b, .float k' b' => decide (k = k') && b == b'
 | .cpx k a b, .complex k' a' b' => decide (k = k') && (a == a' && b == b')
 | .nilp, .pointer none => true
 | .nilm, .map none => true
 | .nilf, .nilFunc => true
 | .nils, .slice none n c => n == 0 && c == 0
 | .nili, .nilIface => true
 | _, _ => false
theorem ypg {h : Array Obj} {D : Nat -> Prop} {μ : Mu} {x : AV} {v : Value} (e : ysj x v = true) : R h D μ x v := by
 unfold ysj at e
 split at e
 · exact .dead _
 · simp at e; subst e; exact .bool _
 · simp at e; obtain ⟨rfl, rfl⟩ := e; exact .int _ _
 · simp at e; exact .str _ _ e
 · simp at e; obtain ⟨rfl, rfl⟩ := e; exact .flt _ _
 · simp at e; obtain ⟨rfl, rfl, rfl⟩ := e; exact .cpx _ _ _
 · exact .nilp
 · exact .nilm
 · exact .nilf
 · simp at e; obtain ⟨rfl, rfl⟩ := e; exact .nils
 · exact .nili
 · cases e
def ygl : List AV -> List Value -> Bool
 | [], [] => true
 | x :: xs, v :: vs => ysj x v && ygl xs vs
 | _, _ => false
theorem yby {h : Array Obj} {D : Nat -> Prop} {μ : Mu} : ∀ {xs : List AV} {vs : List Value}, ygl xs vs = true -> xs.length = vs.length /\ ∀ (i : Nat) x v, xs[i]? = some x -> vs[i]? = some v -> R h D μ x v
 | [], [], _ => ⟨rfl, fun i x v h => by simp at h⟩
 | x :: xs, v :: vs, e => by
   simp only [ygl, Bool.and_eq_true] at e
   obtain ⟨h1, h2⟩ := yby e.2
   refine ⟨by simp [h1], fun i y u hy hu => ?_⟩
   cases i with
   | zero => simp at hy hu; subst hy; subst hu; exact ypg e.1
   | succ i => exact h2 i y u (by simpa using hy) (by simpa using hu)
def kOk (P : Program) (t : Nat) : TK -> Prop
 | .int k => P.underlying t = some (.int k)
 | .bool => P.underlying t = some .bool
 | .str => P.underlying t = some .string
 | .flt k => P.underlying t = some (.float k)
 | .ptr => ∃ e, P.underlying t = some (.pointer e)
 | .func => ∃ p r v, P.underlying t = some (.func p r v)
 | .map kt et => P.underlying t = some (.map kt et)
 | .other => True
 | .iface => ∃ ms, P.underlying t = some (.interface ms)
 | .slice e esz eb => P.underlying t = some (.slice e) /\ (P.info? e).map (fun i => (i.size, i.bytes)) = some (esz, eb)
 | .arr n e esz => P.underlying t = some (.array n e) /\ (P.info? e).map (·.size) = some esz
 | .struct fs => ∃ F : Array Field, P.underlying t = some (.struct F) /\ F.toList.map (fun f => (f.offset, f.type)) = fs
def EqOk (P : Program) (t : Nat) : Prop := P.eqGuardType P.depth t = false /\ ((∃ F : Array Field, P.underlying t = some (.struct F) /\ (∀ f, f ∈ F.toList -> f.name ≠ "_") /\ P.stoodInHeld t = false) \/ ∃ n e, P.underlying t = some (.array n e))
structure TOk (P : Program) (t : Nat) (ti : TI) : Prop where
 info : ∃ i z, P.info? t = some i /\ i.size = ti.sz /\ i.zero = some z /\ ones z.cells /\ z.cells.size = ti.sz /\ (∀ h D μ, RL h D μ ti.zero z.cells)
 zag : ∀ i z, P.info? t = some i -> i.zero = some z -> ti.isAgg = (match z with | .agg _ => true | _ => false)
 agg : ti.isAgg = (match P.underlying t with | some (.struct _) => true | some (.array _ _) => true | _ => false)
 und : ∃ d, P.underlying t = some d
 single : ti.isAgg = false -> ti.sz = 1
 k : kOk P t ti.k
 eqf : ti.eq = true -> EqOk P t
 ptf : ∀ e, ti.pt = some e -> P.underlying t = some (.pointer e)
 upf : ti.up = true -> P.underlying t = some .unsafePointer
 lief : ti.lies = true -> liesAt P P.depth t 1 0 t 1 = true
def eqB (P : Program) (t : Nat) : Bool := match P.underlying t with
 | some (.struct F) => (F.toList.all fun f => !(f.name == "_")) && !P.stoodInHeld t && !P.eqGuardType P.depth t
 | some (.array _ _) => !P.eqGuardType P.depth t
 | _ => false
theorem ypy {P : Program} {t : Nat} (h : eqB P t = true) : EqOk P t := by
 unfold eqB at h
 split at h
 · rename_i F hF
   simp only [Bool.and_eq_true, Bool.not_eq_true', List.all_eq_true] at h
   exact ⟨h.2, .inl ⟨F, hF, fun f hf hn => by have := h.1.1 f hf; simp [hn] at this, h.1.2⟩⟩
 · rename_i n e hF
   exact ⟨by simpa using h, .inr ⟨n, e, hF⟩⟩
 · cases h
def kB (P : Program) (t : Nat) (k : TK) : Bool :=
 match k, P.underlying t with
 | .int k, some (.int k') => k == k'
 | .bool, some .bool => true
 | .str, some .string => true
 | .flt k, some (.float k') => decide (k = k')
 | .ptr, some (.pointer _) => true
 | .func, some (.func _ _ _) => true
 | .map kt et, some (.map kt' et') => kt == kt' && et == et'
 | .other, _ => true
 | .iface, some (.interface _) => true
 | .slice e esz eb, some (.slice e') => e == e' && (match P.info? e with | some i => i.size == esz && i.bytes == eb | none => false)
 | .arr n e esz, some (.array n' e') => n == n' && e == e' && (match P.info? e with | some i => i.size == esz | none => false)
 | .struct fs, some (.struct F) => F.toList.map (fun f => (f.offset, f.type)) == fs
 | _, _ => false
def tB (P : Program) (t : Nat) (ti : TI) : Bool :=
 (match P.info? t with
   | some i => (match i.zero with
     | some z => i.size == ti.sz && z.cells.size == ti.sz && z.cells.toList.all Value.oneCell' && ygl ti.zero z.cells.toList && ti.isAgg == (match z with | .agg _ => true | _ => false)
     | none => false)
   | none => false) &&
 (match P.underlying t with
   | some d => ti.isAgg == (match d with | .struct _ => true | .array _ _ => true | _ => false)
   | none => false) && (ti.isAgg || ti.sz == 1) && kB P t ti.k && (!ti.eq || eqB P t) &&
 ((match ti.pt with | some e => (match P.underlying t with | some (.pointer e') => e == e' | _ => false) | none => true) && (!ti.up || (match P.underlying t with | some .unsafePointer => true | _ => false)) && (!ti.lies || liesAt P P.depth t 1 0 t 1))
theorem szB {P : Program} {e esz eb : Nat} (h : (match P.info? e with | some i => i.size == esz && i.bytes == eb | none => false) = true) : (P.info? e).map (fun i => (i.size, i.bytes)) = some (esz, eb) := by
 split at h
 · rename_i i hi; simp only [Bool.and_eq_true, beq_iff_eq] at h; rw [hi]; simp [h.1, h.2]
 · cases h
theorem szB1 {P : Program} {e esz : Nat} (h : (match P.info? e with | some i => i.size == esz | none => false) = true) : (P.info? e).map (·.size) = some esz := by
 split at h
 · rename_i i hi; simp only [beq_iff_eq] at h; rw [hi]; simp [h]
 · cases h
theorem ysp {P : Program} {t : Nat} {k : TK} (h : kB P t k = true) : kOk P t k := by
 unfold kB at h
 cases k with
 | map kt et => cases hu : P.underlying t with
   | none => rw [hu] at h; cases h
   | some d => rw [hu] at h; cases d <;> first | (cases h; done) | (simp only [Bool.and_eq_true, beq_iff_eq] at h; obtain ⟨rfl, rfl⟩ := h; exact hu)
 | other => trivial
 | iface => cases hu : P.underlying t with
   | none => rw [hu] at h; cases h
   | some d => rw [hu] at h; cases d <;> first | (cases h; done) | exact ⟨_, hu⟩
 | int k => cases hu : P.underlying t with
   | none => rw [hu] at h; cases h
   | some d => rw [hu] at h; cases d <;> first | (cases h; done) | (simp only [beq_iff_eq] at h; subst h; exact hu)
 | bool => cases hu : P.underlying t with
   | none => rw [hu] at h; cases h
   | some d => rw [hu] at h; cases d <;> first | (cases h; done) | exact hu
 | flt k => cases hu : P.underlying t with
   | none => rw [hu] at h; cases h
   | some d => rw [hu] at h; cases d <;> first | (cases h; done) | (simp only [decide_eq_true_eq] at h; subst h; exact hu)
 | str => cases hu : P.underlying t with
   | none => rw [hu] at h; cases h
   | some d => rw [hu] at h; cases d <;> first | (cases h; done) | exact hu
 | ptr => cases hu : P.underlying t with
   | none => rw [hu] at h; cases h
   | some d => rw [hu] at h; cases d <;> first | (cases h; done) | exact ⟨_, hu⟩
 | func => cases hu : P.underlying t with
   | none => rw [hu] at h; cases h
   | some d => rw [hu] at h; cases d <;> first | (cases h; done) | exact ⟨_, _, _, hu⟩
 | slice e esz eb => cases hu : P.underlying t with
   | none => rw [hu] at h; cases h
   | some d =>
     rw [hu] at h
     cases d <;> first | (cases h; done) | skip
     simp only [Bool.and_eq_true, beq_iff_eq] at h
     obtain ⟨rfl, h2⟩ := h
     exact ⟨hu, szB h2⟩
 | arr n e esz => cases hu : P.underlying t with
   | none => rw [hu] at h; cases h
   | some d =>
     rw [hu] at h
     cases d <;> first | (cases h; done) | skip
     simp only [Bool.and_eq_true, beq_iff_eq] at h
     obtain ⟨⟨rfl, rfl⟩, h2⟩ := h
     exact ⟨hu, szB1 h2⟩
 | struct fs => cases hu : P.underlying t with
   | none => rw [hu] at h; cases h
   | some d =>
     rw [hu] at h
     cases d <;> first | (cases h; done) | skip
     simp only [beq_iff_eq] at h
     exact ⟨_, hu, h⟩
theorem yrn {P : Program} {t : Nat} {ti : TI} (h : tB P t ti = true) : TOk P t ti := by
 unfold tB at h
 simp only [Bool.and_eq_true] at h
 obtain ⟨⟨⟨⟨⟨h1, h2⟩, h4⟩, h3⟩, h5⟩, ⟨h6, h7⟩, h8⟩ := h
 refine ⟨?_, ?_, ?_, ?_, fun e => by simpa [e] using h4, ysp h3, fun e => ypy (by simpa [e] using h5), fun e he => ?_, fun e => ?_, fun e => by simpa [e] using h8⟩
 rotate_left 4
 · rw [he] at h6
   simp only at h6
   split at h6
   · rename_i e' hu; simp only [beq_iff_eq] at h6; rw [hu, h6]
   · cases h6
 · rw [e] at h7
   simp only [Bool.not_true, Bool.false_or] at h7
   split at h7
   · rename_i hu; exact hu
   · cases h7
 · split at h1
   · rename_i i hi
     split at h1
     · rename_i z hz
       simp only [Bool.and_eq_true, beq_iff_eq] at h1
       obtain ⟨⟨⟨⟨a, b⟩, c⟩, d⟩, -⟩ := h1
       refine ⟨i, z, hi, a, hz, fun j v hv => ?_, b, fun h D μ => ?_⟩
       · rw [List.all_eq_true] at c
         exact c v (List.mem_of_getElem? (i := j) (by simpa using hv))
       · have := yby (h := h) (D := D) (μ := μ) d
         exact ⟨by simpa using this.1, fun i x v hx hv => this.2 i x v hx (by simpa using hv)⟩
     · cases h1
   · cases h1
 · intro i z hi hz
   rw [hi] at h1
   simp only [hz, Bool.and_eq_true, beq_iff_eq] at h1
   exact h1.2
 · split at h2
   · rename_i d hd
     rw [hd]
     simp only [beq_iff_eq] at h2
     rw [h2]
     cases d <;> rfl
   · cases h2
 · split at h2
   · rename_i d hd; exact ⟨d, hd⟩
   · cases h2
def TT.all (p : Nat -> TI -> Bool) : TT -> Bool
 | .leaf => true
 | .node l t i r => l.all p && p t i && r.all p
theorem TT.all_find {p : Nat -> TI -> Bool} : ∀ {T : TT}, T.all p = true -> ∀ {t : Nat} {i : TI}, T.find t = some i -> p t i = true
 | .leaf, _, t, i, h => by cases h
 | .node l t' i' r, ha, t, i, h => by
   simp only [TT.all, Bool.and_eq_true] at ha
   unfold TT.find at h
   split at h
   · rename_i e; cases h; rw [za1 e]; exact ha.1.2
   · split at h
     · exact TT.all_find ha.1.1 h
     · exact TT.all_find ha.2 h
abbrev zbd (P : Program) (T : TT) : Prop := ∀ t i, T.find t = some i -> TOk P t i
theorem yjf {P : Program} {T : TT} (h : T.all (tB P) = true) : zbd P T := fun t i hf => yrn (TT.all_find h hf)
section
variable {P : Program} {t : Nat} {ti : TI}
theorem TOk.sizeOf (h : TOk P t ti) (w : World) : (sizeOf t).run P w = .ok ti.sz w := by
 obtain ⟨i, z, h1, h2, _⟩ := h.info
 simp [Go.sizeOf, typeInfo, program, Sem.run, h1, h2]
theorem TOk.isAgg_ (h : TOk P t ti) (w : World) : (isAgg t).run P w = .ok ti.isAgg w := by
 obtain ⟨d, hd⟩ := h.und
 have := h.agg
 rw [hd] at this
 rw [this]
 simp only [Go.isAgg, Sem.run_bind, run_underlying hd, Result.andThen_ok]
 cases d <;> rfl
theorem TOk.zeroV (h : TOk P t ti) : ∃ z : Value, (∀ w, (zeroValue t).run P w = .ok z w) /\ ones z.cells /\ z.cells.size = ti.sz /\ ∀ h D μ, RL h D μ ti.zero z.cells := by
 obtain ⟨i, z, h1, h2, h3, h4, h5, h6⟩ := h.info
 exact ⟨z, fun w => by simp [zeroValue, typeInfo, program, Sem.run, h1, h3], h4, h5, h6⟩
theorem TOk.zeroR (h : TOk P t ti) : ∃ z : Value, (∀ w, (zeroValue t).run P w = .ok z w) /\ ∀ hp D μ, R hp D μ (zfk ti) z := by
 obtain ⟨i, z, h1, h2, h3, h4, h5, h6⟩ := h.info
 refine ⟨z, fun w => by simp [zeroValue, typeInfo, program, Sem.run, h1, h3], fun hp D μ => ?_⟩
 have hz := h.zag i z h1 h3
 have r := h6 hp D μ
 unfold zfk
 cases hag : ti.isAgg with
 | true =>
   rw [hag] at hz
   cases z with
   | agg cs => exact .agg _ _ r.1 h4 r.2
   | _ => cases hz
 | false =>
   rw [hag] at hz
   have hs := h.single hag
   have hc : z.cells = #[z] := by cases z <;> first | rfl | (simp at hz)
   rw [hc] at r h5
   have hl : ti.zero.length = 1 := by rw [r.1]; rfl
   match hq : ti.zero, hl with
   | [x], _ => rw [hq] at r; exact r.2 0 x z rfl rfl
end
end Sy
end Go.Proofs.Ytogomcfgfnlclaa
namespace Go.Proofs.Ytogomcfgfnlclaa
namespace Sy
open Go Go.RowKit
set_option linter.unusedSimpArgs false
set_option linter.unusedVariables false
def zfp (P : Program) (f : FuncId) (args : Array Value) (w : World) (Q : Ending -> World -> Prop) : Prop :=
 match (callFunc f args).run P w with
 | .ok (.enter f' args') w' => Calls P f' args' w' Q
 | .ok (.value v) w' => Q (.returned v) w'
 | _ => False
def zbk (P : Program) (f : FuncId) (xs : List AV) (r : AV) : Prop :=
 ∀ (D : Nat -> Prop) (w : World) (vs : Array Value), (∀ b, D b -> b < w.heap.size) -> RL w.heap D zar xs vs -> GOk w ->
   zfp P f vs w fun e w' => ∃ v D', e = .returned v /\ Below w.heap.size w w' /\ (∀ b, D b -> D' b) /\ (∀ b, D' b -> D b \/ (w.heap.size <= b /\ b < w'.heap.size)) /\ R w'.heap D' zar r v
def zgq (base : Nat) (M : Two) (W : World) (nt : Nat) (f : Nat -> Option AV) (g : Nat -> Option Ob) (c : Nat -> Bool) (a : Act) (w : World) : Prop := ∃ D μ, Sim base M W nt f g c a w D μ
def Adv (P : Program) (base : Nat) (M : Two) (W : World) (nt : Nat) (f : Nat -> Option AV) (g : Nat -> Option Ob) (c : Nat -> Bool) (o : Oper) (a : Act) (w : World) (v : AV) (os : List (Nat × Ob)) (ice : List Nat) : Prop :=
 ∀ (K : Act -> World -> Prop) (Q : Exit -> Act -> World -> Prop), (∀ a' w', zgq base M W nt (zjq f o.dst v) (zb7 g os) (zhd c ice) a' w' -> K a' w') -> o.wp P a w K Q
def zbw (P : Program) (base : Nat) (M : Two) (W : World) (nt : Nat) (f : Nat -> Option AV) (g : Nat -> Option Ob) (c : Nat -> Bool) (o : Oper) (a : Act) (w : World) : zc0 -> Prop
 | .ok v os ice => Adv P base M W nt f g c o a w v os ice
 | .okIf b v os ice => b = true -> Adv P base M W nt f g c o a w v os ice
 | .okP p v os ice => p -> Adv P base M W nt f g c o a w v os ice
 | .call k xs ice => ∀ r, zbk P k xs r -> Adv P base M W nt f g c o a w r [] ice
 | .callB k xs => ∀ r, zzd r = true -> zbk P k xs r -> Adv P base M W nt f g c o a w r [] []
 | .alt b v os q v' os' => (b = true -> Adv P base M W nt f g c o a w v os []) /\ (b = false -> q = true -> Adv P base M W nt f g c o a w v' os' [])
 | .bad _ => True
section
variable {P : Program} {T : TT} {base : Nat} {M : Two} {W : World} {nt : Nat} {f : Nat -> Option AV} {g : Nat -> Option Ob} {c : Nat -> Bool} {a : Act} {w : World} {D : Nat -> Prop} {μ : Mu} {o : Oper}
theorem za0 (h : Sim base M W nt f g c a w D μ) (hd : ∀ d, o.dst = some d -> d < nt) {v : AV} {u : Value} (hr : (execOp a.eval o).run P w = .ok (.value u) w) (r : R w.heap D μ v u) :
   Adv P base M W nt f g c o a w v [] [] := fun K Q hK => by
 unfold Oper.wp
 rw [hr]
 exact hK _ _ ⟨D, μ, h.put hd r⟩
def Ops (h : Array Obj) (D : Nat -> Prop) (μ : Mu) (a : Act) : List Operand -> List AV -> Prop
 | [], [] => True
 | x :: xs, v :: vs => R h D μ v (a.eval x) /\ Ops h D μ a xs vs
 | _, _ => False
theorem yp4 (h : Array Obj) (D : Nat -> Prop) (μ : Mu) (v : Value) : R h D μ (ofV v) v := by
 unfold ofV
 split
 · exact .bool _
 · exact .int _ _
 · exact .str _ _ rfl
 · exact .flt _ _
 · exact .cpx _ _ _
 · exact .nilp
 · exact .nilm
 · exact .nilf
 · exact .nili
 · split
   · exact .nils
   · exact .dead _
 · rename_i k xs ys
   cases hx : xs.toList with
   | cons _ _ => exact .dead _
   | nil =>
     simp only
     cases hy : ys.toList with
     | cons _ _ => exact .dead _
     | nil =>
       have h1 : xs = #[] := by simpa using hx
       have h2 : ys = #[] := by simpa using hy
       subst h1; subst h2
       exact .fn k [] [] #[] #[] rfl rfl (fun i x v h => by simp at h) (fun i x v h => by simp at h)
 · exact .dead _
theorem zhw {α β : Type} (k : α -> β) : ∀ l, zcn k l = l.map k
 | [] => rfl
 | x :: xs => by simp [zcn, zhw k xs]
def zho : Value -> Bool
 | .agg cs => cs.toList.all Value.oneCell'
 | _ => true
theorem yp3 (h : Array Obj) (D : Nat -> Prop) (μ : Mu) (v : Value) (hp : zho v = true) : R h D μ (ysb v) v := by
 unfold ysb
 split
 · rename_i cs
   refine .agg _ _ (by simp [zhw]) (fun i v hv => ?_) (fun i x v hx hv => ?_)
   · simp only [zho, List.all_eq_true] at hp
     exact hp v (List.mem_of_getElem? (i := i) (by simpa using hv))
   · simp [zhw] at hx
     rw [hv] at hx
     simp at hx
     subst hx
     exact yp4 _ _ _ _
 · exact yp4 _ _ _ _
theorem ym3 (h : Sim base M W nt f g c a w D μ) {kn : List (Nat × Bool)} (hk : ∀ t b, za2 kn t = some b -> f t = some (.bool b)) (x : Operand) (hx : ∀ v, x = .const v -> zho v = true) : R w.heap D μ (evf f kn x) (a.eval x) := by
 unfold evf
 cases x with
 | tmp t =>
   simp only
   cases e : za2 kn t with
   | some b => exact h.slots t _ (hk t b e)
   | none =>
     simp only
     cases e' : f t with
     | none => exact .dead _
     | some v => exact h.slots t v e'
 | const v => exact yp3 _ _ _ _ (hx v rfl)
 | global n => exact .dead _
 | func n => exact .fn n [] [] #[] #[] rfl rfl (fun i x v h => by simp at h) (fun i x v h => by simp at h)
theorem zou {s t : ByteArray} : (s.toList == t.toList) = (s.data.toList == t.data.toList) := by rw [Lib.toList_data, Lib.toList_data]
theorem zai {α : Type} : ∀ l : List α, zdo l = l.length
 | [] => rfl
 | x :: xs => by simp [zdo, zai xs]
theorem zan {a b : Nat} (h : zb3 a b = true) : a < b := of_decide_eq_true h
theorem zb2 {a b : Nat} (h : zbh a b = true) : a <= b := of_decide_eq_true h
theorem zfh {α : Type} (d : α) : ∀ (l : List α) (i : Nat), zbl d l i = l.getD i d
 | [], _ => by simp [zbl]
 | x :: _, 0 => by simp [zbl]
 | x :: xs, i + 1 => by simp [zbl, zfh d xs i]
theorem zak {α : Type} (d : α) (l : List α) (i : Nat) (h : i < l.length) : l[i]? = some (zbl d l i) := by
 rw [zfh]; simp [List.getD, h]
theorem zb6 {α : Type} : ∀ (l : List α) (n : Nat), zcs l n = l.take n
 | [], 0 => rfl
 | [], n + 1 => rfl
 | x :: xs, 0 => rfl
 | x :: xs, n + 1 => by simp [zcs, zb6 xs n]
theorem zbi {α : Type} : ∀ (l : List α) (n : Nat), zd4 l n = l.drop n
 | [], 0 => rfl
 | [], n + 1 => rfl
 | x :: xs, 0 => rfl
 | x :: xs, n + 1 => by simp [zd4, zbi xs n]
theorem zae {α : Type} : ∀ (l m : List α), zb9 l m = l ++ m
 | [], m => rfl
 | x :: xs, m => by simp [zb9, zae xs m]
theorem zkr {α : Type} (v : α) : ∀ (l : List α) (n : Nat), ynd v l n = l.set n v
 | [], n => by simp [ynd]
 | x :: xs, 0 => rfl
 | x :: xs, n + 1 => by simp [ynd, zkr v xs n]
theorem R.inv_tup {h : Array Obj} {D : Nat -> Prop} {μ : Mu} {cs : List AV} {v : Value} (r : R h D μ (.tup cs) v) : ∃ us, v = .tuple us /\ RL h D μ cs us := by
 cases r with | tup _ us e hr => exact ⟨us, rfl, e, hr⟩
theorem R.inv_agg {h : Array Obj} {D : Nat -> Prop} {μ : Mu} {cs : List AV} {v : Value} (r : R h D μ (.agg cs) v) : ∃ us, v = .agg us /\ ones us /\ RL h D μ cs us := by
 cases r with | agg _ us e h1 hr => exact ⟨us, rfl, h1, e, hr⟩
theorem R.inv_flt {h : Array Obj} {D : Nat -> Prop} {μ : Mu} {k : FloatKind} {b : Nat} {v : Value} (r : R h D μ (.flt k b) v) : v = .float k b := by cases r; rfl
theorem R.inv_cpx {h : Array Obj} {D : Nat -> Prop} {μ : Mu} {k : FloatKind} {a b : Nat} {v : Value} (r : R h D μ (.cpx k a b) v) : v = .complex k a b := by cases r; rfl
theorem R.inv_bool {h : Array Obj} {D : Nat -> Prop} {μ : Mu} {b : Bool} {v : Value} (r : R h D μ (.bool b) v) : v = .bool b := by cases r; rfl
theorem R.inv_int {h : Array Obj} {D : Nat -> Prop} {μ : Mu} {k : IntKind} {n : Int} {v : Value} (r : R h D μ (.int k n) v) : v = .int k n := by cases r; rfl
theorem R.inv_str {h : Array Obj} {D : Nat -> Prop} {μ : Mu} {l : List UInt8} {v : Value} (r : R h D μ (.str l) v) : ∃ s, v = .string s /\ s.data.toList = l := by cases r with | str l s e => exact ⟨s, rfl, e⟩
variable (h : Sim base M W nt f g c a w D μ) (hd : ∀ d, o.dst = some d -> d < nt)
include h hd
theorem zpb {x : Operand} (e : o.op = .move x \/ o.op = .assign x) {vals : List AV} (hv : Ops w.heap D μ a [x] vals) : zbw P base M W nt f g c o a w (ydc vals) := by
 match vals, hv with
 | [v], hv =>
   refine za0 h hd (u := a.eval x) ?_ hv.1
   rcases e with e | e <;> (unfold execOp; rw [e]; rfl)
theorem zzi {b x y : Operand} (e : o.op = .pick b x y) {vals : List AV} (hv : Ops w.heap D μ a [b, x, y] vals) : zbw P base M W nt f g c o a w (ydb vals) := by
 match vals, hv with
 | [vb, vx, vy], ⟨h1, h2, h3, _⟩ =>
   unfold ydb
   split
   · rename_i t x' y' he
     simp only [List.cons.injEq, and_true] at he
     obtain ⟨rfl, rfl, rfl⟩ := he
     have hb := h1.inv_bool
     cases t with
     | true => exact za0 h hd (u := a.eval x) (by unfold execOp; rw [e]; simp [hb, asBool]) h2
     | false => exact za0 h hd (u := a.eval y) (by unfold execOp; rw [e]; simp [hb, asBool]) h3
   · trivial
theorem zwi {op : BinOp} {t t' : TypeId} {x y : Operand} (e : o.op = .binOp op t x y t') {k : IntKind} {m n : Int} (h1 : a.eval x = .int k m) (h2 : a.eval y = .int k n) (hs : op ≠ .shl /\ op ≠ .shr) :
   zbw P base M W nt f g c o a w (yqc std op k m n) := by
 have run : ∀ u, (binOp op t (.int k m) (.int k n)).run P w = .ok u w -> (execOp a.eval o).run P w = .ok (.value u) w := by
   intro u hu
   unfold execOp
   rw [e]
   simp only [h1, h2]
   have hg : (eqGuard op t x y (.int k m) (.int k n)).run P w = .ok () w := by
     unfold eqGuard; split <;> rfl
   simp [hg, hu]
 have res : ∀ v : AV, ∀ u : Value, (binOp op t (.int k m) (.int k n)).run P w = .ok u w -> R w.heap D μ v u -> Adv P base M W nt f g c o a w v [] [] := fun v u hu r => za0 h hd (run u hu) r
 have hq : L2 std ine n 0 = true -> n ≠ 0 := fun hb => by simpa [L2, std, ine] using hb
 cases op with
 | shl => exact absurd rfl hs.1
 | shr => exact absurd rfl hs.2
 | quo => exact fun hb => res _ (.int k (k.wrap (m.tdiv n))) (by simp [binOp, Op.intDiv, hq hb]) (.int _ _)
 | rem => exact fun hb => res _ (.int k (m.tmod n)) (by simp [binOp, Op.intDiv, hq hb]) (.int _ _)
 | add => exact res _ (.int k (k.wrap (m + n))) (by simp [binOp]; rfl) (.int _ _)
 | sub => exact res _ (.int k (k.wrap (m - n))) (by simp [binOp]; rfl) (.int _ _)
 | mul => exact res _ (.int k (k.wrap (m * n))) (by simp [binOp]; rfl) (.int _ _)
 | and => exact res _ (.int k (zxs k m n)) (by simp [binOp]; rfl) (.int _ _)
 | or => exact res _ (.int k (bor k m n)) (by simp [binOp]; rfl) (.int _ _)
 | xor => exact res _ (.int k (yhr k m n)) (by simp [binOp]; rfl) (.int _ _)
 | andNot => exact res _ (.int k (yqa k m n)) (by simp [binOp]; rfl) (.int _ _)
 | eql => exact res _ (.bool (ieq m n)) (by simp [binOp]; rfl) (.bool _)
 | neq => exact res _ (.bool (ine m n)) (by simp [binOp]; rfl) (.bool _)
 | lss => exact res _ (.bool (ilt m n)) (by simp [binOp]; rfl) (.bool _)
 | leq => exact res _ (.bool (ile m n)) (by simp [binOp]; rfl) (.bool _)
 | gtr => exact res _ (.bool (ilt n m)) (by simp [binOp]; rfl) (.bool _)
 | geq => exact res _ (.bool (ile n m)) (by simp [binOp]; rfl) (.bool _)
theorem zvv {op : BinOp} {t t' : TypeId} {x y : Operand} (e : o.op = .binOp op t x y t') {l m : List UInt8} (h1 : R w.heap D μ (.str l) (a.eval x)) (h2 : R w.heap D μ (.str m) (a.eval y)) :
   zbw P base M W nt f g c o a w (yeu std op l m) := by
 obtain ⟨s1, e1, rfl⟩ := h1.inv_str
 obtain ⟨s2, e2, rfl⟩ := h2.inv_str
 have run : ∀ u, (binOp op t (.string s1) (.string s2)).run P w = .ok u w -> (execOp a.eval o).run P w = .ok (.value u) w := by
   intro u hu
   unfold execOp
   rw [e]
   simp only [e1, e2]
   have hg : (eqGuard op t x y (.string s1) (.string s2)).run P w = .ok () w := by
     unfold eqGuard; split <;> rfl
   simp [hg, hu]
 have res : ∀ v : AV, ∀ u : Value, (binOp op t (.string s1) (.string s2)).run P w = .ok u w -> R w.heap D μ v u -> Adv P base M W nt f g c o a w v [] [] := fun v u hu r => za0 h hd (run u hu) r
 cases op with
 | add =>
   intro hb
   have hl : s1.size + s2.size <= 9223372036854775807 := by
     have h1 := of_decide_eq_true hb
     simpa using h1
   refine res _ (.string (s1 ++ s2)) ?_ (.str _ _ ?_)
   · have : ¬ (((s1.size + s2.size : Nat) : Int) > IntKind.i64.max) := by rw [show IntKind.i64.max = 9223372036854775807 from rfl]; omega
     simp only [binOp, Op.stringOp]
     rw [if_neg this]
     rfl
   · simp [L2, std, yec]
 | eql => exact res _ (.bool (s1.toList == s2.toList)) (by simp [binOp, Op.stringOp]) (by rw [zou]; exact .bool _)
 | neq => exact res _ (.bool (!(s1.toList == s2.toList))) (by simp [binOp, Op.stringOp]) (by rw [zou]; exact .bool _)
 | lss => exact res _ (.bool (Op.bytesLess s1.toList s2.toList)) (by simp [binOp, Op.stringOp]) (by simp only [Lib.toList_data]; exact .bool _)
 | leq => exact res _ (.bool (Op.bytesLess s1.toList s2.toList || (s1.toList == s2.toList))) (by simp [binOp, Op.stringOp]) (by simp only [Lib.toList_data]; exact .bool _)
 | gtr => exact res _ (.bool (!(Op.bytesLess s1.toList s2.toList || (s1.toList == s2.toList)))) (by simp [binOp, Op.stringOp]) (by simp only [Lib.toList_data]; exact .bool _)
 | geq => exact res _ (.bool (!(Op.bytesLess s1.toList s2.toList))) (by simp [binOp, Op.stringOp]) (by simp only [Lib.toList_data]; exact .bool _)
 | _ => trivial
theorem zro {op : BinOp} {t t' : TypeId} {x y : Operand} (e : o.op = .binOp op t x y t') {k : FloatKind} {m n : Nat} (h1 : a.eval x = .float k m) (h2 : a.eval y = .float k n) :
   zbw P base M W nt f g c o a w (yit std op k m n) := by
 have run : ∀ u, (binOp op t (.float k m) (.float k n)).run P w = .ok u w -> (execOp a.eval o).run P w = .ok (.value u) w := by
   intro u hu
   unfold execOp
   rw [e]
   simp only [h1, h2]
   have hg : (eqGuard op t x y (.float k m) (.float k n)).run P w = .ok () w := by
     unfold eqGuard; split <;> rfl
   simp [hg, hu]
 have res : ∀ v : AV, ∀ u : Value, (binOp op t (.float k m) (.float k n)).run P w = .ok u w -> R w.heap D μ v u -> Adv P base M W nt f g c o a w v [] [] := fun v u hu r => za0 h hd (run u hu) r
 have ar : ∀ op', (op' = .add \/ op' = .sub \/ op' = .mul) -> fIs op' k m n = true -> (Op.floatArith op' k m n).run P w = .ok (.float k (yiw op' k m n)) w := by
   intro op' ho hb
   unfold fIs at hb
   unfold yiw
   rcases ho with rfl | rfl | rfl
   all_goals
     unfold ym2 at hb |-
     obtain ⟨r, hr⟩ := Option.isSome_iff_exists.1 hb
     simp [Op.floatArith, hr]
 cases op with
 | eql => exact res _ (.bool (fEq k m n)) (by simp [binOp, Op.floatCmp]; rfl) (.bool _)
 | neq => exact res _ (.bool (!(fEq k m n))) (by simp [binOp, Op.floatCmp]; rfl) (.bool _)
 | lss => exact res _ (.bool (fLt k m n)) (by simp [binOp, Op.floatCmp]; rfl) (.bool _)
 | leq => exact res _ (.bool (fLe k m n)) (by simp [binOp, Op.floatCmp]; rfl) (.bool _)
 | gtr => exact res _ (.bool (fGt k m n)) (by simp [binOp, Op.floatCmp]; rfl) (.bool _)
 | geq => exact res _ (.bool (fGe k m n)) (by simp [binOp, Op.floatCmp]; rfl) (.bool _)
 | add => exact fun hb => res _ (.float k (yiw .add k m n)) (by simp [binOp]; exact ar .add (.inl rfl) hb) (.flt _ _)
 | sub => exact fun hb => res _ (.float k (yiw .sub k m n)) (by simp [binOp]; exact ar .sub (.inr (.inl rfl)) hb) (.flt _ _)
 | mul => exact fun hb => res _ (.float k (yiw .mul k m n)) (by simp [binOp]; exact ar .mul (.inr (.inr rfl)) hb) (.flt _ _)
 | _ => trivial
theorem zzw {op : BinOp} {t t' : TypeId} {x y : Operand} (e : o.op = .binOp op t x y t') {k : FloatKind} {m n m' n' : Nat} (h1 : a.eval x = .complex k m n) (h2 : a.eval y = .complex k m' n') :
   zbw P base M W nt f g c o a w (cpxs std op k m n m' n') := by
 have run : ∀ u, (binOp op t (.complex k m n) (.complex k m' n')).run P w = .ok u w -> (execOp a.eval o).run P w = .ok (.value u) w := by
   intro u hu
   unfold execOp
   rw [e]
   simp only [h1, h2]
   have hg : (eqGuard op t x y (.complex k m n) (.complex k m' n')).run P w = .ok () w := by
     unfold eqGuard; split <;> rfl
   simp [hg, hu]
 have res : ∀ v : AV, ∀ u : Value, (binOp op t (.complex k m n) (.complex k m' n')).run P w = .ok u w -> R w.heap D μ v u -> Adv P base M W nt f g c o a w v [] [] := fun v u hu r => za0 h hd (run u hu) r
 cases op with
 | eql => exact res _ (.bool (fEq k m m' && fEq k n n')) (by simp [binOp, Op.complexOp, Op.Complex.cmp, Op.floatCmp, asBool]; rfl) (.bool _)
 | neq => exact res _ (.bool (!(fEq k m m' && fEq k n n'))) (by simp [binOp, Op.complexOp, Op.Complex.cmp, Op.floatCmp, asBool]; rfl) (.bool _)
 | _ => trivial
theorem yk4 {op : UnOp} {t : TypeId} {x : Operand} (e : o.op = .unOp op t x) {vals : List AV} (hv : Ops w.heap D μ a [x] vals) : zbw P base M W nt f g c o a w (cUn std op vals) := by
 match vals, hv with
 | [v], ⟨hv, _⟩ =>
   have res : ∀ v' : AV, ∀ u : Value, (Op.unary op (a.eval x)).run P w = .ok u w -> R w.heap D μ v' u -> Adv P base M W nt f g c o a w v' [] [] := fun v' u hu r =>
     za0 h hd (by unfold execOp; rw [e]; simp [hu]) r
   simp only [cUn]
   unfold un
   split
   · rename_i b
     have := hv.inv_bool
     exact res _ (.bool (!b)) (by rw [this]; rfl) (.bool _)
   · rename_i k n
     have := hv.inv_int
     exact res _ (.int k (k.wrap (0 - n))) (by rw [this]; rfl) (.int _ _)
   · rename_i k b
     have : a.eval x = .float k b := hv.inv_flt
     exact res _ (.float k (fNeg k b)) (by rw [this]; rfl) (.flt _ _)
   · rename_i k n
     have := hv.inv_int
     cases hk : k.signed with
     | true => exact res _ (.int k (yhr k (-1) n)) (by rw [this]; simp only [Op.unary, hk]; rfl) (.int _ _)
     | false => exact res _ (.int k (yhr k k.max n)) (by rw [this]; simp only [Op.unary, hk]; rfl) (.int _ _)
   · trivial
theorem zpc {i : Nat} {x : Operand} (e : o.op = .extract x i) {vals : List AV} (hv : Ops w.heap D μ a [x] vals) : zbw P base M W nt f g c o a w (zos i vals) := by
 match vals, hv with
 | [v], ⟨hv, _⟩ =>
   unfold zos
   split
   · rename_i vs he
     simp only [List.cons.injEq, and_true] at he
     subst he
     split
     · rename_i hlt
       obtain ⟨us, hu, e1, hr⟩ := hv.inv_tup
       have hl : i < vs.length := by rw [<- zai]; exact zan hlt
       have h1 : us[i]? = some (us[i]'(by omega)) := by simp [e1 ▸ hl]
       refine za0 h hd (u := us[i]'(by omega)) ?_ (hr i _ _ (zak AV.dead vs i hl) h1)
       unfold execOp; rw [e]; simp [hu, Instr.extract, h1]
     · trivial
   · trivial
end
end Sy
end Go.Proofs.Ytogomcfgfnlclaa
namespace Go.Proofs.Ytogomcfgfnlclaa
namespace Sy
open Go Go.RowKit
set_option linter.unusedSimpArgs false
set_option linter.unusedVariables false
theorem ze1 {P : Program} {w : World} (op : BinOp) (t : TypeId) (x y : Operand) (a b : Value) (h1 : a ≠ .nilIface) (h2 : ∀ cs, a ≠ .agg cs) : (eqGuard op t x y a b).run P w = .ok () w := by
 cases a <;> first | exact absurd rfl h1 | exact absurd rfl (h2 _) | (cases op <;> rfl)
theorem zlc {P : Program} {w : World} (op : BinOp) (t : TypeId) {x y : Operand} (hc : cond (zog x) true (zog y) = true) : (eqGuard op t x y .nilIface .nilIface).run P w = .ok () w := by
 cases x <;> cases y <;> first | (simp [zog] at hc; done) | (cases op <;> rfl)
theorem zso {P : Program} {w : World} (op : BinOp) (t : TypeId) {x y : Operand} (hc : cond (zog x) true (zog y) = true) (u : Value) (hu : u = .nilIface \/ ∃ t p, u = .iface t p) : (eqGuard op t x y u .nilIface).run P w = .ok () w := by
 rcases hu with rfl | ⟨t', p, rfl⟩
 · exact zlc op t hc
 · cases op <;> rfl
theorem zam (t : TypeId) (x y : Value) : Op.equal t x y = Op.equalIn (9999 + 1) t x y := rfl
section
variable {P : Program} {T : TT} {base : Nat} {M : Two} {W : World} {nt : Nat} {f : Nat -> Option AV} {g : Nat -> Option Ob} {c : Nat -> Bool} {a : Act} {w : World} {D : Nat -> Prop} {μ : Mu} {o : Oper}
theorem ye2 (hT : zbd P T) {t : Nat} {x y : AV} {b : Bool} (e : zr4 T std t x y = some b) {u v : Value} (hx : R w.heap D μ x u) (hy : R w.heap D μ y v) :
   (Op.equal t u v).run P w = .ok b w /\ u ≠ .nilIface /\ (∀ cs, u ≠ .agg cs) := by
 unfold zr4 at e
 split at e
 · rename_i i hi
   have ok := (hT t i hi).k
   split at e
   · rename_i hk
     rw [hk] at ok
     split at e
     · cases e
       rename_i p q
       cases hx; cases hy
       refine ⟨?_, by simp, by simp⟩
       rw [zam, Op.equalIn]
       simp [run_underlying ok]
       rfl
     · cases e
   · rename_i hk
     rw [hk] at ok
     obtain ⟨e', ok⟩ := ok
     split at e
     · cases e; cases hx; cases hy
       refine ⟨?_, by simp, by simp⟩
       rw [zam, Op.equalIn]
       simp [run_underlying ok]
     · cases e; cases hx; cases hy
       refine ⟨?_, by simp, by simp⟩
       rw [zam, Op.equalIn]
       simp [run_underlying ok]
     · cases e; cases hx; cases hy
       refine ⟨?_, by simp, by simp⟩
       rw [zam, Op.equalIn]
       simp [run_underlying ok]
     · split at e
       · rename_i a1 o1 a2 o2 el e1 e2 hpt
         split at e <;> cases e
         rename_i eli hel
         obtain ⟨j, z, hj, _⟩ := (hT el eli hel).info
         have hp2 := (hT t i hi).ptf el hpt
         obtain rfl := za1 e1
         obtain rfl := za1 e2
         cases hx with
         | ref _ _ b z m hm =>
           cases hy with
           | ref _ _ b' z' m' hm' =>
             rw [hm] at hm'
             cases hm'
             refine ⟨?_, by simp, by simp⟩
             rw [zam, Op.equalIn]
             simp [run_underlying hp2, sizeOf, typeInfo, hj, run_sameAddr_same]
       · cases e
     · cases e
   · rename_i hk
     rw [hk] at ok
     obtain ⟨ok, _⟩ := ok
     split at e
     · cases e; cases hx; cases hy
       refine ⟨?_, by simp, by simp⟩
       rw [zam, Op.equalIn]
       simp [run_underlying ok]
     · cases e; cases hx; cases hy
       refine ⟨?_, by simp, by simp⟩
       rw [zam, Op.equalIn]
       simp [run_underlying ok]
     · cases e; cases hx; cases hy
       refine ⟨?_, by simp, by simp⟩
       rw [zam, Op.equalIn]
       simp [run_underlying ok]
     · cases e
   · cases e
   · rename_i hk
     rw [hk] at ok
     obtain ⟨p', r', v', ok⟩ := ok
     split at e
     · cases e; cases hx; cases hy
       refine ⟨?_, by simp, by simp⟩
       rw [zam, Op.equalIn]
       simp [run_underlying ok]
     · cases e; cases hx; cases hy
       refine ⟨?_, by simp, by simp⟩
       rw [zam, Op.equalIn]
       simp [run_underlying ok]
     · cases e; cases hx; cases hy
       refine ⟨?_, by simp, by simp⟩
       rw [zam, Op.equalIn]
       simp [run_underlying ok]
     · cases e
   · cases e
 · cases e
theorem ym4 {t : Nat} {ti : TI} (ok : TOk P t ti) (d : Nat) {x y : AV} {b : Bool} (e : eqK std ti.k x y = some b) : ti.isAgg = false /\ x ≠ .dead /\ y ≠ .dead /\
   ∀ u v, R w.heap D μ x u -> R w.heap D μ y v -> (Op.equalIn (d + 1) t u v).run P w = .ok b w := by
 have hk := ok.k
 have hag := ok.agg
 unfold eqK at e
 split at e
 · rename_i k0 hti
   rw [hti] at hk
   rw [show P.underlying t = some (.int k0) from hk] at hag
   split at e
   · split at e
     · rename_i hkk
       obtain rfl := of_decide_eq_true hkk
       cases e
       refine ⟨by simpa using hag, by simp, by simp, fun u v ru rv => ?_⟩
       cases ru; cases rv
       exact run_equalIn_int w d _ _ _ _ _ hk
     · cases e
   · cases e
 · rename_i hti
   rw [hti] at hk
   rw [show P.underlying t = some .bool from hk] at hag
   split at e
   · cases e
     refine ⟨by simpa using hag, by simp, by simp, fun u v ru rv => ?_⟩
     cases ru; cases rv
     exact run_equalIn_bool' w d _ _ _ hk
   · cases e
 · rename_i hti
   rw [hti] at hk
   rw [show P.underlying t = some .string from hk] at hag
   split at e
   · cases e
     refine ⟨by simpa using hag, by simp, by simp, fun u v ru rv => ?_⟩
     cases ru with | str _ s1 q1 => cases rv with | str _ s2 q2 =>
     subst q1; subst q2
     rw [run_equalIn_string w d _ _ _ hk, zou]
     rfl
   · cases e
 · cases e
theorem zfa (hT : zbd P T) {t : Nat} {i : TI} (hi : T.find t = some i) {cs : List AV} {us : Array Value} (h1 : ones us) (hr : RL w.heap D μ cs us) (off : Nat) (hlt : off + i.sz <= cs.length) (hs : i.isAgg = false -> i.sz = 1) :
   ∃ u, (part t us off).run P w = .ok u w /\ R w.heap D μ (match i.isAgg with | true => .agg (zcs (zd4 cs off) i.sz) | false => zbl .dead cs off) u := by
 obtain ⟨e1, hr⟩ := hr
 have ok := hT t i hi
 unfold part
 simp only [Sem.run_bind, ok.isAgg_, ok.sizeOf, Result.andThen_ok]
 cases hag : i.isAgg with
 | true =>
   refine ⟨.agg (us.extract off (off + i.sz)), by simp [ok.sizeOf], .agg _ _ ?_ (fun j v hj => ?_) (fun j x v hx hj => ?_)⟩
   · rw [zb6, zbi]; simp; omega
   · rw [Array.getElem?_extract] at hj
     split at hj
     · exact h1 _ v hj
     · cases hj
   · rw [Array.getElem?_extract] at hj
     rw [zb6, zbi, List.getElem?_take, List.getElem?_drop] at hx
     split at hj
     · split at hx
       · exact hr _ x v hx hj
       · cases hx
     · cases hj
 | false =>
   have := hs hag
   have hlt' : off < us.size := by omega
   refine ⟨us[off], by simp [hlt'], hr off _ _ (zak .dead cs off (by omega)) (by simp [hlt'])⟩
theorem zv6 (hT : zbd P T) (d : Nat) {q : Nat -> List AV -> List AV -> Option Bool} {xs ys : List AV} {us vs : Array Value} (ox : ones us) (oy : ones vs) (hx : RL w.heap D μ xs us) (hy : RL w.heap D μ ys vs)
   (hq : ∀ t i xs ys b, T.find t = some i -> q t xs ys = some b -> xs.length = i.sz -> ys.length = i.sz -> ∀ u v, R w.heap D μ (match i.isAgg with | true => .agg xs | false => zbl .dead xs 0) u -> R w.heap D μ (match i.isAgg with | true => .agg ys | false => zbl .dead ys 0) v -> (Op.equalIn d t u v).run P w = .ok b w) : ∀ {F : List Field} {b : Bool}, (∀ f, f ∈ F -> f.name ≠ "_") ->
   ypx T std q xs ys (F.map fun f => (f.offset, f.type)) = some b -> (Op.eqFields d us vs F).run P w = .ok b w
 | [], b, _, e => by cases e; rfl
 | f :: F, b, hn, e => by
   have hn0 := hn f (by simp)
   have ih : ∀ {b}, ypx T std q xs ys (F.map fun f => (f.offset, f.type)) = some b -> (Op.eqFields d us vs F).run P w = .ok b w := fun e => zv6 hT d ox oy hx hy hq (fun g hg => hn g (by simp [hg])) e
   simp only [List.map_cons] at e
   unfold ypx at e
   split at e
   · rename_i ti hti
     split at e
     · rename_i l1 l2
       have l1 := zb2 l1
       have l2 := zb2 l2
       rw [zai] at l1 l2
       split at e
       · rename_i x hx1
         obtain ⟨u, p1, ru⟩ := zfa (P := P) hT hti ox hx f.offset l1 (hT _ _ hti).single
         obtain ⟨v, p2, rv⟩ := zfa (P := P) hT hti oy hy f.offset l2 (hT _ _ hti).single
         have hlen : ∀ zs : List AV, f.offset + ti.sz <= zs.length -> (zcs (zd4 zs f.offset) ti.sz).length = ti.sz := fun zs hz => by rw [zb6, zbi]; simp; omega
         have h0 : ∀ zs : List AV, f.offset + ti.sz <= zs.length -> ti.isAgg = false -> zbl AV.dead (zcs (zd4 zs f.offset) ti.sz) 0 = zbl .dead zs f.offset := fun zs hz hag => by
           have := (hT _ _ hti).single hag
           rw [zfh, zfh, zb6, zbi, this]
           simp [List.getD]
         have heq := hq _ _ _ _ _ hti hx1 (hlen _ l1) (hlen _ l2) u v (by
           cases hag : ti.isAgg with
           | true => rw [hag] at ru; exact ru
           | false => rw [hag] at ru; simp only [h0 _ l1 hag]; exact ru) (by
           cases hag : ti.isAgg with
           | true => rw [hag] at rv; exact rv
           | false => rw [hag] at rv; simp only [h0 _ l2 hag]; exact rv)
         unfold Op.eqFields
         rw [if_pos hn0]
         simp only [Sem.run_bind, p1, p2, heq, Result.andThen_ok]
         split at e
         · rename_i b' hb'
           cases e
           cases x with
           | true => simpa [L2, std] using ih hb'
           | false => simp [L2, std]
         · cases e
       · cases e
     · cases e
   · cases e
theorem zv5 (hT : zbd P T) (d : Nat) {q : List AV -> List AV -> Option Bool} {et : Nat} {ei : TI} (hei : T.find et = some ei) {xs ys : List AV} {us vs : Array Value} (ox : ones us) (oy : ones vs) (hx : RL w.heap D μ xs us) (hy : RL w.heap D μ ys vs)
   (hq : ∀ xs ys b, q xs ys = some b -> xs.length = ei.sz -> ys.length = ei.sz -> ∀ u v, R w.heap D μ (match ei.isAgg with | true => .agg xs | false => zbl .dead xs 0) u -> R w.heap D μ (match ei.isAgg with | true => .agg ys | false => zbl .dead ys 0) v -> (Op.equalIn d et u v).run P w = .ok b w) : ∀ (n k : Nat) {b : Bool}, (k + n) * ei.sz <= xs.length -> (k + n) * ei.sz <= ys.length ->
   ypw std q ei.sz xs ys k n = some b -> (Op.eqItems d et ei.sz us vs (List.range' k n)).run P w = .ok b w
 | 0, k, b, _, _, e => by cases e; rfl
 | n + 1, k, b, l1, l2, e => by
   have ih : ∀ {b}, ypw std q ei.sz xs ys (k + 1) n = some b -> (Op.eqItems d et ei.sz us vs (List.range' (k + 1) n)).run P w = .ok b w := fun e => zv5 hT d hei ox oy hx hy hq n (k + 1) (by rw [show k + 1 + n = k + (n + 1) by omega]; exact l1) (by rw [show k + 1 + n = k + (n + 1) by omega]; exact l2) e
   unfold ypw at e
   have hk : k * ei.sz + ei.sz <= (k + (n + 1)) * ei.sz := by
     rw [<- Nat.succ_mul]; exact Nat.mul_le_mul_right _ (by omega)
   split at e
   · rename_i x hx1
     have l1' : k * ei.sz + ei.sz <= xs.length := Nat.le_trans hk l1
     have l2' : k * ei.sz + ei.sz <= ys.length := Nat.le_trans hk l2
     obtain ⟨u, p1, ru⟩ := zfa (P := P) hT hei ox hx (k * ei.sz) l1' (hT _ _ hei).single
     obtain ⟨v, p2, rv⟩ := zfa (P := P) hT hei oy hy (k * ei.sz) l2' (hT _ _ hei).single
     have hlen : ∀ zs : List AV, k * ei.sz + ei.sz <= zs.length -> (zcs (zd4 zs (k * ei.sz)) ei.sz).length = ei.sz := fun zs hz => by rw [zb6, zbi]; simp; omega
     have h0 : ∀ zs : List AV, ei.isAgg = false -> zbl AV.dead (zcs (zd4 zs (k * ei.sz)) ei.sz) 0 = zbl .dead zs (k * ei.sz) := fun zs hag => by
       have := (hT _ _ hei).single hag
       rw [zfh, zfh, zb6, zbi, this]
       simp [List.getD]
     have heq := hq _ _ _ hx1 (hlen _ l1') (hlen _ l2') u v (by
       cases hag : ei.isAgg with
       | true => rw [hag] at ru; exact ru
       | false => rw [hag] at ru; simp only [h0 _ hag]; exact ru) (by
       cases hag : ei.isAgg with
       | true => rw [hag] at rv; exact rv
       | false => rw [hag] at rv; simp only [h0 _ hag]; exact rv)
     rw [List.range'_succ]
     unfold Op.eqItems
     simp only [Sem.run_bind, p1, p2, heq, Result.andThen_ok]
     split at e
     · rename_i b' hb'
       cases e
       cases x with
       | true => simpa [L2, std] using ih hb'
       | false => simp [L2, std]
     · cases e
   · cases e
theorem ycz (hT : zbd P T) (f0 : Nat) : ∀ (d : Nat) (t : Nat) (i : TI) (xs ys : List AV) (b : Bool), T.find t = some i -> eqD T std d t xs ys = some b -> xs.length = i.sz -> ys.length = i.sz ->
   ∀ u v, R w.heap D μ (match i.isAgg with | true => .agg xs | false => zbl .dead xs 0) u -> R w.heap D μ (match i.isAgg with | true => .agg ys | false => zbl .dead ys 0) v -> (Op.equalIn (f0 + d) t u v).run P w = .ok b w
 | 0, t, i, xs, ys, b, hi, e, _, _, u, v, _, _ => by cases e
 | d + 1, t, i, xs, ys, b, hi, e, lx, ly, u, v, ru, rv => by
   have ok := hT _ _ hi
   have ih := ycz hT f0 d
   unfold eqD at e
   rw [hi] at e
   simp only at e
   have hag := ok.agg
   have hkk := ok.k
   split at e
   · rename_i fs hk
     rw [hk] at hkk
     split at e
     · rename_i heq
       obtain ⟨hg, hs⟩ := ok.eqf heq
       obtain ⟨F', hF', hfs⟩ := hkk
       obtain ⟨F, hF, hnm, hh⟩ : ∃ F : Array Field, P.underlying t = some (.struct F) /\ (∀ f, f ∈ F.toList -> f.name ≠ "_") /\ P.stoodInHeld t = false := by
         rcases hs with hs | ⟨n, e', hs⟩
         · exact hs
         · rw [hF'] at hs; cases hs
       rw [hF] at hF' hag; cases hF'
       simp only at hag
       rw [hag] at ru rv
       obtain ⟨us, rfl, o1, r1⟩ := ru.inv_agg
       obtain ⟨vs, rfl, o2, r2⟩ := rv.inv_agg
       rw [<- hfs] at e
       have hfo : P.fieldsOf t = F' := by unfold Program.fieldsOf; rw [hF]
       rw [show f0 + (d + 1) = (f0 + d) + 1 from rfl, run_equalIn_struct w (f0 + d) t us vs (by rw [hfo]; exact hF) hh, hfo]
       exact zv6 hT (f0 + d) o1 o2 r1 r2 (fun t i xs ys b h1 h2 h3 h4 => ih t i xs ys b h1 h2 h3 h4) hnm e
     · cases e
   · rename_i n et esz hk
     rw [hk] at hkk
     obtain ⟨hu, hs⟩ := hkk
     obtain ⟨ei', hei', hes⟩ := Option.map_eq_some_iff.1 hs
     rw [hu] at hag
     simp only at hag
     rw [hag] at ru rv
     obtain ⟨us, rfl, o1, r1⟩ := ru.inv_agg
     obtain ⟨vs, rfl, o2, r2⟩ := rv.inv_agg
     split at e
     · rename_i ei heq hl1 hl2 hei
       have hl1 := za1 hl1
       have hl2 := za1 hl2
       rw [zai] at hl1 hl2
       split at e
       · rename_i hsz
         obtain rfl := za1 hsz
         have hcl : P.cellsOf et = ei.sz := by unfold Program.cellsOf; rw [hei']; simpa using hes
         rw [show f0 + (d + 1) = (f0 + d) + 1 from rfl, run_equalIn_array w (f0 + d) us vs hu hei', hcl, List.range_eq_range']
         exact zv5 hT (f0 + d) hei o1 o2 r1 r2 (fun xs ys b h2 h3 h4 => ih et ei xs ys b hei h2 h3 h4) n 0 (by rw [Nat.zero_add]; omega) (by rw [Nat.zero_add]; omega) e
       · cases e
     · cases e
   · rename_i hk1 hk2
     unfold eq1 at e
     split at e
     · rename_i x y
       obtain ⟨hag', n1, n2, heq⟩ := ym4 (w := w) (D := D) (μ := μ) ok (f0 + d) e
       rw [hag'] at ru rv
       exact heq u v ru rv
     · cases e
theorem ye3 (hT : zbd P T) {t : Nat} {x y : AV} {b : Bool} (e : ye4 T std t x y = some b) {u v : Value} (hx : R w.heap D μ x u) (hy : R w.heap D μ y v) :
   (∀ op p q, (eqGuard op t p q u v).run P w = .ok () w) /\ (binOp .eql t u v).run P w = .ok (.bool b) w /\ (binOp .neq t u v).run P w = .ok (.bool (!b)) w := by
 unfold ye4 at e
 split at e
 · rename_i xs ys
   split at e
   · rename_i i hi
     split at e
     · rename_i heq lx ly
       have lx := za1 lx
       have ly := za1 ly
       rw [zai] at lx ly
       have ok := hT _ _ hi
       obtain ⟨hg, hs⟩ := ok.eqf heq
       have hag : i.isAgg = true := by
         rw [ok.agg]
         rcases hs with ⟨F, hF, _⟩ | ⟨n, e', hF⟩ <;> rw [hF]
       have h1 : (Op.equal t u v).run P w = .ok b w := by
         rw [zam]
         exact ycz hT 9994 6 t i xs ys b hi e lx ly u v (by rw [hag]; exact hx) (by rw [hag]; exact hy)
       obtain ⟨us, rfl, o1, r1⟩ := hx.inv_agg
       obtain ⟨vs, rfl, o2, r2⟩ := hy.inv_agg
       refine ⟨fun op p q => ?_, ?_, ?_⟩
       · cases op <;> simp [eqGuard, program, Sem.run, hg]
       · simp [binOp, h1]
       · simp [binOp, h1]
     · cases e
   · cases e
 · obtain ⟨r1, r2, r3⟩ := ye2 hT e hx hy
   refine ⟨fun op p q => ze1 op t p q u v r2 r3, ?_, ?_⟩
   · unfold zr4 at e
     split at e
     · split at e <;> first | (cases e; done) | (split at e <;> first | (cases e; done) | (cases hx; cases hy; simp [binOp] at r1 |-; simp [r1]))
     · cases e
   · unfold zr4 at e
     split at e
     · split at e <;> first | (cases e; done) | (split at e <;> first | (cases e; done) | (cases hx; cases hy; simp [binOp] at r1 |-; simp [r1]))
     · cases e
theorem yga {k : FloatKind} {m n : Nat} (hb : ynj k m n = true) : Builtin.min2 (.float k m) (.float k n) = pure (.float k (yr2 k m n)) := by
 unfold ynj at hb
 obtain ⟨o, ho⟩ := Option.isSome_iff_exists.1 hb
 unfold yr2
 simp only [Builtin.min2, ho]
 cases o <;> rfl
theorem ygg {k : FloatKind} {m n : Nat} (hb : ynj k m n = true) : Builtin.max2 (.float k m) (.float k n) = pure (.float k (yr3 k m n)) := by
 unfold ynj at hb
 obtain ⟨o, ho⟩ := Option.isSome_iff_exists.1 hb
 unfold yr3
 simp only [Builtin.max2, ho]
 cases o <;> rfl
variable (h : Sim base M W nt f g c a w D μ) (hd : ∀ d, o.dst = some d -> d < nt)
include h hd
theorem yfd (hT : zbd P T) {op : BinOp} {t t' : TypeId} {x y : Operand} (e : o.op = .binOp op t x y t') {vals : List AV} (hv : Ops w.heap D μ a [x, y] vals) :
   zbw P base M W nt f g c o a w (yt8 T std op t vals) := by
 match vals, hv with
 | [vx, vy], ⟨hx, hy, _⟩ =>
   simp only [yt8]
   unfold bin
   split
   · rename_i k m k' n
     have e1 := hx.inv_int
     have e2 := hy.inv_int
     have shift : ∀ u, (op = .shl \/ op = .shr) -> (Op.shift op k m k' n).run P w = .ok u w -> (execOp a.eval o).run P w = .ok (.value u) w := by
       intro u hop hu
       unfold execOp
       rw [e]
       simp only [e1, e2, Sem.run_bind, ze1 op t x y (.int k m) (.int k' n) (by simp) (by simp), Result.andThen_ok]
       rcases hop with rfl | rfl <;> simp [binOp, hu]
     split
     · intro hb
       have hn : 0 <= n := of_decide_eq_true hb
       refine za0 h hd (u := .int k (yea k m n)) (shift _ (.inl rfl) ?_) (.int _ _)
       have : ¬ n < 0 := by omega
       simp [Op.shift, this]
       rfl
     · intro hb
       have hn : 0 <= n := of_decide_eq_true hb
       refine za0 h hd (u := .int k (zra k m n)) (shift _ (.inr rfl) ?_) (.int _ _)
       have : ¬ n < 0 := by omega
       simp [Op.shift, this]
       rfl
     · rename_i h1 h2
       split
       · rename_i hk
         obtain rfl : k = k' := of_decide_eq_true hk
         exact zwi h hd e e1 e2 ⟨h1, h2⟩
       · trivial
   · exact zvv h hd e hx hy
   · rename_i k m k' n
     split
     · rename_i hk
       obtain rfl : k = k' := of_decide_eq_true hk
       exact zro h hd e hx.inv_flt hy.inv_flt
     · trivial
   · rename_i k m n k' m' n'
     split
     · rename_i hk
       obtain rfl : k = k' := of_decide_eq_true hk
       exact zzw h hd e hx.inv_cpx hy.inv_cpx
     · trivial
   · rename_i sz n get
     split
     · rename_i hsl
       obtain ⟨el, hel⟩ : ∃ el, P.underlying t = some (.slice el) := by
         unfold isSl at hsl
         split at hsl
         · rename_i i hi
           have ok := (hT t i hi).k
           split at hsl
           · rename_i hk; rw [hk] at ok; exact ⟨_, ok.1⟩
           · cases hsl
         · cases hsl
       have key : zb3 0 n = true -> (Op.equal t (a.eval x) (a.eval y)).run P w = .ok false w /\ a.eval x ≠ .nilIface /\ (∀ cs, a.eval x ≠ .agg cs) /\ (∃ p q r, a.eval x = .slice p q r) /\ ∃ p q r, a.eval y = .slice p q r := by
         intro hn
         have hn := zan hn
         generalize a.eval x = u at hx
         generalize a.eval y = v at hy
         cases hy
         cases hx with
         | lst0 => omega
         | lst _ _ _ b o' cap vs =>
           refine ⟨?_, by simp, by simp, ⟨_, _, _, rfl⟩, ⟨_, _, _, rfl⟩⟩
           rw [zam, Op.equalIn]
           simp [run_underlying hel]
       split
       · intro hn
         obtain ⟨r1, r2, r3, ⟨p, q, r, hp⟩, ⟨p', q', r', hp'⟩⟩ := key hn
         refine za0 h hd (u := .bool false) ?_ (.bool _)
         unfold execOp
         rw [e]
         rw [hp, hp'] at r1
         rw [hp] at r2 r3
         simp [ze1 .eql t x y _ (.slice p' q' r') r2 r3, binOp, hp, hp', r1]
       · intro hn
         obtain ⟨r1, r2, r3, ⟨p, q, r, hp⟩, ⟨p', q', r', hp'⟩⟩ := key hn
         refine za0 h hd (u := .bool true) ?_ (.bool _)
         unfold execOp
         rw [e]
         rw [hp, hp'] at r1
         rw [hp] at r2 r3
         simp [ze1 .neq t x y _ (.slice p' q' r') r2 r3, binOp, hp, hp', r1]
       · trivial
     · trivial
   · have run : ∀ b op', (op' = .eql \/ op' = .neq) -> op = op' -> ye4 T std t vx vy = some b -> (execOp a.eval o).run P w = .ok (.value (.bool (if op' = .eql then b else !b))) w := by
       intro b op' hop hop2 hb
       obtain ⟨r1, r2, r3⟩ := ye3 hT hb hx hy
       subst hop2
       unfold execOp
       rw [e]
       rcases hop with rfl | rfl
       · simp [r1, r2]
       · simp [r1, r3]
     split
     · split
       · rename_i b hb
         exact za0 h hd (run b .eql (.inl rfl) rfl hb) (.bool _)
       · trivial
     · split
       · rename_i b hb
         exact za0 h hd (run b .neq (.inr rfl) rfl hb) (.bool _)
       · trivial
     · trivial
theorem ya1 (hT : zbd P T) {op : BinOp} {t t' : TypeId} {x y : Operand} (e : o.op = .binOp op t x y t') {vals : List AV} (hv : Ops w.heap D μ a [x, y] vals) :
   zbw P base M W nt f g c o a w (ymv T std op t (cond (zog x) true (zog y)) vals) := by
 unfold ymv
 split
 · obtain ⟨hx, hy, _⟩ := hv
   split
   · rename_i sz ag ze eqf p1 p2 p3 hc hi
     obtain ⟨ms, ok⟩ := (hT t _ hi).k
     have e1 : a.eval x = .nilIface := by generalize a.eval x = u at hx; cases hx; rfl
     have e2 : a.eval y = .nilIface := by generalize a.eval y = u at hy; cases hy; rfl
     have hg := zlc (P := P) (w := w) op t hc
     have he : (Op.equal t .nilIface .nilIface).run P w = .ok true w := by
       rw [zam, Op.equalIn]
       simp [run_underlying ok]
     split
     · refine za0 h hd (u := .bool true) ?_ (.bool _)
       unfold execOp
       rw [e]
       simp [e1, e2, hg, binOp, he]
     · refine za0 h hd (u := .bool false) ?_ (.bool _)
       unfold execOp
       rw [e]
       simp [e1, e2, hg, binOp, he]
     · trivial
   · trivial
 · rename_i b
   obtain ⟨hx, hy, _⟩ := hv
   split
   · rename_i sz ag ze eqf p1 p2 p3 hc hi
     obtain ⟨ms, ok⟩ := (hT t _ hi).k
     have e2 : a.eval y = .nilIface := by generalize a.eval y = u at hy; cases hy; rfl
     obtain ⟨u, e1, hu, hb⟩ : ∃ u, a.eval x = u /\ (u = .nilIface \/ ∃ t p, u = .iface t p) /\ ((Op.equal t u .nilIface).run P w = .ok b w) := by
       generalize a.eval x = u at hx
       cases hx with
       | ifn => exact ⟨_, rfl, .inl rfl, by rw [zam, Op.equalIn]; simp [run_underlying ok]⟩
       | ifs t' p => exact ⟨_, rfl, .inr ⟨t', p, rfl⟩, by rw [zam, Op.equalIn]; simp [run_underlying ok]⟩
     have hg := zso (P := P) (w := w) op t hc u hu
     split
     · refine za0 h hd (u := .bool b) ?_ (.bool _)
       unfold execOp
       rw [e]
       simp [e1, e2, hg, binOp, hb]
     · refine za0 h hd (u := .bool (!b)) ?_ (.bool _)
       unfold execOp
       rw [e]
       simp [e1, e2, hg, binOp, hb]
     · trivial
   · trivial
 · exact yfd h hd hT e hv
theorem yf8 {x y : Operand} {ts : Array TypeId} (e : o.op = .call { callee := .builtin .min, args := #[x, y], argTypes := ts }) {vals : List AV}
   (hv : Ops w.heap D μ a [x, y] vals) : zbw P base M W nt f g c o a w (yq6 std vals) := by
 match vals, hv with
 | [v, v'], ⟨hx, hy, _⟩ =>
   unfold yq6
   split
   · rename_i k m k' n he
     simp only [List.cons.injEq, and_true] at he
     obtain ⟨rfl, rfl⟩ := he
     split
     · rename_i hk
       obtain rfl : k = k' := of_decide_eq_true hk
       refine za0 h hd (u := .int k (min m n)) ?_ (.int _ _)
       unfold execOp
       rw [e]
       have : (if n < m then n else m) = min m n := by rw [Int.min_def]; split <;> split <;> omega
       simp [resolve, invoke, builtin, Builtin.min_, hx.inv_int, hy.inv_int, Builtin.min2, this]
     · trivial
   · rename_i k m k' n he
     simp only [List.cons.injEq, and_true] at he
     obtain ⟨rfl, rfl⟩ := he
     split
     · rename_i hk
       obtain rfl : k = k' := of_decide_eq_true hk
       intro hb
       have e1 : a.eval x = .float k m := hx.inv_flt
       have e2 : a.eval y = .float k n := hy.inv_flt
       refine za0 h hd (u := .float k (yr2 k m n)) ?_ (.flt _ _)
       unfold execOp
       rw [e]
       simp [resolve, invoke, builtin, Builtin.min_, e1, e2, yga hb]
     · trivial
   · trivial
theorem zpd {x y : Operand} {ts : Array TypeId} (e : o.op = .call { callee := .builtin .complex, args := #[x, y], argTypes := ts }) {vals : List AV}
   (hv : Ops w.heap D μ a [x, y] vals) : zbw P base M W nt f g c o a w (ymr vals) := by
 match vals, hv with
 | [v, v'], ⟨hx, hy, _⟩ =>
   unfold ymr
   split
   · rename_i k m k' n he
     simp only [List.cons.injEq, and_true] at he
     obtain ⟨rfl, rfl⟩ := he
     split
     · rename_i hk
       obtain rfl : k = k' := of_decide_eq_true hk
       have e1 : a.eval x = .float k m := hx.inv_flt
       have e2 : a.eval y = .float k n := hy.inv_flt
       refine za0 h hd (u := .complex k m n) ?_ (.cpx _ _ _)
       unfold execOp
       rw [e]
       have hb : Builtin.complex_ ts o.type #[.float k m, .float k n] = pure (.complex k m n) := (if_pos rfl : (if k = k then (pure (.complex k m n) : Sem Value) else stuck "complex: parts of different kinds") = _)
       simp [resolve, invoke, builtin, hb, e1, e2]
     · trivial
   · trivial
theorem zzh {x : Operand} {ts : Array TypeId} (e : o.op = .call { callee := .builtin .real, args := #[x], argTypes := ts }) {vals : List AV}
   (hv : Ops w.heap D μ a [x] vals) : zbw P base M W nt f g c o a w (cRe vals) := by
 match vals, hv with
 | [v], ⟨hx, _⟩ =>
   unfold cRe
   split
   · rename_i k m n he
     simp only [List.cons.injEq, and_true] at he
     subst he
     have e1 : a.eval x = .complex k m n := hx.inv_cpx
     refine za0 h hd (u := .float k m) ?_ (.flt _ _)
     unfold execOp
     rw [e]
     have hb : Builtin.real_ ts o.type #[.complex k m n] = pure (.float k m) := rfl
     simp [resolve, invoke, builtin, hb, e1]
   · trivial
theorem zzu {x : Operand} {ts : Array TypeId} (e : o.op = .call { callee := .builtin .imag, args := #[x], argTypes := ts }) {vals : List AV}
   (hv : Ops w.heap D μ a [x] vals) : zbw P base M W nt f g c o a w (cIm vals) := by
 match vals, hv with
 | [v], ⟨hx, _⟩ =>
   unfold cIm
   split
   · rename_i k m n he
     simp only [List.cons.injEq, and_true] at he
     subst he
     have e1 : a.eval x = .complex k m n := hx.inv_cpx
     refine za0 h hd (u := .float k n) ?_ (.flt _ _)
     unfold execOp
     rw [e]
     have hb : Builtin.imag_ ts o.type #[.complex k m n] = pure (.float k n) := rfl
     simp [resolve, invoke, builtin, hb, e1]
   · trivial
theorem yf9 {x y : Operand} {ts : Array TypeId} (e : o.op = .call { callee := .builtin .max, args := #[x, y], argTypes := ts }) {vals : List AV}
   (hv : Ops w.heap D μ a [x, y] vals) : zbw P base M W nt f g c o a w (ymk std vals) := by
 match vals, hv with
 | [v, v'], ⟨hx, hy, _⟩ =>
   unfold ymk
   split
   · rename_i k m k' n he
     simp only [List.cons.injEq, and_true] at he
     obtain ⟨rfl, rfl⟩ := he
     split
     · rename_i hk
       obtain rfl : k = k' := of_decide_eq_true hk
       refine za0 h hd (u := .int k (max m n)) ?_ (.int _ _)
       unfold execOp
       rw [e]
       have : (if n > m then n else m) = max m n := by rw [Int.max_def]; split <;> split <;> omega
       simp [resolve, invoke, builtin, Builtin.max_, hx.inv_int, hy.inv_int, Builtin.max2, this]
     · trivial
   · rename_i k m k' n he
     simp only [List.cons.injEq, and_true] at he
     obtain ⟨rfl, rfl⟩ := he
     split
     · rename_i hk
       obtain rfl : k = k' := of_decide_eq_true hk
       intro hb
       have e1 : a.eval x = .float k m := hx.inv_flt
       have e2 : a.eval y = .float k n := hy.inv_flt
       refine za0 h hd (u := .float k (yr3 k m n)) ?_ (.flt _ _)
       unfold execOp
       rw [e]
       simp [resolve, invoke, builtin, Builtin.max_, e1, e2, ygg hb]
     · trivial
   · rename_i he; simp at he
   · trivial
theorem zzo {x y z : Operand} {ts : Array TypeId} (e : o.op = .call { callee := .builtin .max, args := #[x, y, z], argTypes := ts }) {vals : List AV}
   (hv : Ops w.heap D μ a [x, y, z] vals) : zbw P base M W nt f g c o a w (ymk std vals) := by
 match vals, hv with
 | [v, v', v''], ⟨hx, hy, hz, _⟩ =>
   unfold ymk
   split
   · rename_i he; simp at he
   · rename_i he; simp at he
   · rename_i k m k' n k'' q he
     simp only [List.cons.injEq, and_true] at he
     obtain ⟨rfl, rfl, rfl⟩ := he
     split
     · rename_i hk
       obtain rfl : k = k' := of_decide_eq_true hk
       split
       · rename_i hk
         obtain rfl : k = k'' := of_decide_eq_true hk
         refine za0 h hd (u := .int k (max (max m n) q)) ?_ (.int _ _)
         unfold execOp
         rw [e]
         have e1 : ∀ m n : Int, (if n > m then n else m) = max m n := fun m n => by rw [Int.max_def]; split <;> split <;> omega
         simp [resolve, invoke, builtin, Builtin.max_, hx.inv_int, hy.inv_int, hz.inv_int, Builtin.max2, e1]
       · trivial
     · trivial
   · trivial
theorem yf6 {x : Operand} (e : o.op = .nilCheck x) {vals : List AV} (hv : Ops w.heap D μ a [x] vals) : zbw P base M W nt f g c o a w (yt3 vals) := by
 match vals, hv with
 | [v], ⟨hv, _⟩ =>
   have run : ∀ ad, a.eval x = .pointer (some ad) -> (execOp a.eval o).run P w = .ok (.value (.pointer (some ad))) w := by
     intro ad hu; unfold execOp; rw [e]; simp [hu]
   unfold yt3
   split
   · rename_i id off he
     simp only [List.cons.injEq, and_true] at he; subst he
     generalize hu : a.eval x = u at *
     have hv' := hv
     cases hv; exact za0 h hd (run _ rfl) hv'
   · rename_i id sz i off he
     simp only [List.cons.injEq, and_true] at he; subst he
     generalize hu : a.eval x = u at *
     have hv' := hv
     cases hv; exact za0 h hd (run _ rfl) hv'
   · rename_i p k sz i off he
     simp only [List.cons.injEq, and_true] at he; subst he
     generalize hu : a.eval x = u at *
     have hv' := hv
     cases hv; exact za0 h hd (run _ rfl) hv'
   · rename_i cc p k sz i off he
     simp only [List.cons.injEq, and_true] at he; subst he
     generalize hu : a.eval x = u at *
     intro hc
     subst hc
     have hv' := hv.aer_of
     cases hv; exact za0 h hd (run _ rfl) hv'
   rotate_left
   · rename_i id off n i he
     simp only [List.cons.injEq, and_true] at he; subst he
     generalize hu : a.eval x = u at *
     have hv' := hv
     cases hv; exact za0 h hd (run _ rfl) hv'
   rotate_left
   · rename_i n get he
     simp only [List.cons.injEq, and_true] at he; subst he
     generalize hu : a.eval x = u at *
     have hv' := hv
     cases hv; exact za0 h hd (run _ rfl) hv'
   · trivial
end
end Sy
end Go.Proofs.Ytogomcfgfnlclaa
namespace Go.Proofs.Ytogomcfgfnlclaa
namespace Sy
open Go Go.RowKit
set_option linter.unusedSimpArgs false
set_option linter.unusedVariables false
theorem zmz : ∀ (ns : List Int) (s : ByteArray), (ns.foldl (fun r n => r.push (UInt8.ofNat n.toNat)) s).data.toList = s.data.toList ++ ns.map fun n => UInt8.ofNat n.toNat
 | [], s => by simp
 | n :: ns, s => by simp [zmz ns]
theorem zbb (b o j : Nat) : (⟨b, o, none⟩ : Addr).add j = ⟨b, o + j, none⟩ := by unfold Addr.add; split <;> simp_all
section
variable {P : Program} {T : TT} {base : Nat} {M : Two} {W : World} {nt : Nat} {f : Nat -> Option AV} {g : Nat -> Option Ob} {c : Nat -> Bool} {a : Act} {w : World} {D : Nat -> Prop} {μ : Mu} {o : Oper}
theorem zh7 (hT : zbd P T) {e : Nat} (h : ylh T e = true) : P.underlying e = some (.int .u8) := by
 unfold ylh at h
 split at h
 · rename_i i hi
   have := (hT e i hi).k
   split at h
   · rename_i hk; rw [hk] at this; exact this
   · cases h
 · cases h
theorem zqz (hT : zbd P T) {s t e esz eb : Nat} {si ti : TI} (hs : T.find s = some si) (hsk : si.k = .slice e esz eb) (hu : ylh T e = true) (ht : T.find t = some ti) (htk : ti.k = .str)
   (b o n cap : Nat) (k : Nat -> Int) (hc : ∀ i, i < n -> hcell w.heap b (o + i) = some (.int .u8 (k i))) :
   ∃ r : ByteArray, (convert s t (.slice (some ⟨b, o, none⟩) n cap)).run P w = .ok (.string r) w /\ r.data.toList = zay n k := by
 have h1 := (hT s si hs).k
 rw [hsk] at h1
 have h2 := (hT t ti ht).k
 rw [htk] at h2
 have hl := run_loadCells (P := P) w ⟨b, o, none⟩ n (fun i => .int .u8 (k i)) (fun j hj => by rw [zbb, zel]; exact hc j hj)
 have hl' : (loadCells ⟨b, o, none⟩ n).run P w = .ok (((List.range n).map k).map (Value.int .u8)).toArray w := by rw [hl]; simp
 refine ⟨_, by rw [run_convert_bytes_string w s t e _ n cap h1.1 (zh7 hT hu) h2, run_bytesToString w _ n cap _ hl'], ?_⟩
 rw [zmz]
 simp [zay, ByteArray.empty, ByteArray.emptyWithCapacity]
 rfl
variable (h : Sim base M W nt f g c a w D μ) (hd : ∀ d, o.dst = some d -> d < nt)
include h hd
theorem zzy (hT : zbd P T) {s t : TypeId} {x : Operand} (e : o.op = .convert s t x) {vals : List AV} (hv : Ops w.heap D μ a [x] vals) {ob : Nat -> Option Ob} (hob : ∀ id z, ob id = some z -> g id = some z) :
   zbw P base M W nt f g c o a w (yms T std s t ob vals) := by
 match vals, hv with
 | [v], ⟨hv, _⟩ =>
   have run : ∀ u, (convert s t (a.eval x)).run P w = .ok u w -> (execOp a.eval o).run P w = .ok (.value u) w := by
     intro u hu; unfold execOp; rw [e]; simp [hu]
   generalize a.eval x = u at *
   unfold yms
   simp only
   split
   · rename_i si hsi
     obtain ⟨sd, hsd⟩ := (hT s si hsi).und
     split
     · rename_i ti hti
       have ok := (hT t ti hti).k
       split
       · rename_i k hk
         rw [hk] at ok
         split
         · rename_i k' n
           have := hv.inv_int
           subst this
           refine za0 h hd (u := .int k (k.wrap n)) (run _ ?_) (.int _ _)
           simp only [convert, Sem.run_bind, run_underlying hsd, run_underlying ok, Result.andThen_ok]
           cases sd <;> rfl
         · trivial
       · rename_i k hk
         rw [hk] at ok
         split
         · rename_i k' n
           have := hv.inv_int
           subst this
           refine za0 h hd (u := .float k (k.nearest n)) (run _ ?_) (.flt _ _)
           simp only [convert, Sem.run_bind, run_underlying hsd, run_underlying ok, Result.andThen_ok]
           cases sd <;> rfl
         · trivial
       · rename_i hk
         rw [hk] at ok
         split
         · rename_i l
           have hv' := hv
           obtain ⟨r, rfl, rfl⟩ := hv.inv_str
           refine za0 h hd (u := .string r) (run _ ?_) hv'
           simp only [convert, Sem.run_bind, run_underlying hsd, run_underlying ok, Result.andThen_ok]
           cases sd <;> rfl
         · split
           · rename_i e' esz eb hsk
             split
             · rename_i hu8
               have h1 := (hT s si hsi).k
               rw [hsk] at h1
               split
               · rename_i n get _
                 intro hp
                 have key : ∀ b o' cap, (∀ i, i < n -> hcell w.heap b (o' + i) = some (.int .u8 (get i 0).toI)) -> u = .slice (some ⟨b, o', none⟩) n cap ->
                     Adv P base M W nt f g c o a w (.str (L2 std zay n (fun i => (get i 0).toI))) [] [] := by
                   rintro b o' cap hc rfl
                   obtain ⟨r, hr1, hr2⟩ := zqz (P := P) (w := w) hT hsi hsk hu8 hti hk b o' n cap (fun i => (get i 0).toI) hc
                   exact za0 h hd (run _ hr1) (.str _ _ hr2)
                 cases hv with
                 | lst0 _ _ ad cap hn =>
                   cases ad with
                   | none =>
                     refine za0 h hd (u := .string .empty) (run _ ?_) (.str _ _ rfl)
                     rw [run_convert_bytes_string w s t e' none 0 cap h1.1 (zh7 hT hu8) ok]
                     rfl
                   | some ad =>
                     refine za0 h hd (u := .string .empty) (run _ ?_) (.str _ _ rfl)
                     rw [run_convert_bytes_string w s t e' _ 0 cap h1.1 (zh7 hT hu8) ok]
                     rfl
                 | lst _ _ _ b o' cap vs hD hn hv h1' hr =>
                   refine key b o' cap (fun i hi => ?_) rfl
                   have h3 := hv i 0 hi (by omega)
                   have h4 := hr i 0 hi (by omega)
                   obtain ⟨q, hq⟩ := hp i hi
                   rw [hq] at h4 |-
                   rw [h4.inv_int] at h3
                   simpa [AV.toI] using h3
               · cases hv with
                 | nils =>
                   refine za0 h hd (u := .string .empty) (run _ ?_) (.str _ _ rfl)
                   rw [run_convert_bytes_string w s t e' none 0 0 h1.1 (zh7 hT hu8) ok]
                   rfl
               · rename_i id off n _
                 split
                 · rename_i m get hob'
                   have hg := hob _ _ hob'
                   rintro ⟨hm0, hp⟩
                   have hm : off + n <= m := hm0
                   have empty : ∀ ad cap, n = 0 -> u = .slice ad 0 cap -> Adv P base M W nt f g c o a w (.str (L2 std zay n (fun i => (get (off + i) 0).toI))) [] [] := by
                     rintro ad cap rfl rfl
                     refine za0 h hd (u := .string .empty) (run _ ?_) (.str _ _ rfl)
                     rw [run_convert_bytes_string w s t e' _ 0 cap h1.1 (zh7 hT hu8) ok]
                     cases ad <;> rfl
                   cases hv with
                   | slv => exact empty _ _ rfl rfl
                   | sl0 => exact empty _ _ rfl rfl
                   | sl _ _ _ _ b z m' cap hμ hn hz ho =>
                     obtain ⟨_, cs, t', fr, hh, _, _, _, hrow⟩ := h.obs id _ _ hg hμ
                     obtain ⟨r, hr1, hr2⟩ := zqz (P := P) (w := w) hT hsi hsk hu8 hti hk b (off * 1) n cap (fun i => (get (off + i) 0).toI) (fun i hi => by
                       obtain ⟨y, hy1, _, hy2⟩ := hrow (off + i) 0 (by omega) (by omega)
                       obtain ⟨q, hq⟩ := hp i hi
                       rw [hq] at hy2 |-
                       rw [hy2.inv_int] at hy1
                       rw [zao hh]
                       simpa [AV.toI] using hy1)
                     exact za0 h hd (run _ hr1) (.str _ _ hr2)
                 · trivial
               · trivial
             · trivial
           · trivial
       · rename_i hk
         split
         · rename_i id el hpt
           split
           · rename_i ty cs ei hg hei
             have hg := hob _ _ hg
             split
             · rename_i hup hli hty hsz hpos
               obtain rfl := za1 hty
               have hsz := za1 hsz
               rw [zai] at hsz
               cases hv with
               | ref _ _ b z m hμ =>
                 obtain ⟨C, t', fr, hh, hcs, ⟨_, rfl⟩, _, hr, _⟩ := h.obs id _ _ hg hμ
                 obtain ⟨j, zv, hj, hj2, _, _, hj5, _⟩ := (hT _ ei hei).info
                 have hsh : w.shape? b = some (t', C.size) := by simp [World.shape?, hh]
                 have hpos : 0 < ei.sz := zan hpos
                 refine za0 h hd (run _ (Lib.run_from_unsafe w (cells := C.size) ⟨b, 0, none⟩ ((hT s si hsi).upf hup) ((hT t ti hti).ptf _ hpt) hj hsh ?_)) (.ref id 0 b z m hμ)
                 have hc : P.cellsOf t' = ei.sz := by rw [Program.cellsOf, hj]; simpa using hj2
                 rw [hc, show C.size = ei.sz by rw [<- hr, hsz], Nat.div_self hpos]
                 exact (hT _ ei hei).lief hli
             · trivial
           · trivial
         · trivial
       · rename_i hk
         split
         · rename_i id off el hpt
           split
           · rename_i ty cs ei hg hei
             have hg := hob _ _ hg
             split
             · rename_i hup hpos hoff
               have hpos := zan hpos
               have hoff := zan hoff
               rw [zai] at hoff
               cases hv with
               | ref _ _ b z m hμ =>
                 obtain ⟨C, t', fr, hh, hcs, ⟨_, rfl⟩, _, hr, _⟩ := h.obs id _ _ hg hμ
                 obtain ⟨j, zv, hj, hj2, _⟩ := (hT _ ei hei).info
                 have hsh : w.shape? b = some (t', C.size) := by simp [World.shape?, hh]
                 exact za0 h hd (run _ (Lib.run_to_unsafe w (cells := C.size) ⟨b, off, none⟩ ((hT s si hsi).ptf _ hpt) ((hT t ti hti).upf hup) hj (by rw [hj2]; omega) hsh (by show off < C.size; rw [<- hr]; exact hoff))) (.ref id off b z m hμ)
             · trivial
           · trivial
         · trivial
       · trivial
     · trivial
   · trivial
theorem zwd (hT : zbd P T) {t : TypeId} {x : Operand} {k : Nat} (e : o.op = .fieldAddr t x k) {vals : List AV} (hv : Ops w.heap D μ a [x] vals) : zbw P base M W nt f g c o a w (ydq T t k vals) := by
 match vals, hv with
 | [v], ⟨hv, _⟩ =>
   have run : ∀ u, (Instr.fieldAt t (a.eval x) k).run P w = .ok u w -> (execOp a.eval o).run P w = .ok (.value u) w := by
     intro u hu; unfold execOp; rw [e]; simp [hu]
   generalize a.eval x = u at *
   unfold ydq
   simp only
   split
   · rename_i sz ag ze fs eqf p1 p2 p3 hi
     have ok := (hT t _ hi).k
     obtain ⟨F, hF, hfs⟩ := ok
     split
     · rename_i hlt
       have hlt := zan hlt
       rw [zai] at hlt
       split
       · rename_i m hm
         have hk : k < F.size := by rw [<- hfs] at hlt; simpa using hlt
         have hfd : zbl (0, 0) fs k = (F[k].offset, F[k].type) := by
           rw [zfh]; simp [<- hfs, List.getD, hk]
         rw [hfd] at hm |-
         have hsz : ∀ w' : World, (sizeOf F[k].type).run P w' = .ok (m + 1) w' := by
           intro w'
           unfold TT.sizeOf at hm
           split at hm
           · rename_i fi hfi
             injection hm with hmm
             have := (hT _ fi hfi).sizeOf w'
             rw [this, hmm]
           · cases hm
         have go : ∀ b o', u = .pointer (some ⟨b, o', none⟩) -> (Instr.fieldAt t u k).run P w = .ok (.pointer (some ⟨b, o' + F[k].offset, none⟩)) w := by
           rintro b o' rfl
           simp [Instr.fieldAt, run_underlying hF, hk, Instr.sureAddr, fieldPlace, hsz, zbb]
         split
         · rename_i id off
           cases hv with
           | ref _ _ b z m hμ => exact za0 h hd (run _ (go _ _ rfl)) (.ref _ _ b z m hμ)
         · rename_i id sz' i off
           cases hv with
           | eref _ _ _ _ b z m hμ hi' =>
             refine za0 h hd (run _ (go _ _ rfl)) ?_
             rw [Nat.add_assoc]
             exact .eref _ _ _ _ b z m hμ hi'
         · rename_i p' k' sz' i off
           cases hv with
           | aer _ _ _ _ _ b z m hμ hi' =>
             refine za0 h hd (run _ (go _ _ rfl)) ?_
             rw [Nat.add_assoc]
             exact .aer _ _ _ _ _ b z m hμ hi'
         · rename_i cc p' k' sz' i off
           intro hc
           subst hc
           cases hv with
           | aepp _ _ _ _ _ b z m hμ hi' =>
             refine za0 h hd (run _ (go _ _ rfl)) ?_
             rw [Nat.add_assoc]
             exact .aer _ _ _ _ _ b z m hμ hi'
         · rename_i n get
           cases hv with
           | iptr _ _ b o' vs hD hv h1 hr =>
             exact za0 h hd (run _ (go _ _ rfl)) (.iptr _ _ b _ (fun j => vs (F[k].offset + j)) hD (fun j hj => by rw [Nat.add_assoc]; exact hv _ (by omega)) (fun j hj => h1 _ (by omega)) (fun j hj => hr _ (by omega)))
         · trivial
       · trivial
     · trivial
   · trivial
theorem zwc (hT : zbd P T) {t : TypeId} {x : Operand} {k : Nat} (e : o.op = .field t x k) {vals : List AV} (hv : Ops w.heap D μ a [x] vals) : zbw P base M W nt f g c o a w (ydp T t k vals) := by
 match vals, hv with
 | [v], ⟨hv, _⟩ =>
   have run : ∀ u, (Instr.field t (a.eval x) k).run P w = .ok u w -> (execOp a.eval o).run P w = .ok (.value u) w := by
     intro u hu; unfold execOp; rw [e]; simp [hu]
   generalize a.eval x = u at *
   unfold ydp
   split
   · rename_i cs he
     simp only [List.cons.injEq, and_true] at he
     subst he
     obtain ⟨us, rfl, h1, hr⟩ := hv.inv_agg
     split
     · rename_i sz ag ze fs eqf p1 p2 p3 hi
       have ok := (hT t _ hi).k
       obtain ⟨F, hF, hfs⟩ := ok
       split
       · rename_i hlt
         have hlt := zan hlt
         rw [zai] at hlt
         have hk : k < F.size := by rw [<- hfs] at hlt; simpa using hlt
         have hfd : zbl (0, 0) fs k = (F[k].offset, F[k].type) := by
           rw [zfh]; simp [<- hfs, List.getD, hk]
         rw [hfd]
         split
         · rename_i i hfi
           split
           · rename_i hle
             have hle := zb2 hle
             rw [zai] at hle
             have go : ∀ u, (part F[k].type us F[k].offset).run P w = .ok u w -> (Instr.field t (.agg us) k).run P w = .ok u w := by
               intro u hu
               simp [Instr.field, run_underlying hF, hk, asAgg, hu]
             split
             · rename_i hag
               obtain ⟨u, hu, r⟩ := zfa (P := P) hT hfi h1 hr F[k].offset hle (by rw [hag]; simp)
               rw [hag] at r
               exact za0 h hd (run _ (go _ hu)) r
             · rename_i hag
               split
               · rename_i hs
                 obtain ⟨u, hu, r⟩ := zfa (P := P) hT hfi h1 hr F[k].offset hle (fun _ => za1 hs)
                 rw [hag] at r
                 exact za0 h hd (run _ (go _ hu)) r
               · trivial
           · trivial
         · trivial
       · trivial
     · trivial
   · trivial
end
end Sy
end Go.Proofs.Ytogomcfgfnlclaa
