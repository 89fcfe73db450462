/-What package-level variables hold when a call begins: strconv's. A symbolic executor for the functions of this seat: abstract values, states, the operations, the run. Definitions alone; and what stands between these and the texts behind.-/
import Derived.Test.YtogpolfhcbgcbaaGreatDoorProg
import Derived.Lib.LaidTab
import Derived.Lib.ItoaNum
import Derived.Orders
import Derived.ScopeJumps
import Derived.Below
import Derived.Laws.CopyRow
import Derived.Laws.AppendOwn
import Derived.Laws.OwnMore
import Derived.Laws.StructEq
import Derived.MapKept
import Derived.Lib.IndexBytes
import Derived.LaidEqlPtr
import Derived.ChangeKeysEq
import Derived.Lib.UnsafeStr
import Derived.Lib.Builder
import Derived.Laws.IdiomStrings
import Derived.Laws.Tables
namespace Go.Proofs.YtogpolfhcbgcbaaGreatDoor
namespace Sy
open Go
set_option linter.unusedVariables false
noncomputable def gIx (name : String) : Nat := (Tryz.prog.globalNamed name).getD 0
noncomputable def gN : Nat := max (gIx "internal/strconv.uint64pow10") (max (gIx "strconv.ErrSyntax") (max (gIx "strconv.ErrRange") (gIx "internal/bytealg.MaxLen"))) + 1
def zkx (w : World) (name : String) : Prop := ∃ te pe, w.var? Tryz.prog name = some #[.iface te pe]
def ygy (w : World) : Prop := ∀ g, Tryz.prog.globalNamed "internal/bytealg.MaxLen" = some g -> ∃ m, w.cell? ⟨g, 0, none⟩ = some (.int .i64 m)
def GOk (w : World) : Prop := gN <= w.heap.size /\ Lib.TabIs Tryz.prog w "internal/strconv.uint64pow10" .u64 Lib.pow10Tab /\ zkx w "strconv.ErrSyntax" /\ zkx w "strconv.ErrRange" /\ ygy w
theorem zon {w w' : World} {name : String} (hn : gIx name < gN) (hb : ∀ b, b < gN -> w'.heap[b]? = w.heap[b]?) {cs : Array Value} (h : w.var? Tryz.prog name = some cs) : w'.var? Tryz.prog name = some cs := by
 unfold World.var? at h |-
 unfold gIx at hn
 cases hg : Tryz.prog.globalNamed name with
 | none => rw [hg] at h; cases h
 | some g =>
   rw [hg] at h hn
   simp only [Option.bind_some] at h |-
   rw [hb g hn]
   exact h
theorem yb2 {w : World} {name : String} {cs : Array Value} (h : w.var? Tryz.prog name = some cs) : gIx name < w.heap.size := by
 unfold World.var? at h
 unfold gIx
 cases hg : Tryz.prog.globalNamed name with
 | none => rw [hg] at h; cases h
 | some g =>
   rw [hg] at h
   simp only [Option.bind_some] at h
   rcases Nat.lt_or_ge g w.heap.size with h' | h'
   · exact h'
   · rw [Array.getElem?_eq_none h'] at h; cases h
theorem gN_1 : gIx "internal/strconv.uint64pow10" < gN := by unfold gN; omega
theorem gN_2 : gIx "strconv.ErrSyntax" < gN := by unfold gN; omega
theorem gN_3 : gIx "strconv.ErrRange" < gN := by unfold gN; omega
theorem gN_4 : gIx "internal/bytealg.MaxLen" < gN := by unfold gN; omega
theorem yj9 {w w' : World} (hs : w.heap.size <= w'.heap.size) (hb : ∀ b, b < gN -> w'.heap[b]? = w.heap[b]?) (h : ygy w) : ygy w' := by
 intro g hg
 obtain ⟨m, hm⟩ := h g hg
 have hn : g < gN := by
   have := gN_4
   unfold gIx at this
   rw [hg] at this
   exact this
 refine ⟨m, ?_⟩
 rw [<- hm]
 simp only [World.cell?]
 rw [hb g hn]
theorem ylh {w w' : World} (h : GOk w) (hs : w.heap.size <= w'.heap.size) (hb : ∀ b, b < gN -> w'.heap[b]? = w.heap[b]?) : GOk w' := by
 obtain ⟨h0, h1, ⟨t2, p2, h2⟩, ⟨t3, p3, h3⟩, h4⟩ := h
 exact ⟨Nat.le_trans h0 hs, zon gN_1 hb h1, ⟨t2, p2, zon gN_2 hb h2⟩, ⟨t3, p3, zon gN_3 hb h3⟩, yj9 hs hb h4⟩
theorem zxp {w : World} (h : GOk w) : gN <= w.heap.size := h.1
theorem GOk_of {w : World} (h1 : Lib.TabIs Tryz.prog w "internal/strconv.uint64pow10" .u64 Lib.pow10Tab) (h2 : zkx w "strconv.ErrSyntax") (h3 : zkx w "strconv.ErrRange") (h4 : ygy w) : GOk w := by
 refine ⟨?_, h1, h2, h3, h4⟩
 obtain ⟨t2, p2, h2⟩ := h2
 obtain ⟨t3, p3, h3⟩ := h3
 have k1 := yb2 h1
 have hz : gIx "internal/bytealg.MaxLen" < w.heap.size := by
   unfold gIx
   cases hg : Tryz.prog.globalNamed "internal/bytealg.MaxLen" with
   | none => show 0 < _; omega
   | some g =>
     obtain ⟨m, hm⟩ := h4 g hg
     show g < _
     rcases Nat.lt_or_ge g w.heap.size with h' | h'
     · exact h'
     · simp [World.cell?, Array.getElem?_eq_none h'] at hm
 have k2 := yb2 h2
 have k3 := yb2 h3
 unfold gN
 omega
end Sy
end Go.Proofs.YtogpolfhcbgcbaaGreatDoor
namespace Go.Proofs.YtogpolfhcbgcbaaGreatDoor
namespace Sy
open Go
set_option linter.unusedVariables false
abbrev zab : Type 1 := ∀ {α β : Type}, (α -> β) -> α -> β
def std : zab := fun f x => f x
def L2 (L : zab) {α β γ : Type} (f : α -> β -> γ) (a : α) (b : β) : γ := L (L f a) b
def L3 (L : zab) {α β γ δ : Type} (f : α -> β -> γ -> δ) (a : α) (b : β) (c : γ) : δ := L (L (L f a) b) c
inductive Ky where
 | i (n : Int)
 | s (l : List UInt8)
 | a (l : List Int)
 deriving DecidableEq
inductive KK where
 | i (k : IntKind)
 | s
 | a (ks : List IntKind)
 | no
 deriving DecidableEq
inductive AV where
 | dead
 | bool (b : Bool)
 | int (k : IntKind) (n : Int)
 | str (l : List UInt8)
 | nilp
 | nilm
 | nilf
 | nils
 | nili
 | ifb (nil : Bool)
 | emp
 | emz
 | lst (sz n : Nat) (get : Nat -> Nat -> AV)
 | lstx (sz n : Nat) (get : Nat -> Nat -> AV)
 | iptr (n : Nat) (get : Nat -> AV)
 | ref (id off : Nat)
 | eref (id sz i off : Nat)
 | sl (id sz off n : Nat)
 | slc (id sz off n cap : Nat)
 | fn (f : FuncId) (first caps : List AV)
 | agg (cs : List AV)
 | arr (n : Nat) (get : Nat -> AV)
 | tup (vs : List AV)
 | mp (id : Nat)
 | bidx (id off n i : Nat)
 | flt (k : FloatKind) (b : Nat)
 | cpx (k : FloatKind) (a b : Nat)
 | mpi (kk : KK) (n : Nat) (has : Ky -> Bool) (val : Ky -> AV)
inductive Ob where
 | box (ty : Nat) (cs : List AV)
 | row (ty sz n : Nat) (get : Nat -> Nat -> AV)
 | spr (ty : Nat) (cs : List AV)
 | map (kk : KK) (n : Nat) (has : Ky -> Bool) (val : Ky -> AV)
 | mapl (kk : KK) (es : List (Ky × AV))
 | mapq (e : Bool)
 | gone
structure St where
 slots : List (Nat × AV)
 objs : List (Nat × Ob)
 ice : List Nat
 kn : List (Nat × Bool)
inductive Ex where
 | normal | exit (id : Nat) | goto (l : Nat) | ret
inductive zc6 : Type 1 where
 | fail (why : Nat)
 | need (b : Bool) (k : zc6)
 | must (p : Prop) (k : zc6)
 | ite (b : Bool) (t e : zc6)
 | done (r : AV)
 | yes
 | call (f : FuncId) (xs : List AV) (k : AV -> zc6)
 | ex (X : Type) (f : X -> zc6)
 | all (X : Type) (f : X -> zc6)
 | sup (p : Prop) (k : zc6)
 | and (a b : zc6)
def zat (a b : Nat) : Bool := decide (a = b)
def zbx (a b : Nat) : Bool := decide (a <= b)
def zbk (a b : Nat) : Bool := decide (a < b)
def zbn {α : Type} (d : α) : List α -> Nat -> α
 | [], _ => d
 | x :: _, 0 => x
 | _ :: xs, n + 1 => zbn d xs n
def yru {α : Type} (v : α) : List α -> Nat -> List α
 | [], _ => []
 | _ :: xs, 0 => v :: xs
 | x :: xs, n + 1 => x :: yru v xs n
def zco {α : Type} : List α -> Nat -> List α
 | _, 0 => []
 | [], _ + 1 => []
 | x :: xs, n + 1 => x :: zco xs n
def zcz {α : Type} : List α -> Nat -> List α
 | xs, 0 => xs
 | [], _ + 1 => []
 | _ :: xs, n + 1 => zcz xs n
def zcb {α : Type} : List α -> List α -> List α
 | [], ys => ys
 | x :: xs, ys => x :: zcb xs ys
def zck {α β : Type} (f : α -> β) : List α -> List β
 | [] => []
 | x :: xs => f x :: zck f xs
def zdp {α : Type} : List α -> Nat
 | [] => 0
 | _ :: xs => zdp xs + 1
def zgj {α : Type} : List α -> Nat -> List α -> List α
 | xs, _, [] => xs
 | xs, n, y :: ys => zgj (yru y xs n) (n + 1) ys
def znq {α : Type} (f : Nat -> α) : Nat -> Nat -> List α
 | _, 0 => []
 | i, n + 1 => f i :: znq f (i + 1) n
def zbu : List Nat -> Nat -> Bool
 | [], _ => false
 | x :: xs, n => match zat x n with | true => true | false => zbu xs n
def za3 {α : Type} : List (Nat × α) -> Nat -> Option α
 | [], _ => none
 | (i, x) :: xs, n => match zat i n with | true => some x | false => za3 xs n
inductive TK where
 | int (k : IntKind) | bool | str | ptr | func | map (key elem : Nat) | other | iface | flt (k : FloatKind)
 | slice (elem esz ebytes : Nat)
 | arr (n elem esz : Nat)
 | struct (fs : List (Nat × Nat))
structure TI where
 sz : Nat
 isAgg : Bool
 zero : List AV
 k : TK
 eq : Bool
 pt : Option Nat
 up : Bool
 lies : Bool
inductive TT where
 | leaf
 | node (l : TT) (t : Nat) (i : TI) (r : TT)
def TT.find : TT -> Nat -> Option TI
 | .leaf, _ => none
 | .node l t i r, n => match zat n t with
   | true => some i
   | false => match zbk n t with
     | true => l.find n
     | false => r.find n
def ofV : Value -> AV
 | .bool b => .bool b
 | .int k n => .int k n
 | .string s => .str s.data.toList
 | .float k b => .flt k b
 | .complex k a b => .cpx k a b
 | .pointer none => .nilp
 | .map none => .nilm
 | .nilFunc => .nilf
 | .nilIface => .nili
 | .slice none n c => match n, c with
   | 0, 0 => .nils
   | _, _ => .dead
 | .func (.func f) a b => match a.toList with
   | [] => match b.toList with
     | [] => .fn f [] []
     | _ => .dead
   | _ => .dead
 | _ => .dead
def yxe : Value -> AV
 | .agg cs => .agg (zck ofV cs.toList)
 | v => ofV v
def AV.cells : AV -> List AV
 | .agg cs => cs
 | .arr n get => znq get 0 n
 | v => [v]
def yso : AV -> Bool
 | .dead => false
 | .agg _ => false
 | .arr _ _ => false
 | .tup _ => false
 | _ => true
def zl8 : AV -> Bool
 | .agg _ => true
 | .arr _ _ => true
 | v => yso v
def zfk : List AV -> Bool
 | [] => true
 | x :: xs => match zl8 x with | true => zfk xs | false => false
def condG (c : Bool) (g g' : Nat -> Nat -> AV) : Nat -> Nat -> AV := cond c g g'
def zhc (L : zab) (c : Bool) : AV -> AV -> AV
 | .bool a, .bool b => .bool (L3 L (fun (c a b : Bool) => cond c a b) c a b)
 | .int k a, .int k' b => match decide (k = k') with
   | true => .int k (L3 L (fun (c : Bool) (a b : Int) => cond c a b) c a b)
   | false => .dead
 | .str a, .str b => .str (L3 L (fun (c : Bool) (a b : List UInt8) => cond c a b) c a b)
 | .cpx k a b, .cpx k' a' b' => match decide (k = k') with
   | true => .cpx k (L3 L (fun (c : Bool) (a b : Nat) => cond c a b) c a a') (L3 L (fun (c : Bool) (a b : Nat) => cond c a b) c b b')
   | false => .dead
 | .nilp, .nilp => .nilp
 | .nilm, .nilm => .nilm
 | .nilf, .nilf => .nilf
 | .nils, .nils => .nils
 | .nili, .nili => .nili
 | .ifb a, .ifb b => .ifb (L3 L (fun (c a b : Bool) => cond c a b) c a b)
 | .lst sz n get, .nils => .lst sz (L3 L (fun (c : Bool) (a b : Nat) => cond c a b) c n 0) get
 | .nils, .lst sz n get => .lst sz (L3 L (fun (c : Bool) (a b : Nat) => cond c a b) c 0 n) get
 | .lst sz n get, .lst sz' n' get' => match decide (sz = sz') with
   | true => .lst sz (L3 L (fun (c : Bool) (a b : Nat) => cond c a b) c n n') (L3 L condG c get get')
   | false => .dead
 | _, _ => .dead
def zg8 : AV -> List Nat
 | .ref id _ => [id]
 | .eref id _ _ _ => [id]
 | .sl id _ _ _ => [id]
 | .slc id _ _ _ _ => [id]
 | .mp id => [id]
 | .bidx id _ _ _ => [id]
 | _ => []
def zu1 : List AV -> List Nat
 | [] => []
 | x :: xs => zcb (zg8 x) (zu1 xs)
def ze1 : AV -> List Nat
 | .fn _ a b => zcb (zu1 a) (zu1 b)
 | v => zg8 v
def zrk : List AV -> List Nat
 | [] => []
 | x :: xs => zcb (ze1 x) (zrk xs)
def zr0 : AV -> Bool
 | .fn _ _ _ => false
 | .agg _ => false
 | .tup _ => false
 | .ref _ _ => false
 | .eref _ _ _ _ => false
 | .sl _ _ _ _ => false
 | .slc _ _ _ _ _ => false
 | .mp _ => false
 | .bidx _ _ _ _ => false
 | _ => true
def zid : List AV -> Bool
 | [] => true
 | x :: xs => match zr0 x with | true => zid xs | false => false
def zm7 : AV -> Bool
 | .fn _ a b => match zid a with | true => zid b | false => false
 | v => zr0 v
def zm6 : List AV -> Bool
 | [] => true
 | x :: xs => match zm7 x with | true => zm6 xs | false => false
def zwu : AV -> List Nat
 | .agg cs => zrk cs
 | .tup cs => zrk cs
 | .fn _ a b => zcb (zrk a) (zrk b)
 | v => ze1 v
def zdl : List AV -> List Nat
 | [] => []
 | x :: xs => zcb (zwu x) (zdl xs)
def yal (get : Nat -> Nat -> AV) (sz : Nat) : Nat -> AV :=
 match sz with
 | 1 => fun j => get j 0
 | sz => fun j => get (j / sz) (j % sz)
def zqg (L : zab) (ob : Nat -> Option Ob) : AV -> Option AV
 | .sl id sz off n => match ob id with
   | some (.row ty sz' _ get) => match zat sz sz' with
     | true => some (.lst sz n (fun i j => get (L2 L Nat.add off i) j))
     | false => none
   | _ => none
 | .slc id sz off n _ => match ob id with
   | some (.row ty sz' _ get) => match zat sz sz' with
     | true => some (.lst sz n (fun i j => get (L2 L Nat.add off i) j))
     | false => none
   | _ => none
 | .ref id off => match ob id with
   | some (.box ty cs) => match zm6 cs with
     | true => some (.iptr (zdp cs - off) (fun j => zbn .dead cs (off + j)))
     | false => none
   | some (.row ty sz n get) => match off with
     | 0 => some (.iptr (n * sz) (yal get sz))
     | _ => none
   | _ => none
 | .eref id sz i off => match ob id with
   | some (.row ty sz' _ get) => match zat sz sz' with
     | true => some (.iptr (sz - off) (fun j => get i (off + j)))
     | false => none
   | _ => none
 | .fn f a b => match zm7 (.fn f a b) with
   | true => some (.fn f a b)
   | false => none
 | .agg _ => none
 | .tup _ => none
 | .mp id => match ob id with
   | some (.map kk n has val) => some (.mpi kk n has val)
   | _ => none
 | .bidx _ _ _ _ => none
 | v => some v
def immL (L : zab) (ob : Nat -> Option Ob) : List AV -> Option (List AV)
 | [] => some []
 | x :: xs => match zqg L ob x with
   | some y => match immL L ob xs with
     | some ys => some (y :: ys)
     | none => none
   | none => none
def yp9 (L : zab) (ob : Nat -> Option Ob) : AV -> Option AV
 | .agg cs => match immL L ob cs with | some ds => some (.agg ds) | none => none
 | .fn f a b => match immL L ob a with
   | some a' => match immL L ob b with
     | some b' => some (.fn f a' b')
     | none => none
   | none => none
 | v => zqg L ob v
def immVs (L : zab) (ob : Nat -> Option Ob) : List AV -> Option (List AV)
 | [] => some []
 | x :: xs => match yp9 L ob x with
   | some y => match immVs L ob xs with
     | some ys => some (y :: ys)
     | none => none
   | none => none
def zfi (k : IntKind) (a b : Int) : Int := k.wrap (a + b)
def zj7 (k : IntKind) (a b : Int) : Int := k.wrap (a - b)
def zsp (k : IntKind) (a b : Int) : Int := k.wrap (a * b)
def wquo (k : IntKind) (a b : Int) : Int := k.wrap (a.tdiv b)
def band (k : IntKind) (a b : Int) : Int := k.wrap (BitVec.ofInt k.bits a &&& BitVec.ofInt k.bits b).toNat
def bor (k : IntKind) (a b : Int) : Int := k.wrap (BitVec.ofInt k.bits a ||| BitVec.ofInt k.bits b).toNat
def ys4 (k : IntKind) (a b : Int) : Int := k.wrap (BitVec.ofInt k.bits a ^^^ BitVec.ofInt k.bits b).toNat
def ygp (k : IntKind) (a b : Int) : Int := k.wrap (BitVec.ofInt k.bits a &&& ~~~ BitVec.ofInt k.bits b).toNat
def wshl (k : IntKind) (a b : Int) : Int := k.wrap (a * 2 ^ (min b.toNat k.bits))
def wshr (k : IntKind) (a b : Int) : Int := a.fdiv (2 ^ (min b.toNat k.bits))
def ieq (a b : Int) : Bool := a == b
def ine (a b : Int) : Bool := a != b
def ilt (a b : Int) : Bool := decide (a < b)
def ile (a b : Int) : Bool := decide (a <= b)
def ywc (a b : Bool) : Bool := a == b
def seq (a b : List UInt8) : Bool := a == b
def slt (a b : List UInt8) : Bool := Op.bytesLess a b
def slen (a : List UInt8) : Int := a.length
def ywv (a b : List UInt8) : List UInt8 := a ++ b
def zhh (a : List UInt8) (i : Int) : Int := (a.getD i.toNat 0).toNat
def ywp (a : List UInt8) (i j : Int) : List UInt8 := (a.take j.toNat).drop i.toNat
def yqu (a b : List UInt8) : Bool := decide (a.length + b.length <= 9223372036854775807)
def inR (i n : Int) : Bool := decide (0 <= i) && decide (i < n)
def inS (i j n : Int) : Bool := decide (0 <= i) && decide (i <= j) && decide (j <= n)
def inC (a n : Int) : Bool := decide (0 <= a) && decide (a <= n)
def za7 (n : Nat) : Int := n
def yxx (a b : Int) : Int := min a b
def yu3 (a b : Int) : Int := max a b
def zbf (n : Nat) (f : Nat -> Int) : List UInt8 := (List.range n).map fun i => UInt8.ofNat (f i).toNat
def AV.toI : AV -> Int
 | .int _ n => n
 | _ => 0
def yw4 (eb : Nat) (n c : Int) : Bool := decide (0 <= n) && decide (n <= c) && decide ((eb : Int) * c <= 140737488355328) && decide (c <= 9223372036854775807)
def zc0 (bytes n m : Nat) : Bool := decide ((n + m) * bytes <= 140737488355328) && decide (n + m <= 9223372036854775807)
def zwh (a b : Ky) : Bool := decide (a = b)
def ym9 : KK -> KK -> Bool
 | .i a, .i b => decide (a = b)
 | .s, .s => true
 | _, _ => false
def ytp (has : Bool) (n : Nat) : Nat := cond has n (n + 1)
def ytq (has : Bool) (n : Nat) : Nat := cond has (n - 1) n
def yvl (a b : Bool) : Bool := !a && b
def yhv (L : zab) (c : Bool) : List AV -> List AV -> List AV
 | x :: xs, y :: ys => zhc L c x y :: yhv L c xs ys
 | _, _ => []
def ylm (L : zab) (c : Bool) : AV -> AV -> AV
 | .agg xs, .agg ys => match zat (zdp xs) (zdp ys) with
   | true => .agg (yhv L c xs ys)
   | false => .dead
 | x, y => zhc L c x y
def znx : List IntKind -> List AV -> Option (List Int)
 | [], [] => some []
 | k :: ks, .int k' n :: xs => match decide (k = k') with
   | true => match znx ks xs with | some l => some (n :: l) | none => none
   | false => none
 | _, _ => none
def zrh : KK -> AV -> Option Ky
 | .i k, .int k' n => match decide (k = k') with | true => some (.i n) | false => none
 | .s, .str l => some (.s l)
 | .a ks, .agg cs => match znx ks cs with | some l => some (.a l) | none => none
 | _, _ => none
def yea : List AV -> Option (List IntKind)
 | [] => some []
 | .int k _ :: xs => match yea xs with | some l => some (k :: l) | none => none
 | _ => none
def zhe (T : TT) (t : Nat) : KK := match T.find t with
 | some i => match i.k with
   | .int k => .i k
   | .str => .s
   | _ => match i.eq, yea i.zero with
     | true, some l => .a l
     | _, _ => .no
 | none => .no
def zg1 (i : TI) : AV := match i.isAgg with
 | true => .agg i.zero
 | false => zbn .dead i.zero 0
def yjb (ob : Nat -> Option Ob) : AV -> Option (KK × Nat × (Ky -> Bool) × (Ky -> AV))
 | .mp id => match ob id with
   | some (.map kk n has val) => some (kk, n, has, val)
   | _ => none
 | .mpi kk n has val => some (kk, n, has, val)
 | _ => none
def zir (L : zab) (k : Ky) (has : Ky -> Bool) : Ky -> Bool := fun x => L2 L or (L2 L zwh x k) (L has x)
def zkz (L : zab) (k : Ky) (v : AV) (val : Ky -> AV) : Ky -> AV := fun x => ylm L (L2 L zwh x k) v (val x)
def zk9 (L : zab) (k : Ky) (has : Ky -> Bool) : Ky -> Bool := fun x => L2 L yvl (L2 L zwh x k) (L has x)
def yrw : List UInt8 -> List UInt8 -> Bool
 | [], [] => true
 | a :: x, b :: y => match zat a.toNat b.toNat with
   | true => yrw x y
   | false => false
 | _, _ => false
def kyb : Ky -> Ky -> Bool
 | .i a, .i b => decide (a = b)
 | .s a, .s b => yrw a b
 | _, _ => false
def zba : List (Ky × AV) -> Ky -> Option AV
 | [], _ => none
 | (k, x) :: r, q => match kyb k q with | true => some x | false => zba r q
def zwj : List (Ky × AV) -> Ky -> AV -> List (Ky × AV)
 | [], q, v => [(q, v)]
 | (k, x) :: r, q, v => match kyb k q with | true => (q, v) :: r | false => (k, x) :: zwj r q v
def ztw : List (Ky × AV) -> Ky -> List (Ky × AV)
 | [], _ => []
 | (k, x) :: r, q => match kyb k q with | true => r | false => (k, x) :: ztw r q
def yh4 (ob : Nat -> Option Ob) : List AV -> Option (Nat × KK × List (Ky × AV))
 | .mp id :: _ => match ob id with
   | some (.mapl kk es) => some (id, kk, es)
   | _ => none
 | _ => none
def zzd (T : TT) (t : Nat) : Bool := match T.find t with
 | some { k := .ptr, .. } => true
 | _ => false
def yt5 (T : TT) (t : Nat) : Bool := match T.find t with
 | some { k := .map kt et, .. } => zzd T et
 | _ => false
def yt6 (T : TT) (t : Nat) : Bool := match T.find t with
 | some { k := .map kt et, .. } => zzd T kt
 | _ => false
def yrt (ob : Nat -> Option Ob) : List AV -> Option (Nat × Bool)
 | .mp id :: _ => match ob id with
   | some (.mapq e) => some (id, e)
   | _ => none
 | _ => none
inductive zcj where
 | ok (v : AV) (os : List (Nat × Ob)) (ice : List Nat)
 | okIf (b : Bool) (v : AV) (os : List (Nat × Ob)) (ice : List Nat)
 | okP (p : Prop) (v : AV) (os : List (Nat × Ob)) (ice : List Nat)
 | call (f : FuncId) (xs : List AV) (ice : List Nat)
 | alt (b : Bool) (v : AV) (os : List (Nat × Ob)) (q : Bool) (v' : AV) (os' : List (Nat × Ob))
 | bad (why : Nat)
def yvj (L : zab) (op : BinOp) (k : IntKind) (a b : Int) : zcj :=
 match op with
 | .add => .ok (.int k (L2 L (zfi k) a b)) [] []
 | .sub => .ok (.int k (L2 L (zj7 k) a b)) [] []
 | .mul => .ok (.int k (L2 L (zsp k) a b)) [] []
 | .quo => .okIf (L2 L ine b 0) (.int k (L2 L (wquo k) a b)) [] []
 | .rem => .okIf (L2 L ine b 0) (.int k (L2 L Int.tmod a b)) [] []
 | .and => .ok (.int k (L2 L (band k) a b)) [] []
 | .or => .ok (.int k (L2 L (bor k) a b)) [] []
 | .xor => .ok (.int k (L2 L (ys4 k) a b)) [] []
 | .andNot => .ok (.int k (L2 L (ygp k) a b)) [] []
 | .eql => .ok (.bool (L2 L ieq a b)) [] []
 | .neq => .ok (.bool (L2 L ine a b)) [] []
 | .lss => .ok (.bool (L2 L ilt a b)) [] []
 | .leq => .ok (.bool (L2 L ile a b)) [] []
 | .gtr => .ok (.bool (L2 L ilt b a)) [] []
 | .geq => .ok (.bool (L2 L ile b a)) [] []
 | .shl => .bad 1
 | .shr => .bad 1
def yq1 (k : FloatKind) (a b : Nat) : Option Ordering := k.format.order a b
def fEq (k : FloatKind) (a b : Nat) : Bool := yq1 k a b == some .eq
def fLt (k : FloatKind) (a b : Nat) : Bool := yq1 k a b == some .lt
def fGt (k : FloatKind) (a b : Nat) : Bool := yq1 k a b == some .gt
def fLe (k : FloatKind) (a b : Nat) : Bool := fLt k a b || fEq k a b
def fGe (k : FloatKind) (a b : Nat) : Bool := fGt k a b || fEq k a b
def yq4 (op : BinOp) (k : FloatKind) (a b : Nat) : Option Nat := match op with
 | .add => k.format.add a b
 | .sub => k.format.sub a b
 | .mul => k.format.mul a b
 | .quo => k.format.div a b
 | _ => none
def fIs (op : BinOp) (k : FloatKind) (a b : Nat) : Bool := (yq4 op k a b).isSome
def ykn (op : BinOp) (k : FloatKind) (a b : Nat) : Nat := (yq4 op k a b).getD 0
def fNeg (k : FloatKind) (b : Nat) : Nat := Op.negFloat k b
def ymc (L : zab) (op : BinOp) (k : FloatKind) (a b : Nat) : zcj :=
 match op with
 | .eql => .ok (.bool (L2 L (fEq k) a b)) [] []
 | .neq => .ok (.bool (L not (L2 L (fEq k) a b))) [] []
 | .lss => .ok (.bool (L2 L (fLt k) a b)) [] []
 | .leq => .ok (.bool (L2 L (fLe k) a b)) [] []
 | .gtr => .ok (.bool (L2 L (fGt k) a b)) [] []
 | .geq => .ok (.bool (L2 L (fGe k) a b)) [] []
 | .add => .okIf (L2 L (fIs .add k) a b) (.flt k (L2 L (ykn .add k) a b)) [] []
 | .sub => .okIf (L2 L (fIs .sub k) a b) (.flt k (L2 L (ykn .sub k) a b)) [] []
 | .mul => .okIf (L2 L (fIs .mul k) a b) (.flt k (L2 L (ykn .mul k) a b)) [] []
 | _ => .bad 101
def cpxs (L : zab) (op : BinOp) (k : FloatKind) (a b a' b' : Nat) : zcj :=
 match op with
 | .eql => .ok (.bool (L2 L and (L2 L (fEq k) a a') (L2 L (fEq k) b b'))) [] []
 | .neq => .ok (.bool (L not (L2 L and (L2 L (fEq k) a a') (L2 L (fEq k) b b')))) [] []
 | _ => .bad 102
def zss (L : zab) (op : BinOp) (a b : List UInt8) : zcj :=
 match op with
 | .add => .okIf (L2 L yqu a b) (.str (L2 L ywv a b)) [] []
 | .eql => .ok (.bool (L2 L seq a b)) [] []
 | .neq => .ok (.bool (L not (L2 L seq a b))) [] []
 | .lss => .ok (.bool (L2 L slt a b)) [] []
 | .leq => .ok (.bool (L2 L or (L2 L slt a b) (L2 L seq a b))) [] []
 | .gtr => .ok (.bool (L not (L2 L or (L2 L slt a b) (L2 L seq a b)))) [] []
 | .geq => .ok (.bool (L not (L2 L slt a b))) [] []
 | _ => .bad 2
def eqK (L : zab) (k : TK) (x y : AV) : Option Bool := match k with
 | .int _ => match x, y with
   | .int k a, .int k' b => match decide (k = k') with
     | true => some (L2 L ieq a b)
     | false => none
   | _, _ => none
 | .bool => match x, y with
   | .bool a, .bool b => some (L2 L ywc a b)
   | _, _ => none
 | .str => match x, y with
   | .str a, .str b => some (L2 L seq a b)
   | _, _ => none
 | _ => none
def yuz (T : TT) (L : zab) (g : Nat -> List AV -> List AV -> Option Bool) (xs ys : List AV) : List (Nat × Nat) -> Option Bool
 | [] => some true
 | (off, t) :: r => match T.find t with
   | some i => match zbx (off + i.sz) (zdp xs), zbx (off + i.sz) (zdp ys) with
     | true, true => match g t (zco (zcz xs off) i.sz) (zco (zcz ys off) i.sz) with
       | some a => match yuz T L g xs ys r with | some b => some (L2 L and a b) | none => none
       | none => none
     | _, _ => none
   | none => none
def yuy (L : zab) (g : List AV -> List AV -> Option Bool) (sz : Nat) (xs ys : List AV) : Nat -> Nat -> Option Bool
 | _, 0 => some true
 | k, n + 1 => match g (zco (zcz xs (k * sz)) sz) (zco (zcz ys (k * sz)) sz) with
   | some a => match yuy L g sz xs ys (k + 1) n with | some b => some (L2 L and a b) | none => none
   | none => none
def eq1 (L : zab) (k : TK) : List AV -> List AV -> Option Bool
 | [x], [y] => eqK L k x y
 | _, _ => none
def eqD (T : TT) (L : zab) : Nat -> Nat -> List AV -> List AV -> Option Bool
 | 0, _, _, _ => none
 | d + 1, t, xs, ys => match T.find t with
   | some i => match i.k with
     | .struct fs => match i.eq with
       | true => yuz T L (eqD T L d) xs ys fs
       | false => none
     | .arr n e esz => match i.eq, zat (zdp xs) (n * esz), zat (zdp ys) (n * esz), T.find e with
       | true, true, true, some ei => match zat ei.sz esz with
         | true => yuy L (eqD T L d e) esz xs ys 0 n
         | false => none
       | _, _, _, _ => none
     | k => eq1 L k xs ys
   | none => none
def zsc (T : TT) (L : zab) (t : Nat) (x y : AV) : Option Bool :=
 match T.find t with
 | some i => match i.k with
   | .bool => match x, y with
     | .bool a, .bool b => some (L2 L ywc a b)
     | _, _ => none
   | .ptr => match x, y with
     | .nilp, .nilp => some true
     | .nilp, .ref _ _ => some false
     | .ref _ _, .nilp => some false
     | .ref a o, .ref b p => match zat a b, zat o p, i.pt with
       | true, true, some e => match T.find e with | some _ => some true | none => none
       | _, _, _ => none
     | _, _ => none
   | .slice _ _ _ => match x, y with
     | .nils, .nils => some true
     | .emp, .nils => some false
     | .emz, .nils => some false
     | _, _ => none
   | .iface => none
   | .func => match x, y with
     | .nilf, .nilf => some true
     | .nilf, .fn _ _ _ => some false
     | .fn _ _ _, .nilf => some false
     | _, _ => none
   | _ => none
 | none => none
def ygu (T : TT) (L : zab) (t : Nat) (x y : AV) : Option Bool :=
 match x, y with
 | .agg a, .agg b => match T.find t with
   | some i => match i.eq, zat (zdp a) i.sz, zat (zdp b) i.sz with
     | true, true, true => eqD T L 6 t a b
     | _, _, _ => none
   | none => none
 | x, y => zsc T L t x y
def isSl (T : TT) (t : Nat) : Bool := match T.find t with
 | some i => match i.k with
   | .slice _ _ _ => true
   | _ => false
 | none => false
def bin (T : TT) (L : zab) (op : BinOp) (t : Nat) (x y : AV) : zcj :=
 match x, y with
 | .int k a, .int k' b => match op with
   | .shl => .okIf (L2 L ile 0 b) (.int k (L2 L (wshl k) a b)) [] []
   | .shr => .okIf (L2 L ile 0 b) (.int k (L2 L (wshr k) a b)) [] []
   | op => match decide (k = k') with
     | true => yvj L op k a b
     | false => .bad 3
 | .str a, .str b => zss L op a b
 | .flt k a, .flt k' b => match decide (k = k') with
   | true => ymc L op k a b
   | false => .bad 103
 | .cpx k a b, .cpx k' a' b' => match decide (k = k') with
   | true => cpxs L op k a b a' b'
   | false => .bad 103
 | .lst sz n get, .nils => match isSl T t with
   | true => match op with
     | .eql => .okIf (L2 L zbk 0 n) (.bool false) [] []
     | .neq => .okIf (L2 L zbk 0 n) (.bool true) [] []
     | _ => .bad 5
   | false => .bad 5
 | x, y => match op with
   | .eql => match ygu T L t x y with | some b => .ok (.bool b) [] [] | none => .bad 4
   | .neq => match ygu T L t x y with | some b => .ok (.bool (L not b)) [] [] | none => .bad 4
   | _ => .bad 5
def un (L : zab) (op : UnOp) (x : AV) : zcj :=
 match op, x with
 | .not, .bool b => .ok (.bool (L not b)) [] []
 | .neg, .int k n => .ok (.int k (L2 L (zj7 k) 0 n)) [] []
 | .neg, .flt k b => .ok (.flt k (L (fNeg k) b)) [] []
 | .xor, .int k n => match k.signed with
   | true => .ok (.int k (L2 L (ys4 k) (-1) n)) [] []
   | false => .ok (.int k (L2 L (ys4 k) k.max n)) [] []
 | _, _ => .bad 6
def zbm : Op -> List Operand
 | .move x | .assign x | .box _ x | .load _ x | .nilCheck x | .sliceToArrayPointer _ x | .unOp _ _ x | .convert _ _ x | .fieldAddr _ x _ | .field _ x _ | .extract x _ => [x]
 | .pick c a b => [c, a, b]
 | .build _ ps | .buildSlice _ _ ps => zck Prod.snd ps.toList
 | .store _ a v | .binOp _ _ a v _ | .makeSlice _ a v | .indexAddr _ a v | .index _ a v => [a, v]
 | .makeFunc _ first captured => zcb first.toList captured.toList
 | .slice _ x l h m => x :: zcb l.toList (zcb h.toList m.toList)
 | .makeMap _ _ => []
 | .lookup _ m k _ => [m, k]
 | .mapUpdate _ m k v => [m, k, v]
 | .call { callee := .value f, args := xs, .. } => f :: xs.toList
 | .call { callee := .builtin _, args := xs, .. } => xs.toList
 | _ => []
def zrw (place : Nat -> Option (Nat × Nat)) : List AV -> List (Nat × Operand) -> List AV -> Option (List AV)
 | cells, [], [] => some cells
 | cells, (i, _) :: ps, v :: vs => match place i with
   | some (off, size) => match zat (zdp v.cells) size with
     | true => match zbx (off + size) (zdp cells) with
       | true => zrw place (zgj cells off v.cells) ps vs
       | false => none
     | false => none
   | none => none
 | _, _, _ => none
def TT.sizeOf (T : TT) (t : Nat) : Option Nat := match T.find t with | some i => some i.sz | none => none
def zkj (T : TT) : List (Nat × Nat) -> Option (List (Nat × Nat))
 | [] => some []
 | (off, t) :: r => match T.sizeOf t with
   | some s => match zkj T r with
     | some l => some ((off, s) :: l)
     | none => none
   | none => none
def nth {α : Type} : List α -> Nat -> Option α
 | [], _ => none
 | x :: _, 0 => some x
 | _ :: xs, n + 1 => nth xs n
def zee (z : List AV) : Nat -> List AV
 | 0 => []
 | n + 1 => zcb z (zee z n)
def yrp : List AV -> Option (IntKind × List Int)
 | [] => none
 | [.int k n] => some (k, [n])
 | .int k n :: xs => match yrp xs with
   | some (k', l) => match decide (k = k') with
     | true => some (k, n :: l)
     | false => none
   | none => none
 | _ => none
def yro : List AV -> Option (List (List UInt8))
 | [] => none
 | [.str s] => some [s]
 | .str s :: xs => match yro xs with
   | some l => some (s :: l)
   | none => none
 | _ => none
def zkd (l : List Int) (i : Nat) : Int := l.getD i 0
def zc1 (l : List (List UInt8)) (i : Nat) : List UInt8 := l.getD i []
def yxc : List AV -> Bool
 | [.str _, .str _, .str _, .int _ _] => true
 | _ => false
def zji (L : zab) (cs : List AV) (sz : Nat) : Nat -> Nat -> AV :=
 match sz with
 | 1 => match yrp cs with
   | some (k, l) => fun i _ => .int k (L2 L zkd l i)
   | none => match yro cs with
     | some l => fun i _ => .str (L2 L zc1 l i)
     | none => fun i _ => zbn .dead cs i
 | 4 => match yxc cs with
   | true => fun _ j => zbn .dead cs j
   | false => fun i j => zbn .dead cs (i * 4 + j)
 | sz => fun i j => zbn .dead cs (i * sz + j)
def two (vals : List AV) (l h m : Bool) : Option (Option Int × Option Int) :=
 match m, l, h with
 | true, _, _ => none
 | false, false, false => some (none, none)
 | false, true, false => match vals with | [.int _ a] => some (some a, none) | _ => none
 | false, false, true => match vals with | [.int _ b] => some (none, some b) | _ => none
 | false, true, true => match vals with | [.int _ a, .int _ b] => some (some a, some b) | _ => none
def yg3 : List AV -> zcj
 | [x] => .ok x [] []
 | _ => .bad 1
def yg2 : List AV -> zcj
 | [.bool c, x, y] => .ok (match c with | true => x | false => y) [] []
 | _ => .bad 2
def cBin (T : TT) (L : zab) (op : BinOp) (t : Nat) : List AV -> zcj
 | [x, y] => bin T L op t x y
 | _ => .bad 3
def zpl : Operand -> Bool
 | .const _ => true
 | _ => false
def yr8 (T : TT) (L : zab) (op : BinOp) (t : Nat) (c : Bool) : List AV -> zcj
 | [.nili, .nili] => match c, T.find t with
   | true, some { k := .iface, .. } => match op with
     | .eql => .ok (.bool true) [] []
     | .neq => .ok (.bool false) [] []
     | _ => .bad 52
   | _, _ => .bad 52
 | [.ifb b, .nili] => match c, T.find t with
   | true, some { k := .iface, .. } => match op with
     | .eql => .ok (.bool b) [] []
     | .neq => .ok (.bool (L not b)) [] []
     | _ => .bad 52
   | _, _ => .bad 52
 | vals => cBin T L op t vals
def cUn (L : zab) (op : UnOp) : List AV -> zcj
 | [x] => un L op x
 | _ => .bad 4
def yp3 (T : TT) (e : Nat) : Bool := match T.find e with
 | some i => match i.k with
   | .int .u8 => true
   | _ => false
 | none => false
def yuh (off n m : Nat) : Prop := off + n <= m
def lenN (l : List UInt8) : Nat := l.length
def zae (l : List UInt8) (i : Nat) : Int := (l.getD i 0).toNat
def zsq (T : TT) (t : Nat) : Bool := match T.find t with
 | some i => match i.k with
   | .slice e 1 _ => yp3 T e
   | _ => false
 | none => false
def yu0 (T : TT) (t : Nat) : Bool := match T.find t with
 | some i => match i.k with
   | .str => true
   | _ => false
 | none => false
def yqc (T : TT) (t : Nat) : Nat := match T.find t with
 | some i => match i.k with
   | .slice e _ _ => e
   | _ => 0
 | none => 0
def ygg (T : TT) (L : zab) (dst : Option Nat) (s t : Nat) (nw : Bool) : List AV -> zcj
 | [.str l] => match cond nw dst none with
   | some d => match yu0 T s with
     | true => .ok (.sl d 1 0 (L lenN l)) [(d, .row (yqc T t) 1 (L lenN l) (fun i _ => .int .u8 (L2 L zae l i)))] []
     | false => .bad 43
   | none => .bad 43
 | _ => .bad 43
def yr5 (T : TT) (L : zab) (s t : Nat) (ob : Nat -> Option Ob) : List AV -> zcj
 | [x] => match T.find s with
   | some si => match T.find t with
     | some ti => match ti.k with
       | .int k => match x with
         | .int _ n => .ok (.int k (L k.wrap n)) [] []
         | _ => .bad 11
       | .flt k => match x with
         | .int _ n => .ok (.flt k (L k.nearest n)) [] []
         | _ => .bad 104
       | .str => match x with
         | .str l => .ok (.str l) [] []
         | y => match si.k with
           | .slice e _ _ => match yp3 T e with
             | true => match y with
               | .lst 1 n get => .okP (∀ i, i < n -> ∃ x, get i 0 = .int .u8 x) (.str (L2 L zbf n (fun i => (get i 0).toI))) [] []
               | .nils => .ok (.str []) [] []
               | .sl id 1 off n => match ob id with
                 | some (.row _ 1 m get) => .okP (L3 L yuh off n m /\ ∀ i, i < n -> ∃ x, get (off + i) 0 = .int .u8 x) (.str (L2 L zbf n (fun i => (get (off + i) 0).toI))) [] []
                 | _ => .bad 10
               | _ => .bad 10
             | false => .bad 10
           | _ => .bad 10
       | .ptr => match x, ti.pt with
         | .ref id 0, some e => match ob id, T.find e with
           | some (.box ty cs), some ei => match si.up, ei.lies, zat ty e, zat (zdp cs) ei.sz, zbk 0 ei.sz with
             | true, true, true, true, true => .ok (.ref id 0) [] []
             | _, _, _, _, _ => .bad 46
           | _, _ => .bad 46
         | _, _ => .bad 46
       | .other => match x, si.pt with
         | .ref id off, some e => match ob id, T.find e with
           | some (.box _ cs), some ei => match ti.up, zbk 0 ei.sz, zbk off (zdp cs) with
             | true, true, true => .ok (.ref id off) [] []
             | _, _, _ => .bad 47
           | _, _ => .bad 47
         | _, _ => .bad 47
       | _ => .bad 11
     | none => .bad 11
   | none => .bad 11
 | _ => .bad 11
def ycf : AV -> AV -> Bool
 | .bool a, .bool b => decide (a = b)
 | .int k n, .int k' m => match decide (k = k') with | true => decide (n = m) | false => false
 | .str l, .str m => decide (l = m)
 | .nilp, .nilp => true
 | .nilm, .nilm => true
 | .nilf, .nilf => true
 | .nils, .nils => true
 | .nili, .nili => true
 | _, _ => false
def zot : List AV -> List AV -> Bool
 | [], [] => true
 | x :: xs, y :: ys => match ycf x y with | true => zot xs ys | false => false
 | _, _ => false
def ygi (T : TT) (dst : Option Nat) (t : Nat) (nw : Bool) : zcj :=
 match cond nw dst none with
 | some d => match T.find t with
   | some i => match i.k with
     | .arr n e esz => match T.find e with
       | some ei => match zot i.zero (zee ei.zero n), zat (zdp ei.zero) esz, zm6 ei.zero with
         | true, true, true => .ok (.ref d 0) [(d, .row t esz n (fun _ j => zbn .dead ei.zero j))] []
         | _, _, _ => .bad 12
       | none => .bad 12
     | _ => .ok (.ref d 0) [(d, .box t i.zero)] []
   | none => .bad 12
 | none => .bad 12
def cBox (T : TT) (L : zab) (dst : Option Nat) (t : Nat) (nw : Bool) : List AV -> zcj
 | [x] => match cond nw dst none with
   | some d => match T.find t with
     | some i => match zat (zdp x.cells) i.sz, zl8 x with
       | true, true => match i.k with
         | .arr n _ esz => match zm6 x.cells, zat (n * esz) i.sz with
           | true, true => .ok (.ref d 0) [(d, .row t esz n (zji L x.cells esz))] []
           | _, _ => .bad 13
         | _ => .ok (.ref d 0) [(d, .box t x.cells)] []
       | _, _ => .bad 13
     | none => .bad 13
   | none => .bad 13
 | _ => .bad 13
def ygh (T : TT) (t : Nat) (ps : List (Nat × Operand)) (vals : List AV) : zcj :=
 match T.find t with
 | some i => match i.k with
   | .struct fs => match zkj T fs with
     | some pl => match cond (zfk vals) (zrw (nth pl) i.zero ps vals) none with
       | some cs => .ok (.agg cs) [] []
       | none => .bad 14
     | none => .bad 14
   | .arr _ _ esz => match cond (zfk vals) (zrw (fun i => some (i * esz, esz)) i.zero ps vals) none with
     | some cs => .ok (.agg cs) [] []
     | none => .bad 14
   | _ => .bad 14
 | none => .bad 14
def yni (n d esz : Nat) : AV := match n with
 | 0 => .emz
 | n => .sl d esz 0 n
def yb1 (ob : Nat -> Option Ob) : AV -> AV
 | .ref id off => match ob id with | some (.box _ _) => .dead | _ => .ref id off
 | v => v
def yhe (ob : Nat -> Option Ob) : AV -> AV
 | .agg cs => .agg (zck (yb1 ob) cs)
 | v => v
def yqv (T : TT) (L : zab) (dst : Option Nat) (t n : Nat) (ps : List (Nat × Operand)) (vals : List AV) (ob : Nat -> Option Ob) (nw : Bool) : zcj :=
 match cond nw dst none with
 | some d => match T.find t with
   | some i => match i.k with
     | .slice e esz _ => match T.find e with
       | some ei => match cond (zbx (n * esz) 16777216) (immVs L ob vals) none with
         | some vals' => match cond (zfk vals') (zrw (fun i => some (i * esz, esz)) (zee ei.zero n) ps vals') none with
           | some cs => .ok (yni n d esz) [(d, .row e esz n (zji L cs esz))] (zdl vals)
           | none => .bad 15
         | none => .bad 15
       | none => .bad 15
     | _ => .bad 15
   | none => .bad 15
 | none => .bad 15
def ya0 (T : TT) (L : zab) (t : Nat) (ob : Nat -> Option Ob) : List AV -> zcj
 | [p] => match T.find t with
   | some i => match p with
     | .ref id off => match ob id with
       | some (.box ty cs) => match zbx (off + i.sz) (zdp cs) with
         | true => match i.isAgg with
           | true => .ok (.agg (zco (zcz cs off) i.sz)) [] []
           | false => .ok (zbn .dead cs off) [] []
         | false => .bad 16
       | some (.row ty sz n get) => match off, i.isAgg, zat i.sz (n * sz) with
         | 0, true, true => match zbk 16 i.sz with
           | true => .ok (.arr i.sz (yal get sz)) [] []
           | false => .ok (.agg (znq (yal get sz) 0 i.sz)) [] []
         | _, _, _ => .bad 16
       | some (.spr ty cs) => match zbx (off + i.sz) (zdp cs) with
         | true => match i.isAgg with
           | true => .ok (.agg (zco (zcz cs off) i.sz)) [] []
           | false => .ok (zbn .dead cs off) [] []
         | false => .bad 16
       | _ => .bad 16
     | .eref id sz e off => match ob id with
       | some (.row ty sz' _ get) => match zat sz sz' with
         | true => match zbx (off + i.sz) sz with
           | true => match i.isAgg with
             | true => .ok (.agg (znq (fun j => get e (off + j)) 0 i.sz)) [] []
             | false => .ok (get e (off + 0)) [] []
           | false => .bad 17
         | false => .bad 17
       | _ => .bad 17
     | .iptr n get => match zbx i.sz n with
       | true => match i.isAgg with
         | true => .ok (.agg (znq get 0 i.sz)) [] []
         | false => .ok (get 0) [] []
       | false => .bad 18
     | .bidx id off n q => match ob id with
       | some (.box _ cs) => match i.isAgg, zbx (off + n) (zdp cs) with
         | false, true => .ok (zji L (zco (zcz cs off) n) 1 q 0) [] []
         | _, _ => .bad 18
       | _ => .bad 18
     | _ => .bad 19
   | none => .bad 19
 | _ => .bad 19
def yll (L : zab) (i : Nat) (v : AV) : Nat -> List AV -> List AV
 | _, [] => []
 | k, x :: xs => zhc L (L2 L zat i k) v x :: yll L i v (k + 1) xs
def over (L : zab) (e off n : Nat) (cs : List AV) (get : Nat -> Nat -> AV) : Nat -> Nat -> AV :=
 fun e' j => match zbx off j with
   | true => match zbk j (off + n) with
     | true => zhc L (L2 L zat e' e) (zbn .dead cs (j - off)) (get e' j)
     | false => get e' j
   | false => get e' j
def yg0 (T : TT) (L : zab) (t : Nat) (ob : Nat -> Option Ob) (ice : Nat -> Bool) : List AV -> zcj
 | [p, v] => match T.find t with
   | some i => match zat (zdp v.cells) i.sz with
     | true => match cond (zl8 v) p .dead with
       | .ref id off => match ice id with
         | false => match ob id with
           | some (.box ty cs) => match zbx (off + i.sz) (zdp cs) with
             | true => .ok .dead [(id, .box ty (zgj cs off v.cells))] []
             | false => .bad 20
           | some (.row ty sz n _) => match off, zat i.sz (n * sz), zm6 v.cells with
             | 0, true, true => match v, zat sz 1 with
               | .arr _ get', true => .ok .dead [(id, .row ty sz n (fun i _ => get' i))] []
               | v, _ => .ok .dead [(id, .row ty sz n (zji L v.cells sz))] []
             | _, _, _ => .bad 20
           | some (.spr ty cs) => match zbx (off + i.sz) (zdp cs) with
             | true => .ok .dead [(id, .spr ty (zgj cs off v.cells))] []
             | false => .bad 20
           | _ => .bad 20
         | true => .bad 20
       | .eref id sz e off => match ice id with
         | false => match ob id with
           | some (.row ty sz' n get) => match zat sz sz' with
             | true => match zbx (off + i.sz) sz with
               | true => match immL L ob v.cells with
                 | some cs' => match zbu (zrk v.cells) id with
                   | false => .ok .dead [(id, .row ty sz n (over L e off i.sz cs' get))] (zrk v.cells)
                   | true => .bad 21
                 | none => .bad 21
               | false => .bad 21
             | false => .bad 21
           | _ => .bad 21
         | true => .bad 21
       | .bidx id off n q => match ice id with
         | false => match ob id with
           | some (.box ty cs) => match v.cells, zbx (off + n) (zdp cs) with
             | [x], true => .ok .dead [(id, .box ty (zgj cs off (yll L q x 0 (zco (zcz cs off) n))))] []
             | _, _ => .bad 22
           | _ => .bad 22
         | true => .bad 22
       | _ => .bad 22
     | false => .bad 23
   | none => .bad 24
 | _ => .bad 24
def ygc (T : TT) (t f : Nat) : List AV -> zcj
 | [p] => match T.find t with
   | some { k := .struct fs, .. } => match zbk f (zdp fs) with
     | true => match T.sizeOf (zbn (0, 0) fs f).2 with
       | some (_ + 1) => match p with
         | .ref id off => .ok (.ref id (off + (zbn (0, 0) fs f).1)) [] []
         | .eref id sz i off => .ok (.eref id sz i (off + (zbn (0, 0) fs f).1)) [] []
         | .iptr n get => .ok (.iptr (n - (zbn (0, 0) fs f).1) (fun j => get ((zbn (0, 0) fs f).1 + j))) [] []
         | _ => .bad 25
       | _ => .bad 25
     | false => .bad 25
   | _ => .bad 25
 | _ => .bad 25
def ygb (T : TT) (t f : Nat) : List AV -> zcj
 | [.agg cs] => match T.find t with
   | some { k := .struct fs, .. } => match zbk f (zdp fs) with
     | true => match T.find (zbn (0, 0) fs f).2 with
       | some i => match zbx ((zbn (0, 0) fs f).1 + i.sz) (zdp cs) with
         | true => match i.isAgg with
           | true => .ok (.agg (zco (zcz cs (zbn (0, 0) fs f).1) i.sz)) [] []
           | false => match zat i.sz 1 with
             | true => .ok (zbn .dead cs (zbn (0, 0) fs f).1) [] []
             | false => .bad 26
         | false => .bad 26
       | none => .bad 26
     | false => .bad 26
   | _ => .bad 26
 | _ => .bad 26
def yga (T : TT) (L : zab) (t : Nat) (ob : Nat -> Option Ob) : List AV -> zcj
 | [p, .int _ i] => match T.find t with
   | some ti => match ti.k with
     | .slice _ esz _ => match p with
       | .lst sz n get => match zat esz sz with
         | true => .okIf (L2 L inR i (L za7 n)) (.iptr sz (fun j => get (L Int.toNat i) j)) [] []
         | false => .bad 27
       | .sl id sz off n => match zat esz sz with
         | true => match ob id with
           | some (.spr _ cs) => match off, zbk (zdp cs / sz - 1) n, zbx ((zdp cs / sz - 1) * sz) (zdp cs) with
             | 0, true, true => .okIf (L2 L ieq i (za7 (zdp cs / sz - 1))) (.ref id ((zdp cs / sz - 1) * sz)) [] []
             | _, _, _ => .bad 27
           | _ => .okIf (L2 L inR i (L za7 n)) (.eref id sz (L2 L Nat.add off (L Int.toNat i)) 0) [] []
         | false => .bad 27
       | _ => .bad 27
     | .arr n _ esz => match zbk 1 n with
       | true => match p with
         | .ref id off => match ob id with
           | some (.row _ sz m _) => match off, zat esz sz, zat m n with
             | 0, true, true => .okIf (L2 L inR i (L za7 n)) (.eref id sz (L Int.toNat i) 0) [] []
             | _, _, _ => .bad 28
           | some (.box _ _) => match zat esz 1 with
             | true => .okIf (L2 L inR i (L za7 n)) (.bidx id off n (L Int.toNat i)) [] []
             | false => .bad 28
           | _ => .bad 28
         | .iptr m get => match zat m (n * esz) with
           | true => match esz with
             | 1 => .okIf (L2 L inR i (L za7 n)) (.iptr 1 (fun _ => get (L Int.toNat i))) [] []
             | esz => .okIf (L2 L inR i (L za7 n)) (.iptr esz (fun j => get (L2 L Nat.add (L2 L Nat.mul (L Int.toNat i) esz) j))) [] []
           | false => .bad 28
         | _ => .bad 28
       | false => .bad 28
     | _ => .bad 29
   | none => .bad 29
 | _ => .bad 29
def yg9 (T : TT) (L : zab) (t : Nat) : List AV -> zcj
 | [.str l, .int _ i] => match T.find t with
   | some { k := .str, .. } => .okIf (L2 L inR i (L slen l)) (.int .u8 (L2 L zhh l i)) [] []
   | _ => .bad 30
 | [.agg cs, .int _ i] => match T.find t with
   | some { k := .arr n e 1, .. } => match zat (zdp cs) n, T.find e with
     | true, some ei => match ei.isAgg, zat ei.sz 1 with
       | false, true => .okIf (L2 L inR i (L za7 n)) (zji L cs 1 (L Int.toNat i) 0) [] []
       | _, _ => .bad 30
     | _, _ => .bad 30
   | _ => .bad 30
 | _ => .bad 30
def zxa (L : zab) (n : Nat) : Option Int -> Option Int -> Nat
 | none, none => n
 | none, some b => L Int.toNat b
 | some a, none => L2 L Nat.sub n (L Int.toNat a)
 | some a, some b => L2 L Nat.sub (L Int.toNat b) (L Int.toNat a)
def yv7 (L : zab) (off : Nat) : Option Int -> Nat
 | none => off
 | some a => L2 L Nat.add off (L Int.toNat a)
def yh9 (L : zab) (get : Nat -> Nat -> AV) : Option Int -> Nat -> Nat -> AV
 | none => get
 | some a => fun i j => get (L2 L Nat.add (L Int.toNat a) i) j
def ys3 (L : zab) (s : List UInt8) : Option Int -> Option Int -> List UInt8
 | none, none => s
 | none, some b => L2 L (fun (s : List UInt8) (b : Int) => s.take b.toNat) s b
 | some a, none => L2 L (fun (s : List UInt8) (a : Int) => s.drop a.toNat) s a
 | some a, some b => L3 L ywp s a b
def zq2 (L : zab) (n : Int) : Option Int -> Option Int -> Bool
 | none, none => true
 | none, some b => L2 L inC b n
 | some a, none => L2 L inC a n
 | some a, some b => L3 L inS a b n
def yg1 (T : TT) (L : zab) (t : Nat) (ob : Nat -> Option Ob) (l h m : Bool) : List AV -> zcj
 | x :: vs => match T.find t with
   | some ti => match two vs l h m with
     | some (a, b) => match ti.k, x with
       | .arr n _ esz, .ref id off => match ob id with
         | some (.row _ sz n' _) => match off, zat esz sz, zat n' n with
           | 0, true, true => .okIf (zq2 L (L za7 n) a b) (.sl id esz (yv7 L 0 a) (zxa L n a b)) [] []
           | _, _, _ => .bad 32
         | some (.box _ cs) => match zat esz 1, zbx (off + n) (zdp cs), zm6 (zco (zcz cs off) n) with
           | true, true, true => .okIf (zq2 L (L za7 n) a b) (.lst 1 (zxa L n a b) (yh9 L (zji L (zco (zcz cs off) n) 1) a)) [] [id]
           | _, _, _ => .bad 32
         | _ => .bad 32
       | .str, .str s => .okIf (zq2 L (L slen s) a b) (.str (ys3 L s a b)) [] []
       | .slice _ esz _, .lst sz n get => match zat esz sz with
         | true => .okIf (zq2 L (L za7 n) a b) (.lst sz (zxa L n a b) (yh9 L get a)) [] []
         | false => .bad 32
       | .slice _ esz _, .sl id sz off n => match zat esz sz with
         | true => .okIf (zq2 L (L za7 n) a b) (.sl id sz (yv7 L off a) (zxa L n a b)) [] []
         | false => .bad 32
       | _, _ => .bad 33
     | none => .bad 33
   | none => .bad 33
 | _ => .bad 33
def cArr (T : TT) (L : zab) (t : Nat) (ob : Nat -> Option Ob) : List AV -> zcj
 | [x] => match T.find t with
   | some { k := .arr m _ 1, .. } => match zqg L ob x with
     | some (.lst 1 n get) => match zbk 0 m with
       | true => .okIf (L2 L zbx m n) (.iptr m (fun j => get j 0)) [] (ze1 x)
       | false => .bad 51
     | _ => .bad 51
   | _ => .bad 51
 | _ => .bad 51
def zq5 (i : Nat) : List AV -> zcj
 | [.tup vs] => match zbk i (zdp vs) with
   | true => .ok (zbn .dead vs i) [] []
   | false => .bad 34
 | _ => .bad 34
def yr3 (fn : Fn) (n : Nat) (vals : List AV) : zcj :=
 match fn with
 | .func f => .ok (.fn f (zco vals n) (zcz vals n)) [] []
 | _ => .bad 35
def cNil : List AV -> zcj
 | [.ref id off] => .ok (.ref id off) [] []
 | [.eref id sz i off] => .ok (.eref id sz i off) [] []
 | [.iptr n get] => .ok (.iptr n get) [] []
 | [.bidx id off n i] => .ok (.bidx id off n i) [] []
 | _ => .bad 36
def zur (T : TT) (L : zab) (dst : Option Nat) (t : Nat) (nw : Bool) : List AV -> zcj
 | [.int _ n, .int _ c] => match cond nw dst none with
   | some d => match T.find t with
     | some { k := .slice e esz eb, .. } => match T.find e with
       | some ei => match zm6 ei.zero with
         | true => .okIf (L3 L yw4 eb n c) (.sl d esz 0 (L Int.toNat n)) [(d, .row e esz (L Int.toNat n) (fun _ j => zbn .dead ei.zero j))] []
         | false => .bad 37
       | none => .bad 37
     | _ => .bad 37
   | none => .bad 37
 | _ => .bad 37
def yr7 (L : zab) (ob : Nat -> Option Ob) : List AV -> zcj
 | .fn f first caps :: xs => match immVs L ob (zcb first (zcb xs caps)) with
   | some ys => .call f ys (zdl (zcb first (zcb xs caps)))
   | none => .bad 38
 | _ => .bad 38
def yqz (T : TT) (dst : Option Nat) (t : Nat) (nw : Bool) : zcj :=
 match cond nw dst none with
 | some d => match T.find t with
   | some { k := .map kt _, .. } => .ok (.mp d) [(d, .map (zhe T kt) 0 (fun _ => false) (fun _ => .dead))] []
   | _ => .bad 60
 | none => .bad 60
def yr0 (T : TT) (L : zab) (t : Nat) (ok : Bool) (ob : Nat -> Option Ob) : List AV -> zcj
 | [m, k] => match T.find t with
   | some { k := .map kt et, .. } => match T.find et with
     | some ei => match yjb ob m with
       | some (kk, n, has, val) => match ym9 kk (zhe T kt), zrh kk k with
         | true, some key => .ok (cond ok (.tup [ylm L (L has key) (val key) (zg1 ei), .bool (L has key)]) (ylm L (L has key) (val key) (zg1 ei))) [] []
         | _, _ => .bad 61
       | none => .bad 61
     | none => .bad 61
   | _ => .bad 61
 | _ => .bad 61
def cMup (T : TT) (L : zab) (t : Nat) (ob : Nat -> Option Ob) (ice : Nat -> Bool) : List AV -> zcj
 | [.mp id, k, v] => match T.find t with
   | some { k := .map kt _, .. } => match ice id, ob id with
     | false, some (.map kk n has val) => match ym9 kk (zhe T kt), zrh kk k with
       | true, some key => match yp9 L ob v, zbu (zwu v) id with
         | some v', false => .ok .dead [(id, .map kk (L2 L ytp (L has key) n) (zir L key has) (zkz L key v' val))] (zwu v)
         | _, _ => .bad 62
       | _, _ => .bad 62
     | _, _ => .bad 62
   | _ => .bad 62
 | _ => .bad 62
def zus (T : TT) (L : zab) (t : Nat) (ob : Nat -> Option Ob) (ice : Nat -> Bool) : List AV -> zcj
 | [.mp id, k] => match T.find t with
   | some { k := .map kt _, .. } => match ice id, ob id with
     | false, some (.map kk n has val) => match ym9 kk (zhe T kt), zrh kk k with
       | true, some key => .ok (.tup []) [(id, .map kk (L2 L ytq (L has key) n) (zk9 L key has) val)] []
       | _, _ => .bad 63
     | _, _ => .bad 63
   | _ => .bad 63
 | _ => .bad 63
def yg6 (T : TT) (dst : Option Nat) (t : Nat) (nw : Bool) : zcj :=
 match cond nw dst none with
 | some d => match T.find t with
   | some { k := .map kt _, .. } => .ok (.mp d) [(d, .mapl (zhe T kt) [])] []
   | _ => .bad 64
 | none => .bad 64
def yg8 (T : TT) (t : Nat) (ok : Bool) (kk : KK) (es : List (Ky × AV)) : List AV -> zcj
 | [_, k] => match T.find t with
   | some { k := .map kt et, .. } => match T.find et with
     | some ei => match ym9 kk (zhe T kt), zrh kk k with
       | true, some key => match zba es key with
         | some v => .ok (cond ok (.tup [v, .bool true]) v) [] []
         | none => .ok (cond ok (.tup [zg1 ei, .bool false]) (zg1 ei)) [] []
       | _, _ => .bad 65
     | none => .bad 65
   | _ => .bad 65
 | _ => .bad 65
def yqx (T : TT) (t : Nat) (ice : Nat -> Bool) (id : Nat) (kk : KK) (es : List (Ky × AV)) : List AV -> zcj
 | [_, k, v] => match T.find t with
   | some { k := .map kt _, .. } => match ice id, ym9 kk (zhe T kt), zrh kk k with
     | false, true, some key => .ok .dead [(id, .mapl kk (zwj es key v))] []
     | _, _, _ => .bad 66
   | _ => .bad 66
 | _ => .bad 66
def yg5 (T : TT) (dst : Option Nat) (t : Nat) (nw : Bool) : zcj :=
 match cond nw dst none with
 | some d => match T.find t with
   | some { k := .map _ _, .. } => .ok (.mp d) [(d, .mapq true)] []
   | _ => .bad 78
 | none => .bad 78
def yg7 (T : TT) (t : Nat) (ok : Bool) (e : Bool) : List AV -> zcj
 | [_, _] => match T.find t with
   | some { k := .map kt et, .. } => match T.find et, zzd T kt with
     | some ei, true => .okIf e (cond ok (.tup [zg1 ei, .bool false]) (zg1 ei)) [] []
     | _, _ => .bad 79
   | _ => .bad 79
 | _ => .bad 79
def yqw (T : TT) (t : Nat) (ice : Nat -> Bool) (id : Nat) (e : Bool) : List AV -> zcj
 | [_, _, _] => match T.find t with
   | some { k := .map kt _, .. } => match ice id, zzd T kt with
     | false, true => .okIf e .dead [(id, .mapq false)] []
     | _, _ => .bad 80
   | _ => .bad 80
 | _ => .bad 80
def yg4 (T : TT) (t : Nat) (ice : Nat -> Bool) (id : Nat) (kk : KK) (es : List (Ky × AV)) : List AV -> zcj
 | [_, k] => match T.find t with
   | some { k := .map kt _, .. } => match ice id, ym9 kk (zhe T kt), zrh kk k with
     | false, true, some key => .ok (.tup []) [(id, .mapl kk (ztw es key))] []
     | _, _, _ => .bad 67
   | _ => .bad 67
 | _ => .bad 67
def yr1 (T : TT) (t : Nat) (es : List (Ky × AV)) : List AV -> zcj
 | [_] => match T.find t with
   | some { k := .map _ _, .. } => .ok (.int .i64 (za7 (zdp es))) [] []
   | _ => .bad 68
 | _ => .bad 68
def cLen (T : TT) (L : zab) (t : Nat) (ob : Nat -> Option Ob) : List AV -> zcj
 | [x] => match T.find t with
   | some i => match i.k with
     | .str => match x with
       | .str l => .ok (.int .i64 (L slen l)) [] []
       | _ => .bad 39
     | .slice _ _ _ => match x with
       | .lst _ n _ => .ok (.int .i64 (L za7 n)) [] []
       | .sl _ _ _ n => .ok (.int .i64 (L za7 n)) [] []
       | .nils => .ok (.int .i64 0) [] []
       | .emp => .ok (.int .i64 0) [] []
       | .emz => .ok (.int .i64 0) [] []
       | _ => .bad 39
     | .arr n _ _ => .ok (.int .i64 (za7 n)) [] []
     | .map _ _ => match x with
       | .nilm => .ok (.int .i64 0) [] []
       | x => match yjb ob x with
         | some (_, n, _, _) => .ok (.int .i64 (L za7 n)) [] []
         | none => .bad 39
     | _ => .bad 39
   | none => .bad 39
 | _ => .bad 39
def zs6 (L : zab) : List AV -> zcj
 | [.sl id 1 0 n] => .okIf (L2 L zbk 0 n) (.eref id 1 0 0) [] []
 | _ => .bad 48
def yve (get : Nat -> Nat -> AV) (n : Nat) : Prop := ∀ i, i < n -> ∃ x, get i 0 = .int .u8 x /\ 0 <= x /\ x < 256
def zup (T : TT) (L : zab) (pt : Nat) (ob : Nat -> Option Ob) (ice : Nat -> Bool) : List AV -> zcj
 | [.eref id 1 0 0, .int .i64 n] => match ice id, ob id, T.find pt with
   | false, some (.row ty 1 m get), some pi => match pi.pt with
     | some e => match zat ty e, yp3 T e with
       | true, true => .okP (L3 L (fun (n : Int) (m : Nat) (g : Nat -> Nat -> AV) => 0 < n /\ n <= (m : Int) /\ n <= 9223372036854775807 /\ yve g n.toNat) n m get) (.str (L2 L zbf (L Int.toNat n) (fun i => (get i 0).toI))) [(id, .gone)] []
       | _, _ => .bad 49
     | none => .bad 49
   | _, _, _ => .bad 49
 | _ => .bad 49
def ymj (k : FloatKind) (a b : Nat) : Bool := (k.format.order a b).isSome
def yq2 (k : FloatKind) (a b : Nat) : Nat := match k.format.order a b with
 | some .lt => a
 | some .gt => b
 | some .eq => if (k.decode a).neg then a else b
 | none => 0
def ys0 (k : FloatKind) (a b : Nat) : Nat := match k.format.order a b with
 | some .lt => b
 | some .gt => a
 | some .eq => if (k.decode a).neg then b else a
 | none => 0
def yvd (L : zab) : List AV -> zcj
 | [.int k a, .int k' b] => match decide (k = k') with
   | true => .ok (.int k (L2 L yxx a b)) [] []
   | false => .bad 40
 | [.flt k a, .flt k' b] => match decide (k = k') with
   | true => .okIf (L2 L (ymj k) a b) (.flt k (L2 L (yq2 k) a b)) [] []
   | false => .bad 107
 | _ => .bad 40
def yr4 : List AV -> zcj
 | [.flt k a, .flt k' b] => match decide (k = k') with
   | true => .ok (.cpx k a b) [] []
   | false => .bad 105
 | _ => .bad 105
def cRe : List AV -> zcj
 | [.cpx k a _] => .ok (.flt k a) [] []
 | _ => .bad 106
def cIm : List AV -> zcj
 | [.cpx k _ b] => .ok (.flt k b) [] []
 | _ => .bad 106
def yqy (L : zab) : List AV -> zcj
 | [.int k a, .int k' b] => match decide (k = k') with
   | true => .ok (.int k (L2 L yu3 a b)) [] []
   | false => .bad 40
 | [.flt k a, .flt k' b] => match decide (k = k') with
   | true => .okIf (L2 L (ymj k) a b) (.flt k (L2 L (ys0 k) a b)) [] []
   | false => .bad 107
 | [.int k a, .int k' b, .int k'' d] => match decide (k = k') with
   | true => match decide (k = k'') with
     | true => .ok (.int k (L2 L yu3 (L2 L yu3 a b) d)) [] []
     | false => .bad 40
   | false => .bad 40
 | _ => .bad 40
def zcl (L : zab) (esz : Nat) (ob : Nat -> Option Ob) : AV -> Option (Nat × (Nat -> Nat -> AV))
 | .lst sz n get => match zat sz esz with | true => some (n, get) | false => none
 | .nils => some (0, fun _ _ => .dead)
 | .emp => some (0, fun _ _ => .dead)
 | .emz => some (0, fun _ _ => .dead)
 | .sl id sz off n => match zat sz esz with
   | true => match ob id with
     | some (.row ty sz' _ get) => match zat sz sz' with
       | true => some (n, fun i j => get (L2 L Nat.add off i) j)
       | false => none
     | _ => none
   | false => none
 | .lstx sz n get => match zat sz esz with | true => some (n, get) | false => none
 | .slc id sz off n _ => match zat sz esz with
   | true => match ob id with
     | some (.row ty sz' _ get) => match zat sz sz' with
       | true => some (n, fun i j => get (L2 L Nat.add off i) j)
       | false => none
     | _ => none
   | false => none
 | .str l => match esz with
   | 1 => some (L List.length l, fun i _ => .int .u8 (L2 L zhh l (L za7 i)))
   | _ => none
 | _ => none
def yws (ob : Nat -> Option Ob) (src : Nat -> Nat -> AV) : AV -> Nat -> Nat -> AV
 | .sl id _ 0 _ => match ob id with
   | some (.row _ _ _ get) => get
   | _ => src
 | _ => src
def zec (T : TT) (t : Nat) : Bool := match T.find t with
 | some i => match i.k with
   | .slice _ _ _ => true
   | .str => true
   | _ => false
 | none => false
def zut (T : TT) (L : zab) (dst : Option Nat) (t t' : Nat) (ob : Nat -> Option Ob) (ice : Nat -> Bool) (nw : Bool) : List AV -> zcj
 | [s, x] => match cond nw dst none with
   | some d => match T.find t with
     | some { k := .slice e esz eb, .. } => match cond (zec T t') (cond (zbx 1 esz) (cond (T.find e).isSome (zcl L esz ob x) none) none) none with
       | some (m, src) => match s with
         | .nils => .okIf (L3 L zc0 eb 0 m) (.sl d esz 0 m) [(d, .row e esz m src)] []
         | .emz => .okIf (L3 L zc0 eb 0 m) (.sl d esz 0 m) [(d, .row e esz m src)] []
         | .sl id sz off n => match zat sz esz, ice id, off, ob id with
           | true, false, 0, some (.row ty sz' _ get) => match zat sz sz' with
            | false => .bad 41
            | true => match zat ty e with
              | false => .bad 41
              | true => .okIf (L3 L zc0 eb n m) (.sl d esz 0 (L2 L Nat.add n m))
               [(d, .row e esz (L2 L Nat.add n m) (fun i j => zhc L (L2 L zbk i n) (get i j) (src (L2 L Nat.sub i n) j))), (id, .gone)] []
           | true, false, 0, some (.spr ty cs) => match zbx (n * sz) (zdp cs), zat ty e, zbk 0 n with
             | true, true, true => .okIf (L3 L zc0 eb n m) (.sl d esz 0 (n + m)) [(d, .spr e (zcb (zco cs (n * sz)) (znq (yal (yws ob src x) sz) 0 (m * sz)))), (id, .gone)] []
             | _, _, _ => .bad 41
           | _, _, _, _ => .bad 41
         | _ => .bad 41
       | none => .bad 41
     | _ => .bad 41
   | none => .bad 41
 | _ => .bad 41
def zqd (c : Bool) (x y : AV) : AV := match c with | true => x | false => y
def yln (L : zab) (sz : Nat) (c : Bool) (x y : AV) : AV := match sz with
 | 1 => zhc L c x y
 | _ => L3 L zqd c x y
def zdk (off n e : Nat) : Bool := zbx off e && zbk e (off + n)
def ysw (m n : Nat) : Bool := zbk 0 n && zbx m n
def ygd (T : TT) (L : zab) (t t' : Nat) (ob : Nat -> Option Ob) (ice : Nat -> Bool) : List AV -> zcj
 | [.sl id sz off n, x] => match T.find t with
   | some { k := .slice e esz eb, .. } => match cond (zec T t') (cond (zbx 1 esz) (cond (T.find e).isSome (zcl L esz ob x) none) none) none with
     | some (m, src) => match zat sz esz, ice id, ob id with
       | true, false, some (.row ty sz' k get) => match zat sz sz' with
         | true => .okIf (L2 L ysw m n) (.int .i64 (L za7 m)) [(id, .row ty sz k (fun i j => yln L sz (L3 L zdk off m i) (src (L2 L Nat.sub i off) j) (get i j)))] []
         | false => .bad 50
       | _, _, _ => .bad 50
     | none => .bad 50
   | _ => .bad 50
 | _ => .bad 50
def ypn : List AV -> Bool
 | .slc _ _ _ _ _ :: _ => true
 | _ => false
def yjk : List AV -> List AV
 | .slc id sz off n _ :: r => .sl id sz off n :: r
 | .lstx sz n get :: r => .lst sz n get :: r
 | l => l
def cCap (T : TT) (L : zab) (t : Nat) : List AV -> zcj
 | [.slc _ _ _ _ cap] => match T.find t with
   | some { k := .slice _ _ _, .. } => .ok (.int .i64 (L za7 cap)) [] []
   | _ => .bad 71
 | _ => .bad 71
def yn7 (vals : List AV) (l h m : Bool) : Option (Option Int × Option Int × Option Int) :=
 match l, h, m, vals with
 | false, false, false, [] => some (none, none, none)
 | true, false, false, [.int _ a] => some (some a, none, none)
 | false, true, false, [.int _ b] => some (none, some b, none)
 | true, true, false, [.int _ a, .int _ b] => some (some a, some b, none)
 | false, true, true, [.int _ b, .int _ c] => some (none, some b, some c)
 | true, true, true, [.int _ a, .int _ b, .int _ c] => some (some a, some b, some c)
 | _, _, _, _ => none
def geo (L : zab) : Option Int -> Nat -> Nat
 | none, n => n
 | some a, _ => L Int.toNat a
def yh3 (L : zab) (off : Nat) : Option Int -> Nat
 | none => off
 | some a => L2 L Nat.add off (L Int.toNat a)
def zsk (L : zab) (x : Nat) : Option Int -> Nat
 | none => x
 | some a => L2 L Nat.sub x (L Int.toNat a)
def gei (L : zab) : Option Int -> Nat -> Int
 | none, n => L za7 n
 | some a, _ => a
def yrx (i j k n : Int) : Bool := decide (0 <= i) && decide (i <= j) && decide (j <= k) && decide (k <= n)
def zuq (T : TT) (L : zab) (t : Nat) (l h m : Bool) : List AV -> zcj
 | x :: vs => match T.find t with
   | some { k := .slice _ esz _, .. } => match yn7 vs l h m with
     | some (a, b, c) => match x with
       | .slc id sz off n cap => match zat esz sz with
         | true => .okIf (L (L (L (L yrx (gei L a 0)) (gei L b n)) (gei L c cap)) (L za7 cap)) (.slc id sz (yh3 L off a) (zsk L (geo L b n) a) (zsk L (geo L c cap) a)) [] []
         | false => .bad 73
       | .sl id sz off n => match zat esz sz, c with
         | true, some _ => .okIf (L (L (L (L yrx (gei L a 0)) (gei L b n)) (gei L c n)) (L za7 n)) (.slc id sz (yh3 L off a) (zsk L (geo L b n) a) (zsk L (geo L c n) a)) [] []
         | _, _ => .bad 73
       | .lst sz n get => match zat esz sz, c with
         | true, some c0 => .okIf (L2 L and (L (L (L (L yrx (gei L a 0)) (gei L b n)) c0) (L za7 n)) (L2 L ieq (gei L b n) c0)) (.lstx sz (zsk L (geo L b n) a) (yh9 L get a)) [] []
         | _, _ => .bad 73
       | _ => .bad 73
     | none => .bad 73
   | _ => .bad 73
 | _ => .bad 73
def yed (T : TT) (t : Nat) : Bool := match T.find t with
 | some { k := .int .i64, .. } => true
 | _ => false
def ywi (ei : TI) : Nat -> Nat -> AV := fun _ j => zbn .dead ei.zero j
def ywr (T : TT) (L : zab) (esz eb : Nat) (ei : TI) (t' : Nat) (ob : Nat -> Option Ob) (x : AV) : Option (Bool × Nat × (Nat -> Nat -> AV)) :=
 match zec T t' with
 | true => match zcl L esz ob x with
   | some (m, g) => some (true, m, g)
   | none => none
 | false => match yed T t', zm6 ei.zero, x with
   | true, true, .int .i64 n => some (L2 L and (L2 L inC n 9223372036854775807) (L3 L zc0 eb 0 (L Int.toNat n)), L Int.toNat n, ywi ei)
   | _, _, _ => none
def zj4 (T : TT) (L : zab) (dst : Option Nat) (t t' : Nat) (ob : Nat -> Option Ob) (ice : Nat -> Bool) (nw : Bool) : List AV -> zcj
 | [.slc id sz off n cap, x] => match cond nw dst none with
   | some d => match T.find t with
     | some { k := .slice e esz eb, .. } => match T.find e with
       | some ei => match cond (zbx 1 esz) (ywr T L esz eb ei t' ob x) none with
         | some (q, m, src) => match zat sz esz, ice id, ob id with
           | true, false, some (.row ty sz' k get) => match zat sz sz', zat ty e with
             | true, true => .alt (L2 L and q (L2 L zbx (L2 L Nat.add n m) cap)) (.slc id sz off (L2 L Nat.add n m) cap) [(id, .row ty sz k (fun i j => L3 L zqd (L3 L zdk (L2 L Nat.add off n) m i) (src (L2 L Nat.sub i (L2 L Nat.add off n)) j) (get i j)))]
                 (L2 L and q (L3 L zc0 eb n m)) (.sl d esz 0 (L2 L Nat.add n m)) [(d, .row e esz (L2 L Nat.add n m) (fun i j => L3 L zqd (L2 L zbk i n) (get (L2 L Nat.add off i) j) (src (L2 L Nat.sub i n) j)))]
             | _, _ => .bad 74
           | _, _, _ => .bad 74
         | none => .bad 74
       | none => .bad 74
     | _ => .bad 74
   | none => .bad 74
 | _ => .bad 74
def yy1 : List AV -> Bool
 | .lstx _ _ _ :: _ => true
 | _ => false
def zj3 (T : TT) (L : zab) (dst : Option Nat) (t t' : Nat) (ob : Nat -> Option Ob) (nw : Bool) : List AV -> zcj
 | [.lstx sz n get, x] => match cond nw dst none with
   | some d => match T.find t with
     | some { k := .slice e esz eb, .. } => match cond (zec T t') (cond (zbx 1 esz) (cond (T.find e).isSome (zcl L esz ob x) none) none) none with
       | some (m, src) => match zat sz esz with
         | true => .okIf (L2 L and (L2 L zbk 0 m) (L3 L zc0 eb n m)) (.sl d esz 0 (L2 L Nat.add n m)) [(d, .row e esz (L2 L Nat.add n m) (fun i j => zhc L (L2 L zbk i n) (get i j) (src (L2 L Nat.sub i n) j)))] []
         | false => .bad 77
       | none => .bad 77
     | _ => .bad 77
   | none => .bad 77
 | _ => .bad 77
def yjt : AV -> Bool
 | .str _ => false
 | _ => true
def zs7 (T : TT) (L : zab) (t t' : Nat) (ob : Nat -> Option Ob) (ice : Nat -> Bool) : List AV -> zcj
 | [.slc id sz off n _, x] => match T.find t with
   | some { k := .slice e esz eb, .. } => match cond (yjt x) (cond (zec T t') (cond (zbx 1 esz) (cond (T.find e).isSome (zcl L esz ob x) none) none) none) none with
     | some (m, src) => match zat sz esz, ice id, ob id with
       | true, false, some (.row ty sz' k get) => match zat sz sz' with
         | true => .okIf (L2 L zbk 0 n) (.int .i64 (L za7 (L2 L Nat.min m n))) [(id, .row ty sz k (fun i j => L3 L zqd (L3 L zdk off (L2 L Nat.min m n) i) (src (L2 L Nat.sub i off) j) (get i j)))] []
         | false => .bad 75
       | _, _, _ => .bad 75
     | none => .bad 75
   | _ => .bad 75
 | _ => .bad 75
def slOf : AV -> Option (Nat × Nat × Nat × Nat)
 | .sl id sz off n => some (id, sz, off, n)
 | .slc id sz off n _ => some (id, sz, off, n)
 | _ => none
def ygf (T : TT) (L : zab) (t : Nat) (ob : Nat -> Option Ob) (ice : Nat -> Bool) : List AV -> zcj
 | [x] => match slOf x, T.find t with
   | some (id, sz, off, n), some { k := .slice e esz _, .. } => match T.find e, zat sz esz, zbx 1 esz, ice id, ob id with
     | some ei, true, true, false, some (.row ty sz' k get) => match zat sz sz', zm6 ei.zero with
       | true, true => .ok (.tup []) [(id, .row ty sz k (fun i j => L3 L zqd (L3 L zdk off n i) (zbn .dead ei.zero j) (get i j)))] []
       | _, _ => .bad 76
     | _, _, _, _, _ => .bad 76
   | _, _ => .bad 76
 | _ => .bad 76
def core (T : TT) (L : zab) (dst : Option Nat) (op : Op) (vals : List AV) (ob : Nat -> Option Ob) (ice : Nat -> Bool) (nw : Bool) : zcj :=
 match op with
 | .move _ => yg3 vals
 | .assign _ => yg3 vals
 | .pick _ _ _ => yg2 vals
 | .binOp op t x y _ => yr8 T L op t (cond (zpl x) true (zpl y)) vals
 | .unOp op _ _ => cUn L op vals
 | .convert s t _ => match zsq T t with
   | true => ygg T L dst s t nw vals
   | false => yr5 T L s t ob vals
 | .alloc t => ygi T dst t nw
 | .box t _ => cBox T L dst t nw vals
 | .build t ps => ygh T t ps.toList vals
 | .buildSlice t n ps => yqv T L dst t n ps.toList (zck (yhe ob) vals) ob nw
 | .load t _ => ya0 T L t ob vals
 | .store t _ _ => yg0 T L t ob ice vals
 | .fieldAddr t _ f => ygc T t f vals
 | .field t _ f => ygb T t f vals
 | .indexAddr t _ _ => yga T L t ob (yjk vals)
 | .index t _ _ => yg9 T L t vals
 | .slice t _ l h m => match cond m.isSome true (ypn vals) with
   | true => zuq T L t l.isSome h.isSome m.isSome vals
   | false => yg1 T L t ob l.isSome h.isSome m.isSome vals
 | .extract _ i => zq5 i vals
 | .makeFunc fn first _ => yr3 fn first.size vals
 | .nilCheck _ => cNil vals
 | .sliceToArrayPointer t _ => cArr T L t ob vals
 | .makeSlice t _ _ => zur T L dst t nw vals
 | .makeMap t none => match yt6 T t with
   | true => yg5 T dst t nw
   | false => match yt5 T t with
     | true => yg6 T dst t nw
     | false => yqz T dst t nw
 | .lookup t _ _ ok => match yh4 ob vals with
   | some (_, kk, es) => yg8 T t ok kk es vals
   | none => match yrt ob vals with
     | some (_, e) => yg7 T t ok e vals
     | none => yr0 T L t ok ob vals
 | .mapUpdate t _ _ _ => match yh4 ob vals with
   | some (id, kk, es) => yqx T t ice id kk es vals
   | none => match yrt ob vals with
     | some (id, e) => yqw T t ice id e vals
     | none => cMup T L t ob ice vals
 | .call c => match c.callee with
   | .value _ => yr7 L ob vals
   | .builtin .len => match c.argTypes.toList with
     | t :: _ => match yh4 ob vals with
       | some (_, _, es) => yr1 T t es vals
       | none => cLen T L t ob (yjk vals)
     | [] => .bad 39
   | .builtin .cap => match c.argTypes.toList with
     | t :: _ => cCap T L t vals
     | [] => .bad 71
   | .builtin .clear => match c.argTypes.toList with
     | t :: _ => ygf T L t ob ice vals
     | [] => .bad 76
   | .builtin .min => yvd L vals
   | .builtin .complex => yr4 vals
   | .builtin .real => cRe vals
   | .builtin .imag => cIm vals
   | .builtin .unsafeSliceData => zs6 L vals
   | .builtin .unsafeString => match c.argTypes.toList with
     | [t, _] => zup T L t ob ice vals
     | _ => .bad 49
   | .builtin .max => yqy L vals
   | .builtin .append => match c.argTypes.toList with
     | [t, t'] => match ypn vals with
       | true => zj4 T L dst t t' ob ice nw vals
       | false => match yy1 vals with
         | true => zj3 T L dst t t' ob nw vals
         | false => zut T L dst t t' ob ice nw vals
     | _ => .bad 41
   | .builtin .copy => match c.argTypes.toList with
     | [t, t'] => match ypn vals with
       | true => zs7 T L t t' ob ice vals
       | false => ygd T L t t' ob ice vals
     | _ => .bad 50
   | .builtin .delete => match c.argTypes.toList with
     | [t, _] => match yh4 ob vals with
       | some (id, kk, es) => yg4 T t ice id kk es vals
       | none => zus T L t ob ice vals
     | _ => .bad 63
   | _ => .bad 42
 | _ => .bad 0
def zcq : Op -> Bool
 | .alloc _ => true
 | .box _ _ => true
 | .buildSlice _ _ _ => true
 | .makeSlice _ _ _ => true
 | .makeMap _ _ => true
 | .convert _ _ _ => true
 | .call { callee := .builtin .append, .. } => true
 | _ => false
def zoj : Op -> Bool
 | .store _ _ _ => true
 | .mapUpdate _ _ _ _ => true
 | .call { callee := .builtin .delete, .. } => true
 | .call { callee := .builtin .unsafeString, .. } => true
 | .call { callee := .builtin .append, .. } => true
 | .call { callee := .builtin .copy, .. } => true
 | .call { callee := .builtin .clear, .. } => true
 | _ => false
def evf (f : Nat -> Option AV) (kn : List (Nat × Bool)) : Operand -> AV
 | .tmp t => match za3 kn t with
   | some b => .bool b
   | none => match f t with
     | some v => v
     | none => .dead
 | .const v => yxe v
 | .func f => .fn f [] []
 | .global _ => .dead
def yrv (g : Nat -> Option Ob) (ids : List Nat) (id : Nat) : Option Ob := match zbu ids id with | true => g id | false => none
def yk7 : List AV -> List Nat
 | [] => []
 | x :: _ => zwu x
def zzm (c : Nat -> Bool) (op : Op) (vals : List AV) (id : Nat) : Bool :=
 match zoj op with
 | true => match zbu (yk7 vals) id with | true => c id | false => true
 | false => true
def zdi (g : Nat -> Option Ob) (op : Op) (dst : Option Nat) : Bool :=
 match zcq op with
 | true => match dst with
   | some d => match g d with | none => true | some _ => false
   | none => false
 | false => false
def looks : Op -> Bool
 | .move _ => false
 | _ => true
def yry (op : Op) (vs : List AV) : List Nat := match looks op with
 | true => zdl vs
 | false => []
def zkb (T : TT) (L : zab) (f : Nat -> Option AV) (g : Nat -> Option Ob) (c : Nat -> Bool) (kn : List (Nat × Bool)) (o : Oper) : zcj :=
 core T L o.dst o.op (zck (evf f kn) (zbm o.op)) (yrv g (yry o.op (zck (evf f kn) (zbm o.op)))) (zzm c o.op (zck (evf f kn) (zbm o.op))) (zdi g o.op o.dst)
def yp0 : List (Nat × Bool) -> Nat -> List (Nat × Bool)
 | [], _ => []
 | (t, b) :: r, d => match zat t d with
   | true => yp0 r d
   | false => (t, b) :: yp0 r d
def litOf (kn : List (Nat × Bool)) : Operand -> Option Bool
 | .const (.bool b) => some b
 | .tmp t => za3 kn t
 | _ => none
def zrc (kn : List (Nat × Bool)) : Op -> Option Bool
 | .move x => litOf kn x
 | .assign x => litOf kn x
 | .pick c a b => match litOf kn c with
   | some true => litOf kn a
   | some false => litOf kn b
   | none => none
 | _ => none
def ytx (kn : List (Nat × Bool)) (dst : Option Nat) (x : Option Bool) : List (Nat × Bool) :=
 match dst with
 | none => kn
 | some d => match x with
   | some b => (d, b) :: yp0 kn d
   | none => yp0 kn d
def St.put (s : St) (dst : Option Nat) (v : AV) : List (Nat × AV) := match dst with | some d => (d, v) :: s.slots | none => s.slots
def St.eff (s : St) (dst : Option Nat) (v : AV) (os : List (Nat × Ob)) (ice : List Nat) (x : Option Bool) : St :=
 ⟨s.put dst v, zcb os s.objs, zcb ice s.ice, ytx s.kn dst x⟩
def St.know (s : St) (t : Nat) (b : Bool) : St := ⟨s.slots, s.objs, s.ice, (t, b) :: s.kn⟩
structure Ent where
 ids : List Nat
 wr : List Nat
def zzb {α : Type} : List (Nat × α) -> List Nat
 | [] => []
 | x :: xs => x.1 :: zzb xs
def meets : List Nat -> List Nat -> Bool
 | [], _ => false
 | x :: xs, ys => match zbu ys x with | true => true | false => meets xs ys
def zun (a b : Ent) : Bool := match meets a.wr (zcb b.ids b.wr) with | true => true | false => meets b.wr a.ids
def zax : List Edge -> Nat -> Bool
 | [], _ => false
 | e :: es, j => match Region.binds .any e with
   | true => match zat e.on j with | true => true | false => zax es j
   | false => zax es j
def zv0 (ops : List Oper) : Nat -> List Edge -> Nat -> Bool
 | 0, es, j => zax es j
 | n + 1, es, j => match zax es j with
   | true => true
   | false => es.any fun e => match Region.binds .any e with
     | true => match zbx e.on j with
       | true => false
       | false => match ops[e.on]? with
         | some o => zv0 ops n o.after.toList j
         | none => false
     | false => false
def zjl (ops : List Oper) (es : List Edge) (x : Ent) : List (Nat × Ent) -> Bool
 | [] => true
 | (j, y) :: r => match zun x y with
   | true => match zv0 ops 4 es j with
     | true => zjl ops es x r
     | false => false
   | false => zjl ops es x r
def zhu (ops : List Oper) (o : Oper) : Option (Option Nat × Bool) :=
 match o.guard with
 | none => none
 | some (j, w) => match ops[j]? with
   | some o' => some (o'.dst, w)
   | none => some (none, w)
structure zcr where
 ps : List Prop
 ids : List (Nat × Option Nat)
def zcr.add (m : zcr) (p : Prop) : zcr := ⟨p :: m.ps, m.ids⟩
def yp5 (id : Nat) : Option Nat -> Bool
 | some x => zat x id
 | none => false
def zqh (id : Nat) : List (Nat × Option Nat) -> Bool
 | [] => false
 | p :: r => match yp5 id p.2 with | true => true | false => zqh id r
def zge (m : zcr) (tid id : Nat) : Option zcr :=
 match za3 m.ids tid with
 | some x => match yp5 id x with | true => some m | false => none
 | none => match zqh id m.ids with
   | true => none
   | false => some ⟨m.ps, (tid, some id) :: m.ids⟩
def zhk (m : zcr) (tid : Nat) : Option zcr :=
 match za3 m.ids tid with
 | some _ => none
 | none => some ⟨m.ps, (tid, none) :: m.ids⟩
def zdj (m : zcr) : AV -> AV -> Option zcr
 | .dead, _ => some m
 | .bool a, .bool b => some (m.add (b = a))
 | .int k a, .int k' b => match decide (k = k') with
   | true => some (m.add (b = a))
   | false => none
 | .str a, .str b => some (m.add (b = a))
 | .flt k a, .flt k' b => match decide (k = k') with
   | true => some (m.add (b = a))
   | false => none
 | .cpx k a b, .cpx k' a' b' => match decide (k = k') with
   | true => some ((m.add (a' = a)).add (b' = b))
   | false => none
 | .nilp, .nilp => some m
 | .nilm, .nilm => some m
 | .nilf, .nilf => some m
 | .nils, .nils => some m
 | .nili, .nili => some m
 | .ifb a, .ifb b => some (m.add (b = a))
 | .emp, .emp => some m
 | .emz, .emz => some m
 | .lst sz n get, .lst sz' n' get' => match zat sz sz' with
   | true => some (m.add (n' = n /\ ∀ i j, i < n -> j < sz -> get' i j = get i j))
   | false => none
 | .lst sz n get, .lstx sz' n' get' => match zat sz sz' with
   | true => some (m.add (n' = n /\ ∀ i j, i < n -> j < sz -> get' i j = get i j))
   | false => none
 | .lst _ n _, .nils => some (m.add (0 = n))
 | .lst _ n _, .emp => some (m.add (0 = n))
 | .lst _ n _, .emz => some (m.add (0 = n))
 | .iptr n get, .iptr n' get' => some (m.add (n <= n' /\ ∀ j, j < n -> get' j = get j))
 | .arr n get, .arr n' get' => match zat n n' with
   | true => some (m.add (∀ j, j < n -> get' j = get j))
   | false => none
 | .ref tid off, .ref id off' => match zat off off' with
   | true => zge m tid id
   | false => none
 | .eref tid sz i off, .eref id sz' i' off' => match zat sz sz' with
   | true => match zat off off' with
     | true => match zge m tid id with | some m => some (m.add (i' = i)) | none => none
     | false => none
   | false => none
 | .sl tid sz off n, .sl id sz' off' n' => match zat sz sz' with
   | true => match zge m tid id with | some m => some (m.add (off' = off /\ n' = n)) | none => none
   | false => none
 | .sl tid sz off n, .slc id sz' off' n' _ => match zat sz sz' with
   | true => match zge m tid id with | some m => some (m.add (off' = off /\ n' = n)) | none => none
   | false => none
 | .slc tid sz off n cap, .slc id sz' off' n' cap' => match zat sz sz' with
   | true => match zge m tid id with | some m => some (m.add (off' = off /\ n' = n /\ cap' = cap)) | none => none
   | false => none
 | .sl tid _ off n, .nils => match zhk m tid with | some m => some (m.add (0 = off /\ 0 = n)) | none => none
 | .fn f a b, .fn f' a' b' => match zat f f', zm7 (.fn f' a' b') with
   | true, true => some (m.add (a' = a /\ b' = b))
   | _, _ => none
 | .mp tid, .mp id => zge m tid id
 | .mpi kk n has val, .mpi kk' n' has' val' => match decide (kk = kk') with
   | true => some (m.add (n' = n /\ (∀ k, has' k = has k) /\ ∀ k, has k = true -> val' k = val k))
   | false => none
 | _, _ => none
def zim (m : zcr) : List AV -> List AV -> Option zcr
 | [], [] => some m
 | x :: xs, y :: ys => match zdj m x y with
   | some m => zim m xs ys
   | none => none
 | _, _ => none
def zg6 (m : zcr) : AV -> AV -> Option zcr
 | .fn f a b, .fn f' a' b' => match zm7 (.fn f' a' b') with
   | true => zdj m (.fn f a b) (.fn f' a' b')
   | false => match zat f f', zim m a a' with
     | true, some m => zim m b b'
     | _, _ => none
 | .agg a, .agg b => zim m a b
 | a, b => zdj m a b
def zgi (slots : List (Nat × AV)) : List (Nat × AV) -> zcr -> Option zcr
 | [], m => some m
 | (t, v) :: r, m => match za3 slots t with
   | some u => match zg6 m v u with
     | some m => zgi slots r m
     | none => none
   | none => none
def yor (m : zcr) (y : AV) : AV -> Option zcr
 | .dead => some m
 | .sl tid _ off n => match zhk m tid with
   | some m => some (m.add (y = .nils /\ 0 = off /\ 0 = n))
   | none => none
 | x => match zr0 x with
   | true => some (m.add (y = x))
   | false => none
def zw6 (m : zcr) (y : Nat -> AV) : Nat -> List AV -> Option zcr
 | _, [] => some m
 | j, x :: xs => match yor m (y j) x with
   | some m => zw6 m y (j + 1) xs
   | none => none
def yj8 : List (Ky × AV) -> List (Ky × AV) -> Bool
 | [], [] => true
 | x :: xs, y :: ys => match kyb x.1 y.1 with | true => yj8 xs ys | false => false
 | _, _ => false
def zw5 (m : zcr) : Ob -> Ob -> Option zcr
 | .box ty a, .box ty' b => match zat ty ty' with
   | true => zim m a b
   | false => none
 | .row ty sz n get, .row ty' sz' n' get' => match zat ty ty', zat sz sz' with
   | true, true => some (m.add (n' = n /\ ∀ i j, i < n -> j < sz -> get' i j = get i j))
   | _, _ => none
 | .spr ty cs, .spr ty' cs' => match zat ty ty', zbx (zdp cs) (zdp cs') with
   | true, true => zim m cs (zco cs' (zdp cs))
   | _, _ => none
 | .map kk n has val, .map kk' n' has' val' => match decide (kk = kk') with
   | true => some (m.add (n' = n /\ (∀ k, has' k = has k) /\ ∀ k, has k = true -> val' k = val k))
   | false => none
 | .mapq e, .mapq e' => some (m.add (e = true -> e' = true))
 | .mapl kk a, .mapl kk' b => match decide (kk = kk'), yj8 a b with
   | true, true => zim m (zck Prod.snd a) (zck Prod.snd b)
   | _, _ => none
 | .spr ty cs, .row ty' sz n get => match zat ty ty' with
   | true => match zw6 m (yal get sz) 0 cs with
     | some m => some (m.add (zdp cs <= n * sz))
     | none => none
   | false => none
 | _, _ => none
def zto (m : zcr) : Ob -> Option zcr
 | .row _ _ n _ => some (m.add (0 = n))
 | .spr _ [] => some m
 | _ => none
def zhn (s : St) (ice : List Nat) : List (Nat × Ob) -> zcr -> Option zcr
 | [], m => some m
 | (tid, o) :: r, m => match za3 m.ids tid with
   | some (some id) => match zbu s.ice id, zbu ice tid with
     | true, false => none
     | _, _ => match za3 s.objs id with
       | some o' => match zw5 m o o' with
         | some m => zhn s ice r m
         | none => none
       | none => none
   | some none => match zto m o with
     | some m => zhn s ice r m
     | none => none
   | none => none
def ycg : List Nat -> List (Nat × Option Nat)
 | [] => []
 | i :: r => (i, some i) :: ycg r
def yei (objs : List (Nat × Ob)) : List (Nat × Option Nat) -> Bool
 | [] => true
 | p :: r => match za3 objs p.1 with | some _ => yei objs r | none => false
def yk2 (objs : List (Nat × Ob)) : List Nat -> Bool
 | [] => true
 | p :: r => match za3 objs p with | some _ => yk2 objs r | none => false
structure yrm where
 xs : List AV
 O : List (Nat × Ob)
 p : Prop
 r : AV
 O1 : List (Nat × Ob)
abbrev MSum := List AV -> (Nat -> Option Ob) -> Option yrm
structure zqc where
 fz : FuncId -> List AV -> Option (Prop × AV)
 mt : FuncId -> Option MSum
def zyx {α : Type} : Nat -> List α -> List (Nat × α)
 | _, [] => []
 | i, x :: xs => (i, x) :: zyx (i + 1) xs
def tgt (F : List (Nat × Option Nat)) (fr n : Nat) : Nat := match za3 F n with
 | some (some id) => id
 | _ => fr + n
def zym (F : List (Nat × Option Nat)) (fr : Nat) : AV -> AV
 | .ref id off => .ref (tgt F fr id) off
 | .eref id sz i off => .eref (tgt F fr id) sz i off
 | .sl id sz off n => .sl (tgt F fr id) sz off n
 | .slc id sz off n cap => .slc (tgt F fr id) sz off n cap
 | .mp id => .mp (tgt F fr id)
 | .bidx id off n i => .bidx (tgt F fr id) off n i
 | .fn f a b => match zm7 (.fn f a b) with | true => .fn f a b | false => .dead
 | .agg _ => .dead
 | .tup _ => .dead
 | v => v
def yt1 (F : List (Nat × Option Nat)) (fr : Nat) : AV -> AV
 | .agg cs => .agg (zck (zym F fr) cs)
 | .tup cs => .tup (zck (zym F fr) cs)
 | .fn f a b => match zm7 (.fn f a b) with | true => .fn f a b | false => .fn f (zck (zym F fr) a) (zck (zym F fr) b)
 | v => zym F fr v
def zyl (F : List (Nat × Option Nat)) (fr : Nat) : Ob -> Ob
 | .box ty cs => .box ty (zck (zym F fr) cs)
 | .spr ty cs => .spr ty (zck (zym F fr) cs)
 | .mapl kk es => .mapl kk (zck (fun x => (x.1, zym F fr x.2)) es)
 | o => o
def zgo (F : List (Nat × Option Nat)) (O1 : List (Nat × Ob)) : List (Nat × Ob) -> List (Nat × Ob)
 | [] => []
 | (n, _) :: r => match za3 O1 n with
   | some _ => zgo F O1 r
   | none => match za3 F n with
     | some (some id) => (id, .gone) :: zgo F O1 r
     | _ => zgo F O1 r
def zmw (F : List (Nat × Option Nat)) (fr : Nat) : List (Nat × Ob) -> List (Nat × Ob)
 | [] => []
 | (n, o) :: r => (tgt F fr n, zyl F fr o) :: zmw F fr r
def zfu (id : Nat) : Bool := match zbx 500000 id with | true => zbk id 600000 | false => false
def zju (objs : List (Nat × Ob)) (F : List (Nat × Option Nat)) (fr : Nat) : List (Nat × Ob) -> Bool
 | [] => true
 | (n, _) :: r => match za3 F n with
   | some (some _) => zju objs F fr r
   | _ => match za3 objs (fr + n), zfu (fr + n) with
     | none, false => zju objs F fr r
     | _, _ => false
def zw2 : List (Nat × Ob) -> Bool
 | [] => true
 | (_, .gone) :: _ => false
 | _ :: r => zw2 r
def yos (s : St) (raw : List AV) (T : yrm) : Option zcr :=
 match zat (zdp raw) (zdp T.xs) with
 | true => match zgi (zyx 0 raw) (zyx 0 T.xs) ⟨[], []⟩ with
   | some m => match zhn s [] T.O m with
     | some m => match yei T.O m.ids, zw2 T.O1 with
       | true, true => some m
       | _, _ => none
     | none => none
   | none => none
 | false => none
def yj3 : List Prop -> zc6 -> zc6
 | [], t => t
 | p :: r, t => .must p (yj3 r t)
section
variable (T : TT) (L : zab) (S : zqc) (draw : Bool) (ops : List Oper)
def zw1 (acc : List (Nat × Ent)) (i : Nat) (x : Ent) : List (Nat × Ent) :=
 match x.ids with
 | [] => match x.wr with
   | [] => acc
   | _ => (i, x) :: acc
 | _ => (i, x) :: acc
def zgu (o : Oper) (i : Nat) (s : St) (acc : List (Nat × Ent)) (ids wr : List Nat) (v : AV) (os : List (Nat × Ob)) (ice : List Nat)
   (next : St -> List (Nat × Ent) -> zc6) : zc6 :=
 match draw with
 | true => match zjl ops o.after.toList ⟨zcb ice ids, zcb wr (zzb os)⟩ acc with
   | true => next (s.eff o.dst v os ice (zrc s.kn o.op)) (zw1 acc i ⟨zcb ice ids, zcb wr (zzb os)⟩)
   | false => .fail 100
 | false => next (s.eff o.dst v os ice (zrc s.kn o.op)) acc
def yus (o : Oper) (i : Nat) (s : St) (acc : List (Nat × Ent)) (ids wr : List Nat) (next : St -> List (Nat × Ent) -> zc6) : zcj -> zc6
 | .ok v os ice => zgu draw ops o i s acc ids wr v os ice next
 | .okIf b v os ice => .need b (zgu draw ops o i s acc ids wr v os ice next)
 | .okP p v os ice => .must p (zgu draw ops o i s acc ids wr v os ice next)
 | .alt b v os q v' os' => .ite b (zgu draw ops o i s acc ids wr v os [] next) (.need q (zgu draw ops o i s acc ids wr v' os' [] next))
 | .call f xs ice => match S.fz f xs with
   | some (p, r) => .must p (zgu draw ops o i s acc ids wr r [] ice next)
   | none => .call f xs (fun r => zgu draw ops o i s acc ids wr r [] ice next)
 | .bad n => .fail n
def zzl (s : St) (o : Oper) : List Nat := match draw with
 | true => zcb (match zcq o.op with | true => (match o.dst with | some d => [d] | none => []) | false => []) (yry o.op (zck (evf (za3 s.slots) s.kn) (zbm o.op)))
 | false => []
def ys8 (s : St) (o : Oper) : List Nat := match draw with
 | true => match zoj o.op with
   | true => yk7 (zck (evf (za3 s.slots) s.kn) (zbm o.op))
   | false => []
 | false => []
def yur (o : Oper) (i : Nat) (s : St) (acc : List (Nat × Ent)) (next : St -> List (Nat × Ent) -> zc6) (m : MSum) (raw : List AV) : zc6 :=
 match m raw (za3 s.objs) with
 | some t => match yos s raw t with
   | some mt => match zju s.objs mt.ids (1000000 * (zdp s.objs + 1)) t.O1 with
     | true => yj3 mt.ps (.must t.p (zgu draw ops o i s acc (zzl draw s o) (ys8 draw s o) (yt1 mt.ids (1000000 * (zdp s.objs + 1)) t.r)
         (zcb (zmw mt.ids (1000000 * (zdp s.objs + 1)) t.O1) (zgo mt.ids t.O1 t.O)) [] next))
     | false => .fail 107
   | none => .fail 106
 | none => .fail 105
def ztx : Op -> Bool
 | .call { callee := .value _, .. } => true
 | _ => false
def zrx (o : Oper) (i : Nat) (s : St) (acc : List (Nat × Ent)) (next : St -> List (Nat × Ent) -> zc6) : zc6 :=
 match (match ztx o.op with
   | true => match zck (evf (za3 s.slots) s.kn) (zbm o.op) with
     | .fn f first caps :: xs => match S.mt f with
       | some m => some (m, zcb first (zcb xs caps))
       | none => none
     | _ => none
   | false => none) with
 | some (m, raw) => yur draw ops o i s acc next m raw
 | none => yus S draw ops o i s acc (zzl draw s o) (ys8 draw s o) next (zkb T L (za3 s.slots) (za3 s.objs) (zbu s.ice) s.kn o)
def zd6 : List Oper -> Nat -> St -> List (Nat × Ent) -> (St -> zc6) -> zc6
 | [], _, s, _, k => k s
 | o :: r, i, s, acc, k => match zhu ops o with
   | none => zrx T L S draw ops o i s acc (fun s acc => zd6 r (i + 1) s acc k)
   | some (none, _) => .fail 101
   | some (some t, w) => match za3 s.kn t with
     | some b => match w, b with
       | true, true => zrx T L S draw ops o i s acc (fun s acc => zd6 r (i + 1) s acc k)
       | false, false => zrx T L S draw ops o i s acc (fun s acc => zd6 r (i + 1) s acc k)
       | _, _ => zd6 r (i + 1) (s.eff o.dst (.tup []) [] [] none) acc k
     | none => match za3 s.slots t with
       | some (.tup []) => zd6 r (i + 1) (s.eff o.dst (.tup []) [] [] none) acc k
       | some (.bool b) => match w with
         | true => .ite b (zrx T L S draw ops o i (s.know t true) acc (fun s acc => zd6 r (i + 1) s acc k))
             (zd6 r (i + 1) ((s.know t false).eff o.dst (.tup []) [] [] none) acc k)
         | false => .ite b (zd6 r (i + 1) ((s.know t true).eff o.dst (.tup []) [] [] none) acc k)
             (zrx T L S draw ops o i (s.know t false) acc (fun s acc => zd6 r (i + 1) s acc k))
       | _ => .fail 102
end
def zm2 : Op -> Bool
 | .store _ _ (.const (.bool _)) => true
 | _ => false
def ztn : List Oper -> Bool
 | [] => true
 | o :: r => match o.guard with | none => ztn r | some _ => false
def yfz : List Oper -> Option Nat
 | [a, b, c, d] => match zm2 b.op, zm2 c.op with
   | true, true => match zax b.after.toList 0, zax c.after.toList 0, zax d.after.toList 1, zax d.after.toList 2, ztn [a, b, c, d] with
     | true, true, true, true, true => d.dst
     | _, _, _, _, _ => none
   | _, _ => none
 | _ => none
def ysj : List Oper -> List Oper
 | [a, b, c, d] => [a, c, b, d]
 | l => l
def yjp (v : Nat) (k : St -> zc6) (s : St) : zc6 := match za3 s.slots v with
 | some (.bool b) => k (s.know v b)
 | _ => .fail 103
def zt3 (T : TT) (L : zab) (S : zqc) (draw : Bool) (ops : List Oper) (s : St) (k : St -> zc6) : zc6 :=
 match cond draw (yfz ops) none with
 | some v => zd6 T L S false ops (zco ops 1) 0 s [] (fun s => .and (zd6 T L S false ops (zcz ops 1) 1 s [] (yjp v k))
     (zd6 T L S false ops (zcz (ysj ops) 1) 1 s [] (yjp v k)))
 | none => zd6 T L S draw ops ops 0 s [] k
structure Ann where
 X : Type
 slots : X -> List (Nat × AV)
 objs : X -> List (Nat × Ob)
 keep : List Nat
 hold : List Nat
 inv : X -> Prop
 mu : X -> Nat
def zn0 (slots : List (Nat × AV)) : List Nat -> Option (List (Nat × AV))
 | [] => some []
 | t :: r => match zbx 700000 t with
   | true => zn0 slots r
   | false => match za3 slots t with
     | some v => match zn0 slots r with
       | some l => some ((t, v) :: l)
       | none => none
     | none => none
def yxz : List Nat -> List Nat
 | [] => []
 | t :: r => match zbx 700000 t with
   | true => (t - 700000) :: yxz r
   | false => yxz r
def zpi (objs : List (Nat × Ob)) : List Nat -> Option (List (Nat × Ob))
 | [] => some []
 | t :: r => match za3 objs t with
   | some v => match zpi objs r with
     | some l => some ((t, v) :: l)
     | none => none
   | none => none
def ztg : List (Nat × Option Nat) -> Bool
 | [] => true
 | (t, x) :: r => match zfu t with
   | true => match yp5 t x with | true => ztg r | false => false
   | false => ztg r
def zz2 (s tm : St) (hold : List Nat) (next : zc6) : zc6 :=
 match zgi s.slots tm.slots ⟨[], ycg hold⟩ with
 | some m => match zhn s tm.ice tm.objs m with
   | some m => match yei tm.objs m.ids, yk2 tm.objs tm.ice, ztg m.ids with
     | true, true, true => yj3 m.ps next
     | _, _, _ => .fail 202
   | none => .fail 201
 | none => .fail 200
def zu2 (ice : List Nat) : List Nat -> List Nat
 | [] => []
 | i :: r => match zbu ice i with | true => i :: zu2 ice r | false => zu2 ice r
def St.int (s : St) (t : Nat) : Int := match za3 s.slots t with | some (.int _ n) => n | _ => 0
def St.str (s : St) (t : Nat) : List UInt8 := match za3 s.slots t with | some (.str l) => l | _ => []
def zom (s : St) (t : Nat) (f : Int -> Option Ann) : Option Ann := match za3 s.slots t with | some (.int _ n) => f n | _ => none
def Ann.st (a : Ann) (ks : List (Nat × AV)) (ko : List (Nat × Ob)) (ice : List Nat) (x : a.X) : St :=
 ⟨zcb (a.slots x) ks, zcb (a.objs x) ko, zcb (yxz a.keep) (zu2 ice a.hold), []⟩
def zdg : Code -> List Nat
 | .seq a b => zcb (zdg a) (zdg b)
 | .label l => [l]
 | _ => []
section
variable (T : TT) (L : zab) (S : zqc) (lo lb : Nat -> St -> Option Ann)
def noL : Nat -> Bool := fun _ => false
def zfr (a : Ann) (ks : List (Nat × AV)) (ko : List (Nat × Ob)) (ice : List Nat) (m : Option Nat) (s : St) : zc6 :=
 .ex a.X fun x => zz2 s (a.st ks ko ice x) a.hold (.must (a.inv x) (match m with
   | some m => .must (a.mu x < m) .yes
   | none => .yes))
abbrev K := Ex -> St -> zc6
def jump (again : Code -> St -> zc6) (body : Code) (base : St) (m : Option Nat) (k : K) : K := fun e s => match e with
 | .goto l => match findLabel body l with
   | some rest => match lb l base with
     | some a => match zn0 base.slots a.keep with
       | some ks => match zpi base.objs a.hold with
         | some ko => zfr a ks ko base.ice m s
         | none => .fail 210
       | none => .fail 211
     | none => again rest s
   | none => k (.goto l) s
 | e => k e s
def zfc (body : Code) (base : St) (pass : Code -> St -> Nat -> zc6) : List Nat -> zc6 -> zc6
 | [], t => t
 | l :: r, t => match lb l base with
   | some a => match findLabel body l with
     | some rest => match zn0 base.slots a.keep with
       | some ks => match zpi base.objs a.hold with
         | some ko => .and (.all a.X fun x => .sup (a.inv x) (pass rest (a.st ks ko base.ice x) (a.mu x))) (zfc body base pass r t)
         | none => .fail 210
       | none => .fail 211
     | none => zfc body base pass r t
   | none => zfc body base pass r t
def znb (pass : Code -> Code -> St -> K -> Option Nat -> St -> zc6) (body : Code) (s : St) (k : K) : zc6 :=
 zfc lb body s (fun rest s' m => pass body rest s' k (some m) s) (zdg body) (pass body body s k none s)
def yp4 : Option Ann -> Bool
 | some _ => true
 | none => false
def litJ : Operand -> St -> Option Ann
 | .tmp t, s => lo (2000000 + t) s
 | _, _ => none
def yty (an : Ann) (ks : List (Nat × AV)) (ko : List (Nat × Ob)) (ice : List Nat) (k : K) : K := fun e s' => match e with
 | .normal => zfr an ks ko ice none s'
 | e => k e s'
def run (sc : Code -> St -> K -> zc6) : (Nat -> Bool) -> Code -> St -> K -> zc6
 | _, .skip, s, k => k .normal s
 | _, .region _ ops d, s, k => zt3 T L S d ops.toList s (fun s => k .normal s)
 | A, .seq a b, s, k => run sc A a s (fun e s' => match e with
   | .normal => run sc (fun l => match findLabel a l with | some _ => false | none => A l) b s' k
   | e => k e s')
 | _, .cond c a b, s, k => match litOf s.kn c with
   | some v => match litJ lo c s with
     | none => match v with
       | true => run sc noL a s k
       | false => run sc noL b s k
     | some an => match zn0 s.slots an.keep with
       | some ks => match zpi s.objs an.hold with
         | some ko => .and (match v with
             | true => run sc noL a s (yty an ks ko s.ice k)
             | false => run sc noL b s (yty an ks ko s.ice k))
             (.all an.X fun y => .sup (an.inv y) (k .normal (an.st ks ko s.ice y)))
         | none => .fail 231
       | none => .fail 231
   | none => match c with
     | .tmp t => match za3 s.slots t with
       | some (.bool x) => match lo (1000000 + t) s with
         | none => .ite x (run sc noL a (s.know t true) k) (run sc noL b (s.know t false) k)
         | some an => match zn0 s.slots an.keep with
           | some ks => match zpi s.objs an.hold with
             | some ko => .and (.ite x (run sc noL a (s.know t true) (fun e s' => match e with | .normal => zfr an ks ko s.ice none s' | e => k e s'))
                   (run sc noL b (s.know t false) (fun e s' => match e with | .normal => zfr an ks ko s.ice none s' | e => k e s')))
                 (.all an.X fun y => .sup (an.inv y) (k .normal (an.st ks ko s.ice y)))
             | none => .fail 231
           | none => .fail 231
       | _ => .fail 230
     | _ => .fail 230
 | _, .block id (.loop body), s, k => match lo id s with
   | some a => match zn0 s.slots a.keep with
     | some ks => match zpi s.objs a.hold with
       | some ko => .and (zfr a ks ko s.ice none s)
           (.all a.X fun x => .sup (a.inv x) (run sc noL body (a.st ks ko s.ice x) (fun e s' => match e with
             | .normal => zfr a ks ko s.ice (some (a.mu x)) s'
             | .exit j => match zat j id with
               | true => k .normal s'
               | false => k (.exit j) s'
             | e => k e s')))
       | none => .fail 210
     | none => .fail 211
   | none => .fail 220
 | _, .block id b, s, k => run sc noL b s (fun e s' => match e with
   | .exit j => match zat j id with
     | true => k .normal s'
     | false => k (.exit j) s'
   | e => k e s')
 | _, .exit id, s, k => k (.exit id) s
 | _, .scope b, s, k => sc b s k
 | A, .label l, s, k => match A l with
   | true => k (.goto l) s
   | false => k .normal s
 | _, .goto l, s, k => k (.goto l) s
 | _, .ret, s, k => k .ret s
 | _, _, _, _ => .fail 240
def pass : Nat -> Code -> Code -> St -> K -> Option Nat -> St -> zc6
 | 0, _, _, _, _, _, _ => .fail 250
 | n + 1, body, rest, s, k, m, base => run T L S lo (znb lb (pass n)) (fun l => yp4 (lb l base)) rest s (jump lb (fun rest' s' => pass n body rest' s' k m base) body base m k)
def yvy (s : St) : ResultVar -> Option AV
 | .tmp t => some (evf (za3 s.slots) [] (.tmp t))
 | .cell a t => match ya0 T std t (za3 s.objs) [evf (za3 s.slots) [] (.tmp a)] with
   | .ok v _ _ => some v
   | _ => none
def ycp (s : St) : List ResultVar -> Option (List AV)
 | [] => some []
 | x :: xs => match yvy T s x with
   | some v => match ycp s xs with
     | some l => some (v :: l)
     | none => none
   | none => none
def ywa (rs : List ResultVar) (s : St) : zc6 :=
 match ycp T s rs with
 | some vs => match immVs L (za3 s.objs) vs with
   | some [v] => .done v
   | some vs => .done (.tup vs)
   | none => .fail 260
 | none => .fail 261
def finT (rs : List ResultVar) : K := fun e s => match e with
 | .normal => ywa T L rs s
 | .ret => ywa T L rs s
 | _ => .fail 262
def number {α : Type} : Nat -> List α -> List (Nat × α)
 | _, [] => []
 | i, x :: xs => (i, x) :: number (i + 1) xs
def yvw (n : Nat) (f : Func) (xs : List AV) : zc6 :=
 match f.body with
 | some c => run T L S lo (znb lb (pass T L S lo lb n)) noL c ⟨number 0 xs, [], [], []⟩ (finT T L f.results.toList)
 | none => .fail 270
end
end Sy
end Go.Proofs.YtogpolfhcbgcbaaGreatDoor
namespace Go.Proofs.YtogpolfhcbgcbaaGreatDoor
namespace Sy
open Go Go.RowKit
set_option linter.unusedSimpArgs false
set_option linter.unusedVariables false
abbrev Mu := Nat -> Option (Option (Nat × Nat × Nat))
abbrev zav : Mu := fun _ => none
def hcell (h : Array Obj) (b o : Nat) : Option Value := match h[b]? with
 | some (.cells c _ _) => c[o]?
 | _ => none
theorem zmj (w : World) (b o : Nat) : w.cell? ⟨b, o, none⟩ = hcell w.heap b o := by
 unfold World.cell? hcell
 cases h : w.heap[b]? with
 | none => rfl
 | some x => cases x <;> rfl
theorem zwx {h h' : Array Obj} {b : Nat} (e : h'[b]? = h[b]?) (o : Nat) : hcell h' b o = hcell h b o := by unfold hcell; rw [e]
theorem zbs {h : Array Obj} {b : Nat} {c : Array Value} {t : TypeId} {fr : Nat × Nat} (e : h[b]? = some (.cells c t fr)) (o : Nat) : hcell h b o = c[o]? := by unfold hcell; rw [e]
abbrev one (v : Value) : Prop := v.oneCell' = true
def zxo (kk : KK) (v : Value) (k : Ky) : Prop := match kk with
 | .i ik => ∃ n, v = .int ik n /\ k = .i n
 | .s => ∃ s : ByteArray, v = .string s /\ k = .s s.data.toList
 | .a ks => ∃ l : List Int, l.length = ks.length /\ v = .agg ((ks.zip l).map fun x => Value.int x.1 x.2).toArray /\ k = .a l
 | .no => False
structure zfh (kk : KK) (has : Ky -> Bool) (es : Array MapEntry) (clock : Nat) (kf : Nat -> Ky) : Prop where
 key : ∀ (i : Nat) e, es[i]? = some e -> zxo kk e.key (kf i) /\ has (kf i) = true
 all : ∀ k, has k = true -> ∃ i, i < es.size /\ kf i = k
 st : MapKept.Stamped es clock
inductive R (h : Array Obj) (D : Nat -> Prop) : Mu -> AV -> Value -> Prop
 | dead {μ : Mu} (v : Value) : R h D μ .dead v
 | bool {μ : Mu} (b : Bool) : R h D μ (.bool b) (.bool b)
 | int {μ : Mu} (k : IntKind) (n : Int) : R h D μ (.int k n) (.int k n)
 | str {μ : Mu} (l : List UInt8) (s : ByteArray) (e : s.data.toList = l) : R h D μ (.str l) (.string s)
 | flt {μ : Mu} (k : FloatKind) (b : Nat) : R h D μ (.flt k b) (.float k b)
 | cpx {μ : Mu} (k : FloatKind) (a b : Nat) : R h D μ (.cpx k a b) (.complex k a b)
 | nilp {μ : Mu} : R h D μ .nilp (.pointer none)
 | nilm {μ : Mu} : R h D μ .nilm (.map none)
 | nilf {μ : Mu} : R h D μ .nilf .nilFunc
 | nils {μ : Mu} : R h D μ .nils (.slice none 0 0)
 | nili {μ : Mu} : R h D μ .nili .nilIface
 | ifn {μ : Mu} : R h D μ (.ifb true) .nilIface
 | ifs {μ : Mu} (t : TypeId) (p : Value) : R h D μ (.ifb false) (.iface t p)
 | emp {μ : Mu} (a : Addr) (cap : Nat) : R h D μ .emp (.slice (some a) 0 cap)
 | emz {μ : Mu} (a : Addr) : R h D μ .emz (.slice (some a) 0 0)
 | lst0 {μ : Mu} (sz : Nat) (get : Nat -> Nat -> AV) (a : Option Addr) (cap : Nat) (hn : a = none -> cap = 0) : R h D μ (.lst sz 0 get) (.slice a 0 cap)
 | lst {μ : Mu} (sz n : Nat) (get : Nat -> Nat -> AV) (b o cap : Nat) (vs : Nat -> Nat -> Value) (hD : D b) (hc : n <= cap)
     (hv : ∀ i j, i < n -> j < sz -> hcell h b (o + i * sz + j) = some (vs i j)) (h1 : ∀ i j, i < n -> j < sz -> one (vs i j))
     (hr : ∀ i j, i < n -> j < sz -> R h D zav (get i j) (vs i j)) : R h D μ (.lst sz n get) (.slice (some ⟨b, o, none⟩) n cap)
 | lstx {μ : Mu} (sz n : Nat) (get : Nat -> Nat -> AV) (a : Option Addr) (r : R h D μ (.lst sz n get) (.slice a n n)) : R h D μ (.lstx sz n get) (.slice a n n)
 | iptr {μ : Mu} (n : Nat) (get : Nat -> AV) (b o : Nat) (vs : Nat -> Value) (hD : D b) (hv : ∀ j, j < n -> hcell h b (o + j) = some (vs j))
     (h1 : ∀ j, j < n -> one (vs j)) (hr : ∀ j, j < n -> R h D zav (get j) (vs j)) : R h D μ (.iptr n get) (.pointer (some ⟨b, o, none⟩))
 | ref {μ : Mu} (id off b z m : Nat) (hm : μ id = some (some (b, z, m))) : R h D μ (.ref id off) (.pointer (some ⟨b, off, none⟩))
 | eref {μ : Mu} (id sz i off b z m : Nat) (hm : μ id = some (some (b, z, m))) (hi : i < m) : R h D μ (.eref id sz i off) (.pointer (some ⟨b, i * sz + off, none⟩))
 | slv {μ : Mu} (id sz : Nat) (a : Option Addr) (hm : μ id = some none) : R h D μ (.sl id sz 0 0) (.slice a 0 0)
 | sl0 {μ : Mu} (id sz off b z m o : Nat) (hm : μ id = some (some (b, z, m))) (ho : off <= m) : R h D μ (.sl id sz off 0) (.slice (some ⟨b, o, none⟩) 0 0)
 | sl {μ : Mu} (id sz off n b z m cap : Nat) (hm : μ id = some (some (b, z, m))) (hn : n <= cap) (hz : (off + cap) * sz <= z) (ho : off + n <= m) : R h D μ (.sl id sz off n) (.slice (some ⟨b, off * sz, none⟩) n cap)
 | slcv {μ : Mu} (id sz : Nat) (a : Option Addr) (hm : μ id = some none) : R h D μ (.slc id sz 0 0 0) (.slice a 0 0)
 | slc0 {μ : Mu} (id sz off b z m o : Nat) (hm : μ id = some (some (b, z, m))) (ho : off <= m) : R h D μ (.slc id sz off 0 0) (.slice (some ⟨b, o, none⟩) 0 0)
 | slc {μ : Mu} (id sz off n cap b z m : Nat) (hm : μ id = some (some (b, z, m))) (hn : n <= cap) (hz : (off + cap) * sz <= z) (ho : off + cap <= m) : R h D μ (.slc id sz off n cap) (.slice (some ⟨b, off * sz, none⟩) n cap)
 | fn {μ : Mu} (f : FuncId) (xs ys : List AV) (vs us : Array Value) (e1 : xs.length = vs.size) (e2 : ys.length = us.size)
     (h1 : ∀ (i : Nat) x v, xs[i]? = some x -> vs[i]? = some v -> R h D μ x v) (h2 : ∀ (i : Nat) x v, ys[i]? = some x -> us[i]? = some v -> R h D μ x v) : R h D μ (.fn f xs ys) (.func (.func f) vs us)
 | agg {μ : Mu} (cs : List AV) (vs : Array Value) (e : cs.length = vs.size) (h1 : ∀ (i : Nat) v, vs[i]? = some v -> one v)
     (hr : ∀ (i : Nat) x v, cs[i]? = some x -> vs[i]? = some v -> R h D μ x v) : R h D μ (.agg cs) (.agg vs)
 | arr {μ : Mu} (n : Nat) (get : Nat -> AV) (vs : Array Value) (e : n = vs.size) (h1 : ∀ (i : Nat) v, vs[i]? = some v -> one v)
     (hr : ∀ (i : Nat) v, vs[i]? = some v -> R h D zav (get i) v) : R h D μ (.arr n get) (.agg vs)
 | tup {μ : Mu} (cs : List AV) (vs : Array Value) (e : cs.length = vs.size) (hr : ∀ (i : Nat) x v, cs[i]? = some x -> vs[i]? = some v -> R h D μ x v) : R h D μ (.tup cs) (.tuple vs)
 | bidx {μ : Mu} (id off n i b z m : Nat) (hm : μ id = some (some (b, z, m))) (hi : i < n) : R h D μ (.bidx id off n i) (.pointer (some ⟨b, off + i, none⟩))
 | mp {μ : Mu} (id b z m : Nat) (hm : μ id = some (some (b, z, m))) : R h D μ (.mp id) (.map (some b))
 | mpi {μ : Mu} (kk : KK) (n : Nat) (has : Ky -> Bool) (val : Ky -> AV) (b : Nat) (es : Array MapEntry) (clock : Nat) (kf : Nat -> Ky) (hD : D b)
     (hb : h[b]? = some (.map es clock)) (hn : es.size = n) (hk : zfh kk has es clock kf)
     (hr : ∀ (i : Nat) e, es[i]? = some e -> R h D zav (val (kf i)) e.val) : R h D μ (.mpi kk n has val) (.map (some b))
theorem R.mono' {h h' : Array Obj} {D D' : Nat -> Prop} (hb : ∀ b, D b -> h'[b]? = h[b]?) (hD : ∀ b, D b -> D' b) {μ : Mu} {x : AV} {v : Value}
   (r : R h D μ x v) : ∀ μ' : Mu, (∀ id x, μ id = some x -> μ' id = some x) -> R h' D' μ' x v := by
 induction r with
 | dead v => exact fun _ _ => .dead v
 | bool b => exact fun _ _ => .bool b
 | int k n => exact fun _ _ => .int k n
 | str l s e => exact fun _ _ => .str l s e
 | flt k b => exact fun _ _ => .flt k b
 | cpx k a b => exact fun _ _ => .cpx k a b
 | nilp => exact fun _ _ => .nilp
 | nilm => exact fun _ _ => .nilm
 | nilf => exact fun _ _ => .nilf
 | nils => exact fun _ _ => .nils
 | nili => exact fun _ _ => .nili
 | ifn => exact fun _ _ => .ifn
 | ifs t p => exact fun _ _ => .ifs t p
 | emp a cap => exact fun _ _ => .emp a cap
 | emz a => exact fun _ _ => .emz a
 | lst0 sz get a cap hn => exact fun _ _ => .lst0 sz get a cap hn
 | lst sz n get b o cap vs hD0 hc hv h1 hr ih => exact fun _ _ => .lst sz n get b o cap vs (hD b hD0) hc (fun i j hi hj => by rw [zwx (hb b hD0)]; exact hv i j hi hj) h1 (fun i j hi hj => ih i j hi hj zav (fun _ _ h => h))
 | lstx sz n get a r ih => exact fun μ' hm => .lstx sz n get a (ih μ' hm)
 | iptr n get b o vs hD0 hv h1 hr ih => exact fun _ _ => .iptr n get b o vs (hD b hD0) (fun j hj => by rw [zwx (hb b hD0)]; exact hv j hj) h1 (fun j hj => ih j hj zav (fun _ _ h => h))
 | ref id off b z m hm0 => exact fun _ hm => .ref id off b z m (hm _ _ hm0)
 | eref id sz i off b z m hm0 hi => exact fun _ hm => .eref id sz i off b z m (hm _ _ hm0) hi
 | slv id sz a hm0 => exact fun _ hm => .slv id sz a (hm _ _ hm0)
 | sl0 id sz off b z m o hm0 ho => exact fun _ hm => .sl0 id sz off b z m o (hm _ _ hm0) ho
 | sl id sz off n b z m cap hm0 hn hz ho => exact fun _ hm => .sl id sz off n b z m cap (hm _ _ hm0) hn hz ho
 | slcv id sz a hm0 => exact fun _ hm => .slcv id sz a (hm _ _ hm0)
 | slc0 id sz off b z m o hm0 ho => exact fun _ hm => .slc0 id sz off b z m o (hm _ _ hm0) ho
 | slc id sz off n cap b z m hm0 hn hz ho => exact fun _ hm => .slc id sz off n cap b z m (hm _ _ hm0) hn hz ho
 | fn f xs ys vs us e1 e2 h1 h2 ih1 ih2 => exact fun μ' hm => .fn f xs ys vs us e1 e2 (fun i x v h1 h2 => ih1 i x v h1 h2 μ' hm) (fun i x v h1 h2 => ih2 i x v h1 h2 μ' hm)
 | agg cs vs e h1 hr ih => exact fun μ' hm => .agg cs vs e h1 (fun i x v h1 h2 => ih i x v h1 h2 μ' hm)
 | arr n get vs e h1 hr ih => exact fun _ _ => .arr n get vs e h1 (fun i v hv => ih i v hv zav (fun _ _ h => h))
 | tup cs vs e hr ih => exact fun μ' hm => .tup cs vs e (fun i x v h1 h2 => ih i x v h1 h2 μ' hm)
 | bidx id off n i b z m hm0 hi => exact fun _ hm => .bidx id off n i b z m (hm _ _ hm0) hi
 | mp id b z m hm0 => exact fun _ hm => .mp id b z m (hm _ _ hm0)
 | mpi kk n has val b es clock kf hD0 hb0 hn hk hr ih => exact fun _ _ => .mpi kk n has val b es clock kf (hD b hD0) ((hb b hD0).trans hb0) hn hk (fun i e he => ih i e he zav (fun _ _ h => h))
theorem R.mono {h h' : Array Obj} {D D' : Nat -> Prop} {μ μ' : Mu} (hb : ∀ b, D b -> h'[b]? = h[b]?) (hD : ∀ b, D b -> D' b) (hm : ∀ id x, μ id = some x -> μ' id = some x) {x : AV} {v : Value}
   (r : R h D μ x v) : R h' D' μ' x v := r.mono' hb hD μ' hm
theorem ztq {h : Array Obj} {D : Nat -> Prop} {μ μ' : Mu} {sz n : Nat} {get : Nat -> Nat -> AV} {v : Value} (r : R h D μ (.lst sz n get) v) : R h D μ' (.lst sz n get) v := by
 cases r with
 | lst0 _ _ a cap hn => exact .lst0 _ _ a cap hn
 | lst _ _ _ b o cap vs hD hc hv h1 hr => exact .lst _ _ _ b o cap vs hD hc hv h1 hr
theorem R.lessx {h : Array Obj} {D : Nat -> Prop} {μ : Mu} {sz n : Nat} {get : Nat -> Nat -> AV} {v : Value} (r : R h D μ (.lstx sz n get) v) : R h D μ (.lst sz n get) v := by
 cases r with
 | lstx _ _ _ a r => exact r
theorem R.less {h : Array Obj} {D : Nat -> Prop} {μ : Mu} {id sz off n cap : Nat} {v : Value} (r : R h D μ (.slc id sz off n cap) v) : R h D μ (.sl id sz off n) v := by
 cases r with
 | slcv _ _ a hm => exact .slv _ _ a hm
 | slc0 _ _ _ b z m o hm ho => exact .sl0 _ _ _ b z m o hm ho
 | slc _ _ _ _ _ b z m hm hn hz ho => exact .sl _ _ _ _ b z m cap hm hn hz (by omega)
theorem R.free {h : Array Obj} {D : Nat -> Prop} {μ : Mu} {x : AV} {v : Value} (r : R h D zav x v) : R h D μ x v := r.mono (fun _ _ => rfl) (fun _ h => h) (fun _ _ h => by cases h)
def RL (h : Array Obj) (D : Nat -> Prop) (μ : Mu) (xs : List AV) (vs : Array Value) : Prop := xs.length = vs.size /\ ∀ (i : Nat) x v, xs[i]? = some x -> vs[i]? = some v -> R h D μ x v
def ones (vs : Array Value) : Prop := ∀ (i : Nat) v, vs[i]? = some v -> one v
def ym2 (n : Nat) (fr : Nat × Nat) : Prop := ∀ o, o < n -> ¬ (fr.1 <= o /\ o < fr.2)
def zj8 (h : Array Obj) (D : Nat -> Prop) (μ : Mu) : Ob -> Option (Nat × Nat × Nat) -> Prop
 | .box ty cs, some (b, z, _) => ∃ c t fr, h[b]? = some (.cells c t fr) /\ c.size = z /\ (ym2 z fr /\ t = ty) /\ ones c /\ RL h D μ cs c
 | .row ty sz n get, some (b, z, m) => n = m /\ ∃ c t fr, h[b]? = some (.cells c t fr) /\ c.size = z /\ (ym2 z fr /\ t = ty /\ ones c /\ (1 < sz -> ym2 (z + 1) fr)) /\ n * sz <= z /\
     ∀ i j, i < n -> j < sz -> ∃ v, c[i * sz + j]? = some v /\ one v /\ R h D zav (get i j) v
 | .spr ty cs, some (b, z, _) => ∃ c t fr, h[b]? = some (.cells c t fr) /\ c.size = z /\ (ym2 z fr /\ t = ty) /\ cs.length <= z /\
     ∀ (i : Nat) x, cs[i]? = some x -> ∃ v, c[i]? = some v /\ one v /\ R h D μ x v
 | .map kk n has val, some (b, _) => ∃ es clock kf, h[b]? = some (.map es clock) /\ es.size = n /\ zfh kk has es clock kf /\ ∀ (i : Nat) e, es[i]? = some e -> R h D zav (val (kf i)) e.val
 | .mapl kk l, some (b, _) => ∃ es clock kf, h[b]? = some (.map es clock) /\ es.size = l.length /\ zfh kk (fun k => (zba l k).isSome) es clock kf /\ (l.map Prod.fst).Nodup /\ ∀ (i : Nat) e, es[i]? = some e -> ∃ x, zba l (kf i) = some x /\ R h D μ x e.val
 | .mapl _ _, none => False
 | .mapq e, some (b, _) => ∃ es clock, h[b]? = some (.map es clock) /\ (e = true -> es = #[])
 | .mapq _, none => False
 | .map _ _ _ _, none => False
 | .row _ _ n _, none => n = 0
 | .spr _ cs, none => cs = []
 | .gone, _ => True
 | .box _ _, none => False
structure Two where
 wr : Nat -> Prop
 imm : Nat -> Prop
 pin : Nat -> Option (Nat × Nat × Nat)
def GIn (base : Nat) (M : Two) (W : World) : Prop := GOk W /\ gN <= base /\ ∀ b, M.wr b -> gN <= b
structure Sim (base : Nat) (M : Two) (W : World) (nt : Nat) (f : Nat -> Option AV) (g : Nat -> Option Ob) (c : Nat -> Bool) (a : Act) (w : World) (D : Nat -> Prop) (μ : Mu) : Prop where
 os : w.os = W.os
 tape : w.tape = W.tape
 output : w.output = W.output
 size : W.heap.size <= w.heap.size
 bs : base <= w.heap.size
 old : ∀ b, b < base -> ¬ M.wr b -> w.heap[b]? = W.heap[b]?
 defers : a.defers = []
 tmps : a.tmps.size = nt
 slots : ∀ t v, f t = some v -> R w.heap D μ v (a.tmps.getD t undef)
 dlt : ∀ b, D b -> b < w.heap.size
 low : ∀ b, D b -> b < base -> M.imm b \/ M.wr b
 dom : ∀ id, μ id = none ↔ g id = none
 obs : ∀ id o x, g id = some o -> μ id = some x -> zj8 w.heap D μ o x
 inj : ∀ id id' b z z' o o', μ id = some (some (b, z)) -> μ id' = some (some (b, z')) -> g id = some o -> g id' = some o' -> o ≠ .gone -> o' ≠ .gone -> id = id'
 own : ∀ id b z, μ id = some (some (b, z)) -> b < w.heap.size /\ (base <= b \/ M.wr b)
 kd : ∀ id b z o, μ id = some (some (b, z)) -> g id = some o -> o ≠ .gone -> (c id = true -> D b) /\ (c id = false -> ¬ D b)
 icy : ∀ id, c id = true -> g id ≠ none
 ntb : nt <= 500000
 pin : ∀ id y, zfu id = true -> μ id = some y -> y = M.pin id
 gl : GIn base M W
def zn3 (f : Nat -> Option AV) (dst : Option Nat) (v : AV) : Nat -> Option AV := match dst with
 | some d => fun t => if t = d then some v else f t
 | none => f
def zb5 (g : Nat -> Option Ob) (os : List (Nat × Ob)) : Nat -> Option Ob := fun id => match za3 os id with
 | some o => some o
 | none => g id
def zkv (c : Nat -> Bool) (ice : List Nat) : Nat -> Bool := fun id => zbu ice id || c id
theorem zan {a b : Nat} (h : a ≠ b) : zat a b = false := by simp [zat, h]
theorem za6 (a : Nat) : zat a a = true := by simp [zat]
theorem za4 {a b : Nat} (h : zat a b = true) : a = b := of_decide_eq_true h
theorem zcn {a b : Nat} : (zbk a b = true) = (a < b) := by simp [zbk]
theorem zed {a b : Nat} : (zbx a b = true) = (a <= b) := by simp [zbx]
theorem zes (c : Nat -> Bool) : zkv c [] = c := by funext id; rfl
section
variable {base : Nat} {M : Two} {W : World} {nt : Nat} {f : Nat -> Option AV} {g : Nat -> Option Ob} {c : Nat -> Bool} {a : Act} {w : World} {D : Nat -> Prop} {μ : Mu}
theorem Sim.gok (h : Sim base M W nt f g c a w D μ) : GOk w := ylh h.gl.1 h.size fun b hb => h.old b (Nat.lt_of_lt_of_le hb h.gl.2.1) fun hw => absurd hb (Nat.not_lt_of_le (h.gl.2.2 b hw))
theorem Sim.gown (h : Sim base M W nt f g c a w D μ) {id b : Nat} {z : Nat × Nat} (hm : μ id = some (some (b, z))) : gN <= b := by
 rcases (h.own id b z hm).2 with h1 | h1
 · exact Nat.le_trans h.gl.2.1 h1
 · exact h.gl.2.2 b h1
theorem yk9 (a : Act) (d : Tmp) (v : Value) (t : Tmp) (hd : d < a.tmps.size) : (a.put (some d) v).tmps.getD t undef = if t = d then v else a.tmps.getD t undef := by
 simp only [Act.put, Array.getD_eq_getD_getElem?, Array.getElem?_setIfInBounds]
 by_cases h : d = t
 · subst h; simp [hd]
 · rw [if_neg h, if_neg (fun e => h e.symm)]
theorem Sim.put (h : Sim base M W nt f g c a w D μ) {dst : Option Nat} (hd : ∀ d, dst = some d -> d < nt) {v : AV} {u : Value} (r : R w.heap D μ v u) :
   Sim base M W nt (zn3 f dst v) g c (a.put dst u) w D μ := by
 cases dst with
 | none => exact h
 | some d =>
   refine { h with defers := h.defers, tmps := by simpa [Act.put] using h.tmps, slots := fun t x hx => ?_ }
   have hlt : d < a.tmps.size := by rw [h.tmps]; exact hd d rfl
   rw [yk9 _ _ _ _ hlt]
   simp only [zn3] at hx
   split at hx
   · rename_i e; subst e; rw [if_pos rfl]; cases hx; exact r
   · rename_i e; rw [if_neg e]; exact h.slots t x hx
theorem zj8.mono {h h' : Array Obj} {D D' : Nat -> Prop} {μ μ' : Mu} (hb : ∀ b, D b -> h'[b]? = h[b]?) (hD : ∀ b, D b -> D' b) (hm : ∀ id x, μ id = some x -> μ' id = some x) {o : Ob} {x : Option (Nat × Nat × Nat)}
   (hx : ∀ b z, x = some (b, z) -> o ≠ .gone -> h'[b]? = h[b]?) (r : zj8 h D μ o x) : zj8 h' D' μ' o x := by
 match o, x, r with
 | .box ty cs, some (b, z, m), ⟨c, t, fr, e, r1, r2, r3, r4, r5⟩ => exact ⟨c, t, fr, (hx b _ rfl (by simp)).trans e, r1, r2, r3, r4, fun i x v h1 h2 => (r5 i x v h1 h2).mono hb hD hm⟩
 | .row ty sz n get, some (b, z, m), ⟨r0, c, t, fr, e, r1, r2, r3, r4⟩ => exact ⟨r0, c, t, fr, (hx b _ rfl (by simp)).trans e, r1, r2, r3, fun i j hi hj => by
     obtain ⟨v, h1, h2, h3⟩ := r4 i j hi hj
     exact ⟨v, h1, h2, h3.mono hb hD (fun _ _ h => by cases h)⟩⟩
 | .spr ty cs, some (b, z, m), ⟨c, t, fr, e, r1, r2, r3, r4⟩ => exact ⟨c, t, fr, (hx b _ rfl (by simp)).trans e, r1, r2, r3, fun i x hi => by
     obtain ⟨v, h1, h2, h3⟩ := r4 i x hi
     exact ⟨v, h1, h2, h3.mono hb hD hm⟩⟩
 | .map kk n has val, some (b, z), ⟨es, clock, kf, e, r1, r2, r3⟩ => exact ⟨es, clock, kf, (hx b _ rfl (by simp)).trans e, r1, r2, fun i x hi => (r3 i x hi).mono hb hD (fun _ _ h => by cases h)⟩
 | .mapq q, some (b, z), ⟨es, clock, e, r1⟩ => exact ⟨es, clock, (hx b _ rfl (by simp)).trans e, r1⟩
 | .mapl kk l, some (b, z), ⟨es, clock, kf, e, r1, r2, r3, r4⟩ => exact ⟨es, clock, kf, (hx b _ rfl (by simp)).trans e, r1, r2, r3, fun i x hi => by
     obtain ⟨y, h1, h2⟩ := r4 i x hi
     exact ⟨y, h1, h2.mono hb hD hm⟩⟩
 | .row _ _ n _, none, r => exact r
 | .spr _ _, none, r => exact r
 | .gone, _, _ => exact trivial
theorem Sim.world (h : Sim base M W nt f g c a w D μ) {w' : World} (hos : w'.os = w.os) (htape : w'.tape = w.tape) (hout : w'.output = w.output) (hsz : w.heap.size <= w'.heap.size)
   (hb : ∀ b, b < w.heap.size -> w'.heap[b]? = w.heap[b]?) {D' : Nat -> Prop} (hD : ∀ b, D b -> D' b) (hD' : ∀ b, D' b -> D b \/ (w.heap.size <= b /\ b < w'.heap.size)) :
   Sim base M W nt f g c a w' D' μ where
 os := hos.trans h.os
 tape := htape.trans h.tape
 output := hout.trans h.output
 size := Nat.le_trans h.size hsz
 bs := Nat.le_trans h.bs hsz
 old := fun b h1 h2 => (hb b (by have := h.bs; omega)).trans (h.old b h1 h2)
 defers := h.defers
 tmps := h.tmps
 slots := fun t v hv => (h.slots t v hv).mono (fun b hb' => hb b (h.dlt b hb')) hD (fun _ _ h => h)
 dlt := fun b hb' => by
   rcases hD' b hb' with h1 | h1
   · exact Nat.lt_of_lt_of_le (h.dlt b h1) hsz
   · exact h1.2
 low := fun b hb' hlt => by
   rcases hD' b hb' with h1 | h1
   · exact h.low b h1 hlt
   · have := h.bs; omega
 dom := h.dom
 obs := fun id o x h1 h2 => (h.obs id o x h1 h2).mono (fun b hb' => hb b (h.dlt b hb')) hD (fun _ _ h => h) (fun b z e hne => hb b (h.own id b z (by rw [h2, e])).1)
 inj := h.inj
 own := fun id b z hm => ⟨Nat.lt_of_lt_of_le (h.own id b z hm).1 hsz, (h.own id b z hm).2⟩
 icy := h.icy
 ntb := h.ntb
 pin := h.pin
 gl := h.gl
 kd := fun id b z o hm ho hne => ⟨fun hc => hD b ((h.kd id b z o hm ho hne).1 hc), fun hc hd => by
   rcases hD' b hd with h1 | h1
   · exact (h.kd id b z o hm ho hne).2 hc h1
   · have := (h.own id b z hm).1; omega⟩
theorem Sim.drew (h : Sim base M W nt f g c a w D μ) : Sim base M W nt f g c a w.drew D μ :=
 h.world (w' := w.drew) rfl rfl rfl (Nat.le_refl _) (fun _ _ => rfl) (fun _ h => h) (fun _ h => .inl h)
theorem yj1 {d nt : Nat} (h : d < nt) (hn : nt <= 500000) : zfu d = false := by
 unfold zfu
 split
 · rename_i h2; have := of_decide_eq_true h2; omega
 · rfl
theorem Sim.newO (h : Sim base M W nt f g c a w D μ) {d : Nat} (hlt : d < nt) (hd : g d = none) (o : Ob) (X : Obj) (z m : Nat) (hne : o ≠ .gone)
   (hok : zj8 (w.alloc X).heap D μ o (some (w.heap.size, z, m))) :
   Sim base M W nt f (zb5 g [(d, o)]) c a (w.alloc X) D (fun id => if id = d then some (some (w.heap.size, z, m)) else μ id) := by
 have hmd : μ d = none := (h.dom d).2 hd
 have hc : c d = false := by
   cases e : c d with
   | false => rfl
   | true => exact absurd hd (h.icy d e)
 have hmm : ∀ id x, μ id = some x -> (if id = d then some (some (w.heap.size, z, m)) else μ id) = some x := by
   intro id x hx
   have : id ≠ d := by rintro rfl; rw [hmd] at hx; cases hx
   rw [if_neg this, hx]
 have hg : ∀ id, zb5 g [(d, o)] id = if id = d then some o else g id := by
   intro id
   by_cases e : id = d
   · subst e; simp [zb5, za3, za6]
   · have : zat d id = false := zan fun h => e h.symm
     simp [zb5, za3, this, e]
 have h' := h.world (w' := w.alloc X) rfl rfl rfl (by simp) (fun b hb => Below.heap_alloc _ _ _ hb) (D' := D) (fun _ h => h) (fun _ h => .inl h)
 refine { h' with slots := fun t v hv => (h'.slots t v hv).mono (fun _ _ => rfl) (fun _ h => h) hmm, dom := fun id => ?_, obs := fun id o' x h1 h2 => ?_, inj := ?_, own := ?_, kd := ?_, icy := ?_, pin := fun id y hp hy => ?_ }
 rotate_right
 · by_cases e : id = d
   · rw [e, yj1 hlt h.ntb] at hp; cases hp
   · rw [if_neg e] at hy; exact h.pin id y hp hy
 · rw [hg]
   by_cases e : id = d
   · simp [e]
   · simp only [if_neg e]; exact h.dom id
 · rw [hg] at h1
   by_cases e : id = d
   · rw [if_pos e] at h1 h2; cases h1; cases h2
     exact hok.mono (fun _ _ => rfl) (fun _ h => h) hmm (fun _ _ _ _ => rfl)
   · rw [if_neg e] at h1 h2
     exact (h'.obs id o' x h1 h2).mono (fun _ _ => rfl) (fun _ h => h) hmm (fun _ _ _ _ => rfl)
 · intro id id' b z z' o1 o2 h1 h2 h3 h4 h5 h6
   rw [hg] at h3 h4
   by_cases e : id = d <;> by_cases e' : id' = d
   · rw [e, e']
   · rw [if_pos e] at h1; rw [if_neg e'] at h2
     cases h1
     have := (h.own id' _ _ h2).1
     omega
   · rw [if_neg e] at h1; rw [if_pos e'] at h2
     cases h2
     have := (h.own id _ _ h1).1
     omega
   · rw [if_neg e] at h1 h3; rw [if_neg e'] at h2 h4
     exact h.inj id id' b z z' o1 o2 h1 h2 h3 h4 h5 h6
 · intro id b z h1
   by_cases e : id = d
   · rw [if_pos e] at h1; cases h1
     exact ⟨by simp, .inl h.bs⟩
   · rw [if_neg e] at h1; exact h'.own id b z h1
 · intro id b z o' h1 h2 h3
   rw [hg] at h2
   by_cases e : id = d
   · rw [if_pos e] at h1; cases h1
     subst e
     refine ⟨fun hx => (by rw [hc] at hx; cases hx), fun _ hD => ?_⟩
     have := h.dlt _ hD
     omega
   · rw [if_neg e] at h1 h2; exact h'.kd id b z o' h1 h2 h3
 · intro id h1
   rw [hg]
   by_cases e : id = d
   · rw [if_pos e]; simp
   · rw [if_neg e]; exact h.icy id h1
theorem Sim.new (h : Sim base M W nt f g c a w D μ) {d : Nat} {fr : Nat × Nat} (hlt : d < nt) (hd : g d = none) (o : Ob) (cs : Array Value) (t : TypeId) (m : Nat) (hne : o ≠ .gone)
   (hok : zj8 (w.alloc (.cells cs t fr)).heap D μ o (some (w.heap.size, cs.size, m))) :
   Sim base M W nt f (zb5 g [(d, o)]) c a (w.alloc (.cells cs t fr)) D (fun id => if id = d then some (some (w.heap.size, cs.size, m)) else μ id) :=
 h.newO hlt hd o (.cells cs t fr) cs.size m hne hok
theorem zc9 : ∀ {l : List Nat} {n : Nat}, zbu l n = true ↔ n ∈ l
 | [], n => by simp [zbu]
 | x :: xs, n => by
   unfold zbu
   cases e : zat x n with
   | true => simp [za4 e]
   | false =>
     have : x ≠ n := by rintro rfl; rw [za6] at e; cases e
     simp [zc9 (l := xs)]
     exact fun h => absurd h.symm this
theorem Sim.freeze (h : Sim base M W nt f g c a w D μ) (ids : List Nat) (hids : ∀ id, id ∈ ids -> ∃ o, g id = some o /\ o ≠ .gone) :
   Sim base M W nt f g (zkv c ids) a w (fun b => D b \/ ∃ id z m, id ∈ ids /\ μ id = some (some (b, z, m))) μ := by
 have hD : ∀ b, D b -> (D b \/ ∃ id z m, id ∈ ids /\ μ id = some (some (b, z, m))) := fun b h => .inl h
 refine { h with slots := fun t v hv => (h.slots t v hv).mono (fun _ _ => rfl) hD (fun _ _ h => h), dlt := ?_, low := ?_, obs := fun id o x h1 h2 => (h.obs id o x h1 h2).mono (fun _ _ => rfl) hD (fun _ _ h => h) (fun _ _ _ _ => rfl), kd := ?_, icy := ?_ }
 · rintro b (hb | ⟨id, z, m, _, hm⟩)
   · exact h.dlt b hb
   · exact (h.own id b _ hm).1
 · rintro b (hb | ⟨id, z, m, _, hm⟩) hlt
   · exact h.low b hb hlt
   · rcases (h.own id b _ hm).2 with h1 | h1
     · omega
     · exact .inr h1
 · intro id b z o h1 h2 h3
   refine ⟨fun hc => ?_, fun hc => ?_⟩
   · simp only [zkv, Bool.or_eq_true] at hc
     rcases hc with hc | hc
     · exact .inr ⟨id, z.1, z.2, zc9.1 hc, h1⟩
     · exact .inl ((h.kd id b z o h1 h2 h3).1 hc)
   · simp only [zkv, Bool.or_eq_false_iff] at hc
     rintro (hb | ⟨id', z', m', hi, hm⟩)
     · exact (h.kd id b z o h1 h2 h3).2 hc.2 hb
     · obtain ⟨o', ho', hne'⟩ := hids id' hi
       have := h.inj id id' b z (z', m') o o' h1 hm h2 ho' h3 hne'
       subst this
       have := zc9.2 hi
       rw [hc.1] at this
       cases this
 · intro id hc
   simp only [zkv, Bool.or_eq_true] at hc
   rcases hc with hc | hc
   · obtain ⟨o, ho, _⟩ := hids id (zc9.1 hc)
     rw [ho]; simp
   · exact h.icy id hc
end
end Sy
end Go.Proofs.YtogpolfhcbgcbaaGreatDoor
namespace Go.Proofs.YtogpolfhcbgcbaaGreatDoor
namespace Sy
open Go Go.RowKit
set_option linter.unusedSimpArgs false
set_option linter.unusedVariables false
def yxm : AV -> Value -> Bool
 | .dead, _ => true
 | .bool a, .bool b => a == b
 | .int k a, .int k' b => k == k' && a == b
 | .str l, .string s => s.data.toList == l
 | .flt k b, .float k' b' => decide (k = k') && b == b'
 | .cpx k a b, .complex k' a' b' => decide (k = k') && (a == a' && b == b')
 | .nilp, .pointer none => true
 | .nilm, .map none => true
 | .nilf, .nilFunc => true
 | .nils, .slice none n c => n == 0 && c == 0
 | .nili, .nilIface => true
 | _, _ => false
theorem ytu {h : Array Obj} {D : Nat -> Prop} {μ : Mu} {x : AV} {v : Value} (e : yxm x v = true) : R h D μ x v := by
 unfold yxm at e
 split at e
 · exact .dead _
 · simp at e; subst e; exact .bool _
 · simp at e; obtain ⟨rfl, rfl⟩ := e; exact .int _ _
 · simp at e; exact .str _ _ e
 · simp at e; obtain ⟨rfl, rfl⟩ := e; exact .flt _ _
 · simp at e; obtain ⟨rfl, rfl, rfl⟩ := e; exact .cpx _ _ _
 · exact .nilp
 · exact .nilm
 · exact .nilf
 · simp at e; obtain ⟨rfl, rfl⟩ := e; exact .nils
 · exact .nili
 · cases e
def yjh : List AV -> List Value -> Bool
 | [], [] => true
 | x :: xs, v :: vs => yxm x v && yjh xs vs
 | _, _ => false
theorem ye2 {h : Array Obj} {D : Nat -> Prop} {μ : Mu} : ∀ {xs : List AV} {vs : List Value}, yjh xs vs = true -> xs.length = vs.length /\ ∀ (i : Nat) x v, xs[i]? = some x -> vs[i]? = some v -> R h D μ x v
 | [], [], _ => ⟨rfl, fun i x v h => by simp at h⟩
 | x :: xs, v :: vs, e => by
   simp only [yjh, Bool.and_eq_true] at e
   obtain ⟨h1, h2⟩ := ye2 e.2
   refine ⟨by simp [h1], fun i y u hy hu => ?_⟩
   cases i with
   | zero => simp at hy hu; subst hy; subst hu; exact ytu e.1
   | succ i => exact h2 i y u (by simpa using hy) (by simpa using hu)
def kOk (P : Program) (t : Nat) : TK -> Prop
 | .int k => P.underlying t = some (.int k)
 | .bool => P.underlying t = some .bool
 | .str => P.underlying t = some .string
 | .flt k => P.underlying t = some (.float k)
 | .ptr => ∃ e, P.underlying t = some (.pointer e)
 | .func => ∃ p r v, P.underlying t = some (.func p r v)
 | .map kt et => P.underlying t = some (.map kt et)
 | .other => True
 | .iface => ∃ ms, P.underlying t = some (.interface ms)
 | .slice e esz eb => P.underlying t = some (.slice e) /\ (P.info? e).map (fun i => (i.size, i.bytes)) = some (esz, eb)
 | .arr n e esz => P.underlying t = some (.array n e) /\ (P.info? e).map (·.size) = some esz
 | .struct fs => ∃ F : Array Field, P.underlying t = some (.struct F) /\ F.toList.map (fun f => (f.offset, f.type)) = fs
def EqOk (P : Program) (t : Nat) : Prop := P.eqGuardType P.depth t = false /\ ((∃ F : Array Field, P.underlying t = some (.struct F) /\ (∀ f, f ∈ F.toList -> f.name ≠ "_") /\ P.stoodInHeld t = false) \/ ∃ n e, P.underlying t = some (.array n e))
structure TOk (P : Program) (t : Nat) (ti : TI) : Prop where
 info : ∃ i z, P.info? t = some i /\ i.size = ti.sz /\ i.zero = some z /\ ones z.cells /\ z.cells.size = ti.sz /\ (∀ h D μ, RL h D μ ti.zero z.cells)
 zag : ∀ i z, P.info? t = some i -> i.zero = some z -> ti.isAgg = (match z with | .agg _ => true | _ => false)
 agg : ti.isAgg = (match P.underlying t with | some (.struct _) => true | some (.array _ _) => true | _ => false)
 und : ∃ d, P.underlying t = some d
 single : ti.isAgg = false -> ti.sz = 1
 k : kOk P t ti.k
 eqf : ti.eq = true -> EqOk P t
 ptf : ∀ e, ti.pt = some e -> P.underlying t = some (.pointer e)
 upf : ti.up = true -> P.underlying t = some .unsafePointer
 lief : ti.lies = true -> liesAt P P.depth t 1 0 t 1 = true
def eqB (P : Program) (t : Nat) : Bool := match P.underlying t with
 | some (.struct F) => (F.toList.all fun f => !(f.name == "_")) && !P.stoodInHeld t && !P.eqGuardType P.depth t
 | some (.array _ _) => !P.eqGuardType P.depth t
 | _ => false
theorem yv0 {P : Program} {t : Nat} (h : eqB P t = true) : EqOk P t := by
 unfold eqB at h
 split at h
 · rename_i F hF
   simp only [Bool.and_eq_true, Bool.not_eq_true', List.all_eq_true] at h
   exact ⟨h.2, .inl ⟨F, hF, fun f hf hn => by have := h.1.1 f hf; simp [hn] at this, h.1.2⟩⟩
 · rename_i n e hF
   exact ⟨by simpa using h, .inr ⟨n, e, hF⟩⟩
 · cases h
def kB (P : Program) (t : Nat) (k : TK) : Bool :=
 match k, P.underlying t with
 | .int k, some (.int k') => k == k'
 | .bool, some .bool => true
 | .str, some .string => true
 | .flt k, some (.float k') => decide (k = k')
 | .ptr, some (.pointer _) => true
 | .func, some (.func _ _ _) => true
 | .map kt et, some (.map kt' et') => kt == kt' && et == et'
 | .other, _ => true
 | .iface, some (.interface _) => true
 | .slice e esz eb, some (.slice e') => e == e' && (match P.info? e with | some i => i.size == esz && i.bytes == eb | none => false)
 | .arr n e esz, some (.array n' e') => n == n' && e == e' && (match P.info? e with | some i => i.size == esz | none => false)
 | .struct fs, some (.struct F) => F.toList.map (fun f => (f.offset, f.type)) == fs
 | _, _ => false
def tB (P : Program) (t : Nat) (ti : TI) : Bool :=
 (match P.info? t with
   | some i => (match i.zero with
     | some z => i.size == ti.sz && z.cells.size == ti.sz && z.cells.toList.all Value.oneCell' && yjh ti.zero z.cells.toList && ti.isAgg == (match z with | .agg _ => true | _ => false)
     | none => false)
   | none => false) &&
 (match P.underlying t with
   | some d => ti.isAgg == (match d with | .struct _ => true | .array _ _ => true | _ => false)
   | none => false) && (ti.isAgg || ti.sz == 1) && kB P t ti.k && (!ti.eq || eqB P t) &&
 ((match ti.pt with | some e => (match P.underlying t with | some (.pointer e') => e == e' | _ => false) | none => true) && (!ti.up || (match P.underlying t with | some .unsafePointer => true | _ => false)) && (!ti.lies || liesAt P P.depth t 1 0 t 1))
theorem szB {P : Program} {e esz eb : Nat} (h : (match P.info? e with | some i => i.size == esz && i.bytes == eb | none => false) = true) : (P.info? e).map (fun i => (i.size, i.bytes)) = some (esz, eb) := by
 split at h
 · rename_i i hi; simp only [Bool.and_eq_true, beq_iff_eq] at h; rw [hi]; simp [h.1, h.2]
 · cases h
theorem szB1 {P : Program} {e esz : Nat} (h : (match P.info? e with | some i => i.size == esz | none => false) = true) : (P.info? e).map (·.size) = some esz := by
 split at h
 · rename_i i hi; simp only [beq_iff_eq] at h; rw [hi]; simp [h]
 · cases h
theorem yxo {P : Program} {t : Nat} {k : TK} (h : kB P t k = true) : kOk P t k := by
 unfold kB at h
 cases k with
 | map kt et => cases hu : P.underlying t with
   | none => rw [hu] at h; cases h
   | some d => rw [hu] at h; cases d <;> first | (cases h; done) | (simp only [Bool.and_eq_true, beq_iff_eq] at h; obtain ⟨rfl, rfl⟩ := h; exact hu)
 | other => trivial
 | iface => cases hu : P.underlying t with
   | none => rw [hu] at h; cases h
   | some d => rw [hu] at h; cases d <;> first | (cases h; done) | exact ⟨_, hu⟩
 | int k => cases hu : P.underlying t with
   | none => rw [hu] at h; cases h
   | some d => rw [hu] at h; cases d <;> first | (cases h; done) | (simp only [beq_iff_eq] at h; subst h; exact hu)
 | bool => cases hu : P.underlying t with
   | none => rw [hu] at h; cases h
   | some d => rw [hu] at h; cases d <;> first | (cases h; done) | exact hu
 | flt k => cases hu : P.underlying t with
   | none => rw [hu] at h; cases h
   | some d => rw [hu] at h; cases d <;> first | (cases h; done) | (simp only [decide_eq_true_eq] at h; subst h; exact hu)
 | str => cases hu : P.underlying t with
   | none => rw [hu] at h; cases h
   | some d => rw [hu] at h; cases d <;> first | (cases h; done) | exact hu
 | ptr => cases hu : P.underlying t with
   | none => rw [hu] at h; cases h
   | some d => rw [hu] at h; cases d <;> first | (cases h; done) | exact ⟨_, hu⟩
 | func => cases hu : P.underlying t with
   | none => rw [hu] at h; cases h
   | some d => rw [hu] at h; cases d <;> first | (cases h; done) | exact ⟨_, _, _, hu⟩
 | slice e esz eb => cases hu : P.underlying t with
   | none => rw [hu] at h; cases h
   | some d =>
     rw [hu] at h
     cases d <;> first | (cases h; done) | skip
     simp only [Bool.and_eq_true, beq_iff_eq] at h
     obtain ⟨rfl, h2⟩ := h
     exact ⟨hu, szB h2⟩
 | arr n e esz => cases hu : P.underlying t with
   | none => rw [hu] at h; cases h
   | some d =>
     rw [hu] at h
     cases d <;> first | (cases h; done) | skip
     simp only [Bool.and_eq_true, beq_iff_eq] at h
     obtain ⟨⟨rfl, rfl⟩, h2⟩ := h
     exact ⟨hu, szB1 h2⟩
 | struct fs => cases hu : P.underlying t with
   | none => rw [hu] at h; cases h
   | some d =>
     rw [hu] at h
     cases d <;> first | (cases h; done) | skip
     simp only [beq_iff_eq] at h
     exact ⟨_, hu, h⟩
theorem ywn {P : Program} {t : Nat} {ti : TI} (h : tB P t ti = true) : TOk P t ti := by
 unfold tB at h
 simp only [Bool.and_eq_true] at h
 obtain ⟨⟨⟨⟨⟨h1, h2⟩, h4⟩, h3⟩, h5⟩, ⟨h6, h7⟩, h8⟩ := h
 refine ⟨?_, ?_, ?_, ?_, fun e => by simpa [e] using h4, yxo h3, fun e => yv0 (by simpa [e] using h5), fun e he => ?_, fun e => ?_, fun e => by simpa [e] using h8⟩
 rotate_left 4
 · rw [he] at h6
   simp only at h6
   split at h6
   · rename_i e' hu; simp only [beq_iff_eq] at h6; rw [hu, h6]
   · cases h6
 · rw [e] at h7
   simp only [Bool.not_true, Bool.false_or] at h7
   split at h7
   · rename_i hu; exact hu
   · cases h7
 · split at h1
   · rename_i i hi
     split at h1
     · rename_i z hz
       simp only [Bool.and_eq_true, beq_iff_eq] at h1
       obtain ⟨⟨⟨⟨a, b⟩, c⟩, d⟩, -⟩ := h1
       refine ⟨i, z, hi, a, hz, fun j v hv => ?_, b, fun h D μ => ?_⟩
       · rw [List.all_eq_true] at c
         exact c v (List.mem_of_getElem? (i := j) (by simpa using hv))
       · have := ye2 (h := h) (D := D) (μ := μ) d
         exact ⟨by simpa using this.1, fun i x v hx hv => this.2 i x v hx (by simpa using hv)⟩
     · cases h1
   · cases h1
 · intro i z hi hz
   rw [hi] at h1
   simp only [hz, Bool.and_eq_true, beq_iff_eq] at h1
   exact h1.2
 · split at h2
   · rename_i d hd
     rw [hd]
     simp only [beq_iff_eq] at h2
     rw [h2]
     cases d <;> rfl
   · cases h2
 · split at h2
   · rename_i d hd; exact ⟨d, hd⟩
   · cases h2
def TT.all (p : Nat -> TI -> Bool) : TT -> Bool
 | .leaf => true
 | .node l t i r => l.all p && p t i && r.all p
theorem TT.all_find {p : Nat -> TI -> Bool} : ∀ {T : TT}, T.all p = true -> ∀ {t : Nat} {i : TI}, T.find t = some i -> p t i = true
 | .leaf, _, t, i, h => by cases h
 | .node l t' i' r, ha, t, i, h => by
   simp only [TT.all, Bool.and_eq_true] at ha
   unfold TT.find at h
   split at h
   · rename_i e; cases h; rw [za4 e]; exact ha.1.2
   · split at h
     · exact TT.all_find ha.1.1 h
     · exact TT.all_find ha.2 h
abbrev zbw (P : Program) (T : TT) : Prop := ∀ t i, T.find t = some i -> TOk P t i
theorem yn4 {P : Program} {T : TT} (h : T.all (tB P) = true) : zbw P T := fun t i hf => ywn (TT.all_find h hf)
section
variable {P : Program} {t : Nat} {ti : TI}
theorem TOk.sizeOf (h : TOk P t ti) (w : World) : (sizeOf t).run P w = .ok ti.sz w := by
 obtain ⟨i, z, h1, h2, _⟩ := h.info
 simp [Go.sizeOf, typeInfo, program, Sem.run, h1, h2]
theorem TOk.isAgg_ (h : TOk P t ti) (w : World) : (isAgg t).run P w = .ok ti.isAgg w := by
 obtain ⟨d, hd⟩ := h.und
 have := h.agg
 rw [hd] at this
 rw [this]
 simp only [Go.isAgg, Sem.run_bind, run_underlying hd, Result.andThen_ok]
 cases d <;> rfl
theorem TOk.zeroV (h : TOk P t ti) : ∃ z : Value, (∀ w, (zeroValue t).run P w = .ok z w) /\ ones z.cells /\ z.cells.size = ti.sz /\ ∀ h D μ, RL h D μ ti.zero z.cells := by
 obtain ⟨i, z, h1, h2, h3, h4, h5, h6⟩ := h.info
 exact ⟨z, fun w => by simp [zeroValue, typeInfo, program, Sem.run, h1, h3], h4, h5, h6⟩
theorem TOk.zeroR (h : TOk P t ti) : ∃ z : Value, (∀ w, (zeroValue t).run P w = .ok z w) /\ ∀ hp D μ, R hp D μ (zg1 ti) z := by
 obtain ⟨i, z, h1, h2, h3, h4, h5, h6⟩ := h.info
 refine ⟨z, fun w => by simp [zeroValue, typeInfo, program, Sem.run, h1, h3], fun hp D μ => ?_⟩
 have hz := h.zag i z h1 h3
 have r := h6 hp D μ
 unfold zg1
 cases hag : ti.isAgg with
 | true =>
   rw [hag] at hz
   cases z with
   | agg cs => exact .agg _ _ r.1 h4 r.2
   | _ => cases hz
 | false =>
   rw [hag] at hz
   have hs := h.single hag
   have hc : z.cells = #[z] := by cases z <;> first | rfl | (simp at hz)
   rw [hc] at r h5
   have hl : ti.zero.length = 1 := by rw [r.1]; rfl
   match hq : ti.zero, hl with
   | [x], _ => rw [hq] at r; exact r.2 0 x z rfl rfl
end
end Sy
end Go.Proofs.YtogpolfhcbgcbaaGreatDoor
namespace Go.Proofs.YtogpolfhcbgcbaaGreatDoor
namespace Sy
open Go Go.RowKit
set_option linter.unusedSimpArgs false
set_option linter.unusedVariables false
def zek (P : Program) (f : FuncId) (args : Array Value) (w : World) (Q : Ending -> World -> Prop) : Prop :=
 match (callFunc f args).run P w with
 | .ok (.enter f' args') w' => Calls P f' args' w' Q
 | .ok (.value v) w' => Q (.returned v) w'
 | _ => False
def zad (P : Program) (f : FuncId) (xs : List AV) (r : AV) : Prop :=
 ∀ (D : Nat -> Prop) (w : World) (vs : Array Value), (∀ b, D b -> b < w.heap.size) -> RL w.heap D zav xs vs -> GOk w ->
   zek P f vs w fun e w' => ∃ v D', e = .returned v /\ Below w.heap.size w w' /\ (∀ b, D b -> D' b) /\ (∀ b, D' b -> D b \/ (w.heap.size <= b /\ b < w'.heap.size)) /\ R w'.heap D' zav r v
def zhy (base : Nat) (M : Two) (W : World) (nt : Nat) (f : Nat -> Option AV) (g : Nat -> Option Ob) (c : Nat -> Bool) (a : Act) (w : World) : Prop := ∃ D μ, Sim base M W nt f g c a w D μ
def Adv (P : Program) (base : Nat) (M : Two) (W : World) (nt : Nat) (f : Nat -> Option AV) (g : Nat -> Option Ob) (c : Nat -> Bool) (o : Oper) (a : Act) (w : World) (v : AV) (os : List (Nat × Ob)) (ice : List Nat) : Prop :=
 ∀ (K : Act -> World -> Prop) (Q : Exit -> Act -> World -> Prop), (∀ a' w', zhy base M W nt (zn3 f o.dst v) (zb5 g os) (zkv c ice) a' w' -> K a' w') -> o.wp P a w K Q
def zc7 (P : Program) (base : Nat) (M : Two) (W : World) (nt : Nat) (f : Nat -> Option AV) (g : Nat -> Option Ob) (c : Nat -> Bool) (o : Oper) (a : Act) (w : World) : zcj -> Prop
 | .ok v os ice => Adv P base M W nt f g c o a w v os ice
 | .okIf b v os ice => b = true -> Adv P base M W nt f g c o a w v os ice
 | .okP p v os ice => p -> Adv P base M W nt f g c o a w v os ice
 | .call k xs ice => ∀ r, zad P k xs r -> Adv P base M W nt f g c o a w r [] ice
 | .alt b v os q v' os' => (b = true -> Adv P base M W nt f g c o a w v os []) /\ (b = false -> q = true -> Adv P base M W nt f g c o a w v' os' [])
 | .bad _ => True
section
variable {P : Program} {T : TT} {base : Nat} {M : Two} {W : World} {nt : Nat} {f : Nat -> Option AV} {g : Nat -> Option Ob} {c : Nat -> Bool} {a : Act} {w : World} {D : Nat -> Prop} {μ : Mu} {o : Oper}
theorem za0 (h : Sim base M W nt f g c a w D μ) (hd : ∀ d, o.dst = some d -> d < nt) {v : AV} {u : Value} (hr : (execOp a.eval o).run P w = .ok (.value u) w) (r : R w.heap D μ v u) :
   Adv P base M W nt f g c o a w v [] [] := fun K Q hK => by
 unfold Oper.wp
 rw [hr]
 exact hK _ _ ⟨D, μ, h.put hd r⟩
def Ops (h : Array Obj) (D : Nat -> Prop) (μ : Mu) (a : Act) : List Operand -> List AV -> Prop
 | [], [] => True
 | x :: xs, v :: vs => R h D μ v (a.eval x) /\ Ops h D μ a xs vs
 | _, _ => False
theorem ytc (h : Array Obj) (D : Nat -> Prop) (μ : Mu) (v : Value) : R h D μ (ofV v) v := by
 unfold ofV
 split
 · exact .bool _
 · exact .int _ _
 · exact .str _ _ rfl
 · exact .flt _ _
 · exact .cpx _ _ _
 · exact .nilp
 · exact .nilm
 · exact .nilf
 · exact .nili
 · split
   · exact .nils
   · exact .dead _
 · rename_i k xs ys
   cases hx : xs.toList with
   | cons _ _ => exact .dead _
   | nil =>
     simp only
     cases hy : ys.toList with
     | cons _ _ => exact .dead _
     | nil =>
       have h1 : xs = #[] := by simpa using hx
       have h2 : ys = #[] := by simpa using hy
       subst h1; subst h2
       exact .fn k [] [] #[] #[] rfl rfl (fun i x v h => by simp at h) (fun i x v h => by simp at h)
 · exact .dead _
theorem zin {α β : Type} (k : α -> β) : ∀ l, zck k l = l.map k
 | [] => rfl
 | x :: xs => by simp [zck, zin k xs]
def zie : Value -> Bool
 | .agg cs => cs.toList.all Value.oneCell'
 | _ => true
theorem ytb (h : Array Obj) (D : Nat -> Prop) (μ : Mu) (v : Value) (hp : zie v = true) : R h D μ (yxe v) v := by
 unfold yxe
 split
 · rename_i cs
   refine .agg _ _ (by simp [zin]) (fun i v hv => ?_) (fun i x v hx hv => ?_)
   · simp only [zie, List.all_eq_true] at hp
     exact hp v (List.mem_of_getElem? (i := i) (by simpa using hv))
   · simp [zin] at hx
     rw [hv] at hx
     simp at hx
     subst hx
     exact ytc _ _ _ _
 · exact ytc _ _ _ _
theorem yqa (h : Sim base M W nt f g c a w D μ) {kn : List (Nat × Bool)} (hk : ∀ t b, za3 kn t = some b -> f t = some (.bool b)) (x : Operand) (hx : ∀ v, x = .const v -> zie v = true) : R w.heap D μ (evf f kn x) (a.eval x) := by
 unfold evf
 cases x with
 | tmp t =>
   simp only
   cases e : za3 kn t with
   | some b => exact h.slots t _ (hk t b e)
   | none =>
     simp only
     cases e' : f t with
     | none => exact .dead _
     | some v => exact h.slots t v e'
 | const v => exact ytb _ _ _ _ (hx v rfl)
 | global n => exact .dead _
 | func n => exact .fn n [] [] #[] #[] rfl rfl (fun i x v h => by simp at h) (fun i x v h => by simp at h)
theorem zq7 {s t : ByteArray} : (s.toList == t.toList) = (s.data.toList == t.data.toList) := by rw [Lib.toList_data, Lib.toList_data]
theorem zal {α : Type} : ∀ l : List α, zdp l = l.length
 | [] => rfl
 | x :: xs => by simp [zdp, zal xs]
theorem zd2 {a b : Nat} (h : zbk a b = true) : a < b := of_decide_eq_true h
theorem zbh {a b : Nat} (h : zbx a b = true) : a <= b := of_decide_eq_true h
theorem zgl {α : Type} (d : α) : ∀ (l : List α) (i : Nat), zbn d l i = l.getD i d
 | [], _ => by simp [zbn]
 | x :: _, 0 => by simp [zbn]
 | x :: xs, i + 1 => by simp [zbn, zgl d xs i]
theorem zaz {α : Type} (d : α) (l : List α) (i : Nat) (h : i < l.length) : l[i]? = some (zbn d l i) := by
 rw [zgl]; simp [List.getD, h]
theorem zb0 {α : Type} : ∀ (l : List α) (n : Nat), zco l n = l.take n
 | [], 0 => rfl
 | [], n + 1 => rfl
 | x :: xs, 0 => rfl
 | x :: xs, n + 1 => by simp [zco, zb0 xs n]
theorem zbd {α : Type} : ∀ (l : List α) (n : Nat), zcz l n = l.drop n
 | [], 0 => rfl
 | [], n + 1 => rfl
 | x :: xs, 0 => rfl
 | x :: xs, n + 1 => by simp [zcz, zbd xs n]
theorem zau {α : Type} : ∀ (l m : List α), zcb l m = l ++ m
 | [], m => rfl
 | x :: xs, m => by simp [zcb, zau xs m]
theorem zlv {α : Type} (v : α) : ∀ (l : List α) (n : Nat), yru v l n = l.set n v
 | [], n => by simp [yru]
 | x :: xs, 0 => rfl
 | x :: xs, n + 1 => by simp [yru, zlv v xs n]
theorem R.inv_tup {h : Array Obj} {D : Nat -> Prop} {μ : Mu} {cs : List AV} {v : Value} (r : R h D μ (.tup cs) v) : ∃ us, v = .tuple us /\ RL h D μ cs us := by
 cases r with | tup _ us e hr => exact ⟨us, rfl, e, hr⟩
theorem R.inv_agg {h : Array Obj} {D : Nat -> Prop} {μ : Mu} {cs : List AV} {v : Value} (r : R h D μ (.agg cs) v) : ∃ us, v = .agg us /\ ones us /\ RL h D μ cs us := by
 cases r with | agg _ us e h1 hr => exact ⟨us, rfl, h1, e, hr⟩
theorem R.inv_flt {h : Array Obj} {D : Nat -> Prop} {μ : Mu} {k : FloatKind} {b : Nat} {v : Value} (r : R h D μ (.flt k b) v) : v = .float k b := by cases r; rfl
theorem R.inv_cpx {h : Array Obj} {D : Nat -> Prop} {μ : Mu} {k : FloatKind} {a b : Nat} {v : Value} (r : R h D μ (.cpx k a b) v) : v = .complex k a b := by cases r; rfl
theorem R.inv_bool {h : Array Obj} {D : Nat -> Prop} {μ : Mu} {b : Bool} {v : Value} (r : R h D μ (.bool b) v) : v = .bool b := by cases r; rfl
theorem R.inv_int {h : Array Obj} {D : Nat -> Prop} {μ : Mu} {k : IntKind} {n : Int} {v : Value} (r : R h D μ (.int k n) v) : v = .int k n := by cases r; rfl
theorem R.inv_str {h : Array Obj} {D : Nat -> Prop} {μ : Mu} {l : List UInt8} {v : Value} (r : R h D μ (.str l) v) : ∃ s, v = .string s /\ s.data.toList = l := by cases r with | str l s e => exact ⟨s, rfl, e⟩
variable (h : Sim base M W nt f g c a w D μ) (hd : ∀ d, o.dst = some d -> d < nt)
include h hd
theorem zqn {x : Operand} (e : o.op = .move x \/ o.op = .assign x) {vals : List AV} (hv : Ops w.heap D μ a [x] vals) : zc7 P base M W nt f g c o a w (yg3 vals) := by
 match vals, hv with
 | [v], hv =>
   refine za0 h hd (u := a.eval x) ?_ hv.1
   rcases e with e | e <;> (unfold execOp; rw [e]; rfl)
theorem yby {b x y : Operand} (e : o.op = .pick b x y) {vals : List AV} (hv : Ops w.heap D μ a [b, x, y] vals) : zc7 P base M W nt f g c o a w (yg2 vals) := by
 match vals, hv with
 | [vb, vx, vy], ⟨h1, h2, h3, _⟩ =>
   unfold yg2
   split
   · rename_i t x' y' he
     simp only [List.cons.injEq, and_true] at he
     obtain ⟨rfl, rfl, rfl⟩ := he
     have hb := h1.inv_bool
     cases t with
     | true => exact za0 h hd (u := a.eval x) (by unfold execOp; rw [e]; simp [hb, asBool]) h2
     | false => exact za0 h hd (u := a.eval y) (by unfold execOp; rw [e]; simp [hb, asBool]) h3
   · trivial
theorem zyd {op : BinOp} {t t' : TypeId} {x y : Operand} (e : o.op = .binOp op t x y t') {k : IntKind} {m n : Int} (h1 : a.eval x = .int k m) (h2 : a.eval y = .int k n) (hs : op ≠ .shl /\ op ≠ .shr) :
   zc7 P base M W nt f g c o a w (yvj std op k m n) := by
 have run : ∀ u, (binOp op t (.int k m) (.int k n)).run P w = .ok u w -> (execOp a.eval o).run P w = .ok (.value u) w := by
   intro u hu
   unfold execOp
   rw [e]
   simp only [h1, h2]
   have hg : (eqGuard op t x y (.int k m) (.int k n)).run P w = .ok () w := by
     unfold eqGuard; split <;> rfl
   simp [hg, hu]
 have res : ∀ v : AV, ∀ u : Value, (binOp op t (.int k m) (.int k n)).run P w = .ok u w -> R w.heap D μ v u -> Adv P base M W nt f g c o a w v [] [] := fun v u hu r => za0 h hd (run u hu) r
 have hq : L2 std ine n 0 = true -> n ≠ 0 := fun hb => by simpa [L2, std, ine] using hb
 cases op with
 | shl => exact absurd rfl hs.1
 | shr => exact absurd rfl hs.2
 | quo => exact fun hb => res _ (.int k (k.wrap (m.tdiv n))) (by simp [binOp, Op.intDiv, hq hb]) (.int _ _)
 | rem => exact fun hb => res _ (.int k (m.tmod n)) (by simp [binOp, Op.intDiv, hq hb]) (.int _ _)
 | add => exact res _ (.int k (k.wrap (m + n))) (by simp [binOp]; rfl) (.int _ _)
 | sub => exact res _ (.int k (k.wrap (m - n))) (by simp [binOp]; rfl) (.int _ _)
 | mul => exact res _ (.int k (k.wrap (m * n))) (by simp [binOp]; rfl) (.int _ _)
 | and => exact res _ (.int k (band k m n)) (by simp [binOp]; rfl) (.int _ _)
 | or => exact res _ (.int k (bor k m n)) (by simp [binOp]; rfl) (.int _ _)
 | xor => exact res _ (.int k (ys4 k m n)) (by simp [binOp]; rfl) (.int _ _)
 | andNot => exact res _ (.int k (ygp k m n)) (by simp [binOp]; rfl) (.int _ _)
 | eql => exact res _ (.bool (ieq m n)) (by simp [binOp]; rfl) (.bool _)
 | neq => exact res _ (.bool (ine m n)) (by simp [binOp]; rfl) (.bool _)
 | lss => exact res _ (.bool (ilt m n)) (by simp [binOp]; rfl) (.bool _)
 | leq => exact res _ (.bool (ile m n)) (by simp [binOp]; rfl) (.bool _)
 | gtr => exact res _ (.bool (ilt n m)) (by simp [binOp]; rfl) (.bool _)
 | geq => exact res _ (.bool (ile n m)) (by simp [binOp]; rfl) (.bool _)
theorem zxw {op : BinOp} {t t' : TypeId} {x y : Operand} (e : o.op = .binOp op t x y t') {l m : List UInt8} (h1 : R w.heap D μ (.str l) (a.eval x)) (h2 : R w.heap D μ (.str m) (a.eval y)) :
   zc7 P base M W nt f g c o a w (zss std op l m) := by
 obtain ⟨s1, e1, rfl⟩ := h1.inv_str
 obtain ⟨s2, e2, rfl⟩ := h2.inv_str
 have run : ∀ u, (binOp op t (.string s1) (.string s2)).run P w = .ok u w -> (execOp a.eval o).run P w = .ok (.value u) w := by
   intro u hu
   unfold execOp
   rw [e]
   simp only [e1, e2]
   have hg : (eqGuard op t x y (.string s1) (.string s2)).run P w = .ok () w := by
     unfold eqGuard; split <;> rfl
   simp [hg, hu]
 have res : ∀ v : AV, ∀ u : Value, (binOp op t (.string s1) (.string s2)).run P w = .ok u w -> R w.heap D μ v u -> Adv P base M W nt f g c o a w v [] [] := fun v u hu r => za0 h hd (run u hu) r
 cases op with
 | add =>
   intro hb
   have hl : s1.size + s2.size <= 9223372036854775807 := by
     have h1 := of_decide_eq_true hb
     simpa using h1
   refine res _ (.string (s1 ++ s2)) ?_ (.str _ _ ?_)
   · have : ¬ (((s1.size + s2.size : Nat) : Int) > IntKind.i64.max) := by rw [show IntKind.i64.max = 9223372036854775807 from rfl]; omega
     simp only [binOp, Op.stringOp]
     rw [if_neg this]
     rfl
   · simp [L2, std, ywv]
 | eql => exact res _ (.bool (s1.toList == s2.toList)) (by simp [binOp, Op.stringOp]) (by rw [zq7]; exact .bool _)
 | neq => exact res _ (.bool (!(s1.toList == s2.toList))) (by simp [binOp, Op.stringOp]) (by rw [zq7]; exact .bool _)
 | lss => exact res _ (.bool (Op.bytesLess s1.toList s2.toList)) (by simp [binOp, Op.stringOp]) (by simp only [Lib.toList_data]; exact .bool _)
 | leq => exact res _ (.bool (Op.bytesLess s1.toList s2.toList || (s1.toList == s2.toList))) (by simp [binOp, Op.stringOp]) (by simp only [Lib.toList_data]; exact .bool _)
 | gtr => exact res _ (.bool (!(Op.bytesLess s1.toList s2.toList || (s1.toList == s2.toList)))) (by simp [binOp, Op.stringOp]) (by simp only [Lib.toList_data]; exact .bool _)
 | geq => exact res _ (.bool (!(Op.bytesLess s1.toList s2.toList))) (by simp [binOp, Op.stringOp]) (by simp only [Lib.toList_data]; exact .bool _)
 | _ => trivial
theorem zsw {op : BinOp} {t t' : TypeId} {x y : Operand} (e : o.op = .binOp op t x y t') {k : FloatKind} {m n : Nat} (h1 : a.eval x = .float k m) (h2 : a.eval y = .float k n) :
   zc7 P base M W nt f g c o a w (ymc std op k m n) := by
 have run : ∀ u, (binOp op t (.float k m) (.float k n)).run P w = .ok u w -> (execOp a.eval o).run P w = .ok (.value u) w := by
   intro u hu
   unfold execOp
   rw [e]
   simp only [h1, h2]
   have hg : (eqGuard op t x y (.float k m) (.float k n)).run P w = .ok () w := by
     unfold eqGuard; split <;> rfl
   simp [hg, hu]
 have res : ∀ v : AV, ∀ u : Value, (binOp op t (.float k m) (.float k n)).run P w = .ok u w -> R w.heap D μ v u -> Adv P base M W nt f g c o a w v [] [] := fun v u hu r => za0 h hd (run u hu) r
 have ar : ∀ op', (op' = .add \/ op' = .sub \/ op' = .mul) -> fIs op' k m n = true -> (Op.floatArith op' k m n).run P w = .ok (.float k (ykn op' k m n)) w := by
   intro op' ho hb
   unfold fIs at hb
   unfold ykn
   rcases ho with rfl | rfl | rfl
   all_goals
     unfold yq4 at hb |-
     obtain ⟨r, hr⟩ := Option.isSome_iff_exists.1 hb
     simp [Op.floatArith, hr]
 cases op with
 | eql => exact res _ (.bool (fEq k m n)) (by simp [binOp, Op.floatCmp]; rfl) (.bool _)
 | neq => exact res _ (.bool (!(fEq k m n))) (by simp [binOp, Op.floatCmp]; rfl) (.bool _)
 | lss => exact res _ (.bool (fLt k m n)) (by simp [binOp, Op.floatCmp]; rfl) (.bool _)
 | leq => exact res _ (.bool (fLe k m n)) (by simp [binOp, Op.floatCmp]; rfl) (.bool _)
 | gtr => exact res _ (.bool (fGt k m n)) (by simp [binOp, Op.floatCmp]; rfl) (.bool _)
 | geq => exact res _ (.bool (fGe k m n)) (by simp [binOp, Op.floatCmp]; rfl) (.bool _)
 | add => exact fun hb => res _ (.float k (ykn .add k m n)) (by simp [binOp]; exact ar .add (.inl rfl) hb) (.flt _ _)
 | sub => exact fun hb => res _ (.float k (ykn .sub k m n)) (by simp [binOp]; exact ar .sub (.inr (.inl rfl)) hb) (.flt _ _)
 | mul => exact fun hb => res _ (.float k (ykn .mul k m n)) (by simp [binOp]; exact ar .mul (.inr (.inr rfl)) hb) (.flt _ _)
 | _ => trivial
theorem yc9 {op : BinOp} {t t' : TypeId} {x y : Operand} (e : o.op = .binOp op t x y t') {k : FloatKind} {m n m' n' : Nat} (h1 : a.eval x = .complex k m n) (h2 : a.eval y = .complex k m' n') :
   zc7 P base M W nt f g c o a w (cpxs std op k m n m' n') := by
 have run : ∀ u, (binOp op t (.complex k m n) (.complex k m' n')).run P w = .ok u w -> (execOp a.eval o).run P w = .ok (.value u) w := by
   intro u hu
   unfold execOp
   rw [e]
   simp only [h1, h2]
   have hg : (eqGuard op t x y (.complex k m n) (.complex k m' n')).run P w = .ok () w := by
     unfold eqGuard; split <;> rfl
   simp [hg, hu]
 have res : ∀ v : AV, ∀ u : Value, (binOp op t (.complex k m n) (.complex k m' n')).run P w = .ok u w -> R w.heap D μ v u -> Adv P base M W nt f g c o a w v [] [] := fun v u hu r => za0 h hd (run u hu) r
 cases op with
 | eql => exact res _ (.bool (fEq k m m' && fEq k n n')) (by simp [binOp, Op.complexOp, Op.Complex.cmp, Op.floatCmp, asBool]; rfl) (.bool _)
 | neq => exact res _ (.bool (!(fEq k m m' && fEq k n n'))) (by simp [binOp, Op.complexOp, Op.Complex.cmp, Op.floatCmp, asBool]; rfl) (.bool _)
 | _ => trivial
theorem ynq {op : UnOp} {t : TypeId} {x : Operand} (e : o.op = .unOp op t x) {vals : List AV} (hv : Ops w.heap D μ a [x] vals) : zc7 P base M W nt f g c o a w (cUn std op vals) := by
 match vals, hv with
 | [v], ⟨hv, _⟩ =>
   have res : ∀ v' : AV, ∀ u : Value, (Op.unary op (a.eval x)).run P w = .ok u w -> R w.heap D μ v' u -> Adv P base M W nt f g c o a w v' [] [] := fun v' u hu r =>
     za0 h hd (by unfold execOp; rw [e]; simp [hu]) r
   simp only [cUn]
   unfold un
   split
   · rename_i b
     have := hv.inv_bool
     exact res _ (.bool (!b)) (by rw [this]; rfl) (.bool _)
   · rename_i k n
     have := hv.inv_int
     exact res _ (.int k (k.wrap (0 - n))) (by rw [this]; rfl) (.int _ _)
   · rename_i k b
     have : a.eval x = .float k b := hv.inv_flt
     exact res _ (.float k (fNeg k b)) (by rw [this]; rfl) (.flt _ _)
   · rename_i k n
     have := hv.inv_int
     cases hk : k.signed with
     | true => exact res _ (.int k (ys4 k (-1) n)) (by rw [this]; simp only [Op.unary, hk]; rfl) (.int _ _)
     | false => exact res _ (.int k (ys4 k k.max n)) (by rw [this]; simp only [Op.unary, hk]; rfl) (.int _ _)
   · trivial
theorem zqo {i : Nat} {x : Operand} (e : o.op = .extract x i) {vals : List AV} (hv : Ops w.heap D μ a [x] vals) : zc7 P base M W nt f g c o a w (zq5 i vals) := by
 match vals, hv with
 | [v], ⟨hv, _⟩ =>
   unfold zq5
   split
   · rename_i vs he
     simp only [List.cons.injEq, and_true] at he
     subst he
     split
     · rename_i hlt
       obtain ⟨us, hu, e1, hr⟩ := hv.inv_tup
       have hl : i < vs.length := by rw [<- zal]; exact zd2 hlt
       have h1 : us[i]? = some (us[i]'(by omega)) := by simp [e1 ▸ hl]
       refine za0 h hd (u := us[i]'(by omega)) ?_ (hr i _ _ (zaz AV.dead vs i hl) h1)
       unfold execOp; rw [e]; simp [hu, Instr.extract, h1]
     · trivial
   · trivial
end
end Sy
end Go.Proofs.YtogpolfhcbgcbaaGreatDoor
namespace Go.Proofs.YtogpolfhcbgcbaaGreatDoor
namespace Sy
open Go Go.RowKit
set_option linter.unusedSimpArgs false
set_option linter.unusedVariables false
theorem zdy {P : Program} {w : World} (op : BinOp) (t : TypeId) (x y : Operand) (a b : Value) (h1 : a ≠ .nilIface) (h2 : ∀ cs, a ≠ .agg cs) : (eqGuard op t x y a b).run P w = .ok () w := by
 cases a <;> first | exact absurd rfl h1 | exact absurd rfl (h2 _) | (cases op <;> rfl)
theorem zmc {P : Program} {w : World} (op : BinOp) (t : TypeId) {x y : Operand} (hc : cond (zpl x) true (zpl y) = true) : (eqGuard op t x y .nilIface .nilIface).run P w = .ok () w := by
 cases x <;> cases y <;> first | (simp [zpl] at hc; done) | (cases op <;> rfl)
theorem zud {P : Program} {w : World} (op : BinOp) (t : TypeId) {x y : Operand} (hc : cond (zpl x) true (zpl y) = true) (u : Value) (hu : u = .nilIface \/ ∃ t p, u = .iface t p) : (eqGuard op t x y u .nilIface).run P w = .ok () w := by
 rcases hu with rfl | ⟨t', p, rfl⟩
 · exact zmc op t hc
 · cases op <;> rfl
theorem zaq (t : TypeId) (x y : Value) : Op.equal t x y = Op.equalIn (9999 + 1) t x y := rfl
section
variable {P : Program} {T : TT} {base : Nat} {M : Two} {W : World} {nt : Nat} {f : Nat -> Option AV} {g : Nat -> Option Ob} {c : Nat -> Bool} {a : Act} {w : World} {D : Nat -> Prop} {μ : Mu} {o : Oper}
theorem ygs (hT : zbw P T) {t : Nat} {x y : AV} {b : Bool} (e : zsc T std t x y = some b) {u v : Value} (hx : R w.heap D μ x u) (hy : R w.heap D μ y v) :
   (Op.equal t u v).run P w = .ok b w /\ u ≠ .nilIface /\ (∀ cs, u ≠ .agg cs) := by
 unfold zsc at e
 split at e
 · rename_i i hi
   have ok := (hT t i hi).k
   split at e
   · rename_i hk
     rw [hk] at ok
     split at e
     · cases e
       rename_i p q
       cases hx; cases hy
       refine ⟨?_, by simp, by simp⟩
       rw [zaq, Op.equalIn]
       simp [run_underlying ok]
       rfl
     · cases e
   · rename_i hk
     rw [hk] at ok
     obtain ⟨e', ok⟩ := ok
     split at e
     · cases e; cases hx; cases hy
       refine ⟨?_, by simp, by simp⟩
       rw [zaq, Op.equalIn]
       simp [run_underlying ok]
     · cases e; cases hx; cases hy
       refine ⟨?_, by simp, by simp⟩
       rw [zaq, Op.equalIn]
       simp [run_underlying ok]
     · cases e; cases hx; cases hy
       refine ⟨?_, by simp, by simp⟩
       rw [zaq, Op.equalIn]
       simp [run_underlying ok]
     · split at e
       · rename_i a1 o1 a2 o2 el e1 e2 hpt
         split at e <;> cases e
         rename_i eli hel
         obtain ⟨j, z, hj, _⟩ := (hT el eli hel).info
         have hp2 := (hT t i hi).ptf el hpt
         obtain rfl := za4 e1
         obtain rfl := za4 e2
         cases hx with
         | ref _ _ b z m hm =>
           cases hy with
           | ref _ _ b' z' m' hm' =>
             rw [hm] at hm'
             cases hm'
             refine ⟨?_, by simp, by simp⟩
             rw [zaq, Op.equalIn]
             simp [run_underlying hp2, sizeOf, typeInfo, hj, run_sameAddr_same]
       · cases e
     · cases e
   · rename_i hk
     rw [hk] at ok
     obtain ⟨ok, _⟩ := ok
     split at e
     · cases e; cases hx; cases hy
       refine ⟨?_, by simp, by simp⟩
       rw [zaq, Op.equalIn]
       simp [run_underlying ok]
     · cases e; cases hx; cases hy
       refine ⟨?_, by simp, by simp⟩
       rw [zaq, Op.equalIn]
       simp [run_underlying ok]
     · cases e; cases hx; cases hy
       refine ⟨?_, by simp, by simp⟩
       rw [zaq, Op.equalIn]
       simp [run_underlying ok]
     · cases e
   · cases e
   · rename_i hk
     rw [hk] at ok
     obtain ⟨p', r', v', ok⟩ := ok
     split at e
     · cases e; cases hx; cases hy
       refine ⟨?_, by simp, by simp⟩
       rw [zaq, Op.equalIn]
       simp [run_underlying ok]
     · cases e; cases hx; cases hy
       refine ⟨?_, by simp, by simp⟩
       rw [zaq, Op.equalIn]
       simp [run_underlying ok]
     · cases e; cases hx; cases hy
       refine ⟨?_, by simp, by simp⟩
       rw [zaq, Op.equalIn]
       simp [run_underlying ok]
     · cases e
   · cases e
 · cases e
theorem yqb {t : Nat} {ti : TI} (ok : TOk P t ti) (d : Nat) {x y : AV} {b : Bool} (e : eqK std ti.k x y = some b) : ti.isAgg = false /\ x ≠ .dead /\ y ≠ .dead /\
   ∀ u v, R w.heap D μ x u -> R w.heap D μ y v -> (Op.equalIn (d + 1) t u v).run P w = .ok b w := by
 have hk := ok.k
 have hag := ok.agg
 unfold eqK at e
 split at e
 · rename_i k0 hti
   rw [hti] at hk
   rw [show P.underlying t = some (.int k0) from hk] at hag
   split at e
   · split at e
     · rename_i hkk
       obtain rfl := of_decide_eq_true hkk
       cases e
       refine ⟨by simpa using hag, by simp, by simp, fun u v ru rv => ?_⟩
       cases ru; cases rv
       exact run_equalIn_int w d _ _ _ _ _ hk
     · cases e
   · cases e
 · rename_i hti
   rw [hti] at hk
   rw [show P.underlying t = some .bool from hk] at hag
   split at e
   · cases e
     refine ⟨by simpa using hag, by simp, by simp, fun u v ru rv => ?_⟩
     cases ru; cases rv
     exact run_equalIn_bool' w d _ _ _ hk
   · cases e
 · rename_i hti
   rw [hti] at hk
   rw [show P.underlying t = some .string from hk] at hag
   split at e
   · cases e
     refine ⟨by simpa using hag, by simp, by simp, fun u v ru rv => ?_⟩
     cases ru with | str _ s1 q1 => cases rv with | str _ s2 q2 =>
     subst q1; subst q2
     rw [run_equalIn_string w d _ _ _ hk, zq7]
     rfl
   · cases e
 · cases e
theorem zfn (hT : zbw P T) {t : Nat} {i : TI} (hi : T.find t = some i) {cs : List AV} {us : Array Value} (h1 : ones us) (hr : RL w.heap D μ cs us) (off : Nat) (hlt : off + i.sz <= cs.length) (hs : i.isAgg = false -> i.sz = 1) :
   ∃ u, (part t us off).run P w = .ok u w /\ R w.heap D μ (match i.isAgg with | true => .agg (zco (zcz cs off) i.sz) | false => zbn .dead cs off) u := by
 obtain ⟨e1, hr⟩ := hr
 have ok := hT t i hi
 unfold part
 simp only [Sem.run_bind, ok.isAgg_, ok.sizeOf, Result.andThen_ok]
 cases hag : i.isAgg with
 | true =>
   refine ⟨.agg (us.extract off (off + i.sz)), by simp [ok.sizeOf], .agg _ _ ?_ (fun j v hj => ?_) (fun j x v hx hj => ?_)⟩
   · rw [zb0, zbd]; simp; omega
   · rw [Array.getElem?_extract] at hj
     split at hj
     · exact h1 _ v hj
     · cases hj
   · rw [Array.getElem?_extract] at hj
     rw [zb0, zbd, List.getElem?_take, List.getElem?_drop] at hx
     split at hj
     · split at hx
       · exact hr _ x v hx hj
       · cases hx
     · cases hj
 | false =>
   have := hs hag
   have hlt' : off < us.size := by omega
   refine ⟨us[off], by simp [hlt'], hr off _ _ (zaz .dead cs off (by omega)) (by simp [hlt'])⟩
theorem zx7 (hT : zbw P T) (d : Nat) {q : Nat -> List AV -> List AV -> Option Bool} {xs ys : List AV} {us vs : Array Value} (ox : ones us) (oy : ones vs) (hx : RL w.heap D μ xs us) (hy : RL w.heap D μ ys vs)
   (hq : ∀ t i xs ys b, T.find t = some i -> q t xs ys = some b -> xs.length = i.sz -> ys.length = i.sz -> ∀ u v, R w.heap D μ (match i.isAgg with | true => .agg xs | false => zbn .dead xs 0) u -> R w.heap D μ (match i.isAgg with | true => .agg ys | false => zbn .dead ys 0) v -> (Op.equalIn d t u v).run P w = .ok b w) : ∀ {F : List Field} {b : Bool}, (∀ f, f ∈ F -> f.name ≠ "_") ->
   yuz T std q xs ys (F.map fun f => (f.offset, f.type)) = some b -> (Op.eqFields d us vs F).run P w = .ok b w
 | [], b, _, e => by cases e; rfl
 | f :: F, b, hn, e => by
   have hn0 := hn f (by simp)
   have ih : ∀ {b}, yuz T std q xs ys (F.map fun f => (f.offset, f.type)) = some b -> (Op.eqFields d us vs F).run P w = .ok b w := fun e => zx7 hT d ox oy hx hy hq (fun g hg => hn g (by simp [hg])) e
   simp only [List.map_cons] at e
   unfold yuz at e
   split at e
   · rename_i ti hti
     split at e
     · rename_i l1 l2
       have l1 := zbh l1
       have l2 := zbh l2
       rw [zal] at l1 l2
       split at e
       · rename_i x hx1
         obtain ⟨u, p1, ru⟩ := zfn (P := P) hT hti ox hx f.offset l1 (hT _ _ hti).single
         obtain ⟨v, p2, rv⟩ := zfn (P := P) hT hti oy hy f.offset l2 (hT _ _ hti).single
         have hlen : ∀ zs : List AV, f.offset + ti.sz <= zs.length -> (zco (zcz zs f.offset) ti.sz).length = ti.sz := fun zs hz => by rw [zb0, zbd]; simp; omega
         have h0 : ∀ zs : List AV, f.offset + ti.sz <= zs.length -> ti.isAgg = false -> zbn AV.dead (zco (zcz zs f.offset) ti.sz) 0 = zbn .dead zs f.offset := fun zs hz hag => by
           have := (hT _ _ hti).single hag
           rw [zgl, zgl, zb0, zbd, this]
           simp [List.getD]
         have heq := hq _ _ _ _ _ hti hx1 (hlen _ l1) (hlen _ l2) u v (by
           cases hag : ti.isAgg with
           | true => rw [hag] at ru; exact ru
           | false => rw [hag] at ru; simp only [h0 _ l1 hag]; exact ru) (by
           cases hag : ti.isAgg with
           | true => rw [hag] at rv; exact rv
           | false => rw [hag] at rv; simp only [h0 _ l2 hag]; exact rv)
         unfold Op.eqFields
         rw [if_pos hn0]
         simp only [Sem.run_bind, p1, p2, heq, Result.andThen_ok]
         split at e
         · rename_i b' hb'
           cases e
           cases x with
           | true => simpa [L2, std] using ih hb'
           | false => simp [L2, std]
         · cases e
       · cases e
     · cases e
   · cases e
theorem zx6 (hT : zbw P T) (d : Nat) {q : List AV -> List AV -> Option Bool} {et : Nat} {ei : TI} (hei : T.find et = some ei) {xs ys : List AV} {us vs : Array Value} (ox : ones us) (oy : ones vs) (hx : RL w.heap D μ xs us) (hy : RL w.heap D μ ys vs)
   (hq : ∀ xs ys b, q xs ys = some b -> xs.length = ei.sz -> ys.length = ei.sz -> ∀ u v, R w.heap D μ (match ei.isAgg with | true => .agg xs | false => zbn .dead xs 0) u -> R w.heap D μ (match ei.isAgg with | true => .agg ys | false => zbn .dead ys 0) v -> (Op.equalIn d et u v).run P w = .ok b w) : ∀ (n k : Nat) {b : Bool}, (k + n) * ei.sz <= xs.length -> (k + n) * ei.sz <= ys.length ->
   yuy std q ei.sz xs ys k n = some b -> (Op.eqItems d et ei.sz us vs (List.range' k n)).run P w = .ok b w
 | 0, k, b, _, _, e => by cases e; rfl
 | n + 1, k, b, l1, l2, e => by
   have ih : ∀ {b}, yuy std q ei.sz xs ys (k + 1) n = some b -> (Op.eqItems d et ei.sz us vs (List.range' (k + 1) n)).run P w = .ok b w := fun e => zx6 hT d hei ox oy hx hy hq n (k + 1) (by rw [show k + 1 + n = k + (n + 1) by omega]; exact l1) (by rw [show k + 1 + n = k + (n + 1) by omega]; exact l2) e
   unfold yuy at e
   have hk : k * ei.sz + ei.sz <= (k + (n + 1)) * ei.sz := by
     rw [<- Nat.succ_mul]; exact Nat.mul_le_mul_right _ (by omega)
   split at e
   · rename_i x hx1
     have l1' : k * ei.sz + ei.sz <= xs.length := Nat.le_trans hk l1
     have l2' : k * ei.sz + ei.sz <= ys.length := Nat.le_trans hk l2
     obtain ⟨u, p1, ru⟩ := zfn (P := P) hT hei ox hx (k * ei.sz) l1' (hT _ _ hei).single
     obtain ⟨v, p2, rv⟩ := zfn (P := P) hT hei oy hy (k * ei.sz) l2' (hT _ _ hei).single
     have hlen : ∀ zs : List AV, k * ei.sz + ei.sz <= zs.length -> (zco (zcz zs (k * ei.sz)) ei.sz).length = ei.sz := fun zs hz => by rw [zb0, zbd]; simp; omega
     have h0 : ∀ zs : List AV, ei.isAgg = false -> zbn AV.dead (zco (zcz zs (k * ei.sz)) ei.sz) 0 = zbn .dead zs (k * ei.sz) := fun zs hag => by
       have := (hT _ _ hei).single hag
       rw [zgl, zgl, zb0, zbd, this]
       simp [List.getD]
     have heq := hq _ _ _ hx1 (hlen _ l1') (hlen _ l2') u v (by
       cases hag : ei.isAgg with
       | true => rw [hag] at ru; exact ru
       | false => rw [hag] at ru; simp only [h0 _ hag]; exact ru) (by
       cases hag : ei.isAgg with
       | true => rw [hag] at rv; exact rv
       | false => rw [hag] at rv; simp only [h0 _ hag]; exact rv)
     rw [List.range'_succ]
     unfold Op.eqItems
     simp only [Sem.run_bind, p1, p2, heq, Result.andThen_ok]
     split at e
     · rename_i b' hb'
       cases e
       cases x with
       | true => simpa [L2, std] using ih hb'
       | false => simp [L2, std]
     · cases e
   · cases e
theorem yfg (hT : zbw P T) (f0 : Nat) : ∀ (d : Nat) (t : Nat) (i : TI) (xs ys : List AV) (b : Bool), T.find t = some i -> eqD T std d t xs ys = some b -> xs.length = i.sz -> ys.length = i.sz ->
   ∀ u v, R w.heap D μ (match i.isAgg with | true => .agg xs | false => zbn .dead xs 0) u -> R w.heap D μ (match i.isAgg with | true => .agg ys | false => zbn .dead ys 0) v -> (Op.equalIn (f0 + d) t u v).run P w = .ok b w
 | 0, t, i, xs, ys, b, hi, e, _, _, u, v, _, _ => by cases e
 | d + 1, t, i, xs, ys, b, hi, e, lx, ly, u, v, ru, rv => by
   have ok := hT _ _ hi
   have ih := yfg hT f0 d
   unfold eqD at e
   rw [hi] at e
   simp only at e
   have hag := ok.agg
   have hkk := ok.k
   split at e
   · rename_i fs hk
     rw [hk] at hkk
     split at e
     · rename_i heq
       obtain ⟨hg, hs⟩ := ok.eqf heq
       obtain ⟨F', hF', hfs⟩ := hkk
       obtain ⟨F, hF, hnm, hh⟩ : ∃ F : Array Field, P.underlying t = some (.struct F) /\ (∀ f, f ∈ F.toList -> f.name ≠ "_") /\ P.stoodInHeld t = false := by
         rcases hs with hs | ⟨n, e', hs⟩
         · exact hs
         · rw [hF'] at hs; cases hs
       rw [hF] at hF' hag; cases hF'
       simp only at hag
       rw [hag] at ru rv
       obtain ⟨us, rfl, o1, r1⟩ := ru.inv_agg
       obtain ⟨vs, rfl, o2, r2⟩ := rv.inv_agg
       rw [<- hfs] at e
       have hfo : P.fieldsOf t = F' := by unfold Program.fieldsOf; rw [hF]
       rw [show f0 + (d + 1) = (f0 + d) + 1 from rfl, run_equalIn_struct w (f0 + d) t us vs (by rw [hfo]; exact hF) hh, hfo]
       exact zx7 hT (f0 + d) o1 o2 r1 r2 (fun t i xs ys b h1 h2 h3 h4 => ih t i xs ys b h1 h2 h3 h4) hnm e
     · cases e
   · rename_i n et esz hk
     rw [hk] at hkk
     obtain ⟨hu, hs⟩ := hkk
     obtain ⟨ei', hei', hes⟩ := Option.map_eq_some_iff.1 hs
     rw [hu] at hag
     simp only at hag
     rw [hag] at ru rv
     obtain ⟨us, rfl, o1, r1⟩ := ru.inv_agg
     obtain ⟨vs, rfl, o2, r2⟩ := rv.inv_agg
     split at e
     · rename_i ei heq hl1 hl2 hei
       have hl1 := za4 hl1
       have hl2 := za4 hl2
       rw [zal] at hl1 hl2
       split at e
       · rename_i hsz
         obtain rfl := za4 hsz
         have hcl : P.cellsOf et = ei.sz := by unfold Program.cellsOf; rw [hei']; simpa using hes
         rw [show f0 + (d + 1) = (f0 + d) + 1 from rfl, run_equalIn_array w (f0 + d) us vs hu hei', hcl, List.range_eq_range']
         exact zx6 hT (f0 + d) hei o1 o2 r1 r2 (fun xs ys b h2 h3 h4 => ih et ei xs ys b hei h2 h3 h4) n 0 (by rw [Nat.zero_add]; omega) (by rw [Nat.zero_add]; omega) e
       · cases e
     · cases e
   · rename_i hk1 hk2
     unfold eq1 at e
     split at e
     · rename_i x y
       obtain ⟨hag', n1, n2, heq⟩ := yqb (w := w) (D := D) (μ := μ) ok (f0 + d) e
       rw [hag'] at ru rv
       exact heq u v ru rv
     · cases e
theorem ygt (hT : zbw P T) {t : Nat} {x y : AV} {b : Bool} (e : ygu T std t x y = some b) {u v : Value} (hx : R w.heap D μ x u) (hy : R w.heap D μ y v) :
   (∀ op p q, (eqGuard op t p q u v).run P w = .ok () w) /\ (binOp .eql t u v).run P w = .ok (.bool b) w /\ (binOp .neq t u v).run P w = .ok (.bool (!b)) w := by
 unfold ygu at e
 split at e
 · rename_i xs ys
   split at e
   · rename_i i hi
     split at e
     · rename_i heq lx ly
       have lx := za4 lx
       have ly := za4 ly
       rw [zal] at lx ly
       have ok := hT _ _ hi
       obtain ⟨hg, hs⟩ := ok.eqf heq
       have hag : i.isAgg = true := by
         rw [ok.agg]
         rcases hs with ⟨F, hF, _⟩ | ⟨n, e', hF⟩ <;> rw [hF]
       have h1 : (Op.equal t u v).run P w = .ok b w := by
         rw [zaq]
         exact yfg hT 9994 6 t i xs ys b hi e lx ly u v (by rw [hag]; exact hx) (by rw [hag]; exact hy)
       obtain ⟨us, rfl, o1, r1⟩ := hx.inv_agg
       obtain ⟨vs, rfl, o2, r2⟩ := hy.inv_agg
       refine ⟨fun op p q => ?_, ?_, ?_⟩
       · cases op <;> simp [eqGuard, program, Sem.run, hg]
       · simp [binOp, h1]
       · simp [binOp, h1]
     · cases e
   · cases e
 · obtain ⟨r1, r2, r3⟩ := ygs hT e hx hy
   refine ⟨fun op p q => zdy op t p q u v r2 r3, ?_, ?_⟩
   · unfold zsc at e
     split at e
     · split at e <;> first | (cases e; done) | (split at e <;> first | (cases e; done) | (cases hx; cases hy; simp [binOp] at r1 |-; simp [r1]))
     · cases e
   · unfold zsc at e
     split at e
     · split at e <;> first | (cases e; done) | (split at e <;> first | (cases e; done) | (cases hx; cases hy; simp [binOp] at r1 |-; simp [r1]))
     · cases e
theorem yj4 {k : FloatKind} {m n : Nat} (hb : ymj k m n = true) : Builtin.min2 (.float k m) (.float k n) = pure (.float k (yq2 k m n)) := by
 unfold ymj at hb
 obtain ⟨o, ho⟩ := Option.isSome_iff_exists.1 hb
 unfold yq2
 simp only [Builtin.min2, ho]
 cases o <;> rfl
theorem yja {k : FloatKind} {m n : Nat} (hb : ymj k m n = true) : Builtin.max2 (.float k m) (.float k n) = pure (.float k (ys0 k m n)) := by
 unfold ymj at hb
 obtain ⟨o, ho⟩ := Option.isSome_iff_exists.1 hb
 unfold ys0
 simp only [Builtin.max2, ho]
 cases o <;> rfl
variable (h : Sim base M W nt f g c a w D μ) (hd : ∀ d, o.dst = some d -> d < nt)
include h hd
theorem yi3 (hT : zbw P T) {op : BinOp} {t t' : TypeId} {x y : Operand} (e : o.op = .binOp op t x y t') {vals : List AV} (hv : Ops w.heap D μ a [x, y] vals) :
   zc7 P base M W nt f g c o a w (cBin T std op t vals) := by
 match vals, hv with
 | [vx, vy], ⟨hx, hy, _⟩ =>
   simp only [cBin]
   unfold bin
   split
   · rename_i k m k' n
     have e1 := hx.inv_int
     have e2 := hy.inv_int
     have shift : ∀ u, (op = .shl \/ op = .shr) -> (Op.shift op k m k' n).run P w = .ok u w -> (execOp a.eval o).run P w = .ok (.value u) w := by
       intro u hop hu
       unfold execOp
       rw [e]
       simp only [e1, e2, Sem.run_bind, zdy op t x y (.int k m) (.int k' n) (by simp) (by simp), Result.andThen_ok]
       rcases hop with rfl | rfl <;> simp [binOp, hu]
     split
     · intro hb
       have hn : 0 <= n := of_decide_eq_true hb
       refine za0 h hd (u := .int k (wshl k m n)) (shift _ (.inl rfl) ?_) (.int _ _)
       have : ¬ n < 0 := by omega
       simp [Op.shift, this]
       rfl
     · intro hb
       have hn : 0 <= n := of_decide_eq_true hb
       refine za0 h hd (u := .int k (wshr k m n)) (shift _ (.inr rfl) ?_) (.int _ _)
       have : ¬ n < 0 := by omega
       simp [Op.shift, this]
       rfl
     · rename_i h1 h2
       split
       · rename_i hk
         obtain rfl : k = k' := of_decide_eq_true hk
         exact zyd h hd e e1 e2 ⟨h1, h2⟩
       · trivial
   · exact zxw h hd e hx hy
   · rename_i k m k' n
     split
     · rename_i hk
       obtain rfl : k = k' := of_decide_eq_true hk
       exact zsw h hd e hx.inv_flt hy.inv_flt
     · trivial
   · rename_i k m n k' m' n'
     split
     · rename_i hk
       obtain rfl : k = k' := of_decide_eq_true hk
       exact yc9 h hd e hx.inv_cpx hy.inv_cpx
     · trivial
   · rename_i sz n get
     split
     · rename_i hsl
       obtain ⟨el, hel⟩ : ∃ el, P.underlying t = some (.slice el) := by
         unfold isSl at hsl
         split at hsl
         · rename_i i hi
           have ok := (hT t i hi).k
           split at hsl
           · rename_i hk; rw [hk] at ok; exact ⟨_, ok.1⟩
           · cases hsl
         · cases hsl
       have key : zbk 0 n = true -> (Op.equal t (a.eval x) (a.eval y)).run P w = .ok false w /\ a.eval x ≠ .nilIface /\ (∀ cs, a.eval x ≠ .agg cs) /\ (∃ p q r, a.eval x = .slice p q r) /\ ∃ p q r, a.eval y = .slice p q r := by
         intro hn
         have hn := zd2 hn
         generalize a.eval x = u at hx
         generalize a.eval y = v at hy
         cases hy
         cases hx with
         | lst0 => omega
         | lst _ _ _ b o' cap vs =>
           refine ⟨?_, by simp, by simp, ⟨_, _, _, rfl⟩, ⟨_, _, _, rfl⟩⟩
           rw [zaq, Op.equalIn]
           simp [run_underlying hel]
       split
       · intro hn
         obtain ⟨r1, r2, r3, ⟨p, q, r, hp⟩, ⟨p', q', r', hp'⟩⟩ := key hn
         refine za0 h hd (u := .bool false) ?_ (.bool _)
         unfold execOp
         rw [e]
         rw [hp, hp'] at r1
         rw [hp] at r2 r3
         simp [zdy .eql t x y _ (.slice p' q' r') r2 r3, binOp, hp, hp', r1]
       · intro hn
         obtain ⟨r1, r2, r3, ⟨p, q, r, hp⟩, ⟨p', q', r', hp'⟩⟩ := key hn
         refine za0 h hd (u := .bool true) ?_ (.bool _)
         unfold execOp
         rw [e]
         rw [hp, hp'] at r1
         rw [hp] at r2 r3
         simp [zdy .neq t x y _ (.slice p' q' r') r2 r3, binOp, hp, hp', r1]
       · trivial
     · trivial
   · have run : ∀ b op', (op' = .eql \/ op' = .neq) -> op = op' -> ygu T std t vx vy = some b -> (execOp a.eval o).run P w = .ok (.value (.bool (if op' = .eql then b else !b))) w := by
       intro b op' hop hop2 hb
       obtain ⟨r1, r2, r3⟩ := ygt hT hb hx hy
       subst hop2
       unfold execOp
       rw [e]
       rcases hop with rfl | rfl
       · simp [r1, r2]
       · simp [r1, r3]
     split
     · split
       · rename_i b hb
         exact za0 h hd (run b .eql (.inl rfl) rfl hb) (.bool _)
       · trivial
     · split
       · rename_i b hb
         exact za0 h hd (run b .neq (.inr rfl) rfl hb) (.bool _)
       · trivial
     · trivial
theorem ycd (hT : zbw P T) {op : BinOp} {t t' : TypeId} {x y : Operand} (e : o.op = .binOp op t x y t') {vals : List AV} (hv : Ops w.heap D μ a [x, y] vals) :
   zc7 P base M W nt f g c o a w (yr8 T std op t (cond (zpl x) true (zpl y)) vals) := by
 unfold yr8
 split
 · obtain ⟨hx, hy, _⟩ := hv
   split
   · rename_i sz ag ze eqf p1 p2 p3 hc hi
     obtain ⟨ms, ok⟩ := (hT t _ hi).k
     have e1 : a.eval x = .nilIface := by generalize a.eval x = u at hx; cases hx; rfl
     have e2 : a.eval y = .nilIface := by generalize a.eval y = u at hy; cases hy; rfl
     have hg := zmc (P := P) (w := w) op t hc
     have he : (Op.equal t .nilIface .nilIface).run P w = .ok true w := by
       rw [zaq, Op.equalIn]
       simp [run_underlying ok]
     split
     · refine za0 h hd (u := .bool true) ?_ (.bool _)
       unfold execOp
       rw [e]
       simp [e1, e2, hg, binOp, he]
     · refine za0 h hd (u := .bool false) ?_ (.bool _)
       unfold execOp
       rw [e]
       simp [e1, e2, hg, binOp, he]
     · trivial
   · trivial
 · rename_i b
   obtain ⟨hx, hy, _⟩ := hv
   split
   · rename_i sz ag ze eqf p1 p2 p3 hc hi
     obtain ⟨ms, ok⟩ := (hT t _ hi).k
     have e2 : a.eval y = .nilIface := by generalize a.eval y = u at hy; cases hy; rfl
     obtain ⟨u, e1, hu, hb⟩ : ∃ u, a.eval x = u /\ (u = .nilIface \/ ∃ t p, u = .iface t p) /\ ((Op.equal t u .nilIface).run P w = .ok b w) := by
       generalize a.eval x = u at hx
       cases hx with
       | ifn => exact ⟨_, rfl, .inl rfl, by rw [zaq, Op.equalIn]; simp [run_underlying ok]⟩
       | ifs t' p => exact ⟨_, rfl, .inr ⟨t', p, rfl⟩, by rw [zaq, Op.equalIn]; simp [run_underlying ok]⟩
     have hg := zud (P := P) (w := w) op t hc u hu
     split
     · refine za0 h hd (u := .bool b) ?_ (.bool _)
       unfold execOp
       rw [e]
       simp [e1, e2, hg, binOp, hb]
     · refine za0 h hd (u := .bool (!b)) ?_ (.bool _)
       unfold execOp
       rw [e]
       simp [e1, e2, hg, binOp, hb]
     · trivial
   · trivial
 · exact yi3 h hd hT e hv
theorem yhy {x y : Operand} {ts : Array TypeId} (e : o.op = .call { callee := .builtin .min, args := #[x, y], argTypes := ts }) {vals : List AV}
   (hv : Ops w.heap D μ a [x, y] vals) : zc7 P base M W nt f g c o a w (yvd std vals) := by
 match vals, hv with
 | [v, v'], ⟨hx, hy, _⟩ =>
   unfold yvd
   split
   · rename_i k m k' n he
     simp only [List.cons.injEq, and_true] at he
     obtain ⟨rfl, rfl⟩ := he
     split
     · rename_i hk
       obtain rfl : k = k' := of_decide_eq_true hk
       refine za0 h hd (u := .int k (min m n)) ?_ (.int _ _)
       unfold execOp
       rw [e]
       have : (if n < m then n else m) = min m n := by rw [Int.min_def]; split <;> split <;> omega
       simp [resolve, invoke, builtin, Builtin.min_, hx.inv_int, hy.inv_int, Builtin.min2, this]
     · trivial
   · rename_i k m k' n he
     simp only [List.cons.injEq, and_true] at he
     obtain ⟨rfl, rfl⟩ := he
     split
     · rename_i hk
       obtain rfl : k = k' := of_decide_eq_true hk
       intro hb
       have e1 : a.eval x = .float k m := hx.inv_flt
       have e2 : a.eval y = .float k n := hy.inv_flt
       refine za0 h hd (u := .float k (yq2 k m n)) ?_ (.flt _ _)
       unfold execOp
       rw [e]
       simp [resolve, invoke, builtin, Builtin.min_, e1, e2, yj4 hb]
     · trivial
   · trivial
theorem zqp {x y : Operand} {ts : Array TypeId} (e : o.op = .call { callee := .builtin .complex, args := #[x, y], argTypes := ts }) {vals : List AV}
   (hv : Ops w.heap D μ a [x, y] vals) : zc7 P base M W nt f g c o a w (yr4 vals) := by
 match vals, hv with
 | [v, v'], ⟨hx, hy, _⟩ =>
   unfold yr4
   split
   · rename_i k m k' n he
     simp only [List.cons.injEq, and_true] at he
     obtain ⟨rfl, rfl⟩ := he
     split
     · rename_i hk
       obtain rfl : k = k' := of_decide_eq_true hk
       have e1 : a.eval x = .float k m := hx.inv_flt
       have e2 : a.eval y = .float k n := hy.inv_flt
       refine za0 h hd (u := .complex k m n) ?_ (.cpx _ _ _)
       unfold execOp
       rw [e]
       have hb : Builtin.complex_ ts o.type #[.float k m, .float k n] = pure (.complex k m n) := (if_pos rfl : (if k = k then (pure (.complex k m n) : Sem Value) else stuck "complex: parts of different kinds") = _)
       simp [resolve, invoke, builtin, hb, e1, e2]
     · trivial
   · trivial
theorem ybx {x : Operand} {ts : Array TypeId} (e : o.op = .call { callee := .builtin .real, args := #[x], argTypes := ts }) {vals : List AV}
   (hv : Ops w.heap D μ a [x] vals) : zc7 P base M W nt f g c o a w (cRe vals) := by
 match vals, hv with
 | [v], ⟨hx, _⟩ =>
   unfold cRe
   split
   · rename_i k m n he
     simp only [List.cons.injEq, and_true] at he
     subst he
     have e1 : a.eval x = .complex k m n := hx.inv_cpx
     refine za0 h hd (u := .float k m) ?_ (.flt _ _)
     unfold execOp
     rw [e]
     have hb : Builtin.real_ ts o.type #[.complex k m n] = pure (.float k m) := rfl
     simp [resolve, invoke, builtin, hb, e1]
   · trivial
theorem yc7 {x : Operand} {ts : Array TypeId} (e : o.op = .call { callee := .builtin .imag, args := #[x], argTypes := ts }) {vals : List AV}
   (hv : Ops w.heap D μ a [x] vals) : zc7 P base M W nt f g c o a w (cIm vals) := by
 match vals, hv with
 | [v], ⟨hx, _⟩ =>
   unfold cIm
   split
   · rename_i k m n he
     simp only [List.cons.injEq, and_true] at he
     subst he
     have e1 : a.eval x = .complex k m n := hx.inv_cpx
     refine za0 h hd (u := .float k n) ?_ (.flt _ _)
     unfold execOp
     rw [e]
     have hb : Builtin.imag_ ts o.type #[.complex k m n] = pure (.float k n) := rfl
     simp [resolve, invoke, builtin, hb, e1]
   · trivial
theorem yhz {x y : Operand} {ts : Array TypeId} (e : o.op = .call { callee := .builtin .max, args := #[x, y], argTypes := ts }) {vals : List AV}
   (hv : Ops w.heap D μ a [x, y] vals) : zc7 P base M W nt f g c o a w (yqy std vals) := by
 match vals, hv with
 | [v, v'], ⟨hx, hy, _⟩ =>
   unfold yqy
   split
   · rename_i k m k' n he
     simp only [List.cons.injEq, and_true] at he
     obtain ⟨rfl, rfl⟩ := he
     split
     · rename_i hk
       obtain rfl : k = k' := of_decide_eq_true hk
       refine za0 h hd (u := .int k (max m n)) ?_ (.int _ _)
       unfold execOp
       rw [e]
       have : (if n > m then n else m) = max m n := by rw [Int.max_def]; split <;> split <;> omega
       simp [resolve, invoke, builtin, Builtin.max_, hx.inv_int, hy.inv_int, Builtin.max2, this]
     · trivial
   · rename_i k m k' n he
     simp only [List.cons.injEq, and_true] at he
     obtain ⟨rfl, rfl⟩ := he
     split
     · rename_i hk
       obtain rfl : k = k' := of_decide_eq_true hk
       intro hb
       have e1 : a.eval x = .float k m := hx.inv_flt
       have e2 : a.eval y = .float k n := hy.inv_flt
       refine za0 h hd (u := .float k (ys0 k m n)) ?_ (.flt _ _)
       unfold execOp
       rw [e]
       simp [resolve, invoke, builtin, Builtin.max_, e1, e2, yja hb]
     · trivial
   · rename_i he; simp at he
   · trivial
theorem yc2 {x y z : Operand} {ts : Array TypeId} (e : o.op = .call { callee := .builtin .max, args := #[x, y, z], argTypes := ts }) {vals : List AV}
   (hv : Ops w.heap D μ a [x, y, z] vals) : zc7 P base M W nt f g c o a w (yqy std vals) := by
 match vals, hv with
 | [v, v', v''], ⟨hx, hy, hz, _⟩ =>
   unfold yqy
   split
   · rename_i he; simp at he
   · rename_i he; simp at he
   · rename_i k m k' n k'' q he
     simp only [List.cons.injEq, and_true] at he
     obtain ⟨rfl, rfl, rfl⟩ := he
     split
     · rename_i hk
       obtain rfl : k = k' := of_decide_eq_true hk
       split
       · rename_i hk
         obtain rfl : k = k'' := of_decide_eq_true hk
         refine za0 h hd (u := .int k (max (max m n) q)) ?_ (.int _ _)
         unfold execOp
         rw [e]
         have e1 : ∀ m n : Int, (if n > m then n else m) = max m n := fun m n => by rw [Int.max_def]; split <;> split <;> omega
         simp [resolve, invoke, builtin, Builtin.max_, hx.inv_int, hy.inv_int, hz.inv_int, Builtin.max2, e1]
       · trivial
     · trivial
   · trivial
theorem yhw {x : Operand} (e : o.op = .nilCheck x) {vals : List AV} (hv : Ops w.heap D μ a [x] vals) : zc7 P base M W nt f g c o a w (cNil vals) := by
 match vals, hv with
 | [v], ⟨hv, _⟩ =>
   have run : ∀ ad, a.eval x = .pointer (some ad) -> (execOp a.eval o).run P w = .ok (.value (.pointer (some ad))) w := by
     intro ad hu; unfold execOp; rw [e]; simp [hu]
   unfold cNil
   split
   · rename_i id off he
     simp only [List.cons.injEq, and_true] at he; subst he
     generalize hu : a.eval x = u at *
     have hv' := hv
     cases hv; exact za0 h hd (run _ rfl) hv'
   · rename_i id sz i off he
     simp only [List.cons.injEq, and_true] at he; subst he
     generalize hu : a.eval x = u at *
     have hv' := hv
     cases hv; exact za0 h hd (run _ rfl) hv'
   rotate_left
   · rename_i id off n i he
     simp only [List.cons.injEq, and_true] at he; subst he
     generalize hu : a.eval x = u at *
     have hv' := hv
     cases hv; exact za0 h hd (run _ rfl) hv'
   rotate_left
   · rename_i n get he
     simp only [List.cons.injEq, and_true] at he; subst he
     generalize hu : a.eval x = u at *
     have hv' := hv
     cases hv; exact za0 h hd (run _ rfl) hv'
   · trivial
end
end Sy
end Go.Proofs.YtogpolfhcbgcbaaGreatDoor
namespace Go.Proofs.YtogpolfhcbgcbaaGreatDoor
namespace Sy
open Go Go.RowKit
set_option linter.unusedSimpArgs false
set_option linter.unusedVariables false
theorem zoc : ∀ (ns : List Int) (s : ByteArray), (ns.foldl (fun r n => r.push (UInt8.ofNat n.toNat)) s).data.toList = s.data.toList ++ ns.map fun n => UInt8.ofNat n.toNat
 | [], s => by simp
 | n :: ns, s => by simp [zoc ns]
theorem zbe (b o j : Nat) : (⟨b, o, none⟩ : Addr).add j = ⟨b, o + j, none⟩ := by unfold Addr.add; split <;> simp_all
section
variable {P : Program} {T : TT} {base : Nat} {M : Two} {W : World} {nt : Nat} {f : Nat -> Option AV} {g : Nat -> Option Ob} {c : Nat -> Bool} {a : Act} {w : World} {D : Nat -> Prop} {μ : Mu} {o : Oper}
theorem zhs (hT : zbw P T) {e : Nat} (h : yp3 T e = true) : P.underlying e = some (.int .u8) := by
 unfold yp3 at h
 split at h
 · rename_i i hi
   have := (hT e i hi).k
   split at h
   · rename_i hk; rw [hk] at this; exact this
   · cases h
 · cases h
theorem zs8 (hT : zbw P T) {s t e esz eb : Nat} {si ti : TI} (hs : T.find s = some si) (hsk : si.k = .slice e esz eb) (hu : yp3 T e = true) (ht : T.find t = some ti) (htk : ti.k = .str)
   (b o n cap : Nat) (k : Nat -> Int) (hc : ∀ i, i < n -> hcell w.heap b (o + i) = some (.int .u8 (k i))) :
   ∃ r : ByteArray, (convert s t (.slice (some ⟨b, o, none⟩) n cap)).run P w = .ok (.string r) w /\ r.data.toList = zbf n k := by
 have h1 := (hT s si hs).k
 rw [hsk] at h1
 have h2 := (hT t ti ht).k
 rw [htk] at h2
 have hl := run_loadCells (P := P) w ⟨b, o, none⟩ n (fun i => .int .u8 (k i)) (fun j hj => by rw [zbe, zmj]; exact hc j hj)
 have hl' : (loadCells ⟨b, o, none⟩ n).run P w = .ok (((List.range n).map k).map (Value.int .u8)).toArray w := by rw [hl]; simp
 refine ⟨_, by rw [run_convert_bytes_string w s t e _ n cap h1.1 (zhs hT hu) h2, run_bytesToString w _ n cap _ hl'], ?_⟩
 rw [zoc]
 simp [zbf, ByteArray.empty, ByteArray.emptyWithCapacity]
 rfl
variable (h : Sim base M W nt f g c a w D μ) (hd : ∀ d, o.dst = some d -> d < nt)
include h hd
theorem ycb (hT : zbw P T) {s t : TypeId} {x : Operand} (e : o.op = .convert s t x) {vals : List AV} (hv : Ops w.heap D μ a [x] vals) {ob : Nat -> Option Ob} (hob : ∀ id z, ob id = some z -> g id = some z) :
   zc7 P base M W nt f g c o a w (yr5 T std s t ob vals) := by
 match vals, hv with
 | [v], ⟨hv, _⟩ =>
   have run : ∀ u, (convert s t (a.eval x)).run P w = .ok u w -> (execOp a.eval o).run P w = .ok (.value u) w := by
     intro u hu; unfold execOp; rw [e]; simp [hu]
   generalize a.eval x = u at *
   unfold yr5
   simp only
   split
   · rename_i si hsi
     obtain ⟨sd, hsd⟩ := (hT s si hsi).und
     split
     · rename_i ti hti
       have ok := (hT t ti hti).k
       split
       · rename_i k hk
         rw [hk] at ok
         split
         · rename_i k' n
           have := hv.inv_int
           subst this
           refine za0 h hd (u := .int k (k.wrap n)) (run _ ?_) (.int _ _)
           simp only [convert, Sem.run_bind, run_underlying hsd, run_underlying ok, Result.andThen_ok]
           cases sd <;> rfl
         · trivial
       · rename_i k hk
         rw [hk] at ok
         split
         · rename_i k' n
           have := hv.inv_int
           subst this
           refine za0 h hd (u := .float k (k.nearest n)) (run _ ?_) (.flt _ _)
           simp only [convert, Sem.run_bind, run_underlying hsd, run_underlying ok, Result.andThen_ok]
           cases sd <;> rfl
         · trivial
       · rename_i hk
         rw [hk] at ok
         split
         · rename_i l
           have hv' := hv
           obtain ⟨r, rfl, rfl⟩ := hv.inv_str
           refine za0 h hd (u := .string r) (run _ ?_) hv'
           simp only [convert, Sem.run_bind, run_underlying hsd, run_underlying ok, Result.andThen_ok]
           cases sd <;> rfl
         · split
           · rename_i e' esz eb hsk
             split
             · rename_i hu8
               have h1 := (hT s si hsi).k
               rw [hsk] at h1
               split
               · rename_i n get _
                 intro hp
                 have key : ∀ b o' cap, (∀ i, i < n -> hcell w.heap b (o' + i) = some (.int .u8 (get i 0).toI)) -> u = .slice (some ⟨b, o', none⟩) n cap ->
                     Adv P base M W nt f g c o a w (.str (L2 std zbf n (fun i => (get i 0).toI))) [] [] := by
                   rintro b o' cap hc rfl
                   obtain ⟨r, hr1, hr2⟩ := zs8 (P := P) (w := w) hT hsi hsk hu8 hti hk b o' n cap (fun i => (get i 0).toI) hc
                   exact za0 h hd (run _ hr1) (.str _ _ hr2)
                 cases hv with
                 | lst0 _ _ ad cap hn =>
                   cases ad with
                   | none =>
                     refine za0 h hd (u := .string .empty) (run _ ?_) (.str _ _ rfl)
                     rw [run_convert_bytes_string w s t e' none 0 cap h1.1 (zhs hT hu8) ok]
                     rfl
                   | some ad =>
                     refine za0 h hd (u := .string .empty) (run _ ?_) (.str _ _ rfl)
                     rw [run_convert_bytes_string w s t e' _ 0 cap h1.1 (zhs hT hu8) ok]
                     rfl
                 | lst _ _ _ b o' cap vs hD hn hv h1' hr =>
                   refine key b o' cap (fun i hi => ?_) rfl
                   have h3 := hv i 0 hi (by omega)
                   have h4 := hr i 0 hi (by omega)
                   obtain ⟨q, hq⟩ := hp i hi
                   rw [hq] at h4 |-
                   rw [h4.inv_int] at h3
                   simpa [AV.toI] using h3
               · cases hv with
                 | nils =>
                   refine za0 h hd (u := .string .empty) (run _ ?_) (.str _ _ rfl)
                   rw [run_convert_bytes_string w s t e' none 0 0 h1.1 (zhs hT hu8) ok]
                   rfl
               · rename_i id off n _
                 split
                 · rename_i m get hob'
                   have hg := hob _ _ hob'
                   rintro ⟨hm0, hp⟩
                   have hm : off + n <= m := hm0
                   have empty : ∀ ad cap, n = 0 -> u = .slice ad 0 cap -> Adv P base M W nt f g c o a w (.str (L2 std zbf n (fun i => (get (off + i) 0).toI))) [] [] := by
                     rintro ad cap rfl rfl
                     refine za0 h hd (u := .string .empty) (run _ ?_) (.str _ _ rfl)
                     rw [run_convert_bytes_string w s t e' _ 0 cap h1.1 (zhs hT hu8) ok]
                     cases ad <;> rfl
                   cases hv with
                   | slv => exact empty _ _ rfl rfl
                   | sl0 => exact empty _ _ rfl rfl
                   | sl _ _ _ _ b z m' cap hμ hn hz ho =>
                     obtain ⟨_, cs, t', fr, hh, _, _, _, hrow⟩ := h.obs id _ _ hg hμ
                     obtain ⟨r, hr1, hr2⟩ := zs8 (P := P) (w := w) hT hsi hsk hu8 hti hk b (off * 1) n cap (fun i => (get (off + i) 0).toI) (fun i hi => by
                       obtain ⟨y, hy1, _, hy2⟩ := hrow (off + i) 0 (by omega) (by omega)
                       obtain ⟨q, hq⟩ := hp i hi
                       rw [hq] at hy2 |-
                       rw [hy2.inv_int] at hy1
                       rw [zbs hh]
                       simpa [AV.toI] using hy1)
                     exact za0 h hd (run _ hr1) (.str _ _ hr2)
                 · trivial
               · trivial
             · trivial
           · trivial
       · rename_i hk
         split
         · rename_i id el hpt
           split
           · rename_i ty cs ei hg hei
             have hg := hob _ _ hg
             split
             · rename_i hup hli hty hsz hpos
               obtain rfl := za4 hty
               have hsz := za4 hsz
               rw [zal] at hsz
               cases hv with
               | ref _ _ b z m hμ =>
                 obtain ⟨C, t', fr, hh, hcs, ⟨_, rfl⟩, _, hr, _⟩ := h.obs id _ _ hg hμ
                 obtain ⟨j, zv, hj, hj2, _, _, hj5, _⟩ := (hT _ ei hei).info
                 have hsh : w.shape? b = some (t', C.size) := by simp [World.shape?, hh]
                 have hpos : 0 < ei.sz := zd2 hpos
                 refine za0 h hd (run _ (Lib.run_from_unsafe w (cells := C.size) ⟨b, 0, none⟩ ((hT s si hsi).upf hup) ((hT t ti hti).ptf _ hpt) hj hsh ?_)) (.ref id 0 b z m hμ)
                 have hc : P.cellsOf t' = ei.sz := by rw [Program.cellsOf, hj]; simpa using hj2
                 rw [hc, show C.size = ei.sz by rw [<- hr, hsz], Nat.div_self hpos]
                 exact (hT _ ei hei).lief hli
             · trivial
           · trivial
         · trivial
       · rename_i hk
         split
         · rename_i id off el hpt
           split
           · rename_i ty cs ei hg hei
             have hg := hob _ _ hg
             split
             · rename_i hup hpos hoff
               have hpos := zd2 hpos
               have hoff := zd2 hoff
               rw [zal] at hoff
               cases hv with
               | ref _ _ b z m hμ =>
                 obtain ⟨C, t', fr, hh, hcs, ⟨_, rfl⟩, _, hr, _⟩ := h.obs id _ _ hg hμ
                 obtain ⟨j, zv, hj, hj2, _⟩ := (hT _ ei hei).info
                 have hsh : w.shape? b = some (t', C.size) := by simp [World.shape?, hh]
                 exact za0 h hd (run _ (Lib.run_to_unsafe w (cells := C.size) ⟨b, off, none⟩ ((hT s si hsi).ptf _ hpt) ((hT t ti hti).upf hup) hj (by rw [hj2]; omega) hsh (by show off < C.size; rw [<- hr]; exact hoff))) (.ref id off b z m hμ)
             · trivial
           · trivial
         · trivial
       · trivial
     · trivial
   · trivial
theorem zy8 (hT : zbw P T) {t : TypeId} {x : Operand} {k : Nat} (e : o.op = .fieldAddr t x k) {vals : List AV} (hv : Ops w.heap D μ a [x] vals) : zc7 P base M W nt f g c o a w (ygc T t k vals) := by
 match vals, hv with
 | [v], ⟨hv, _⟩ =>
   have run : ∀ u, (Instr.fieldAt t (a.eval x) k).run P w = .ok u w -> (execOp a.eval o).run P w = .ok (.value u) w := by
     intro u hu; unfold execOp; rw [e]; simp [hu]
   generalize a.eval x = u at *
   unfold ygc
   simp only
   split
   · rename_i sz ag ze fs eqf p1 p2 p3 hi
     have ok := (hT t _ hi).k
     obtain ⟨F, hF, hfs⟩ := ok
     split
     · rename_i hlt
       have hlt := zd2 hlt
       rw [zal] at hlt
       split
       · rename_i m hm
         have hk : k < F.size := by rw [<- hfs] at hlt; simpa using hlt
         have hfd : zbn (0, 0) fs k = (F[k].offset, F[k].type) := by
           rw [zgl]; simp [<- hfs, List.getD, hk]
         rw [hfd] at hm |-
         have hsz : ∀ w' : World, (sizeOf F[k].type).run P w' = .ok (m + 1) w' := by
           intro w'
           unfold TT.sizeOf at hm
           split at hm
           · rename_i fi hfi
             injection hm with hmm
             have := (hT _ fi hfi).sizeOf w'
             rw [this, hmm]
           · cases hm
         have go : ∀ b o', u = .pointer (some ⟨b, o', none⟩) -> (Instr.fieldAt t u k).run P w = .ok (.pointer (some ⟨b, o' + F[k].offset, none⟩)) w := by
           rintro b o' rfl
           simp [Instr.fieldAt, run_underlying hF, hk, Instr.sureAddr, fieldPlace, hsz, zbe]
         split
         · rename_i id off
           cases hv with
           | ref _ _ b z m hμ => exact za0 h hd (run _ (go _ _ rfl)) (.ref _ _ b z m hμ)
         · rename_i id sz' i off
           cases hv with
           | eref _ _ _ _ b z m hμ hi' =>
             refine za0 h hd (run _ (go _ _ rfl)) ?_
             rw [Nat.add_assoc]
             exact .eref _ _ _ _ b z m hμ hi'
         · rename_i n get
           cases hv with
           | iptr _ _ b o' vs hD hv h1 hr =>
             exact za0 h hd (run _ (go _ _ rfl)) (.iptr _ _ b _ (fun j => vs (F[k].offset + j)) hD (fun j hj => by rw [Nat.add_assoc]; exact hv _ (by omega)) (fun j hj => h1 _ (by omega)) (fun j hj => hr _ (by omega)))
         · trivial
       · trivial
     · trivial
   · trivial
theorem zy7 (hT : zbw P T) {t : TypeId} {x : Operand} {k : Nat} (e : o.op = .field t x k) {vals : List AV} (hv : Ops w.heap D μ a [x] vals) : zc7 P base M W nt f g c o a w (ygb T t k vals) := by
 match vals, hv with
 | [v], ⟨hv, _⟩ =>
   have run : ∀ u, (Instr.field t (a.eval x) k).run P w = .ok u w -> (execOp a.eval o).run P w = .ok (.value u) w := by
     intro u hu; unfold execOp; rw [e]; simp [hu]
   generalize a.eval x = u at *
   unfold ygb
   split
   · rename_i cs he
     simp only [List.cons.injEq, and_true] at he
     subst he
     obtain ⟨us, rfl, h1, hr⟩ := hv.inv_agg
     split
     · rename_i sz ag ze fs eqf p1 p2 p3 hi
       have ok := (hT t _ hi).k
       obtain ⟨F, hF, hfs⟩ := ok
       split
       · rename_i hlt
         have hlt := zd2 hlt
         rw [zal] at hlt
         have hk : k < F.size := by rw [<- hfs] at hlt; simpa using hlt
         have hfd : zbn (0, 0) fs k = (F[k].offset, F[k].type) := by
           rw [zgl]; simp [<- hfs, List.getD, hk]
         rw [hfd]
         split
         · rename_i i hfi
           split
           · rename_i hle
             have hle := zbh hle
             rw [zal] at hle
             have go : ∀ u, (part F[k].type us F[k].offset).run P w = .ok u w -> (Instr.field t (.agg us) k).run P w = .ok u w := by
               intro u hu
               simp [Instr.field, run_underlying hF, hk, asAgg, hu]
             split
             · rename_i hag
               obtain ⟨u, hu, r⟩ := zfn (P := P) hT hfi h1 hr F[k].offset hle (by rw [hag]; simp)
               rw [hag] at r
               exact za0 h hd (run _ (go _ hu)) r
             · rename_i hag
               split
               · rename_i hs
                 obtain ⟨u, hu, r⟩ := zfn (P := P) hT hfi h1 hr F[k].offset hle (fun _ => za4 hs)
                 rw [hag] at r
                 exact za0 h hd (run _ (go _ hu)) r
               · trivial
           · trivial
         · trivial
       · trivial
     · trivial
   · trivial
end
end Sy
end Go.Proofs.YtogpolfhcbgcbaaGreatDoor
namespace Go.Proofs.YtogpolfhcbgcbaaGreatDoor
namespace Sy
open Go Go.RowKit
set_option linter.unusedSimpArgs false
set_option linter.unusedVariables false
section
variable {h : Array Obj} {D : Nat -> Prop} {μ : Mu}
theorem zb7 {x : AV} {v : Value} (r : R h D μ x v) (e : zr0 x = true) : R h D zav x v := by
 cases r with
 | dead v => exact .dead _
 | bool b => exact .bool _
 | int k n => exact .int _ _
 | str l s e' => exact .str _ _ e'
 | flt k b => exact .flt _ _
 | cpx k a b => exact .cpx _ _ _
 | nilp => exact .nilp
 | nilm => exact .nilm
 | nilf => exact .nilf
 | nils => exact .nils
 | nili => exact .nili
 | ifn => exact .ifn
 | ifs t p => exact .ifs t p
 | emp a cap => exact .emp _ _
 | emz a => exact .emz _
 | lst0 sz get a cap hn => exact .lst0 _ _ _ _ hn
 | lst sz n get b o cap vs hD hc hv h1 hr => exact .lst _ _ _ b o cap vs hD hc hv h1 hr
 | lstx sz n get a r => exact .lstx _ _ _ a (ztq r)
 | iptr n get b o vs hD hv h1 hr => exact .iptr _ _ b o vs hD hv h1 hr
 | arr n get vs e0 h1 hr => exact .arr n get vs e0 h1 hr
 | mpi kk n has val b es clock kf hD hb hn hk hr => exact .mpi kk n has val b es clock kf hD hb hn hk hr
 | _ => cases e
theorem zjk : ∀ {xs : List AV}, zid xs = true -> ∀ (i : Nat) x, xs[i]? = some x -> zr0 x = true
 | x :: xs, e, i, y, hy => by
   simp only [zid] at e
   split at e
   · rename_i h1
     cases i with
     | zero => simp at hy; subst hy; exact h1
     | succ i => exact zjk e i y (by simpa using hy)
   · cases e
theorem zdm {x : AV} {v : Value} (r : R h D μ x v) (e : zm7 x = true) : R h D zav x v := by
 cases r with
 | fn f xs ys vs us e1 e2 h1 h2 =>
   simp only [zm7] at e
   split at e
   · rename_i e'
     exact .fn f xs ys vs us e1 e2 (fun i x v hx hv => zb7 (h1 i x v hx hv) (zjk e' i x hx)) (fun i x v hx hv => zb7 (h2 i x v hx hv) (zjk e i x hx))
   · cases e
 | agg cs vs e1 h1 hr => cases e
 | tup cs vs e1 hr => cases e
 | ref => cases e
 | eref => cases e
 | slv => cases e
 | sl0 => cases e
 | sl => cases e
 | slcv => cases e
 | slc0 => cases e
 | slc => cases e
 | dead v => exact .dead _
 | bool b => exact .bool _
 | int k n => exact .int _ _
 | str l s e' => exact .str _ _ e'
 | flt k b => exact .flt _ _
 | cpx k a b => exact .cpx _ _ _
 | nilp => exact .nilp
 | nilm => exact .nilm
 | nilf => exact .nilf
 | nils => exact .nils
 | nili => exact .nili
 | ifn => exact .ifn
 | ifs t p => exact .ifs t p
 | emp a cap => exact .emp _ _
 | emz a => exact .emz _
 | lst0 sz get a cap hn => exact .lst0 _ _ _ _ hn
 | lst sz n get b o cap vs hD hc hv h1 hr => exact .lst _ _ _ b o cap vs hD hc hv h1 hr
 | lstx sz n get a r => exact .lstx _ _ _ a (ztq r)
 | iptr n get b o vs hD hv h1 hr => exact .iptr _ _ b o vs hD hv h1 hr
 | arr n get vs e0 h1 hr => exact .arr n get vs e0 h1 hr
 | mp => cases e
 | bidx => cases e
 | mpi kk n has val b es clock kf hD hb hn hk hr => exact .mpi kk n has val b es clock kf hD hb hn hk hr
theorem zd1 : ∀ {xs : List AV}, zm6 xs = true -> ∀ (i : Nat) x, xs[i]? = some x -> zm7 x = true
 | x :: xs, e, i, y, hy => by
   simp only [zm6] at e
   split at e
   · rename_i h1
     cases i with
     | zero => simp at hy; subst hy; exact h1
     | succ i => exact zd1 e i y (by simpa using hy)
   · cases e
end
theorem zv5 : ∀ {cs : List AV} {k : IntKind} {l : List Int}, yrp cs = some (k, l) -> ∀ i, i < cs.length -> cs[i]? = some (.int k (l.getD i 0))
 | [.int k n], k', l, e, i, hi => by
   simp [yrp] at e
   obtain ⟨rfl, rfl⟩ := e
   have : i = 0 := by simpa using hi
   subst this; rfl
 | .int k n :: y :: xs, k', l, e, i, hi => by
   simp only [yrp] at e
   split at e
   · rename_i k2 l2 h2
     split at e
     · rename_i hk
       obtain rfl : k = k2 := of_decide_eq_true hk
       simp only [Option.some.injEq, Prod.mk.injEq] at e
       obtain ⟨rfl, rfl⟩ := e
       cases i with
       | zero => rfl
       | succ i =>
         have := zv5 h2 i (by simpa using hi)
         simpa using this
     · cases e
   · cases e
theorem zv4 : ∀ {cs : List AV} {l : List (List UInt8)}, yro cs = some l -> ∀ i, i < cs.length -> cs[i]? = some (.str (l.getD i []))
 | [.str s], l, e, i, hi => by
   simp [yro] at e
   subst e
   have : i = 0 := by simpa using hi
   subst this; rfl
 | .str s :: y :: xs, l, e, i, hi => by
   simp only [yro] at e
   split at e
   · rename_i l2 h2
     cases e
     cases i with
     | zero => rfl
     | succ i =>
       have := zv4 h2 i (by simpa using hi)
       simpa using this
   · cases e
theorem zf3 {cs : List AV} {sz n : Nat} (hl : n * sz <= cs.length) {i j : Nat} (hi : i < n) (hj : j < sz) : cs[i * sz + j]? = some (zji std cs sz i j) := by
 have hlt : i * sz + j < cs.length := by
   have h1 : (i + 1) * sz <= n * sz := Nat.mul_le_mul_right _ hi
   rw [Nat.add_mul] at h1
   omega
 unfold zji
 split
 · obtain rfl : j = 0 := by omega
   rw [Nat.mul_one, Nat.add_zero] at *
   cases hu : yrp cs with
   | some kl =>
     obtain ⟨k, l⟩ := kl
     exact zv5 hu i hlt
   | none =>
     cases hu' : yro cs with
     | some l => exact zv4 hu' i hlt
     | none => exact zaz _ _ _ hlt
 · cases he : yxc cs with
   | true =>
     have hl4 : cs.length = 4 := by
       unfold yxc at he
       split at he
       · rfl
       · cases he
     have hn : i = 0 := by omega
     subst hn
     rw [Nat.zero_mul, Nat.zero_add] at hlt |-
     exact zaz _ _ _ hlt
   | false => exact zaz _ _ _ hlt
 · exact zaz _ _ _ hlt
theorem zep {i n : Int} (h : L2 std inR i n = true) : 0 <= i /\ i < n := by simpa [L2, std, inR] using h
theorem getD_some {cs : Array Value} {i : Nat} (h : i < cs.size) : cs[i]? = some (cs.getD i undef) := by simp [h]
theorem ykf (get : Nat -> Nat -> AV) (sz q : Nat) (hs : 0 < sz) : yal get sz q = get (q / sz) (q % sz) := by
 unfold yal
 split
 · simp [Nat.mod_one]
 · rfl
theorem zeo {α : Type} (k : Nat -> α) : ∀ (n i j : Nat), (znq k i n)[j]? = if j < n then some (k (i + j)) else none
 | 0, i, j => by simp [znq]
 | n + 1, i, 0 => by simp [znq]
 | n + 1, i, j + 1 => by
   simp only [znq, List.getElem?_cons_succ, zeo k n (i + 1) j, Nat.add_lt_add_iff_right]
   rw [show i + 1 + j = i + (j + 1) by omega]
theorem zh0 {α : Type} (k : Nat -> α) : ∀ (n i : Nat), (znq k i n).length = n
 | 0, i => rfl
 | n + 1, i => by simp [znq, zh0 k n]
theorem yaa {h : Array Obj} {D : Nat -> Prop} {μ : Mu} {n : Nat} {k : Nat -> AV} {v : Value} (r : R h D zav (.agg (znq k 0 n)) v) : R h D μ (.arr n k) v := by
 obtain ⟨us, rfl, o1, e, hr⟩ := r.inv_agg
 rw [zh0] at e
 refine .arr n k us e o1 fun i v hv => ?_
 have hi : i < n := by rw [e]; exact (Array.getElem?_eq_some_iff.1 hv).1
 refine hr i _ v ?_ hv
 rw [zeo, if_pos hi, Nat.zero_add]
section
variable {P : Program} {T : TT} {base : Nat} {M : Two} {W : World} {nt : Nat} {f : Nat -> Option AV} {g : Nat -> Option Ob} {c : Nat -> Bool} {a : Act} {w : World} {D : Nat -> Prop} {μ : Mu} {o : Oper}
theorem zh1 (hT : zbw P T) {t : Nat} {i : TI} (hi : T.find t = some i) (b o' : Nat) (vs : Nat -> Value) (xs : Nat -> AV) (hv : ∀ j, j < i.sz -> hcell w.heap b (o' + j) = some (vs j)) (h1 : ∀ j, j < i.sz -> one (vs j))
   (hr : ∀ j, j < i.sz -> R w.heap D μ (xs j) (vs j)) (hs : i.isAgg = false -> 0 < i.sz) :
   ∃ u, (Instr.loadAt t (.pointer (some ⟨b, o', none⟩))).run P w = .ok u w /\ R w.heap D μ (match i.isAgg with | true => .agg (znq xs 0 i.sz) | false => xs 0) u := by
 have ok := hT t i hi
 unfold Instr.loadAt Instr.sureAddr loadVar
 simp only [Sem.run_bind, Sem.run_pure, Result.andThen_ok, ok.isAgg_]
 cases hag : i.isAgg with
 | true =>
   have hl := run_loadCells (P := P) w ⟨b, o', none⟩ i.sz vs (fun j hj => by rw [zbe, zmj]; exact hv j hj)
   refine ⟨.agg ((List.range i.sz).map vs).toArray, by simp [ok.sizeOf, hl], .agg _ _ (by simp [zh0]) (fun j v hj => ?_) (fun j x v hx hj => ?_)⟩
   · by_cases hjl : j < i.sz
     · simp [hjl] at hj
       exact hj ▸ h1 _ hjl
     · simp [hjl] at hj
   · rw [zeo] at hx
     split at hx
     · rename_i hjl
       cases hx
       simp [hjl] at hj
       subst hj
       rw [Nat.zero_add]
       exact hr j hjl
     · cases hx
 | false =>
   have := hs hag
   refine ⟨vs 0, ?_, hr 0 this⟩
   have hc := hv 0 this
   rw [Nat.add_zero] at hc
   simp [run_load, zmj, hc]
variable (h : Sim base M W nt f g c a w D μ) (hd : ∀ d, o.dst = some d -> d < nt)
include h hd
theorem yc8 {fn : Fn} {xs ys : Array Operand} (e : o.op = .makeFunc fn xs ys) {vals : List AV} (hv : Ops w.heap D μ a (xs.toList ++ ys.toList) vals) : zc7 P base M W nt f g c o a w (yr3 fn xs.size vals) := by
 unfold yr3
 split
 · rename_i k
   have key : ∀ (l : List Operand) (vals : List AV), Ops w.heap D μ a l vals -> vals.length = l.length /\ ∀ (i : Nat) x y, vals[i]? = some x -> l[i]? = some y -> R w.heap D μ x (a.eval y) := by
     intro l
     induction l with
     | nil => intro vals hv; cases vals with
       | nil => exact ⟨rfl, fun i x y h => by simp at h⟩
       | cons _ _ => exact hv.elim
     | cons z l ih => intro vals hv; cases vals with
       | nil => exact hv.elim
       | cons v vs =>
         obtain ⟨h1, h2⟩ := ih vs hv.2
         refine ⟨by simp [h1], fun i x y hx hy => ?_⟩
         cases i with
         | zero => simp at hx hy; subst hx; subst hy; exact hv.1
         | succ i => exact h2 i x y (by simpa using hx) (by simpa using hy)
   obtain ⟨k1, k2⟩ := key _ _ hv
   simp at k1
   refine za0 h hd (u := .func (.func k) (xs.map a.eval) (ys.map a.eval)) (by unfold execOp; rw [e]; rfl) (.fn _ _ _ _ _ ?_ ?_ (fun i x v hx hv => ?_) (fun i x v hx hv => ?_))
   · rw [zb0, List.length_take, Array.size_map]; omega
   · rw [zbd, List.length_drop, Array.size_map]; omega
   · rw [zb0, List.getElem?_take] at hx
     split at hx
     · rename_i hlt
       simp [hlt] at hv
       subst hv
       exact k2 i x _ hx (by rw [List.getElem?_append_left (by simpa using hlt)]; simp [hlt])
     · cases hx
   · rw [zbd, List.getElem?_drop] at hx
     by_cases hlt : i < ys.size
     · simp [hlt] at hv
       subst hv
       refine k2 _ x _ hx ?_
       rw [List.getElem?_append_right (by simp)]
       simp [hlt]
     · simp [hlt] at hv
 · trivial
theorem zy6 (hT : zbw P T) {t : TypeId} {x y : Operand} (e : o.op = .indexAddr t x y) {vals : List AV} (hv : Ops w.heap D μ a [x, y] vals) {ob : Nat -> Option Ob} (hob : ∀ id z, ob id = some z -> g id = some z) :
   zc7 P base M W nt f g c o a w (yga T std t ob vals) := by
 match vals, hv with
 | [v, v'], ⟨hx, hy, _⟩ =>
   have run : ∀ u, (Instr.indexAt t (a.eval x) (a.eval y)).run P w = .ok u w -> (execOp a.eval o).run P w = .ok (.value u) w := by
     intro u hu; unfold execOp; rw [e]; simp [hu]
   generalize a.eval x = u at *
   generalize a.eval y = u' at *
   unfold yga
   split
   · rename_i p k i he
     simp only [List.cons.injEq, and_true] at he
     obtain ⟨rfl, rfl⟩ := he
     have e2 := hy.inv_int
     subst e2
     split
     · rename_i ti hti
       have ok := (hT t ti hti).k
       split
       · rename_i e' esz eb hk
         rw [hk] at ok
         obtain ⟨ok1, ok2⟩ := ok
         obtain ⟨ei, hei, hes⟩ := Option.map_eq_some_iff.1 ok2
         simp only [Prod.mk.injEq] at hes
         have hso : (sizeOf e').run P w = .ok esz w := by simp [sizeOf, typeInfo, program, Sem.run, hei, hes.1]
         have go : ∀ b o' n cap, u = .slice (some ⟨b, o', none⟩) n cap -> 0 <= i -> i < n -> (Instr.indexAt t u (.int k i)).run P w = .ok (.pointer (some ⟨b, o' + i.toNat * esz, none⟩)) w := by
           rintro b o' n cap rfl h0 h1
           simp [Instr.indexAt, asIntOf, run_underlying ok1, h0, h1, hso, zbe]
         split
         · rename_i sz n get
           split
           · rename_i hsz
             obtain rfl := za4 hsz
             intro hb
             obtain ⟨h0, h1⟩ := zep hb
             have h1' : i < (n : Int) := h1
             cases hx with
             | lst0 => omega
             | lst _ _ _ b o' cap vs hD hc hv hone hr =>
               have hlt : i.toNat < n := by omega
               refine za0 h hd (run _ (go b o' n cap rfl h0 h1')) (.iptr _ _ b _ (fun j => vs i.toNat j) hD (fun j hj => hv _ _ hlt hj) (fun j hj => hone _ _ hlt hj) (fun j hj => hr _ _ hlt hj))
           · trivial
         · rename_i id sz off n
           split
           · rename_i hsz
             obtain rfl := za4 hsz
             split
             · rename_i ty cs hg
               split
               · rename_i hk1 hk2
                 have hk1 := zd2 hk1
                 intro hb
                 have hik : i = ((cs.length / esz - 1 : Nat) : Int) := by
                   rw [<- zal]
                   have : (i == za7 (zdp cs / esz - 1)) = true := hb
                   exact eq_of_beq this
                 rw [zal] at hk1 |-
                 cases hx with
                 | slv => omega
                 | sl0 => omega
                 | sl _ _ _ _ b z m cap hμ hn hz ho =>
                   refine za0 h hd (run _ (go b _ n cap rfl (by omega) (by omega))) ?_
                   rw [hik]
                   rw [show (((cs.length / esz - 1 : Nat) : Int)).toNat = cs.length / esz - 1 by omega, Nat.zero_mul, Nat.zero_add]
                   exact .ref _ _ b z m hμ
               · trivial
             intro hb
             obtain ⟨h0, h1⟩ := zep hb
             have h1' : i < (n : Int) := h1
             cases hx with
             | slv => omega
             | sl0 => omega
             | sl _ _ _ _ b z m cap hμ hn hz ho =>
               refine za0 h hd (run _ (go b _ n cap rfl h0 h1')) ?_
               have : off * esz + i.toNat * esz = (L2 std Nat.add off (std Int.toNat i)) * esz + 0 := by
                 show _ = (off + i.toNat) * esz + 0
                 rw [Nat.add_mul]; omega
               rw [this]
               exact .eref _ _ _ _ b z m hμ (by show off + i.toNat < m; omega)
           · trivial
         · trivial
       · rename_i n e' esz hk
         rw [hk] at ok
         obtain ⟨ok1, ok2⟩ := ok
         obtain ⟨ei, hei, hes⟩ := Option.map_eq_some_iff.1 ok2
         have hso : (sizeOf e').run P w = .ok esz w := by simp [sizeOf, typeInfo, program, Sem.run, hei, hes]
         split
         · rename_i hn1
           have go : ∀ b o', u = .pointer (some ⟨b, o', none⟩) -> 0 <= i -> i < n -> (Instr.indexAt t u (.int k i)).run P w = .ok (.pointer (some ⟨b, o' + i.toNat * esz, none⟩)) w := by
             rintro b o' rfl h0 h1
             simp [Instr.indexAt, asIntOf, run_underlying ok1, h0, h1, hso, zbe, Instr.sureAddr]
           split
           · rename_i id off
             split
             · rename_i sz m get hg
               split
               · rename_i hsz hm
                 obtain rfl := za4 hsz
                 obtain rfl := za4 hm
                 intro hb
                 obtain ⟨h0, h1⟩ := zep hb
                 cases hx with
                 | ref _ _ b z m' hμ =>
                   obtain ⟨hm', _⟩ := h.obs id _ _ (hob _ _ hg) hμ
                   refine za0 h hd (run _ (go b _ rfl h0 h1)) ?_
                   rw [Nat.zero_add]
                   exact .eref _ _ _ 0 b z m' hμ (show i.toNat < m' from (by have h1' : i < (m : Int) := h1; omega))
               · trivial
             · rename_i hg
               split
               · rename_i hesz
                 have hesz := za4 hesz
                 subst hesz
                 intro hb
                 obtain ⟨h0, h1⟩ := zep hb
                 cases hx with
                 | ref _ _ b z m' hμ =>
                   refine za0 h hd (run _ (go b _ rfl h0 h1)) ?_
                   rw [Nat.mul_one]
                   exact .bidx _ _ _ _ b z m' hμ (show i.toNat < n from (by have h1' : i < (n : Int) := h1; omega))
               · trivial
             · trivial
           · rename_i m get
             split
             · rename_i hm
               have hm := za4 hm
               have key : ∀ (b o' : Nat) (vs : Nat -> Value), D b -> (∀ j, j < m -> hcell w.heap b (o' + j) = some (vs j)) -> (∀ j, j < m -> one (vs j)) -> (∀ j, j < m -> R w.heap D zav (get j) (vs j)) -> u = .pointer (some ⟨b, o', none⟩) -> 0 <= i -> i < n ->
                   ∀ get' : Nat -> AV, (∀ j, j < esz -> get' j = get (i.toNat * esz + j)) -> Adv P base M W nt f g c o a w (.iptr esz get') [] [] := by
                 intro b o' vs hD hv hone hr hu h0 h1 get' hget
                 have hlt : i.toNat * esz + esz <= m := by
                   rw [hm]
                   have : i.toNat + 1 <= n := by omega
                   calc i.toNat * esz + esz = (i.toNat + 1) * esz := by rw [Nat.add_mul]; omega
                     _ <= n * esz := Nat.mul_le_mul_right _ this
                 exact za0 h hd (run _ (go b _ hu h0 h1)) (.iptr _ _ b _ (fun j => vs (i.toNat * esz + j)) hD (fun j hj => by rw [Nat.add_assoc]; exact hv _ (by omega)) (fun j hj => hone _ (by omega)) (fun j hj => by rw [hget j hj]; exact hr _ (by omega)))
               split
               · intro hb
                 obtain ⟨h0, h1⟩ := zep hb
                 cases hx with
                 | iptr _ _ b o' vs hD hv hone hr => exact key b o' vs hD hv hone hr rfl h0 h1 _ (fun j hj => by
                     have : j = 0 := by omega
                     subst this; simp [std])
               · intro hb
                 obtain ⟨h0, h1⟩ := zep hb
                 cases hx with
                 | iptr _ _ b o' vs hD hv hone hr => exact key b o' vs hD hv hone hr rfl h0 h1 _ (fun j hj => rfl)
             · trivial
           · trivial
         · trivial
       · trivial
     · trivial
   · trivial
def Lo (P : Program) (D : Nat -> Prop) (μ : Mu) (t : TypeId) (u : Value) (w : World) : zcj -> Prop
 | .ok v os ice => os = [] /\ ice = [] /\ ∃ y, (Instr.loadAt t u).run P w = .ok y w /\ R w.heap D μ v y
 | .okIf _ _ _ _ => False
 | .okP _ _ _ _ => False
 | .call _ _ _ => False
 | .alt _ _ _ _ _ _ => False
 | .bad _ => True
omit hd in
theorem zwd (hT : zbw P T) {t : TypeId} {v : AV} {u : Value} (hv : R w.heap D μ v u) {ob : Nat -> Option Ob} (hob : ∀ id z, ob id = some z -> g id = some z) : Lo P D μ t u w (ya0 T std t ob [v]) := by
 unfold ya0
 simp only
 split
 · rename_i i hi
   have hpos : i.isAgg = false -> 0 < i.sz := by
     intro hag
     have := (hT t i hi).single hag
     omega
   split
   · rename_i id off
     split
     · rename_i cs hg
       have hg := hob _ _ hg
       split
       · rename_i hle
         have hle := zbh hle
         rw [zal] at hle
         cases hv with
         | ref _ _ b z m hμ =>
           obtain ⟨cc, t', fr, hh, _, _, h1, e1, hr⟩ := h.obs id _ _ hg hμ
           obtain ⟨u, hu, r⟩ := zh1 (P := P) (D := D) (μ := μ) hT hi b off (fun j => cc.getD (off + j) undef) (fun j => zbn .dead cs (off + j))
             (fun j hj => by rw [zbs hh]; exact getD_some (by omega)) (fun j hj => h1 (off + j) _ (getD_some (by omega))) (fun j hj => hr (off + j) _ _ (zaz _ _ _ (by omega)) (getD_some (by omega))) hpos
           split
           · rename_i hag
             rw [hag] at r
             have e2 : znq (fun j => zbn AV.dead cs (off + j)) 0 i.sz = zco (zcz cs off) i.sz := by
               apply List.ext_getElem?
               intro j
               rw [zeo, zb0, zbd, List.getElem?_take, List.getElem?_drop]
               split
               · rw [Nat.zero_add]; exact (zaz _ _ _ (by omega)).symm
               · rfl
             simp only [e2] at r
             exact ⟨rfl, rfl, _, hu, r⟩
           · rename_i hag
             rw [hag] at r
             exact ⟨rfl, rfl, _, hu, r⟩
       · trivial
     · rename_i sz n get hg
       have hg := hob _ _ hg
       split
       · rename_i hag hsz
         have hsz := za4 hsz
         cases hv with
         | ref _ _ b z m hμ =>
           obtain ⟨_, cc, t', fr, hh, hcs, _, hle, hrow⟩ := h.obs id _ _ hg hμ
           have hcell : ∀ q, q < i.sz -> one (cc.getD q undef) /\ R w.heap D zav (yal get sz q) (cc.getD q undef) /\ q < cc.size := by
             intro q hq
             have hs0 : 0 < sz := by
               rcases Nat.eq_zero_or_pos sz with h0 | h0
               · rw [hsz, h0] at hq; omega
               · exact h0
             obtain ⟨y, hy1, hy2, hy3⟩ := hrow (q / sz) (q % sz) (Nat.div_lt_of_lt_mul (by rw [Nat.mul_comm]; omega)) (Nat.mod_lt _ hs0)
             have e3 : q / sz * sz + q % sz = q := by rw [Nat.mul_comm]; exact Nat.div_add_mod q sz
             rw [e3] at hy1
             have hq' : q < cc.size := by omega
             rw [getD_some hq'] at hy1
             cases hy1
             rw [ykf _ _ _ hs0]
             exact ⟨hy2, hy3.mono (fun _ _ => rfl) (fun _ h => h) (fun _ _ h => by cases h), hq'⟩
           obtain ⟨u, hu, r⟩ := zh1 (P := P) (D := D) (μ := zav) hT hi b 0 (fun j => cc.getD j undef) (yal get sz)
             (fun j hj => by rw [zbs hh, Nat.zero_add]; exact getD_some (hcell j hj).2.2) (fun j hj => (hcell j hj).1) (fun j hj => (hcell j hj).2.1) hpos
           rw [hag] at r
           cases zbk 16 i.sz with
           | true => exact ⟨rfl, rfl, _, hu, yaa r⟩
           | false => exact ⟨rfl, rfl, _, hu, r.mono (fun _ _ => rfl) (fun _ h => h) (fun _ _ h => by cases h)⟩
       · trivial
     · rename_i cs hg
       have hg := hob _ _ hg
       split
       · rename_i hle
         have hle := zbh hle
         rw [zal] at hle
         cases hv with
         | ref _ _ b z m hμ =>
           obtain ⟨cc, t', fr, hh, hcz, _, hlz, hr⟩ := h.obs id _ _ hg hμ
           have hcell : ∀ j, j < i.sz -> off + j < cc.size /\ one (cc.getD (off + j) undef) /\ R w.heap D μ (zbn .dead cs (off + j)) (cc.getD (off + j) undef) := by
             intro j hj
             obtain ⟨v, v1, v2, v3⟩ := hr (off + j) _ (zaz .dead cs (off + j) (by omega))
             have hlt := (Array.getElem?_eq_some_iff.1 v1).1
             rw [getD_some hlt] at v1
             cases v1
             exact ⟨hlt, v2, v3⟩
           obtain ⟨u, hu, r⟩ := zh1 (P := P) (D := D) (μ := μ) hT hi b off (fun j => cc.getD (off + j) undef) (fun j => zbn .dead cs (off + j))
             (fun j hj => by rw [zbs hh]; exact getD_some (hcell j hj).1) (fun j hj => (hcell j hj).2.1) (fun j hj => (hcell j hj).2.2) hpos
           split
           · rename_i hag
             rw [hag] at r
             have e2 : znq (fun j => zbn AV.dead cs (off + j)) 0 i.sz = zco (zcz cs off) i.sz := by
               apply List.ext_getElem?
               intro j
               rw [zeo, zb0, zbd, List.getElem?_take, List.getElem?_drop]
               split
               · rw [Nat.zero_add]; exact (zaz _ _ _ (by omega)).symm
               · rfl
             simp only [e2] at r
             exact ⟨rfl, rfl, _, hu, r⟩
           · rename_i hag
             rw [hag] at r
             exact ⟨rfl, rfl, _, hu, r⟩
       · trivial
     · trivial
   · rename_i id sz q off
     split
     · rename_i sz' n get hg
       have hg := hob _ _ hg
       split
       · rename_i hsz
         obtain rfl := za4 hsz
         split
         · rename_i hle
           have hle := zbh hle
           cases hv with
           | eref _ _ _ _ b z m hμ hi' =>
             obtain ⟨hm', cc, t', fr, hh, hcs, _, hle', hrow⟩ := h.obs id _ _ hg hμ
             subst hm'
             have hcell : ∀ j, j < i.sz -> ∃ y, cc[q * sz + off + j]? = some y /\ one y /\ R w.heap D μ (get q (off + j)) y := by
               intro j hj
               obtain ⟨y, hy1, hy2, hy3⟩ := hrow q (off + j) hi' (by omega)
               exact ⟨y, by rw [Nat.add_assoc]; exact hy1, hy2, hy3.mono (fun _ _ => rfl) (fun _ h => h) (fun _ _ h => by cases h)⟩
             obtain ⟨u, hu, r⟩ := zh1 (P := P) (D := D) (μ := μ) hT hi b (q * sz + off) (fun j => cc.getD (q * sz + off + j) undef) (fun j => get q (off + j))
               (fun j hj => by
                 obtain ⟨y, hy1, _⟩ := hcell j hj
                 rw [zbs hh]
                 exact getD_some (Array.getElem?_eq_some_iff.1 hy1).1)
               (fun j hj => by
                 obtain ⟨y, hy1, hy2, _⟩ := hcell j hj
                 rw [getD_some (Array.getElem?_eq_some_iff.1 hy1).1] at hy1
                 cases hy1; exact hy2)
               (fun j hj => by
                 obtain ⟨y, hy1, _, hy3⟩ := hcell j hj
                 rw [getD_some (Array.getElem?_eq_some_iff.1 hy1).1] at hy1
                 cases hy1; exact hy3) hpos
             split
             · rename_i hag
               rw [hag] at r
               exact ⟨rfl, rfl, _, hu, r⟩
             · rename_i hag
               rw [hag] at r
               exact ⟨rfl, rfl, _, hu, r⟩
         · trivial
       · trivial
     · trivial
   · rename_i n get
     split
     · rename_i hle
       have hle := zbh hle
       cases hv with
       | iptr _ _ b o' vs hD hv hone hr =>
         obtain ⟨u, hu, r⟩ := zh1 (P := P) (D := D) (μ := μ) hT hi b o' vs get (fun j hj => hv j (by omega)) (fun j hj => hone j (by omega)) (fun j hj => (hr j (by omega)).free) hpos
         split
         · rename_i hag
           rw [hag] at r
           exact ⟨rfl, rfl, _, hu, r⟩
         · rename_i hag
           rw [hag] at r
           exact ⟨rfl, rfl, _, hu, r⟩
     · trivial
   · rename_i id off n q
     split
     · rename_i ty cs hg
       have hg := hob _ _ hg
       split
       · rename_i hag hle
         have hle := zbh hle
         rw [zal] at hle
         have hs := (hT t i hi).single hag
         cases hv with
         | bidx _ _ _ _ b z m hμ hq =>
           obtain ⟨cc, t', fr, hh, _, _, h1, e1, hr⟩ := h.obs id _ _ hg hμ
           have hx : cs[off + q]? = some (zji std (zco (zcz cs off) n) 1 q 0) := by
             have := zf3 (cs := zco (zcz cs off) n) (sz := 1) (n := n) (by rw [zb0, zbd]; simp; omega) (i := q) (j := 0) hq (by omega)
             rw [zb0, zbd, List.getElem?_take, if_pos (by omega), List.getElem?_drop, Nat.mul_one, Nat.add_zero] at this
             rw [zb0, zbd]
             exact this
           have hlt : off + q < cc.size := by rw [<- e1]; exact (List.getElem?_eq_some_iff.1 hx).1
           obtain ⟨u, hu, r⟩ := zh1 (P := P) (D := D) (μ := μ) hT hi b (off + q) (fun j => cc.getD (off + q + j) undef) (fun j => match j with | 0 => zji std (zco (zcz cs off) n) 1 q 0 | _ => .dead)
             (fun j hj => by rw [zbs hh]; exact getD_some (by omega)) (fun j hj => h1 _ _ (getD_some (by omega))) (fun j hj => by
               have : j = 0 := by omega
               subst this
               exact hr (off + q) _ _ hx (getD_some hlt)) hpos
           rw [hag] at r
           exact ⟨rfl, rfl, _, hu, r⟩
       · trivial
     · trivial
   · trivial
 · trivial
theorem yc5 (hT : zbw P T) {t : TypeId} {x : Operand} (e : o.op = .load t x) {vals : List AV} (hv : Ops w.heap D μ a [x] vals) {ob : Nat -> Option Ob} (hob : ∀ id z, ob id = some z -> g id = some z) :
   zc7 P base M W nt f g c o a w (ya0 T std t ob vals) := by
 match vals, hv with
 | [v], ⟨hv, _⟩ =>
   have run : ∀ u, (Instr.loadAt t (a.eval x)).run P w = .ok u w -> (execOp a.eval o).run P w = .ok (.value u) w := by
     intro u hu; unfold execOp; rw [e]; simp [hu]
   have hl := zwd h hT (t := t) hv hob
   generalize ya0 T std t ob [v] = z at hl
   cases z with
   | ok v' os ice =>
     obtain ⟨rfl, rfl, y, hy, r⟩ := hl
     exact za0 h hd (run _ hy) r
   | bad n => trivial
   | _ => exact hl.elim
end
end Sy
end Go.Proofs.YtogpolfhcbgcbaaGreatDoor
namespace Go.Proofs.YtogpolfhcbgcbaaGreatDoor
namespace Sy
open Go Go.RowKit
set_option linter.unusedSimpArgs false
set_option linter.unusedVariables false
def zey (a : Act) : Option Operand -> Option Int -> Prop
 | none, none => True
 | some x, some i => ∃ k, a.eval x = .int k i
 | _, _ => False
theorem ze4 {P : Program} {w : World} {a : Act} (isS : Bool) (len cap : Nat) {lo hi : Option Operand} {p q : Option Int} (h1 : zey a lo p) (h2 : zey a hi q)
   (l r : Nat) (hl : (p.getD 0) = (l : Int)) (hr : (q.getD len) = (r : Int)) (hlr : l <= r) (hrc : r <= cap) :
   (Instr.sliceBounds isS len cap (lo.map a.eval) (hi.map a.eval) none).run P w = .ok (l, r, cap) w := by
 unfold Instr.sliceBounds
 cases lo with
 | none =>
   cases p with
   | some _ => exact h1.elim
   | none =>
     cases hi with
     | none =>
       cases q with
       | some _ => exact h2.elim
       | none => simp at hl hr; simp; omega
     | some y =>
       cases q with
       | none => exact h2.elim
       | some j =>
         obtain ⟨k, e⟩ := h2
         simp at hl hr
         subst hr
         simp [e, Instr.sliceBound, asIntOf, hrc]
         omega
 | some x =>
   cases p with
   | none => exact h1.elim
   | some i =>
     obtain ⟨k, e⟩ := h1
     simp at hl
     subst hl
     cases hi with
     | none =>
       cases q with
       | some _ => exact h2.elim
       | none =>
         simp at hr
         obtain rfl : len = r := by omega
         simp [e, Instr.sliceBound, asIntOf, hlr]
     | some y =>
       cases q with
       | none => exact h2.elim
       | some j =>
         obtain ⟨k', e'⟩ := h2
         simp at hr
         subst hr
         simp [e, e', Instr.sliceBound, asIntOf, hrc, hlr]
section
variable {P : Program} {T : TT} {base : Nat} {M : Two} {W : World} {nt : Nat} {f : Nat -> Option AV} {g : Nat -> Option Ob} {c : Nat -> Bool} {a : Act} {w : World} {D : Nat -> Prop} {μ : Mu} {o : Oper}
theorem ysh {lo hi m : Option Operand} {vs : List AV} {p q : Option Int} (e : two vs lo.isSome hi.isSome m.isSome = some (p, q)) (hv : Ops w.heap D μ a (lo.toList ++ (hi.toList ++ m.toList)) vs) :
   m = none /\ zey a lo p /\ zey a hi q := by
 cases m with
 | some _ => cases lo <;> cases hi <;> simp [two] at e
 | none =>
   refine ⟨rfl, ?_⟩
   cases lo with
   | none =>
     cases hi with
     | none => simp [two] at e; obtain ⟨rfl, rfl⟩ := e; exact ⟨trivial, trivial⟩
     | some y =>
       simp only [two, Option.isSome] at e
       split at e
       · cases e
         exact ⟨trivial, _, hv.1.inv_int⟩
       · cases e
   | some x =>
     cases hi with
     | none =>
       simp only [two, Option.isSome] at e
       split at e
       · cases e
         exact ⟨⟨_, hv.1.inv_int⟩, trivial⟩
       · cases e
     | some y =>
       simp only [two, Option.isSome] at e
       split at e
       · cases e
         exact ⟨⟨_, hv.1.inv_int⟩, _, hv.2.1.inv_int⟩
       · cases e
theorem zj1 {n : Int} {p q : Option Int} (hn : 0 <= n) (h : zq2 std n p q = true) :
   ∃ l r : Nat, (p.getD 0) = (l : Int) /\ (q.getD n) = (r : Int) /\ l <= r /\ (r : Int) <= n /\ (∀ off, yv7 std off p = off + l) /\ (∀ n' : Nat, n = n' -> zxa std n' p q = r - l) /\
     (∀ s : List UInt8, n = s.length -> ys3 std s p q = (s.take r).drop l) /\ (∀ get i j, yh9 std get p i j = get (l + i) j) := by
 cases p with
 | none =>
   cases q with
   | none => exact ⟨0, n.toNat, rfl, by simp; omega, by omega, by omega, fun off => rfl, fun n' e => by simp [zxa]; omega, fun s e => by simp [ys3]; rw [List.take_of_length_le (by omega)], fun get i j => by simp [yh9]⟩
   | some b =>
     have h' : 0 <= b /\ b <= n := by simpa [zq2, L2, std, inC] using h
     exact ⟨0, b.toNat, rfl, by simp; omega, by omega, by omega, fun off => rfl, fun n' e => by simp [zxa, std], fun s e => by simp [ys3, L2, std], fun get i j => by simp [yh9]⟩
 | some l =>
   cases q with
   | none =>
     have h' : 0 <= l /\ l <= n := by simpa [zq2, L2, std, inC] using h
     exact ⟨l.toNat, n.toNat, by simp; omega, by simp; omega, by omega, by omega, fun off => rfl, fun n' e => by simp [zxa, L2, std]; omega, fun s e => by
       simp [ys3, L2, std]; rw [List.take_of_length_le (by omega)], fun get i j => rfl⟩
   | some b =>
     have h' : (0 <= l /\ l <= b) /\ b <= n := by simpa [zq2, L3, std, inS] using h
     exact ⟨l.toNat, b.toNat, by simp; omega, by simp; omega, by omega, by omega, fun off => rfl, fun n' e => by simp [zxa, L2, std], fun s e => by simp [ys3, L3, std, ywp], fun get i j => rfl⟩
variable (h : Sim base M W nt f g c a w D μ) (hd : ∀ d, o.dst = some d -> d < nt)
include h hd
theorem zxy (hT : zbw P T) {t : TypeId} {x : Operand} {lo hi m : Option Operand} (e : o.op = .slice t x lo hi m) {vals : List AV} (hv : Ops w.heap D μ a (x :: (lo.toList ++ (hi.toList ++ m.toList))) vals)
   {ob : Nat -> Option Ob} (hob : ∀ id z, ob id = some z -> g id = some z) :
   zc7 P base M W nt f g c o a w (yg1 T std t ob lo.isSome hi.isSome m.isSome vals) := by
 match vals, hv with
 | v :: vs, ⟨hx, hv⟩ =>
   unfold yg1
   simp only
   split
   · rename_i ti hti
     split
     · rename_i p q htwo
       obtain ⟨rfl, hb1, hb2⟩ := ysh htwo hv
       have run : ∀ u, (Instr.sliceAt t (a.eval x) (lo.map a.eval) (hi.map a.eval) none).run P w = .ok u w -> (execOp a.eval o).run P w = .ok (.value u) w := by
         intro u hu; unfold execOp; rw [e]; simp [hu]
       generalize a.eval x = u at *
       have ok := (hT t ti hti).k
       split
       · rename_i n e' esz id off hk
         rw [hk] at ok
         obtain ⟨ok1, ok2⟩ := ok
         obtain ⟨ei, hei, hes⟩ := Option.map_eq_some_iff.1 ok2
         have hso : (sizeOf e').run P w = .ok esz w := by simp [sizeOf, typeInfo, program, Sem.run, hei, hes]
         split
         · rename_i ty sz n' get hg
           have hg := hob _ _ hg
           split
           · rename_i hsz hnn
             obtain rfl := za4 hsz
             obtain rfl := za4 hnn
             intro hb
             obtain ⟨l, r, e1, e2, e3, e4, e5, e6, _, e7⟩ := zj1 (n := (n' : Int)) (by omega) hb
             cases hx with
             | ref _ _ b z m hμ =>
               obtain ⟨hm, C, t', fr, hh, hcs, _, hle, hrow⟩ := h.obs id _ _ hg hμ
               subst hm
               have hbr := ze4 (P := P) (w := w) false n' n' hb1 hb2 l r e1 e2 e3 (by omega)
               have h1 : (Instr.sliceAt t (.pointer (some ⟨b, 0, none⟩)) (lo.map a.eval) (hi.map a.eval) none).run P w = .ok (.slice (some (if n' = l then ⟨b, 0, none⟩ else (⟨b, 0, none⟩ : Addr).add (l * esz))) (r - l) (n' - l)) w := by
                 simp [Instr.sliceAt, Instr.sureAddr, run_underlying ok1, hbr, hso]
               rw [show zxa (fun {α β} => std) n' p q = r - l from e6 n' rfl, show yv7 (fun {α β} => std) 0 p = 0 + l from e5 0, Nat.zero_add]
               by_cases hcl : n' = l
               · subst hcl
                 rw [if_pos rfl] at h1
                 have h0 : r - n' = 0 := by omega
                 rw [h0, Nat.sub_self] at h1
                 rw [h0]
                 exact za0 h hd (run _ h1) (.sl0 _ _ _ b z n' _ hμ (Nat.le_refl _))
               · rw [if_neg hcl, zbe, Nat.zero_add] at h1
                 refine za0 h hd (run _ h1) (.sl _ _ _ _ b z n' _ hμ (by omega) (by rw [show l + (n' - l) = n' by omega]; exact hle) (by omega))
           · trivial
         · rename_i ty cs hg
           have hg := hob _ _ hg
           split
           · rename_i hsz hle hfr
             obtain rfl := za4 hsz
             have hle := zbh hle
             rw [zal] at hle
             intro hb
             obtain ⟨l, r, e1, e2, e3, e4, e5, e6, _, e7⟩ := zj1 (n := (n : Int)) (by omega) hb
             cases hx with
             | ref _ _ b z m hμ =>
               obtain ⟨C, t', fr, hh, hcs, _, h1c, hl, hr⟩ := h.obs id _ _ hg hμ
               have hbr := ze4 (P := P) (w := w) false n n hb1 hb2 l r e1 e2 e3 (by omega)
               have h1 : (Instr.sliceAt t (.pointer (some ⟨b, off, none⟩)) (lo.map a.eval) (hi.map a.eval) none).run P w = .ok (.slice (some (if n = l then ⟨b, off, none⟩ else (⟨b, off, none⟩ : Addr).add (l * 1))) (r - l) (n - l)) w := by
                 simp [Instr.sliceAt, Instr.sureAddr, run_underlying ok1, hbr, hso]
               have h' := h.freeze [id] (fun i hi => by simp at hi; subst hi; exact ⟨_, hg, by simp⟩)
               have hcell : ∀ k, k < n -> ∃ v, C[off + k]? = some v /\ one v /\ R w.heap D zav (zji std (zco (zcz cs off) n) 1 k 0) v := by
                 intro k hk
                 have hx := zf3 (cs := zco (zcz cs off) n) (sz := 1) (n := n) (by rw [zb0, zbd]; simp; omega) (i := k) (j := 0) hk (by omega)
                 have hf := zd1 hfr _ _ hx
                 rw [zb0, zbd, List.getElem?_take, if_pos (by omega), List.getElem?_drop, Nat.mul_one, Nat.add_zero] at hx
                 have hlt : off + k < C.size := by rw [<- hl]; exact (List.getElem?_eq_some_iff.1 hx).1
                 rw [zb0, zbd] at hf |-
                 exact ⟨_, getD_some hlt, h1c _ _ (getD_some hlt), zdm (hr _ _ _ hx (getD_some hlt)) hf⟩
               intro K Q hK
               unfold Oper.wp
               rw [run _ h1]
               refine hK _ _ ⟨_, _, h'.put hd ?_⟩
               rw [show zxa (fun {α β} => std) n p q = r - l from e6 n rfl]
               by_cases h0 : r - l = 0
               · rw [h0]
                 exact .lst0 _ _ _ _ (fun h => by cases h)
               · rw [if_neg (by omega), zbe, Nat.mul_one]
                 refine .lst 1 (r - l) _ b (off + l) (n - l) (fun i j => C.getD (off + l + i * 1 + j) undef) (.inr ⟨id, z, m, by simp, hμ⟩) (by omega) (fun i j hi hj => ?_) (fun i j hi hj => ?_) (fun i j hi hj => ?_)
                 all_goals
                   have hj0 : j = 0 := by omega
                   subst hj0
                   obtain ⟨v, v1, v2, v3⟩ := hcell (l + i) (by omega)
                   have ev : C.getD (off + l + i * 1 + 0) undef = v := by
                     rw [show off + l + i * 1 + 0 = off + (l + i) by omega, Array.getD_eq_getD_getElem?, v1]; rfl
                 · rw [zbs hh]
                   show _ = some (C.getD (off + l + i * 1 + 0) undef)
                   rw [ev, show off + l + i * 1 + 0 = off + (l + i) by omega, v1]
                 · show one (C.getD (off + l + i * 1 + 0) undef)
                   rw [ev]; exact v2
                 · show R _ _ _ _ (C.getD (off + l + i * 1 + 0) undef)
                   rw [ev, e7]
                   exact v3.mono (fun _ _ => rfl) (fun _ h => .inl h) (fun _ _ h => h)
           · trivial
         · trivial
       · rename_i s hk
         rw [hk] at ok
         intro hb
         obtain ⟨s', rfl, rfl⟩ := hx.inv_str
         obtain ⟨l, r, e1, e2, e3, e4, _, _, e5, _⟩ := zj1 (n := std slen s'.data.toList) (by simp [std, slen]) hb
         have hsz : (std slen s'.data.toList : Int) = s'.size := by simp [std, slen]
         rw [hsz] at e2 e4
         refine za0 h hd (u := .string (s'.extract l r)) (run _ ?_) ?_
         · have hbr := ze4 (P := P) (w := w) false s'.size s'.size hb1 hb2 l r e1 e2 e3 (by omega)
           simp [Instr.sliceAt, Instr.slice, run_underlying ok, hbr]
         · rw [e5 _ (by rw [hsz]; simp)]
           exact .str _ _ (by
             simp [List.take_drop, List.extract_eq_take_drop]
             try rw [show l + (r - l) = r by omega])
       · rename_i e' esz eb sz n get hk
         rw [hk] at ok
         obtain ⟨ok1, ok2⟩ := ok
         obtain ⟨ei, hei, hes⟩ := Option.map_eq_some_iff.1 ok2
         simp only [Prod.mk.injEq] at hes
         have hso : (sizeOf e').run P w = .ok esz w := by simp [sizeOf, typeInfo, program, Sem.run, hei, hes.1]
         split
         · rename_i hsz
           obtain rfl := za4 hsz
           intro hb
           obtain ⟨l, r, e1, e2, e3, e4, e5, e6, _, e7⟩ := zj1 (n := (n : Int)) (by omega) hb
           have go : ∀ ad cap, n <= cap -> u = .slice ad n cap -> (Instr.sliceAt t u (lo.map a.eval) (hi.map a.eval) none).run P w = .ok (.slice (if cap = l then ad else ad.map (·.add (l * esz))) (r - l) (cap - l)) w := by
             rintro ad cap hc rfl
             have hbr := ze4 (P := P) (w := w) true n cap hb1 hb2 l r e1 e2 e3 (by omega)
             simp [Instr.sliceAt, Instr.slice, run_underlying ok1, hbr, hso]
           have hN : zxa std n p q = r - l := e6 n rfl
           rw [show zxa (fun {α β} => std) n p q = r - l from hN]
           cases hx with
           | lst0 _ _ ad cap hn =>
             have h0 : r - l = 0 := by omega
             have h1 := go ad cap (by omega) rfl
             rw [h0] at h1 |-
             exact za0 h hd (run _ h1) (.lst0 _ _ _ _ (fun h => by
               have h2 : ad = none := by
                 cases ad with
                 | none => rfl
                 | some _ => split at h <;> cases h
               have := hn h2; omega))
           | lst _ _ _ b o' cap vs hD hc hv hone hr =>
             have h1 := go _ cap hc rfl
             by_cases h0 : r - l = 0
             · rw [h0] at h1 |-
               exact za0 h hd (run _ h1) (.lst0 _ _ _ _ (fun h => by split at h <;> cases h))
             · rw [if_neg (by omega)] at h1
               simp only [Option.map_some, zbe] at h1
               refine za0 h hd (run _ h1) (.lst _ _ _ b _ _ (fun i j => vs (l + i) j) hD (by omega) (fun i j hi hj => ?_) (fun i j hi hj => hone _ _ (by omega) hj) (fun i j hi hj => ?_))
               · have := hv (l + i) j (by omega) hj
                 rw [Nat.add_mul] at this
                 rw [show o' + l * esz + i * esz + j = o' + (l * esz + i * esz) + j by omega]
                 exact this
               · rw [show yh9 (fun {α β} => std) get p i j = get (l + i) j from e7 get i j]
                 exact hr _ _ (by omega) hj
         · trivial
       · rename_i e' esz eb id sz off n hk
         rw [hk] at ok
         obtain ⟨ok1, ok2⟩ := ok
         obtain ⟨ei, hei, hes⟩ := Option.map_eq_some_iff.1 ok2
         simp only [Prod.mk.injEq] at hes
         have hso : (sizeOf e').run P w = .ok esz w := by simp [sizeOf, typeInfo, program, Sem.run, hei, hes.1]
         split
         · rename_i hsz
           obtain rfl := za4 hsz
           intro hb
           obtain ⟨l, r, e1, e2, e3, e4, e5, e6, _, e7⟩ := zj1 (n := (n : Int)) (by omega) hb
           have go : ∀ ad cap, n <= cap -> u = .slice ad n cap -> (Instr.sliceAt t u (lo.map a.eval) (hi.map a.eval) none).run P w = .ok (.slice (if cap = l then ad else ad.map (·.add (l * esz))) (r - l) (cap - l)) w := by
             rintro ad cap hc rfl
             have hbr := ze4 (P := P) (w := w) true n cap hb1 hb2 l r e1 e2 e3 (by omega)
             simp [Instr.sliceAt, Instr.slice, run_underlying ok1, hbr, hso]
           rw [show zxa (fun {α β} => std) n p q = r - l from e6 n rfl, show yv7 (fun {α β} => std) off p = off + l from e5 off]
           cases hx with
           | slv _ _ ad hμ =>
             have h1 := go ad 0 (by omega) rfl
             obtain rfl : l = 0 := by omega
             obtain rfl : r = 0 := by omega
             exact za0 h hd (run _ h1) (.slv _ _ _ hμ)
           | sl0 _ _ _ b z m o' hμ ho =>
             have h1 := go _ 0 (by omega) rfl
             obtain rfl : l = 0 := by omega
             obtain rfl : r = 0 := by omega
             exact za0 h hd (run _ h1) (.sl0 _ _ _ b z m _ hμ ho)
           | sl _ _ _ _ b z m cap hμ hn hz ho =>
             have h1 := go _ cap hn rfl
             by_cases hcl : cap = l
             · subst hcl
               rw [if_pos rfl] at h1
               have h0 : r - cap = 0 := by omega
               rw [h0, Nat.sub_self] at h1
               rw [h0]
               exact za0 h hd (run _ h1) (.sl0 _ _ _ b z m _ hμ (by omega))
             · rw [if_neg hcl] at h1
               simp only [Option.map_some, zbe] at h1
               rw [<- Nat.add_mul] at h1
               exact za0 h hd (run _ h1) (.sl _ _ _ _ b z m _ hμ (by omega) (by rw [show off + l + (cap - l) = off + cap by omega]; exact hz) (by omega))
         · trivial
       · trivial
     · trivial
   · trivial
end
end Sy
end Go.Proofs.YtogpolfhcbgcbaaGreatDoor
namespace Go.Proofs.YtogpolfhcbgcbaaGreatDoor
namespace Sy
open Go Go.RowKit
set_option linter.unusedSimpArgs false
set_option linter.unusedVariables false
def zb9 (C : Array Value) : Nat -> List Value -> Array Value
 | _, [] => C
 | n, x :: xs => zb9 (C.setIfInBounds n x) (n + 1) xs
theorem zm8 (off : Nat) : ∀ (l : List Value) (k : Nat) (C : Array Value), (l.zipIdx k).foldl (fun cs (p : Value × Nat) => cs.setIfInBounds (off + p.2) p.1) C = zb9 C (off + k) l
 | [], k, C => rfl
 | x :: xs, k, C => by
   simp only [List.zipIdx_cons, List.foldl_cons, zb9]
   rw [zm8 off xs (k + 1)]
   rfl
theorem zrr (off : Nat) (X C : Array Value) : X.zipIdx.foldl (fun cs (c, j) => cs.setIfInBounds (off + j) c) C = zb9 C off X.toList := by
 have := zm8 off X.toList 0 C
 rw [Nat.add_zero] at this
 rw [<- this, <- Array.foldl_toList]
 congr 1
 simp
theorem zb1 : ∀ (l : List Value) (n : Nat) (C : Array Value), (zb9 C n l).size = C.size
 | [], n, C => rfl
 | x :: xs, n, C => by simp [zb9, zb1 xs]
section
variable {h : Array Obj} {D : Nat -> Prop} {μ : Mu}
theorem RL.set {xs : List AV} {C : Array Value} (r : RL h D μ xs C) {x : AV} {v : Value} (rx : R h D μ x v) (n : Nat) : RL h D μ (yru x xs n) (C.setIfInBounds n v) := by
 refine ⟨by rw [zlv]; simpa using r.1, fun i y u hy hu => ?_⟩
 rw [zlv, List.getElem?_set] at hy
 rw [Array.getElem?_setIfInBounds] at hu
 by_cases e : n = i
 · rw [if_pos e] at hy hu
   split at hy
   · split at hu
     · cases hy; cases hu; exact rx
     · cases hu
   · cases hy
 · rw [if_neg e] at hy hu
   exact r.2 i y u hy hu
theorem ones.set {C : Array Value} (r : ones C) {v : Value} (h1 : one v) (n : Nat) : ones (C.setIfInBounds n v) := by
 intro i u hu
 rw [Array.getElem?_setIfInBounds] at hu
 split at hu
 · split at hu
   · cases hu; exact h1
   · cases hu
 · exact r i u hu
def RLL (h : Array Obj) (D : Nat -> Prop) (μ : Mu) : List AV -> List Value -> Prop
 | [], [] => True
 | x :: xs, v :: vs => (R h D μ x v /\ one v) /\ RLL h D μ xs vs
 | _, _ => False
theorem RLL.len : ∀ {xs : List AV} {vs : List Value}, RLL h D μ xs vs -> xs.length = vs.length
 | [], [], _ => rfl
 | _ :: _, _ :: _, r => by simp [RLL.len r.2]
theorem RLL.of : ∀ {xs : List AV} {vs : List Value}, xs.length = vs.length -> (∀ (i : Nat) x v, xs[i]? = some x -> vs[i]? = some v -> R h D μ x v) -> (∀ v ∈ vs, one v) -> RLL h D μ xs vs
 | [], [], _, _, _ => trivial
 | x :: xs, v :: vs, e, r, h1 => ⟨⟨r 0 x v rfl rfl, h1 v (by simp)⟩, RLL.of (by simpa using e) (fun i y u hy hu => r (i + 1) y u (by simpa using hy) (by simpa using hu)) (fun u hu => h1 u (by simp [hu]))⟩
theorem RLL.get : ∀ {xs : List AV} {vs : List Value}, RLL h D μ xs vs -> ∀ (i : Nat) x v, xs[i]? = some x -> vs[i]? = some v -> R h D μ x v /\ one v
 | x :: xs, v :: vs, r, 0, y, u, hy, hu => by simp at hy hu; subst hy; subst hu; exact r.1
 | x :: xs, v :: vs, r, i + 1, y, u, hy, hu => RLL.get r.2 i y u (by simpa using hy) (by simpa using hu)
theorem zok : ∀ {ys : List AV} {vs : List Value} {xs : List AV} {C : Array Value} (n : Nat), RL h D μ xs C -> ones C -> RLL h D μ ys vs -> RL h D μ (zgj xs n ys) (zb9 C n vs) /\ ones (zb9 C n vs)
 | [], [], xs, C, n, r, h1, _ => ⟨r, h1⟩
 | y :: ys, v :: vs, xs, C, n, r, h1, hr => zok (n + 1) (r.set hr.1.1 n) (h1.set hr.1.2 n) hr.2
theorem zmh {x : AV} {v : Value} (r : R h D μ x v) (hs : zl8 x = true) : RLL h D μ x.cells v.cells.toList := by
 cases r with
 | agg cs vs e h1 hr => exact RLL.of (xs := cs) (vs := vs.toList) (by simpa using e) (fun i y u hy hu => hr i y u hy (by simpa using hu)) (fun u hu => by
     obtain ⟨i, hi⟩ := List.getElem?_of_mem hu
     exact h1 i u (by simpa using hi))
 | arr n get vs e h1 hr =>
   have k1 : (znq get 0 n).length = vs.toList.length := by rw [zh0, e]; simp
   have k2 : ∀ (i : Nat) x v, (znq get 0 n)[i]? = some x -> vs.toList[i]? = some v -> R h D μ x v := by
     intro i y u hy hu
     rw [zeo] at hy
     split at hy
     · cases hy
       rw [Nat.zero_add]
       exact (hr i u (by simpa using hu)).free
     · cases hy
   have k3 : ∀ v ∈ vs.toList, one v := by
     intro u hu
     obtain ⟨i, hi⟩ := List.getElem?_of_mem hu
     exact h1 i u (by simpa using hi)
   exact RLL.of k1 k2 k3
 | dead => cases hs
 | tup => cases hs
 | _ => exact ⟨⟨by first | exact R.bool _ | exact R.int _ _ | exact R.str _ _ ‹_› | exact R.nilp | exact R.nilm | exact R.nilf | exact R.nils | exact R.nili | exact R.ifn | exact R.ifs _ _ | exact R.emp _ _ | exact R.emz _ | exact R.lst0 _ _ _ _ ‹_› | (constructor <;> assumption), rfl⟩, trivial⟩
def Parts (h : Array Obj) (D : Nat -> Prop) (μ : Mu) (a : Act) : List (Nat × Operand) -> List AV -> Prop
 | [], [] => True
 | p :: ps, v :: vs => R h D μ v (a.eval p.2) /\ Parts h D μ a ps vs
 | _, _ => False
theorem zkq {a : Act} {pl : Nat -> Option (Nat × Nat)} : ∀ (ps : List (Nat × Operand)) (vals : List AV) (cells : List AV) (C : Array Value) (cs : List AV), zrw pl cells ps vals = some cs -> zfk vals = true -> Parts h D μ a ps vals ->
   RL h D μ cells C -> ones C -> ∃ C', Instr.fill pl C (ps.map fun p => (p.1, a.eval p.2)) = some C' /\ RL h D μ cs C' /\ ones C'
 | [], [], cells, C, cs, e, _, _, r, h1 => by
   cases e
   exact ⟨C, rfl, r, h1⟩
 | [], _ :: _, _, _, _, e, _, _, _, _ => by cases e
 | (i, p) :: ps, [], _, _, _, e, _, _, _, _ => by cases e
 | (i, p) :: ps, v :: vs, cells, C, cs, e, hs, hp, r, h1 => by
   simp only [zrw] at e
   split at e
   · rename_i off size hpl
     split at e
     · rename_i hsz
       have hsz := za4 hsz
       split at e
       · rename_i hle
         have hle := zbh hle
         simp only [zfk] at hs
         split at hs
         · rename_i hv
           have rc := zmh hp.1 hv
           have hlen := rc.len
           rw [zal] at hsz hle
           obtain ⟨w1, w2⟩ := zok off r h1 rc
           obtain ⟨C', f1, f2, f3⟩ := zkq ps vs _ _ cs e hs hp.2 w1 w2
           refine ⟨C', ?_, f2, f3⟩
           simp only [List.map_cons, Instr.fill, hpl]
           have hcs : (a.eval p).cells.size = size := by rw [<- hsz, hlen]; simp
           have : ¬ ((a.eval p).cells.size ≠ size \/ off + (a.eval p).cells.size > C.size) := by
             rw [<- r.1]; omega
           simp only [Bool.or_eq_true, decide_eq_true_eq, this, if_false]
           rw [zrr]
           exact f1
         · cases hs
       · cases e
     · cases e
   · cases e
end
section
variable {P : Program} {T : TT} {base : Nat} {M : Two} {W : World} {nt : Nat} {f : Nat -> Option AV} {g : Nat -> Option Ob} {c : Nat -> Bool} {a : Act} {w : World} {D : Nat -> Prop} {μ : Mu} {o : Oper}
theorem ym1 {α : Type} : ∀ (l : List α) (i : Nat), nth l i = l[i]?
 | [], i => rfl
 | x :: xs, 0 => rfl
 | x :: xs, i + 1 => by simp [nth, ym1 xs i]
theorem zr1 (hT : zbw P T) : ∀ (F : List Field) (fs pl : List (Nat × Nat)), F.map (fun f => (f.offset, f.type)) = fs -> zkj T fs = some pl ->
   F.mapM (fun f => (P.info? f.type).map fun i => (f.offset, i.size)) = some pl
 | [], _, pl, rfl, e => by cases e; rfl
 | fd :: F, _, pl, rfl, e => by
   simp only [List.map_cons, zkj] at e
   split at e
   · rename_i s hs
     split at e
     · rename_i l hl
       cases e
       have ih := zr1 hT F _ l rfl hl
       unfold TT.sizeOf at hs
       split at hs
       · rename_i ti hti
         cases hs
         obtain ⟨i, z, h1, h2, _⟩ := (hT _ ti hti).info
         simp [List.mapM_cons, h1, h2, ih]
       · cases hs
     · cases e
   · cases e
theorem zvq {ps : List (Nat × Operand)} : ∀ {vals : List AV}, Ops w.heap D μ a (ps.map Prod.snd) vals -> Parts w.heap D μ a ps vals := by
 induction ps with
 | nil => intro vals hv; cases vals with
   | nil => exact trivial
   | cons _ _ => exact hv.elim
 | cons p ps ih => intro vals hv; cases vals with
   | nil => exact hv.elim
   | cons v vs => exact ⟨hv.1, ih hv.2⟩
variable (h : Sim base M W nt f g c a w D μ) (hd : ∀ d, o.dst = some d -> d < nt)
include h hd
theorem zyc (hT : zbw P T) {t : TypeId} {ps : Array (Nat × Operand)} (e : o.op = .build t ps) {vals : List AV} (hv : Ops w.heap D μ a (ps.toList.map Prod.snd) vals) :
   zc7 P base M W nt f g c o a w (ygh T t ps.toList vals) := by
 have run : ∀ u, (Instr.build t (ps.map fun (i, x) => (i, a.eval x))).run P w = .ok u w -> (execOp a.eval o).run P w = .ok (.value u) w := by
   intro u hu; unfold execOp; rw [e]; simp [hu]
 unfold ygh
 split
 · rename_i i hi
   have ok := hT t i hi
   obtain ⟨ii, z, i1, i2, i3, i4, i5, i6⟩ := ok.info
   have okk := ok.k
   split
   · rename_i fs hk
     rw [hk] at okk
     obtain ⟨F, hF, hfs⟩ := okk
     split
     · rename_i pl hpl
       split
       · rename_i cs hcs
         cases hs : zfk vals with
         | false => rw [hs] at hcs; cases hcs
         | true =>
           rw [hs] at hcs
           obtain ⟨C', f1, f2, f3⟩ := zkq (h := w.heap) (D := D) (μ := μ) ps.toList vals i.zero z.cells cs hcs hs (zvq hv) (i6 _ _ _) i4
           refine za0 h hd (run (.agg C') (run_build w t _ C' ?_)) (.agg _ _ f2.1 f3 f2.2)
           unfold Program.built
           simp only [i1, hF, i3, zr1 hT F.toList fs pl hfs hpl]
           have e2 : (fun x => pl.toArray[x]?) = nth pl := by funext x; rw [ym1]; simp
           rw [e2]
           simpa using f1
       · trivial
     · trivial
   · rename_i n e' esz hk
     rw [hk] at okk
     obtain ⟨ok1, ok2⟩ := okk
     obtain ⟨ei, hei, hes⟩ := Option.map_eq_some_iff.1 ok2
     split
     · rename_i cs hcs
       cases hs : zfk vals with
       | false => rw [hs] at hcs; cases hcs
       | true =>
         rw [hs] at hcs
         obtain ⟨C', f1, f2, f3⟩ := zkq (h := w.heap) (D := D) (μ := μ) ps.toList vals i.zero z.cells cs hcs hs (zvq hv) (i6 _ _ _) i4
         refine za0 h hd (run (.agg C') (run_build w t _ C' ?_)) (.agg _ _ f2.1 f3 f2.2)
         unfold Program.built
         simp only [i1, ok1, i3, hei, hes]
         simpa using f1
     · trivial
   · trivial
 · trivial
end
end Sy
end Go.Proofs.YtogpolfhcbgcbaaGreatDoor
