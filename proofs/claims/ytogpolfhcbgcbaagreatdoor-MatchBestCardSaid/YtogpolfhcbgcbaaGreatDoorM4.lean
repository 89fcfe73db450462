/-The symbolic executor: at this seat's program. Small facts on worlds, strings as lists of bytes, rows of bytes: used by every walk of this seat; no statement of the seat is proved here; and what stands between these and the texts behind.-/
import Derived.Test.YtogpolfhcbgcbaaGreatDoorM3
import Derived.Test.YtogpolfhcbgcbaaGreatDoorRows
import Derived.WalkKit
import Derived.WalkSpells
import Derived.WalkLawsBesides
import Derived.Deep.DeepCutAuto
import Derived.Deep.OwnRows
import Derived.Laws.IdiomStrings
import Derived.Lib.Hide
import Derived.Below
import Derived.ChangeSame
import Derived.ScopeJumps
import Derived.ProofKit
import Derived.OpenShut
import Derived.Carry
import Derived.Lib.SmallJoins
import Derived.RegionTactic
import Derived.BigRegion
import Derived.Test.YtogpolfhcbgcbaaGreatDoorShelf
import Derived.Shelf.Strconv.Itoa3
import Derived.Lib.AppendIntMem
import Derived.Lib.Walk
import Derived.BigCall
import Derived.BigGuard
import Derived.Lib.AtoiErrMem
import Derived.Lib.ParseIntBCases
import Derived.ChangeArms
import Derived.ChangeSlices
import Derived.WideShapes
import Derived.Lib.Builder
import Derived.Lib.Overlaps
import Derived.Laws.FloatArith
namespace Go.Proofs.YtogpolfhcbgcbaaGreatDoor
namespace Sy
open Go Go.RowKit
set_option maxRecDepth 100000
set_option linter.unusedSimpArgs false
section
variable {P : Program} {Q : AV -> Prop}
theorem yfl {b : Bool} {k : zby} : Sat P Q (.need b k) ↔ b = true /\ Sat P Q k := ⟨fun h => by cases h with | need h hk => exact ⟨h, hk⟩, fun h => .need h.1 h.2⟩
theorem yfm {p : Prop} {k : zby} : Sat P Q (.must p k) ↔ p /\ Sat P Q k := ⟨fun h => by cases h with | must h hk => exact ⟨h, hk⟩, fun h => .must h.1 h.2⟩
theorem yky {b : Bool} {t e : zby} : Sat P Q (.ite b t e) ↔ (b = true -> Sat P Q t) /\ (b = false -> Sat P Q e) := ⟨fun h => by cases h with | ite h hk => exact ⟨h, hk⟩, fun h => .ite h.1 h.2⟩
theorem yfo {r : AV} : Sat P Q (.done r) ↔ Q r := ⟨fun h => by cases h with | done h => exact h, fun h => .done h⟩
theorem ykw : Sat P Q .yes ↔ True := ⟨fun _ => trivial, fun _ => .yes⟩
theorem yps {X : Type} {f : X -> zby} : Sat P Q (.ex X f) ↔ ∃ x, Sat P Q (f x) := ⟨fun h => by cases h with | ex x h => exact ⟨x, h⟩, fun ⟨x, h⟩ => .ex x h⟩
theorem yl0 {X : Type} {f : X -> zby} : Sat P Q (.all X f) ↔ ∀ x, Sat P Q (f x) := ⟨fun h => by cases h with | all h => exact h, fun h => .all h⟩
theorem ykx {p : Prop} {k : zby} : Sat P Q (.sup p k) ↔ (p -> Sat P Q k) := ⟨fun h => by cases h with | sup h => exact h, fun h => .sup h⟩
theorem ykz {a b : zby} : Sat P Q (.and a b) ↔ Sat P Q a /\ Sat P Q b := ⟨fun h => by cases h with | and h hk => exact ⟨h, hk⟩, fun h => .and h.1 h.2⟩
theorem yfn {n : Nat} : Sat P Q (.fail n) ↔ False := ⟨fun h => (by cases h), fun h => h.elim⟩
set_option linter.defProp false in
def syT := And.intro @yfl (And.intro @yfm (And.intro @yky (And.intro @yfo (And.intro @ykw (And.intro @yps (And.intro @yl0 (And.intro @ykx (And.intro @ykz (@yfn)))))))))
end
theorem za5 {P : Program} {T : TT} {S : za7 -> zm2} {lo lb : za7 -> Nat -> St -> Option Ann} (n : Nat) {f : FuncId} {fn : Func} {c : Code} {xs : List AV} {r : AV} (hf : P.funcs[f]? = some fn) (hb : fn.body = some c) (hn : (fn.name == "runtime.NumGoroutine") = false)
   (hc : zbm fn.ntmps c = true) (hx : (zbg xs.length fn.ntmps && zbg fn.ntmps 500000) = true) (hT : zbr P T) (hS : zcz P (S std)) (hm : P.follows .mixedOrders = true)
   (h : ∀ (L : za7) (P' : Program) (Q' : AV -> Prop), @L = @std -> P' = P -> Q' = zfo r -> Sat P' Q' (yt8 T L (S L) (lo L) (lb L) n fn xs)) : za9 P f xs r :=
 zr1 (lo := lo std) (lb := lb std) hf hb hn hc hx hT hS hm (h std _ _ rfl rfl rfl)
theorem za6 {P : Program} {T : TT} {S : za7 -> zm2} {lo lb : za7 -> Nat -> St -> Option Ann} (n : Nat) {f : FuncId} {fn : Func} {c : Code} {xs : za7 -> List AV} {r : AV} (hf : P.funcs[f]? = some fn) (hb : fn.body = some c) (hn : (fn.name == "runtime.NumGoroutine") = false)
   (hc : zbm fn.ntmps c = true) (hx : (zbg (xs std).length fn.ntmps && zbg fn.ntmps 500000) = true) (hT : zbr P T) (hS : zcz P (S std)) (hm : P.follows .mixedOrders = true)
   (h : ∀ (L : za7) (P' : Program) (Q' : AV -> Prop), @L = @std -> P' = P -> Q' = zfo r -> Sat P' Q' (yt8 T L (S L) (lo L) (lb L) n fn (xs L))) : za9 P f (xs std) r :=
 zr1 (lo := lo std) (lb := lb std) hf hb hn hc hx hT hS hm (h std _ _ rfl rfl rfl)
theorem zbi {P : Program} {T : TT} {S : za7 -> zm2} {lo lb : za7 -> Nat -> St -> Option Ann} (n : Nat) {f : FuncId} {fn : Func} {c : Code} {xs rts : za7 -> List AV} {O O1 : za7 -> List (Nat × Ob)} (hf : P.funcs[f]? = some fn) (hb : fn.body = some c) (hn : (fn.name == "runtime.NumGoroutine") = false)
   (hc : zbm fn.ntmps c = true) (hx : (zbg (xs std).length fn.ntmps && zbg fn.ntmps 500000 && zbg fn.results.size 500000 && zj7 (O std)) = true) (hT : zbr P T) (hS : zcz P (S std)) (hm : P.follows .mixedOrders = true)
   (h : ∀ (L : za7) (P' : Program) (Q' : AV -> Prop), @L = @std -> P' = P -> Q' = (fun _ => True) -> Sat P' Q' (ypt T L (S L) (lo L) (lb L) n fn (xs L) (O L) (rts L) (O1 L))) : zbf P f (xs std) (O std) (zpd (rts std)) (O1 std) :=
 ybf (lo := lo std) (lb := lb std) hf hb hn hc hx hT hS hm (h std _ _ rfl rfl rfl)
theorem ybg {P : Program} {T : TT} {S : za7 -> zm2} {lo lb : za7 -> Nat -> St -> Option Ann} (n : Nat) {f : FuncId} {fn : Func} {c : Code} {xs rts : za7 -> List AV} {O O1 : za7 -> List (Nat × Ob)} (hf : P.funcs[f]? = some fn) (hb : fn.body = some c) (hn : (fn.name == "runtime.NumGoroutine") = false)
   (hc : zbm fn.ntmps c = true) (hx : (zbg (xs std).length fn.ntmps && zbg fn.ntmps 500000 && zbg fn.results.size 500000 && zj7 (O std)) = true) (hT : zbr P T) (hS : zcz P (S std)) (hm : P.follows .mixedOrders = true)
   (h : ∀ (L : za7) (P' : Program) (Q' : AV -> Prop), @L = @std -> P' = P -> Q' = (fun _ => True) -> Sat P' Q' (yu4 T L (S L) (lo L) (lb L) n fn (xs L) (O L) (rts L) (O1 L))) : zbf P f (xs std) (O std) (zpd (rts std)) (O1 std) :=
 zxd (lo := lo std) (lb := lb std) hf hb hn hc hx hT hS hm (h std _ _ rfl rfl rfl)
def noS : za7 -> zm2 := fun _ => ⟨fun _ _ => none, fun _ => none⟩
theorem zbx (P : Program) : zcz P (noS std) := ⟨fun f xs p r h => by (cases h), fun f m h => by cases h⟩
def noA : za7 -> Nat -> St -> Option Ann := fun _ _ _ => none
def tt : TT :=
 (.node (.node (.node (.node (.node (.node (.node (.node .leaf 1 ⟨1, false, [.nilf], .func, false, none, false, false⟩
        .leaf) 2 ⟨1, false, [.int .i64 0], .int .i64, false, none, false, false⟩
       (.node .leaf 3 ⟨1, false, [.int .i64 0], .int .i64, false, none, false, false⟩
        .leaf)) 4 ⟨1, false, [.bool false], .bool, false, none, false, false⟩
      (.node (.node .leaf 5 ⟨1, false, [.int .u8 0], .int .u8, false, none, false, false⟩
        .leaf) 6 ⟨1, false, [.int .u8 0], .int .u8, false, none, false, false⟩
       .leaf)) 7 ⟨4, true, [.int .i64 0, .int .i64 0, .bool false, .int .u8 0], .struct [(0, 2), (1, 3), (2, 4), (3, 6)], true, none, false, false⟩
     (.node (.node (.node .leaf 8 ⟨4, true, [.int .i64 0, .int .i64 0, .bool false, .int .u8 0], .struct [(0, 2), (1, 3), (2, 4), (3, 6)], true, none, false, false⟩
        .leaf) 9 ⟨1, false, [.str []], .str, false, none, false, false⟩
       (.node .leaf 10 ⟨1, false, [.str []], .str, false, none, false, false⟩
        .leaf)) 11 ⟨1, false, [.str []], .str, false, none, false, false⟩
      (.node (.node .leaf 12 ⟨1, false, [.int .u64 0], .int .u64, false, none, false, false⟩
        .leaf) 13 ⟨2, true, [.str [], .int .u64 0], .struct [(0, 9), (1, 12)], false, none, false, false⟩
       .leaf))) 14 ⟨2, true, [.str [], .int .u64 0], .struct [(0, 9), (1, 12)], false, none, false, false⟩
    (.node (.node (.node (.node .leaf 15 ⟨1, false, [.nilp], .ptr, false, some 213, false, false⟩
        .leaf) 16 ⟨1, false, [.nilp], .ptr, false, some 216, false, false⟩
       (.node .leaf 17 ⟨1, false, [.nilp], .ptr, false, some 223, false, false⟩
        .leaf)) 18 ⟨1, true, [.nilp], .struct [(0, 17)], false, none, false, false⟩
      (.node (.node .leaf 19 ⟨1, true, [.nilp], .struct [(0, 17)], false, none, false, false⟩
        .leaf) 20 ⟨1, false, [.nili], .iface, false, none, false, false⟩
       .leaf)) 21 ⟨1, false, [.int .i32 0], .int .i32, false, none, false, false⟩
     (.node (.node (.node .leaf 22 ⟨4, true, [.int .u8 0, .int .u8 0, .int .u8 0, .int .u8 0], .arr 4 5 1, true, none, false, false⟩
        .leaf) 23 ⟨1, false, [.int .u16 0], .int .u16, false, none, false, false⟩
       .leaf) 24 ⟨5, true, [.int .u8 0, .int .u8 0, .int .u8 0, .int .u8 0, .int .u16 0], .struct [(0, 22), (4, 23)], true, none, false, false⟩
      (.node (.node .leaf 25 ⟨5, true, [.int .u8 0, .int .u8 0, .int .u8 0, .int .u8 0, .int .u16 0], .struct [(0, 22), (4, 23)], true, none, false, false⟩
        .leaf) 26 ⟨1, false, [.nils], .slice 37 4 56, false, none, false, false⟩
       .leaf)))) 27 ⟨7, true, [.str [], .int .u8 0, .int .u8 0, .int .u8 0, .int .u8 0, .int .u16 0, .nils], .struct [(0, 9), (1, 25), (6, 26)], false, none, false, false⟩
   (.node (.node (.node (.node (.node .leaf 28 ⟨7, true, [.str [], .int .u8 0, .int .u8 0, .int .u8 0, .int .u8 0, .int .u16 0, .nils], .struct [(0, 9), (1, 25), (6, 26)], false, none, false, false⟩
        .leaf) 29 ⟨1, false, [.nilf], .func, false, none, false, false⟩
       (.node .leaf 30 ⟨1, false, [.nilf], .func, false, none, false, false⟩
        .leaf)) 31 ⟨1, false, [.nilf], .func, false, none, false, false⟩
      (.node (.node .leaf 33 ⟨1, false, [.nilf], .func, false, none, false, false⟩
        .leaf) 34 ⟨1, false, [.nilf], .func, false, none, false, false⟩
       .leaf)) 35 ⟨1, false, [.int .u64 0], .int .u64, false, none, false, false⟩
     (.node (.node (.node .leaf 36 ⟨4, true, [.str [], .str [], .str [], .int .u64 0], .struct [(0, 9), (1, 9), (2, 9), (3, 35)], true, none, false, false⟩
        .leaf) 37 ⟨4, true, [.str [], .str [], .str [], .int .u64 0], .struct [(0, 9), (1, 9), (2, 9), (3, 35)], true, none, false, false⟩
       .leaf) 38 ⟨1, false, [.nilf], .func, false, none, false, false⟩
      (.node (.node .leaf 39 ⟨1, false, [.cpx .f64 0 0], .other, false, none, false, false⟩
        .leaf) 40 ⟨1, false, [.nilf], .func, false, none, false, false⟩
       .leaf))) 41 ⟨1, false, [.nilf], .func, false, none, false, false⟩
    (.node (.node (.node (.node .leaf 42 ⟨1, false, [.nilf], .func, false, none, false, false⟩
        .leaf) 43 ⟨5, true, [.int .u8 0, .int .u8 0, .int .u8 0, .int .u8 0, .int .u16 0], .struct [(0, 22), (4, 23)], true, none, false, false⟩
       (.node .leaf 44 ⟨1, false, [.nils], .slice 59 4 56, false, none, false, false⟩
        .leaf)) 45 ⟨7, true, [.str [], .int .u8 0, .int .u8 0, .int .u8 0, .int .u8 0, .int .u16 0, .nils], .struct [(0, 9), (1, 43), (6, 44)], false, none, false, false⟩
      (.node (.node .leaf 46 ⟨7, true, [.str [], .int .u8 0, .int .u8 0, .int .u8 0, .int .u8 0, .int .u16 0, .nils], .struct [(0, 9), (1, 43), (6, 44)], false, none, false, false⟩
        .leaf) 47 ⟨1, false, [.nils], .slice 46 7 48, false, none, false, false⟩
       .leaf)) 48 ⟨1, false, [.nils], .slice 82 2 40, false, none, false, false⟩
     (.node (.node (.node .leaf 49 ⟨3, true, [.int .u64 0, .nils, .nils], .struct [(0, 35), (1, 47), (2, 48)], false, none, false, false⟩
        .leaf) 50 ⟨3, true, [.int .u64 0, .nils, .nils], .struct [(0, 35), (1, 47), (2, 48)], false, none, false, false⟩
       .leaf) 51 ⟨1, false, [.nilf], .func, false, none, false, false⟩
      (.node (.node .leaf 52 ⟨1, false, [.nils], .slice 28 7 48, false, none, false, false⟩
        .leaf) 53 ⟨1, false, [.nils], .slice 79 2 40, false, none, false, false⟩
       .leaf))))) 54 ⟨3, true, [.int .u64 0, .nils, .nils], .struct [(0, 35), (1, 52), (2, 53)], false, none, false, false⟩
  (.node (.node (.node (.node (.node (.node .leaf 55 ⟨3, true, [.int .u64 0, .nils, .nils], .struct [(0, 35), (1, 52), (2, 53)], false, none, false, false⟩
        .leaf) 56 ⟨1, false, [.nils], .slice 3 1 8, false, none, false, false⟩
       (.node .leaf 57 ⟨1, false, [.nilf], .func, false, none, false, false⟩
        .leaf)) 58 ⟨1, false, [.nilf], .func, false, none, false, false⟩
      (.node (.node .leaf 59 ⟨4, true, [.str [], .str [], .str [], .int .u64 0], .struct [(0, 9), (1, 9), (2, 9), (3, 35)], true, none, false, false⟩
        .leaf) 61 ⟨1, false, [.nilf], .func, false, none, false, false⟩
       .leaf)) 62 ⟨1, false, [.flt .f64 0], .flt .f64, false, none, false, false⟩
     (.node (.node (.node .leaf 63 ⟨1, false, [.nilf], .func, false, none, false, false⟩
        .leaf) 64 ⟨1, false, [.nilf], .func, false, none, false, false⟩
       .leaf) 65 ⟨1, false, [.nilf], .func, false, none, false, false⟩
      (.node (.node .leaf 66 ⟨1, false, [.nilf], .func, false, none, false, false⟩
        .leaf) 67 ⟨1, false, [.nilf], .func, false, none, false, false⟩
       .leaf))) 68 ⟨1, false, [.nilf], .func, false, none, false, false⟩
    (.node (.node (.node (.node .leaf 69 ⟨1, false, [.int .i64 0], .int .i64, false, none, false, false⟩
        .leaf) 70 ⟨1, false, [.nilf], .func, false, none, false, false⟩
       (.node .leaf 71 ⟨1, false, [.nilf], .func, false, none, false, false⟩
        .leaf)) 72 ⟨1, false, [.nilf], .func, false, none, false, false⟩
      (.node (.node .leaf 74 ⟨1, false, [.nilf], .func, false, none, false, false⟩
        .leaf) 75 ⟨1, false, [.nils], .slice 9 1 16, false, none, false, false⟩
       .leaf)) 76 ⟨1, false, [.nilf], .func, false, none, false, false⟩
     (.node (.node (.node .leaf 77 ⟨1, false, [.nils], .slice 84 6 16, false, none, false, false⟩
        .leaf) 78 ⟨2, true, [.str [], .nils], .struct [(0, 9), (1, 77)], false, none, false, false⟩
       .leaf) 79 ⟨2, true, [.str [], .nils], .struct [(0, 9), (1, 77)], false, none, false, false⟩
      (.node (.node .leaf 80 ⟨1, false, [.nils], .slice 86 6 16, false, none, false, false⟩
        .leaf) 81 ⟨2, true, [.str [], .nils], .struct [(0, 9), (1, 80)], false, none, false, false⟩
       .leaf)))) 82 ⟨2, true, [.str [], .nils], .struct [(0, 9), (1, 80)], false, none, false, false⟩
   (.node (.node (.node (.node (.node .leaf 83 ⟨6, true, [.int .u8 0, .int .u8 0, .int .u8 0, .int .u8 0, .int .u16 0, .int .i64 0], .struct [(0, 25), (5, 3)], true, none, false, false⟩
        .leaf) 84 ⟨6, true, [.int .u8 0, .int .u8 0, .int .u8 0, .int .u8 0, .int .u16 0, .int .i64 0], .struct [(0, 25), (5, 3)], true, none, false, false⟩
       (.node .leaf 85 ⟨6, true, [.int .u8 0, .int .u8 0, .int .u8 0, .int .u8 0, .int .u16 0, .int .i64 0], .struct [(0, 43), (5, 3)], true, none, false, false⟩
        .leaf)) 86 ⟨6, true, [.int .u8 0, .int .u8 0, .int .u8 0, .int .u8 0, .int .u16 0, .int .i64 0], .struct [(0, 43), (5, 3)], true, none, false, false⟩
      (.node (.node .leaf 87 ⟨1, false, [.nilf], .func, false, none, false, false⟩
        .leaf) 88 ⟨1, false, [.nilf], .func, false, none, false, false⟩
       .leaf)) 89 ⟨1, false, [.nilf], .func, false, none, false, false⟩
     (.node (.node (.node .leaf 90 ⟨1, false, [.nilf], .func, false, none, false, false⟩
        .leaf) 91 ⟨1, false, [.nilf], .func, false, none, false, false⟩
       .leaf) 92 ⟨1, false, [.nilf], .func, false, none, false, false⟩
      (.node (.node .leaf 93 ⟨1, false, [.nilf], .func, false, none, false, false⟩
        .leaf) 94 ⟨1, false, [.nils], .slice 5 1 1, false, none, false, false⟩
       .leaf))) 96 ⟨1, false, [.nilf], .func, false, none, false, false⟩
    (.node (.node (.node (.node .leaf 97 ⟨1, false, [.nilf], .func, false, none, false, false⟩
        .leaf) 98 ⟨1, false, [.nilf], .func, false, none, false, false⟩
       (.node .leaf 99 ⟨1, false, [.nilf], .func, false, none, false, false⟩
        .leaf)) 100 ⟨1, false, [.nilf], .func, false, none, false, false⟩
      (.node (.node .leaf 101 ⟨1, false, [.nilf], .func, false, none, false, false⟩
        .leaf) 102 ⟨1, false, [.nilf], .func, false, none, false, false⟩
       .leaf)) 103 ⟨1, false, [.nilf], .func, false, none, false, false⟩
     (.node (.node (.node .leaf 104 ⟨1, false, [.nilf], .func, false, none, false, false⟩
        .leaf) 106 ⟨1, false, [.nilf], .func, false, none, false, false⟩
       .leaf) 107 ⟨1, false, [.nilf], .func, false, none, false, false⟩
      (.node (.node .leaf 108 ⟨1, false, [.nilf], .func, false, none, false, false⟩
        .leaf) 109 ⟨1, false, [.nilf], .func, false, none, false, false⟩
       .leaf)))))) 110 ⟨1, false, [.nilf], .func, false, none, false, false⟩
 (.node (.node (.node (.node (.node (.node (.node .leaf 111 ⟨1, false, [.nilf], .func, false, none, false, false⟩
        .leaf) 112 ⟨1, false, [.nilf], .func, false, none, false, false⟩
       (.node .leaf 113 ⟨1, false, [.nilf], .func, false, none, false, false⟩
        .leaf)) 114 ⟨1, false, [.nilf], .func, false, none, false, false⟩
      (.node (.node .leaf 115 ⟨1, false, [.nils], .slice 117 4 56, false, none, false, false⟩
        .leaf) 116 ⟨4, true, [.int .i64 0, .int .u64 0, .str [], .nils], .struct [(0, 3), (1, 35), (2, 9), (3, 115)], false, none, false, false⟩
       .leaf)) 117 ⟨4, true, [.int .i64 0, .int .u64 0, .str [], .nils], .struct [(0, 3), (1, 35), (2, 9), (3, 115)], false, none, false, false⟩
     (.node (.node (.node .leaf 118 ⟨1, false, [.nilf], .func, false, none, false, false⟩
        .leaf) 119 ⟨1, false, [.nilf], .func, false, none, false, false⟩
       (.node .leaf 120 ⟨1, false, [.nilf], .func, false, none, false, false⟩
        .leaf)) 121 ⟨1, false, [.nilf], .func, false, none, false, false⟩
      (.node (.node .leaf 122 ⟨1, false, [.nilf], .func, false, none, false, false⟩
        .leaf) 123 ⟨1, false, [.nilf], .func, false, none, false, false⟩
       .leaf))) 124 ⟨1, false, [.nilf], .func, false, none, false, false⟩
    (.node (.node (.node (.node .leaf 125 ⟨1, false, [.int .u64 0], .int .u64, false, none, false, false⟩
        .leaf) 126 ⟨1, false, [.nilf], .func, false, none, false, false⟩
       (.node .leaf 127 ⟨1, false, [.nilf], .func, false, none, false, false⟩
        .leaf)) 128 ⟨1, false, [.nilf], .func, false, none, false, false⟩
      (.node (.node .leaf 129 ⟨1, false, [.nilf], .func, false, none, false, false⟩
        .leaf) 130 ⟨1, false, [.nilf], .func, false, none, false, false⟩
       .leaf)) 131 ⟨1, false, [.nilf], .func, false, none, false, false⟩
     (.node (.node (.node .leaf 132 ⟨1, false, [.nilf], .func, false, none, false, false⟩
        .leaf) 133 ⟨1, false, [.nilf], .func, false, none, false, false⟩
       .leaf) 134 ⟨1, false, [.nilf], .func, false, none, false, false⟩
      (.node (.node .leaf 135 ⟨1, false, [.nilp], .ptr, false, some 137, false, false⟩
        .leaf) 136 ⟨2, true, [.nilp, .nils], .struct [(0, 135), (1, 94)], false, none, false, false⟩
       .leaf)))) 137 ⟨2, true, [.nilp, .nils], .struct [(0, 135), (1, 94)], false, none, false, true⟩
   (.node (.node (.node (.node (.node .leaf 138 ⟨1, false, [.nilf], .func, false, none, false, false⟩
        .leaf) 139 ⟨1, false, [.nilf], .func, false, none, false, false⟩
       (.node .leaf 140 ⟨1, false, [.nilf], .func, false, none, false, false⟩
        .leaf)) 141 ⟨1, false, [.nilf], .func, false, none, false, false⟩
      (.node (.node .leaf 142 ⟨1, false, [.nilf], .func, false, none, false, false⟩
        .leaf) 143 ⟨1, false, [.nilf], .func, false, none, false, false⟩
       .leaf)) 144 ⟨1, false, [.nilf], .func, false, none, false, false⟩
     (.node (.node (.node .leaf 145 ⟨1, false, [.nilf], .func, false, none, false, false⟩
        .leaf) 146 ⟨1, false, [.nilf], .func, false, none, false, false⟩
       .leaf) 147 ⟨1, false, [.nilf], .func, false, none, false, false⟩
      (.node (.node .leaf 148 ⟨1, false, [.nilf], .func, false, none, false, false⟩
        .leaf) 150 ⟨1, false, [.nilf], .func, false, none, false, false⟩
       .leaf))) 151 ⟨1, false, [.int .u32 0], .int .u32, false, none, false, false⟩
    (.node (.node (.node (.node .leaf 153 ⟨1, false, [.nilf], .func, false, none, false, false⟩
        .leaf) 155 ⟨1, false, [.nilf], .func, false, none, false, false⟩
       (.node .leaf 156 ⟨1, false, [.nilf], .func, false, none, false, false⟩
        .leaf)) 157 ⟨1, false, [.nilf], .func, false, none, false, false⟩
      (.node (.node .leaf 158 ⟨1, false, [.nilf], .func, false, none, false, false⟩
        .leaf) 159 ⟨1, false, [.nilf], .func, false, none, false, false⟩
       .leaf)) 160 ⟨1, false, [.nilf], .func, false, none, false, false⟩
     (.node (.node (.node .leaf 161 ⟨1, false, [.nili], .iface, false, none, false, false⟩
        .leaf) 162 ⟨1, false, [.nili], .iface, false, none, false, false⟩
       .leaf) 163 ⟨1, false, [.nilf], .func, false, none, false, false⟩
      (.node (.node .leaf 165 ⟨1, false, [.nilf], .func, false, none, false, false⟩
        .leaf) 166 ⟨1, false, [.nilf], .func, false, none, false, false⟩
       .leaf))))) 167 ⟨1, false, [.nilp], .ptr, false, some 5, false, false⟩
  (.node (.node (.node (.node (.node (.node .leaf 168 ⟨1, false, [.nilf], .func, false, none, false, false⟩
        .leaf) 170 ⟨1, false, [.nilf], .func, false, none, false, false⟩
       (.node .leaf 172 ⟨1, false, [.nilf], .func, false, none, false, false⟩
        .leaf)) 173 ⟨1, false, [.nilf], .func, false, none, false, false⟩
      (.node (.node .leaf 174 ⟨1, false, [.nilf], .func, false, none, false, false⟩
        .leaf) 176 ⟨1, false, [.nilf], .func, false, none, false, false⟩
       .leaf)) 177 ⟨1, false, [.nilf], .func, false, none, false, false⟩
     (.node (.node (.node .leaf 179 ⟨2, true, [.int .u8 0, .int .u8 0], .struct [(0, 5), (1, 5)], true, none, false, false⟩
        .leaf) 180 ⟨2, true, [.int .u8 0, .int .u8 0], .struct [(0, 5), (1, 5)], true, none, false, false⟩
       .leaf) 181 ⟨32, true, [.int .u8 0, .int .u8 0, .int .u8 0, .int .u8 0, .int .u8 0, .int .u8 0, .int .u8 0, .int .u8 0, .int .u8 0, .int .u8 0, .int .u8 0, .int .u8 0, .int .u8 0, .int .u8 0, .int .u8 0, .int .u8 0, .int .u8 0, .int .u8 0, .int .u8 0, .int .u8 0, .int .u8 0, .int .u8 0, .int .u8 0, .int .u8 0, .int .u8 0, .int .u8 0, .int .u8 0, .int .u8 0, .int .u8 0, .int .u8 0, .int .u8 0, .int .u8 0], .arr 16 180 2, true, none, false, false⟩
      (.node (.node .leaf 182 ⟨1, false, [.nilp], .other, false, none, true, false⟩
        .leaf) 183 ⟨1, false, [.nilf], .func, false, none, false, false⟩
       .leaf))) 184 ⟨1, false, [.nilf], .func, false, none, false, false⟩
    (.node (.node (.node (.node .leaf 185 ⟨1, false, [.int .i64 0], .int .i64, false, none, false, false⟩
        .leaf) 186 ⟨1, false, [.nilf], .func, false, none, false, false⟩
       (.node .leaf 187 ⟨1, false, [.nilp], .ptr, false, some 198, false, false⟩
        .leaf)) 188 ⟨1, false, [.nilf], .func, false, none, false, false⟩
      (.node (.node .leaf 189 ⟨1, false, [.nilf], .func, false, none, false, false⟩
        .leaf) 190 ⟨1, false, [.nilf], .func, false, none, false, false⟩
       .leaf)) 191 ⟨24, true, [.int .u8 0, .int .u8 0, .int .u8 0, .int .u8 0, .int .u8 0, .int .u8 0, .int .u8 0, .int .u8 0, .int .u8 0, .int .u8 0, .int .u8 0, .int .u8 0, .int .u8 0, .int .u8 0, .int .u8 0, .int .u8 0, .int .u8 0, .int .u8 0, .int .u8 0, .int .u8 0, .int .u8 0, .int .u8 0, .int .u8 0, .int .u8 0], .arr 24 5 1, true, none, false, false⟩
     (.node (.node (.node .leaf 192 ⟨1, false, [.nilf], .func, false, none, false, false⟩
        .leaf) 193 ⟨1, false, [.nilf], .func, false, none, false, false⟩
       .leaf) 195 ⟨1, false, [.nilf], .func, false, none, false, false⟩
      (.node (.node .leaf 196 ⟨1, false, [.nilf], .func, false, none, false, false⟩
        .leaf) 197 ⟨3, true, [.str [], .str [], .nili], .struct [(0, 9), (1, 9), (2, 162)], false, none, false, false⟩
       .leaf)))) 198 ⟨3, true, [.str [], .str [], .nili], .struct [(0, 9), (1, 9), (2, 162)], false, none, false, false⟩
   (.node (.node (.node (.node (.node .leaf 199 ⟨1, false, [.nilf], .func, false, none, false, false⟩
        .leaf) 200 ⟨1, false, [.nilf], .func, false, none, false, false⟩
       (.node .leaf 201 ⟨20, true, [.int .u64 0, .int .u64 0, .int .u64 0, .int .u64 0, .int .u64 0, .int .u64 0, .int .u64 0, .int .u64 0, .int .u64 0, .int .u64 0, .int .u64 0, .int .u64 0, .int .u64 0, .int .u64 0, .int .u64 0, .int .u64 0, .int .u64 0, .int .u64 0, .int .u64 0, .int .u64 0], .arr 20 35 1, true, none, false, false⟩
        .leaf)) 202 ⟨65, true, [.int .u8 0, .int .u8 0, .int .u8 0, .int .u8 0, .int .u8 0, .int .u8 0, .int .u8 0, .int .u8 0, .int .u8 0, .int .u8 0, .int .u8 0, .int .u8 0, .int .u8 0, .int .u8 0, .int .u8 0, .int .u8 0, .int .u8 0, .int .u8 0, .int .u8 0, .int .u8 0, .int .u8 0, .int .u8 0, .int .u8 0, .int .u8 0, .int .u8 0, .int .u8 0, .int .u8 0, .int .u8 0, .int .u8 0, .int .u8 0, .int .u8 0, .int .u8 0, .int .u8 0, .int .u8 0, .int .u8 0, .int .u8 0, .int .u8 0, .int .u8 0, .int .u8 0, .int .u8 0, .int .u8 0, .int .u8 0, .int .u8 0, .int .u8 0, .int .u8 0, .int .u8 0, .int .u8 0, .int .u8 0, .int .u8 0, .int .u8 0, .int .u8 0, .int .u8 0, .int .u8 0, .int .u8 0, .int .u8 0, .int .u8 0, .int .u8 0, .int .u8 0, .int .u8 0, .int .u8 0, .int .u8 0, .int .u8 0, .int .u8 0, .int .u8 0, .int .u8 0], .arr 65 5 1, true, none, false, false⟩
      (.node (.node .leaf 203 ⟨1, false, [.nilf], .func, false, none, false, false⟩
        .leaf) 204 ⟨1, false, [.nilf], .func, false, none, false, false⟩
       .leaf)) 205 ⟨1, false, [.nilp], .ptr, false, some 207, false, false⟩
     (.node (.node (.node .leaf 206 ⟨1, true, [.str []], .struct [(0, 9)], true, none, false, false⟩
        .leaf) 207 ⟨1, true, [.str []], .struct [(0, 9)], true, none, false, false⟩
       .leaf) 208 ⟨1, false, [.nilf], .func, false, none, false, false⟩
      (.node (.node .leaf 209 ⟨1, false, [.nilf], .func, false, none, false, false⟩
        .leaf) 210 ⟨32, true, [.int .u8 0, .int .u8 0, .int .u8 0, .int .u8 0, .int .u8 0, .int .u8 0, .int .u8 0, .int .u8 0, .int .u8 0, .int .u8 0, .int .u8 0, .int .u8 0, .int .u8 0, .int .u8 0, .int .u8 0, .int .u8 0, .int .u8 0, .int .u8 0, .int .u8 0, .int .u8 0, .int .u8 0, .int .u8 0, .int .u8 0, .int .u8 0, .int .u8 0, .int .u8 0, .int .u8 0, .int .u8 0, .int .u8 0, .int .u8 0, .int .u8 0, .int .u8 0], .arr 32 5 1, true, none, false, false⟩
       .leaf))) 211 ⟨64, true, [.int .u8 0, .int .u8 0, .int .u8 0, .int .u8 0, .int .u8 0, .int .u8 0, .int .u8 0, .int .u8 0, .int .u8 0, .int .u8 0, .int .u8 0, .int .u8 0, .int .u8 0, .int .u8 0, .int .u8 0, .int .u8 0, .int .u8 0, .int .u8 0, .int .u8 0, .int .u8 0, .int .u8 0, .int .u8 0, .int .u8 0, .int .u8 0, .int .u8 0, .int .u8 0, .int .u8 0, .int .u8 0, .int .u8 0, .int .u8 0, .int .u8 0, .int .u8 0, .int .u8 0, .int .u8 0, .int .u8 0, .int .u8 0, .int .u8 0, .int .u8 0, .int .u8 0, .int .u8 0, .int .u8 0, .int .u8 0, .int .u8 0, .int .u8 0, .int .u8 0, .int .u8 0, .int .u8 0, .int .u8 0, .int .u8 0, .int .u8 0, .int .u8 0, .int .u8 0, .int .u8 0, .int .u8 0, .int .u8 0, .int .u8 0, .int .u8 0, .int .u8 0, .int .u8 0, .int .u8 0, .int .u8 0, .int .u8 0, .int .u8 0, .int .u8 0], .arr 64 5 1, true, none, false, false⟩
    (.node (.node (.node (.node .leaf 212 ⟨4, true, [.nilp, .nilp, .nilp, .str []], .struct [(0, 17), (1, 17), (2, 17), (3, 9)], false, none, false, false⟩
        .leaf) 213 ⟨4, true, [.nilp, .nilp, .nilp, .str []], .struct [(0, 17), (1, 17), (2, 17), (3, 9)], false, none, false, false⟩
       (.node .leaf 214 ⟨0, true, [], .arr 0 16 1, false, none, false, false⟩
        .leaf)) 215 ⟨0, true, [], .struct [(0, 214)], false, none, false, false⟩
      (.node (.node .leaf 216 ⟨0, true, [], .struct [(0, 214)], false, none, false, false⟩
        .leaf) 217 ⟨1, false, [.int .u8 0], .int .u8, false, none, false, false⟩
       .leaf)) 218 ⟨1, false, [.int .u8 0], .int .u8, false, none, false, false⟩
     (.node (.node (.node .leaf 219 ⟨1, false, [.nilf], .func, false, none, false, false⟩
        .leaf) 220 ⟨1, false, [.int .i32 0], .int .i32, false, none, false, false⟩
       .leaf) 221 ⟨1, false, [.int .i32 0], .int .i32, false, none, false, false⟩
      (.node (.node .leaf 222 ⟨11, true, [.int .u64 0, .int .u64 0, .int .u32 0, .int .u8 0, .int .u8 0, .int .u8 0, .int .u8 0, .nilf, .nilp, .int .i32 0, .int .i32 0], .struct [(0, 12), (1, 12), (2, 151), (3, 217), (4, 5), (5, 5), (6, 218), (7, 219), (8, 167), (9, 220), (10, 221)], false, none, false, false⟩
        .leaf) 223 ⟨11, true, [.int .u64 0, .int .u64 0, .int .u32 0, .int .u8 0, .int .u8 0, .int .u8 0, .int .u8 0, .nilf, .nilp, .int .i32 0, .int .i32 0], .struct [(0, 12), (1, 12), (2, 151), (3, 217), (4, 5), (5, 5), (6, 218), (7, 219), (8, 167), (9, 220), (10, 221)], false, none, false, false⟩
       .leaf)))))))
theorem zaa : zbr Tryz.prog tt := yke (by kernel_rfl)
end Sy
end Go.Proofs.YtogpolfhcbgcbaaGreatDoor
namespace Go.Proofs.YtogpolfhcbgcbaaGreatDoor
open Go.RowKit Go.WideShapes Go.ChangeShapes Go.ChangeAt
def zlj (b : UInt8) : Value := .int .u8 (b.toNat : Int)
def str (l : List UInt8) : Value := .string ⟨l.toArray⟩
theorem zh1 (n : Nat) : zlj (UInt8.ofNat n) = .int .u8 ((n : Int) % 256) := by
 have h : (((UInt8.ofNat n).toNat : Nat) : Int) = (n : Int) % 256 := by
   rw [UInt8.toNat_ofNat']; omega
 unfold zlj; rw [h]
@[go_sem] theorem ba_get (l : List UInt8) (k : Nat) (h : k < (⟨l.toArray⟩ : ByteArray).size) : (⟨l.toArray⟩ : ByteArray)[k] = l[k]'h := rfl
@[go_sem] theorem ba_append (a b : List UInt8) : (⟨a.toArray⟩ : ByteArray) ++ ⟨b.toArray⟩ = ⟨(a ++ b).toArray⟩ := by
 apply ByteArray.ext; simp
theorem zi2 (l : List UInt8) (a b : Nat) : (⟨l.toArray⟩ : ByteArray).extract a b = ⟨((l.drop a).take (b - a)).toArray⟩ := by
 apply ByteArray.ext; simp [ByteArray.data_extract]
@[go_sem] theorem ba_extract_all (l : List UInt8) (a : Nat) : (⟨l.toArray⟩ : ByteArray).extract a l.length = ⟨(l.drop a).toArray⟩ := by
 rw [zi2, List.take_of_length_le (by simp)]
@[go_sem] theorem ba_extract_zero (l : List UInt8) (b : Nat) : (⟨l.toArray⟩ : ByteArray).extract 0 b = ⟨(l.take b).toArray⟩ := by
 rw [zi2, List.drop_zero, Nat.sub_zero]
@[go_sem] theorem wrap_byte_u64 (b : UInt8) : IntKind.u64.wrap (b.toNat : Int) = b.toNat := by
 have := b.toNat_lt; rw [IntKind.wrap_u64]; omega
@[go_sem] theorem wrap_byte_u32 (b : UInt8) : IntKind.u32.wrap (b.toNat : Int) = b.toNat := by
 have := b.toNat_lt; rw [IntKind.wrap_u32]; omega
@[go_sem] theorem wrap_byte_u16 (b : UInt8) : IntKind.u16.wrap (b.toNat : Int) = b.toNat := by
 have := b.toNat_lt; rw [IntKind.wrap_u16]; omega
@[go_sem] theorem wrap_byte_u8 (b : UInt8) : IntKind.u8.wrap (b.toNat : Int) = b.toNat := by
 have := b.toNat_lt; rw [IntKind.wrap_u8]; omega
@[go_sem] theorem wrap_byte_i64 (b : UInt8) : IntKind.i64.wrap (b.toNat : Int) = b.toNat := by
 have := b.toNat_lt; rw [IntKind.wrap_i64]; omega
theorem zi3 (g j : Nat) : (⟨g, 0, none⟩ : Addr).add j = ⟨g, j, none⟩ := by
 unfold Addr.add
 split
 · rename_i h; rw [h]
 · rw [Nat.zero_add]
theorem yia {P : Program} {w : World} {src dst e : TypeId} {g n cap : Nat} {f : Nat -> Value} (l : List UInt8) (hs : P.underlying src = some (.slice e)) (he : P.underlying e = some (.int .u8)) (hd : P.underlying dst = some .string)
   (hr : w.rowIs g e n f) (hl : l.length = n) (hf : ∀ i (hi : i < l.length), f i = zlj l[i]) :
   (convert src dst (.slice (some ⟨g, 0, none⟩) n cap)).run P w = .ok (.string ⟨l.toArray⟩) w := by
 subst hl
 refine run_convert_bytes_back w src dst e _ cap l hs he hd fun j hj => ?_
 have := hr.cell hj
 rw [hf j hj] at this
 rw [zi3]
 exact this
def Row (w : World) (b : Nat) (t : TypeId) (n : Nat) (f : Nat -> Value) : Prop :=
 ∃ (c : Array Value) (lo hi : Nat), w.heap[b]? = some (.cells c t (lo, hi)) /\ n <= c.size /\ (hi = 0 \/ n <= lo) /\ ∀ i, i < n -> c[i]? = some (f i)
section
variable {w w' : World} {b : Nat} {t : TypeId} {n : Nat} {f g : Nat -> Value}
theorem Row.cell (h : Row w b t n f) {i : Nat} (hi : i < n) : w.cell? ⟨b, i, none⟩ = some (f i) := by
 obtain ⟨c, lo, hi', hb, _, _, hc⟩ := h
 simp [World.cell?, hb, hc i hi]
theorem Row.frozen (h : Row w b t n f) {i : Nat} (hi : i < n) : w.frozen? ⟨b, i, none⟩ = false := by
 obtain ⟨c, lo, hi', hb, _, hf, _⟩ := h
 simp only [World.frozen?, hb]
 rcases hf with hf | hf
 · subst hf; simp
 · simp; omega
theorem Row.lt (h : Row w b t n f) : b < w.heap.size := by
 obtain ⟨c, lo, hi, hb, _⟩ := h
 exact (Array.getElem?_eq_some_iff.1 hb).1
theorem Row.congr (h : Row w b t n f) (e : ∀ i, i < n -> f i = g i) : Row w b t n g := by
 obtain ⟨c, lo, hi, hb, hn, hf, hc⟩ := h
 exact ⟨c, lo, hi, hb, hn, hf, fun i hi => by rw [hc i hi, e i hi]⟩
theorem Row.of_block (h : Row w b t n f) (e : w'.heap[b]? = w.heap[b]?) : Row w' b t n f := by
 obtain ⟨c, lo, hi, hb, hn, hf, hc⟩ := h
 exact ⟨c, lo, hi, e.trans hb, hn, hf, hc⟩
theorem Row.set (h : Row w b t n f) (i : Nat) (v : Value) : Row (w.setCell ⟨b, i, none⟩ v) b t n (fun j => if j = i then v else f j) := by
 obtain ⟨c, lo, hi', hb, hn, hf, hc⟩ := h
 refine ⟨c.setIfInBounds i v, lo, hi', ?_, by simpa using hn, hf, fun j hj => ?_⟩
 · simp [World.setCell, Array.getElem?_modify, hb]
 · rw [Array.getElem?_setIfInBounds]
   by_cases e : i = j
   · subst e
     have : i < c.size := by omega
     simp [this]
   · rw [if_neg e, hc j hj]
     show _ = some (if j = i then v else f j)
     rw [if_neg (fun (h : j = i) => e h.symm)]
theorem Row.alloc (h : Row w b t n f) (o : Obj) : Row (w.alloc o) b t n f := h.of_block (Below.heap_alloc _ _ _ h.lt)
theorem Row.drewN (h : Row w b t n f) (k : Nat) : Row (w.drewN k) b t n f := h
theorem Row.bytes (w : World) (t : TypeId) (l : List UInt8) (cap : Nat) : Row (w.alloc (.cells (bytesRow ⟨l.toArray⟩ cap) t ((bytesRow ⟨l.toArray⟩ cap).size, (bytesRow ⟨l.toArray⟩ cap).size + 1))) w.heap.size t l.length (fun j => zlj (l.getD j 0)) := by
 refine ⟨bytesRow ⟨l.toArray⟩ cap, _, _, heap_alloc_new _ _, by simp [bytesRow], .inr (by simp [bytesRow]), fun i hi => ?_⟩
 rw [bytesRow_at _ _ _ (by simpa using hi)]
 simp [zlj, hi]
end
def Blk (w : World) (g : Nat) (t : TypeId) (cs : Array Value) : Prop := w.heap[g]? = some (.cells cs t (0, 0))
section
variable {w w' : World} {g : Nat} {t : TypeId} {cs : Array Value}
theorem Blk.lt (h : Blk w g t cs) : g < w.heap.size := by
 rcases Nat.lt_or_ge g w.heap.size with hlt | hge
 · exact hlt
 · unfold Blk at h; rw [Array.getElem?_eq_none hge] at h; cases h
theorem Blk.cell (h : Blk w g t cs) (i : Nat) : w.cell? ⟨g, i, none⟩ = cs[i]? := cell_of_row w g i cs t (0, 0) h
theorem Blk.frozen (h : Blk w g t cs) (i : Nat) : w.frozen? ⟨g, i, none⟩ = false := by
 unfold Blk at h
 simp [World.frozen?, h]
theorem Blk.new (w : World) (t : TypeId) (cs : Array Value) : Blk (w.alloc (.cells cs t)) w.heap.size t cs := heap_alloc_new w _
theorem Blk.drew (h : Blk w g t cs) : Blk w.drew g t cs := h
theorem Blk.drewN (h : Blk w g t cs) (n : Nat) : Blk (w.drewN n) g t cs := h
theorem Blk.alloc (h : Blk w g t cs) (o : Obj) : Blk (w.alloc o) g t cs := (Below.heap_alloc w o g h.lt).trans h
theorem Blk.grown {row : Option Nat} (h : Blk w g t cs) (hb : w.grownBy w' row) (hg : some g ≠ row) : Blk w' g t cs := (hb.block g h.lt hg).trans h
end
theorem zli {base : Nat} {e : TypeId} {size n : Nat} {v : Value} {xs : List Value} {w w' : World} (hown : w.ownsRow base e size v n xs) (hb : base <= w.heap.size) (hg : w.grownBy w' v.ownBlock) : Below base w w' :=
 (Below.refl _ _).grown hg hb fun k hk => (hown.lt k hk).1
theorem zjt {P : Program} {ops : Array Oper} {rest : List Oper} {o : Oper} {a : Act} {Q : Exit -> Act -> World -> Prop} (wr : World) (hgd : o.guard = none) (s x : Operand) (t : TypeId)
   (ho : o.op = .call { callee := .builtin .append, args := #[s, x], argTypes := #[t, t] })
   (base : Nat) (e : TypeId) (z : Value) (bytes : Nat) (ht : P.underlying t = some (.slice e)) (hinfo : (P.info? e).map (fun i => (i.zero, i.size, i.bytes)) = some (some z, 1, bytes)) (hz1 : z.cells.size = 1)
   (v : Value) (n : Nat) (xs : List Value) (hs : a.eval s = v) (hown : wr.ownsRow base e 1 v n xs)
   (c : Value) (h1 : c.oneCell' = true) (hx : a.eval x = .slice (some ⟨wr.heap.size, 0, none⟩) 1 1)
   (hbytes : (n + 1) * bytes <= 140737488355328) (hn : n < 9223372036854775807) (hbase : base <= wr.heap.size)
   (h : ∀ v' w', w'.ownsRow base e 1 v' (n + 1) (xs ++ [c]) -> Below base wr w' -> wpList P ops Q rest (a.put o.dst v') w') : wpList P ops Q (o :: rest) a (wr.alloc (.cells #[c] e)) := by
 obtain ⟨i, hi, hzz⟩ := Option.map_eq_some_iff.1 hinfo
 simp only [Prod.mk.injEq] at hzz
 obtain ⟨hz, hsz, hby⟩ := hzz
 have hown' := hown.alloc (.cells #[c] e)
 refine wpList_append_own _ hgd s x t ho base e i z 1 bytes ht hi hz hsz hby hz1 (by decide) v n xs hs hown' ⟨wr.heap.size, 0, none⟩ 1 1 [c] hx rfl ?_ ?_ ?_ hbytes ?_ ?_
 · intro j u hj
   match j, hj with
   | 0, hj =>
     simp at hj; subst hj
     rw [zi3, cell_of_row _ _ _ _ _ _ (heap_alloc_new wr _)]; rfl
 · intro u hu
   simp at hu; subst hu; exact h1
 · unfold maxLen; omega
 · simp; omega
 · intro v' w' ho' hg _
   exact h v' w' ho' (((Below.refl _ _).alloc hbase _).trans (zli hown' (by simp; omega) hg))
theorem zy1 {P : Program} {src dst e : TypeId} (hs : P.underlying src = some (.slice e)) (he : P.underlying e = some (.int .u8)) (hd : P.underlying dst = some .string) {w : World} {base n : Nat} {v : Value} (l : List UInt8)
   (h : w.ownsRow base e 1 v n (l.map zlj)) : (convert src dst v).run P w = .ok (.string ⟨l.toArray⟩) w := by
 rcases h.2 with ⟨rfl, rfl⟩ | ⟨g, cap, cur, rfl, _, hh, hnc, _, hsz, hx⟩
 · have hl : l = [] := by have := h.1; simpa using this
   subst hl
   rw [run_convert_bytes_string w src dst e none 0 0 hs he hd]
   simp [Conv.bytesToString]; rfl
 · have hl : l.length = n := by have := h.1; simpa using this
   subst hl
   refine run_convert_bytes_back w src dst e _ cap l hs he hd fun j hj => ?_
   have := h.cells (g := g) rfl j (zlj l[j]) (by simp [hj])
   exact this
theorem yad {a b : List UInt8} (h : a = b) : Ending.returned (.string ⟨a.toArray⟩) = .returned (.string ⟨b.toArray⟩) := by rw [h]
theorem zlq {P : Program} {a : Act} {w : World} {Q : Exit -> Act -> World -> Prop} {c rest : Code} (l : Nat) (J : Act -> World -> Prop) (μ : Act -> World -> Nat) (hf : findLabel c l = some (.seq .skip rest))
   (pass : ∀ a w, J a w -> rest.wp P (Exit.jump l (fun a' w' => J a' w' /\ μ a' w' < μ a w) Q) a w)
   (first : Hid (∀ a w, J a w -> rest.wp P (Exit.jump l J Q) a w) -> c.wp P (Exit.jump l J Q) a w) : (Code.scope c).wp P Q a w := by
 refine wp_scope_jumps l J μ hf (first fun a w hJ => Code.wp_mono (fun e a' w' hq => ?_) (pass a w hJ)) fun a w hJ => wp_seq (wp_skip (pass a w hJ))
 cases e <;> first | exact hq | exact ⟨hq.1, hq.2.1⟩
section
variable {l : Nat} {J : Act -> World -> Prop} {Q : Exit -> Act -> World -> Prop} {a : Act} {w : World}
@[go_sem] theorem jump_normal : Exit.jump l J Q .normal a w = Q .normal a w := rfl
@[go_sem] theorem jump_exit (id : Nat) : Exit.jump l J Q (.exit id) a w = Q (.exit id) a w := rfl
@[go_sem] theorem jump_ret : Exit.jump l J Q .ret a w = Q .ret a w := rfl
@[go_sem] theorem jump_panic (ch : List PanicEntry) : Exit.jump l J Q (.panic ch) a w = Q (.panic ch) a w := rfl
end
section
variable {H : Type} {enc : TypeId × Value -> H} {P : Program}
theorem znm {f : Func} {s : ChangeSpec} {apart fresh handsOn again : Bool} {W W' : World} {args : Array Value} {v : Value} {ds gs : List (DataW H)} {before pa pv : List MemPlace}
   (hW : DataW.Whole enc P f.params.toList s.vars apart W args.toList ds gs before)
   (hres : ∀ (b : Nat) (sp : Nat -> Bool) (hd : Bool), DataW.TrodAll enc P W' b sp hd f.resultTypes.toList (v.resultList f.resultTypes.size) (s.fn H (ds ++ gs)).results [])
   (hargs : ∀ sp : Nat -> Bool, (∀ p ∈ before, sp p.block = true) -> DataW.TrodAll enc P W' 0 sp true f.params.toList args.toList (s.fn H (ds ++ gs)).args pa)
   (hvars : ∀ sp : Nat -> Bool, (∀ p ∈ before, sp p.block = true) -> DataW.TrodVars enc P W' sp s.vars (s.fn H (ds ++ gs)).vars pv)
   (hps : before = pa ++ pv) (hb : Below W.heap.size W W')
   (hok : ∀ (j : Nat) (t : TypeId) (r : Value), f.resultTypes[j]? = some t -> (v.resultList f.resultTypes.size)[j]? = some r -> Value.okWide P W' .any 0 t r) :
   s.post enc P f apart fresh handsOn again W args v W' := by
 have hlt : ∀ p ∈ before, p.block < W.heap.size := fun p hp => hW.lt p hp
 have hold : ∀ p ∈ before, (fun b => decide (b < W.heap.size)) p.block = true := fun p hp => by simpa using hlt p hp
 refine ⟨ds, gs, before, [], pa, pv, hW, hres _ _ _, hargs _ hold, hvars _ hold, World.keptBut_mono (fun p hp => ⟨hp, ?_⟩) (hb.frame (· ∈ before)), fun _ => ?_⟩
 · rw [hps, List.mem_append] at hp
   exact Or.inr hp
 · obtain ⟨_, _, _, _, _, hz, hn⟩ := hW
   refine ⟨hok, _, _, ([] ++ pa) ++ pv, ⟨[] ++ pa, pv, trodAll_append (hargs _ (fun _ _ => rfl)) (hres _ _ _), hvars _ (fun _ _ => rfl), rfl, ?_, ?_⟩, ?_⟩
   · intro b off hp
     have hin : MemPlace.cell b off ∈ before := by rw [hps]; simpa using hp
     rw [hb.frozen (hlt _ hin)]
     exact hz b off hin
   · intro ha
     have := hn ha
     rw [hps] at this
     simpa using this
   · intro p hp _
     rw [hps]
     simpa using hp
theorem zh6 (hl : laidOutB P = true) {W W' : World} (hb : Below W.heap.size W W') {sp : Nat -> Bool} :
   ∀ {ts : List TypeId} {vs : List Value} {ds : List (DataW H)} {ps : List MemPlace}, (∀ t ∈ ts, P.readableRec t = true /\ t < P.types.size) ->
   DataW.TrodAll enc P W 0 (fun _ => true) true ts vs ds ps -> (∀ x ∈ ps, x.block < W.heap.size) -> (∀ x ∈ ps, sp x.block = true) -> DataW.TrodAll enc P W' 0 sp true ts vs ds ps
 | [], [], [], _, _, h, _, _ => h
 | _ :: _, _ :: _, _ :: _, _, hr, ⟨p, q, h1, h2, e⟩, hlt, hs =>
   ⟨p, q, WideElems.Trod_stays hl (hr _ (List.mem_cons.2 (Or.inl rfl))).1 (hr _ (List.mem_cons.2 (Or.inl rfl))).2 h1
       (fun x hx => hb.same (hlt x (by rw [e]; exact List.mem_append_left _ hx))) (fun x hx => hs x (by rw [e]; exact List.mem_append_left _ hx)),
     zh6 hl hb (fun t ht => hr t (List.mem_cons.2 (Or.inr ht))) h2 (fun x hx => hlt x (by rw [e]; exact List.mem_append_right _ hx)) (fun x hx => hs x (by rw [e]; exact List.mem_append_right _ hx)), e⟩
theorem post_law {f : Func} {s : ChangeSpec} {apart fresh handsOn again : Bool} {W W' : World} {args : Array Value} {ds : List (DataW H)} {before : List MemPlace} {tb : TypeId}
   (hl : laidOutB P = true) (hr : (f.params.toList.all fun t => P.readableRec t && decide (t < P.types.size)) = true) (hbt : f.resultTypes = #[tb]) (hub : P.underlying tb = some .bool) (hsv : s.vars = [])
   (hW : DataW.Whole enc P f.params.toList s.vars apart W args.toList ds [] before)
   (hfn : s.fn H (ds ++ []) = { results := [.lit (.bool true)], args := ds }) (hb : Below W.heap.size W W') :
   s.post enc P f apart fresh handsOn again W args (.bool true) W' := by
 have hlt : ∀ p ∈ before, p.block < W.heap.size := fun p hp => hW.lt p hp
 obtain ⟨p, q, hA, hV, hpq, _, _⟩ := id hW
 rw [hsv] at hV
 have hq : q = [] := hV
 subst hq
 rw [List.append_nil] at hpq
 subst hpq
 refine znm (pa := before) (pv := []) hW ?_ ?_ ?_ (by simp) hb ?_
 · intro _ _ _
   rw [hfn, hbt]
   exact trodAll_mk1 (shut_bool hub true)
 · intro sp hsp
   rw [hfn]
   exact zh6 hl hb (fun t ht => by simpa using List.all_eq_true.1 hr t ht) hA hlt hsp
 · intro sp _
   rw [hfn, hsv]
   rfl
 · exact ok_one hbt rfl (okWide_bool_mk hub true)
end
end Go.Proofs.YtogpolfhcbgcbaaGreatDoor
namespace Go.Proofs.YtogpolfhcbgcbaaGreatDoor
open Go.RowKit
theorem i5 : (Tryz.prog.info? 5).map (fun i => (i.zero, i.size, i.bytes)) = some (some (.int .u8 0), 1, 1) := by kernel_rfl
def cl8 (k : Int) : Nat := (min (max k 0) 8).toNat
def zrp (n : Nat) : Nat -> List UInt8
 | 0 => []
 | i+1 => UInt8.ofNat (n / 256^i) :: zrp n i
theorem ysj (k : Int) : cl8 k <= 8 := by unfold cl8; omega
theorem zro (n c : Nat) : (zrp n c).length = c := by induction c <;> simp_all [zrp]
theorem yfx (n c t : Nat) (h : t < (zrp n c).length) : (zrp n c)[t] = UInt8.ofNat (n / 256 ^ (c - 1 - t)) := by
 induction c generalizing t with
 | zero => simp [zrp] at h
 | succ c ih =>
   rcases t with _ | t
   · simp [zrp]
   · simp only [zrp, List.getElem_cons_succ]
     rw [ih]
     congr 3; omega
set_option maxRecDepth 100000 in
set_option maxHeartbeats 400000 in
theorem yld (n : Nat) (k : Int) (w : World) (_hn : n < 18446744073709551616) :
   Calls Tryz.prog 138 #[.int .u64 n, .int .i64 k] w fun e w' => e = .returned (.string ⟨(zrp n (cl8 k)).toArray⟩) /\ Below w.heap.size w w' := by
 have h8 := ysj k
 have hmk := fun W => run_make_row' (P := Tryz.prog) 94 5 (.int .u8 0) 1 Tryz.underlying94 i5 rfl .i64 .i64 (cl8 k) (by omega) (by omega) W
 go_enter Tryz.func138, Tryz.ntmps138
 go_upto_region 1 with (fail)
 go_cut [1] (fun v wx => v = .int .i64 (cl8 k) /\ w = wx)
 case first =>
   go_wp2
   all_goals (go_meet; exact ⟨by unfold cl8; go_num, rfl⟩)
 case rest =>
   obtain ⟨rfl, rfl⟩ := hcut
   generalize hc : cl8 k = c at *
   have Hc := Lib.hid hc
   clear hc
   go_wp2
   go_loopw [0, 6] (fun m i wr => ∃ j x : Nat, j <= c /\ i = .int .i64 ((j : Int) - 1) /\ m = .int .u64 (x : Int) /\ Hid (x = n / 256 ^ (c - j)) /\
      wr.rowIs w.heap.size 5 c (fun t => if t < j then .int .u8 0 else zlj (UInt8.ofNat (n / 256 ^ (c - 1 - t)))) /\ Below w.heap.size w wr) (fun _ i _ => (intOf i + 1).toNat)
   case atStart =>
     refine ⟨c, n, by omega, by simp, by simp, Lib.hid (by simp), ?_, ?_⟩
     · exact (World.rowIs_made w (.int .u8 0) c 5).congr (fun i hi => by simp [hi])
     · exact (Below.refl _ _).alloc (Nat.le_refl _) _
   case round =>
     obtain ⟨j, x, hj, rfl, rfl, hx, hrow, hb⟩ := hrel
     rcases j with _ | j
     · have hconv := fun cc => yia (P := Tryz.prog) (src := 94) (dst := 9) (cap := cc) (zrp n c) Tryz.underlying94 Tryz.underlying5 Tryz.underlying9 hrow (zro n c) (fun i hi => by simp [yfx])
       go_wp2
       go_ret
       exact ⟨yad (by rw [Hc.out]), hb⟩
     · have hc := hrow.cell (i := j) (by omega)
       have hf := hrow.frozen j
       have hs := hrow.set j (.int .u8 ((x : Int) % 256))
       have hB := hb.setCell (p := ⟨w.heap.size, j, none⟩) (Nat.le_refl _) (.int .u8 ((x : Int) % 256))
       have h0 : ((j + 1 : Nat) : Int) - 1 = j := by omega
       rw [h0]
       simp only [Nat.lt_succ_self, if_true] at hc
       clear hrow hb h0
       go_wp2
       go_roundw
       case rel =>
         refine ⟨j, x / 256, by omega, rfl, rfl, Lib.hid ?_, hs.congr fun t ht => ?_, hB⟩
         · rw [hx.out, Nat.div_div_eq_div_mul, <- Nat.pow_succ]; congr 2; omega
         · by_cases h1 : t = j
           · subst h1; rw [if_pos rfl, if_neg (by omega), zh1, hx.out, show c - (t + 1) = c - 1 - t by omega]
           · rw [if_neg h1]
             by_cases h2 : t < j
             · rw [if_pos h2, if_pos (by omega)]
             · rw [if_neg h2, if_neg (by omega)]
       case measure => simp [intOf] <;> omega
def zdf (n : Nat) : List UInt8 := if n < 128 then [UInt8.ofNat n] else UInt8.ofNat (n % 128 + 128) :: zdf (n / 128)
termination_by n
decreasing_by omega
theorem zbe {n : Nat} (h : n < 128) : zdf n = [UInt8.ofNat n] := by rw [zdf, if_pos h]
theorem zg8 {n : Nat} (h : 128 <= n) : zdf n = UInt8.ofNat (n % 128 + 128) :: zdf (n / 128) := by rw [zdf, if_neg (by omega)]
theorem yue (x : Nat) : bits .or .u8 ((x : Int) % 256) 128 = (x : Int) % 128 + 128 := by
 have h := u8_or_nat (x % 256) 128 (by omega) (by omega)
 have h2 : x % 256 ||| 128 = x % 128 + 128 := by
   have e1 : x % 256 = x % 128 + x / 128 % 2 * 128 := by omega
   have h3 : x / 128 % 2 = 0 \/ x / 128 % 2 = 1 := by omega
   have j1 : ∀ y, y < 128 -> 128 ||| y = 128 + y := fun y hy => nat_join 7 128 y (by decide) hy
   have e2 : ∀ y, y < 128 -> (y + 128) ||| 128 = y + 128 := fun y hy => by
     rw [Nat.add_comm y 128, <- j1 y hy, Nat.or_comm 128 y, Nat.or_assoc, Nat.or_self]
   rcases h3 with h3 | h3
   · rw [e1, h3, Nat.or_comm]; simp only [Nat.zero_mul, Nat.add_zero]; rw [j1 _ (by omega)]; omega
   · rw [e1, h3, Nat.one_mul, e2 _ (by omega)]
 rw [h2] at h
 have e : (((x % 256 : Nat) : Int)) = (x : Int) % 256 := by omega
 rw [e] at h
 rw [show ((128 : Nat) : Int) = 128 from rfl] at h
 rw [h]; omega
set_option maxRecDepth 100000 in
set_option maxHeartbeats 400000 in
theorem zzk (n : Nat) (w : World) (hn : n < 18446744073709551616) :
   Calls Tryz.prog 137 #[.int .u64 n] w fun e w' => e = .returned (.string ⟨(zdf n).toArray⟩) /\ Below w.heap.size w w' := by
 go_enter Tryz.func137, Tryz.ntmps137
 go_wp2
 refine zlq 0 (fun a' w' => Below w.heap.size w w' /\ ∃ (x k : Nat) (v : Value) (pre : List UInt8), Hid (pre ++ zdf x = zdf n) /\ x < 18446744073709551616 /\ k <= 10 /\ Hid (x * 128 ^ k <= n) /\ w'.ownsRow w.heap.size 5 1 v k (pre.map zlj) /\ ∃ u1 u2 u4 u5 u6 u7 u8 u9 u10 u11 u12 u13 u14 u15 u16 u17 u18 u19 : Value, a' = ⟨#[.int .u64 (x : Int), u1, u2, v, u4, u5, u6, u7, u8, u9, u10, u11, u12, u13, u14, u15, u16, u17, u18, u19], []⟩) (fun a' _ => (intOf (a'.tmps.getD 0 undef)).toNat) rfl ?_ ?_
 · rintro a' wr ⟨hb, x, k, v, pre, hpre, hx, hk, hxk, hown, u1, u2, u4, u5, u6, u7, u8, u9, u10, u11, u12, u13, u14, u15, u16, u17, u18, u19, rfl⟩
   have hor := yue x
   have hsz := hb.size
   by_cases hlt : x < 128
   · have hx8 : ∀ w1 : World, ∀ v1, w1.ownsRow w.heap.size 5 1 v1 (k + 1) (List.map zlj pre ++ [Value.int .u8 (x : Int)]) -> (convert 94 9 v1).run Tryz.prog w1 = .ok (.string ⟨(pre ++ [UInt8.ofNat x]).toArray⟩) w1 := fun w1 v1 h =>
       zy1 (P := Tryz.prog) (src := 94) (dst := 9) (e := 5) Tryz.underlying94 Tryz.underlying5 Tryz.underlying9 (pre ++ [UInt8.ofNat x]) (by
         have e : (Value.int .u8 (x : Int)) = zlj (UInt8.ofNat x) := by rw [zh1]; go_num
         rw [List.map_append, List.map_singleton, <- e]; exact h)
     have Hx8 := Lib.hid hx8
     clear hx8
     go_wp2_with (at_builtin; refine zjt _ rfl _ _ 94 rfl w.heap.size 5 (.int .u8 0) 1 Tryz.underlying94 i5 rfl _ _ _ rfl hown _ rfl rfl (by omega) (by omega) hsz ?_; intro v1 w1 hown1 hb1; have hcv := Hx8.out w1 v1 hown1; clear hown1 hown hor)
     go_ret
     exact ⟨yad (by rw [<- hpre.out, zbe hlt]), hb.trans (by assumption)⟩
   · go_wp2_with (at_builtin; refine zjt _ rfl _ _ 94 rfl w.heap.size 5 (.int .u8 0) 1 Tryz.underlying94 i5 rfl _ _ _ rfl hown _ rfl rfl (by omega) (by omega) hsz ?_; intro v1 w1 hown1 hb1)
     go_step3
     have h128 : 128 * 128 ^ k <= n := Nat.le_trans (Nat.mul_le_mul_right _ (by omega)) hxk.out
     have hk9 : k + 1 <= 10 := by
       refine Decidable.byContradiction fun h => ?_
       have : 128 ^ 10 <= 128 ^ k := Nat.pow_le_pow_right (by decide) (by omega)
       have h3 : (128 : Nat) ^ 10 = 1180591620717411303424 := by decide
       omega
     exact ⟨rfl, ⟨hb.trans hb1, x / 128, k + 1, v1, pre ++ [UInt8.ofNat (x % 128 + 128)], Lib.hid (by rw [List.append_assoc, <- hpre.out, zg8 (n := x) (by omega)]; rfl), by omega, hk9, Lib.hid (by
       rw [Nat.pow_succ]; have h4 : x / 128 * (128 ^ k * 128) <= x * 128 ^ k := by
         rw [Nat.mul_comm (128 ^ k) 128, <- Nat.mul_assoc]; exact Nat.mul_le_mul_right _ (by omega)
       exact Nat.le_trans h4 hxk.out), by
       rw [List.map_append, List.map_singleton, zh1]; rw [show (((x % 128 + 128 : Nat) : Int) % 256) = (x : Int) % 128 + 128 by omega]; exact hown1, _, _, _, _, _, _, _, _, _, _, _, _, _, _, _, _, _, _, rfl⟩, by simp [intOf]; omega⟩
 · intro hP
   go_wp2
   go_step3
   simp only [Exit.then]
   apply_assumption
   exact hP.out _ _ ⟨Below.refl _ _, n, 0, _, [], Lib.hid rfl, hn, by omega, Lib.hid (by simp), World.ownsRow_nil _ _ _ _, _, _, _, _, _, _, _, _, _, _, _, _, _, _, _, _, _, _, rfl⟩
end Go.Proofs.YtogpolfhcbgcbaaGreatDoor
namespace Go.Proofs.YtogpolfhcbgcbaaGreatDoor
open Go.RowKit
def Parts (w : World) (g : Nat) (ps : List (List UInt8)) : Prop := ∀ j (h : j < ps.length), w.cell? ⟨g, j, none⟩ = some (.string ⟨ps[j].toArray⟩)
def zyr (ps : List (List UInt8)) : List UInt8 := ps.flatten
end Go.Proofs.YtogpolfhcbgcbaaGreatDoor
namespace Go.Proofs.YtogpolfhcbgcbaaGreatDoor
namespace Sy
open Go Go.RowKit
set_option maxRecDepth 100000
def putZ (e n : Int) : List UInt8 := zrp e.toNat (cl8 n)
def yle (e n : Int) : Prop := 0 <= e /\ e < 18446744073709551616 /\ -9223372036854775808 <= n /\ n <= 9223372036854775807
def upto (n : Nat) (l : List UInt8) : Prop := l.length <= n
def yfw (L : za7) : zbh := (138, fun xs => match xs with | [.int .u64 e, .int .i64 n] => some (L2 L yle e n, .str (L2 L putZ e n)) | _ => none)
theorem ymb (k : IntKind) (n : Int) : ∀ h D, R h D zap (.int k n) (.int k n) := fun _ _ => .int k n
theorem zmi {e : Int} (h : 0 <= e) : ∃ n : Nat, e = n := ⟨e.toNat, by omega⟩
theorem zu1 : zaz Tryz.prog (yfw std) := by
 intro xs p r h hp
 dsimp only [yfw] at h |-
 split at h <;> cases h
 rename_i e n
 obtain ⟨h0, h1, h2, h3⟩ : yle e n := hp
 obtain ⟨k, rfl⟩ := zmi h0
 exact ze4 (fn := Tryz.f138) rfl rfl (by kernel_rfl) (zyf (zdw _ _) (zdw _ _)) (fun h D => yf8 h D _ _) (fun w => yld k n w (by omega))
end Sy
end Go.Proofs.YtogpolfhcbgcbaaGreatDoor
namespace Go.Proofs.YtogpolfhcbgcbaaGreatDoor
namespace Sy
open Go Go.RowKit
set_option maxRecDepth 100000
set_option linter.unusedSimpArgs false
set_option linter.unusedVariables false
def zav (c : UInt8) : List UInt8 -> List (List UInt8)
 | [] => [[]]
 | x :: s => if x = c then [] :: zav c s else match zav c s with
   | y :: r => (x :: y) :: r
   | [] => [[x]]
theorem zp4 (c : UInt8) : ∀ s, zav c s ≠ []
 | [] => by simp [zav]
 | x :: s => by
   unfold zav
   split
   · simp
   · split <;> simp
theorem zh7 {c : UInt8} : ∀ {s : List UInt8} {m : Nat}, (∀ k, k < m -> s[k]? ≠ some c) -> s[m]? = some c -> zav c s = s.take m :: zav c (s.drop (m + 1))
 | [], m, _, h => by simp at h
 | x :: s, 0, _, h => by
   simp at h; subst h
   simp [zav]
 | x :: s, m + 1, h0, h => by
   have hx : x ≠ c := by
     have := h0 0 (by omega)
     intro e; subst e; simp at this
   have ih := zh7 (s := s) (m := m) (fun k hk => by have := h0 (k + 1) (by omega); simpa using this) (by simpa using h)
   rw [zav, if_neg hx, ih]
   simp
theorem zel {c : UInt8} : ∀ {s : List UInt8}, (∀ k : Nat, s[k]? ≠ some c) -> zav c s = [s]
 | [], _ => rfl
 | x :: s, h0 => by
   have hx : x ≠ c := by
     have := h0 0
     intro e; subst e; simp at this
   have ih := zel (s := s) (fun k => by have := h0 (k + 1); simpa using this)
   rw [zav, if_neg hx, ih]
theorem zar (c : UInt8) : ∀ s : List UInt8, (zav c s).length = s.count c + 1
 | [] => by simp [zav]
 | x :: s => by
   have ih := zar c s
   unfold zav
   by_cases hx : x = c
   · rw [if_pos hx, List.length_cons, ih, hx, List.count_cons_self]
   · rw [if_neg hx, List.count_cons_of_ne (fun e => hx e)]
     cases hs : zav c s with
     | nil => exact absurd hs (zp4 c s)
     | cons y r => rw [hs] at ih; simpa using ih
theorem yca {s : List UInt8} {c : UInt8} (h : Lib.indexByte s c < 0) : ∀ k : Nat, s[k]? ≠ some c := by
 have := Lib.indexByte_ge s c
 exact Lib.indexByte_none (by omega)
theorem zq4 {s : List UInt8} {c : UInt8} (h : ¬ Lib.indexByte s c < 0) : s[(Lib.indexByte s c).toNat]? = some c /\ (∀ k, k < (Lib.indexByte s c).toNat -> s[k]? ≠ some c) /\ (Lib.indexByte s c).toNat < s.length := by
 obtain ⟨o, ho⟩ : ∃ o : Nat, Lib.indexByte s c = o := ⟨(Lib.indexByte s c).toNat, by omega⟩
 have h1 := Lib.indexByte_some ho
 have e : (Lib.indexByte s c).toNat = o := by omega
 rw [e]
 exact ⟨h1.1, h1.2, (List.getElem?_eq_some_iff.1 h1.1).1⟩
theorem yrf (s : List UInt8) (c : UInt8) : -1 <= Lib.indexByte s c /\ Lib.indexByte s c <= s.length := by
 have h0 := Lib.indexByte_ge s c
 by_cases h : Lib.indexByte s c < 0
 · omega
 · have := (zq4 h).2.2; omega
def by1 (sep : List UInt8) : UInt8 := sep.headD 0
def znq (sep : List UInt8) : Prop := sep.length = 1
theorem zrz {sep : List UInt8} (h : znq sep) : sep = [by1 sep] := by
 match sep, h with
 | [c], _ => rfl
def zfl (s sep : List UInt8) : Int := Lib.indexByte s (by1 sep)
def zld (s sep : List UInt8) : Int := s.count (by1 sep)
def zac (s sep : List UInt8) : List (List UInt8) := zav (by1 sep) s
def ybq (l : List (List UInt8)) : Nat := l.length
def yun (L : za7) (l : List (List UInt8)) : AV := .lst 1 (L ybq l) (fun i _ => .str (L2 L ze9 l i))
def yh8 (L : za7) : zbh := (54, fun xs => match xs with | [.str s, .str sep] => some (L znq sep, .int .i64 (L2 L zfl s sep)) | _ => none)
def ymj (L : za7) : zbh := (70, fun xs => match xs with | [.str s, .str sep] => some (L znq sep, .int .i64 (L2 L zfl s sep)) | _ => none)
def ydj (L : za7) : zbh := (30, fun xs => match xs with | [.str s, .str sep] => some (L znq sep, .int .i64 (L2 L zld s sep)) | _ => none)
theorem zv9 : zaz Tryz.prog (yh8 std) := by
 intro xs p r h hp
 dsimp only [yh8] at h |-
 split at h <;> cases h
 try simp only [L2, L3, std] at hp |-
 rename_i s sep
 have h1 := zrz (show znq sep from hp)
 rw [h1]
 refine ze4 (fn := Tryz.f54) rfl rfl (by kernel_rfl) (zyf (zco _) (zco _)) (ymb _ _) (fun w => (Tryz.strings_Index_one ⟨s.toArray⟩ (by1 sep) w).mono ?_)
 rintro e w' ⟨rfl, rfl⟩
 exact ⟨rfl, Below.refl _ _⟩
theorem yhb : zaz Tryz.prog (ymj std) := by
 intro xs p r h hp
 dsimp only [ymj] at h |-
 split at h <;> cases h
 try simp only [L2, L3, std] at hp |-
 rename_i s sep
 have h1 := zrz (show znq sep from hp)
 rw [h1]
 refine ze4 (fn := Tryz.f70) rfl rfl (by kernel_rfl) (zyf (zco _) (zco _)) (ymb _ _) (fun w => (Tryz.stringslite_Index_one ⟨s.toArray⟩ (by1 sep) w).mono ?_)
 rintro e w' ⟨rfl, rfl⟩
 exact ⟨rfl, Below.refl _ _⟩
theorem zon : zaz Tryz.prog (ydj std) := by
 intro xs p r h hp
 dsimp only [ydj] at h |-
 split at h <;> cases h
 try simp only [L2, L3, std] at hp |-
 rename_i s sep
 have h1 := zrz (show znq sep from hp)
 rw [h1]
 refine ze4 (fn := Tryz.f30) rfl rfl (by kernel_rfl) (zyf (zco _) (zco _)) (ymb _ _) (fun w => (Tryz.strings_Count_one ⟨s.toArray⟩ (by1 sep) w).mono ?_)
 rintro e w' ⟨rfl, rfl⟩
 exact ⟨rfl, Below.refl _ _⟩
def yi7 (s sep : List UInt8) : List UInt8 := if zfl s sep < 0 then s else s.take (zfl s sep).toNat
def ydf (s sep : List UInt8) : List UInt8 := if zfl s sep < 0 then [] else s.drop ((zfl s sep).toNat + 1)
def ysg (s sep : List UInt8) : Bool := decide (0 <= zfl s sep)
def ydd (L : za7) : zbh := (147, fun xs => match xs with | [.str s, .str sep] => some (L znq sep /\ L2 L upto 1000000000 s, .tup [.str (L2 L yi7 s sep), .str (L2 L ydf s sep), .bool (L2 L ysg s sep)]) | _ => none)
def ynr (L : za7) : zbh := (139, fun xs => match xs with | [.str s, .str sep] => some (L znq sep /\ L2 L upto 1000000000 s, .tup [.str (L2 L yi7 s sep), .str (L2 L ydf s sep), .bool (L2 L ysg s sep)]) | _ => none)
theorem yde : zaz Tryz.prog (ydd std) := by
 intro xs p r h hp
 dsimp only [ydd] at h |-
 split at h <;> cases h
 try simp only [L2, L3, std] at hp |-
 rename_i s sep
 obtain ⟨p1, p2⟩ : znq sep /\ s.length <= 1000000000 := hp
 refine za5 (T := tt) (S := fun L => zak [ymj L]) (lo := noA) (lb := noA) 5 (fn := Tryz.f147) rfl rfl (by kernel_rfl) (by kernel_rfl) rfl zaa (za2 ⟨yhb, trivial⟩) (by kernel_rfl) ?_
 (intro L P1 Q1 hL hP hQ; cbv; subst hL; simp only [L2, L3, std, syT]; subst hQ)
 (simp only [syS, reduceCtorEq, Int.reduceToNat, Int.reduceAdd, Int.reduceSub])
 have hl := yrf s (by1 sep)
 refine ⟨p1, fun h => ?_, fun h => ?_⟩
 · have := (zq4 (c := by1 sep) (s := s) (by show ¬ zfl s sep < 0; omega)).2.2
   have e0 : ¬ zfl s sep < 0 := by omega
   have e1 : (sep.length : Int) = 1 := by rw [p1]; rfl
   have hl : -1 <= zfl s sep /\ zfl s sep <= s.length := hl
   have this : (zfl s sep).toNat < s.length := this
   rw [e1, show (zfl s sep + 1 + 9223372036854775808) % 18446744073709551616 - 9223372036854775808 = zfl s sep + 1 by omega]
   refine ⟨by omega, by omega, (if_neg e0).symm, ?_, (decide_eq_true h).symm⟩
   rw [ydf, if_neg e0, show (zfl s sep + 1).toNat = (zfl s sep).toNat + 1 by omega]
 · exact ⟨(if_pos (by omega)).symm, (if_pos (by omega)).symm, (decide_eq_false (by omega)).symm⟩
theorem yi4 : zaz Tryz.prog (ynr std) := by
 intro xs p r h hp
 dsimp only [ynr] at h |-
 split at h <;> cases h
 try simp only [L2, L3, std] at hp |-
 rename_i s sep
 obtain ⟨p1, p2⟩ : znq sep /\ s.length <= 1000000000 := hp
 refine za5 (T := tt) (S := fun L => zak [ydd L]) (lo := noA) (lb := noA) 5 (fn := Tryz.f139) rfl rfl (by kernel_rfl) (by kernel_rfl) rfl zaa (za2 ⟨yde, trivial⟩) (by kernel_rfl) ?_
 (intro L P1 Q1 hL hP hQ; cbv; subst hL; simp only [L2, L3, std, syT]; subst hQ)
 (simp only [syS, reduceCtorEq, Int.reduceToNat, Int.reduceAdd, Int.reduceSub])
 exact ⟨p1, p2⟩
def zee (c : UInt8) (s : List UInt8) : Nat -> List UInt8
 | 0 => s
 | i + 1 => (zee c s i).drop ((Lib.indexByte (zee c s i) c).toNat + 1)
theorem zdk (c : UInt8) (s : List UInt8) : ∀ i, i <= s.count c -> zav c (zee c s i) = (zav c s).drop i /\ (zee c s i).length <= s.length
 | 0, _ => by simp [zee]
 | i + 1, h => by
   obtain ⟨ih, hl⟩ := zdk c s i (by omega)
   have hlen := congrArg List.length ih
   rw [zar, List.length_drop, zar] at hlen
   have hn : ¬ Lib.indexByte (zee c s i) c < 0 := by
     intro hn
     have h0 := zel (yca hn)
     have := congrArg List.length h0
     rw [zar] at this
     simp at this
     omega
   obtain ⟨h1, h2, h3⟩ := zq4 hn
   have e := zh7 h2 h1
   rw [ih] at e
   have e2 := congrArg (List.drop 1) e
   rw [List.drop_drop, List.drop_succ_cons, List.drop_zero] at e2
   refine ⟨by rw [zee, <- e2], ?_⟩
   rw [zee, List.length_drop]; omega
theorem zfq {c : UInt8} {s : List UInt8} {i : Nat} (h : i < s.count c) : 0 <= Lib.indexByte (zee c s i) c /\ (Lib.indexByte (zee c s i) c).toNat < (zee c s i).length /\ ze9 (zav c s) i = (zee c s i).take (Lib.indexByte (zee c s i) c).toNat := by
 obtain ⟨ih, hl⟩ := zdk c s i (by omega)
 have hlen := congrArg List.length ih
 rw [zar, List.length_drop, zar] at hlen
 have hn : ¬ Lib.indexByte (zee c s i) c < 0 := by
   intro hn
   have h0 := zel (yca hn)
   have := congrArg List.length h0
   rw [zar] at this
   simp at this
   omega
 obtain ⟨h1, h2, h3⟩ := zq4 hn
 refine ⟨by omega, h3, ?_⟩
 have e := zh7 h2 h1
 rw [ih] at e
 have hlt : i < (zav c s).length := by rw [zar]; omega
 rw [ze9, List.getD_eq_getElem?_getD, List.getElem?_eq_getElem hlt]
 rw [List.drop_eq_getElem_cons hlt] at e
 exact (List.cons.inj e).1
theorem zpc (c : UInt8) (s : List UInt8) : ze9 (zav c s) (s.count c) = zee c s (s.count c) := by
 obtain ⟨ih, hl⟩ := zdk c s (s.count c) (Nat.le_refl _)
 have hlen := congrArg List.length ih
 rw [zar, List.length_drop, zar] at hlen
 have hc : (zee c s (s.count c)).count c = 0 := by omega
 have h0 : zav c (zee c s (s.count c)) = [zee c s (s.count c)] := zel (fun k hk => by
   have := List.count_pos_iff.2 (List.mem_of_getElem? hk)
   omega)
 rw [h0] at ih
 have hlt : s.count c < (zav c s).length := by rw [zar]; omega
 rw [ze9, List.getD_eq_getElem?_getD, List.getElem?_eq_getElem hlt]
 rw [List.drop_eq_getElem_cons hlt] at ih
 exact (List.cons.inj ih).1.symm
def zc5 (s sep : List UInt8) (i : Nat) : List UInt8 := zee (by1 sep) s i
def zla (s sep : List UInt8) (i j : Nat) : List UInt8 := if j < i then ze9 (zac s sep) j else []
def cntB (s sep : List UInt8) : Nat := s.count (by1 sep)
theorem zvs (s sep : List UInt8) : cntB s sep <= s.length := List.count_le_length
def splA (L : za7) (s sep : List UInt8) : Nat -> St -> Option Ann := fun id st => match id with
 | 0 => some ⟨Nat, fun i => [(0, .str (L3 L zc5 s sep i)), (10, .int .i64 (L zaq i)), (9, .sl 900 1 0 (L (fun n : Nat => n + 1) (L2 L cntB s sep))), (3, .int .i64 (L zaq (L2 L cntB s sep)))],
     fun i => [(900, .row 9 1 (L (fun n : Nat => n + 1) (L2 L cntB s sep)) (fun j _ => .str (L (L3 L zla s sep i) j)))], [1, 2], [],
     fun i => L3 L (fun s sep i => i <= cntB s sep) s sep i, fun i => L3 L (fun s sep i => cntB s sep - i) s sep i⟩
 | _ => none
theorem zu8 (q : Nat) (v : List UInt8) (f : Nat -> List UInt8) (i j : Nat) (h : j < 1) : over std q 0 1 [.str v] (fun i _ => .str (f i)) i j = .str (if i = q then v else f i) := by
 have : j = 0 := by omega
 subst this
 rw [zjf, if_pos ⟨Nat.le_refl _, by omega⟩]
 by_cases h : i = q
 · subst h; simp [za4, zgp, L3, std, zbk]
 · simp [zah h, zgp, L3, std, zbk, h]
def nev (f : Nat) : zbh := (f, fun _ => some (False, .dead))
theorem zuk (f : Nat) : zaz Tryz.prog (nev f) := by
 intro xs p r h hp
 cases h
 exact hp.elim
def ymt (L : za7) : zbh := (72, fun xs => match xs with
 | [.str s, .str sep, .int .i64 a, .int .i64 b] => some (L znq sep /\ L2 L upto 1000000000 s /\ L2 L (fun a b : Int => a = 0 /\ b = -1) a b, yun L (L2 L zac s sep))
 | _ => none)
theorem yhi : zaz Tryz.prog (ymt std) := by
 intro xs p r h hp
 dsimp only [ymt] at h |-
 split at h <;> cases h
 try simp only [L2, L3, std] at hp |-
 rename_i s sep a b
 obtain ⟨p1, p2, rfl, rfl⟩ : znq sep /\ s.length <= 1000000000 /\ a = 0 /\ b = -1 := hp
 refine za5 (T := tt) (S := fun L => zak [yh8 L, ydj L, nev 96]) (lo := fun L => splA L s sep) (lb := noA) 5 (fn := Tryz.f72) rfl rfl (by kernel_rfl) (by kernel_rfl) rfl zaa (za2 ⟨zv9, zon, zuk _, trivial⟩) (by kernel_rfl) ?_
 intro L P' Q' hL hP hQ
 (cbv; try simp only [syT, true_and, and_true])
 have hc : zld s sep = (cntB s sep : Int) := rfl
 have hle := zvs s sep
 have hsep : sep ≠ [] := fun e => by rw [e] at p1; cases p1
 refine ⟨fun h => ?_, fun h1 => ⟨fun h => ?_, fun h2 => ⟨fun h3 => ⟨?_, ?_, ⟨0, ?_⟩, fun i hi => ?_⟩, fun h3 => ?_⟩⟩⟩
 · (subst hL; subst hQ; simp only [L2, L3, std] at *; try simp only [syS, reduceCtorEq, Int.reduceToNat, Int.reduceAdd, Int.reduceSub] at *)
 · (subst hL; subst hQ; simp only [L2, L3, std] at *; try simp only [syS, reduceCtorEq, Int.reduceToNat, Int.reduceAdd, Int.reduceSub] at *)
   exact absurd h hsep
 · (subst hL; subst hQ; simp only [L2, L3, std] at *; try simp only [syS, reduceCtorEq, Int.reduceToNat, Int.reduceAdd, Int.reduceSub] at *)
   exact p1
 · (subst hL; subst hQ; simp only [L2, L3, std] at *; try simp only [syS, reduceCtorEq, Int.reduceToNat, Int.reduceAdd, Int.reduceSub] at *)
   rw [hc]
   omega
 · (cbv; try simp only [syT, true_and, and_true])
   (subst hL; subst hQ; simp only [L2, L3, std] at *; try simp only [syS, reduceCtorEq, Int.reduceToNat, Int.reduceAdd, Int.reduceSub] at *)
   rw [hc, show min (((cntB s sep : Nat) + 1 + 9223372036854775808 : Int) % 18446744073709551616 - 9223372036854775808) (((s.length : Nat) + 1 + 9223372036854775808 : Int) % 18446744073709551616 - 9223372036854775808) = (cntB s sep : Nat) + 1 by omega]
   refine ⟨⟨by omega, fun k j hk hj => ?_⟩, by omega, by omega, rfl, Nat.zero_le _⟩
   rw [zla, if_neg (by omega)]
   match j, hj with
   | 0, _ => rfl
 · cbv at hi
   (cbv; try simp only [syT, true_and, and_true])
   refine ⟨fun h4 => ⟨?_, fun h5 => ?_, fun h5 => ⟨?_, ?_, ?_, i + 1, ?_⟩⟩, fun h4 => ⟨?_, ?_, ?_⟩⟩
   · (subst hL; subst hQ; simp only [L2, L3, std] at *; try simp only [syS, reduceCtorEq, Int.reduceToNat, Int.reduceAdd, Int.reduceSub] at *)
     exact p1
   · (subst hL; subst hQ; simp only [L2, L3, std] at *; try simp only [syS, reduceCtorEq, Int.reduceToNat, Int.reduceAdd, Int.reduceSub] at *)
     obtain ⟨r1, r2, r3⟩ := zfq (c := by1 sep) (s := s) (i := i) (show i < cntB s sep by omega)
     exfalso
     have h5 : Lib.indexByte (zee (by1 sep) s i) (by1 sep) < 0 := h5
     omega
   · (subst hL; subst hQ; simp only [L2, L3, std] at *; try simp only [syS, reduceCtorEq, Int.reduceToNat, Int.reduceAdd, Int.reduceSub] at *)
     obtain ⟨r1, r2, r3⟩ := zfq (c := by1 sep) (s := s) (i := i) (show i < cntB s sep by omega)
     obtain ⟨q1, q2⟩ := zdk (by1 sep) s i hi
     have r1 : 0 <= zfl (zc5 s sep i) sep := r1
     have r2 : (zfl (zc5 s sep i) sep).toNat < (zc5 s sep i).length := r2
     have q2 : (zc5 s sep i).length <= s.length := q2
     omega
   · (subst hL; subst hQ; simp only [L2, L3, std] at *; try simp only [syS, reduceCtorEq, Int.reduceToNat, Int.reduceAdd, Int.reduceSub] at *)
     omega
   · (subst hL; subst hQ; simp only [L2, L3, std] at *; try simp only [syS, reduceCtorEq, Int.reduceToNat, Int.reduceAdd, Int.reduceSub] at *)
     obtain ⟨r1, r2, r3⟩ := zfq (c := by1 sep) (s := s) (i := i) (show i < cntB s sep by omega)
     obtain ⟨q1, q2⟩ := zdk (by1 sep) s i hi
     have r1 : 0 <= zfl (zc5 s sep i) sep := r1
     have r2 : (zfl (zc5 s sep i) sep).toNat < (zc5 s sep i).length := r2
     have q2 : (zc5 s sep i).length <= s.length := q2
     have e1 : (sep.length : Int) = 1 := by rw [p1]; rfl
     omega
   · (cbv; try simp only [syT, true_and, and_true])
     (subst hL; subst hQ; simp only [L2, L3, std] at *; try simp only [syS, reduceCtorEq, Int.reduceToNat, Int.reduceAdd, Int.reduceSub] at *)
     obtain ⟨r1, r2, r3⟩ := zfq (c := by1 sep) (s := s) (i := i) (show i < cntB s sep by omega)
     obtain ⟨q1, q2⟩ := zdk (by1 sep) s i hi
     have r1 : 0 <= zfl (zc5 s sep i) sep := r1
     have r2 : (zfl (zc5 s sep i) sep).toNat < (zc5 s sep i).length := r2
     have q2 : (zc5 s sep i).length <= s.length := q2
     have e1 : (sep.length : Int) = 1 := by rw [p1]; rfl
     refine ⟨fun k j hk hj => ?_, by omega, ?_, by omega, by omega⟩
     · rw [zu8 _ _ _ _ _ hj]
       congr 1
       by_cases hki : k = i
       · subst hki
         rw [if_pos rfl, zla, if_pos (by omega), show (zfl (zc5 s sep k) sep + 0 + 9223372036854775808) % 18446744073709551616 - 9223372036854775808 = zfl (zc5 s sep k) sep by omega]
         exact r3.symm
       · rw [if_neg hki, zla, zla]
         by_cases hlt : k < i
         · rw [if_pos hlt, if_pos (by omega)]
         · rw [if_neg hlt, if_neg (by omega)]
     · rw [e1, show ((zfl (zc5 s sep i) sep + 1 + 9223372036854775808) % 18446744073709551616 - 9223372036854775808).toNat = (zfl (zc5 s sep i) sep).toNat + 1 by omega]
       rfl
   · (subst hL; subst hQ; simp only [L2, L3, std] at *; try simp only [syS, reduceCtorEq, Int.reduceToNat, Int.reduceAdd, Int.reduceSub] at *)
     omega
   · (subst hL; subst hQ; simp only [L2, L3, std] at *; try simp only [syS, reduceCtorEq, Int.reduceToNat, Int.reduceAdd, Int.reduceSub] at *)
     omega
   · (subst hL; subst hQ; simp only [L2, L3, std] at *; try simp only [syS, reduceCtorEq, Int.reduceToNat, Int.reduceAdd, Int.reduceSub] at *)
     have hi' : i = cntB s sep := by omega
     subst hi'
     rw [show ((cntB s sep : Nat) + 1 + 9223372036854775808 : Int) % 18446744073709551616 - 9223372036854775808 = ((cntB s sep + 1 : Nat) : Int) by omega, Int.toNat_natCast]
     show zfo (.lst 1 (zav (by1 sep) s).length _) _
     rw [zhr, zar]
     refine ⟨rfl, fun k j hk hj => ?_⟩
     rw [zu8 _ _ _ _ _ hj]
     congr 1
     by_cases hki : k = cntB s sep
     · rw [if_pos hki, hki]; exact (zpc _ _).symm
     · have hk : k < cntB s sep + 1 := hk
       rw [if_neg hki, zla, if_pos (by omega)]
       rfl
 · (subst hL; subst hQ; simp only [L2, L3, std] at *; try simp only [syS, reduceCtorEq, Int.reduceToNat, Int.reduceAdd, Int.reduceSub] at *)
   exact absurd h3 (by decide)
def ykn (L : za7) : zbh := (57, fun xs => match xs with | [.str s, .str sep] => some (L znq sep /\ L2 L upto 1000000000 s, yun L (L2 L zac s sep)) | _ => none)
theorem yf9 : zaz Tryz.prog (ykn std) := by
 intro xs p r h hp
 dsimp only [ykn] at h |-
 split at h <;> cases h
 try simp only [L2, L3, std] at hp |-
 rename_i s sep
 obtain ⟨p1, p2⟩ : znq sep /\ s.length <= 1000000000 := hp
 refine za5 (T := tt) (S := fun L => zak [ymt L]) (lo := noA) (lb := noA) 5 (fn := Tryz.f57) rfl rfl (by kernel_rfl) (by kernel_rfl) rfl zaa (za2 ⟨yhi, trivial⟩) (by kernel_rfl) ?_
 (intro L P1 Q1 hL hP hQ; cbv; subst hL; simp only [L2, L3, std, syT]; subst hQ)
 (simp only [syS, reduceCtorEq, Int.reduceToNat, Int.reduceAdd, Int.reduceSub])
 refine ⟨⟨p1, p2⟩, ?_⟩
 show zfo (.lst 1 (ybq (zac s sep)) _) _
 rw [zhr]
 exact ⟨rfl, fun i j hi hj => rfl⟩
def toS : AV -> List UInt8
 | .str s => s
 | _ => []
def zdy (n : Nat) (get : Nat -> Nat -> AV) : List (List UInt8) := (List.range n).map fun i => toS (get i 0)
def jnZ (sep : List UInt8) (x : AV) : List UInt8 := match x with
 | .lst _ n get => Lib.join (zdy n get) sep
 | _ => []
def yuu (sep : List UInt8) (x : AV) : Prop := match x with
 | .lst 1 n get => (∀ i, i < n -> ∃ s, get i 0 = .str s) /\ n <= 1000000 /\ (Lib.join (zdy n get) sep).length <= 140737488355328
 | .nils => True
 | _ => False
def yut (L : za7) : zbh := (143, fun xs => match xs with | [x, .str sep] => some (L2 L yuu sep x, .str (L2 L jnZ sep x)) | _ => none)
theorem ysw {h : Array Obj} {D : Nat -> Prop} {x y : AV} {vs : Array Value} (hr : RL h D zap [x, y] vs) : ∃ a b, vs = #[a, b] /\ R h D zap x a /\ R h D zap y b := by
 obtain ⟨hl, hr⟩ := hr
 obtain ⟨a, b, ha⟩ : ∃ a b, vs.toList = [a, b] := by
   have hl : vs.toList.length = 2 := by simpa using hl.symm
   match vs.toList, hl with
   | [a, b], _ => exact ⟨a, b, rfl⟩
 have : vs = #[a, b] := by rw [<- Array.toArray_toList (xs := vs), ha]
 subst this
 exact ⟨a, b, rfl, hr 0 x a rfl rfl, hr 1 y b rfl rfl⟩
theorem ym7 : zaz Tryz.prog (yut std) := by
 intro xs p r h hp
 dsimp only [yut] at h |-
 split at h <;> cases h
 try simp only [L2, L3, std] at hp |-
 rename_i x sep
 have hp : yuu sep x := hp
 intro D w vs hD hxs hg
 obtain ⟨a, b, rfl, rx, ry⟩ := ysw hxs
 obtain rfl := zzf ry
 unfold zdi
 rw [zc1 (fn := Tryz.f143) rfl (by kernel_rfl) rfl]
 have fin : ∀ (l : List UInt8), l = jnZ sep x -> (∀ w', Below w.heap.size w w' -> ∃ v D', Ending.returned (.string ⟨l.toArray⟩) = .returned v /\ Below w.heap.size w w' /\ (∀ b, D b -> D' b) /\ (∀ b, D' b -> D b \/ (w.heap.size <= b /\ b < w'.heap.size)) /\ R w'.heap D' zap (.str (jnZ sep x)) v) := by
   rintro l rfl w' hw
   exact ⟨_, D, rfl, hw, fun _ h => h, fun b hb => .inl hb, yf8 _ _ _ _⟩
 have none_ : jnZ sep x = [] -> ∀ (a : Option Addr) (c : Nat), Calls Tryz.prog 143 #[.slice a 0 c, .string ⟨sep.toArray⟩] w fun e w' => ∃ v D', e = .returned v /\ Below w.heap.size w w' /\ (∀ b, D b -> D' b) /\ (∀ b, D' b -> D b \/ (w.heap.size <= b /\ b < w'.heap.size)) /\ R w'.heap D' zap (.str (jnZ sep x)) v := by
   intro h0 a c
   refine (Tryz.strings_Join_none a c ⟨sep.toArray⟩ w).mono ?_
   rintro e w' ⟨rfl, rfl⟩
   exact fin [] h0.symm _ (Below.refl _ _)
 unfold yuu at hp
 split at hp
 · rename_i n get _
   obtain ⟨h1, h2, h3⟩ := hp
   cases rx with
   | lst0 => exact none_ rfl _ _
   | lst _ _ _ b o cap us hD0 hc hv h1' hr =>
     have hl : (zdy n get).length = n := by rw [zdy, List.length_map, List.length_range]
     have hq : ∀ j x, ((zdy n get).map (fun s : List UInt8 => (⟨s.toArray⟩ : ByteArray)))[j]? = some x -> w.cell? ⟨b, o + j, none⟩ = some (.string x) := by
       intro j x hj
       have hjn : j < n := by
         have := (List.getElem?_eq_some_iff.1 hj).1
         rw [List.length_map, hl] at this
         exact this
       obtain ⟨s, hs⟩ := h1 j hjn
       have r := hr j 0 hjn (by omega)
       rw [hs] at r
       have hv := hv j 0 hjn (by omega)
       rw [zzf r, Nat.mul_one, Nat.add_zero] at hv
       rw [zlg, hv]
       have e2 : (zdy n get)[j]? = some s := by rw [zdy, List.getElem?_map, List.getElem?_range hjn, Option.map_some, hs]; rfl
       rw [List.getElem?_map, e2] at hj
       cases hj
       rfl
     have hm : ((zdy n get).map (fun s : List UInt8 => (⟨s.toArray⟩ : ByteArray))).map (·.data.toList) = zdy n get := by
       rw [List.map_map]
       exact List.map_id' _
     have := Tryz.strings_Join b o cap ((zdy n get).map (fun s : List UInt8 => (⟨s.toArray⟩ : ByteArray))) ⟨sep.toArray⟩ w hq (hD b hD0) (by rw [List.length_map, hl]; omega) (by rw [List.length_map, hl]; exact hc) (by rw [hm]; exact h3)
     rw [hm, List.length_map, hl] at this
     refine this.mono ?_
     rintro e w' ⟨rfl, hw⟩
     exact fin _ rfl _ hw
 · cases rx
   exact none_ rfl _ _
 · exact hp.elim
def ygy (c : Int) : Bool := decide (97 <= c) && decide (c <= 122)
def yll (c : Int) : Bool := ygy c || (decide (48 <= c) && decide (c <= 57))
def yb7 (c : Int) : Bool := yll c || (decide (c = 45) || decide (c = 95))
def zji (L : za7) : zbh := (78, fun xs => match xs with
 | [.int .u8 c] => some (True, .bool (L ygy c))
 | _ => none)
theorem zkq : zaz Tryz.prog (zji std) := by
 intro xs p r h hp
 dsimp only [zji] at h |-
 split at h <;> cases h
 try simp only [L2, L3, std] at hp |-
 rename_i c
 refine za5 (T := tt) (S := noS) (lo := noA) (lb := noA) 5 (fn := Tryz.f78) rfl rfl (by kernel_rfl) (by kernel_rfl) rfl zaa (zbx _) (by kernel_rfl) ?_
 (intro L P1 Q1 hL hP hQ; cbv; subst hL; simp only [L2, L3, std, syT]; subst hQ)
 (simp only [syS, reduceCtorEq, Int.reduceToNat, Int.reduceAdd, Int.reduceSub])
 unfold ygy ile
 refine ⟨fun h => by simp [h], fun h => ?_⟩
 rw [decide_eq_false (by omega)]; rfl
def zrv (L : za7) : zbh := (79, fun xs => match xs with
 | [.int .u8 c] => some (True, .bool (L yll c))
 | _ => none)
theorem zx5 : zaz Tryz.prog (zrv std) := by
 intro xs p r h hp
 dsimp only [zrv] at h |-
 split at h <;> cases h
 try simp only [L2, L3, std] at hp |-
 rename_i c
 refine za5 (T := tt) (S := fun L => zak [zji L]) (lo := noA) (lb := noA) 5 (fn := Tryz.f79) rfl rfl (by kernel_rfl) (by kernel_rfl) rfl zaa (za2 ⟨zkq, trivial⟩) (by kernel_rfl) ?_
 (intro L P1 Q1 hL hP hQ; cbv; subst hL; simp only [L2, L3, std, syT]; subst hQ)
 (simp only [syS, reduceCtorEq, Int.reduceToNat, Int.reduceAdd, Int.reduceSub])
 unfold yll ile
 refine ⟨fun h => by simp [h], fun h => ⟨fun h2 => by simp [h, h2], fun h2 => ?_⟩⟩
 rw [h, decide_eq_false (show ¬ 48 <= c by omega)]; rfl
def zyw (f : Int -> Bool) (s : List UInt8) : Bool := s.all fun b => f (b.toNat : Int)
def zod (f : Int -> Bool) (s : List UInt8) (i : Nat) : Prop := i <= s.length /\ ∀ k, k < i -> f (za8 s k) = true
def toC (s : List UInt8) (i : Nat) : Nat := s.length - i
theorem zey {s : List UInt8} {i : Nat} (h : i < s.length) : za8 s i = (s[i].toNat : Int) := by
 rw [za8, List.getD_eq_getElem?_getD, List.getElem?_eq_getElem h]; rfl
theorem ycr (f : Int -> Bool) (s : List UInt8) : zod f s 0 := ⟨Nat.zero_le _, fun k hk => by omega⟩
theorem zmw {f : Int -> Bool} {s : List UInt8} {i : Nat} (h : zod f s i) (hi : i < s.length) (hf : f (za8 s i) = true) : zod f s (i + 1) :=
 ⟨hi, fun k hk => by
   by_cases e : k = i
   · rw [e]; exact hf
   · exact h.2 k (by omega)⟩
theorem zht {f : Int -> Bool} {s : List UInt8} {i : Nat} (h : zod f s i) (hi : s.length <= i) : zyw f s = true := by
 unfold zyw
 rw [List.all_eq_true]
 intro b hb
 obtain ⟨k, hk, rfl⟩ := List.getElem_of_mem hb
 have := h.2 k (by omega)
 rw [zey hk] at this
 exact this
theorem zou {f : Int -> Bool} {s : List UInt8} {i : Nat} (hi : i < s.length) (hf : f (za8 s i) = false) : zyw f s = false := by
 unfold zyw
 rw [List.all_eq_false]
 refine ⟨s[i], List.getElem_mem hi, ?_⟩
 rw [zey hi] at hf
 simp [hf]
def zpn (s : List UInt8) : Bool := !decide (s = []) && (!decide (32 < s.length) && (ygy (za8 s 0) && zyw yb7 s))
def yb5 (L : za7) : zbh := (62, fun xs => match xs with
 | [.str s] => some (True, .bool (L zpn s))
 | _ => none)
def yuk (L : za7) (s : List UInt8) : Nat -> St -> Option Ann := fun id st => match id with
 | 0 => some ⟨Nat, fun i => [(19, .int .i64 (L zaq i))], fun i => [], [0, 18], [], fun i => L (L2 L zod yb7 s) i, fun i => L2 L toC s i⟩
 | _ => none
theorem yb6 : zaz Tryz.prog (yb5 std) := by
 intro xs p r h hp
 dsimp only [yb5] at h |-
 split at h <;> cases h
 try simp only [L2, L3, std] at hp |-
 rename_i s
 refine za6 (T := tt) (S := fun L => zak [zji L, zrv L]) (lo := fun L => yuk L s) (lb := noA) 5 (fn := Tryz.f62) (xs := fun L => [.str s]) rfl rfl (by kernel_rfl) (by kernel_rfl) rfl zaa (za2 ⟨zkq, zx5, trivial⟩) (by kernel_rfl) ?_
 intro L P' Q' hL hP hQ
 (cbv; try simp only [syT, true_and, and_true])
 refine ⟨fun h => ?_, fun h1 => ⟨fun h => ?_, fun h2 => ⟨?_, fun h => ?_, fun h3 => ⟨⟨0, ?_⟩, fun i hi => ?_⟩⟩⟩⟩
 · (subst hL; subst hQ; simp only [L2, L3, std] at *; try simp only [syS, reduceCtorEq, Int.reduceToNat, Int.reduceAdd, Int.reduceSub] at *)
   rw [zpn, decide_eq_true h]; rfl
 · (subst hL; subst hQ; simp only [L2, L3, std] at *; try simp only [syS, reduceCtorEq, Int.reduceToNat, Int.reduceAdd, Int.reduceSub] at *)
   rw [zpn, decide_eq_true (show 32 < s.length by omega)]; simp
 · (subst hL; subst hQ; simp only [L2, L3, std] at *; try simp only [syS, reduceCtorEq, Int.reduceToNat, Int.reduceAdd, Int.reduceSub] at *)
   have : s.length ≠ 0 := fun h => h1 (List.eq_nil_of_length_eq_zero h)
   omega
 · (subst hL; subst hQ; simp only [L2, L3, std] at *; try simp only [syS, reduceCtorEq, Int.reduceToNat, Int.reduceAdd, Int.reduceSub] at *)
   rw [zpn, show ygy (za8 s 0) = false from h]; simp
 · (cbv; try simp only [syT, true_and, and_true])
   (subst hL; subst hQ; simp only [L2, L3, std] at *; try simp only [syS, reduceCtorEq, Int.reduceToNat, Int.reduceAdd, Int.reduceSub] at *)
   exact ycr _ _
 · have hi2 : zod yb7 s i := by
     have h := hi
     rw [hL] at h
     exact h
   clear hi
   obtain ⟨hi3, hi4⟩ := hi2
   have g1 : ¬ s = [] := by
     rw [hL] at h1
     have h : seq s [] = false := h1
     simpa [seq] using h
   have g2 : ¬ 32 < s.length := by
     rw [hL] at h2
     have h : ilt 32 (s.length : Int) = false := h2
     rw [zkx] at h
     omega
   have g3 : ygy (za8 s 0) = true := by
     rw [hL] at h3
     have h : (!ygy (za8 s 0)) = false := h3
     simpa using h
   have g4 : zpn s = zyw yb7 s := by
     rw [zpn, decide_eq_false g1, decide_eq_false g2, g3]; rfl
   clear h1 h2 h3
   (cbv; try simp only [syT, true_and, and_true])
   have hcb : L (L zgo s) (L zaq i) = za8 s i := by subst hL; rfl
   rw [hcb]
   clear hcb
   have step : i < s.length -> yb7 (za8 s i) = true -> zod yb7 s (i + 1) /\ toC s (i + 1) + 1 <= toC s i := fun h1 h2 => ⟨zmw ⟨hi3, hi4⟩ h1 h2, by show s.length - (i + 1) + 1 <= s.length - i; omega⟩
   have bad : i < s.length -> yb7 (za8 s i) = false -> zpn s = false := fun h1 h2 => by rw [g4]; exact zou h1 h2
   generalize za8 s i = c at step bad |-
   have hlt2 : L (L ilt (L zaq i)) (L slen s) = true -> i < s.length := by
     intro h
     rw [hL] at h
     have h : ilt (i : Int) (s.length : Int) = true := h
     rw [zq3] at h
     omega
   refine ⟨fun hlt => ⟨?_, fun h1 => ⟨?_, fun h2 => ⟨?_, fun h3 => ?_, fun h3 => ⟨i + 1, ?_⟩⟩, fun h2 => ⟨i + 1, ?_⟩⟩, fun h1 => ⟨i + 1, ?_⟩⟩, fun hge => ?_⟩
   · (subst hL; subst hQ; simp only [L2, L3, std] at *; try simp only [syS, reduceCtorEq, Int.reduceToNat, Int.reduceAdd, Int.reduceSub] at *)
     omega
   · (subst hL; subst hQ; simp only [L2, L3, std] at *; try simp only [syS, reduceCtorEq, Int.reduceToNat, Int.reduceAdd, Int.reduceSub] at *)
     omega
   · (subst hL; subst hQ; simp only [L2, L3, std] at *; try simp only [syS, reduceCtorEq, Int.reduceToNat, Int.reduceAdd, Int.reduceSub] at *)
     omega
   · have hli := hlt2 hlt
     (subst hL; subst hQ; simp only [L2, L3, std] at *; try simp only [syS, reduceCtorEq, Int.reduceToNat, Int.reduceAdd, Int.reduceSub] at *)
     rw [bad hli (by simp [yb7, h1, h2, h3])]
   · have hli := hlt2 hlt
     (cbv; try simp only [syT, true_and, and_true])
     (subst hL; subst hQ; simp only [L2, L3, std] at *; try simp only [syS, reduceCtorEq, Int.reduceToNat, Int.reduceAdd, Int.reduceSub] at *)
     obtain ⟨k1, k2⟩ := step hli (by simp [yb7, h3])
     exact ⟨by omega, k1, k2⟩
   · have hli := hlt2 hlt
     (cbv; try simp only [syT, true_and, and_true])
     (subst hL; subst hQ; simp only [L2, L3, std] at *; try simp only [syS, reduceCtorEq, Int.reduceToNat, Int.reduceAdd, Int.reduceSub] at *)
     obtain ⟨k1, k2⟩ := step hli (by simp [yb7, h2])
     exact ⟨by omega, k1, k2⟩
   · have hli := hlt2 hlt
     (cbv; try simp only [syT, true_and, and_true])
     (subst hL; subst hQ; simp only [L2, L3, std] at *; try simp only [syS, reduceCtorEq, Int.reduceToNat, Int.reduceAdd, Int.reduceSub] at *)
     obtain ⟨k1, k2⟩ := step hli (by simp [yb7, h1])
     exact ⟨by omega, k1, k2⟩
   · (subst hL; subst hQ; simp only [L2, L3, std] at *; try simp only [syS, reduceCtorEq, Int.reduceToNat, Int.reduceAdd, Int.reduceSub] at *)
     rw [g4, zht ⟨hi3, hi4⟩ (by omega)]
def yrl (c : Int) : Bool := yll c || decide (c = 45)
def ybt (s : List UInt8) : Int := za8 s (s.length - 1)
def ze6 (s : List UInt8) : Bool := !decide (s = []) && (!decide (32 < s.length) && (!decide (za8 s 0 = 45) && (!decide (ybt s = 45) && zyw yrl s)))
def ybm (c : Int) : Int := if 65 <= c /\ c <= 90 then c + 32 else c
def yji (b : UInt8) : UInt8 := UInt8.ofNat (ybm (b.toNat : Int)).toNat
def zcm (s : List UInt8) : List UInt8 := s.map yji
def yev (s : List UInt8) (i k : Nat) : Int := if k < i then ybm (za8 s k) else za8 s k
theorem zkp {s : List UInt8} {i k : Nat} : yev s (i + 1) k = if k = i then ybm (za8 s i) else yev s i k := by
 unfold yev
 by_cases e : k = i
 · rw [if_pos e, if_pos (by omega), e]
 · rw [if_neg e]
   by_cases h : k < i
   · rw [if_pos (by omega), if_pos h]
   · rw [if_neg (by omega), if_neg h]
theorem ygv {s : List UInt8} {i : Nat} (h : s.length <= i) : zbd s.length (fun k => (AV.int .u8 (yev s i (0 + k))).toI) = zcm s := by
 apply List.ext_getElem
 · simp [zbd, zcm]
 · intro k h1 h2
   have hk : k < s.length := by simpa [zcm] using h2
   simp only [zbd, zcm, List.getElem_map, List.getElem_range, AV.toI, Nat.zero_add]
   rw [yev, if_pos (by omega), zey hk]
   rfl
def leN8 (s : List UInt8) (i : Nat) : Prop := i <= s.length
def zsa (L : za7) : zbh := (48, fun xs => match xs with
 | [.str s] => some (L2 L upto 1000000000 s, .str (L zcm s))
 | _ => none)
def yqy (L : za7) (s : List UInt8) : Nat -> St -> Option Ann := fun id st => match id with
 | 0 => some ⟨Nat, fun i => [(10, .int .i64 (L zaq i)), (3, .sl 900 1 0 (L lenN s)), (8, .sl 900 1 0 (L lenN s))], fun i => [(900, .row 5 1 (L lenN s) (fun k _ => .int .u8 (L3 L yev s i k)))], [9], [], fun i => L2 L leN8 s i, fun i => L2 L toC s i⟩
 | _ => none
theorem zxg : zaz Tryz.prog (zsa std) := by
 intro xs p r h hp
 dsimp only [zsa] at h |-
 split at h <;> cases h
 try simp only [L2, L3, std] at hp |-
 rename_i s
 have hz : s.length <= 1000000000 := hp
 refine za6 (T := tt) (S := fun L => noS L) (lo := fun L => yqy L s) (lb := noA) 5 (fn := Tryz.f48) (xs := fun L => [.str s]) rfl rfl (by kernel_rfl) (by kernel_rfl) rfl zaa (zbx _) (by kernel_rfl) ?_
 intro L P' Q' hL hP hQ
 (cbv; try simp only [syT, true_and, and_true])
 refine ⟨⟨0, ?_⟩, fun i hi => ?_⟩
 · (cbv; try simp only [syT, true_and, and_true])
   (subst hL; subst hQ; simp only [L2, L3, std] at *; try simp only [syS, reduceCtorEq, Int.reduceToNat, Int.reduceAdd, Int.reduceSub] at *)
   exact ⟨fun i j hi hj => by rw [yev, if_neg (by omega)], Nat.zero_le _⟩
 · have hi2 : i <= s.length := by
     have h := hi
     rw [hL] at h
     exact h
   clear hi
   (cbv; try simp only [syT, true_and, and_true])
   have hc : L (L (L yev s) i) (L (L Nat.add 0) (L Int.toNat (L zaq i))) = za8 s i := by
     subst hL
     show yev s i (0 + i) = _
     rw [Nat.zero_add, yev, if_neg (by omega)]
   rw [hc]
   refine ⟨fun hlt => ⟨?_, fun h1 => ⟨fun h2 => ⟨?_, ?_, i + 1, ?_⟩, fun h2 => ⟨i + 1, ?_⟩⟩, fun h1 => ⟨i + 1, ?_⟩⟩, fun hge => ?_⟩
   · (subst hL; subst hQ; simp only [L2, L3, std] at *; try simp only [syS, reduceCtorEq, Int.reduceToNat, Int.reduceAdd, Int.reduceSub] at *)
     omega
   · (subst hL; subst hQ; simp only [L2, L3, std] at *; try simp only [syS, reduceCtorEq, Int.reduceToNat, Int.reduceAdd, Int.reduceSub] at *)
     omega
   · (subst hL; subst hQ; simp only [L2, L3, std] at *; try simp only [syS, reduceCtorEq, Int.reduceToNat, Int.reduceAdd, Int.reduceSub] at *)
     omega
   · (cbv; try simp only [syT, true_and, and_true])
     try simp only [hc]
     (subst hL; subst hQ; simp only [L2, L3, std] at *; try simp only [syS, reduceCtorEq, Int.reduceToNat, Int.reduceAdd, Int.reduceSub] at *)
     refine ⟨fun k j hk hj => ?_, by omega, by show i + 1 <= s.length; omega, by show s.length - (i + 1) + 1 <= s.length - i; omega⟩
     rw [yud _ _ _ _ _ _ hj, zkp]
     by_cases e : k = i
     · rw [if_pos e, if_pos e, ybm, if_pos ⟨h1, h2⟩]
       congr 1
       omega
     · rw [if_neg e, if_neg e]
   · (cbv; try simp only [syT, true_and, and_true])
     (subst hL; subst hQ; simp only [L2, L3, std] at *; try simp only [syS, reduceCtorEq, Int.reduceToNat, Int.reduceAdd, Int.reduceSub] at *)
     refine ⟨fun k j hk hj => ?_, by omega, by show i + 1 <= s.length; omega, by show s.length - (i + 1) + 1 <= s.length - i; omega⟩
     rw [zkp]
     by_cases e : k = i
     · rw [if_pos e, ybm, if_neg (by omega), e, hc]
     · rw [if_neg e]
   · (cbv; try simp only [syT, true_and, and_true])
     (subst hL; subst hQ; simp only [L2, L3, std] at *; try simp only [syS, reduceCtorEq, Int.reduceToNat, Int.reduceAdd, Int.reduceSub] at *)
     refine ⟨fun k j hk hj => ?_, by omega, by show i + 1 <= s.length; omega, by show s.length - (i + 1) + 1 <= s.length - i; omega⟩
     rw [zkp]
     by_cases e : k = i
     · rw [if_pos e, ybm, if_neg (by omega), e, hc]
     · rw [if_neg e]
   · subst hQ; subst hL
     have hge : ilt (i : Int) (s.length : Int) = false := hge
     rw [zkx] at hge
     refine ⟨⟨by show 0 + s.length <= s.length; omega, fun k hk => ⟨_, rfl⟩⟩, ?_⟩
     rw [zoc]
     exact ygv (by omega)
def yeu (s : List UInt8) (i : Nat) : List UInt8 := zcm (s.take i)
theorem zko {s : List UInt8} {i : Nat} (h : i < s.length) : yeu s (i + 1) = yeu s i ++ [UInt8.ofNat (ybm (za8 s i)).toNat] := by
 rw [yeu, List.take_succ_eq_append_getElem h, zey h, yeu]
 unfold zcm yji
 rw [List.map_append]; rfl
theorem ygu {s : List UInt8} {i : Nat} (h : s.length <= i) : yeu s i = zcm s := by rw [yeu, List.take_of_length_le h]
def yl3 (L : za7) (s : List UInt8) : Nat -> St -> Option Ann := fun id st => match id with
 | 0 => some ⟨Nat, fun i => [(4, .int .i64 (L zaq i)), (3, .str (L2 L yeu s i))], fun i => [], [0], [], fun i => L2 L leN8 s i, fun i => L2 L toC s i⟩
 | _ => none
end Sy
end Go.Proofs.YtogpolfhcbgcbaaGreatDoor
namespace Go.Proofs.YtogpolfhcbgcbaaGreatDoor
open Go Go.RowKit Go.Sort Go.Lib
set_option maxRecDepth 100000
set_option linter.unusedSimpArgs false
set_option linter.unusedVariables false
set_option maxHeartbeats 6400000 in
theorem yrp (u : Nat) (hu : u < 18446744073709551616) (w : World) (htab : Lib.TabIs Tryz.prog w "internal/strconv.uint64pow10" .u64 Lib.pow10Tab) :
   Calls Tryz.prog 154 #[.int .u64 u, .int .i64 10] w fun e w' => e = .returned (.string ⟨(Lib.decDigits u).toArray⟩) /\ Below w.heap.size w w' := by
 by_cases hs : u < 100
 · have hw : IntKind.i64.wrap (u : Int) = (u : Int) := by rw [IntKind.wrap_i64]; omega
   go_enter Tryz.func154, Tryz.ntmps154
   go_wp2_with (go_at_call 162; refine (Tryz.internal_strconv_small u hs _).mono ?_; rintro e w' ⟨rfl, rfl⟩)
   go_ret
   exact ⟨rfl, Below.refl _ _⟩
 · have hu1 : 1 <= u := by omega
   have hnd20 : Lib.nDigits u <= 20 := by have := Lib.numDigits_eq u hu1 hu; split at this <;> omega
   have hal : Tryz.prog.arrayLen 191 = 24 := by kernel_rfl
   have hsl1 : ∀ W, (Instr.sliceAt 191 (.pointer (some ⟨w.heap.size, 0, none⟩)) none (some (.int .i64 (Lib.nDigits u : Int))) none).run Tryz.prog W = .ok (.slice (some ⟨w.heap.size, 0, none⟩) (Lib.nDigits u) 24) W := fun W => by
     rw [run_sliceAt_array_h W 191 ⟨w.heap.size, 0, none⟩ (by simp [Program.arrayLen, Program.elem, Tryz.underlying191]) .i64 (Lib.nDigits u : Int) (by omega) (by rw [hal]; omega)]
     go_simp
     first | done | omega
   have hH0 := Lib.holds_zero0 w 191 (Lib.nDigits u) (by omega)
   have hfmt := Tryz.internal_strconv_formatBase10 w.heap.size 0 24 u (Array.replicate (Lib.nDigits u) 0) (w.alloc (.cells Lib.zeros24 191)) hH0 (by rw [Array.size_replicate]; exact Lib.lt_pow_nDigits u) hu (by rw [Array.size_replicate]; omega)
   rw [Array.size_replicate] at hfmt
   have HH0 := Lib.hid hH0
   clear hH0 hal
   go_enter Tryz.func154, Tryz.ntmps154
   go_wp2_with (first
     | (go_at_call 163; refine (Tryz.internal_strconv_numDigits u hu1 hu _ (Lib.tabIs_alloc htab _)).mono ?_; rintro e w' ⟨rfl, rfl⟩))
   refine hfmt.mono ?_
   rintro e w' ⟨rfl, k, v', dk, rfl, hF⟩
   have hcv : (convert 94 9 (.slice (some ⟨w.heap.size, 0, none⟩) (Lib.nDigits u) 24)).run Tryz.prog ((putRow (fun (b : UInt8) => Value.int .u8 (b.toNat : Int)) (w.alloc (.cells Lib.zeros24 191)) w.heap.size 0 dk).drewN k) = .ok (.string ⟨(Lib.decDigits u).toArray⟩) ((putRow (fun (b : UInt8) => Value.int .u8 (b.toNat : Int)) (w.alloc (.cells Lib.zeros24 191)) w.heap.size 0 dk).drewN k) := by
     have h := run_convert_bytes_back (P := Tryz.prog) ((putRow (fun (b : UInt8) => Value.int .u8 (b.toNat : Int)) (w.alloc (.cells Lib.zeros24 191)) w.heap.size 0 dk).drewN k) 94 9 5 ⟨w.heap.size, 0, none⟩ 24 (Lib.decDigits u) Tryz.underlying94 Tryz.underlying5 Tryz.underlying9 (fun j hj => by
       rw [Lib.row_is_numeral hF j hj, Lib.add_plain, World.cell?_drewN]
       exact cell?_putRow (fun (b : UInt8) => Value.int .u8 (b.toNat : Int)) _ w.heap.size 0 _ dk HH0.out (by rw [hF.size, Array.size_replicate]) j (by rw [hF.size]; rw [Lib.decDigits_length] at hj; exact hj))
     rw [Lib.decDigits_length] at h
     exact h
   go_wp2
   go_ret
   obtain ⟨os, eo⟩ := Lib.fin_at w (.cells Lib.zeros24 191) dk k 0
   refine ⟨rfl, ?_⟩
   have := Lib.below_grow w.heap.size w (Nat.le_refl _) k os
   rw [<- eo] at this
   exact this
theorem yn1 (u : Nat) (hu : u < 18446744073709551616) (w : World) (htab : Lib.TabIs Tryz.prog w "internal/strconv.uint64pow10" .u64 Lib.pow10Tab) :
   Calls Tryz.prog 149 #[.int .u64 u, .int .i64 10] w fun e w' => e = .returned (.string ⟨(Lib.decDigits u).toArray⟩) /\ Below w.heap.size w w' := by
 go_enter Tryz.func149, Tryz.ntmps149
 go_wp2_with (go_at_call 154; refine (yrp u hu _ htab).mono ?_; rintro e w' ⟨rfl, hw⟩)
 go_ret
 exact ⟨rfl, hw⟩
end Go.Proofs.YtogpolfhcbgcbaaGreatDoor
namespace Go.Proofs.YtogpolfhcbgcbaaGreatDoor
namespace Sy
open Go Go.RowKit
set_option maxRecDepth 100000
set_option linter.unusedSimpArgs false
set_option linter.unusedVariables false
theorem zg5 {P : Program} {f : FuncId} {fn : Func} {c : Code} {xs : List AV} {args : Array Value} {r : AV} (hf : P.funcs[f]? = some fn) (hb : fn.body = some c) (hn : (fn.name == "runtime.NumGoroutine") = false)
   (ha : ∀ h D vs, RL h D zap xs vs -> vs = args) (h : ∀ w, GOk w -> Calls P f args w fun e w' => ∃ v, e = .returned v /\ Below w.heap.size w w' /\ ∀ h D, R h D zap r v) : za9 P f xs r := by
 intro D w vs hD hxs hg
 have := ha _ _ _ hxs
 subst this
 unfold zdi
 rw [zc1 hf hn hb]
 refine (h w hg).mono ?_
 rintro e w' ⟨v, rfl, hw, hv⟩
 exact ⟨v, D, rfl, hw, fun _ h => h, fun b hb => .inl hb, hv _ _⟩
theorem yvs {x y z : AV} {v u t : Value} (hx : zr2 x v) (hy : zr2 y u) (hz : zr2 z t) : ∀ h D vs, RL h D zap [x, y, z] vs -> vs = #[v, u, t] := by
 intro h D vs ⟨hl, hr⟩
 obtain ⟨a, b, c, ha⟩ : ∃ a b c, vs.toList = [a, b, c] := by
   have hl : vs.toList.length = 3 := by simpa using hl.symm
   match vs.toList, hl with
   | [a, b, c], _ => exact ⟨a, b, c, rfl⟩
 have : vs = #[a, b, c] := by rw [<- Array.toArray_toList (xs := vs), ha]
 subst this
 rw [hx _ _ a (hr 0 x a rfl rfl), hy _ _ b (hr 1 y b rfl rfl), hz _ _ c (hr 2 z c rfl rfl)]
def zcu (n : Int) : List UInt8 := Lib.decDigits n.toNat
def zjv (n : Int) : Prop := 0 <= n /\ n < 18446744073709551616
def yn0 (L : za7) : zbh := (149, fun xs => match xs with | [.int .u64 n, .int .i64 b] => some (L2 L (fun n b : Int => zjv n /\ b = 10) n b, .str (L zcu n)) | _ => none)
theorem yho : zaz Tryz.prog (yn0 std) := by
 intro xs p r h hp
 dsimp only [yn0] at h |-
 split at h <;> cases h
 try simp only [L2, L3, std] at hp |-
 rename_i n b
 obtain ⟨⟨h0, h1⟩, h2⟩ : zjv n /\ b = 10 := hp
 subst h2
 obtain ⟨u, rfl⟩ := zmi h0
 refine zg5 (fn := Tryz.f149) rfl rfl (by kernel_rfl) (zyf (zdw _ _) (zdw _ _)) (fun w hg => (yn1 u (by omega) w hg.2.1).mono ?_)
 rintro e w' ⟨rfl, hw⟩
 exact ⟨_, rfl, hw, fun h D => yf8 h D _ _⟩
def yg0 (s : List UInt8) : Int := match Lib.parseUintB 64 s with | .ok u => u | .syntax => 0 | .range => 18446744073709551615
def yeq (s : List UInt8) : Bool := match Lib.parseUintB 64 s with | .ok _ => true | _ => false
def ylf (L : za7) : zbh := (148, fun xs => match xs with | [.str s, .int .i64 b, .int .i64 z] => some (L3 L (fun (s : List UInt8) (b z : Int) => s.length <= 140737488355328 /\ b = 10 /\ z = 64) s b z, .tup [.int .u64 (L yg0 s), .ifb (L yeq s)]) | _ => none)
theorem zzd {x y : AV} {v u : Value} {h : Array Obj} {D : Nat -> Prop} (hx : R h D zap x v) (hy : R h D zap y u) : R h D zap (.tup [x, y]) (.tuple #[v, u]) := by
 refine .tup _ _ rfl ?_
 intro i z t hz ht
 match i with
 | 0 => simp at hz ht; subst hz ht; exact hx
 | 1 => simp at hz ht; subst hz ht; exact hy
 | i + 2 => simp at hz
theorem yfz : zaz Tryz.prog (ylf std) := by
 intro xs p r h hp
 dsimp only [ylf] at h |-
 split at h <;> cases h
 try simp only [L2, L3, std] at hp |-
 rename_i s b z
 obtain ⟨h0, h1, h2⟩ : s.length <= 140737488355328 /\ b = 10 /\ z = 64 := hp
 subst h1; subst h2
 have hs : (⟨s.toArray⟩ : ByteArray).size = s.length := by show s.toArray.size = s.length; simp
 have hd : (⟨s.toArray⟩ : ByteArray).data.toList = s := rfl
 refine zg5 (fn := Tryz.f148) rfl rfl (by kernel_rfl) (yvs (zco _) (zdw _ _) (zdw _ _)) (fun w hg => ?_)
 obtain ⟨-, -, ⟨t2, p2, g2⟩, ⟨t3, p3, g3⟩, -⟩ := hg
 cases hq : Lib.parseUintB 64 s with
 | ok u =>
   refine (Tryz.strconv_ParseUint_10_at64_ok ⟨s.toArray⟩ (by rw [hs]; omega) u (by rw [hd]; exact hq) w).mono ?_
   rintro e w' ⟨rfl, hw⟩
   refine ⟨_, rfl, ?_, fun h D => zzd ?_ ?_⟩
   · rcases hw with rfl | rfl
     · exact Below.refl _ _
     · exact Lib.bytesWorld_below _ _ _
   · show R h D zap (.int .u64 (yg0 s)) _
     rw [yg0, hq]; exact .int _ _
   · show R h D zap (.ifb (yeq s)) _
     rw [yeq, hq]; exact .ifn
 | «syntax» =>
   refine (Tryz.strconv_ParseUint_10_at64_syntax_var ⟨s.toArray⟩ (by rw [hs]; omega) (by rw [hd]; exact hq) t2 p2 w g2).mono ?_
   rintro e w' ⟨N, rfl, hN, hc, hw⟩
   refine ⟨_, rfl, hw, fun h D => zzd ?_ ?_⟩
   · show R h D zap (.int .u64 (yg0 s)) _
     rw [yg0, hq]; exact .int _ _
   · show R h D zap (.ifb (yeq s)) _
     rw [yeq, hq]; exact .ifs _ _
 | range =>
   refine (Tryz.strconv_ParseUint_10_at64_range_var ⟨s.toArray⟩ (by rw [hs]; omega) (by rw [hd]; exact hq) t3 p3 w g3).mono ?_
   rintro e w' ⟨N, rfl, hN, hc, hw⟩
   refine ⟨_, rfl, hw, fun h D => zzd ?_ ?_⟩
   · show R h D zap (.int .u64 (yg0 s)) _
     rw [yg0, hq]; exact .int _ _
   · show R h D zap (.ifb (yeq s)) _
     rw [yeq, hq]; exact .ifs _ _
def zcq (n : Int) : Prop := 0 <= n /\ n < 18446744073709551616
def zb5 (n : Int) : List UInt8 := zdf n.toNat
def zk1 (L : za7) : zbh := (137, fun xs => match xs with | [.int .u64 n] => some (L zcq n, .str (L zb5 n)) | _ => none)
theorem zib : zaz Tryz.prog (zk1 std) := by
 intro xs p r h hp
 dsimp only [zk1] at h |-
 split at h <;> cases h
 try simp only [L2, L3, std] at hp |-
 rename_i n
 obtain ⟨h0, h1⟩ : zcq n := hp
 obtain ⟨k, rfl⟩ := zmi h0
 exact ze4 (fn := Tryz.f137) rfl rfl (by kernel_rfl) (yvt (zdw _ _)) (fun h D => yf8 h D _ _) (fun w => zzk k w (by omega))
theorem zyd : za9 Tryz.prog 141 [] (.bool true) := by
 refine za5 (T := tt) (S := fun L => zak [zk1 L, yfw L]) (lo := noA) (lb := noA) 5 (fn := Tryz.f141) rfl rfl (by kernel_rfl) (by kernel_rfl) rfl zaa (za2 ⟨zib, zu1, trivial⟩) (by kernel_rfl) ?_
 (intro L P1 Q1 hL hP hQ; cbv; subst hL; simp only [L2, L3, std, syT]; subst hQ)
 (simp only [syS, reduceCtorEq, Int.reduceToNat, Int.reduceAdd, Int.reduceSub])
 exact ⟨by unfold zcq; omega, fun _ => ⟨by unfold yle; omega, by decide +kernel⟩, by rw [zb5, show (300 : Int).toNat = 300 from rfl, zg8 (by decide), zbe (by decide)]; rfl⟩
def tru (f : Nat) : zbh := (f, fun xs => match xs with | [] => some (True, .bool true) | _ => none)
theorem zbw {P : Program} {f : Nat} (h : za9 P f [] (.bool true)) : zaz P (tru f) := by
 intro xs p r h' hp
 match xs with
 | [] => cases h'; exact h
 | x :: xs => cases h'
theorem zn8 : za9 Tryz.prog 123 [] (.bool true) := by
 refine za5 (T := tt) (S := fun L => zak [tru 141]) (lo := noA) (lb := noA) 5 (fn := Tryz.f123) rfl rfl (by kernel_rfl) (by kernel_rfl) rfl zaa (za2 ⟨zbw zyd, trivial⟩) (by kernel_rfl) ?_
 (intro L P1 Q1 hL hP hQ; cbv; subst hL; simp only [L2, L3, std, syT]; subst hQ)
 (simp only [syS, reduceCtorEq, Int.reduceToNat, Int.reduceAdd, Int.reduceSub])
def isD (c : UInt8) : Bool := decide (48 <= c.toNat) && decide (c.toNat <= 57)
def dcS (a : Nat) (c : UInt8) : Nat := a * 10 + (c.toNat - 48)
def zlz (a : Nat) (l : List UInt8) : Nat := l.foldl dcS a
theorem zjo (a : Nat) : zlz a [] = a := by unfold zlz; exact List.foldl_nil
theorem zhw (a : Nat) (c : UInt8) (r : List UInt8) : zlz a (c :: r) = zlz (a * 10 + (c.toNat - 48)) r := by unfold zlz; exact List.foldl_cons ..
theorem zvo (l : List UInt8) (c : UInt8) (a : Nat) : zlz a (l ++ [c]) = zlz a l * 10 + (c.toNat - 48) := by
 unfold zlz
 rw [List.foldl_append, List.foldl_cons, List.foldl_nil, dcS]
theorem zt0 : ∀ (l : List UInt8) (a : Nat), a <= zlz a l
 | [], a => by rw [zjo]; exact Nat.le_refl _
 | c :: r, a => by rw [zhw]; exact Nat.le_trans (by omega) (zt0 r _)
theorem zgx {c : UInt8} : isD c = true ↔ 48 <= c.toNat /\ c.toNat <= 57 := by
 simp [isD]
theorem yj8 : ∀ (l : List UInt8) (a : Nat), l.all isD = true -> a < 18446744073709551616 -> Lib.parseUintM 18446744073709551615 a l = if zlz a l < 18446744073709551616 then .ok (zlz a l) else .range
 | [], a, _, ha => by
   rw [zjo, if_pos ha, Lib.parseUintM]
 | c :: r, a, h, ha => by
   rw [List.all_cons, Bool.and_eq_true] at h
   obtain ⟨h1, h2⟩ := h
   rw [zgx] at h1
   rw [Lib.parseUintM, if_pos h1, zhw]
   have hge := zt0 r (a * 10 + (c.toNat - 48))
   split
   · rw [if_neg (by omega)]
   · split
     · rw [if_neg (by omega)]
     · exact yj8 r _ h2 (by omega)
theorem ylg {l : List UInt8} (h : l.all isD = true) (h0 : l ≠ []) : Lib.parseUintB 64 l = if zlz 0 l < 18446744073709551616 then .ok (zlz 0 l) else .range := by
 rw [Lib.parseUintB, if_neg h0]
 exact yj8 l 0 h (by decide)
def zs3 (s : List UInt8) : Bool := s.all isD && !(s == []) && (!(zgo s 0 == 48) || s == [48])
def zr6 (s : List UInt8) : Int := if zs3 s = true then (if zlz 0 s < 18446744073709551616 then 0 else 7) else 4
def wnV (s : List UInt8) : Int := if zr6 s = 0 then zlz 0 s else 0
def ynm (L : za7) : zbh := (142, fun xs => match xs with | [.int .u64 n] => some (L zjv n, .str (L zcu n)) | _ => none)
theorem yi1 : zaz Tryz.prog (ynm std) := by
 intro xs p r h hp
 dsimp only [ynm] at h |-
 split at h <;> cases h
 try simp only [L2, L3, std] at hp |-
 rename_i n
 have hn : zjv n := hp
 refine za5 (T := tt) (S := fun L => zak [yn0 L]) (lo := noA) (lb := noA) 5 (fn := Tryz.f142) rfl rfl (by kernel_rfl) (by kernel_rfl) rfl zaa (za2 ⟨yho, trivial⟩) (by kernel_rfl) ?_
 (intro L P1 Q1 hL hP hQ; cbv; subst hL; simp only [L2, L3, std, syT]; subst hQ)
 refine ⟨⟨hn, trivial⟩, ?_⟩
 rw [zoc]
def yga (s : List UInt8) (i : Nat) : Prop := i <= s.length /\ (s.take i).all isD = true
theorem yn2 (a b c d : Int) : zfo (.tup [.int .u64 a, .int .i64 b]) (.tup [.int .u64 c, .int .i64 d]) = (c = a /\ d = b) := by
 simp [sySet]
theorem znt {s : List UInt8} (h : zs3 s = false) : 0 = wnV s /\ 4 = zr6 s := by
 have e : zr6 s = 4 := by rw [zr6, if_neg (by rw [h]; decide)]
 exact ⟨by rw [wnV, if_neg (by rw [e]; decide)], e.symm⟩
theorem yb3 {s : List UInt8} {i : Nat} (hi : i < s.length) (h : zgo s (zaq i) < 48 \/ 57 < zgo s (zaq i)) : zs3 s = false := by
 have : s.all isD = false := by
   rw [List.all_eq_false]
   refine ⟨s[i], List.getElem_mem hi, ?_⟩
   rw [zgx]
   rw [zgo, zaq, Int.toNat_natCast, List.getD_eq_getElem?_getD, List.getElem?_eq_getElem hi, Option.getD_some] at h
   omega
 rw [zs3, this]; rfl
theorem ylt {s : List UInt8} {i i' : Nat} (hi' : i' = i + 1) (h : yga s i) (hi : i < s.length) (h1 : ¬ zgo s (zaq i) < 48) (h2 : ¬ 57 < zgo s (zaq i)) : yga s i' := by
 subst hi'
 refine ⟨hi, ?_⟩
 rw [List.take_succ_eq_append_getElem hi, List.all_append, h.2, List.all_cons, List.all_nil]
 rw [zgo, zaq, Int.toNat_natCast, List.getD_eq_getElem?_getD, List.getElem?_eq_getElem hi, Option.getD_some] at h1 h2
 have : isD s[i] = true := zgx.2 (by omega)
 rw [this]; rfl
theorem zuf {s : List UInt8} {i : Nat} (h : yga s i) (hi : ¬ i < s.length) : s.all isD = true := by
 have := h.2
 rw [List.take_of_length_le (by omega)] at this
 exact this
theorem zjh {s : List UInt8} (h : s.all isD = true) (h0 : s ≠ []) (h1 : zgo s 0 ≠ 48 \/ s = [48]) : ((!yeq s) = true -> 0 = wnV s /\ 7 = zr6 s) /\ ((!yeq s) = false -> yg0 s = wnV s /\ 0 = zr6 s) := by
 have ho : zs3 s = true := by
   rw [zs3, h]
   rcases h1 with h1 | h1
   · simp [h0, h1]
   · subst h1; rfl
 have hB := ylg h h0
 rw [wnV, zr6, if_pos ho, yeq, yg0, hB]
 by_cases hl : zlz 0 s < 18446744073709551616
 · rw [if_pos hl, if_pos hl]
   exact ⟨fun h => by simp at h, fun _ => ⟨rfl, rfl⟩⟩
 · rw [if_neg hl, if_neg hl]
   exact ⟨fun _ => ⟨rfl, rfl⟩, fun h => by simp at h⟩
def nuA (L : za7) (s : List UInt8) : Nat -> St -> Option Ann := fun id st => match id with
 | 0 => some ⟨Nat, fun i => [(9, .int .i64 (L zaq i))], fun _ => [], [0, 8], [], fun i => L2 L yga s i, fun i => L2 L (fun (s : List UInt8) (i : Nat) => s.length - i) s i⟩
 | _ => none
def zz0 (L : za7) : zbh := (140, fun xs => match xs with | [.str s] => some (L2 L upto 1000000 s, .tup [.int .u64 (L wnV s), .int .i64 (L zr6 s)]) | _ => none)
theorem zfx {n k : Nat} (h : ilt (zaq n) (zaq k) = true) : n < k := by
 have := of_decide_eq_true h
 unfold zaq at this; omega
theorem zhq {n k : Nat} (h : ilt (zaq n) (zaq k) = false) : ¬ n < k := by
 have := of_decide_eq_false h
 unfold zaq at this; omega
theorem yc2 {n k : Nat} (h : n < k) : inR (zaq n) (zaq k) = true := by rw [zq2]; exact ⟨Int.natCast_nonneg _, by unfold zaq; omega⟩
theorem ygf {n n' : Nat} (h : n' = n + 1) (h2 : n < 100000000) : zlo .i64 (zaq n) 1 = zaq n' := by
 subst h; unfold zaq; rw [zlo, zi5]; omega
theorem zpm {s : List UInt8} (h : seq s [] = false) : s ≠ [] := by
 intro e; subst e; exact absurd h (by decide)
theorem yqj {s : List UInt8} (h : seq s [] = true) : zs3 s = false := by
 have : s = [] := by simpa [seq] using h
 subst this; rfl
theorem yqg {s : List UInt8} (h : seq s [] = false) : inR 0 (slen s) = true := by
 have := zpm h
 rw [zq2, slen]
 have : 0 < s.length := List.length_pos_iff.2 this
 omega
theorem yqf {s : List UInt8} (h : (!seq s [48]) = false) : s = [48] := by
 have : seq s [48] = true := by simpa using h
 simpa [seq] using this
theorem yjb {s : List UInt8} (h : ieq (zgo s 0) 48 = false) : zgo s 0 ≠ 48 := by
 simpa [ieq] using h
theorem yqi {s : List UInt8} (h : ieq (zgo s 0) 48 = true) (h2 : (!seq s [48]) = true) : zs3 s = false := by
 have h1 : zgo s 0 = 48 := by simpa [ieq] using h
 have h3 : ¬ s = [48] := by
   intro e; subst e; exact absurd h2 (by decide)
 rw [zs3, h1]
 simp [h3]
theorem zz1 : zaz Tryz.prog (zz0 std) := by
 intro xs p r h hp
 dsimp only [zz0] at h |-
 split at h <;> cases h
 try simp only [L2, L3, std] at hp |-
 rename_i s
 have hs : s.length <= 1000000 := hp
 refine za5 (T := tt) (S := fun L => zak [ylf L]) (lo := fun L => nuA L s) (lb := noA) 5 (fn := Tryz.f140) rfl rfl (by kernel_rfl) (by kernel_rfl) rfl zaa (za2 ⟨yfz, trivial⟩) (by kernel_rfl) ?_
 obtain ⟨n0, hn0⟩ : ∃ n : Nat, n = 0 := ⟨_, rfl⟩
 intro L P' Q' hL hP hQ
 (cbv; try simp only [syT, true_and, and_true])
 refine ⟨⟨n0, ?_⟩, fun i hi => ?_⟩
 · (cbv; try simp only [syT, true_and, and_true])
   subst hL; subst hQ; subst hn0
   exact ⟨rfl, Nat.zero_le _, by rw [List.take_zero]; rfl⟩
 obtain ⟨i', hi'⟩ : ∃ i' : Nat, i' = i + 1 := ⟨_, rfl⟩
 (cbv; try simp only [syT, true_and, and_true])
 refine ⟨fun h1 => ⟨?_, fun h2 => ?_, fun h2 => ⟨?_, fun h3 => ?_, fun h3 => ⟨i', ?_⟩⟩⟩, fun h1 => ⟨fun h2 => ?_, fun h2 => ⟨?_, fun h3 => ⟨fun h4 => ?_, fun h4 => ⟨?_, fun h5 => ?_, fun h5 => ?_⟩⟩, fun h3 => ⟨?_, fun h5 => ?_, fun h5 => ?_⟩⟩⟩⟩
 all_goals (try (cbv; try simp only [syT, true_and, and_true]))
 all_goals (subst hL; subst hQ)
 all_goals (try rw [yn2])
 · exact yc2 (k := s.length) (zfx h1)
 · exact znt (yb3 (zfx (k := s.length) h1) (.inl (of_decide_eq_true h2)))
 · exact yc2 (k := s.length) (zfx h1)
 · exact znt (yb3 (zfx (k := s.length) h1) (.inr (of_decide_eq_true h3)))
 · have hlt : i < s.length := zfx (k := s.length) h1
   refine ⟨ygf hi' (by omega), ylt hi' hi hlt (of_decide_eq_false h2) (of_decide_eq_false h3), ?_⟩
   show s.length - i' + 1 <= s.length - i
   omega
 · exact znt (yqj h2)
 · exact yqg h2
 · exact znt (yqi h3 h4)
 · exact ⟨by omega, rfl, rfl⟩
 · exact (zjh (zuf hi (zhq (k := s.length) h1)) (zpm h2) (.inr (yqf h4))).1 h5
 · exact (zjh (zuf hi (zhq (k := s.length) h1)) (zpm h2) (.inr (yqf h4))).2 h5
 · exact ⟨by omega, rfl, rfl⟩
 · exact (zjh (zuf hi (zhq (k := s.length) h1)) (zpm h2) (.inl (yjb h3))).1 h5
 · exact (zjh (zuf hi (zhq (k := s.length) h1)) (zpm h2) (.inl (yjb h3))).2 h5
theorem zzb {N : Nat} (h : (N : Int) < 18446744073709551616) : N < 18446744073709551616 := by omega
theorem ysc {n : Nat} (h : n < 10) : (UInt8.ofNat (48 + n)).toNat = 48 + n := by
 rw [UInt8.toNat_ofNat']; omega
theorem yjy (u : Nat) : (Lib.decDigits u).all isD = true /\ Lib.decDigits u ≠ [] /\ zlz 0 (Lib.decDigits u) = u /\ (1 <= u -> zgo (Lib.decDigits u) 0 ≠ 48) := by
 induction u using Nat.strongRecOn with
 | _ u ih =>
   by_cases h : u < 10
   · rw [Lib.decDigits_one h]
     have hc := ysc h
     refine ⟨?_, by simp, ?_, fun h1 => ?_⟩
     · rw [List.all_cons, List.all_nil, Bool.and_true, zgx, hc]; omega
     · rw [zhw, zjo, hc]; omega
     · show ((UInt8.ofNat (48 + u)).toNat : Int) ≠ 48
       rw [hc]; omega
   · obtain ⟨a1, a2, a3, a4⟩ := ih (u / 10) (by omega)
     have hc := ysc (show u % 10 < 10 by omega)
     rw [Lib.decDigits, dif_neg h]
     refine ⟨?_, by simp, ?_, fun _ => ?_⟩
     · rw [List.all_append, a1, List.all_cons, List.all_nil, Bool.and_true, Bool.true_and, zgx, hc]; omega
     · rw [zvo, a3, hc]; omega
     · have := a4 (by omega)
       have h0 : 0 < (Lib.decDigits (u / 10)).length := List.length_pos_iff.2 a2
       rw [zgo, List.getD_eq_getElem?_getD] at this |-
       rw [List.getElem?_append_left (by simpa using h0)]
       exact this
theorem zeq {n : Int} (h : zjv n) : zr6 (zcu n) = 0 /\ wnV (zcu n) = n := by
 obtain ⟨u, rfl⟩ := zmi h.1
 have hu : u < 18446744073709551616 := zzb h.2
 obtain ⟨a1, a2, a3, a4⟩ := yjy u
 have ho : zs3 (zcu (u : Int)) = true := by
   rw [zcu, Int.toNat_natCast, zs3, a1]
   by_cases h0 : 1 <= u
   · simp [a2, a4 h0]
   · have : u = 0 := by omega
     subst this
     rw [Lib.decDigits_one (by decide)]; rfl
 have e : zr6 (zcu (u : Int)) = 0 := by
   rw [zr6, if_pos ho, zcu, Int.toNat_natCast, a3, if_pos hu]
 refine ⟨e, ?_⟩
 rw [wnV, if_pos e, zcu, Int.toNat_natCast, a3]
theorem yjx : ∀ (n : Nat) (s : List UInt8), s.length = n -> s.all isD = true -> s ≠ [] -> (zgo s 0 ≠ 48 \/ s = [48]) -> Lib.decDigits (zlz 0 s) = s
 | 0, s, hl, _, h0, _ => absurd (List.eq_nil_of_length_eq_zero hl) h0
 | n + 1, s, hl, ha, h0, hz => by
   obtain ⟨t, c, rfl⟩ : ∃ t c, s = t ++ [c] := ⟨s.dropLast, s.getLast h0, (List.dropLast_concat_getLast h0).symm⟩
   rw [List.all_append, List.all_cons, List.all_nil, Bool.and_true, Bool.and_eq_true] at ha
   obtain ⟨ht, hc⟩ := ha
   rw [zgx] at hc
   rw [zvo]
   have back : UInt8.ofNat (48 + (c.toNat - 48)) = c := by
     apply UInt8.toNat_inj.1
     rw [UInt8.toNat_ofNat']
     have := c.toNat_lt
     omega
   by_cases htn : t = []
   · subst htn
     rw [zjo, Nat.zero_mul, Nat.zero_add, Lib.decDigits_one (by omega), back]; rfl
   · have hlt : t.length = n := by simpa using hl
     obtain ⟨x, r, rfl⟩ := List.exists_cons_of_ne_nil htn
     have hx : zgo (x :: r) 0 ≠ 48 := by
       rcases hz with hz | hz
       · exact hz
       · have := congrArg List.length hz
         simp at this
     have h1 : 1 <= zlz 0 (x :: r) := by
       rw [zhw]
       refine Nat.le_trans ?_ (zt0 r _)
       rw [List.all_cons, Bool.and_eq_true, zgx] at ht
       have : x.toNat ≠ 48 := fun e => hx (by show ((x.toNat : Nat) : Int) = 48; omega)
       omega
     have ih := yjx n (x :: r) hlt ht htn (.inl hx)
     generalize zlz 0 (x :: r) = v at h1 ih |-
     rw [Lib.decDigits, dif_neg (by omega), show (v * 10 + (c.toNat - 48)) / 10 = v by omega, show (v * 10 + (c.toNat - 48)) % 10 = c.toNat - 48 by omega, ih, back]
theorem yuj {s : List UInt8} (h : zs3 s = true) : s.all isD = true /\ s ≠ [] /\ (zgo s 0 ≠ 48 \/ s = [48]) := by
 simp only [zs3, Bool.and_eq_true, Bool.not_eq_true', Bool.or_eq_true, beq_iff_eq, beq_eq_false_iff_ne, ne_eq] at h
 exact ⟨h.1.1, h.1.2, h.2⟩
theorem zgi {s : List UInt8} (h : zr6 s = 0) : zcu (wnV s) = s /\ zjv (wnV s) := by
 have ho : zs3 s = true := by
   cases hq : zs3 s with
   | true => rfl
   | false => rw [zr6, hq, if_neg (by decide)] at h; exact absurd h (by decide)
 have hl : zlz 0 s < 18446744073709551616 := by
   rw [zr6, if_pos ho] at h
   split at h
   · assumption
   · exact absurd h (by decide)
 obtain ⟨h1, h2, h3⟩ := yuj ho
 rw [wnV, if_pos h, zcu, Int.toNat_natCast, yjx _ s rfl h1 h2 h3]
 exact ⟨rfl, by unfold zjv; omega⟩
theorem zlb {n : Int} (h : zjv n) : (zcu n).length <= 20 := by
 obtain ⟨u, rfl⟩ := zmi h.1
 have hu : u < 18446744073709551616 := zzb h.2
 rw [zcu, Int.toNat_natCast, Lib.decDigits_length]
 by_cases h0 : u = 0
 · subst h0; rw [Lib.nDigits_small (by decide)]; decide
 · have := Lib.numDigits_eq u (by omega) hu
   split at this <;> omega
structure Pl where
 a : Int
 b : Int
 c : Int
 d : Int
 p : Int
 deriving DecidableEq
def plA (L : za7) (x : Pl) : AV := .agg [.int .u8 (L Pl.a x), .int .u8 (L Pl.b x), .int .u8 (L Pl.c x), .int .u8 (L Pl.d x), .int .u16 (L Pl.p x)]
def yte (L : za7) (a b c d p : Int) : Pl := L (L (L (L (L Pl.mk a) b) c) d) p
def zyp (x : Pl) : Prop := (0 <= x.a /\ x.a <= 255) /\ (0 <= x.b /\ x.b <= 255) /\ (0 <= x.c /\ x.c <= 255) /\ (0 <= x.d /\ x.d <= 255) /\ 0 <= x.p /\ x.p <= 65535
def ub (n : Int) : UInt8 := UInt8.ofNat n.toNat
def plB (x : Pl) : List UInt8 := [ub x.a, ub x.b, ub x.c, ub x.d, ub (x.p / 256), ub (x.p % 256)]
def plT (x : Pl) : List UInt8 := zcu x.a ++ 46 :: (zcu x.b ++ 46 :: (zcu x.c ++ 46 :: (zcu x.d ++ 58 :: zcu x.p)))
theorem ypi (n : Nat) : UInt8.ofNat n = UInt8.ofNat (n % 256) := by
 apply UInt8.toNat_inj.1
 rw [UInt8.toNat_ofNat', UInt8.toNat_ofNat']; omega
theorem yu9 {p : Int} (h0 : 0 <= p) (h1 : p <= 65535) : putZ p 2 = [ub (p / 256), ub (p % 256)] := by
 obtain ⟨n, rfl⟩ := zmi h0
 show zrp n 2 = _
 rw [zrp, zrp, zrp, Nat.pow_one, Nat.pow_zero, Nat.div_one, ypi n]
 show _ = [UInt8.ofNat ((n : Int) / 256).toNat, UInt8.ofNat ((n : Int) % 256).toNat]
 rw [show ((n : Int) / 256).toNat = n / 256 by omega, show ((n : Int) % 256).toNat = n % 256 by omega]
theorem yph {n : Int} (h0 : 0 <= n) (h1 : n <= 255) : ((ub n).toNat : Int) = n := by
 rw [ub, UInt8.toNat_ofNat']; omega
def zoq (L : za7) : zbh := (117, fun xs => match xs with
 | [.agg [.int .u8 a, .int .u8 b, .int .u8 c, .int .u8 d, .int .u16 p]] => some (L zyp (yte L a b c d p), .str (L plB (yte L a b c d p)))
 | _ => none)
theorem zn3 : zaz Tryz.prog (zoq std) := by
 intro xs p r h hp
 dsimp only [zoq] at h |-
 split at h <;> cases h
 try simp only [L2, L3, std] at hp |-
 rename_i a b c d p
 have hp : zyp ⟨a, b, c, d, p⟩ := hp
 refine za5 (T := tt) (S := fun L => zak [yfw L]) (lo := noA) (lb := noA) 5 (fn := Tryz.f117) rfl rfl (by kernel_rfl) (by kernel_rfl) rfl zaa (za2 ⟨zu1, trivial⟩) (by kernel_rfl) ?_
 (intro L P1 Q1 hL hP hQ; cbv; subst hL; simp only [L2, L3, std, syT]; subst hQ)
 (simp only [syS, reduceCtorEq, Int.reduceToNat, Int.reduceAdd, Int.reduceSub])
 obtain ⟨-, -, -, -, h1, h2⟩ := hp
 simp only at h1 h2
 have h2 : p <= 65535 := h2
 rw [show p % 18446744073709551616 = p by omega, yu9 h1 h2]
 exact ⟨fun i _ => ⟨_, rfl⟩, ⟨by omega, by omega, by decide, by decide⟩, by simp [zbd], rfl⟩
def ipL (x : Pl) : List Int := [x.a, x.b, x.c, x.d]
def ipT (x : Pl) (j : Nat) : List UInt8 := zcu (zkg (ipL x) j)
def le4s (i : Nat) : Prop := i <= 4
def to4 (i : Nat) : Nat := 4 - i
def txtA (L : za7) (x : Pl) : Nat -> St -> Option Ann := fun id st => match id with
 | 0 => some ⟨Nat, fun i => [(8, .int .i64 (L zaq i)), (3, .sl 900 1 0 i)], fun i => [(900, .row 9 1 i (fun j _ => .str (L2 L ipT x j)))], [1, 7], [1], fun i => L le4s i, fun i => L to4 i⟩
 | _ => none
theorem zxl {x : Pl} (h : zyp x) (j : Nat) : zjv (zkg (ipL x) j) := by
 obtain ⟨h1, h2, h3, h4, -⟩ := h
 match j with
 | 0 => exact ⟨h1.1, by have := h1.2; show x.a < _; omega⟩
 | 1 => exact ⟨h2.1, by have := h2.2; show x.b < _; omega⟩
 | 2 => exact ⟨h3.1, by have := h3.2; show x.c < _; omega⟩
 | 3 => exact ⟨h4.1, by have := h4.2; show x.d < _; omega⟩
 | j + 4 => exact ⟨Int.le_refl 0, (by decide : (0 : Int) < 18446744073709551616)⟩
theorem yus (x : Pl) : Lib.join [zcu x.a, zcu x.b, zcu x.c, zcu x.d] [46] = zcu x.a ++ 46 :: (zcu x.b ++ 46 :: (zcu x.c ++ 46 :: zcu x.d)) := by
 simp [Lib.join, List.intercalate]
def zrr (L : za7) : zbh := (124, fun xs => match xs with
 | [.agg [.int .u8 a, .int .u8 b, .int .u8 c, .int .u8 d, .int .u16 p]] => some (L zyp (yte L a b c d p), .str (L plT (yte L a b c d p)))
 | _ => none)
theorem zx1 : zaz Tryz.prog (zrr std) := by
 intro xs p r h hp
 dsimp only [zrr] at h |-
 split at h <;> cases h
 try simp only [L2, L3, std] at hp |-
 rename_i a b c d p
 have hp : zyp ⟨a, b, c, d, p⟩ := hp
 refine za5 (T := tt) (S := fun L => zak [ynm L, yut L]) (lo := fun L => txtA L ⟨a, b, c, d, p⟩) (lb := noA) 5 (fn := Tryz.f124) rfl rfl (by kernel_rfl) (by kernel_rfl) rfl zaa (za2 ⟨yi1, ym7, trivial⟩) (by kernel_rfl) ?_
 intro L P' Q' hL hP hQ
 (cbv; try simp only [syT, true_and, and_true])
 refine ⟨⟨0, ?_⟩, fun i hi => ?_⟩
 · (cbv; try simp only [syT, true_and, and_true])
   (subst hL; subst hQ; simp only [L2, L3, std] at *; try simp only [syS, reduceCtorEq, Int.reduceToNat, Int.reduceAdd, Int.reduceSub] at *)
   exact Nat.zero_le _
 · (cbv; try simp only [syT, true_and, and_true])
   have hi4 : i <= 4 := by
     have hi' := hi
     rw [hL] at hi'
     exact hi'
   refine ⟨fun h1 => ⟨?_, ?_, ?_, i + 1, ?_⟩, fun h1 => ⟨?_, ?_, ?_, ?_, ?_⟩⟩
   · (subst hL; subst hQ; simp only [L2, L3, std] at *; try simp only [syS, reduceCtorEq, Int.reduceToNat, Int.reduceAdd, Int.reduceSub] at *)
     omega
   · (subst hL; subst hQ; simp only [L2, L3, std] at *; try simp only [syS, reduceCtorEq, Int.reduceToNat, Int.reduceAdd, Int.reduceSub] at *)
     have := zxl hp i
     show zjv (_ % _)
     rw [show zkg [a, b, c, d] i % 18446744073709551616 = zkg (ipL ⟨a, b, c, d, p⟩) i from Int.emod_eq_of_lt this.1 this.2]
     exact this
   · (subst hL; subst hQ; simp only [L2, L3, std] at *; try simp only [syS, reduceCtorEq, Int.reduceToNat, Int.reduceAdd, Int.reduceSub] at *)
     omega
   · (cbv; try simp only [syT, true_and, and_true])
     (subst hL; subst hQ; simp only [L2, L3, std] at *; try simp only [syS, reduceCtorEq, Int.reduceToNat, Int.reduceAdd, Int.reduceSub] at *)
     refine ⟨fun k j hk hj => ?_, by omega, by show i + 1 <= 4; omega, by show 4 - (i + 1) + 1 <= 4 - i; omega⟩
     by_cases hk' : k < i
     · rw [zot hk', show k - i = 0 by omega]; rfl
     · have : k = i := by omega
       subst this
       rw [ztc (by omega), show k - k = 0 by omega]
       match j, hj with
       | 0, _ =>
         have := zxl hp k
         show AV.str (zcu (zkg [a, b, c, d] k % 18446744073709551616)) = .str (zcu (zkg (ipL ⟨a, b, c, d, p⟩) k))
         rw [show zkg [a, b, c, d] k % 18446744073709551616 = zkg (ipL ⟨a, b, c, d, p⟩) k from Int.emod_eq_of_lt this.1 this.2]
   all_goals
     (subst hL; subst hQ; simp only [L2, L3, std] at *; try simp only [syS, reduceCtorEq, Int.reduceToNat, Int.reduceAdd, Int.reduceSub] at *)
     have h4 : i = 4 := by omega
     subst h4
     have l1 := zlb (zxl hp 0)
     have l2 := zlb (zxl hp 1)
     have l3 := zlb (zxl hp 2)
     have l4 := zlb (zxl hp 3)
     have hp5 : 0 <= p /\ p <= 65535 := hp.2.2.2.2
     have l5 := zlb (n := p) ⟨hp5.1, by omega⟩
     have hj : jnZ [46] (.lst 1 4 fun i x => AV.str (ipT ⟨a, b, c, d, p⟩ i)) = zcu a ++ 46 :: (zcu b ++ 46 :: (zcu c ++ 46 :: zcu d)) := yus ⟨a, b, c, d, p⟩
     have hm : p % 18446744073709551616 = p := by omega
     simp only [zkg, ipL, List.getD_cons_zero, List.getD_cons_succ] at l1 l2 l3 l4
     have hl : (zcu a ++ 46 :: (zcu b ++ 46 :: (zcu c ++ 46 :: zcu d))).length <= 100 := by
       simp only [List.length_append, List.length_cons]; omega
   · refine ⟨fun k hk => ⟨_, rfl⟩, by omega, ?_⟩
     have : Lib.join (zdy 4 fun i x => AV.str (ipT ⟨a, b, c, d, p⟩ i)) [46] = zcu a ++ 46 :: (zcu b ++ 46 :: (zcu c ++ 46 :: zcu d)) := hj
     rw [this]; omega
   · rw [hj, List.length_singleton]; omega
   · rw [hm]; exact ⟨hp5.1, by omega⟩
   · rw [hj, hm, List.length_append, List.length_singleton]; omega
   · rw [hj, hm]
     show _ = plT ⟨a, b, c, d, p⟩
     simp [plT]
theorem yj9 {x : Pl} {a b c d p : Int} (h : x = ⟨a, b, c, d, p⟩) : fits1 (plA std x) (.agg [.int .u8 a, .int .u8 b, .int .u8 c, .int .u8 d, .int .u16 p]) := by
 subst h
 show fits1 (.agg [.int .u8 a, .int .u8 b, .int .u8 c, .int .u8 d, .int .u16 p]) _
 simp only [zd4, zds, and_self]
def zo9 (s : List UInt8) : List (List UInt8) := zac (yi7 s [58]) [46]
def zru (s : List UInt8) : List UInt8 := ydf s [58]
def zlr (s : List UInt8) (k : Nat) : Int := wnV (ze9 (zo9 s) k)
def yep (s : List UInt8) (k : Nat) : Int := zr6 (ze9 (zo9 s) k)
def prtO (s : List UInt8) (k : Nat) : Prop := yep s k = 0 /\ zlr s k <= 255
def yt6 (s : List UInt8) : Prop := ysg s [58] = true /\ (zo9 s).length = 4 /\ (∀ k, k < 4 -> prtO s k) /\ zr6 (zru s) = 0 /\ 1 <= wnV (zru s) /\ wnV (zru s) <= 65535
open Classical in
noncomputable def spE (s : List UInt8) : Int := if yt6 s then 0 else 4
noncomputable def spP (s : List UInt8) : Pl := if spE s = 0 then ⟨zlr s 0, zlr s 1, zlr s 2, zlr s 3, wnV (zru s)⟩ else ⟨0, 0, 0, 0, 0⟩
theorem zp3 {c : UInt8} : ∀ {s : List UInt8} {x : List UInt8}, x ∈ zav c s -> x.length <= s.length
 | [], x, h => by simp [zav] at h; subst h; exact Nat.le_refl _
 | y :: s, x, h => by
   have ih := fun x h => zp3 (c := c) (s := s) (x := x) h
   unfold zav at h
   split at h
   · rcases List.mem_cons.1 h with rfl | h
     · exact Nat.zero_le _
     · have := ih x h; simp; omega
   · split at h
     · rename_i z r hs
       rcases List.mem_cons.1 h with rfl | h
       · have := ih z (by rw [hs]; simp); simp; omega
       · have := ih x (by rw [hs]; simp [h]); simp; omega
     · rename_i hs; exact absurd hs (zp4 _ _)
theorem yb1 (c : UInt8) (s : List UInt8) (k : Nat) : (ze9 (zav c s) k).length <= s.length := by
 rw [ze9, List.getD_eq_getElem?_getD]
 cases h : (zav c s)[k]? with
 | none => exact Nat.zero_le _
 | some x => exact zp3 (List.mem_of_getElem? h)
theorem yqh (s : List UInt8) : 0 <= wnV s := by
 unfold wnV
 split
 · exact Int.natCast_nonneg _
 · exact Int.le_refl _
theorem yi6 (s sep : List UInt8) : (yi7 s sep).length <= s.length := by
 unfold yi7
 split
 · exact Nat.le_refl _
 · rw [List.length_take]; omega
theorem yi5 (s sep : List UInt8) : (ydf s sep).length <= s.length := by
 unfold ydf
 split
 · exact Nat.zero_le _
 · rw [List.length_drop]; omega
theorem zjy {s : List UInt8} (h : ¬ yt6 s) : fits1 (plA std (spP s)) (.agg [.int .u8 0, .int .u8 0, .int .u8 0, .int .u8 0, .int .u16 0]) /\ 4 = spE s := by
 have e : spE s = 4 := if_neg h
 exact ⟨yj9 (if_neg (by rw [e]; decide)), e.symm⟩
noncomputable def yln (L : za7) : zbh := (122, fun xs => match xs with
 | [.str s] => some (L2 L upto 1000000 s, .tup [plA L (L spP s), .int .i64 (L spE s)])
 | _ => none)
def ipZ (s : List UInt8) (i k : Nat) : Int := if k < i then zlr s k else 0
def yq9 (s : List UInt8) (i : Nat) : Prop := i <= 4 /\ ∀ k, k < i -> prtO s k
def parA (L : za7) (s : List UInt8) : Nat -> St -> Option Ann := fun id st => match id with
 | 0 => some ⟨Nat, fun i => [(30, .int .i64 (L zaq i)), (2, .ref 2 0), (4, .ref 4 0)],
     fun i => [(2, .box 25 [.int .u8 0, .int .u8 0, .int .u8 0, .int .u8 0, .int .u16 0]), (4, .box 25 [.int .u8 (L (L2 L ipZ s i) 0), .int .u8 (L (L2 L ipZ s i) 1), .int .u8 (L (L2 L ipZ s i) 2), .int .u8 (L (L2 L ipZ s i) 3), .int .u16 0])], [8, 28, 29], [],
     fun i => L2 L yq9 s i, fun i => L to4 i⟩
 | _ => none
theorem yg4 : zaz Tryz.prog (yln std) := by
 intro xs p r h hp
 dsimp only [yln] at h |-
 split at h <;> cases h
 try simp only [L2, L3, std] at hp |-
 rename_i s
 have hp : s.length <= 1000000 := hp
 refine za5 (T := tt) (S := fun L => zak [ynr L, ykn L, zz0 L]) (lo := fun L => parA L s) (lb := noA) 5 (fn := Tryz.f122) rfl rfl (by kernel_rfl) (by kernel_rfl) rfl zaa (za2 ⟨yi4, yf9, zz1, trivial⟩) (by kernel_rfl) ?_
 intro L P' Q' hL hP hQ
 have hcl := yi6 s [58]
 have hbl := yi5 s [58]
 (cbv; try simp only [syT, true_and, and_true])
 refine ⟨?_, ?_, fun h => ?_, fun h1 => ⟨fun h => ?_, fun h2 => ⟨⟨0, ?_⟩, fun i hi => ?_⟩⟩⟩
 · (subst hL; subst hQ; simp only [L2, L3, std] at *; try simp only [syS, reduceCtorEq, Int.reduceToNat, Int.reduceAdd, Int.reduceSub] at *)
   exact ⟨rfl, by show s.length <= _; omega⟩
 · (subst hL; subst hQ; simp only [L2, L3, std] at *; try simp only [syS, reduceCtorEq, Int.reduceToNat, Int.reduceAdd, Int.reduceSub] at *)
   exact ⟨rfl, by show (yi7 s [58]).length <= _; omega⟩
 · (subst hL; subst hQ; simp only [L2, L3, std] at *; try simp only [syS, reduceCtorEq, Int.reduceToNat, Int.reduceAdd, Int.reduceSub] at *)
   exact zjy fun x => by rw [x.1] at h; cases h
 · (subst hL; subst hQ; simp only [L2, L3, std] at *; try simp only [syS, reduceCtorEq, Int.reduceToNat, Int.reduceAdd, Int.reduceSub] at *)
   exact zjy fun x => h (by have := x.2.1; show ((zo9 s).length : Int) = 4; omega)
 · (cbv; try simp only [syT, true_and, and_true])
   (subst hL; subst hQ; simp only [L2, L3, std] at *; try simp only [syS, reduceCtorEq, Int.reduceToNat, Int.reduceAdd, Int.reduceSub] at *)
   exact ⟨rfl, rfl, rfl, rfl, Nat.zero_le _, fun k hk => by omega⟩
 · cbv at hi
   (cbv; try simp only [syT, true_and, and_true])
   have hpl : ∀ k, (ze9 (zo9 s) k).length <= 1000000 := fun k => Nat.le_trans (yb1 _ _ k) (by omega)
   refine ⟨fun h3 => ⟨?_, ?_, fun h4 => ?_, fun h4 => ⟨fun h5 => ?_, fun h5 => ⟨?_, i + 1, ?_⟩⟩⟩, fun h3 => ⟨?_, fun h4 => ⟨fun h5 => ⟨fun h6 => ?_, fun h6 => ?_⟩, fun h5 => ?_⟩, fun h4 => ?_⟩⟩
   · (subst hL; subst hQ; simp only [L2, L3, std] at *; try simp only [syS, reduceCtorEq, Int.reduceToNat, Int.reduceAdd, Int.reduceSub] at *)
     omega
   · (subst hL; subst hQ; simp only [L2, L3, std] at *; try simp only [syS, reduceCtorEq, Int.reduceToNat, Int.reduceAdd, Int.reduceSub] at *)
     exact hpl i
   · (subst hL; subst hQ; simp only [L2, L3, std] at *; try simp only [syS, reduceCtorEq, Int.reduceToNat, Int.reduceAdd, Int.reduceSub] at *)
     exact zjy fun x => h4 (x.2.2.1 i (by omega)).1
   · (subst hL; subst hQ; simp only [L2, L3, std] at *; try simp only [syS, reduceCtorEq, Int.reduceToNat, Int.reduceAdd, Int.reduceSub] at *)
     have h5 : 255 < zlr s i := h5
     exact zjy fun x => by have := (x.2.2.1 i (by omega)).2; omega
   · (subst hL; subst hQ; simp only [L2, L3, std] at *; try simp only [syS, reduceCtorEq, Int.reduceToNat, Int.reduceAdd, Int.reduceSub] at *)
     omega
   · (cbv; try simp only [syT, true_and, and_true])
     (subst hL; subst hQ; simp only [L2, L3, std] at *; try simp only [syS, reduceCtorEq, Int.reduceToNat, Int.reduceAdd, Int.reduceSub] at *)
     have h4 : yep s i = 0 := h4
     have h5 : zlr s i <= 255 := h5
     have h0 : 0 <= zlr s i := yqh _
     have hm : wnV (ze9 (zac (yi7 s [58]) [46]) i) % 256 = zlr s i := by
       show zlr s i % 256 = zlr s i
       omega
     rw [hm]
     have cell : ∀ k, (cond (zai i k) (zlr s i) (ipZ s i k)) = ipZ s (i + 1) k := by
       intro k
       by_cases hik : i = k
       · subst hik
         rw [za4, ipZ, ipZ, if_pos (show i < i + 1 by omega)]; rfl
       · rw [zah hik]
         show ipZ s i k = _
         rw [ipZ, ipZ]
         by_cases hlt : k < i
         · rw [if_pos hlt, if_pos (by omega)]
         · rw [if_neg hlt, if_neg (by omega)]
     have hi4 : i < 4 := by omega
     refine ⟨cell 3, cell 2, cell 1, cell 0, by omega, ⟨by omega, fun k hk => ?_⟩, by show 4 - (i + 1) + 1 <= 4 - i; omega⟩
     by_cases hki : k = i
     · rw [hki]; exact ⟨h4, h5⟩
     · exact hi.2 k (by omega)
   · (subst hL; subst hQ; simp only [L2, L3, std] at *; try simp only [syS, reduceCtorEq, Int.reduceToNat, Int.reduceAdd, Int.reduceSub] at *)
     show (ydf s [58]).length <= 1000000
     omega
   all_goals
     (subst hL; subst hQ; simp only [L2, L3, std] at *; try simp only [syS, reduceCtorEq, Int.reduceToNat, Int.reduceAdd, Int.reduceSub] at *)
     have hi4 : i = 4 := by have := hi.1; omega
     subst hi4
   · have hok : yt6 s := ⟨h1, by show ybq (zo9 s) = 4; have h2 : ((ybq (zo9 s) : Nat) : Int) = 4 := h2; omega, hi.2, h4, h5, h6⟩
     have hE : spE s = 0 := if_pos hok
     refine ⟨yj9 ?_, hE.symm⟩
     rw [spP, if_pos hE, show wnV (ydf s [58]) % 65536 = wnV (ydf s [58]) by omega]
     rfl
   · exact zjy fun x => by have := x.2.2.2.2.2; have h6 : 65535 < wnV (zru s) := h6; omega
   · exact zjy fun x => by have := x.2.2.2.2.1; have h5 : wnV (zru s) < 1 := h5; omega
   · exact zjy fun x => h4 x.2.2.2.1
end Sy
end Go.Proofs.YtogpolfhcbgcbaaGreatDoor
namespace Go.Proofs.YtogpolfhcbgcbaaGreatDoor
namespace Sy
open Go Go.RowKit
set_option maxRecDepth 100000
set_option linter.unusedSimpArgs false
set_option linter.unusedVariables false
structure Cx where
 i : Nat
 f : Nat
 q : Nat
def spC (s : List UInt8) (c : Int) : List (List UInt8) := zav (ub c) s
def cxI (s : List UInt8) (c : Int) (x : Cx) : Prop :=
 (x.i <= s.length /\ x.f <= x.i /\ zav (ub c) (s.drop x.f) = (spC s c).drop x.q /\ (∀ k, x.f <= k -> k < x.i -> s[k]? ≠ some (ub c)) /\ x.q < (spC s c).length) \/ (x.i = s.length + 1 /\ x.q = (spC s c).length)
def rcA (L : za7) (s : List UInt8) (c : Int) : Nat -> St -> Option Ann := fun id st => match id with
 | 0 => some ⟨Cx, fun x => [(7, .int .i64 (L zaq (L Cx.i x))), (6, .int .i64 (L zaq (L Cx.f x))), (5, .sl 900 1 0 (L Cx.q x))], fun x => [(900, .row 9 1 (L Cx.q x) (fun j _ => .str (L2 L ze9 (L2 L spC s c) j)))], [0, 1], [],
     fun x => L3 L cxI s c x, fun x => L2 L (fun (s : List UInt8) (x : Cx) => s.length + 1 - x.i) s x⟩
 | _ => none
def cOk (c : Int) : Prop := 0 <= c /\ c <= 255
def yak (L : za7) : zbh := (36, fun xs => match xs with
 | [.str s, .int .u8 c] => some (L2 L upto 1000000 s /\ L cOk c, yun L (L2 L spC s c))
 | _ => none)
theorem zzj {s : List UInt8} {i : Nat} (h : i < s.length) : zgo s (zaq i) = (s[i].toNat : Int) := by
 rw [zgo, zaq, Int.toNat_natCast, List.getD_eq_getElem?_getD, List.getElem?_eq_getElem h, Option.getD_some]
theorem ykd {u : UInt8} {c : Int} (h : cOk c) : (u.toNat : Int) = c ↔ u = ub c := by
 constructor
 · rintro rfl
   apply UInt8.toNat_inj.1
   rw [ub, UInt8.toNat_ofNat', Int.toNat_natCast]
   have := u.toNat_lt; omega
 · rintro rfl
   exact yph h.1 h.2
theorem yj7 {s : List UInt8} {c : Int} {x : Cx} (h : cxI s c x) (hi : x.i < s.length) (hc : s[x.i] = ub c) : cxI s c ⟨x.i + 1, x.i + 1, x.q + 1⟩ /\ ze9 (spC s c) x.q = (s.take x.i).drop x.f /\ x.f <= x.i := by
 rcases h with ⟨h1, h2, h3, h4, h5⟩ | ⟨h1, _⟩
 · have e := zh7 (c := ub c) (s := s.drop x.f) (m := x.i - x.f) (fun k hk => by rw [List.getElem?_drop]; exact h4 _ (by omega) (by omega)) (by rw [List.getElem?_drop, show x.f + (x.i - x.f) = x.i by omega, List.getElem?_eq_getElem hi, hc])
   rw [h3, List.drop_drop, show x.f + (x.i - x.f + 1) = x.i + 1 by omega] at e
   rw [List.drop_eq_getElem_cons h5] at e
   obtain ⟨e1, e2⟩ := List.cons.inj e
   refine ⟨.inl ⟨by show x.i + 1 <= _; omega, Nat.le_refl _, e2.symm, fun k hk hk' => by (have : x.i + 1 <= k := hk); (have : k < x.i + 1 := hk'); omega, ?_⟩, ?_, h2⟩
   · show x.q + 1 < _
     have hl := congrArg List.length e2
     have := zar (ub c) (s.drop (x.i + 1))
     rw [List.length_drop] at hl
     omega
   · rw [ze9, List.getD_eq_getElem?_getD, List.getElem?_eq_getElem h5]
     show (spC s c)[x.q] = _
     rw [e1, List.drop_take]
 · omega
theorem yj6 {s : List UInt8} {c : Int} {x : Cx} (h : cxI s c x) (hi : x.i = s.length) : cxI s c ⟨x.i + 1, x.i + 1, x.q + 1⟩ /\ ze9 (spC s c) x.q = (s.take x.i).drop x.f /\ x.f <= x.i := by
 rcases h with ⟨h1, h2, h3, h4, h5⟩ | ⟨h1, _⟩
 · have e := zel (c := ub c) (s := s.drop x.f) (fun k hk => by
     rw [List.getElem?_drop] at hk
     have := (List.getElem?_eq_some_iff.1 hk).1
     exact h4 (x.f + k) (by omega) (by omega) hk)
   rw [h3, List.drop_eq_getElem_cons h5] at e
   obtain ⟨e1, e2⟩ := List.cons.inj e
   have hl := congrArg List.length e2
   rw [List.length_drop, List.length_nil] at hl
   refine ⟨.inr ⟨by show x.i + 1 = _; omega, by show x.q + 1 = _; omega⟩, ?_, h2⟩
   rw [ze9, List.getD_eq_getElem?_getD, List.getElem?_eq_getElem h5]
   show (spC s c)[x.q] = _
   rw [e1, List.take_of_length_le (by omega)]
 · omega
theorem yla {s : List UInt8} {c : Int} {x : Cx} (h : cxI s c x) (hi : x.i < s.length) (hc : s[x.i] ≠ ub c) : cxI s c ⟨x.i + 1, x.f, x.q⟩ := by
 rcases h with ⟨h1, h2, h3, h4, h5⟩ | ⟨h1, _⟩
 · refine .inl ⟨by show x.i + 1 <= _; omega, by show x.f <= x.i + 1; omega, h3, fun k hk hk' => ?_, h5⟩
   by_cases hki : k = x.i
   · rw [hki, List.getElem?_eq_getElem hi]
     exact fun e => hc (Option.some.inj e)
   · have hk' : k < x.i + 1 := hk'
     exact h4 k hk (by omega)
 · omega
theorem zzi (s : List UInt8) (c : Int) : (spC s c).length <= s.length + 1 := by
 rw [spC, zar]
 have := List.count_le_length (a := ub c) (l := s)
 omega
theorem cx_q {s : List UInt8} {c : Int} {x : Cx} (h : cxI s c x) : x.q <= (spC s c).length /\ x.i <= s.length + 1 := by
 rcases h with ⟨h1, h2, h3, h4, h5⟩ | ⟨h1, h2⟩
 · exact ⟨by omega, by omega⟩
 · exact ⟨by omega, by omega⟩
theorem yam {P : List (List UInt8)} {q : Nat} {t : List UInt8} (h : ze9 P q = t) (i j : Nat) (hi : i < q + 1) (hj : j < 1) : zgp std (zbc i q) (.str (ze9 P i)) (.str (ze9 [t] (i - q))) = .str (ze9 P i) := by
 by_cases hk : i < q
 · rw [zot hk]; rfl
 · have : i = q := by omega
   subst this
   rw [ztc (by omega), Nat.sub_self, h]; rfl
theorem yal : zaz Tryz.prog (yak std) := by
 intro xs p r h hp
 dsimp only [yak] at h |-
 split at h <;> cases h
 try simp only [L2, L3, std] at hp |-
 rename_i s c
 obtain ⟨hp, hc⟩ : s.length <= 1000000 /\ cOk c := hp
 refine za5 (T := tt) (S := noS) (lo := fun L => rcA L s c) (lb := noA) 5 (fn := Tryz.f36) rfl rfl (by kernel_rfl) (by kernel_rfl) rfl zaa (zbx _) (by kernel_rfl) ?_
 intro L P' Q' hL hP hQ
 (cbv; try simp only [syT, true_and, and_true])
 refine ⟨⟨⟨0, 0, 0⟩, ?_⟩, fun x hx => ?_⟩
 · (cbv; try simp only [syT, true_and, and_true])
   (subst hL; subst hQ; simp only [L2, L3, std] at *; try simp only [syS, reduceCtorEq, Int.reduceToNat, Int.reduceAdd, Int.reduceSub] at *)
   exact .inl ⟨Nat.zero_le _, Nat.le_refl _, rfl, fun k _ hk => by (have hk : k < 0 := hk); omega, by rw [spC, zar]; exact Nat.succ_pos _⟩
 · cbv at hx
   (cbv; try simp only [syT, true_and, and_true])
   obtain ⟨i', hi'⟩ : ∃ i', i' = x.i + 1 := ⟨_, rfl⟩
   obtain ⟨q', hq'⟩ : ∃ q', q' = x.q + 1 := ⟨_, rfl⟩
   have hxx : cxI s c x := by
     have h := hx
     rw [hL] at h
     exact h
   have hb := cx_q hxx
   have hsl := zzi s c
   refine ⟨fun h1 => ⟨fun h2 => ⟨?_, ?_, ⟨i', i', q'⟩, ?_⟩, fun h2 => ⟨?_, fun h3 => ⟨?_, ?_, ⟨i', i', q'⟩, ?_⟩, fun h3 => ⟨⟨i', x.f, x.q⟩, ?_⟩⟩⟩, fun h1 => ?_⟩
   · (subst hL; subst hQ; simp only [L2, L3, std] at *; try simp only [syS, reduceCtorEq, Int.reduceToNat, Int.reduceAdd, Int.reduceSub] at *)
     have := (yj6 hx (by omega)).2.2
     omega
   · (subst hL; subst hQ; simp only [L2, L3, std] at *; try simp only [syS, reduceCtorEq, Int.reduceToNat, Int.reduceAdd, Int.reduceSub] at *)
     omega
   · (cbv; try simp only [syT, true_and, and_true])
     (subst hL; subst hQ; simp only [L2, L3, std] at *; try simp only [syS, reduceCtorEq, Int.reduceToNat, Int.reduceAdd, Int.reduceSub] at *)
     obtain ⟨r1, r2, r3⟩ := yj6 hx (by omega)
     subst hi' hq'
     exact ⟨⟨rfl, yam r2⟩, rfl, by omega, by omega, r1, by omega⟩
   · (subst hL; subst hQ; simp only [L2, L3, std] at *; try simp only [syS, reduceCtorEq, Int.reduceToNat, Int.reduceAdd, Int.reduceSub] at *)
     omega
   · (subst hL; subst hQ; simp only [L2, L3, std] at *; try simp only [syS, reduceCtorEq, Int.reduceToNat, Int.reduceAdd, Int.reduceSub] at *)
     have hlt : x.i < s.length := by omega
     have := (yj7 hx hlt ((ykd hc).1 (by rw [<- zzj hlt]; exact h3))).2.2
     omega
   · (subst hL; subst hQ; simp only [L2, L3, std] at *; try simp only [syS, reduceCtorEq, Int.reduceToNat, Int.reduceAdd, Int.reduceSub] at *)
     omega
   · (cbv; try simp only [syT, true_and, and_true])
     (subst hL; subst hQ; simp only [L2, L3, std] at *; try simp only [syS, reduceCtorEq, Int.reduceToNat, Int.reduceAdd, Int.reduceSub] at *)
     have hlt : x.i < s.length := by omega
     obtain ⟨r1, r2, r3⟩ := yj7 hx hlt ((ykd hc).1 (by rw [<- zzj hlt]; exact h3))
     subst hi' hq'
     exact ⟨⟨rfl, yam r2⟩, rfl, by omega, by omega, r1, by omega⟩
   · (cbv; try simp only [syT, true_and, and_true])
     (subst hL; subst hQ; simp only [L2, L3, std] at *; try simp only [syS, reduceCtorEq, Int.reduceToNat, Int.reduceAdd, Int.reduceSub] at *)
     have hlt : x.i < s.length := by omega
     have r1 := yla hx hlt (fun e => h3 (by show zgo s (zaq x.i) = c; rw [zzj hlt]; exact (ykd hc).2 e))
     subst hi' hq'
     exact ⟨by omega, r1, by omega⟩
   · (subst hL; subst hQ; simp only [L2, L3, std] at *; try simp only [syS, reduceCtorEq, Int.reduceToNat, Int.reduceAdd, Int.reduceSub] at *)
     rcases hx with ⟨g1, -⟩ | ⟨g1, g2⟩
     · omega
     · rw [g2]
       show zfo (.lst 1 (spC s c).length _) _
       rw [zhr]
       exact ⟨rfl, fun i j hi hj => rfl⟩
def okH (s : List UInt8) (k : Nat) : Bool := yll (za8 s k) || (decide (za8 s k = 45) && (decide (0 < k) && decide (k + 1 < s.length)))
def yht (s : List UInt8) (i : Nat) : Prop := i <= s.length /\ ∀ k, k < i -> okH s k = true
def yg8 (c : Int) (k n : Nat) : Prop := (97 <= c /\ c <= 122) \/ (48 <= c /\ c <= 57) \/ (c = 45 /\ 0 < k /\ k + 1 < n)
theorem yg7 {s : List UInt8} {k : Nat} : okH s k = true ↔ yg8 (za8 s k) k s.length := by
 simp only [okH, yll, ygy, yg8, Bool.or_eq_true, Bool.and_eq_true, decide_eq_true_eq, or_assoc]
theorem yrk {c : Int} : yrl c = true ↔ (97 <= c /\ c <= 122) \/ (48 <= c /\ c <= 57) \/ c = 45 := by
 simp only [yrl, yll, ygy, Bool.or_eq_true, Bool.and_eq_true, decide_eq_true_eq, or_assoc]
theorem yhe {s : List UInt8} {i : Nat} (hi : i < s.length) (h : ¬ yg8 (za8 s i) i s.length) : ze6 s = false := by
 unfold yg8 at h
 by_cases hc : yrl (za8 s i) = true
 · have hc := yrk.1 hc
   have h45 : za8 s i = 45 := by omega
   by_cases h0 : i = 0
   · subst h0
     unfold ze6
     rw [decide_eq_true h45]; simp
   · have hl : i = s.length - 1 := by omega
     unfold ze6
     rw [decide_eq_true (show ybt s = 45 by rw [ybt, <- hl]; exact h45)]; simp
 · unfold ze6
   rw [zou hi (by simpa using hc)]; simp
theorem zq7 {s : List UInt8} {i : Nat} (h : yht s i) (hi : s.length <= i) : ze6 s = (decide (0 < s.length) && decide (s.length <= 32)) := by
 have hi' : i = s.length := Nat.le_antisymm h.1 hi
 subst hi'
 by_cases h0 : s = []
 · subst h0; rfl
 · have hp : 0 < s.length := List.length_pos_iff.2 h0
   have a0 := yg7.1 (h.2 0 hp)
   have a1 := yg7.1 (h.2 (s.length - 1) (by omega))
   have hall : zyw yrl s = true := zht (i := s.length) ⟨Nat.le_refl _, fun k hk => yrk.2 (by have := yg7.1 (h.2 k hk); unfold yg8 at this; omega)⟩ (Nat.le_refl _)
   unfold yg8 at a0 a1
   unfold ze6
   rw [hall, decide_eq_false h0, decide_eq_false (show ¬ za8 s 0 = 45 by omega), decide_eq_false (show ¬ ybt s = 45 by unfold ybt; omega), decide_eq_true hp]
   by_cases h32 : 32 < s.length
   · rw [decide_eq_true h32, decide_eq_false (by omega)]; rfl
   · rw [decide_eq_false h32, decide_eq_true (by omega)]; rfl
theorem zxu {s : List UInt8} {i : Nat} (h : yht s i) (hi : i < s.length) (hf : yg8 (za8 s i) i s.length) : yht s (i + 1) :=
 ⟨hi, fun k hk => by
   rcases Nat.lt_succ_iff_lt_or_eq.1 hk with h1 | h1
   · exact h.2 k h1
   · rw [h1]; exact yg7.2 hf⟩
theorem pw {i : Nat} (h1 : (i : Int) <= 1000000) : ((i : Int) + 1 + 9223372036854775808) % 18446744073709551616 - 9223372036854775808 = (i : Int) + 1 := by omega
def zrh (L : za7) : zbh := (46, fun xs => match xs with
 | [.str s] => some (L2 L upto 1000000 s, .bool (L ze6 s))
 | _ => none)
def ypv (L : za7) (s : List UInt8) : Nat -> St -> Option Ann := fun id st => match id with
 | 0 => some ⟨Nat, fun i => [(3, .int .i64 (L zaq i))], fun i => [], [0], [], fun i => L2 L yht s i, fun i => L2 L toC s i⟩
 | _ => none
theorem zwt : zaz Tryz.prog (zrh std) := by
 intro xs p r h hp
 dsimp only [zrh] at h |-
 split at h <;> cases h
 try simp only [L2, L3, std] at hp |-
 rename_i s
 have hp : s.length <= 1000000 := hp
 refine za6 (T := tt) (S := noS) (lo := fun L => ypv L s) (lb := noA) 5 (fn := Tryz.f46) (xs := fun L => [.str s]) rfl rfl (by kernel_rfl) (by kernel_rfl) rfl zaa (zbx _) (by kernel_rfl) ?_
 intro L P' Q' hL hP hQ
 (cbv; try simp only [syT, true_and, and_true])
 refine ⟨⟨0, ?_⟩, fun i hi => ?_⟩
 · (cbv; try simp only [syT, true_and, and_true])
   (subst hL; subst hQ; simp only [L2, L3, std] at *; try simp only [syS, reduceCtorEq, Int.reduceToNat, Int.reduceAdd, Int.reduceSub] at *)
   exact ⟨Nat.zero_le _, fun k hk => by omega⟩
 · cbv at hi
   (cbv; try simp only [syT, true_and, and_true])
   repeat' first | refine And.intro ?_ ?_ | refine fun (hh : (_ : Bool) = _) => ?_
   all_goals try (refine ⟨i + 1, ?_⟩; (cbv; try simp only [syT, true_and, and_true]))
   all_goals (subst hL; subst hQ; simp only [L2, L3, std] at *; try simp only [syS, reduceCtorEq, Int.reduceToNat, Int.reduceAdd, Int.reduceSub] at *)
   all_goals have hw := hi.1
   all_goals have hE : za8 s i = ((s.getD i 0).toNat : Int) := rfl
   all_goals try simp only [pw (i := i) (by omega), <- hE] at *
   all_goals first
     | (refine ⟨by omega, zxu hi (by omega) (by unfold yg8; omega), ?_⟩
        show s.length - (i + 1) + 1 <= s.length - i
        omega)
     | exact (yhe (i := i) (by omega) (by unfold yg8; omega)).symm
     | exact ⟨by omega, by omega⟩
     | (rw [zq7 hi (by omega), decide_eq_true (show 0 < s.length by omega)]
        show decide ((s.length : Int) <= 32) = _
        rw [Bool.true_and]
        exact decide_eq_decide.2 (by omega))
     | (rw [zq7 hi (by omega), decide_eq_false (show ¬ 0 < s.length by omega)]; rfl)
def zqa (l : List (List UInt8)) : List (List UInt8) := if ze9 l 0 = [42] /\ 1 < l.length then l.drop 1 else l
def zfn (s : List UInt8) : Int := if s = [] then 3 else if 64 < s.length then 5 else if (zqa (zac s [46])).all ze6 then 0 else 4
def yvu (l : List (List UInt8)) (i : Nat) : Prop := i <= l.length /\ ∀ k, k < i -> ze6 (ze9 l k) = true
def toP3 (l : List (List UInt8)) (i : Nat) : Nat := l.length - i
theorem zqx {l : List (List UInt8)} {i : Nat} (h : yvu l i) (hi : l.length <= i) : l.all ze6 = true := by
 rw [List.all_eq_true]
 intro b hb
 obtain ⟨k, hk, rfl⟩ := List.getElem_of_mem hb
 have := h.2 k (by omega)
 rwa [ze9, List.getD_eq_getElem?_getD, List.getElem?_eq_getElem hk] at this
theorem zw1 {l : List (List UInt8)} {i : Nat} (hi : i < l.length) (h : ze6 (ze9 l i) = false) : l.all ze6 = false := by
 rw [List.all_eq_false]
 refine ⟨l[i], List.getElem_mem hi, ?_⟩
 rw [ze9, List.getD_eq_getElem?_getD, List.getElem?_eq_getElem hi] at h
 have h : ze6 l[i] = false := h
 rw [h]; decide
theorem ycg {l : List (List UInt8)} (h1 : ze9 l 0 = [42]) (h2 : 1 < l.length) : (zqa l).length = l.length - 1 /\ ∀ i, ze9 (zqa l) i = ze9 l (Nat.add 1 i) := by
 rw [zqa, if_pos ⟨h1, h2⟩]
 refine ⟨by simp, fun i => ?_⟩
 rw [ze9, ze9, List.getD_eq_getElem?_getD, List.getD_eq_getElem?_getD, List.getElem?_drop]; rfl
theorem ycf {s : List UInt8} (h1 : ¬ s = []) (h2 : s.length <= 64) (h : (zqa (zac s [46])).all ze6 = true) : zfn s = 0 := by rw [zfn, if_neg h1, if_neg (by omega), if_pos h]
theorem yce {s : List UInt8} (h1 : ¬ s = []) (h2 : s.length <= 64) (h : (zqa (zac s [46])).all ze6 = false) : zfn s = 4 := by rw [zfn, if_neg h1, if_neg (by omega), if_neg (by rw [h]; decide)]
theorem zzg (s : List UInt8) : 0 < (zac s [46]).length /\ (zac s [46]).length <= s.length + 1 := by
 have := zzi s 46
 have e : (spC s 46).length = (zac s [46]).length := rfl
 refine ⟨?_, by omega⟩
 rw [zac, zar]; exact Nat.succ_pos _
end Sy
end Go.Proofs.YtogpolfhcbgcbaaGreatDoor
namespace Go.Proofs.YtogpolfhcbgcbaaGreatDoor
namespace Sy
open Go Go.RowKit
end Sy
end Go.Proofs.YtogpolfhcbgcbaaGreatDoor
namespace Go.Proofs.YtogpolfhcbgcbaaGreatDoor
namespace Sy
open Go Go.RowKit
set_option maxRecDepth 100000
set_option linter.unusedSimpArgs false
set_option linter.unusedVariables false
def zh3 (a b : List UInt8) : Bool := a.take b.length == b
def zpf (a b : List UInt8) : Prop := a.length <= 1000000000 /\ b.length <= 1000000000
def zu5 (L : za7) : zbh := (55, fun xs => match xs with | [.str a, .str b] => some (L2 L zpf a b, .bool (L2 L zh3 a b)) | _ => none)
def yg1 (L : za7) : zbh := (31, fun xs => match xs with | [.str a, .str b] => some (L2 L zpf a b, .bool (L2 L zh3 a b)) | _ => none)
theorem zpg : zaz Tryz.prog (zu5 std) := by
 intro xs p r h hp
 dsimp only [zu5] at h |-
 split at h <;> cases h
 try simp only [L2, L3, std] at hp |-
 rename_i a b
 refine za5 (T := tt) (S := noS) (lo := noA) (lb := noA) 5 (fn := Tryz.f55) rfl rfl (by kernel_rfl) (by kernel_rfl) rfl zaa (zbx _) (by kernel_rfl) ?_
 (intro L P1 Q1 hL hP hQ; cbv; subst hL; simp only [L2, L3, std, syT]; subst hQ)
 (simp only [syS, reduceCtorEq, Int.reduceToNat, Int.reduceAdd, Int.reduceSub])
 exact ⟨fun h => ⟨by omega, rfl⟩, fun h => by
   have : ¬ a.take b.length = b := fun e => by have := congrArg List.length e; simp at this; omega
   simp [zh3, this]⟩
theorem zu4 : zaz Tryz.prog (yg1 std) := by
 intro xs p r h hp
 dsimp only [yg1] at h |-
 split at h <;> cases h
 try simp only [L2, L3, std] at hp |-
 rename_i a b
 refine za5 (T := tt) (S := fun L => zak [zu5 L]) (lo := noA) (lb := noA) 5 (fn := Tryz.f31) rfl rfl (by kernel_rfl) (by kernel_rfl) rfl zaa (za2 ⟨zpg, trivial⟩) (by kernel_rfl) ?_
 (intro L P1 Q1 hL hP hQ; cbv; subst hL; simp only [L2, L3, std, syT]; subst hQ)
 (simp only [syS, reduceCtorEq, Int.reduceToNat, Int.reduceAdd, Int.reduceSub])
 exact hp
def yt9 (l : List (List UInt8)) (k : Nat) : Prop := ze6 (ze9 l k) = true \/ (ze9 l k = [42] /\ k = 0 /\ 1 < l.length)
def yfv (l : List (List UInt8)) (i : Nat) : Prop := i <= l.length /\ ∀ k, k < i -> yt9 l k
theorem yu7 {s : List UInt8} {i : Nat} (h1 : ¬ s = []) (h2 : s.length <= 64) (hi : i < (zac s [46]).length) (h : ¬ yt9 (zac s [46]) i) : zfn s = 4 := by
 unfold yt9 at h
 have hf : ze6 (ze9 (zac s [46]) i) = false := by
   cases hc : ze6 (ze9 (zac s [46]) i) with
   | false => rfl
   | true => exact absurd (.inl hc) h
 by_cases hs : ze9 (zac s [46]) 0 = [42] /\ 1 < (zac s [46]).length
 · obtain ⟨A1, A2⟩ := ycg hs.1 hs.2
   have hi0 : i ≠ 0 := by
     rintro rfl
     exact h (.inr ⟨hs.1, rfl, hs.2⟩)
   refine yce h1 h2 (zw1 (i := i - 1) (by omega) ?_)
   rw [A2]
   show ze6 (ze9 (zac s [46]) (1 + (i - 1))) = false
   rw [show 1 + (i - 1) = i by omega]
   exact hf
 · have B0 : zqa (zac s [46]) = zac s [46] := if_neg hs
   refine yce h1 h2 ?_
   rw [B0]
   exact zw1 hi hf
theorem yq0 {s : List UInt8} {i : Nat} (h1 : ¬ s = []) (h2 : s.length <= 64) (h : yfv (zac s [46]) i) (hi : (zac s [46]).length <= i) : zfn s = 0 := by
 have hi' : i = (zac s [46]).length := Nat.le_antisymm h.1 hi
 subst hi'
 have h42 : ze6 [42] = false := by decide
 by_cases hs : ze9 (zac s [46]) 0 = [42] /\ 1 < (zac s [46]).length
 · obtain ⟨A1, A2⟩ := ycg hs.1 hs.2
   refine ycf h1 h2 (zqx (i := (zac s [46]).length - 1) ⟨by omega, fun k hk => ?_⟩ (by omega))
   rw [A2]
   rcases h.2 (1 + k) (by omega) with q | q
   · exact q
   · exact absurd q.2.1 (by omega)
 · have B0 : zqa (zac s [46]) = zac s [46] := if_neg hs
   refine ycf h1 h2 ?_
   rw [B0]
   refine zqx (i := (zac s [46]).length) ⟨Nat.le_refl _, fun k hk => ?_⟩ (Nat.le_refl _)
   rcases h.2 k hk with q | q
   · exact q
   · obtain ⟨q1, rfl, q3⟩ := q
     exact absurd ⟨q1, q3⟩ hs
theorem yac {l : List (List UInt8)} {i : Nat} (h : yfv l i) (hi : i < l.length) (hf : yt9 l i) : yfv l (i + 1) :=
 ⟨hi, fun k hk => by
   rcases Nat.lt_succ_iff_lt_or_eq.1 hk with h1 | h1
   · exact h.2 k h1
   · rw [h1]; exact hf⟩
def ypz (L : za7) (s : List UInt8) : Nat -> St -> Option Ann := fun id st => match id with
 | 0 => some ⟨Nat, fun i => [(16, .int .i64 (L zaq i))], fun i => [], [3, 14, 15], [], fun i => L2 L yfv (L2 L spC s 46) i, fun i => L2 L toP3 (L2 L spC s 46) i⟩
 | _ => none
def cpT (a b : List UInt8) : List UInt8 := if zh3 a b = true then a.drop b.length else a
def yov (a b : List UInt8) : Bool := decide (b.length <= a.length) && decide (a.drop (a.length - b.length) = b)
def ynu (L : za7) : zbh := (68, fun xs => match xs with | [.str a, .str b] => some (L2 L zpf a b, .tup [.str (L2 L cpT a b), .bool (L2 L zh3 a b)]) | _ => none)
def yvc (L : za7) : zbh := (49, fun xs => match xs with | [.str a, .str b] => some (L2 L zpf a b, .tup [.str (L2 L cpT a b), .bool (L2 L zh3 a b)]) | _ => none)
def ykt (L : za7) : zbh := (69, fun xs => match xs with | [.str a, .str b] => some (L2 L zpf a b, .bool (L2 L yov a b)) | _ => none)
def yu0 (L : za7) : zbh := (50, fun xs => match xs with | [.str a, .str b] => some (L2 L zpf a b, .bool (L2 L yov a b)) | _ => none)
theorem yli {a b : List UInt8} (h : zh3 a b = true) : b.length <= a.length := by
 have h : a.take b.length = b := by simpa [zh3] using h
 have := congrArg List.length h
 simp at this
 omega
theorem yi8 : zaz Tryz.prog (ynu std) := by
 intro xs p r h hp
 dsimp only [ynu] at h |-
 split at h <;> cases h
 try simp only [L2, L3, std] at hp |-
 rename_i a b
 obtain ⟨p1, p2⟩ : zpf a b := hp
 refine za5 (T := tt) (S := fun L => zak [zu5 L]) (lo := noA) (lb := noA) 5 (fn := Tryz.f68) rfl rfl (by kernel_rfl) (by kernel_rfl) rfl zaa (za2 ⟨zpg, trivial⟩) (by kernel_rfl) ?_
 (intro L P1 Q1 hL hP hQ; cbv; subst hL; simp only [L2, L3, std, syT]; subst hQ)
 (simp only [syS, reduceCtorEq, Int.reduceToNat, Int.reduceAdd, Int.reduceSub])
 refine ⟨⟨p1, p2⟩, fun h => ⟨(if_neg (by rw [h]; decide)).symm, h.symm⟩, fun h => ⟨⟨by omega, ?_⟩, (if_pos h).symm, h.symm⟩⟩
 have := yli h
 omega
theorem ynt : zaz Tryz.prog (yvc std) := by
 intro xs p r h hp
 dsimp only [yvc] at h |-
 split at h <;> cases h
 try simp only [L2, L3, std] at hp |-
 rename_i a b
 refine za5 (T := tt) (S := fun L => zak [ynu L]) (lo := noA) (lb := noA) 5 (fn := Tryz.f49) rfl rfl (by kernel_rfl) (by kernel_rfl) rfl zaa (za2 ⟨yi8, trivial⟩) (by kernel_rfl) ?_
 (intro L P1 Q1 hL hP hQ; cbv; subst hL; simp only [L2, L3, std, syT]; subst hQ)
 (simp only [syS, reduceCtorEq, Int.reduceToNat, Int.reduceAdd, Int.reduceSub])
 exact hp
theorem yfa : zaz Tryz.prog (ykt std) := by
 intro xs p r h hp
 dsimp only [ykt] at h |-
 split at h <;> cases h
 try simp only [L2, L3, std] at hp |-
 rename_i a b
 obtain ⟨p1, p2⟩ : zpf a b := hp
 refine za5 (T := tt) (S := noS) (lo := noA) (lb := noA) 5 (fn := Tryz.f69) rfl rfl (by kernel_rfl) (by kernel_rfl) rfl zaa (zbx _) (by kernel_rfl) ?_
 (intro L P1 Q1 hL hP hQ; cbv; subst hL; simp only [L2, L3, std, syT]; subst hQ)
 (simp only [syS, reduceCtorEq, Int.reduceToNat, Int.reduceAdd, Int.reduceSub])
 refine ⟨fun h => ?_, fun h => ?_⟩
 · have e : ((a.length : Int) - b.length + 9223372036854775808) % 18446744073709551616 - 9223372036854775808 = ((a.length - b.length : Nat) : Int) := by omega
   rw [e, Int.toNat_natCast]
   refine ⟨⟨by omega, by omega⟩, ?_⟩
   unfold yov seq
   rw [decide_eq_true (show b.length <= a.length by omega)]
   simp [Bool.beq_eq_decide_eq]
 · unfold yov
   rw [decide_eq_false (show ¬ b.length <= a.length by omega)]; rfl
theorem yks : zaz Tryz.prog (yu0 std) := by
 intro xs p r h hp
 dsimp only [yu0] at h |-
 split at h <;> cases h
 try simp only [L2, L3, std] at hp |-
 rename_i a b
 refine za5 (T := tt) (S := fun L => zak [ykt L]) (lo := noA) (lb := noA) 5 (fn := Tryz.f50) rfl rfl (by kernel_rfl) (by kernel_rfl) rfl zaa (za2 ⟨yfa, trivial⟩) (by kernel_rfl) ?_
 (intro L P1 Q1 hL hP hQ; cbv; subst hL; simp only [L2, L3, std, syT]; subst hQ)
 (simp only [syS, reduceCtorEq, Int.reduceToNat, Int.reduceAdd, Int.reduceSub])
 exact hp
def zn2 (a b : List UInt8) : Bool := decide (zcm a = zcm b) || (zh3 (zcm a) [42, 46] && (!decide (cpT (zcm a) [42, 46] = []) && (decide ((cpT (zcm a) [42, 46]).length + 1 < (zcm b).length) && yov (zcm b) (46 :: cpT (zcm a) [42, 46]))))
def ysi (a b : List UInt8) : Prop := a.length <= 1000000 /\ b.length <= 1000000
def yi9 (L : za7) : zbh := (28, fun xs => match xs with | [.str a, .str b] => some (L2 L ysi a b, .bool (L2 L zn2 a b)) | _ => none)
theorem zvr : zaz Tryz.prog (yi9 std) := by
 intro xs p r h hp
 dsimp only [yi9] at h |-
 split at h <;> cases h
 try simp only [L2, L3, std] at hp |-
 rename_i a b
 obtain ⟨p1, p2⟩ : ysi a b := hp
 refine za5 (T := tt) (S := fun L => zak [zsa L, yvc L, yu0 L]) (lo := noA) (lb := noA) 5 (fn := Tryz.f28) rfl rfl (by kernel_rfl) (by kernel_rfl) rfl zaa (za2 ⟨zxg, ynt, yks, trivial⟩) (by kernel_rfl) ?_
 (intro L P1 Q1 hL hP hQ; cbv; subst hL; simp only [L2, L3, std, syT]; subst hQ)
 (simp only [syS, reduceCtorEq, Int.reduceToNat, Int.reduceAdd, Int.reduceSub])
 have la : (zcm a).length = a.length := List.length_map _
 have lb : (zcm b).length = b.length := List.length_map _
 have lc : (cpT (zcm a) [42, 46]).length <= (zcm a).length := by
   unfold cpT
   split
   · rw [List.length_drop]; omega
   · omega
 have e : ((cpT (zcm a) [42, 46]).length : Int) + 1 = (((cpT (zcm a) [42, 46]).length + 1 : Nat) : Int) := by omega
 refine ⟨by show a.length <= _; omega, by show b.length <= _; omega, fun h => ?_, fun h => ⟨⟨by omega, by decide⟩, fun h2 => ⟨fun h3 => ⟨fun h4 => ⟨by simp; omega, ⟨by omega, by simp; omega⟩, ?_⟩, fun h4 => ?_⟩, fun h3 => ?_⟩, fun h2 => ?_⟩⟩
 · unfold zn2; rw [decide_eq_true h]; rfl
 · unfold zn2
   rw [decide_eq_false h, h2, decide_eq_false h3, decide_eq_true (by omega)]; rfl
 · unfold zn2
   rw [decide_eq_false h, h2, decide_eq_false h3, decide_eq_false (show ¬ (cpT (zcm a) [42, 46]).length + 1 < (zcm b).length by omega)]; rfl
 · unfold zn2
   rw [decide_eq_false h, h2, decide_eq_true h3]; rfl
 · unfold zn2
   rw [decide_eq_false h, h2]; rfl
theorem zyc : za9 Tryz.prog 43 [] (.bool true) := by
 refine za5 (T := tt) (S := fun L => zak [yi9 L, yb5 L]) (lo := noA) (lb := noA) 5 (fn := Tryz.f43) rfl rfl (by kernel_rfl) (by kernel_rfl) rfl zaa (za2 ⟨zvr, yb6, trivial⟩) (by kernel_rfl) ?_
 (intro L P1 Q1 hL hP hQ; cbv; subst hL; simp only [L2, L3, std, syT]; subst hQ)
 (simp only [syS, reduceCtorEq, Int.reduceToNat, Int.reduceAdd, Int.reduceSub])
 have e1 : zn2 [42, 46, 97, 46, 98] [120, 46, 121, 46, 97, 46, 98] = true := by decide +kernel
 have e2 : zn2 [42, 46, 97, 46, 98] [97, 46, 98] = false := by decide +kernel
 have e3 : zpn [119, 101, 98, 45, 49] = true := by decide +kernel
 rw [e1, e2, e3]
 exact ⟨⟨by decide, by decide⟩, fun _ => ⟨⟨by decide, by decide⟩, fun _ => rfl, by decide⟩, by decide⟩
def ytl (s t : List UInt8) : Bool := Lib.contains s t
def ynv (L : za7) : zbh := (47, fun xs => match xs with | [.str s, .str t] => some (L2 L upto 1000000000 s, .bool (L2 L ytl s t)) | _ => none)
theorem yoi (b : Bool) : ∀ (h : Array Obj) (D : Nat -> Prop), R h D zap (.bool b) (.bool b) := fun _ _ => .bool _
theorem yib : zaz Tryz.prog (ynv std) := by
 intro xs p r h hp
 dsimp only [ynv] at h |-
 split at h <;> cases h
 try simp only [L2, L3, std] at hp |-
 rename_i s t
 have hp : s.length <= 1000000000 := hp
 refine zg5 (fn := Tryz.f47) rfl rfl (by kernel_rfl) (zyf (zco _) (zco _)) (fun w hg => ?_)
 obtain ⟨m, hm⟩ := hg.2.2.2.2 0 (by kernel_rfl)
 refine (Tryz.strings_Contains ⟨s.toArray⟩ ⟨t.toArray⟩ m w (by show s.toArray.size < _; rw [List.size_toArray]; omega) hm).mono ?_
 rintro e w' ⟨rfl, rfl⟩
 exact ⟨_, rfl, Below.refl _ _, yoi _⟩
def yse (s : List UInt8) : Prop := ∃ j, j + 1 < s.length /\ za8 s j = 47 /\ za8 s (j + 1) = 47
theorem occ2 (s : List UInt8) (j : Nat) : Lib.occAt s [47, 47] j = true ↔ j + 1 < s.length /\ za8 s j = 47 /\ za8 s (j + 1) = 47 := by
 unfold Lib.occAt
 rw [List.isPrefixOf_iff_prefix]
 have hb : ∀ k, k < s.length -> (za8 s k = 47 ↔ s[k]? = some 47) := by
   intro k hk
   rw [zey hk, List.getElem?_eq_getElem hk]
   constructor
   · intro h
     have : s[k] = 47 := UInt8.toNat_inj.1 (by show s[k].toNat = 47; omega)
     rw [this]
   · intro h
     rw [Option.some.inj h]; rfl
 constructor
 · rintro ⟨r, hr⟩
   have hl := congrArg List.length hr
   simp at hl
   have h0 : s[j]? = some 47 := by
     have := congrArg (fun l => l[0]?) hr
     simp [List.getElem?_drop] at this
     exact this.symm
   have h1 : s[j + 1]? = some 47 := by
     have := congrArg (fun l => l[1]?) hr
     simp [List.getElem?_drop] at this
     exact this.symm
   exact ⟨by omega, (hb j (by omega)).2 h0, (hb (j + 1) (by omega)).2 h1⟩
 · rintro ⟨h, h0, h1⟩
   have h0 := (hb j (by omega)).1 h0
   have h1 := (hb (j + 1) h).1 h1
   refine ⟨s.drop (j + 2), ?_⟩
   rw [List.drop_eq_getElem_cons (i := j) (by omega), List.drop_eq_getElem_cons (i := j + 1) h]
   rw [List.getElem?_eq_getElem (by omega)] at h0 h1
   rw [Option.some.inj h0, Option.some.inj h1]; rfl
theorem ydi {s : List UInt8} : ytl s [47, 47] = true ↔ yse s := by
 unfold ytl Lib.contains
 rw [decide_eq_true_eq]
 rcases Lib.index_spec s [47, 47] with ⟨h1, h2⟩ | ⟨i, h1, h2, h3, h4⟩
 · rw [h1]
   refine ⟨fun h => absurd h (by decide), fun ⟨j, hj⟩ => ?_⟩
   have := h2 j (by omega)
   rw [(occ2 s j).2 hj] at this
   cases this
 · rw [h1]
   exact ⟨fun _ => ⟨i, (occ2 s i).1 h3⟩, fun _ => Int.natCast_nonneg _⟩
def yeo (c : Int) : Bool := decide (33 <= c) && decide (c <= 126)
open Classical in
noncomputable def ze5 (s : List UInt8) : Int := if zh3 s [47] = false \/ yse s \/ zyw yeo s = false then 4 else if 128 < s.length then 5 else 0
noncomputable def yat (L : za7) : zbh := (27, fun xs => match xs with | [.str s] => some (L2 L upto 1000000000 s, .int .i64 (L ze5 s)) | _ => none)
def yub (L : za7) (s : List UInt8) : Nat -> St -> Option Ann := fun id st => match id with
 | 0 => some ⟨Nat, fun i => [(13, .int .i64 (L zaq i))], fun i => [], [0, 12], [], fun i => L (L2 L zod yeo s) i, fun i => L2 L toC s i⟩
 | _ => none
theorem yau : zaz Tryz.prog (yat std) := by
 intro xs p r h hp
 dsimp only [yat] at h |-
 split at h <;> cases h
 try simp only [L2, L3, std] at hp |-
 rename_i s
 have hp : s.length <= 1000000000 := hp
 refine za6 (T := tt) (S := fun L => zak [yg1 L, ynv L]) (lo := fun L => yub L s) (lb := noA) 5 (fn := Tryz.f27) (xs := fun L => [.str s]) rfl rfl (by kernel_rfl) (by kernel_rfl) rfl zaa (za2 ⟨zu4, yib, trivial⟩) (by kernel_rfl) ?_
 intro L P' Q' hL hP hQ
 (cbv; try simp only [syT, true_and, and_true])
 repeat' first | refine And.intro ?_ ?_ | refine fun (hh : (_ : Bool) = _) => ?_
 all_goals try (refine ⟨0, ?_⟩; (cbv; try simp only [syT, true_and, and_true]))
 all_goals try
   (intro i hi2
    have hi : zod yeo s i := by
      have h := hi2
      rw [hL] at h
      exact h
    clear hi2
    (cbv; try simp only [syT, true_and, and_true])
    repeat' first | refine And.intro ?_ ?_ | refine fun (hh : (_ : Bool) = _) => ?_
    all_goals try (refine ⟨i + 1, ?_⟩; (cbv; try simp only [syT, true_and, and_true])))
 all_goals (subst hL; subst hQ; simp only [L2, L3, std] at *; try simp only [syS, reduceCtorEq, Int.reduceToNat, Int.reduceAdd, Int.reduceSub] at *)
 all_goals have hcd : ytl s [47, 47] = false -> ¬ yse s := fun h h2 => by rw [ydi.2 h2] at h; cases h
 all_goals have hE : ∀ k, za8 s k = ((s.getD k 0).toNat : Int) := fun _ => rfl
 all_goals first
   | exact ⟨by omega, by decide⟩
   | exact (if_pos (.inl (by assumption))).symm
   | exact hp
   | exact (if_pos (.inr (.inl (ydi.1 (by assumption))))).symm
   | exact ycr _ _
   | exact ⟨by omega, by omega⟩
   | (refine (if_pos (.inr (.inr (zou (i := i) (by omega) ?_)))).symm
      rw [yeo, hE]
      first
        | (rw [decide_eq_false (by omega)]; rfl)
        | (rw [Bool.and_eq_false_iff]; exact .inr (decide_eq_false (by omega))))
   | (refine ⟨by omega, zmw hi (by omega) ?_, ?_⟩
      · rw [yeo, hE, Bool.and_eq_true, decide_eq_true_eq, decide_eq_true_eq]; exact ⟨by omega, by omega⟩
      · show s.length - (i + 1) + 1 <= s.length - i
        omega)
   | (have ha := zht hi (by omega)
      have hn : ¬ (zh3 s [47] = false \/ yse s \/ zyw yeo s = false) := by
        have q1 : zh3 s [47] = true := by assumption
        have q2 := hcd (by assumption)
        rintro (q | q | q)
        · rw [q1] at q; cases q
        · exact q2 q
        · rw [ha] at q; cases q
      rw [ze5, if_neg hn]
      first
        | exact (if_pos (show 128 < s.length by omega)).symm
        | exact (if_neg (show ¬ 128 < s.length by omega)).symm)
end Sy
end Go.Proofs.YtogpolfhcbgcbaaGreatDoor
namespace Go.Proofs.YtogpolfhcbgcbaaGreatDoor
namespace Sy
open Go Go.RowKit
set_option maxRecDepth 100000
set_option linter.unusedSimpArgs false
set_option linter.unusedVariables false
def okR (s : List UInt8) (k : Nat) : Prop := (33 <= za8 s k /\ za8 s k <= 126) /\ ¬ (0 < k /\ za8 s k = 47 /\ za8 s (k - 1) = 47)
def yhs (s : List UInt8) (i : Nat) : Prop := i <= s.length /\ ∀ k, k < i -> okR s k
theorem pre1 {s : List UInt8} : zh3 s [47] = true ↔ 0 < s.length /\ za8 s 0 = 47 := by
 cases s with
 | nil => exact ⟨fun h => (by cases h), fun h => absurd h.1 (by decide)⟩
 | cons b r =>
   have e : zh3 (b :: r) [47] = (b == 47) := by simp [zh3]
   have f : za8 (b :: r) 0 = (b.toNat : Int) := rfl
   rw [e, f, beq_iff_eq]
   refine ⟨fun h => ⟨by simp, by rw [h]; rfl⟩, fun h => UInt8.toNat_inj.1 (by show b.toNat = 47; omega)⟩
theorem zno {s : List UInt8} (h : zh3 s [47] = false \/ yse s \/ zyw yeo s = false) : ze5 s = 4 := if_pos h
theorem yu5 {s : List UInt8} {i : Nat} (hi : i < s.length) (h : ¬ okR s i) : ze5 s = 4 := by
 unfold okR at h
 by_cases h1 : 33 <= za8 s i /\ za8 s i <= 126
 · have h2 : 0 < i /\ za8 s i = 47 /\ za8 s (i - 1) = 47 := Classical.byContradiction fun q => h ⟨h1, q⟩
   refine zno (.inr (.inl ⟨i - 1, by omega, h2.2.2, ?_⟩))
   rw [show i - 1 + 1 = i by omega]
   exact h2.2.1
 · refine zno (.inr (.inr (zou hi ?_)))
   unfold yeo
   rw [Bool.and_eq_false_iff, decide_eq_false_iff_not, decide_eq_false_iff_not]
   omega
theorem ypw {s : List UInt8} {i : Nat} (h0 : 0 < s.length) (h1 : za8 s 0 = 47) (h : yhs s i) (hi : s.length <= i) : ze5 s = if 128 < s.length then 5 else 0 := by
 have hi' : i = s.length := Nat.le_antisymm h.1 hi
 subst hi'
 have ha : zyw yeo s = true := zht (i := s.length) ⟨Nat.le_refl _, fun k hk => by
   have := (h.2 k hk).1
   unfold yeo
   rw [Bool.and_eq_true, decide_eq_true_eq, decide_eq_true_eq]
   exact this⟩ (Nat.le_refl _)
 refine if_neg ?_
 rintro (q | ⟨j, q1, q2, q3⟩ | q)
 · rw [pre1.2 ⟨h0, h1⟩] at q; cases q
 · exact (h.2 (j + 1) q1).2 ⟨by omega, q3, q2⟩
 · rw [ha] at q; cases q
theorem yl2 {s : List UInt8} {i : Nat} (h : yhs s i) (hi : i < s.length) (hf : okR s i) : yhs s (i + 1) :=
 ⟨hi, fun k hk => by
   rcases Nat.lt_succ_iff_lt_or_eq.1 hk with h1 | h1
   · exact h.2 k h1
   · rw [h1]; exact hf⟩
theorem pj {i : Nat} (h : 0 < i) (h1 : (i : Int) <= 1000000000) : ((i : Int) - 1 + 9223372036854775808) % 18446744073709551616 - 9223372036854775808 = ((i - 1 : Nat) : Int) := by omega
noncomputable def zrg (L : za7) : zbh := (8, fun xs => match xs with | [.str s] => some (L2 L upto 1000000000 s, .int .i64 (L ze5 s)) | _ => none)
def ypu (L : za7) (s : List UInt8) : Nat -> St -> Option Ann := fun id st => match id with
 | 0 => some ⟨Nat, fun i => [(3, .int .i64 (L zaq i))], fun i => [], [0], [], fun i => L2 L yhs s i, fun i => L2 L toC s i⟩
 | _ => none
theorem zws : zaz Tryz.prog (zrg std) := by
 intro xs p r h hp
 dsimp only [zrg] at h |-
 split at h <;> cases h
 try simp only [L2, L3, std] at hp |-
 rename_i s
 have hp : s.length <= 1000000000 := hp
 refine za6 (T := tt) (S := noS) (lo := fun L => ypu L s) (lb := noA) 5 (fn := Tryz.f8) (xs := fun L => [.str s]) rfl rfl (by kernel_rfl) (by kernel_rfl) rfl zaa (zbx _) (by kernel_rfl) ?_
 intro L P' Q' hL hP hQ
 (cbv; try simp only [syT, true_and, and_true])
 repeat' first | refine And.intro ?_ ?_ | refine fun (hh : (_ : Bool) = _) => ?_
 all_goals try (refine ⟨0, ?_⟩; (cbv; try simp only [syT, true_and, and_true]))
 all_goals try
   (intro i hi
    cbv at hi
    (cbv; try simp only [syT, true_and, and_true])
    repeat' first | refine And.intro ?_ ?_ | refine fun (hh : (_ : Bool) = _) => ?_
    all_goals try (refine ⟨i + 1, ?_⟩; (cbv; try simp only [syT, true_and, and_true])))
 all_goals (subst hL; subst hQ; simp only [L2, L3, std] at *; try simp only [syS, reduceCtorEq, Int.reduceToNat, Int.reduceAdd, Int.reduceSub] at *)
 all_goals have hE : ∀ k, za8 s k = ((s.getD k 0).toNat : Int) := fun _ => rfl
 all_goals try
   (have g0 : ¬ ((s.length : Nat) : Int) = 0 := by assumption
    have g1 : ((s.getD 0 0).toNat : Int) = 47 := by assumption)
 all_goals try
   (have g2 : 0 < (i : Int) := by assumption
    have g3 : (i : Int) < s.length := by assumption
    have g4 := pj (i := i) (by omega) (by omega)
    simp only [g4, Int.toNat_natCast] at *)
 all_goals first
   | (refine (zno (.inl ?_)).symm
      cases hq : zh3 s [47] with
      | false => rfl
      | true =>
        have q := pre1.1 hq
        rw [hE] at q
        omega)
   | exact ⟨Nat.zero_le _, fun k hk => by omega⟩
   | exact ⟨by omega, by omega⟩
   | (refine (yu5 (i := i) (by omega) ?_).symm
      unfold okR
      simp only [hE]
      omega)
   | (refine ⟨by omega, yl2 hi (by omega) ?_, ?_⟩
      · unfold okR
        simp only [hE]
        omega
      · show s.length - (i + 1) + 1 <= s.length - i
        omega)
   | (rw [ypw (by omega) (by rw [hE]; exact g1) hi (by omega)]
      first
        | exact (if_pos (show 128 < s.length by omega)).symm
        | exact (if_neg (show ¬ 128 < s.length by omega)).symm)
end Sy
end Go.Proofs.YtogpolfhcbgcbaaGreatDoor
namespace Go.Proofs.YtogpolfhcbgcbaaGreatDoor
namespace Sy
open Go Go.RowKit
set_option linter.unusedVariables false
def DW (W : World) : Nat -> Prop := fun b => b < W.heap.size
structure zei {H : Type} (enc : TypeId × Value -> H) (P : Program) (W : World) (t : TypeId) (α : Type) (sz : Nat) (av : α -> Nat -> AV) (ok : α -> Prop) : Prop where
 size : P.cellsOf t = sz
 go : ∀ fuel cs x, DataW.trod enc P W 0 (fun _ => true) true fuel t cs = some x -> ∃ y : α, ok y /\ cs.length = sz /\ ∀ j, j < sz -> ∃ v, cs[j]? = some v /\ one v /\ R W.heap (DW W) zap (av y j) v
structure zw2 {H : Type} (enc : TypeId × Value -> H) (P : Program) (W : World) (fs : List Field) (off : Nat) (α : Type) (sz : Nat) (av : α -> Nat -> AV) (ok : α -> Prop) : Prop where
 go : ∀ fuel (cs : List Value) (xs : List (DataW H × List MemPlace)), (∀ (i : Nat) (f : Field), fs[i]? = some f -> ∃ x, DataW.trod enc P W 0 (fun _ => true) true fuel f.type ((cs.drop f.offset).take (P.cellsOf f.type)) = some x) -> ∃ y : α, ok y /\ ∀ j, j < sz -> ∃ v, cs[off + j]? = some v /\ one v /\ R W.heap (DW W) zap (av y j) v
theorem sgl {h : Array Obj} {D : Nat -> Prop} {f : Nat -> AV} {v : Value} (h1 : one v) (h2 : R h D zap (f 0) v) : ∀ j, j < 1 -> ∃ u, [v][j]? = some u /\ one u /\ R h D zap (f j) u := by
 intro j hj
 obtain rfl : j = 0 := by omega
 exact ⟨v, rfl, h1, h2⟩
theorem zsb {α : Type} (p : Nat -> α -> Prop) : ∀ n, (∀ i, i < n -> ∃ y, p i y) -> ∃ l : List α, l.length = n /\ ∀ i, i < n -> ∃ y, l[i]? = some y /\ p i y
 | 0, _ => ⟨[], rfl, fun i hi => by omega⟩
 | m + 1, h => by
   obtain ⟨l, e1, e2⟩ := zsb p m (fun i hi => h i (by omega))
   obtain ⟨y, hy⟩ := h m (by omega)
   refine ⟨l ++ [y], by simp [e1], fun i hi => ?_⟩
   by_cases hi' : i < m
   · obtain ⟨z, z1, z2⟩ := e2 i hi'
     exact ⟨z, by rw [List.getElem?_append_left (by omega)]; exact z1, z2⟩
   · have : i = m := by omega
     subst this
     exact ⟨y, by rw [<- e1]; simp, hy⟩
section
variable {H : Type} {enc : TypeId × Value -> H} {P : Program} {W : World}
theorem opens_int {t : TypeId} {k : IntKind} (ht : P.underlying t = some (.int k)) (hc : P.cellsOf t = 1) : zei enc P W t Int 1 (fun n _ => .int k n) (fun n => (Lit.int k n).wf = true) := by
 refine ⟨hc, fun fuel cs x h => ?_⟩
 obtain ⟨n, rfl, rfl, hw⟩ := DataW.trod_int ht h
 exact ⟨n, hw, rfl, sgl rfl (.int k n)⟩
theorem opens_str {t : TypeId} (ht : P.underlying t = some .string) (hc : P.cellsOf t = 1) : zei enc P W t (List UInt8) 1 (fun l _ => .str l) (fun l => l.length <= maxLen) := by
 refine ⟨hc, fun fuel cs x h => ?_⟩
 obtain ⟨s, rfl, rfl, hs⟩ := DataW.trod_string ht h
 exact ⟨s.data.toList, by rw [Array.length_toList]; exact hs, rfl, sgl rfl (.str _ _ rfl)⟩
def avL {α : Type} (av : α -> Nat -> AV) (l : List α) (i j : Nat) : AV := match l[i]? with | some y => av y j | none => .dead
theorem zry {t e : TypeId} {α : Type} {sz : Nat} {av : α -> Nat -> AV} {ok : α -> Prop} (ht : P.underlying t = some (.slice e)) (hc : P.cellsOf t = 1) (he : zei enc P W e α sz av ok) (hs : 0 < sz) :
   zei enc P W t (List α) 1 (fun l _ => .lst sz l.length (avL av l)) (fun l => l.length <= maxLen /\ ∀ y ∈ l, ok y) := by
 refine ⟨hc, fun fuel cs x h => ?_⟩
 rcases DataW.trod_slice ht h with ⟨rfl, rfl⟩ | ⟨a, len, cap, elems, rest, n, _, rfl, rfl, hb, hl, hm, hlen, hel, _, _⟩
 · exact ⟨[], ⟨Nat.zero_le _, fun y hy => by cases hy⟩, rfl, sgl rfl (.lst0 _ _ _ _ (fun _ => rfl))⟩
 · have each : ∀ i, i < len -> ∃ y : α, ok y /\ ∀ j, j < sz -> ∃ v, W.cell? ((a.add (i * sz)).add j) = some v /\ one v /\ R W.heap (DW W) zap (av y j) v := by
     intro i hi
     have h1 := hel i hi
     rw [he.size] at h1
     obtain ⟨z, hz⟩ : ∃ z, elems[i]? = some z := ⟨elems[i], by simp [hlen, hi]⟩
     rw [hz, Option.bind_eq_some_iff] at h1
     obtain ⟨cs', h2, h3⟩ := h1
     obtain ⟨y, y1, y2, y3⟩ := he.go _ _ _ h3
     refine ⟨y, y1, fun j hj => ?_⟩
     obtain ⟨v, v1, v2, v3⟩ := y3 j hj
     exact ⟨v, by rw [(World.cells?_some h2).2.2 j hj]; exact v1, v2, v3⟩
   obtain ⟨l, hl1, hl2⟩ : ∃ l : List α, l.length = len /\ ∀ i, i < len -> ∃ y, l[i]? = some y /\ ok y /\ ∀ j, j < sz -> ∃ v, W.cell? ((a.add (i * sz)).add j) = some v /\ one v /\ R W.heap (DW W) zap (av y j) v :=
     zsb (fun i y => ok y /\ ∀ j, j < sz -> ∃ v, W.cell? ((a.add (i * sz)).add j) = some v /\ one v /\ R W.heap (DW W) zap (av y j) v) len each
   refine ⟨l, ⟨by omega, fun y hy => ?_⟩, rfl, sgl rfl ?_⟩
   · obtain ⟨i, hi, rfl⟩ := List.getElem_of_mem hy
     obtain ⟨z, z1, z2, _⟩ := hl2 i (by omega)
     rw [List.getElem?_eq_getElem hi] at z1
     cases z1; exact z2
   · show R W.heap (DW W) zap (.lst sz l.length (avL av l)) _
     by_cases h0 : len = 0
     · subst h0; rw [hl1]; exact .lst0 _ _ _ _ (fun h => by cases h)
     · have cell : ∀ i j, i < len -> j < sz -> ∃ v, hcell W.heap a.block (a.off + i * sz + j) = some v /\ one v /\ R W.heap (DW W) zap (avL av l i j) v := by
         intro i j hi hj
         obtain ⟨y, y1, _, y3⟩ := hl2 i hi
         obtain ⟨v, v1, v2, v3⟩ := y3 j hj
         refine ⟨v, ?_, v2, by rw [avL, y1]; exact v3⟩
         rw [<- zlg]
         have hsp : ∀ p : Addr, W.cell? p = some v -> p.spot = none := by
           intro p hp
           unfold World.cell? at hp
           split at hp
           · split at hp
             · cases hp
             · rename_i hn; simpa using hn
           · cases hp
         have h1 := hsp _ v1
         have e : (a.add (i * sz)).add j = ⟨a.block, a.off + i * sz + j, none⟩ := by
           have hb1 : ((a.add (i * sz)).add j).block = a.block := by simp only [Addr.add]; split <;> split <;> rfl
           have hb2 : ((a.add (i * sz)).add j).off = a.off + i * sz + j := by simp only [Addr.add]; split <;> split <;> simp_all
           cases hq : (a.add (i * sz)).add j with
           | mk b o s => rw [hq] at h1 hb1 hb2; simp_all
         rw [<- e]; exact v1
       have hsp0 : a.spot = none := by
         obtain ⟨y, _, _, y3⟩ := hl2 0 (by omega)
         obtain ⟨v, v1, _⟩ := y3 0 hs
         rw [Nat.zero_mul] at v1
         simp only [Addr.add, if_true] at v1
         unfold World.cell? at v1
         split at v1
         · split at v1
           · cases v1
           · rename_i hn; simpa using hn
         · cases v1
       have hD : DW W a.block := by
         obtain ⟨v, v1, _⟩ := cell 0 0 (by omega) hs
         refine Classical.byContradiction fun hn => ?_
         unfold hcell at v1
         rw [Array.getElem?_eq_none (by unfold DW at hn; omega)] at v1
         cases v1
       have ea : a = ⟨a.block, a.off, none⟩ := by cases a; simp_all
       rw [ea, <- hl1]
       refine .lst sz l.length (avL av l) a.block a.off cap (fun i j => (hcell W.heap a.block (a.off + i * sz + j)).getD undef) hD (by omega) (fun i j hi hj => ?_) (fun i j hi hj => ?_) (fun i j hi hj => ?_)
       all_goals
         obtain ⟨v, v1, v2, v3⟩ := cell i j (by omega) hj
         rw [v1]
         first | rfl | exact v2 | exact v3
theorem yaw {t e : TypeId} {α : Type} {sz n : Nat} {av : α -> Nat -> AV} {ok : α -> Prop} (ht : P.underlying t = some (.array n e)) (hc : P.cellsOf t = n * sz) (he : zei enc P W e α sz av ok) (hs : 0 < sz) :
   zei enc P W t (List α) (n * sz) (fun l j => avL av l (j / sz) (j % sz)) (fun l => l.length = n /\ ∀ y ∈ l, ok y) := by
 refine ⟨hc, fun fuel cs x h => ?_⟩
 obtain ⟨xs, m, _, rfl, hl, hx, hel⟩ := DataW.trod_array ht h
 obtain ⟨l, hl1, hl2⟩ : ∃ l : List α, l.length = n /\ ∀ i, i < n -> ∃ y, l[i]? = some y /\ ok y /\ ∀ j, j < sz -> ∃ v, cs[i * sz + j]? = some v /\ one v /\ R W.heap (DW W) zap (av y j) v :=
   zsb (fun i y => ok y /\ ∀ j, j < sz -> ∃ v, cs[i * sz + j]? = some v /\ one v /\ R W.heap (DW W) zap (av y j) v) n (fun i hi => by
     have h1 := hel i hi
     rw [he.size, List.getElem?_eq_getElem (by omega)] at h1
     obtain ⟨y, y1, y2, y3⟩ := he.go _ _ _ h1
     refine ⟨y, y1, fun j hj => ?_⟩
     obtain ⟨v, v1, v2⟩ := y3 j hj
     rw [List.getElem?_take, if_pos hj, List.getElem?_drop] at v1
     exact ⟨v, v1, v2⟩)
 refine ⟨l, ⟨hl1, fun y hy => ?_⟩, by rw [hl, hc], fun j hj => ?_⟩
 · obtain ⟨i, hi, rfl⟩ := List.getElem_of_mem hy
   obtain ⟨z, z1, z2, _⟩ := hl2 i (by omega)
   rw [List.getElem?_eq_getElem hi] at z1
   cases z1; exact z2
 · have hi : j / sz < n := Nat.div_lt_of_lt_mul (by rw [Nat.mul_comm]; exact hj)
   obtain ⟨z, z1, _, z3⟩ := hl2 (j / sz) hi
   obtain ⟨v, v1, v2⟩ := z3 (j % sz) (Nat.mod_lt _ hs)
   rw [show j / sz * sz + j % sz = j by rw [Nat.mul_comm]; exact Nat.div_add_mod j sz] at v1
   exact ⟨v, v1, by unfold avL; rw [z1]; exact v2⟩
theorem zii (off : Nat) : zw2 enc P W [] off Unit 0 (fun _ _ => .dead) (fun _ => True) := ⟨fun _ _ _ _ => ⟨(), trivial, fun j hj => by omega⟩⟩
theorem zbo {f : Field} {fs : List Field} {off : Nat} {α β : Type} {sz sz' : Nat} {av : α -> Nat -> AV} {av' : β -> Nat -> AV} {ok : α -> Prop} {ok' : β -> Prop} (ho : f.offset = off) (hf : zei enc P W f.type α sz av ok) (hr : zw2 enc P W fs (off + sz) β sz' av' ok') :
   zw2 enc P W (f :: fs) off (α × β) (sz + sz') (fun y j => if j < sz then av y.1 j else av' y.2 (j - sz)) (fun y => ok y.1 /\ ok' y.2) := by
 refine ⟨fun fuel cs xs h => ?_⟩
 obtain ⟨x, hx⟩ := h 0 f rfl
 obtain ⟨y, y1, y2, y3⟩ := hf.go _ _ _ hx
 obtain ⟨z, z1, z2⟩ := hr.go fuel cs xs (fun i g hg => h (i + 1) g hg)
 refine ⟨(y, z), ⟨y1, z1⟩, fun j hj => ?_⟩
 by_cases hlt : j < sz
 · obtain ⟨v, v1, v2, v3⟩ := y3 j hlt
   refine ⟨v, ?_, v2, by simp only [if_pos hlt]; exact v3⟩
   rw [hf.size, List.getElem?_take, if_pos hlt, List.getElem?_drop, ho] at v1
   exact v1
 · obtain ⟨v, v1, v2, v3⟩ := z2 (j - sz) (by omega)
   refine ⟨v, ?_, v2, by simp only [if_neg hlt]; exact v3⟩
   rw [<- v1]; congr 1; omega
theorem zfs {t : TypeId} {fs : Array Field} {α : Type} {sz : Nat} {av : α -> Nat -> AV} {ok : α -> Prop} (ht : P.underlying t = some (.struct fs)) (hc : P.cellsOf t = sz) (hf : zw2 enc P W fs.toList 0 α sz av ok) : zei enc P W t α sz av ok := by
 refine ⟨hc, fun fuel cs x h => ?_⟩
 obtain ⟨xs, n, rfl, rfl, hl, hx, hfs⟩ := DataW.trod_struct ht h
 obtain ⟨y, y1, y2⟩ := hf.go n cs xs (fun i f hi => by
   have := hfs i f (by simpa using hi)
   have hlt : i < xs.length := by rw [hx]; simpa using (List.getElem?_eq_some_iff.1 hi).1
   exact ⟨xs[i], by rw [this]; simp [hlt]⟩)
 exact ⟨y, y1, by omega, fun j hj => by obtain ⟨v, v1, v2⟩ := y2 j hj; exact ⟨v, by simpa using v1, v2⟩⟩
theorem zei.map {t : TypeId} {α β : Type} {sz : Nat} {av : α -> Nat -> AV} {av' : β -> Nat -> AV} {ok : α -> Prop} {ok' : β -> Prop} (O : zei enc P W t α sz av ok) (f : α -> β) (h1 : ∀ y j, j < sz -> av y j = av' (f y) j) (h2 : ∀ y, ok y -> ok' (f y)) : zei enc P W t β sz av' ok' := by
 refine ⟨O.size, fun fuel cs x h => ?_⟩
 obtain ⟨y, y1, y2, y3⟩ := O.go fuel cs x h
 refine ⟨f y, h2 y y1, y2, fun j hj => ?_⟩
 obtain ⟨v, v1, v2, v3⟩ := y3 j hj
 exact ⟨v, v1, v2, by rw [<- h1 y j hj]; exact v3⟩
theorem open_one {t : TypeId} {α : Type} {av : α -> Nat -> AV} {ok : α -> Prop} {v : Value} {d : DataW H} {p : List MemPlace} (O : zei enc P W t α 1 av ok) (hv : v.cells = #[v]) (h : DataW.Trod enc P W 0 (fun _ => true) true t v d p) :
   ∃ y, ok y /\ R W.heap (DW W) zap (av y 0) v := by
 obtain ⟨fuel, h⟩ := h
 obtain ⟨y, y1, y2, y3⟩ := O.go _ _ _ h
 obtain ⟨u, u1, u2, u3⟩ := y3 0 (by omega)
 rw [hv] at u1
 simp at u1
 subst u1
 exact ⟨y, y1, u3⟩
theorem open_agg {t : TypeId} {α : Type} {sz : Nat} {av : α -> Nat -> AV} {ok : α -> Prop} {cs : Array Value} {d : DataW H} {p : List MemPlace} (O : zei enc P W t α sz av ok) (h : DataW.Trod enc P W 0 (fun _ => true) true t (.agg cs) d p) :
   ∃ y, ok y /\ R W.heap (DW W) zap (.agg ((List.range sz).map (av y))) (.agg cs) := by
 obtain ⟨fuel, h⟩ := h
 obtain ⟨y, y1, y2, y3⟩ := O.go _ _ _ h
 refine ⟨y, y1, .agg _ _ (by simpa [Value.cells] using y2.symm) (fun i v hv => ?_) (fun i x v hx hv => ?_)⟩
 · have hi : i < sz := by
     have := (Array.getElem?_eq_some_iff.1 hv).1
     simp [Value.cells] at y2; omega
   obtain ⟨u, u1, u2, u3⟩ := y3 i hi
   simp [Value.cells] at u1
   rw [u1] at hv; cases hv; exact u2
 · have hi : i < sz := by
     have := (List.getElem?_eq_some_iff.1 hx).1
     simpa using this
   obtain ⟨u, u1, u2, u3⟩ := y3 i hi
   simp [Value.cells] at u1
   rw [u1] at hv; cases hv
   simp [hi] at hx
   subst hx; exact u3
end
theorem yej {P : Program} {f : FuncId} {xs ys : List AV} {r : AV} (h : ∀ h D vs, RL h D zap xs vs -> RL h D zap ys vs) (ha : za9 P f ys r) : za9 P f xs r := fun D w vs hD hx => ha D w vs hD (h _ _ _ hx)
end Sy
end Go.Proofs.YtogpolfhcbgcbaaGreatDoor
namespace Go.Proofs.YtogpolfhcbgcbaaGreatDoor
namespace Sy
open Go Go.RowKit
set_option maxRecDepth 100000
set_option linter.unusedSimpArgs false
set_option linter.unusedVariables false
structure Vw (α : Type) where
 sz : Nat
 cell : za7 -> α -> Nat -> AV
 rd : (Nat -> AV) -> α
 ok : (Nat -> AV) -> Prop
 d : α
structure ztj {α : Type} (V : Vw α) : Prop where
 turn : ∀ c, V.ok c -> ∀ j, j < V.sz -> ∀ (h : Array Obj) (D : Nat -> Prop) (μ : Mu) (v : Value), R h D μ (c j) v -> R h D μ (V.cell std (V.rd c) j) v
 back : ∀ c x, (∀ j, j < V.sz -> c j = V.cell std x j) -> V.ok c /\ V.rd c = x
def zj2 {α : Type} (V : Vw α) (l : List α) (i : Nat) : α := l.getD i V.d
def zcd {α : Type} (l : List α) : Nat := l.length
def yro {α : Type} (L : za7) (V : Vw α) (l : List α) : Nat -> Nat -> AV := fun i j => V.cell L (L (L (zj2 V) l) i) j
def ybk {α : Type} (L : za7) (V : Vw α) (l : List α) : AV := .lst V.sz (L zcd l) (yro L V l)
def rdW {α : Type} (V : Vw α) : AV -> List α
 | .lst _ n get => (List.range n).map fun i => V.rd (get i)
 | _ => []
def okW {α : Type} (V : Vw α) : AV -> Prop
 | .lst sz n get => sz = V.sz /\ ∀ i, i < n -> V.ok (get i)
 | .nils => True
 | _ => False
theorem zb2 {α : Type} {V : Vw α} {l : List α} {i : Nat} (h : i < l.length) : zj2 V l i = l[i] := by
 rw [zj2, List.getD_eq_getElem?_getD, List.getElem?_eq_getElem h]; rfl
theorem zk8 {α : Type} (V : Vw α) (sz n : Nat) (get : Nat -> Nat -> AV) : (rdW V (.lst sz n get)).length = n := by simp [rdW]
theorem yaj {α : Type} {V : Vw α} {sz n : Nat} {get : Nat -> Nat -> AV} {i : Nat} (h : i < n) : zj2 V (rdW V (.lst sz n get)) i = V.rd (get i) := by
 rw [zb2 (by rw [zk8]; exact h)]
 simp [rdW]
theorem zx7 {α : Type} {V : Vw α} (K : ztj V) {h : Array Obj} {D : Nat -> Prop} {μ : Mu} {x : AV} {v : Value} (ho : okW V x) (r : R h D μ x v) : R h D μ (ybk std V (rdW V x)) v := by
 match x, ho with
 | .nils, _ => cases r; exact .lst0 _ _ none 0 (fun _ => rfl)
 | .lst sz n get, ho =>
   obtain ⟨rfl, ho⟩ := ho
   have e : ybk std V (rdW V (.lst V.sz n get)) = .lst V.sz n (yro std V (rdW V (.lst V.sz n get))) := by
     show AV.lst V.sz (zcd (rdW V (.lst V.sz n get))) _ = _
     rw [show zcd (rdW V (.lst V.sz n get)) = n from zk8 _ _ _ _]
   rw [e]
   cases r with
   | lst0 _ _ a cap hn => exact .lst0 _ _ a cap hn
   | lst _ _ _ b o cap vs hD hc hv h1 hr =>
     refine .lst _ _ _ b o cap vs hD hc hv h1 (fun i j hi hj => ?_)
     show R h D zap (V.cell std (zj2 V (rdW V (.lst V.sz n get)) i) j) (vs i j)
     rw [yaj hi]
     exact K.turn _ (ho i hi) j hj _ _ _ _ (hr i j hi hj)
theorem ztz {α : Type} {V : Vw α} (K : ztj V) {n : Nat} {get : Nat -> Nat -> AV} {l : List α} (hn : n = l.length) (h : ∀ i j, i < n -> j < V.sz -> get i j = V.cell std (zj2 V l i) j) : okW V (.lst V.sz n get) /\ rdW V (.lst V.sz n get) = l := by
 subst hn
 refine ⟨⟨rfl, fun i hi => (K.back _ _ (fun j hj => h i j hi hj)).1⟩, ?_⟩
 apply List.ext_getElem
 · rw [zk8]
 · intro i h1 h2
   have := yaj (V := V) (sz := V.sz) (get := get) h2
   rw [zb2 h1] at this
   rw [this, (K.back _ _ (fun j hj => h i j h2 hj)).2, zb2 h2]
theorem zcg {α : Type} {V : Vw α} (K : ztj V) (l : List α) : okW V (ybk std V l) /\ rdW V (ybk std V l) = l := ztz K rfl (fun i j hi hj => rfl)
theorem ziy {α : Type} {V : Vw α} (K : ztj V) {P : Program} {f : FuncId} {x r : AV} {xs : List AV} (ho : okW V x) (h : za9 P f (ybk std V (rdW V x) :: xs) r) : za9 P f (x :: xs) r :=
 yej (fun hp D vs hr => by
   refine ⟨by rw [<- hr.1]; rfl, fun i z v hz hv => ?_⟩
   cases i with
   | zero => cases hz; exact zx7 K ho (hr.2 0 x v rfl hv)
   | succ i => exact hr.2 (i + 1) z v hz hv) h
theorem yvw {α : Type} {V : Vw α} (K : ztj V) {P : Program} {f : FuncId} {y x r : AV} {xs : List AV} (ho : okW V x) (h : za9 P f (y :: ybk std V (rdW V x) :: xs) r) : za9 P f (y :: x :: xs) r :=
 yej (fun hp D vs hr => by
   refine ⟨by rw [<- hr.1]; rfl, fun i z v hz hv => ?_⟩
   match i, hz with
   | 0, hz => exact hr.2 0 z v hz hv
   | 1, hz => cases hz; exact zx7 K ho (hr.2 1 x v rfl hv)
   | i + 2, hz => exact hr.2 (i + 2) z v hz hv) h
def zu0 (x : AV) : List UInt8 := match x with | .str s => s | _ => []
def isS (x : AV) : Prop := ∃ s, x = .str s
def isI (k : IntKind) (x : AV) : Prop := ∃ n, x = .int k n
theorem ybw {x : AV} (h : isS x) {hp : Array Obj} {D : Nat -> Prop} {μ : Mu} {v : Value} (r : R hp D μ x v) : R hp D μ (.str (zu0 x)) v := by obtain ⟨s, rfl⟩ := h; exact r
theorem zq1 {k : IntKind} {x : AV} (h : isI k x) {hp : Array Obj} {D : Nat -> Prop} {μ : Mu} {v : Value} (r : R hp D μ x v) : R hp D μ (.int k x.toI) v := by obtain ⟨s, rfl⟩ := h; exact r
def zge {α : Type} (p : α -> Bool) : List α -> Int
 | [] => -1
 | x :: l => if p x = true then 0 else if zge p l < 0 then -1 else zge p l + 1
theorem zsh {α : Type} (p : α -> Bool) : ∀ l : List α, -1 <= zge p l /\ zge p l < l.length
 | [] => by simp [zge]
 | x :: l => by
   have ih := zsh p l
   rw [List.length_cons]
   unfold zge
   split
   · omega
   · split <;> omega
theorem zgd {α : Type} (p : α -> Bool) : ∀ l : List α, decide (0 <= zge p l) = l.any p
 | [] => by simp [zge]
 | x :: l => by
   have ih := zgd p l
   unfold zge
   by_cases h : p x = true
   · simp [h]
   · have h' : p x = false := by simpa using h
     rw [if_neg h, List.any_cons, h', Bool.false_or, <- ih]
     split
     · rename_i h2; rw [decide_eq_false (by omega), decide_eq_false (by omega)]
     · rename_i h2; rw [decide_eq_true (by omega), decide_eq_true (by omega)]
theorem ycc {α : Type} {p : α -> Bool} : ∀ {l : List α} {i : Nat} (hi : i < l.length), (∀ k (hk : k < i), p (l[k]'(by omega)) = false) -> p l[i] = true -> zge p l = i
 | [], i, hi, _, _ => by simp at hi
 | x :: l, 0, hi, _, h => by simp at h; simp [zge, h]
 | x :: l, i + 1, hi, h0, h => by
   have hx : p x = false := by simpa using h0 0 (by omega)
   have ih := ycc (p := p) (l := l) (i := i) (by simpa using hi) (fun k hk => by have := h0 (k + 1) (by omega); simpa using this) (by simpa using h)
   rw [zge, if_neg (by rw [hx]; decide), if_neg (by omega), ih]; simp
theorem ycb {α : Type} {p : α -> Bool} : ∀ {l : List α}, (∀ x ∈ l, p x = false) -> zge p l = -1
 | [], _ => rfl
 | x :: l, h => by
   have hx := h x (by simp)
   have ih := ycb (p := p) (l := l) (fun y hy => h y (by simp [hy]))
   rw [zge, if_neg (by rw [hx]; decide), if_pos (by omega)]
def zlu {α : Type} (p : α -> Bool) (l : List α) (i : Nat) : Prop := i <= l.length /\ ∀ x ∈ l.take i, p x = false
theorem zkj {α : Type} (p : α -> Bool) (l : List α) : zlu p l 0 := ⟨Nat.zero_le _, fun x hx => by simp at hx⟩
theorem zer {α : Type} {V : Vw α} {p : α -> Bool} {l : List α} {i : Nat} (h : zlu p l i) (hi : i < l.length) (hp : p (zj2 V l i) = false) : zlu p l (i + 1) := by
 refine ⟨hi, fun x hx => ?_⟩
 rw [List.take_succ_eq_append_getElem hi, List.mem_append] at hx
 rcases hx with hx | hx
 · exact h.2 x hx
 · rw [List.mem_singleton.1 hx, <- zb2 (V := V) hi]; exact hp
theorem zft {α : Type} {V : Vw α} {p : α -> Bool} {l : List α} {i : Nat} (h : zlu p l i) (hi : i < l.length) (hp : p (zj2 V l i) = true) : zge p l = i := by
 rw [zb2 hi] at hp
 refine ycc hi (fun k hk => h.2 _ ?_) hp
 rw [List.mem_take_iff_getElem]
 exact ⟨k, by omega, rfl⟩
theorem zfu {α : Type} {p : α -> Bool} {l : List α} {i : Nat} (h : zlu p l i) (hi : ¬ i < l.length) : zge p l = -1 := by
 have := h.2
 rw [List.take_of_length_le (by omega)] at this
 exact ycb this
def zkk : zoz := (151, fun raw ob => match raw with
 | [.ref id 0] => match ob id with
   | some (.box ty cs) => some ⟨[.ref 500000 0], [(500000, .box ty cs)], True, .ref 500000 0, [(500000, .box ty cs)]⟩
   | _ => none
 | _ => none)
theorem zmh : zgm Tryz.prog zkk := by
 intro raw ob T hT hp
 unfold zkk at hT
 simp only at hT
 split at hT
 · split at hT
   · cases hT
     intro D w μ vs hD hxs hdom hobs hinj hown hg hgb
     obtain ⟨v, hv⟩ : ∃ v, vs.toList = [v] := List.length_eq_one_iff.1 (by simpa using hxs.1.symm)
     have : vs = #[v] := by rw [<- Array.toArray_toList (xs := vs), hv]
     subst this
     unfold zdi
     rw [show zkk.fst = 151 from rfl, run_callFunc_extern (fn := Tryz.f151) rfl (by kernel_rfl) (by kernel_rfl) (by kernel_rfl) (e := Extern.AbiNoEscape.same) (by kernel_rfl)]
     rw [Lib.run_noEscape]
     exact ⟨v, D, μ, { ret := rfl, os := rfl, tape := rfl, output := rfl, size := Nat.le_refl _, old := fun _ _ _ => rfl, up := fun _ h => h, dn := fun _ h => .inl h, dom := hdom, obs := hobs, inj := hinj, own := fun n b z h => ⟨(hown n b z h).1, (hown n b z h).2, .inr ⟨n, z, h⟩⟩, keep := fun _ _ _ => rfl, val := hxs.2 0 _ _ rfl rfl }⟩
   · cases hT
 · cases hT
def ynz : zoz := (146, fun raw ob => match raw with
 | [.ref id 0] => match ob id with
   | some (.box _ [.nilp, .nils]) => some ⟨[.ref 500000 0], [(500000, .box 137 [.nilp, .nils])], True, .tup [], [(500000, .box 137 [.ref 500000 0, .nils])]⟩
   | some (.box _ [.ref _ 0, .sl k 1 0 n]) => match ob k with
     | some (.row _ 1 m get) => some ⟨[.ref 500000 0], [(500000, .box 137 [.ref 500000 0, .sl 500001 1 0 m]), (500001, .row 5 1 m get)], True, .tup [], [(500000, .box 137 [.ref 500000 0, .sl 500001 1 0 m]), (500001, .row 5 1 m get)]⟩
     | _ => none
   | _ => none
 | _ => none)
theorem ysl : zbf Tryz.prog 146 [.ref 500000 0] [(500000, .box 137 [.nilp, .nils])] (.tup []) [(500000, .box 137 [.ref 500000 0, .nils])] := by
 refine zbi (T := tt) (S := fun L => zcv [] [zkk]) (lo := noA) (lb := noA) 5 (fn := Tryz.f146) (xs := fun L => [.ref 500000 0]) (rts := fun _ => []) (O := fun L => [(500000, .box 137 [.nilp, .nils])]) (O1 := fun L => [(500000, .box 137 [.ref 500000 0, .nils])])
   rfl rfl (by kernel_rfl) (by kernel_rfl) (by kernel_rfl) zaa (zb1 trivial ⟨zmh, trivial⟩) (by kernel_rfl) ?_
 intro L P' Q' hL hP hQ
 (cbv; try simp only [syT, true_and, and_true])
 exact ⟨fun _ => trivial, fun h => by cases h⟩
theorem ysk (m : Nat) (get : Nat -> Nat -> AV) : zbf Tryz.prog 146 [.ref 500000 0] [(500000, .box 137 [.ref 500000 0, .sl 500001 1 0 m]), (500001, .row 5 1 m get)] (.tup []) [(500000, .box 137 [.ref 500000 0, .sl 500001 1 0 m]), (500001, .row 5 1 m get)] := by
 refine zbi (T := tt) (S := fun L => zcv [] [zkk]) (lo := noA) (lb := noA) 5 (fn := Tryz.f146) (xs := fun L => [.ref 500000 0]) (rts := fun _ => []) (O := fun L => [(500000, .box 137 [.ref 500000 0, .sl 500001 1 0 m]), (500001, .row 5 1 m get)]) (O1 := fun L => [(500000, .box 137 [.ref 500000 0, .sl 500001 1 0 m]), (500001, .row 5 1 m get)])
   rfl rfl (by kernel_rfl) (by kernel_rfl) (by kernel_rfl) zaa (zb1 trivial ⟨zmh, trivial⟩) (by kernel_rfl) ?_
 intro L P' Q' hL hP hQ
 (cbv; try simp only [syT, true_and, and_true])
 subst hL
 simp [std]
theorem zlh : zgm Tryz.prog ynz := by
 intro raw ob T hT hp
 unfold ynz at hT
 simp only at hT
 repeat' split at hT
 all_goals first | (cases hT; done) | (cases hT; exact ysl) | (cases hT; exact ysk _ _)
def bld (L : za7) (l : List UInt8) : List (Nat × Ob) := [(500000, .box 137 [.ref 500000 0, .sl 500001 1 0 (L lenN l)]), (500001, .row 5 1 (L lenN l) (fun i _ => .int .u8 (L2 L za8 l i)))]
def ztd (L : za7) (l : List UInt8) : List (Nat × Ob) := [(500000, .box 137 [.ref 500000 0, .sl 7 1 0 (L lenN l)]), (7, .row 5 1 (L lenN l) (fun i _ => .int .u8 (L2 L za8 l i)))]
def yp7 : List (Nat × Ob) := [(500000, .box 137 [.nilp, .nils])]
def ye9 (L : za7) (ob : Nat -> Option Ob) (id : Nat) : Option (Option (List UInt8)) := match ob id with
 | some (.box _ [.nilp, .nils]) => some none
 | some (.box _ [.ref _ 0, .sl k 1 0 n]) => match ob k with
   | some (.row _ 1 m get) => some (some (L2 L zbd m (fun i => (get i 0).toI)))
   | _ => none
 | _ => none
def zab (l m : List UInt8) : List UInt8 := l ++ m
def zc6 (c : Int) : List UInt8 := [UInt8.ofNat c.toNat]
def ypj (c : Int) : Prop := 0 <= c /\ c < 256
def zf4 (l m : List UInt8) : Prop := l.length + m.length <= 90000000
def yt5 (L : za7) : zoz := (135, fun raw ob => match raw with
 | [.ref id 0, .int .u8 c] => match ye9 L ob id with
   | some none => some ⟨[.ref 500000 0, .int .u8 c], yp7, L ypj c, .dead, ztd L (L zc6 c)⟩
   | some (some l) => some ⟨[.ref 500000 0, .int .u8 c], bld L l, L ypj c /\ L2 L zf4 l (L zc6 c), .dead, ztd L (L2 L zab l (L zc6 c))⟩
   | none => none
 | _ => none)
def yt4 (L : za7) : zoz := (136, fun raw ob => match raw with
 | [.ref id 0, .str s] => match ye9 L ob id with
   | some (some l) => some ⟨[.ref 500000 0, .str s], bld L l, L2 L zf4 l s, .tup [.int .i64 (L slen s), .dead], ztd L (L2 L zab l s)⟩
   | _ => none
 | _ => none)
def yvo (L : za7) : zoz := (114, fun raw ob => match raw with
 | [.ref id 0] => match ye9 L ob id with
   | some (some l) => some ⟨[.ref 500000 0], bld L l, L (fun l => l ≠ [] /\ l.length <= 90000000) l, .str l, []⟩
   | _ => none
 | _ => none)
def yvq (L : za7) : zoz := (113, fun raw ob => match raw with
 | [.ref id 0] => match ye9 L ob id with
   | some (some l) => some ⟨[.ref 500000 0], bld L l, True, .int .i64 (L slen l), bld L l⟩
   | _ => none
 | _ => none)
theorem zvv {l m : List UInt8} {i : Nat} (h : i < l.length) : za8 (l ++ m) i = za8 l i := by
 simp [za8, List.getElem?_append_left h]
theorem zvu {l m : List UInt8} {i : Nat} (h : ¬ i < l.length) : za8 (l ++ m) i = za8 m (i - l.length) := by
 simp [za8, List.getElem?_append_right (show l.length <= i by omega)]
theorem zgj (l : List UInt8) : zbd l.length (fun i => za8 l i) = l := by
 apply List.ext_getElem
 · simp [zbd]
 · intro i h1 h2
   simp [zbd, za8, h2]
theorem zvw {c : Int} (hc : ypj c) (i : Nat) (h : i < 1) : zkg [c] i = za8 (zc6 c) i := by
 have : i = 0 := by omega
 subst this
 obtain ⟨h0, h1⟩ := hc
 simp [zkg, za8, zc6, UInt8.toNat_ofNat']
 omega
theorem ype (c : Int) (hc : ypj c) : zbf Tryz.prog 135 [.ref 500000 0, .int .u8 c] yp7 .dead (ztd std (zc6 c)) := by
 refine zbi (T := tt) (S := fun L => zcv [] [ynz]) (lo := noA) (lb := noA) 5 (fn := Tryz.f135) (xs := fun L => [.ref 500000 0, .int .u8 c]) (rts := fun _ => [.dead]) (O := fun L => yp7) (O1 := fun L => ztd L (L zc6 c))
   rfl rfl (by kernel_rfl) (by kernel_rfl) (by kernel_rfl) zaa (zb1 trivial ⟨zlh, trivial⟩) (by kernel_rfl) ?_
 intro L P' Q' hL hP hQ
 (cbv; try simp only [syT, true_and, and_true])
 subst hL
 simp only [L2, L3, std, zhb]
 have h1 : lenN (zc6 c) = 1 := rfl
 rw [h1]
 exact ⟨by omega, ⟨rfl, fun i j hi hj => by rw [show Nat.add 0 i = i from Nat.zero_add i, zvw hc i hi]⟩, rfl⟩
theorem ypd (l : List UInt8) (c : Int) (hc : ypj c) (hl : zf4 l (zc6 c)) : zbf Tryz.prog 135 [.ref 500000 0, .int .u8 c] (bld std l) .dead (ztd std (zab l (zc6 c))) := by
 refine zbi (T := tt) (S := fun L => zcv [] [ynz]) (lo := noA) (lb := noA) 5 (fn := Tryz.f135) (xs := fun L => [.ref 500000 0, .int .u8 c]) (rts := fun _ => [.dead]) (O := fun L => bld L l) (O1 := fun L => ztd L (L2 L zab l (L zc6 c)))
   rfl rfl (by kernel_rfl) (by kernel_rfl) (by kernel_rfl) zaa (zb1 trivial ⟨zlh, trivial⟩) (by kernel_rfl) ?_
 intro L P' Q' hL hP hQ
 (cbv; try simp only [syT, true_and, and_true])
 subst hL
 simp only [L2, L3, std, zhb]
 have h1 : lenN (zab l (zc6 c)) = l.length + 1 := by simp [lenN, zab, zc6]
 have h2 : (zc6 c).length = 1 := rfl
 have hl : l.length + (zc6 c).length <= 90000000 := hl
 have h3 : lenN l = l.length := rfl
 rw [h1, h3]
 refine ⟨fun _ _ _ _ => trivial, by omega, ⟨rfl, fun i j hi hj => ?_⟩, rfl⟩
 by_cases h : i < l.length
 · rw [zot h, show zab l (zc6 c) = l ++ zc6 c from rfl, zvv h]; rfl
 · rw [ztc h, show zab l (zc6 c) = l ++ zc6 c from rfl, zvu h]
   show AV.int .u8 (zkg [c] (Nat.add 0 (i - l.length))) = _
   rw [show Nat.add 0 (i - l.length) = i - l.length from Nat.zero_add _, zvw hc _ (by omega)]
theorem yp9 (l s : List UInt8) (hl : zf4 l s) : zbf Tryz.prog 136 [.ref 500000 0, .str s] (bld std l) (.tup [.int .i64 (slen s), .dead]) (ztd std (zab l s)) := by
 refine zbi (T := tt) (S := fun L => zcv [] [ynz]) (lo := noA) (lb := noA) 5 (fn := Tryz.f136) (xs := fun L => [.ref 500000 0, .str s]) (rts := fun L => [.int .i64 (L slen s), .dead]) (O := fun L => bld L l) (O1 := fun L => ztd L (L2 L zab l s))
   rfl rfl (by kernel_rfl) (by kernel_rfl) (by kernel_rfl) zaa (zb1 trivial ⟨zlh, trivial⟩) (by kernel_rfl) ?_
 intro L P' Q' hL hP hQ
 (cbv; try simp only [syT, true_and, and_true])
 subst hL
 simp only [L2, L3, std, zhb]
 have h1 : lenN (zab l s) = l.length + s.length := by simp [lenN, zab]
 have hl : l.length + s.length <= 90000000 := hl
 have h3 : lenN l = l.length := rfl
 rw [h1, h3]
 refine ⟨fun _ _ _ _ => trivial, by omega, ⟨rfl, fun i j hi hj => ?_⟩, rfl⟩
 by_cases h : i < l.length
 · rw [zot h, show zab l s = l ++ s from rfl, zvv h]; rfl
 · rw [ztc h, show zab l s = l ++ s from rfl, zvu h]; rfl
theorem ysq (l : List UInt8) (h0 : l ≠ []) (hl : l.length <= 90000000) : zbf Tryz.prog 114 [.ref 500000 0] (bld std l) (.str l) [] := by
 refine zbi (T := tt) (S := fun L => zcv [] [ynz]) (lo := noA) (lb := noA) 5 (fn := Tryz.f114) (xs := fun L => [.ref 500000 0]) (rts := fun L => [.str l]) (O := fun L => bld L l) (O1 := fun L => [])
   rfl rfl (by kernel_rfl) (by kernel_rfl) (by kernel_rfl) zaa (zb1 trivial ⟨zlh, trivial⟩) (by kernel_rfl) ?_
 intro L P' Q' hL hP hQ
 (cbv; try simp only [syT, true_and, and_true])
 subst hL
 simp only [L2, L3, std]
 have h3 : lenN l = l.length := rfl
 have h1 : 0 < l.length := List.length_pos_iff.2 h0
 refine ⟨zot h1, ⟨by show (0 : Int) < (l.length : Int); omega, by show (l.length : Int) <= (l.length : Int); omega, by show (l.length : Int) <= _; omega, fun i hi => ⟨_, rfl, ?_, ?_⟩⟩, zgj l⟩
 · simp [za8]
 · have := UInt8.toNat_lt (l.getD i 0)
   show ((l.getD i 0).toNat : Int) < 256
   omega
theorem yst (l : List UInt8) : zbf Tryz.prog 113 [.ref 500000 0] (bld std l) (.int .i64 (slen l)) (bld std l) := by
 refine zbi (T := tt) (S := fun L => zcv [] [ynz]) (lo := noA) (lb := noA) 5 (fn := Tryz.f113) (xs := fun L => [.ref 500000 0]) (rts := fun L => [.int .i64 (L slen l)]) (O := fun L => bld L l) (O1 := fun L => bld L l)
   rfl rfl (by kernel_rfl) (by kernel_rfl) (by kernel_rfl) zaa (zb1 trivial ⟨zlh, trivial⟩) (by kernel_rfl) ?_
 intro L P' Q' hL hP hQ
 (cbv; try simp only [syT, true_and, and_true])
 subst hL
 exact ⟨fun _ _ _ _ => trivial, rfl⟩
theorem zz3 : zgm Tryz.prog (yt5 std) := by
 intro raw ob T hT hp
 unfold yt5 at hT
 simp only at hT
 repeat' split at hT
 all_goals first | (cases hT; done) | (cases hT; exact ype _ hp) | (cases hT; exact ypd _ _ hp.1 hp.2)
theorem zyx : zgm Tryz.prog (yt4 std) := by
 intro raw ob T hT hp
 unfold yt4 at hT
 simp only at hT
 repeat' split at hT
 all_goals first | (cases hT; done) | (cases hT; exact yp9 _ _ hp)
theorem yoh : zgm Tryz.prog (yvo std) := by
 intro raw ob T hT hp
 unfold yvo at hT
 simp only at hT
 repeat' split at hT
 all_goals first | (cases hT; done) | (cases hT; exact ysq _ hp.1 hp.2)
theorem yoj : zgm Tryz.prog (yvq std) := by
 intro raw ob T hT hp
 unfold yvq at hT
 simp only at hT
 repeat' split at hT
 all_goals first | (cases hT; done) | (cases hT; exact yst _)
inductive CV where
 | mk (k n : Int) (s : List UInt8) (l : List CV)
namespace CV
def kd : CV -> Int
 | mk k _ _ _ => k
def nn : CV -> Int
 | mk _ n _ _ => n
def tx : CV -> List UInt8
 | mk _ _ s _ => s
def ls : CV -> List CV
 | mk _ _ _ l => l
theorem eta (v : CV) : mk v.kd v.nn v.tx v.ls = v := by cases v; rfl
end CV
def zdl (l : List CV) (i : Nat) : CV := l.getD i (.mk 0 0 [] [])
def lenL (l : List CV) : Nat := l.length
def zlp (v : CV) : Nat := v.ls.length
def sizeC : CV -> Nat
 | .mk _ _ _ l => sizeCs l + 1
where sizeCs : List CV -> Nat
 | [] => 0
 | v :: l => sizeC v + sizeCs l
abbrev sizeCs := sizeC.sizeCs
theorem zck : sizeCs [] = 0 := by simp [sizeC.sizeCs]
theorem zbn (v : CV) (l : List CV) : sizeCs (v :: l) = sizeC v + sizeCs l := by simp [sizeC.sizeCs]
theorem zcp (k n : Int) (s : List UInt8) (l : List CV) : sizeC (.mk k n s l) = sizeCs l + 1 := by rw [sizeC]
theorem zem (v : CV) : 0 < sizeC v := by cases v; rw [zcp]; omega
theorem zk0 : ∀ (l : List CV) (i : Nat), i < l.length -> sizeC (zdl l i) <= sizeCs l
 | [], i, h => by simp at h
 | v :: l, 0, h => by rw [zbn]; show sizeC v <= _; omega
 | v :: l, i + 1, h => by
   have := zk0 l i (by simpa using h)
   rw [zbn]
   show sizeC (zdl l i) <= _
   omega
theorem zuh {l : List CV} {i : Nat} (h : i < l.length) : zdl l i ∈ l := by
 rw [zdl, List.getD_eq_getElem?_getD, List.getElem?_eq_getElem h]; exact List.getElem_mem h
theorem yjz {p : CV -> Prop} (h : ∀ k n s l, (∀ v ∈ l, p v) -> p (.mk k n s l)) : ∀ (m : Nat) (v : CV), sizeC v <= m -> p v
 | 0, v, hv => by have := zem v; omega
 | m + 1, .mk k n s l, hv => h k n s l fun w hw => by
   rw [zcp] at hv
   obtain ⟨i, hi, rfl⟩ := List.getElem_of_mem hw
   have := zk0 l i hi
   have e : zdl l i = l[i] := by rw [zdl, List.getD_eq_getElem?_getD, List.getElem?_eq_getElem hi]; rfl
   rw [e] at this
   exact yjz h m _ (by omega)
theorem ydc {p : CV -> Prop} (h : ∀ k n s l, (∀ v ∈ l, p v) -> p (.mk k n s l)) (v : CV) : p v := yjz h _ v (Nat.le_refl _)
def dflC : Nat -> AV
 | 0 => .int .i64 0
 | 1 => .int .u64 0
 | 2 => .str []
 | _ => .lst 4 0 (fun _ _ => .dead)
mutual
def ze3 : CV -> Nat -> AV
 | .mk k n s l, j => match j with
   | 0 => .int .i64 k
   | 1 => .int .u64 n
   | 2 => .str s
   | _ => .lst 4 l.length (zhx l)
def zhx : List CV -> Nat -> Nat -> AV
 | [], _, j => dflC j
 | v :: l, i, j => match i with
   | 0 => ze3 v j
   | i + 1 => zhx l i j
end
theorem zff (v : CV) : ze3 v 0 = .int .i64 v.kd := by cases v; rw [ze3]; rfl
theorem zfe (v : CV) : ze3 v 1 = .int .u64 v.nn := by cases v; rw [ze3]; rfl
theorem zfd (v : CV) : ze3 v 2 = .str v.tx := by cases v; rw [ze3]; rfl
theorem zfc (v : CV) : ze3 v 3 = .lst 4 v.ls.length (zhx v.ls) := by cases v; rw [ze3] <;> first | rfl | (intro h; cases h)
theorem zbt : ∀ (l : List CV) (i j : Nat), i < l.length -> zhx l i j = ze3 (zdl l i) j
 | [], i, j, h => by simp at h
 | v :: l, 0, j, h => by rw [zhx]; rfl
 | v :: l, i + 1, j, h => by rw [zhx]; exact zbt l i j (by simpa using h)
def zjp (v : CV) : Nat -> Nat -> AV := zhx v.ls
def cv1 (L : za7) (v : CV) : Nat -> AV
 | 0 => .int .i64 (L CV.kd v)
 | 1 => .int .u64 (L CV.nn v)
 | 2 => .str (L CV.tx v)
 | _ => .lst 4 (L zlp v) (L zjp v)
theorem zt1 (v : CV) (j : Nat) (h : j < 4) : cv1 std v j = ze3 v j := by
 match j, h with
 | 0, _ => rw [zff]; rfl
 | 1, _ => rw [zfe]; rfl
 | 2, _ => rw [zfd]; rfl
 | 3, _ => rw [zfc]; rfl
def cvL (L : za7) (l : List CV) : AV := .lst 4 (L lenL l) (fun i j => cv1 L (L2 L zdl l i) j)
def cvA (L : za7) (v : CV) : AV := .agg [.int .i64 (L CV.kd v), .int .u64 (L CV.nn v), .str (L CV.tx v), .lst 4 (L zlp v) (L zjp v)]
def rdL : AV -> List CV
 | .lst _ n get => (List.range n).map fun i => .mk (get i 0).toI (get i 1).toI (match get i 2 with | .str s => s | _ => []) (rdL (get i 3))
 | _ => []
def okL : AV -> Prop
 | .lst sz n get => sz = 4 /\ ∀ i, i < n -> (∃ x, get i 0 = .int .i64 x) /\ (∃ x, get i 1 = .int .u64 x) /\ (∃ x, get i 2 = .str x) /\ okL (get i 3)
 | .nils => True
 | _ => False
theorem zk6 (sz n : Nat) (get : Nat -> Nat -> AV) : (rdL (.lst sz n get)).length = n := by simp [rdL]
theorem ztx {sz n : Nat} {get : Nat -> Nat -> AV} {i : Nat} (h : i < n) : zdl (rdL (.lst sz n get)) i = .mk (get i 0).toI (get i 1).toI (match get i 2 with | .str s => s | _ => []) (rdL (get i 3)) := by
 rw [zdl, List.getD_eq_getElem?_getD, rdL]
 simp [h]
theorem yk0 {a b : List CV} (h : a.length = b.length) (k : ∀ i, i < a.length -> zdl a i = zdl b i) : a = b := by
 apply List.ext_getElem h
 intro i h1 h2
 have := k i h1
 rw [zdl, zdl, List.getD_eq_getElem?_getD, List.getD_eq_getElem?_getD, List.getElem?_eq_getElem h1, List.getElem?_eq_getElem h2] at this
 exact this
theorem yl8 : ∀ v : CV, rdL (ze3 v 3) = v.ls /\ okL (ze3 v 3) := by
 refine ydc fun k n s l ih => ?_
 rw [zfc]
 show rdL (.lst 4 l.length (zhx l)) = l /\ okL (.lst 4 l.length (zhx l))
 refine ⟨yk0 (zk6 _ _ _) fun i hi => ?_, rfl, fun i hi => ?_⟩
 · rw [zk6] at hi
   rw [ztx hi, zbt _ _ _ hi, zbt _ _ _ hi, zbt _ _ _ hi, zbt _ _ _ hi, zff, zfe, zfd, (ih _ (zuh hi)).1]
   exact CV.eta _
 · rw [zbt _ _ _ hi, zbt _ _ _ hi, zbt _ _ _ hi, zbt _ _ _ hi, zff, zfe, zfd]
   exact ⟨⟨_, rfl⟩, ⟨_, rfl⟩, ⟨_, rfl⟩, (ih _ (zuh hi)).2⟩
theorem zk7 (v : CV) : rdL (.lst 4 (zlp v) (zjp v)) = v.ls /\ okL (.lst 4 (zlp v) (zjp v)) := by
 have := yl8 v
 rw [zfc] at this
 exact this
theorem yai (l : List CV) : rdL (cvL std l) = l /\ okL (cvL std l) := by
 refine ⟨yk0 (zk6 _ _ _) fun i hi => ?_, rfl, fun i hi => ⟨⟨_, rfl⟩, ⟨_, rfl⟩, ⟨_, rfl⟩, (zk7 _).2⟩⟩
 have hi : i < l.length := by rw [show (rdL (cvL std l)).length = lenL l from zk6 _ _ _] at hi; exact hi
 show zdl (rdL (.lst 4 (lenL l) _)) i = _
 rw [ztx (show i < lenL l from hi)]
 show CV.mk (zdl l i).kd (zdl l i).nn (zdl l i).tx (rdL (.lst 4 (zlp (zdl l i)) (zjp (zdl l i)))) = _
 rw [(zk7 _).1, CV.eta]
theorem yqb {h : Array Obj} {D : Nat -> Prop} : ∀ (x : AV) {μ : Mu} {v : Value}, okL x -> R h D μ x v -> R h D μ (.lst 4 (rdL x).length (zhx (rdL x))) v := by
 intro x μ v ho r
 induction r with
 | nils => exact .lst0 _ _ _ _ (fun _ => rfl)
 | lst0 sz get a cap hn => exact .lst0 _ _ _ _ hn
 | lst sz n get b o cap vs hD hc hv h1 hr ih =>
   obtain ⟨rfl, ho⟩ := ho
   rw [zk6]
   refine .lst _ _ _ b o cap vs hD hc hv h1 (fun i j hi hj => ?_)
   rw [zbt _ _ _ (by rw [zk6]; exact hi), ztx hi]
   obtain ⟨⟨x0, e0⟩, ⟨x1, e1⟩, ⟨x2, e2⟩, o3⟩ := ho i hi
   have hj' := hr i j hi hj
   match j, hj with
   | 0, _ => rw [zff]; rw [e0] at hj' |-; exact hj'
   | 1, _ => rw [zfe]; rw [e1] at hj' |-; exact hj'
   | 2, _ => rw [zfd]; rw [e2] at hj' |-; exact hj'
   | 3, _ => rw [zfc]; exact ih i 3 hi (by omega) o3
 | _ => exact ho.elim
theorem ysf {h : Array Obj} {D : Nat -> Prop} {μ : Mu} {l : List CV} {v : Value} (r : R h D μ (.lst 4 l.length (zhx l)) v) : R h D μ (cvL std l) v :=
 ygs r fun i j hi hj => by
   rw [zbt _ _ _ hi]
   exact (zt1 _ j hj).symm
mutual
def zde : CV -> Int
 | .mk k _ _ l => if k = 3 then zay l + 1 else 0
def zay : List CV -> Int
 | [] => 0
 | v :: l => max (zde v) (zay l)
end
theorem zn0 : ∀ a b : List CV, zay (a ++ b) = max (zay a) (zay b)
 | [], b => by
   rw [List.nil_append, zay]
   have : ∀ b : List CV, 0 <= zay b := by
     intro b
     induction b with
     | nil => rw [zay]; omega
     | cons v l ih => rw [zay]; omega
   have := this b
   omega
 | v :: a, b => by rw [List.cons_append, zay, zn0 a b, zay]; omega
theorem ztp {l : List CV} {i : Nat} (h : i < l.length) : l.take (i + 1) = l.take i ++ [zdl l i] := by
 rw [List.take_succ_eq_append_getElem h, zdl, List.getD_eq_getElem?_getD, List.getElem?_eq_getElem h]; rfl
def zgq (l : List CV) (i : Nat) : Int := zay (l.take i)
theorem zsz {l : List CV} {i : Nat} (h : i < l.length) : zgq l (i + 1) = max (zgq l i) (zde (zdl l i)) := by
 unfold zgq
 rw [ztp h, zn0, zay, zay]
 have : 0 <= zde (zdl l i) \/ True := .inr trivial
 have h0 : ∀ b : List CV, 0 <= zay b := by
   intro b
   induction b with
   | nil => rw [zay]; omega
   | cons v l ih => rw [zay]; omega
 have := h0 (l.take i)
 omega
mutual
def zfg : CV -> Bool
 | .mk k n s l => if k = 1 then decide (s = []) && l.isEmpty else if k = 2 then decide (n = 0) && l.isEmpty else if k = 3 then decide (n = 0) && decide (s = []) && zdh l else false
def zdh : List CV -> Bool
 | [] => true
 | v :: l => zfg v && zdh l
end
def zg3 (k : Int) : List UInt8 := [UInt8.ofNat (k % 256).toNat]
mutual
def zbu : CV -> List UInt8
 | .mk k n s l => zg3 k ++ if k = 1 then zb5 n else if k = 2 then zb5 s.length ++ s else zb5 l.length ++ zax l
def zax : List CV -> List UInt8
 | [] => []
 | v :: l => zbu v ++ zax l
end
theorem zi9 : ∀ a b : List CV, zax (a ++ b) = zax a ++ zax b
 | [], b => by rw [zax]; rfl
 | v :: a, b => by rw [List.cons_append, zax, zi9 a b, zax, List.append_assoc]
def zgn (l : List CV) (i : Nat) : List UInt8 := zax (l.take i)
theorem zdv {l : List CV} {i : Nat} (h : i < l.length) : zgn l (i + 1) = zgn l i ++ zbu (zdl l i) := by
 unfold zgn
 rw [ztp h, zi9, zax, zax, List.append_nil]
def mkV (L : za7) (k n : Int) (s : List UInt8) (x : AV) : CV := L (L (L (L CV.mk k) n) s) (L rdL x)
def zp2 (N : Nat) (v : CV) : Prop := sizeC v <= N /\ N <= 1000000
def zra (N : Nat) (l : List CV) : Prop := sizeCs l <= N /\ N <= 1000000
theorem zml : ∀ l : List CV, l.length <= sizeCs l
 | [] => by simp
 | v :: l => by
   have := zml l
   have := zem v
   rw [zbn, List.length_cons]; omega
theorem zug {N : Nat} {l : List CV} {i : Nat} (h : zra N l) (hi : i < l.length) : zp2 N (zdl l i) := by
 have := zk0 l i hi
 exact ⟨by have := h.1; omega, h.2⟩
theorem zcf {N : Nat} {k n : Int} {s : List UInt8} {l : List CV} : zp2 (N + 1) (.mk k n s l) = (zra N l /\ N + 1 <= 1000000) := by
 unfold zp2 zra
 rw [zcp]
 exact propext ⟨fun h => ⟨⟨by omega, by omega⟩, by omega⟩, fun h => ⟨by have := h.1.1; omega, h.2⟩⟩
theorem zdm (v : CV) : CV.mk v.kd v.nn v.tx (rdL (.lst 4 (zlp v) (zjp v))) = v := by rw [(zk7 v).1]; exact CV.eta v
theorem zbz (v : CV) : mkV std v.kd v.nn v.tx (.lst 4 (zlp v) (zjp v)) = v := zdm v
theorem rdl (l : List CV) : rdL (.lst 4 (lenL l) fun i => cv1 std (zdl l i)) = l := (yai l).1
theorem okl (l : List CV) : okL (.lst 4 (lenL l) fun i => cv1 std (zdl l i)) := (yai l).2
theorem mkl (k n : Int) (s : List UInt8) (l : List CV) : mkV std k n s (.lst 4 (lenL l) fun i => cv1 std (zdl l i)) = .mk k n s l := by
 show CV.mk k n s (rdL _) = _
 rw [rdl]
theorem yka {h : Array Obj} {D : Nat -> Prop} {μ : Mu} {a b c x : AV} {v : Value} (ho : okL x) (r : R h D μ (.agg [a, b, c, x]) v) : R h D μ (.agg [a, b, c, cvL std (rdL x)]) v := by
 obtain ⟨us, rfl, o1, s1, hr⟩ := r.inv_agg
 refine .agg _ _ (by rw [<- s1]; rfl) o1 fun i y v hy hv => ?_
 match i, hy with
 | 0, hy => cases hy; exact hr 0 _ v rfl hv
 | 1, hy => cases hy; exact hr 1 _ v rfl hv
 | 2, hy => cases hy; exact hr 2 _ v rfl hv
 | 3, hy => cases hy; exact ysf (yqb x ho (hr 3 _ v rfl hv))
 | i + 4, hy => simp at hy
theorem yu6 {h : Array Obj} {D : Nat -> Prop} {μ : Mu} {x y : AV} {r : List AV} {vs : Array Value} (e : ∀ v, R h D μ x v -> R h D μ y v) (hr : RL h D μ (x :: r) vs) : RL h D μ (y :: r) vs := by
 refine ⟨by rw [<- hr.1]; rfl, fun i z v hz hv => ?_⟩
 cases i with
 | zero => cases hz; exact e v (hr.2 0 x v rfl hv)
 | succ i => exact hr.2 (i + 1) z v hz hv
theorem rl_2 {h : Array Obj} {D : Nat -> Prop} {μ : Mu} {a x y : AV} {r : List AV} {vs : Array Value} (e : ∀ v, R h D μ x v -> R h D μ y v) (hr : RL h D μ (a :: x :: r) vs) : RL h D μ (a :: y :: r) vs := by
 refine ⟨by rw [<- hr.1]; rfl, fun i z v hz hv => ?_⟩
 match i, hz with
 | 0, hz => exact hr.2 0 z v hz hv
 | 1, hz => cases hz; exact e v (hr.2 1 x v rfl hv)
 | i + 2, hz => exact hr.2 (i + 2) z v hz hv
theorem zow {P : Program} {f : FuncId} {xs ys : List AV} {r : AV} (h : ∀ h D vs, RL h D zap xs vs -> RL h D zap ys vs) (ha : za9 P f ys r) : za9 P f xs r := fun D w vs hD hx => ha D w vs hD (h _ _ _ hx)
theorem yto {P : Program} {f : FuncId} {a b c x r : AV} (ho : okL x) (h : za9 P f [.agg [a, b, c, cvL std (rdL x)]] r) : za9 P f [.agg [a, b, c, x]] r :=
 zow (fun h D vs hr => yu6 (fun v => yka ho) hr) h
theorem yr3 {h : Array Obj} {D : Nat -> Prop} {μ : Mu} {x : AV} {v : Value} (ho : okL x) (r : R h D μ x v) : R h D μ (cvL std (rdL x)) v := ysf (yqb x ho r)
theorem ytp {P : Program} {f : FuncId} {x r : AV} {q : List AV} (ho : okL x) (h : za9 P f (cvL std (rdL x) :: q) r) : za9 P f (x :: q) r :=
 zow (fun h D vs hr => yu6 (fun v => yr3 ho) hr) h
def yva (L : za7) (l : List CV) : Nat -> St -> Option Ann := fun id s => match id with
 | 0 => some ⟨Nat, fun i => [(12, .int .i64 (L zaq i)), (3, .int .i64 (L2 L zgq l i))], fun i => [], [10, 11], [],
     fun i => L2 L (fun (l : List CV) i => i <= l.length) l i, fun i => L2 L (fun (l : List CV) (i : Nat) => l.length - i) l i⟩
 | _ => none
def zqn (N : Nat) (L : za7) : zbh := (111, fun xs => match xs with
 | [.agg [.int .i64 k, .int .u64 n, .str s, x]] => some (L okL x /\ L2 L zp2 N (mkV L k n s x), .int .i64 (L zde (mkV L k n s x)))
 | _ => none)
theorem ynq : ∀ v, 0 <= zde v /\ zde v <= (sizeC v : Int) := by
 refine ydc fun k n s l ih => ?_
 have : ∀ m : List CV, (∀ v ∈ m, 0 <= zde v /\ zde v <= (sizeC v : Int)) -> 0 <= zay m /\ zay m <= (sizeCs m : Int) := by
   intro m
   induction m with
   | nil => intro _; rw [zay, zck]; omega
   | cons v m ih =>
     intro h
     have h1 := h v (by simp)
     have h2 := ih fun w hw => h w (by simp [hw])
     rw [zay, zbn]; omega
 have := this l ih
 rw [zde, zcp]
 split <;> omega
theorem yd8 (l : List CV) (i : Nat) : 0 <= zgq l i /\ zgq l i <= (sizeCs l : Int) := by
 have h1 : ∀ m : List CV, 0 <= zay m /\ zay m <= (sizeCs m : Int) := by
   intro m
   induction m with
   | nil => rw [zay, zck]; omega
   | cons v m ih => have := ynq v; rw [zay, zbn]; omega
 have h2 := h1 (l.take i)
 have h3 : ∀ (m : List CV) (i : Nat), sizeCs (m.take i) <= sizeCs m := by
   intro m
   induction m with
   | nil => intro i; simp
   | cons v m ih =>
     intro i
     cases i with
     | zero => rw [List.take_zero, zck]; omega
     | succ i => have := ih i; rw [List.take_succ_cons, zbn, zbn]; omega
 have := h3 l i
 exact ⟨h2.1, by unfold zgq; omega⟩
theorem yd7 : ∀ N, zaz Tryz.prog (zqn N std) := by
 intro N
 induction N with
 | zero =>
   intro xs p r h hp
   unfold zqn at h
   simp only at h
   split at h
   · rename_i k n s x
     cases h
     have h1 : sizeC (mkV std k n s x) <= 0 := hp.2.1
     have := zem (mkV std k n s x)
     omega
   · cases h
 | succ N ih =>
   intro xs p r h hp
   unfold zqn at h
   simp only at h
   split at h
   · rename_i k n s x
     cases h
     obtain ⟨ho, hz⟩ := hp
     refine yto ho ?_
     show za9 _ _ _ (.int .i64 (zde (.mk k n s (rdL x))))
     have hz : zp2 (N + 1) (.mk k n s (rdL x)) := hz
     generalize rdL x = l at hz |-
     refine za6 (T := tt) (S := fun L => zak [zqn N L]) (lo := fun L => yva L l) (lb := noA) 5 (fn := Tryz.f111) (xs := fun L => [.agg [.int .i64 k, .int .u64 n, .str s, cvL L l]]) rfl rfl (by kernel_rfl) (by kernel_rfl) rfl zaa
       (za2 ⟨ih, trivial⟩) (by kernel_rfl) ?_
     intro L P' Q' hL hP hQ
     (cbv; try simp only [syT, true_and, and_true])
     refine ⟨fun h => ?_, fun h => ⟨⟨0, ?_⟩, fun i hi => ?_⟩⟩
     · (subst hL; subst hQ; simp only [L2, L3, std] at *; try simp only [syS, reduceCtorEq, Int.reduceToNat, Int.reduceAdd, Int.reduceSub] at *)
       rw [zde, if_neg h]
     · (cbv; try simp only [syT, true_and, and_true])
       (subst hL; subst hQ; simp only [L2, L3, std] at *; try simp only [syS, reduceCtorEq, Int.reduceToNat, Int.reduceAdd, Int.reduceSub] at *)
       exact ⟨by rw [zgq, List.take_zero, zay], Nat.zero_le _⟩
     · cbv at hi
       (cbv; try simp only [syT, true_and, and_true])
       refine ⟨fun hlt => ⟨?_, ⟨?_, ?_⟩, ⟨i + 1, ?_⟩⟩, fun hge => ?_⟩
       · (subst hL; subst hQ; simp only [L2, L3, std] at *; try simp only [syS, reduceCtorEq, Int.reduceToNat, Int.reduceAdd, Int.reduceSub] at *)
         omega
       · (subst hL; subst hQ; simp only [L2, L3, std] at *; try simp only [syS, reduceCtorEq, Int.reduceToNat, Int.reduceAdd, Int.reduceSub] at *)
         exact (zk7 _).2
       · (subst hL; subst hQ; simp only [L2, L3, std] at *; try simp only [syS, reduceCtorEq, Int.reduceToNat, Int.reduceAdd, Int.reduceSub] at *)
         rw [zdm]
         rw [zcf] at hz
         exact zug hz.1 (by have : lenL l = l.length := rfl; omega)
       · (cbv; try simp only [syT, true_and, and_true])
         (subst hL; subst hQ; simp only [L2, L3, std] at *; try simp only [syS, reduceCtorEq, Int.reduceToNat, Int.reduceAdd, Int.reduceSub] at *)
         have : lenL l = l.length := rfl
         have := zml l
         have h1 := hz.1
         have h2 := hz.2
         rw [zcp] at h1
         rw [zbz]
         exact ⟨by rw [zsz (by omega)], by omega, by omega, by omega⟩
       · (subst hL; subst hQ; simp only [L2, L3, std] at *; try simp only [syS, reduceCtorEq, Int.reduceToNat, Int.reduceAdd, Int.reduceSub] at *)
         have : lenL l = l.length := rfl
         have hil : i = l.length := by omega
         have h3 := yd8 l i
         have h1 := hz.1
         have h2 := hz.2
         rw [zcp] at h1
         rw [zde, if_pos h, hil, zgq, List.take_length]
         rw [hil, zgq, List.take_length] at h3
         omega
   · cases h
def okG {α : Type} (V : Vw α) : AV -> Prop
 | .agg cs => cs.length = V.sz /\ V.ok (fun j => zbk .dead cs j)
 | _ => False
def rdG {α : Type} (V : Vw α) : AV -> α
 | .agg cs => V.rd (fun j => zbk .dead cs j)
 | _ => V.d
theorem ybp (cs : List AV) (j : Nat) : zbk .dead cs j = (cs[j]?).getD .dead := by
 induction cs generalizing j with
 | nil => cases j <;> rfl
 | cons x l ih => cases j with
   | zero => rfl
   | succ j => exact ih j
theorem gK {α : Type} {V : Vw α} (K : ztj V) (x : α) (cs : List AV) (h : cs = (List.range V.sz).map (V.cell std x)) : okG V (.agg cs) /\ rdG V (.agg cs) = x := by
 have h1 : ∀ j, j < V.sz -> zbk .dead cs j = V.cell std x j := fun j hj => by rw [ybp, h]; simp [hj]
 have h2 := K.back _ x h1
 exact ⟨⟨by simp [h], h2.1⟩, h2.2⟩
theorem G_R {α : Type} {V : Vw α} (K : ztj V) {x : AV} (ho : okG V x) {h : Array Obj} {D : Nat -> Prop} {μ : Mu} {v : Value} (r : R h D μ x v) : R h D μ (.agg ((List.range V.sz).map (V.cell std (rdG V x)))) v := by
 match x, ho with
 | .agg cs, ho =>
   obtain ⟨us, rfl, o1, s1, hr⟩ := r.inv_agg
   refine .agg _ _ (by rw [<- s1]; simp [ho.1]) o1 fun i y w hy hw => ?_
   have hi : i < V.sz := by
     have := (List.getElem?_eq_some_iff.1 hy).1
     simpa using this
   simp [hi] at hy
   subst hy
   have hc : cs[i]? = some (zbk .dead cs i) := by
     rw [ybp, List.getElem?_eq_getElem (by rw [ho.1]; exact hi)]; rfl
   exact K.turn _ ho.2 i hi _ _ _ _ (hr i _ w hc hw)
theorem zyl {α : Type} {V : Vw α} (K : ztj V) {P : Program} {f : FuncId} {x r : AV} {q : List AV} (ho : okG V x) (h : za9 P f (.agg ((List.range V.sz).map (V.cell std (rdG V x))) :: q) r) : za9 P f (x :: q) r :=
 zow (fun h D vs hr => yu6 (fun v => G_R K ho) hr) h
theorem yqu {P : Program} {f : FuncId} {sz n : Nat} {get : Nat -> Nat -> AV} {xs : List AV} {O : List (Nat × Ob)} {r : AV} {O1 : List (Nat × Ob)} (h1 : 0 < n -> zbf P f (.lst sz n get :: xs) O r O1) (h2 : n = 0 -> zbf P f (.nils :: xs) O r O1) (h3 : n = 0 -> zbf P f (.emp :: xs) O r O1) : zbf P f (.lst sz n get :: xs) O r O1 := by
 by_cases h0 : 0 < n
 · exact h1 h0
 obtain rfl : n = 0 := by omega
 intro D w μ vs hD hxs
 obtain ⟨v, hv⟩ : ∃ v, vs[0]? = some v := by
   have := hxs.1
   simp at this
   exact ⟨vs[0], by simp⟩
 have hr := hxs.2 0 _ v rfl hv
 have other : ∀ y, R w.heap D μ y v -> RL w.heap D μ (y :: xs) vs := fun y hy => ⟨hxs.1, fun i z u hz hu => by
   cases i with
   | zero => cases hz; rw [hv] at hu; cases hu; exact hy
   | succ i => exact hxs.2 (i + 1) z u hz hu⟩
 cases hr with
 | lst0 _ _ a cap hn =>
   cases a with
   | none =>
     have := hn rfl
     subst this
     exact h2 rfl D w μ vs hD (other _ .nils)
   | some a => exact h3 rfl D w μ vs hD (other _ (.emp a cap))
 | lst _ _ _ b o cap ws hD' hc hv' h1' hr' => exact h3 rfl D w μ vs hD (other _ (.emp _ cap))
theorem yjf {α : Type} {V : Vw α} (K : ztj V) {P : Program} {f : FuncId} {id ty n : Nat} {get : Nat -> Nat -> AV} {xs : List AV} {O : List (Nat × Ob)} {r : AV} {O1 : List (Nat × Ob)} (ho : okW V (.lst V.sz n get))
   (h : zbf P f xs ((id, .row ty V.sz n (yro std V (rdW V (.lst V.sz n get)))) :: O) r O1) : zbf P f xs ((id, .row ty V.sz n get) :: O) r O1 := by
 intro D w μ vs hD hxs hdom hobs hinj hown hg hgb
 have e1 : ∀ i, za1 ((id, Ob.row ty V.sz n (yro std V (rdW V (.lst V.sz n get)))) :: O) i = none ↔ za1 ((id, Ob.row ty V.sz n get) :: O) i = none := by
   intro i
   simp only [za1]
   cases zai id i <;> simp
 have hcall := h D w μ vs hD hxs (fun i => (hdom i).trans (e1 i).symm) (fun i o x ho1 hx => ?_) hinj hown hg hgb
 · unfold zdi at hcall |-
   have key : ∀ e w', (∃ v D' μ', yk6 D w μ ((id, .row ty V.sz n (yro std V (rdW V (.lst V.sz n get)))) :: O) O1 r e v w' D' μ') -> ∃ v D' μ', yk6 D w μ ((id, .row ty V.sz n get) :: O) O1 r e v w' D' μ' := by
     rintro e w' ⟨v, D', μ', m⟩
     exact ⟨v, D', μ', { m with keep := fun i h1 h2 => m.keep i (fun h3 => h1 ((e1 i).1 h3)) h2 }⟩
   split at hcall
   · exact hcall.mono fun e w' h => key e w' h
   · exact key _ _ hcall
   · exact hcall.elim
 · simp only [za1] at ho1
   by_cases hi : id = i
   · subst hi
     rw [za4] at ho1
     cases ho1
     have := hobs id (.row ty V.sz n get) x (by simp [za1, za4]) hx
     match x, this with
     | some (b, z, m), ⟨r0, c, t, fr, e, r1, r2, r3, r4⟩ =>
       refine ⟨r0, c, t, fr, e, r1, r2, r3, fun i j hi hj => ?_⟩
       obtain ⟨v, v1, v2, v3⟩ := r4 i j hi hj
       refine ⟨v, v1, v2, ?_⟩
       show R w.heap D zap (V.cell std (zj2 V (rdW V (.lst V.sz n get)) i) j) v
       rw [yaj hi]
       exact K.turn _ (ho.2 i hi) j hj _ _ _ _ v3
     | none, h0 => exact h0
   · rw [zah hi] at ho1
     exact hobs i o x (by simp [za1, zah hi, ho1]) hx
def upN (n : Nat) : Prop := n <= 1000000
def ydm (f ty sz : Nat) (L : za7) : zoz := (f, fun raw ob => match raw with
 | [.lst s n get] => match zai s sz with
   | true => some ⟨[.lst sz n get], [], L upN n, .sl 900 sz 0 n, [(900, .row ty sz n get)]⟩
   | false => none
 | _ => none)
theorem ymc (i j k n : Int) : (yjl i j k n = true) = (0 <= i /\ i <= j /\ j <= k /\ k <= n) := by simp [yjl, and_assoc]
theorem yv4 (a : Int) (n : Nat) : gei std (some a) n = a := rfl
theorem yv5 (n : Nat) : gei std none n = (n : Int) := rfl
theorem yqr (a b : Nat) : (zbg a b = true) = (a <= b) := zdc
theorem yqp (a b : Nat) : (zbc a b = true) = (a < b) := zbv
theorem yqs (a b : Nat) : (zbg a b = false) = (b < a) := by simp [zbg]
theorem yqq (a b : Nat) : (zbc a b = false) = (b <= a) := by simp [zbc]
theorem yt1 (a b : Nat) : Nat.add a b = a + b := rfl
theorem ypo (a b : Nat) : Nat.sub a b = a - b := rfl
theorem zzn (c : Bool) (x y : AV) : zm6 c x y = if c = true then x else y := by cases c <;> rfl
theorem zrb (off n e : Nat) : (zdb off n e = true) = (off <= e /\ e < off + n) := by simp [zdb, zbg, zbc]
def yp4 (get : Nat -> Nat -> AV) (i : Nat) : Nat -> Nat -> AV := fun q j => if q < i then get q j else get (q + 1) j
def ysd (n : Nat) (i j : Int) : Prop := n <= 1000000 /\ 0 <= i /\ i < n /\ j = i + 1
def ylh (n : Nat) : Nat := n - 1
def yv9 (f ty sz : Nat) (L : za7) : zoz := (f, fun raw ob => match raw with
 | [.sl a s 0 n, .int .i64 i, .int .i64 j] => match ob a, zai s sz with
   | some (.row _ _ k get), true => some ⟨[.sl 500000 sz 0 n, .int .i64 i, .int .i64 j], [(500000, .row ty sz n get)], L3 L ysd n i j, .sl 900 sz 0 (L ylh n), [(900, .row ty sz (L ylh n) (L2 L yp4 get (L Int.toNat i)))]⟩
   | _, _ => none
 | _ => none)
def fOf (n : Int) : Nat := FloatKind.f64.nearest n
def zvg (n : Nat) : Nat := n * 2 ^ (52 - n.log2)
theorem zl7 {n : Nat} (h0 : 0 < n) (h : n < 2 ^ 53) : 2 ^ 52 <= zvg n /\ zvg n < 2 ^ 53 /\ n.log2 <= 52 := by
 have h1 := Nat.log2_self_le (n := n) (by omega)
 have h2 := Nat.lt_log2_self (n := n)
 have hl : n.log2 <= 52 := by
   have := (Nat.log2_lt (n := n) (k := 53) (by omega)).2 h
   omega
 refine ⟨?_, ?_, hl⟩
 · calc 2 ^ 52 = 2 ^ n.log2 * 2 ^ (52 - n.log2) := by rw [<- Nat.pow_add]; congr 1; omega
     _ <= zvg n := Nat.mul_le_mul_right _ h1
 · calc zvg n < 2 ^ (n.log2 + 1) * 2 ^ (52 - n.log2) := Nat.mul_lt_mul_of_pos_right h2 (Nat.two_pow_pos _)
     _ = 2 ^ 53 := by rw [<- Nat.pow_add]; congr 1; omega
theorem yvb (neg : Bool) (n : Nat) : Ieee.Toward.even.cut neg n 0 = n := by
 unfold Ieee.Toward.cut
 simp [Nat.mod_one]
theorem zvf {n : Nat} (h0 : 0 < n) (h : n < 2 ^ 53) : fOf n = (n.log2 + 1022) * 2 ^ 52 + zvg n := by
 obtain ⟨h1, h2, h3⟩ := zl7 h0 h
 have e1 : fOf n = Ieee.double.nearest (decide ((n : Int) < 0)) n 0 := rfl
 rw [e1, decide_eq_false (by omega)]
 unfold Ieee.Format.nearest
 rw [if_neg (by omega)]
 have hl : max ((0 : Int) + (n.log2 : Int) - ((Ieee.double.fractionBits : Nat) : Int)) Ieee.double.leastPlace = (n.log2 : Int) - 52 := by
   have e1 : Ieee.double.leastPlace = -1074 := by decide
   have e2 : ((Ieee.double.fractionBits : Nat) : Int) = 52 := rfl
   rw [e1, e2]; omega
 simp only [hl]
 rw [show ((n.log2 : Int) - 52 - 0).toNat = 0 by omega, yvb, show ((0 : Int) - ((n.log2 : Int) - 52)).toNat = 52 - n.log2 by omega, Nat.shiftLeft_eq]
 have e3 : ((n.log2 : Int) - 52 - Ieee.double.leastPlace).toNat = n.log2 + 1022 := by
   have e1 : Ieee.double.leastPlace = -1074 := by decide
   rw [e1]; omega
 rw [e3]
 show Ieee.double.word false (min ((n.log2 + 1022) * 2 ^ 52 + zvg n) (2047 * 2 ^ 52)) = _
 rw [Nat.min_eq_left]
 · unfold Ieee.Format.word
   rw [if_neg (by decide)]
 · have h4 : (n.log2 + 1022) * 2 ^ 52 <= 1074 * 2 ^ 52 := Nat.mul_le_mul_right _ (by omega)
   exact Nat.le_trans (Nat.add_le_add h4 (Nat.le_of_lt h2)) (by decide)
theorem zog {n : Nat} (h0 : 0 < n) (h : n < 2 ^ 53) : FloatKind.f64.decode (fOf n) = .number false (zvg n) ((n.log2 : Int) - 52) := by
 obtain ⟨h1, h2, h3⟩ := zl7 h0 h
 have hw := zvf h0 h
 obtain ⟨r, hr⟩ : ∃ r, zvg n = 2 ^ 52 + r /\ r < 2 ^ 52 := ⟨zvg n - 2 ^ 52, by omega, by omega⟩
 have hw2 : fOf n = (n.log2 + 1023) * 2 ^ 52 + r := by rw [hw, hr.1]; omega
 have hb : (n.log2 + 1023) * 2 ^ 52 <= 1075 * 2 ^ 52 := Nat.mul_le_mul_right _ (by omega)
 have hb0 : 1023 * 2 ^ 52 <= (n.log2 + 1023) * 2 ^ 52 := Nat.mul_le_mul_right _ (by omega)
 have hlt : fOf n < 2 ^ 63 := by omega
 show Ieee.double.read (fOf n) = _
 unfold Ieee.Format.read
 have es : Ieee.double.signWeight = 2 ^ 63 := by decide
 have eb : Ieee.double.binade = 2 ^ 52 := by decide
 have ei : Ieee.double.infRung = 2047 * 2 ^ 52 := by decide
 have el : Ieee.double.leastPlace = -1074 := by decide
 simp only [es, eb, ei, el]
 rw [Nat.div_eq_of_lt hlt, Nat.mod_eq_of_lt hlt, if_neg (by omega), if_pos (by omega)]
 have hm : fOf n % 2 ^ 52 = r := by rw [hw2]; omega
 have hd : fOf n / 2 ^ 52 = n.log2 + 1023 := by rw [hw2]; omega
 rw [hm, hd]
 have e2 : ((0 % 2 == 1) : Bool) = false := rfl
 rw [e2, hr.1]
 congr 1
 omega
theorem yrv : FloatKind.f64.decode (fOf 0) = .number false 0 (-1074) := by decide
theorem zhu {a b : Nat} (ha : a < 2 ^ 53) (hb : b < 2 ^ 53) : FloatKind.f64.format.order (fOf a) (fOf b) = some (compare a b) := by
 have key : ∀ n : Nat, n < 2 ^ 53 -> ∃ m i, FloatKind.f64.decode (fOf n) = .number false m i /\ i <= 0 /\ ∀ base : Int, base <= i -> m * 2 ^ (i - base).toNat = n * 2 ^ (-base).toNat := by
   intro n h
   by_cases h0 : n = 0
   · subst h0
     exact ⟨0, -1074, yrv, by decide, fun base hb => by simp⟩
   · obtain ⟨h1, h2, h3⟩ := zl7 (n := n) (by omega) h
     refine ⟨_, _, zog (by omega) h, by omega, fun base hb => ?_⟩
     unfold zvg
     rw [Nat.mul_assoc, <- Nat.pow_add]
     congr 2
     omega
 obtain ⟨m, i, r1, l1, k1⟩ := key a ha
 obtain ⟨m', j, r2, l2, k2⟩ := key b hb
 have e : FloatKind.f64.format.order (fOf a) (fOf b) = (FloatKind.f64.decode (fOf a)).order (FloatKind.f64.decode (fOf b)) := rfl
 rw [e, r1, r2]
 unfold Ieee.Datum.order
 simp only
 have h1 := k1 (min i j) (by omega)
 have h2 := k2 (min i j) (by omega)
 congr 1
 unfold Ieee.signed
 rw [if_neg (by decide), if_neg (by decide), Nat.shiftLeft_eq, Nat.shiftLeft_eq, h1, h2]
 have hp : 0 < 2 ^ (-min i j).toNat := Nat.two_pow_pos _
 rw [show compare ((a * 2 ^ (-min i j).toNat : Nat) : Int) ((b * 2 ^ (-min i j).toNat : Nat) : Int) = compare a b from by
   generalize 2 ^ (-min i j).toNat = p at hp
   rcases Nat.lt_trichotomy a b with h | h | h
   · rw [Nat.compare_eq_lt.2 h]
     have := Nat.mul_lt_mul_of_pos_right h hp
     exact Int.compare_eq_lt.2 (by omega)
   · subst h
     rw [Nat.compare_eq_eq.2 rfl]
     exact Int.compare_eq_eq.2 rfl
   · rw [Nat.compare_eq_gt.2 h]
     have := Nat.mul_lt_mul_of_pos_right h hp
     exact Int.compare_eq_gt.2 (by omega)]
def zl6 (x : Nat) : Nat := FloatKind.f64.encode ((FloatKind.f64.decode x).integral .zero)
theorem zps {n k : Nat} (h : n ≠ 0) : (n * 2 ^ k).log2 = n.log2 + k := by
 have h1 := Nat.log2_self_le h
 have h2 := Nat.lt_log2_self (n := n)
 have hp : 0 < 2 ^ k := Nat.two_pow_pos _
 have h0 : n * 2 ^ k ≠ 0 := Nat.mul_ne_zero h (by omega)
 apply Nat.le_antisymm
 · have : (n * 2 ^ k).log2 < n.log2 + k + 1 := (Nat.log2_lt h0).2 (by
     calc n * 2 ^ k < 2 ^ (n.log2 + 1) * 2 ^ k := Nat.mul_lt_mul_of_pos_right h2 hp
       _ = 2 ^ (n.log2 + k + 1) := by rw [<- Nat.pow_add]; congr 1; omega)
   omega
 · exact (Nat.le_log2 h0).2 (by
     calc 2 ^ (n.log2 + k) = 2 ^ n.log2 * 2 ^ k := Nat.pow_add ..
       _ <= n * 2 ^ k := Nat.mul_le_mul_right _ h1)
theorem ycv {n : Nat} (h : n < 2 ^ 53) : zl6 (fOf n) = fOf n := by
 by_cases h0 : n = 0
 · subst h0; decide
 · obtain ⟨h1, h2, h3⟩ := zl7 (n := n) (by omega) h
   unfold zl6
   rw [zog (by omega) h]
   have e : (Ieee.Datum.number false (zvg n) ((n.log2 : Int) - 52)).integral .zero = .number false n 0 := by
     unfold Ieee.Datum.integral
     simp only
     congr 1
     rw [show ((n.log2 : Int) - 52).toNat = 0 by omega, show (-((n.log2 : Int) - 52)).toNat = 52 - n.log2 by omega, Nat.shiftLeft_eq, Nat.pow_zero, Nat.mul_one]
     unfold Ieee.Toward.cut
     simp only
     have hm : (zvg n).log2 = 52 := by
       unfold zvg
       rw [zps h0]; omega
     rw [hm, Nat.min_eq_left (by omega), Nat.shiftLeft_eq, Nat.one_mul]
     unfold zvg
     rw [Nat.mul_div_cancel _ (Nat.two_pow_pos _)]
     rfl
   rw [e]
   unfold fOf FloatKind.nearest
   rw [decide_eq_false (by omega)]
   rfl
theorem yjs {n : Nat} (h : n < 2 ^ 53) : fOf n < 2 ^ 63 := by
 by_cases h0 : n = 0
 · subst h0; decide
 · obtain ⟨h1, h2, h3⟩ := zl7 (n := n) (by omega) h
   rw [zvf (by omega) h]
   have hb : (n.log2 + 1022) * 2 ^ 52 <= 1074 * 2 ^ 52 := Nat.mul_le_mul_right _ (by omega)
   exact Nat.lt_of_le_of_lt (Nat.add_le_add hb (Nat.le_of_lt h2)) (by decide)
def zxw (b : Nat) : Prop := ∃ n : Nat, n < 2 ^ 53 /\ b = fOf n
def yii (L : za7) : zbh := (98, fun xs => match xs with
 | [.flt .f64 b] => some (L zxw b, .flt .f64 (L zl6 b))
 | _ => none)
theorem yij : zaz Tryz.prog (yii std) := by
 intro xs p r h hp
 dsimp only [yii] at h
 split at h
 rotate_left
 · cases h
 rename_i b
 cases h
 have h1 : Tryz.prog.funcs[98]? = some Tryz.f98 := rfl
 have h2 : (Tryz.f98.name == "runtime.NumGoroutine") = false := by kernel_rfl
 have h3 : Tryz.f98.body.isNone = true := by kernel_rfl
 have h4 : Extern.findNext Tryz.f98 = none := by kernel_rfl
 have h5 : Extern.find Tryz.f98 = some (Extern.MathFloor.toIntegral "math.archTrunc" .zero) := by kernel_rfl
 intro D w vs hD hxs hgo
 obtain ⟨v, hv⟩ : ∃ v, vs.toList = [v] := by
   have hl : vs.toList.length = 1 := by simpa using hxs.1.symm
   match vs.toList, hl with
   | [a], _ => exact ⟨a, rfl⟩
 have : vs = #[v] := by rw [<- Array.toArray_toList (xs := vs), hv]
 subst this
 obtain ⟨n, hn, rfl⟩ : zxw b := hp
 have r1 : R w.heap D zap (.flt .f64 (fOf n)) v := hxs.2 0 _ v rfl rfl
 have := r1.inv_flt; subst this
 have key : (Extern.MathFloor.toIntegral "math.archTrunc" .zero #[.float .f64 (fOf n)]).run Tryz.prog w = .ok (.float .f64 (zl6 (fOf n))) w := by
   have hd : ∃ m i, FloatKind.f64.decode (fOf n) = .number false m i := by
     by_cases h0 : n = 0
     · subst h0; exact ⟨_, _, yrv⟩
     · exact ⟨_, _, zog (by omega) hn⟩
   obtain ⟨m, i, hd⟩ := hd
   have key0 : ∀ x, ∃ a b, Extern.MathFloor.toIntegral "math.archTrunc" .zero #[.float .f64 x] = Extern.MathFloor.toIntegral.match_1 (fun _ => Sem Value) (FloatKind.f64.decode x) a b /\ ∀ d, b d = pure (.float .f64 (FloatKind.f64.encode (d.integral .zero))) := fun x => ⟨_, _, rfl, fun _ => rfl⟩
   obtain ⟨a, b, e1, e2⟩ := key0 (fOf n)
   unfold zl6
   rw [e1, hd]
   show Sem.run _ (b (.number false m i)) w = _
   rw [e2]
   rfl
 unfold zdi
 rw [show (yii std).fst = 98 from rfl, run_callFunc_extern h1 h2 h3 h4 h5, key]
 exact ⟨_, D, rfl, Below.refl _ _, fun _ h => h, fun b hb => .inl hb, .flt _ _⟩
def yna (b : Nat) : Int := b
def zl5 (L : za7) : zbh := (101, fun xs => match xs with
 | [.flt .f64 b] => some (True, .int .u64 (L yna b))
 | _ => none)
theorem zmx : zaz Tryz.prog (zl5 std) := by
 intro xs p r h hp
 dsimp only [zl5] at h
 split at h
 rotate_left
 · cases h
 rename_i b
 cases h
 have h1 : Tryz.prog.funcs[101]? = some Tryz.f101 := rfl
 have h2 : (Tryz.f101.name == "runtime.NumGoroutine") = false := by kernel_rfl
 have h3 : Tryz.f101.body.isNone = true := by kernel_rfl
 have h4 : Extern.findNext Tryz.f101 = none := by kernel_rfl
 have h5 : Extern.find Tryz.f101 = some Extern.MathFloatBits.float64bits := by kernel_rfl
 intro D w vs hD hxs hgo
 obtain ⟨v, hv⟩ : ∃ v, vs.toList = [v] := by
   have hl : vs.toList.length = 1 := by simpa using hxs.1.symm
   match vs.toList, hl with
   | [a], _ => exact ⟨a, rfl⟩
 have : vs = #[v] := by rw [<- Array.toArray_toList (xs := vs), hv]
 subst this
 have r1 : R w.heap D zap (.flt .f64 b) v := hxs.2 0 _ v rfl rfl
 have := r1.inv_flt; subst this
 have key : (Extern.MathFloatBits.float64bits #[.float .f64 b]).run Tryz.prog w = .ok (.int .u64 (yna b)) w := rfl
 unfold zdi
 rw [show (zl5 std).fst = 101 from rfl, run_callFunc_extern h1 h2 h3 h4 h5, key]
 exact ⟨_, D, rfl, Below.refl _ _, fun _ h => h, fun b hb => .inl hb, .int _ _⟩
def zof (L : za7) : zbh := (100, fun xs => match xs with
 | [.int .u64 b] => some (True, .flt .f64 (L Int.toNat b))
 | _ => none)
theorem zxv : zaz Tryz.prog (zof std) := by
 intro xs p r h hp
 dsimp only [zof] at h
 split at h
 rotate_left
 · cases h
 rename_i b
 cases h
 have h1 : Tryz.prog.funcs[100]? = some Tryz.f100 := rfl
 have h2 : (Tryz.f100.name == "runtime.NumGoroutine") = false := by kernel_rfl
 have h3 : Tryz.f100.body.isNone = true := by kernel_rfl
 have h4 : Extern.findNext Tryz.f100 = none := by kernel_rfl
 have h5 : Extern.find Tryz.f100 = some Extern.MathFloatBits.float64frombits := by kernel_rfl
 intro D w vs hD hxs hgo
 obtain ⟨v, hv⟩ : ∃ v, vs.toList = [v] := by
   have hl : vs.toList.length = 1 := by simpa using hxs.1.symm
   match vs.toList, hl with
   | [a], _ => exact ⟨a, rfl⟩
 have : vs = #[v] := by rw [<- Array.toArray_toList (xs := vs), hv]
 subst this
 have r1 : R w.heap D zap (.int .u64 b) v := hxs.2 0 _ v rfl rfl
 have := r1.inv_int; subst this
 have key : (Extern.MathFloatBits.float64frombits #[.int .u64 b]).run Tryz.prog w = .ok (.float .f64 b.toNat) w := rfl
 unfold zdi
 rw [show (zof std).fst = 100 from rfl, run_callFunc_extern h1 h2 h3 h4 h5, key]
 exact ⟨_, D, rfl, Below.refl _ _, fun _ h => h, fun b hb => .inl hb, .flt _ _⟩
theorem zvh {n : Nat} (h : n < 2 ^ 53) : fEq .f64 (fOf n) (fOf n) = true := by
 unfold fEq yn6
 rw [zhu h h, Nat.compare_eq_eq.2 rfl]; rfl
theorem yjt {a b : Nat} (ha : a < 2 ^ 53) (hb : b < 2 ^ 53) : fLt .f64 (fOf a) (fOf b) = decide (a < b) := by
 unfold fLt yn6
 rw [zhu ha hb]
 rcases Nat.lt_trichotomy a b with h | h | h
 · rw [Nat.compare_eq_lt.2 h, decide_eq_true h]; rfl
 · rw [Nat.compare_eq_eq.2 h, decide_eq_false (by omega)]; rfl
 · rw [Nat.compare_eq_gt.2 h, decide_eq_false (by omega)]; rfl
theorem yry {a b : Nat} (ha : a < 2 ^ 53) (hb : b < 2 ^ 53) : fGt .f64 (fOf a) (fOf b) = decide (b < a) := by
 unfold fGt yn6
 rw [zhu ha hb]
 rcases Nat.lt_trichotomy a b with h | h | h
 · rw [Nat.compare_eq_lt.2 h, decide_eq_false (by omega)]; rfl
 · rw [Nat.compare_eq_eq.2 h, decide_eq_false (by omega)]; rfl
 · rw [Nat.compare_eq_gt.2 h, decide_eq_true h]; rfl
theorem ycw {a b : Nat} (ha : a < 2 ^ 53) (hb : b < 2 ^ 53) : fEq .f64 (fOf a) (fOf b) = decide (a = b) := by
 unfold fEq yn6
 rw [zhu ha hb]
 rcases Nat.lt_trichotomy a b with h | h | h
 · rw [Nat.compare_eq_lt.2 h, decide_eq_false (by omega)]; rfl
 · rw [Nat.compare_eq_eq.2 h, decide_eq_true h]; rfl
 · rw [Nat.compare_eq_gt.2 h, decide_eq_false (by omega)]; rfl
theorem yrx {a b : Nat} (ha : a < 2 ^ 53) (hb : b < 2 ^ 53) : fLe .f64 (fOf a) (fOf b) = decide (a <= b) := by
 unfold fLe
 rw [yjt ha hb, ycw ha hb]
 by_cases h : a <= b
 · rw [decide_eq_true h]
   by_cases h2 : a < b
   · rw [decide_eq_true h2]; rfl
   · rw [decide_eq_true (show a = b by omega), Bool.or_true]
 · rw [decide_eq_false h, decide_eq_false (by omega), decide_eq_false (by omega)]; rfl
theorem yed {b : Nat} (h : b < 2 ^ 63) : yee .u64 (yna b) 9223372036854775808 = (b : Int) := by
 unfold yee yna
 have e1 : (BitVec.ofInt IntKind.u64.bits (b : Int)).toNat = b := by
   rw [show IntKind.u64.bits = 64 from rfl]
   simp only [BitVec.toNat_ofInt]
   omega
 have e2 : (~~~(BitVec.ofInt IntKind.u64.bits 9223372036854775808)).toNat = 2 ^ 63 - 1 := by decide
 rw [BitVec.toNat_and, e1, e2, Nat.and_two_pow_sub_one_of_lt_two_pow h, ypf]
 omega
def ymx (L : za7) : zbh := (75, fun xs => match xs with
 | [.flt .f64 b] => some (L zxw b, .flt .f64 (L zl6 b))
 | _ => none)
theorem yhl : zaz Tryz.prog (ymx std) := by
 intro xs p r h hp
 dsimp only [ymx] at h |-
 split at h <;> cases h
 try simp only [L2, L3, std] at hp |-
 rename_i b
 refine za5 (T := tt) (S := fun L => zak [yii L]) (lo := noA) (lb := noA) 5 (fn := Tryz.f75) rfl rfl (by kernel_rfl) (by kernel_rfl) rfl zaa (za2 ⟨yij, trivial⟩) (by kernel_rfl) ?_
 intro L P' Q' hL hP hQ
 (cbv; try simp only [syT, true_and, and_true])
 subst hL; subst hQ
 exact ⟨hp, by rw [zhs]; rfl⟩
def yn5 (L : za7) : zbh := (76, fun xs => match xs with
 | [.flt .f64 b] => some (L zxw b, .flt .f64 b)
 | _ => none)
theorem yhw : zaz Tryz.prog (yn5 std) := by
 intro xs p r h hp
 dsimp only [yn5] at h |-
 split at h <;> cases h
 try simp only [L2, L3, std] at hp |-
 rename_i b
 refine za5 (T := tt) (S := fun L => zak [zl5 L, zof L]) (lo := noA) (lb := noA) 5 (fn := Tryz.f76) rfl rfl (by kernel_rfl) (by kernel_rfl) rfl zaa (za2 ⟨zmx, zxv, trivial⟩) (by kernel_rfl) ?_
 intro L P' Q' hL hP hQ
 (cbv; try simp only [syT, true_and, and_true])
 subst hL; subst hQ
 obtain ⟨n, hn, rfl⟩ : zxw b := hp
 rw [zhs]
 show Int.toNat (yee .u64 (yna (fOf n)) 9223372036854775808) = fOf n
 rw [yed (yjs hn), Int.toNat_natCast]
def ymy (L : za7) : zbh := (77, fun xs => match xs with
 | [.flt .f64 b] => some (L zxw b, .bool false)
 | _ => none)
theorem yhm : zaz Tryz.prog (ymy std) := by
 intro xs p r h hp
 dsimp only [ymy] at h |-
 split at h <;> cases h
 try simp only [L2, L3, std] at hp |-
 rename_i b
 refine za5 (T := tt) (S := fun L => zak [zl5 L]) (lo := noA) (lb := noA) 5 (fn := Tryz.f77) rfl rfl (by kernel_rfl) (by kernel_rfl) rfl zaa (za2 ⟨zmx, trivial⟩) (by kernel_rfl) ?_
 intro L P' Q' hL hP hQ
 (cbv; try simp only [syT, true_and, and_true])
 subst hL; subst hQ
 obtain ⟨n, hn, rfl⟩ : zxw b := hp
 have := yjs hn
 rw [zae]
 show ilt (IntKind.i64.wrap (yna (fOf n))) 0 = false
 rw [zkx, zi5]
 unfold yna
 omega
def yp1 (b : Nat) : Prop := ∃ n : Nat, n <= 2 ^ 40 /\ b = fOf n
def ymw (L : za7) : zbh := (60, fun xs => match xs with
 | [.flt .f64 b] => some (L yp1 b, .bool true)
 | _ => none)
theorem yhk : zaz Tryz.prog (ymw std) := by
 intro xs p r h hp
 dsimp only [ymw] at h |-
 split at h <;> cases h
 try simp only [L2, L3, std] at hp |-
 rename_i b
 refine za5 (T := tt) (S := fun L => zak [ymx L, yn5 L, ymy L]) (lo := noA) (lb := noA) 5 (fn := Tryz.f60) rfl rfl (by kernel_rfl) (by kernel_rfl) rfl zaa (za2 ⟨yhl, yhw, yhm, trivial⟩) (by kernel_rfl) ?_
 intro L P' Q' hL hP hQ
 (cbv; try simp only [syT, true_and, and_true])
 subst hL; subst hQ
 obtain ⟨n, hn, rfl⟩ : yp1 b := hp
 have hn53 : n < 2 ^ 53 := Nat.lt_of_le_of_lt hn (by decide)
 have hN : zxw (fOf n) := ⟨n, hn53, rfl⟩
 have e1 : fEq .f64 (fOf n) (zl6 (fOf n)) = true := by rw [ycv hn53]; exact zvh hn53
 have e2 : fLe .f64 (fOf n) 4787326403894837248 = true := by
   have := yrx (a := n) (b := 2 ^ 40) hn53 (by decide)
   rw [decide_eq_true hn] at this
   exact this
 refine ⟨hN, fun _ => ⟨hN, fun _ => ⟨fun _ => ⟨hN, ?_⟩, fun _ => ?_⟩, fun h => ?_⟩, fun h => ?_⟩
 · rw [zae]; rfl
 · rw [zae]; rfl
 · exact absurd (e2.symm.trans h) (by decide)
 · exact absurd (e1.symm.trans h) (by decide)
theorem zjm {b : Nat} (h : yp1 b) : zxw b := by
 obtain ⟨n, hn, rfl⟩ := h
 exact ⟨n, Nat.lt_of_le_of_lt hn (by decide), rfl⟩
def ycu (a b : Nat) : Prop := yp1 a /\ yp1 b
def yar (L : za7) : zbh := (41, fun xs => match xs with
 | [.cpx .f64 a b] => some (L2 L ycu a b, .bool true)
 | _ => none)
theorem znn : zaz Tryz.prog (yar std) := by
 intro xs p r h hp
 dsimp only [yar] at h |-
 split at h <;> cases h
 try simp only [L2, L3, std] at hp |-
 rename_i a b
 refine za5 (T := tt) (S := fun L => zak [ymw L]) (lo := noA) (lb := noA) 5 (fn := Tryz.f41) rfl rfl (by kernel_rfl) (by kernel_rfl) rfl zaa (za2 ⟨yhk, trivial⟩) (by kernel_rfl) ?_
 intro L P' Q' hL hP hQ
 (cbv; try simp only [syT, true_and, and_true])
 subst hL; subst hQ
 obtain ⟨h1, h2⟩ : ycu a b := hp
 exact ⟨h1, fun _ => ⟨h2, by rw [zae]⟩, fun h => by cases h⟩
def zue (a b : Int) : Prop := 0 <= a /\ a <= 1099511627776 /\ 0 <= b /\ b <= 1099511627776
def yg2 (L : za7) : zbh := (32, fun xs => match xs with
 | [.int .i64 a, .int .i64 b] => some (L2 L zue a b, .tup [.cpx .f64 (L fOf a) (L fOf b), .int .i64 0])
 | _ => none)
theorem zu6 : zaz Tryz.prog (yg2 std) := by
 intro xs p r h hp
 dsimp only [yg2] at h |-
 split at h <;> cases h
 try simp only [L2, L3, std] at hp |-
 rename_i a b
 refine za5 (T := tt) (S := noS) (lo := noA) (lb := noA) 5 (fn := Tryz.f32) rfl rfl (by kernel_rfl) (by kernel_rfl) rfl zaa (zbx _) (by kernel_rfl) ?_
 intro L P' Q' hL hP hQ
 (cbv; try simp only [syT, true_and, and_true])
 subst hL; subst hQ
 obtain ⟨h1, h2, h3, h4⟩ : zue a b := hp
 refine ⟨fun h => ?_, fun _ => ⟨fun h => ?_, fun _ => ?_⟩⟩
 · have h : ilt 1099511627776 (yra a b) = true := h
   rw [zq3, yc6] at h
   omega
 · have h : ilt (yuw a b) (-1099511627776) = true := h
   rw [zq3, yc5] at h
   omega
 · rw [zob, zev, zev, zl3, zqf, zl4]
   exact ⟨⟨rfl, rfl⟩, rfl, trivial⟩
def yrw (a b : Nat) : Prop := zxw a /\ zxw b
def ycy (a b : Nat) : Int := if fLt .f64 a b = true then -1 else if fGt .f64 a b = true then 1 else 0
def ymz (L : za7) : zbh := (61, fun xs => match xs with
 | [.flt .f64 a] => some (L zxw a, .bool false)
 | _ => none)
theorem yhn : zaz Tryz.prog (ymz std) := by
 intro xs p r h hp
 dsimp only [ymz] at h |-
 split at h <;> cases h
 try simp only [L2, L3, std] at hp |-
 rename_i a
 refine za5 (T := tt) (S := noS) (lo := noA) (lb := noA) 5 (fn := Tryz.f61) rfl rfl (by kernel_rfl) (by kernel_rfl) rfl zaa (zbx _) (by kernel_rfl) ?_
 intro L P' Q' hL hP hQ
 (cbv; try simp only [syT, true_and, and_true])
 subst hL; subst hQ
 obtain ⟨n, hn, rfl⟩ : zxw a := hp
 rw [zae]
 show (!(fEq .f64 (fOf n) (fOf n))) = false
 rw [zvh hn]; rfl
def yn4 (L : za7) : zbh := (42, fun xs => match xs with
 | [.flt .f64 a, .flt .f64 b] => some (L2 L yrw a b, .int .i64 (L2 L ycy a b))
 | _ => none)
theorem yhv : zaz Tryz.prog (yn4 std) := by
 intro xs p r h hp
 dsimp only [yn4] at h |-
 split at h <;> cases h
 try simp only [L2, L3, std] at hp |-
 rename_i a b
 refine za5 (T := tt) (S := fun L => zak [ymz L]) (lo := noA) (lb := noA) 5 (fn := Tryz.f42) rfl rfl (by kernel_rfl) (by kernel_rfl) rfl zaa (za2 ⟨yhn, trivial⟩) (by kernel_rfl) ?_
 intro L P' Q' hL hP hQ
 (cbv; try simp only [syT, true_and, and_true])
 subst hL; subst hQ
 obtain ⟨h1, h2⟩ : yrw a b := hp
 refine ⟨h1, h2, fun h => (by cases h), fun _ => ⟨fun h => (by cases h), fun _ => ⟨fun h => ?_, fun h => ⟨fun h' => ?_, fun h' => ?_⟩⟩⟩⟩
 · have h : fLt .f64 a b = true := h
   rw [zgf, ycy, if_pos h]
 · have h : fLt .f64 a b = false := h
   have h' : fGt .f64 a b = true := h'
   rw [zgf, ycy, if_neg (by rw [h]; decide), if_pos h']
 · have h : fLt .f64 a b = false := h
   have h' : fGt .f64 a b = false := h'
   rw [zgf, ycy, if_neg (by rw [h]; decide), if_neg (by rw [h']; decide)]
theorem ycx {a b : Nat} (ha : a < 2 ^ 53) (hb : b < 2 ^ 53) : ycy (fOf a) (fOf b) = if a < b then -1 else if b < a then 1 else 0 := by
 unfold ycy
 rw [yjt ha hb, yry ha hb]
 simp only [decide_eq_true_eq]
def cSml (a b c d : Nat) : Prop := ycu a b /\ ycu c d
def yso (a b c d : Nat) : Int := if ycy a c = 0 then ycy b d else ycy a c
def ylm (L : za7) : zbh := (21, fun xs => match xs with
 | [.cpx .f64 a b, .cpx .f64 c d] => some (L (L3 L cSml a b c) d, .int .i64 (L (L3 L yso a b c) d))
 | _ => none)
theorem yg3 : zaz Tryz.prog (ylm std) := by
 intro xs p r h hp
 dsimp only [ylm] at h |-
 split at h <;> cases h
 try simp only [L2, L3, std] at hp |-
 rename_i a b c d
 refine za5 (T := tt) (S := fun L => zak [yar L, yn4 L]) (lo := noA) (lb := noA) 5 (fn := Tryz.f21) rfl rfl (by kernel_rfl) (by kernel_rfl) rfl zaa (za2 ⟨znn, yhv, trivial⟩) (by kernel_rfl) ?_
 intro L P' Q' hL hP hQ
 (cbv; try simp only [syT, true_and, and_true])
 subst hL; subst hQ
 obtain ⟨⟨h1, h2⟩, h3, h4⟩ : cSml a b c d := hp
 have n1 := zjm h1
 have n2 := zjm h2
 have n3 := zjm h3
 have n4 := zjm h4
 refine ⟨⟨h1, h2⟩, fun h => (by cases h), fun _ => ⟨⟨h3, h4⟩, fun h => (by cases h), fun _ => ⟨⟨n1, n3⟩, fun h => ?_, fun h => ⟨⟨n2, n4⟩, ?_⟩⟩⟩⟩
 · have h : ine (ycy a c) 0 = true := h
   rw [ybz] at h
   rw [zgf, yso, if_neg h]; rfl
 · have h : ine (ycy a c) 0 = false := h
   rw [yc0] at h
   rw [zgf, yso, if_pos h]; rfl
def yhg : Nat := 4787326403894837248
def ymq : Nat := 14010698440749613056
def zvc (b : Nat) : Prop := yju .f64 b yhg = true /\ yju .f64 (yn7 .f64 b yhg) ymq = true /\ fIs .add .f64 (yp2 .f64 (yn7 .f64 b yhg) ymq) 0 = true
def ymp (b : Nat) : Nat := yhx .add .f64 (yp2 .f64 (yn7 .f64 b yhg) ymq) 0
def ymo (L : za7) : zbh := (102, fun xs => match xs with
 | [.flt .f64 b] => some (L zvc b, .flt .f64 (L ymp b))
 | _ => none)
theorem yhf : zaz Tryz.prog (ymo std) := by
 intro xs p r h hp
 dsimp only [ymo] at h |-
 split at h <;> cases h
 try simp only [L2, L3, std] at hp |-
 rename_i b
 refine za5 (T := tt) (S := noS) (lo := noA) (lb := noA) 5 (fn := Tryz.f102) rfl rfl (by kernel_rfl) (by kernel_rfl) rfl zaa (zbx _) (by kernel_rfl) ?_
 intro L P' Q' hL hP hQ
 (cbv; try simp only [syT, true_and, and_true])
 subst hL; subst hQ
 obtain ⟨h1, h2, h3⟩ : zvc b := hp
 refine ⟨h1, h2, h3, ?_⟩
 rw [zhs]; rfl
def tdOk (a b : Nat) : Prop := zvc a /\ zvc b
def yki (L : za7) : zbh := (80, fun xs => match xs with
 | [.cpx .f64 a b] => some (L2 L tdOk a b, .cpx .f64 (L ymp a) (L ymp b))
 | _ => none)
theorem yf7 : zaz Tryz.prog (yki std) := by
 intro xs p r h hp
 dsimp only [yki] at h |-
 split at h <;> cases h
 try simp only [L2, L3, std] at hp |-
 rename_i a b
 refine za5 (T := tt) (S := fun L => zak [ymo L]) (lo := noA) (lb := noA) 5 (fn := Tryz.f80) rfl rfl (by kernel_rfl) (by kernel_rfl) rfl zaa (za2 ⟨yhf, trivial⟩) (by kernel_rfl) ?_
 intro L P' Q' hL hP hQ
 (cbv; try simp only [syT, true_and, and_true])
 subst hL; subst hQ
 obtain ⟨h1, h2⟩ : tdOk a b := hp
 refine ⟨h1, h2, ?_⟩
 rw [zgg]; exact ⟨rfl, rfl⟩
def yth (a b : Nat) : Prop := a = fOf 3 /\ b = fOf 4
theorem s34 : ycu (fOf 3) (fOf 4) := ⟨⟨3, by decide, rfl⟩, ⟨4, by decide, rfl⟩⟩
def ykf (L : za7) : zbh := (63, fun xs => match xs with
 | [.cpx .f64 a b, .int .i64 1] => some (L2 L yth a b, .cpx .f64 13839561654909534208 4613937818241073152)
 | _ => none)
theorem yf4 : zaz Tryz.prog (ykf std) := by
 intro xs p r h hp
 dsimp only [ykf] at h |-
 split at h <;> cases h
 try simp only [L2, L3, std] at hp |-
 rename_i a b
 refine za5 (T := tt) (S := fun L => zak [yar L, yki L]) (lo := noA) (lb := noA) 5 (fn := Tryz.f63) rfl rfl (by kernel_rfl) (by kernel_rfl) rfl zaa (za2 ⟨znn, yf7, trivial⟩) (by kernel_rfl) ?_
 intro L P' Q' hL hP hQ
 (cbv; try simp only [syT, true_and, and_true])
 subst hL; subst hQ
 obtain ⟨rfl, rfl⟩ : yth a b := hp
 refine ⟨s34, fun h => (by cases h), fun _ => ⟨fun _ => ⟨fun h => absurd h (by decide +kernel), fun _ => ⟨⟨⟨by decide +kernel, by decide +kernel, by decide +kernel⟩, by decide +kernel, by decide +kernel, by decide +kernel⟩, ?_⟩⟩, fun h => absurd h (by decide +kernel)⟩⟩
 rw [zgg]
 exact ⟨by decide +kernel, by decide +kernel⟩
def ylu (L : za7) : zbh := (64, fun xs => match xs with
 | [.cpx .f64 a b] => some (L2 L yth a b, .flt .f64 4627730092099895296)
 | _ => none)
theorem ygc : zaz Tryz.prog (ylu std) := by
 intro xs p r h hp
 dsimp only [ylu] at h |-
 split at h <;> cases h
 try simp only [L2, L3, std] at hp |-
 rename_i a b
 refine za5 (T := tt) (S := fun L => zak [yar L]) (lo := noA) (lb := noA) 5 (fn := Tryz.f64) rfl rfl (by kernel_rfl) (by kernel_rfl) rfl zaa (za2 ⟨znn, trivial⟩) (by kernel_rfl) ?_
 intro L P' Q' hL hP hQ
 (cbv; try simp only [syT, true_and, and_true])
 subst hL; subst hQ
 obtain ⟨rfl, rfl⟩ : yth a b := hp
 refine ⟨s34, fun h => (by cases h), fun _ => ⟨by decide +kernel, by decide +kernel, by decide +kernel, ?_⟩⟩
 rw [zhs]
 decide +kernel
theorem zya : za9 Tryz.prog 44 [] (.bool true) := by
 refine za5 (T := tt) (S := fun L => zak [yg2 L, ykf L, ylu L]) (lo := noA) (lb := noA) 5 (fn := Tryz.f44) rfl rfl (by kernel_rfl) (by kernel_rfl) rfl zaa (za2 ⟨zu6, yf4, ygc, trivial⟩) (by kernel_rfl) ?_
 intro L P' Q' hL hP hQ
 (cbv; try simp only [syT, true_and, and_true])
 subst hL; subst hQ
 refine ⟨⟨by decide, by decide, by decide, by decide⟩, fun _ => ⟨⟨rfl, rfl⟩, fun _ => ⟨⟨rfl, rfl⟩, ?_⟩, fun h => absurd h (by decide +kernel)⟩, fun h => absurd h (by decide +kernel)⟩
 rw [zae]
 decide +kernel
theorem ztg : za9 Tryz.prog 23 [] (.bool true) := by
 refine za5 (T := tt) (S := fun L => zak [tru 44]) (lo := noA) (lb := noA) 5 (fn := Tryz.f23) rfl rfl (by kernel_rfl) (by kernel_rfl) rfl zaa (za2 ⟨zbw zya, trivial⟩) (by kernel_rfl) ?_
 intro L P' Q' hL hP hQ
 (cbv; try simp only [syT, true_and, and_true])
 subst hL; subst hQ
 rw [zae]
end Sy
end Go.Proofs.YtogpolfhcbgcbaaGreatDoor
