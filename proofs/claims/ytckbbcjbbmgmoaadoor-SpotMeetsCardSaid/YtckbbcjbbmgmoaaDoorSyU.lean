/- The symbolic executor: at this seat's program. -/
import Derived.Test.YtckbbcjbbmgmoaaDoorSyX
import Derived.Test.YtckbbcjbbmgmoaaDoorSyMs
namespace Go.Proofs.YtckbbcjbbmgmoaaDoor
namespace Sy
open Go Go.RowKit
set_option maxRecDepth 100000
set_option linter.unusedSimpArgs false

section
variable {P : Program} {Q : AV → Prop}
theorem sat_need {b : Bool} {k : Tree} : Sat P Q (.need b k) ↔ b = true ∧ Sat P Q k := ⟨fun h => by cases h with | need h hk => exact ⟨h, hk⟩, fun h => .need h.1 h.2⟩
theorem sat_must {p : Prop} {k : Tree} : Sat P Q (.must p k) ↔ p ∧ Sat P Q k := ⟨fun h => by cases h with | must h hk => exact ⟨h, hk⟩, fun h => .must h.1 h.2⟩
theorem sat_ite {b : Bool} {t e : Tree} : Sat P Q (.ite b t e) ↔ (b = true → Sat P Q t) ∧ (b = false → Sat P Q e) := ⟨fun h => by cases h with | ite h hk => exact ⟨h, hk⟩, fun h => .ite h.1 h.2⟩
theorem sat_done {r : AV} : Sat P Q (.done r) ↔ Q r := ⟨fun h => by cases h with | done h => exact h, fun h => .done h⟩
theorem sat_yes : Sat P Q .yes ↔ True := ⟨fun _ => trivial, fun _ => .yes⟩
theorem sat_ex {X : Type} {f : X → Tree} : Sat P Q (.ex X f) ↔ ∃ x, Sat P Q (f x) := ⟨fun h => by cases h with | ex x h => exact ⟨x, h⟩, fun ⟨x, h⟩ => .ex x h⟩
theorem sat_all {X : Type} {f : X → Tree} : Sat P Q (.all X f) ↔ ∀ x, Sat P Q (f x) := ⟨fun h => by cases h with | all h => exact h, fun h => .all h⟩
theorem sat_sup {p : Prop} {k : Tree} : Sat P Q (.sup p k) ↔ (p → Sat P Q k) := ⟨fun h => by cases h with | sup h => exact h, fun h => .sup h⟩
theorem sat_and {a b : Tree} : Sat P Q (.and a b) ↔ Sat P Q a ∧ Sat P Q b := ⟨fun h => by cases h with | and h hk => exact ⟨h, hk⟩, fun h => .and h.1 h.2⟩
theorem sat_fail {n : Nat} : Sat P Q (.fail n) ↔ False := ⟨fun h => (by cases h), fun h => h.elim⟩
end

/-- A function's answer, the leaf operations sealed. -/
theorem acalls_L {P : Program} {T : TT} {S : Seal → Sums} {lo lb : Seal → Nat → St → Option Ann} (n : Nat) {f : FuncId} {fn : Func} {c : Code} {xs : List AV} {r : AV} (hf : P.funcs[f]? = some fn) (hb : fn.body = some c) (hn : (fn.name == "runtime.NumGoroutine") = false)
    (hc : codeOk fn.ntmps c = true) (hx : (nble xs.length fn.ntmps && nble fn.ntmps 500000) = true) (hT : TsOk P T) (hS : SumsOk P (S std)) (hm : P.follows .mixedOrders = true)
    (h : ∀ (L : Seal) (P' : Program) (Q' : AV → Prop), @L = @std → P' = P → Q' = fits r → Sat P' Q' (runF T L (S L) (lo L) (lb L) n fn xs)) : ACalls P f xs r :=
  acalls_of (lo := lo std) (lb := lb std) hf hb hn hc hx hT hS hm (h std _ _ rfl rfl rfl)

/-- The same, the arguments sealed too. -/
theorem acalls_L' {P : Program} {T : TT} {S : Seal → Sums} {lo lb : Seal → Nat → St → Option Ann} (n : Nat) {f : FuncId} {fn : Func} {c : Code} {xs : Seal → List AV} {r : AV} (hf : P.funcs[f]? = some fn) (hb : fn.body = some c) (hn : (fn.name == "runtime.NumGoroutine") = false)
    (hc : codeOk fn.ntmps c = true) (hx : (nble (xs std).length fn.ntmps && nble fn.ntmps 500000) = true) (hT : TsOk P T) (hS : SumsOk P (S std)) (hm : P.follows .mixedOrders = true)
    (h : ∀ (L : Seal) (P' : Program) (Q' : AV → Prop), @L = @std → P' = P → Q' = fits r → Sat P' Q' (runF T L (S L) (lo L) (lb L) n fn (xs L))) : ACalls P f (xs std) r :=
  acalls_of (lo := lo std) (lb := lb std) hf hb hn hc hx hT hS hm (h std _ _ rfl rfl rfl)

/-- The same of a function that turns its caller's blocks. -/
theorem mcalls_L {P : Program} {T : TT} {S : Seal → Sums} {lo lb : Seal → Nat → St → Option Ann} (n : Nat) {f : FuncId} {fn : Func} {c : Code} {xs rts : Seal → List AV} {O O1 : Seal → List (Nat × Ob)} (hf : P.funcs[f]? = some fn) (hb : fn.body = some c) (hn : (fn.name == "runtime.NumGoroutine") = false)
    (hc : codeOk fn.ntmps c = true) (hx : (nble (xs std).length fn.ntmps && nble fn.ntmps 500000 && nble fn.results.size 500000 && allPin (O std)) = true) (hT : TsOk P T) (hS : SumsOk P (S std)) (hm : P.follows .mixedOrders = true)
    (h : ∀ (L : Seal) (P' : Program) (Q' : AV → Prop), @L = @std → P' = P → Q' = (fun _ => True) → Sat P' Q' (runM T L (S L) (lo L) (lb L) n fn (xs L) (O L) (rts L) (O1 L))) : MCalls P f (xs std) (O std) (resOf (rts std)) (O1 std) :=
  mcalls_of (lo := lo std) (lb := lb std) hf hb hn hc hx hT hS hm (h std _ _ rfl rfl rfl)

def noS : Seal → Sums := fun _ => ⟨fun _ _ => none, fun _ => none⟩
theorem noS_ok (P : Program) : SumsOk P (noS std) := ⟨fun f xs p r h => by (cases h), fun f m h => by cases h⟩
def noA : Seal → Nat → St → Option Ann := fun _ _ _ => none

def tt : TT :=
 (.node (.node (.node (.node (.node (.node (.node .leaf 1 ⟨1, false, [.nilf], .func, false, none, false, false⟩
       .leaf) 2 ⟨1, false, [.int .i64 0], .int .i64, false, none, false, false⟩
      (.node .leaf 3 ⟨1, false, [.int .i64 0], .int .i64, false, none, false, false⟩
       .leaf)) 4 ⟨1, false, [.bool false], .bool, false, none, false, false⟩
     (.node (.node .leaf 5 ⟨1, false, [.int .u8 0], .int .u8, false, none, false, false⟩
       .leaf) 6 ⟨1, false, [.int .u8 0], .int .u8, false, none, false, false⟩
      (.node .leaf 7 ⟨4, true, [.int .i64 0, .int .i64 0, .bool false, .int .u8 0], .struct [(0, 2), (1, 3), (2, 4), (3, 6)], true, none, false, false⟩
       .leaf))) 8 ⟨4, true, [.int .i64 0, .int .i64 0, .bool false, .int .u8 0], .struct [(0, 2), (1, 3), (2, 4), (3, 6)], true, none, false, false⟩
    (.node (.node (.node .leaf 9 ⟨1, false, [.str []], .str, false, none, false, false⟩
       .leaf) 10 ⟨1, false, [.str []], .str, false, none, false, false⟩
      (.node .leaf 11 ⟨1, false, [.str []], .str, false, none, false, false⟩
       .leaf)) 12 ⟨1, false, [.int .u64 0], .int .u64, false, none, false, false⟩
     (.node (.node .leaf 13 ⟨2, true, [.str [], .int .u64 0], .struct [(0, 9), (1, 12)], false, none, false, false⟩
       .leaf) 14 ⟨2, true, [.str [], .int .u64 0], .struct [(0, 9), (1, 12)], false, none, false, false⟩
      .leaf))) 15 ⟨1, false, [.nilp], .ptr, false, some 116, false, false⟩
   (.node (.node (.node (.node .leaf 16 ⟨1, false, [.nilp], .ptr, false, some 119, false, false⟩
       .leaf) 17 ⟨1, false, [.nilp], .ptr, false, some 127, false, false⟩
      (.node .leaf 18 ⟨1, true, [.nilp], .struct [(0, 17)], false, none, false, false⟩
       .leaf)) 19 ⟨1, true, [.nilp], .struct [(0, 17)], false, none, false, false⟩
     (.node (.node .leaf 20 ⟨1, false, [.nili], .iface, false, none, false, false⟩
       .leaf) 21 ⟨1, false, [.int .i32 0], .int .i32, false, none, false, false⟩
      (.node .leaf 22 ⟨4, true, [.int .u8 0, .int .u8 0, .int .u8 0, .int .u8 0], .arr 4 5 1, true, none, false, false⟩
       .leaf))) 23 ⟨1, false, [.int .u16 0], .int .u16, false, none, false, false⟩
    (.node (.node (.node .leaf 24 ⟨5, true, [.int .u8 0, .int .u8 0, .int .u8 0, .int .u8 0, .int .u16 0], .struct [(0, 22), (4, 23)], true, none, false, false⟩
       .leaf) 25 ⟨5, true, [.int .u8 0, .int .u8 0, .int .u8 0, .int .u8 0, .int .u16 0], .struct [(0, 22), (4, 23)], true, none, false, false⟩
      (.node .leaf 26 ⟨1, false, [.nilf], .func, false, none, false, false⟩
       .leaf)) 27 ⟨1, false, [.nilf], .func, false, none, false, false⟩
     (.node (.node .leaf 28 ⟨1, false, [.nilf], .func, false, none, false, false⟩
       .leaf) 29 ⟨1, false, [.nilf], .func, false, none, false, false⟩
      .leaf)))) 30 ⟨1, false, [.nilf], .func, false, none, false, false⟩
  (.node (.node (.node (.node (.node .leaf 31 ⟨1, false, [.int .i64 0], .int .i64, false, none, false, false⟩
       .leaf) 33 ⟨1, false, [.nilf], .func, false, none, false, false⟩
      (.node .leaf 34 ⟨5, true, [.int .u8 0, .int .u8 0, .int .u8 0, .int .u8 0, .int .u16 0], .struct [(0, 22), (4, 23)], true, none, false, false⟩
       .leaf)) 36 ⟨1, false, [.nilf], .func, false, none, false, false⟩
     (.node (.node .leaf 37 ⟨1, false, [.nilf], .func, false, none, false, false⟩
       .leaf) 38 ⟨1, false, [.nilf], .func, false, none, false, false⟩
      (.node .leaf 39 ⟨1, false, [.nilf], .func, false, none, false, false⟩
       .leaf))) 40 ⟨1, false, [.nilf], .func, false, none, false, false⟩
    (.node (.node (.node .leaf 41 ⟨1, false, [.nilf], .func, false, none, false, false⟩
       .leaf) 42 ⟨1, false, [.nils], .slice 5 1 1, false, none, false, false⟩
      (.node .leaf 43 ⟨1, false, [.nilf], .func, false, none, false, false⟩
       .leaf)) 44 ⟨1, false, [.int .u64 0], .int .u64, false, none, false, false⟩
     (.node (.node .leaf 45 ⟨1, false, [.nils], .slice 9 1 16, false, none, false, false⟩
       .leaf) 46 ⟨1, false, [.nilf], .func, false, none, false, false⟩
      .leaf))) 47 ⟨1, false, [.nilf], .func, false, none, false, false⟩
   (.node (.node (.node (.node .leaf 48 ⟨1, false, [.nilf], .func, false, none, false, false⟩
       .leaf) 50 ⟨1, false, [.nilf], .func, false, none, false, false⟩
      (.node .leaf 51 ⟨1, false, [.nilf], .func, false, none, false, false⟩
       .leaf)) 53 ⟨1, false, [.nilf], .func, false, none, false, false⟩
     (.node (.node .leaf 54 ⟨1, false, [.nilf], .func, false, none, false, false⟩
       .leaf) 56 ⟨1, false, [.nilf], .func, false, none, false, false⟩
      .leaf)) 57 ⟨1, false, [.int .u64 0], .int .u64, false, none, false, false⟩
    (.node (.node (.node .leaf 58 ⟨1, false, [.nilp], .ptr, false, some 60, false, false⟩
       .leaf) 59 ⟨2, true, [.nilp, .nils], .struct [(0, 58), (1, 42)], false, none, false, false⟩
      (.node .leaf 60 ⟨2, true, [.nilp, .nils], .struct [(0, 58), (1, 42)], false, none, false, true⟩
       .leaf)) 61 ⟨1, false, [.nilf], .func, false, none, false, false⟩
     (.node (.node .leaf 62 ⟨1, false, [.nili], .iface, false, none, false, false⟩
       .leaf) 63 ⟨1, false, [.nili], .iface, false, none, false, false⟩
      .leaf))))) 65 ⟨1, false, [.nilf], .func, false, none, false, false⟩
 (.node (.node (.node (.node (.node (.node .leaf 66 ⟨1, false, [.nilf], .func, false, none, false, false⟩
       .leaf) 68 ⟨1, false, [.nilf], .func, false, none, false, false⟩
      (.node .leaf 69 ⟨1, false, [.nilp], .ptr, false, some 5, false, false⟩
       .leaf)) 70 ⟨1, false, [.nilf], .func, false, none, false, false⟩
     (.node (.node .leaf 71 ⟨1, false, [.nilf], .func, false, none, false, false⟩
       .leaf) 72 ⟨1, false, [.nilf], .func, false, none, false, false⟩
      (.node .leaf 73 ⟨24, true, [.int .u8 0, .int .u8 0, .int .u8 0, .int .u8 0, .int .u8 0, .int .u8 0, .int .u8 0, .int .u8 0, .int .u8 0, .int .u8 0, .int .u8 0, .int .u8 0, .int .u8 0, .int .u8 0, .int .u8 0, .int .u8 0, .int .u8 0, .int .u8 0, .int .u8 0, .int .u8 0, .int .u8 0, .int .u8 0, .int .u8 0, .int .u8 0], .arr 24 5 1, true, none, false, false⟩
       .leaf))) 74 ⟨1, false, [.nilf], .func, false, none, false, false⟩
    (.node (.node (.node .leaf 75 ⟨1, false, [.nilf], .func, false, none, false, false⟩
       .leaf) 77 ⟨1, false, [.nilf], .func, false, none, false, false⟩
      (.node .leaf 78 ⟨1, false, [.nilp], .other, false, none, true, false⟩
       .leaf)) 79 ⟨1, false, [.nilf], .func, false, none, false, false⟩
     (.node (.node .leaf 80 ⟨1, false, [.nilf], .func, false, none, false, false⟩
       .leaf) 81 ⟨1, false, [.nilf], .func, false, none, false, false⟩
      .leaf))) 82 ⟨1, false, [.nilf], .func, false, none, false, false⟩
   (.node (.node (.node (.node .leaf 83 ⟨1, false, [.nilf], .func, false, none, false, false⟩
       .leaf) 85 ⟨1, false, [.nilf], .func, false, none, false, false⟩
      (.node .leaf 86 ⟨1, false, [.int .i64 0], .int .i64, false, none, false, false⟩
       .leaf)) 87 ⟨1, false, [.nilf], .func, false, none, false, false⟩
     (.node (.node .leaf 88 ⟨1, false, [.nilf], .func, false, none, false, false⟩
       .leaf) 89 ⟨1, false, [.nilp], .ptr, false, some 102, false, false⟩
      .leaf)) 90 ⟨1, false, [.nilf], .func, false, none, false, false⟩
    (.node (.node (.node .leaf 91 ⟨1, false, [.nilf], .func, false, none, false, false⟩
       .leaf) 92 ⟨1, false, [.nilf], .func, false, none, false, false⟩
      (.node .leaf 93 ⟨20, true, [.int .u64 0, .int .u64 0, .int .u64 0, .int .u64 0, .int .u64 0, .int .u64 0, .int .u64 0, .int .u64 0, .int .u64 0, .int .u64 0, .int .u64 0, .int .u64 0, .int .u64 0, .int .u64 0, .int .u64 0, .int .u64 0, .int .u64 0, .int .u64 0, .int .u64 0, .int .u64 0], .arr 20 44 1, true, none, false, false⟩
       .leaf)) 94 ⟨1, false, [.int .u32 0], .int .u32, false, none, false, false⟩
     (.node (.node .leaf 95 ⟨65, true, [.int .u8 0, .int .u8 0, .int .u8 0, .int .u8 0, .int .u8 0, .int .u8 0, .int .u8 0, .int .u8 0, .int .u8 0, .int .u8 0, .int .u8 0, .int .u8 0, .int .u8 0, .int .u8 0, .int .u8 0, .int .u8 0, .int .u8 0, .int .u8 0, .int .u8 0, .int .u8 0, .int .u8 0, .int .u8 0, .int .u8 0, .int .u8 0, .int .u8 0, .int .u8 0, .int .u8 0, .int .u8 0, .int .u8 0, .int .u8 0, .int .u8 0, .int .u8 0, .int .u8 0, .int .u8 0, .int .u8 0, .int .u8 0, .int .u8 0, .int .u8 0, .int .u8 0, .int .u8 0, .int .u8 0, .int .u8 0, .int .u8 0, .int .u8 0, .int .u8 0, .int .u8 0, .int .u8 0, .int .u8 0, .int .u8 0, .int .u8 0, .int .u8 0, .int .u8 0, .int .u8 0, .int .u8 0, .int .u8 0, .int .u8 0, .int .u8 0, .int .u8 0, .int .u8 0, .int .u8 0, .int .u8 0, .int .u8 0, .int .u8 0, .int .u8 0, .int .u8 0], .arr 65 5 1, true, none, false, false⟩
       .leaf) 96 ⟨1, false, [.nilf], .func, false, none, false, false⟩
      .leaf)))) 97 ⟨1, false, [.nilf], .func, false, none, false, false⟩
  (.node (.node (.node (.node (.node .leaf 99 ⟨1, false, [.nilf], .func, false, none, false, false⟩
       .leaf) 100 ⟨1, false, [.nilf], .func, false, none, false, false⟩
      (.node .leaf 101 ⟨3, true, [.str [], .str [], .nili], .struct [(0, 9), (1, 9), (2, 63)], false, none, false, false⟩
       .leaf)) 102 ⟨3, true, [.str [], .str [], .nili], .struct [(0, 9), (1, 9), (2, 63)], false, none, false, false⟩
     (.node (.node .leaf 103 ⟨1, false, [.nilf], .func, false, none, false, false⟩
       .leaf) 104 ⟨1, false, [.nilf], .func, false, none, false, false⟩
      (.node .leaf 106 ⟨2, true, [.int .u8 0, .int .u8 0], .struct [(0, 5), (1, 5)], true, none, false, false⟩
       .leaf))) 107 ⟨2, true, [.int .u8 0, .int .u8 0], .struct [(0, 5), (1, 5)], true, none, false, false⟩
    (.node (.node (.node .leaf 108 ⟨32, true, [.int .u8 0, .int .u8 0, .int .u8 0, .int .u8 0, .int .u8 0, .int .u8 0, .int .u8 0, .int .u8 0, .int .u8 0, .int .u8 0, .int .u8 0, .int .u8 0, .int .u8 0, .int .u8 0, .int .u8 0, .int .u8 0, .int .u8 0, .int .u8 0, .int .u8 0, .int .u8 0, .int .u8 0, .int .u8 0, .int .u8 0, .int .u8 0, .int .u8 0, .int .u8 0, .int .u8 0, .int .u8 0, .int .u8 0, .int .u8 0, .int .u8 0, .int .u8 0], .arr 16 107 2, true, none, false, false⟩
       .leaf) 109 ⟨1, false, [.nilp], .ptr, false, some 111, false, false⟩
      (.node .leaf 110 ⟨1, true, [.str []], .struct [(0, 9)], true, none, false, false⟩
       .leaf)) 111 ⟨1, true, [.str []], .struct [(0, 9)], true, none, false, false⟩
     (.node (.node .leaf 112 ⟨32, true, [.int .u8 0, .int .u8 0, .int .u8 0, .int .u8 0, .int .u8 0, .int .u8 0, .int .u8 0, .int .u8 0, .int .u8 0, .int .u8 0, .int .u8 0, .int .u8 0, .int .u8 0, .int .u8 0, .int .u8 0, .int .u8 0, .int .u8 0, .int .u8 0, .int .u8 0, .int .u8 0, .int .u8 0, .int .u8 0, .int .u8 0, .int .u8 0, .int .u8 0, .int .u8 0, .int .u8 0, .int .u8 0, .int .u8 0, .int .u8 0, .int .u8 0, .int .u8 0], .arr 32 5 1, true, none, false, false⟩
       .leaf) 113 ⟨64, true, [.int .u8 0, .int .u8 0, .int .u8 0, .int .u8 0, .int .u8 0, .int .u8 0, .int .u8 0, .int .u8 0, .int .u8 0, .int .u8 0, .int .u8 0, .int .u8 0, .int .u8 0, .int .u8 0, .int .u8 0, .int .u8 0, .int .u8 0, .int .u8 0, .int .u8 0, .int .u8 0, .int .u8 0, .int .u8 0, .int .u8 0, .int .u8 0, .int .u8 0, .int .u8 0, .int .u8 0, .int .u8 0, .int .u8 0, .int .u8 0, .int .u8 0, .int .u8 0, .int .u8 0, .int .u8 0, .int .u8 0, .int .u8 0, .int .u8 0, .int .u8 0, .int .u8 0, .int .u8 0, .int .u8 0, .int .u8 0, .int .u8 0, .int .u8 0, .int .u8 0, .int .u8 0, .int .u8 0, .int .u8 0, .int .u8 0, .int .u8 0, .int .u8 0, .int .u8 0, .int .u8 0, .int .u8 0, .int .u8 0, .int .u8 0, .int .u8 0, .int .u8 0, .int .u8 0, .int .u8 0, .int .u8 0, .int .u8 0, .int .u8 0, .int .u8 0], .arr 64 5 1, true, none, false, false⟩
      .leaf))) 114 ⟨1, false, [.nilf], .func, false, none, false, false⟩
   (.node (.node (.node (.node .leaf 115 ⟨4, true, [.nilp, .nilp, .nilp, .str []], .struct [(0, 17), (1, 17), (2, 17), (3, 9)], false, none, false, false⟩
       .leaf) 116 ⟨4, true, [.nilp, .nilp, .nilp, .str []], .struct [(0, 17), (1, 17), (2, 17), (3, 9)], false, none, false, false⟩
      (.node .leaf 117 ⟨0, true, [], .arr 0 16 1, false, none, false, false⟩
       .leaf)) 118 ⟨0, true, [], .struct [(0, 117)], false, none, false, false⟩
     (.node (.node .leaf 119 ⟨0, true, [], .struct [(0, 117)], false, none, false, false⟩
       .leaf) 120 ⟨1, false, [.nilf], .func, false, none, false, false⟩
      .leaf)) 121 ⟨1, false, [.int .u8 0], .int .u8, false, none, false, false⟩
    (.node (.node (.node .leaf 122 ⟨1, false, [.int .u8 0], .int .u8, false, none, false, false⟩
       .leaf) 123 ⟨1, false, [.nilf], .func, false, none, false, false⟩
      (.node .leaf 124 ⟨1, false, [.int .i32 0], .int .i32, false, none, false, false⟩
       .leaf)) 125 ⟨1, false, [.int .i32 0], .int .i32, false, none, false, false⟩
     (.node (.node .leaf 126 ⟨11, true, [.int .u64 0, .int .u64 0, .int .u32 0, .int .u8 0, .int .u8 0, .int .u8 0, .int .u8 0, .nilf, .nilp, .int .i32 0, .int .i32 0], .struct [(0, 12), (1, 12), (2, 94), (3, 121), (4, 5), (5, 5), (6, 122), (7, 123), (8, 69), (9, 124), (10, 125)], false, none, false, false⟩
       .leaf) 127 ⟨11, true, [.int .u64 0, .int .u64 0, .int .u32 0, .int .u8 0, .int .u8 0, .int .u8 0, .int .u8 0, .nilf, .nilp, .int .i32 0, .int .i32 0], .struct [(0, 12), (1, 12), (2, 94), (3, 121), (4, 5), (5, 5), (6, 122), (7, 123), (8, 69), (9, 124), (10, 125)], false, none, false, false⟩
      .leaf))))))
theorem tt_ok : TsOk Tryd.prog tt := tsOk_of (by kernel_rfl)

end Sy
end Go.Proofs.YtckbbcjbbmgmoaaDoor
