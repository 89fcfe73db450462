/- The symbolic executor: at this seat's program. -/
import Derived.Test.YthlggigjnpldcaaSyX
import Derived.Test.YthlggigjnpldcaaSyMs
namespace Go.Proofs.Ythlggigjnpldcaa
namespace Sy
open Go Go.RowKit
set_option maxRecDepth 100000
set_option linter.unusedSimpArgs false

section
variable {P : Program} {Q : AV → Prop}
theorem sat_need {b : Bool} {k : Tree} : Sat P Q (.need b k) ↔ b = true ∧ Sat P Q k := ⟨fun h => by cases h with | need h hk => exact ⟨h, hk⟩, fun h => .need h.1 h.2⟩
theorem sat_must {p : Prop} {k : Tree} : Sat P Q (.must p k) ↔ p ∧ Sat P Q k := ⟨fun h => by cases h with | must h hk => exact ⟨h, hk⟩, fun h => .must h.1 h.2⟩
theorem sat_ite {b : Bool} {t e : Tree} : Sat P Q (.ite b t e) ↔ (b = true → Sat P Q t) ∧ (b = false → Sat P Q e) := ⟨fun h => by cases h with | ite h hk => exact ⟨h, hk⟩, fun h => .ite h.1 h.2⟩
theorem sat_done {r : AV} : Sat P Q (.done r) ↔ Q r := ⟨fun h => by cases h with | done h => exact h, fun h => .done h⟩
theorem sat_yes : Sat P Q .yes ↔ True := ⟨fun _ => trivial, fun _ => .yes⟩
theorem sat_ex {X : Type} {f : X → Tree} : Sat P Q (.ex X f) ↔ ∃ x, Sat P Q (f x) := ⟨fun h => by cases h with | ex x h => exact ⟨x, h⟩, fun ⟨x, h⟩ => .ex x h⟩
theorem sat_all {X : Type} {f : X → Tree} : Sat P Q (.all X f) ↔ ∀ x, Sat P Q (f x) := ⟨fun h => by cases h with | all h => exact h, fun h => .all h⟩
theorem sat_sup {p : Prop} {k : Tree} : Sat P Q (.sup p k) ↔ (p → Sat P Q k) := ⟨fun h => by cases h with | sup h => exact h, fun h => .sup h⟩
theorem sat_and {a b : Tree} : Sat P Q (.and a b) ↔ Sat P Q a ∧ Sat P Q b := ⟨fun h => by cases h with | and h hk => exact ⟨h, hk⟩, fun h => .and h.1 h.2⟩
theorem sat_fail {n : Nat} : Sat P Q (.fail n) ↔ False := ⟨fun h => (by cases h), fun h => h.elim⟩
end

/-- A function's answer, the leaf operations sealed. -/
theorem acalls_L {P : Program} {T : TT} {S : Seal → Sums} {lo lb : Seal → Nat → St → Option Ann} (n : Nat) {f : FuncId} {fn : Func} {c : Code} {xs : List AV} {r : AV} (hf : P.funcs[f]? = some fn) (hb : fn.body = some c) (hn : (fn.name == "runtime.NumGoroutine") = false)
    (hc : codeOk fn.ntmps c = true) (hx : (nble xs.length fn.ntmps && nble fn.ntmps 500000) = true) (hT : TsOk P T) (hS : SumsOk P (S std)) (hm : P.follows .mixedOrders = true)
    (h : ∀ (L : Seal) (P' : Program) (Q' : AV → Prop), @L = @std → P' = P → Q' = fits r → Sat P' Q' (runF T L (S L) (lo L) (lb L) n fn xs)) : ACalls P f xs r :=
  acalls_of (lo := lo std) (lb := lb std) hf hb hn hc hx hT hS hm (h std _ _ rfl rfl rfl)

/-- The same, the arguments sealed too. -/
theorem acalls_L' {P : Program} {T : TT} {S : Seal → Sums} {lo lb : Seal → Nat → St → Option Ann} (n : Nat) {f : FuncId} {fn : Func} {c : Code} {xs : Seal → List AV} {r : AV} (hf : P.funcs[f]? = some fn) (hb : fn.body = some c) (hn : (fn.name == "runtime.NumGoroutine") = false)
    (hc : codeOk fn.ntmps c = true) (hx : (nble (xs std).length fn.ntmps && nble fn.ntmps 500000) = true) (hT : TsOk P T) (hS : SumsOk P (S std)) (hm : P.follows .mixedOrders = true)
    (h : ∀ (L : Seal) (P' : Program) (Q' : AV → Prop), @L = @std → P' = P → Q' = fits r → Sat P' Q' (runF T L (S L) (lo L) (lb L) n fn (xs L))) : ACalls P f (xs std) r :=
  acalls_of (lo := lo std) (lb := lb std) hf hb hn hc hx hT hS hm (h std _ _ rfl rfl rfl)

/-- The same of a function that turns its caller's blocks. -/
theorem mcalls_L {P : Program} {T : TT} {S : Seal → Sums} {lo lb : Seal → Nat → St → Option Ann} (n : Nat) {f : FuncId} {fn : Func} {c : Code} {xs rts : Seal → List AV} {O O1 : Seal → List (Nat × Ob)} (hf : P.funcs[f]? = some fn) (hb : fn.body = some c) (hn : (fn.name == "runtime.NumGoroutine") = false)
    (hc : codeOk fn.ntmps c = true) (hx : (nble (xs std).length fn.ntmps && nble fn.ntmps 500000 && nble fn.results.size 500000 && allPin (O std)) = true) (hT : TsOk P T) (hS : SumsOk P (S std)) (hm : P.follows .mixedOrders = true)
    (h : ∀ (L : Seal) (P' : Program) (Q' : AV → Prop), @L = @std → P' = P → Q' = (fun _ => True) → Sat P' Q' (runM T L (S L) (lo L) (lb L) n fn (xs L) (O L) (rts L) (O1 L))) : MCalls P f (xs std) (O std) (resOf (rts std)) (O1 std) :=
  mcalls_of (lo := lo std) (lb := lb std) hf hb hn hc hx hT hS hm (h std _ _ rfl rfl rfl)

def noS : Seal → Sums := fun _ => ⟨fun _ _ => none, fun _ => none⟩
theorem noS_ok (P : Program) : SumsOk P (noS std) := ⟨fun f xs p r h => by (cases h), fun f m h => by cases h⟩
def noA : Seal → Nat → St → Option Ann := fun _ _ _ => none

def tt : TT :=
 (.node (.node (.node (.node (.node (.node (.node (.node .leaf 1 ⟨1, false, [.nilf], .func, false, none, false, false⟩
        .leaf) 2 ⟨1, false, [.int .i64 0], .int .i64, false, none, false, false⟩
       .leaf) 3 ⟨1, false, [.int .i64 0], .int .i64, false, none, false, false⟩
      (.node (.node .leaf 4 ⟨1, false, [.bool false], .bool, false, none, false, false⟩
        .leaf) 5 ⟨1, false, [.int .u8 0], .int .u8, false, none, false, false⟩
       .leaf)) 6 ⟨1, false, [.int .u8 0], .int .u8, false, none, false, false⟩
     (.node (.node (.node .leaf 7 ⟨4, true, [.int .i64 0, .int .i64 0, .bool false, .int .u8 0], .struct [(0, 2), (1, 3), (2, 4), (3, 6)], true, none, false, false⟩
        .leaf) 8 ⟨4, true, [.int .i64 0, .int .i64 0, .bool false, .int .u8 0], .struct [(0, 2), (1, 3), (2, 4), (3, 6)], true, none, false, false⟩
       .leaf) 9 ⟨1, false, [.str []], .str, false, none, false, false⟩
      (.node .leaf 10 ⟨1, false, [.str []], .str, false, none, false, false⟩
       .leaf))) 11 ⟨1, false, [.str []], .str, false, none, false, false⟩
    (.node (.node (.node (.node .leaf 12 ⟨1, false, [.int .u64 0], .int .u64, false, none, false, false⟩
        .leaf) 13 ⟨2, true, [.str [], .int .u64 0], .struct [(0, 9), (1, 12)], false, none, false, false⟩
       .leaf) 14 ⟨2, true, [.str [], .int .u64 0], .struct [(0, 9), (1, 12)], false, none, false, false⟩
      (.node (.node .leaf 15 ⟨1, false, [.nilp], .ptr, false, some 178, false, false⟩
        .leaf) 16 ⟨1, false, [.nilp], .ptr, false, some 181, false, false⟩
       .leaf)) 17 ⟨1, false, [.nilp], .ptr, false, some 188, false, false⟩
     (.node (.node (.node .leaf 18 ⟨1, true, [.nilp], .struct [(0, 17)], false, none, false, false⟩
        .leaf) 19 ⟨1, true, [.nilp], .struct [(0, 17)], false, none, false, false⟩
       .leaf) 20 ⟨1, false, [.dead], .other, false, none, false, false⟩
      (.node .leaf 21 ⟨1, false, [.int .i32 0], .int .i32, false, none, false, false⟩
       .leaf)))) 22 ⟨1, false, [.nils], .slice 100 4 56, false, none, false, false⟩
   (.node (.node (.node (.node (.node .leaf 23 ⟨1, false, [.nilf], .func, false, none, false, false⟩
        .leaf) 24 ⟨1, false, [.int .u64 0], .int .u64, false, none, false, false⟩
       .leaf) 25 ⟨1, false, [.nils], .slice 27 4 56, false, none, false, false⟩
      (.node (.node .leaf 26 ⟨4, true, [.int .i64 0, .int .u64 0, .str [], .nils], .struct [(0, 3), (1, 24), (2, 9), (3, 25)], false, none, false, false⟩
        .leaf) 27 ⟨4, true, [.int .i64 0, .int .u64 0, .str [], .nils], .struct [(0, 3), (1, 24), (2, 9), (3, 25)], false, none, false, false⟩
       .leaf)) 29 ⟨1, false, [.nilf], .func, false, none, false, false⟩
     (.node (.node (.node .leaf 30 ⟨1, false, [.int .i64 0], .int .i64, false, none, false, false⟩
        .leaf) 32 ⟨1, false, [.nilf], .func, false, none, false, false⟩
       .leaf) 34 ⟨1, false, [.nilf], .func, false, none, false, false⟩
      (.node .leaf 35 ⟨1, false, [.nils], .slice 37 4 56, false, none, false, false⟩
       .leaf))) 36 ⟨4, true, [.int .i64 0, .int .u64 0, .str [], .nils], .struct [(0, 3), (1, 24), (2, 9), (3, 35)], false, none, false, false⟩
    (.node (.node (.node (.node .leaf 37 ⟨4, true, [.int .i64 0, .int .u64 0, .str [], .nils], .struct [(0, 3), (1, 24), (2, 9), (3, 35)], false, none, false, false⟩
        .leaf) 38 ⟨1, false, [.nilf], .func, false, none, false, false⟩
       .leaf) 39 ⟨1, false, [.nilf], .func, false, none, false, false⟩
      (.node .leaf 40 ⟨1, false, [.nilf], .func, false, none, false, false⟩
       .leaf)) 41 ⟨1, false, [.nilf], .func, false, none, false, false⟩
     (.node (.node (.node .leaf 42 ⟨1, false, [.nilf], .func, false, none, false, false⟩
        .leaf) 44 ⟨1, false, [.nilf], .func, false, none, false, false⟩
       .leaf) 46 ⟨1, false, [.nilf], .func, false, none, false, false⟩
      (.node .leaf 47 ⟨1, false, [.nilf], .func, false, none, false, false⟩
       .leaf))))) 48 ⟨1, false, [.nilf], .func, false, none, false, false⟩
  (.node (.node (.node (.node (.node (.node .leaf 49 ⟨1, false, [.nilf], .func, false, none, false, false⟩
        .leaf) 50 ⟨1, false, [.int .u32 0], .int .u32, false, none, false, false⟩
       .leaf) 51 ⟨64, true, [.int .u32 0, .int .u32 0, .int .u32 0, .int .u32 0, .int .u32 0, .int .u32 0, .int .u32 0, .int .u32 0, .int .u32 0, .int .u32 0, .int .u32 0, .int .u32 0, .int .u32 0, .int .u32 0, .int .u32 0, .int .u32 0, .int .u32 0, .int .u32 0, .int .u32 0, .int .u32 0, .int .u32 0, .int .u32 0, .int .u32 0, .int .u32 0, .int .u32 0, .int .u32 0, .int .u32 0, .int .u32 0, .int .u32 0, .int .u32 0, .int .u32 0, .int .u32 0, .int .u32 0, .int .u32 0, .int .u32 0, .int .u32 0, .int .u32 0, .int .u32 0, .int .u32 0, .int .u32 0, .int .u32 0, .int .u32 0, .int .u32 0, .int .u32 0, .int .u32 0, .int .u32 0, .int .u32 0, .int .u32 0, .int .u32 0, .int .u32 0, .int .u32 0, .int .u32 0, .int .u32 0, .int .u32 0, .int .u32 0, .int .u32 0, .int .u32 0, .int .u32 0, .int .u32 0, .int .u32 0, .int .u32 0, .int .u32 0, .int .u32 0, .int .u32 0], .arr 64 50 1, true, none, false, false⟩
      (.node (.node .leaf 52 ⟨1, false, [.nilf], .func, false, none, false, false⟩
        .leaf) 53 ⟨1, false, [.nils], .slice 50 1 4, false, none, false, false⟩
       .leaf)) 54 ⟨1, false, [.nilf], .func, false, none, false, false⟩
     (.node (.node (.node .leaf 55 ⟨1, false, [.nilf], .func, false, none, false, false⟩
        .leaf) 56 ⟨1, false, [.nilf], .func, false, none, false, false⟩
       .leaf) 57 ⟨1, false, [.int .u16 0], .int .u16, false, none, false, false⟩
      (.node .leaf 58 ⟨1, false, [.nilf], .func, false, none, false, false⟩
       .leaf))) 59 ⟨32, true, [.int .u8 0, .int .u8 0, .int .u8 0, .int .u8 0, .int .u8 0, .int .u8 0, .int .u8 0, .int .u8 0, .int .u8 0, .int .u8 0, .int .u8 0, .int .u8 0, .int .u8 0, .int .u8 0, .int .u8 0, .int .u8 0, .int .u8 0, .int .u8 0, .int .u8 0, .int .u8 0, .int .u8 0, .int .u8 0, .int .u8 0, .int .u8 0, .int .u8 0, .int .u8 0, .int .u8 0, .int .u8 0, .int .u8 0, .int .u8 0, .int .u8 0, .int .u8 0], .arr 32 5 1, true, none, false, false⟩
    (.node (.node (.node (.node .leaf 60 ⟨32, true, [.int .u8 0, .int .u8 0, .int .u8 0, .int .u8 0, .int .u8 0, .int .u8 0, .int .u8 0, .int .u8 0, .int .u8 0, .int .u8 0, .int .u8 0, .int .u8 0, .int .u8 0, .int .u8 0, .int .u8 0, .int .u8 0, .int .u8 0, .int .u8 0, .int .u8 0, .int .u8 0, .int .u8 0, .int .u8 0, .int .u8 0, .int .u8 0, .int .u8 0, .int .u8 0, .int .u8 0, .int .u8 0, .int .u8 0, .int .u8 0, .int .u8 0, .int .u8 0], .arr 32 5 1, true, none, false, false⟩
        .leaf) 61 ⟨1, false, [.nilf], .func, false, none, false, false⟩
       .leaf) 62 ⟨1, false, [.nilf], .func, false, none, false, false⟩
      (.node .leaf 63 ⟨1, false, [.nils], .slice 5 1 1, false, none, false, false⟩
       .leaf)) 64 ⟨16, true, [.int .u8 0, .int .u8 0, .int .u8 0, .int .u8 0, .int .u8 0, .int .u8 0, .int .u8 0, .int .u8 0, .int .u8 0, .int .u8 0, .int .u8 0, .int .u8 0, .int .u8 0, .int .u8 0, .int .u8 0, .int .u8 0], .arr 16 5 1, true, none, false, false⟩
     (.node (.node (.node .leaf 65 ⟨16, true, [.int .u8 0, .int .u8 0, .int .u8 0, .int .u8 0, .int .u8 0, .int .u8 0, .int .u8 0, .int .u8 0, .int .u8 0, .int .u8 0, .int .u8 0, .int .u8 0, .int .u8 0, .int .u8 0, .int .u8 0, .int .u8 0], .arr 16 5 1, true, none, false, false⟩
        .leaf) 66 ⟨1, false, [.nilf], .func, false, none, false, false⟩
       .leaf) 67 ⟨1, false, [.nilf], .func, false, none, false, false⟩
      (.node .leaf 68 ⟨1, false, [.nils], .slice 24 1 8, false, none, false, false⟩
       .leaf)))) 69 ⟨1, false, [.nilf], .func, false, none, false, false⟩
   (.node (.node (.node (.node (.node .leaf 70 ⟨1, false, [.nilf], .func, false, none, false, false⟩
        .leaf) 71 ⟨1, false, [.nils], .slice 9 1 16, false, none, false, false⟩
       .leaf) 73 ⟨1, false, [.nilf], .func, false, none, false, false⟩
      (.node (.node .leaf 75 ⟨1, false, [.nilf], .func, false, none, false, false⟩
        .leaf) 76 ⟨1, false, [.nilf], .func, false, none, false, false⟩
       .leaf)) 77 ⟨1, false, [.nilf], .func, false, none, false, false⟩
     (.node (.node (.node .leaf 78 ⟨1, false, [.nils], .slice 88 7 72, false, none, false, false⟩
        .leaf) 79 ⟨3, true, [.int .u64 0, .int .u64 0, .int .i64 0], .struct [(0, 24), (1, 24), (2, 3)], true, none, false, false⟩
       .leaf) 80 ⟨3, true, [.int .u64 0, .int .u64 0, .int .i64 0], .struct [(0, 24), (1, 24), (2, 3)], true, none, false, false⟩
      (.node .leaf 81 ⟨9, true, [.int .u64 0, .int .u64 0, .int .u64 0, .int .u64 0, .str [], .bool false, .int .u64 0, .int .u64 0, .int .i64 0], .struct [(0, 24), (1, 24), (2, 24), (3, 24), (4, 9), (5, 4), (6, 80)], false, none, false, false⟩
       .leaf))) 82 ⟨9, true, [.int .u64 0, .int .u64 0, .int .u64 0, .int .u64 0, .str [], .bool false, .int .u64 0, .int .u64 0, .int .i64 0], .struct [(0, 24), (1, 24), (2, 24), (3, 24), (4, 9), (5, 4), (6, 80)], false, none, false, false⟩
    (.node (.node (.node (.node .leaf 84 ⟨1, false, [.nilf], .func, false, none, false, false⟩
        .leaf) 85 ⟨1, false, [.nilf], .func, false, none, false, false⟩
       .leaf) 86 ⟨1, false, [.nilm], .map, false, none, false, false⟩
      (.node .leaf 87 ⟨7, true, [.int .u8 0, .int .u64 0, .int .u64 0, .int .u64 0, .str [], .str [], .int .u8 0], .struct [(0, 5), (1, 24), (2, 24), (3, 24), (4, 9), (5, 9), (6, 5)], true, none, false, false⟩
       .leaf)) 88 ⟨7, true, [.int .u8 0, .int .u64 0, .int .u64 0, .int .u64 0, .str [], .str [], .int .u8 0], .struct [(0, 5), (1, 24), (2, 24), (3, 24), (4, 9), (5, 9), (6, 5)], true, none, false, false⟩
     (.node (.node (.node .leaf 89 ⟨3, true, [.int .u64 0, .int .u64 0, .str []], .struct [(0, 24), (1, 24), (2, 9)], true, none, false, false⟩
        .leaf) 90 ⟨3, true, [.int .u64 0, .int .u64 0, .str []], .struct [(0, 24), (1, 24), (2, 9)], true, none, false, false⟩
       .leaf) 92 ⟨1, false, [.nilf], .func, false, none, false, false⟩
      (.node .leaf 93 ⟨1, false, [.nilf], .func, false, none, false, false⟩
       .leaf)))))) 94 ⟨1, false, [.nilf], .func, false, none, false, false⟩
 (.node (.node (.node (.node (.node (.node (.node .leaf 95 ⟨1, false, [.nilf], .func, false, none, false, false⟩
        .leaf) 96 ⟨1, false, [.nilf], .func, false, none, false, false⟩
       .leaf) 97 ⟨1, false, [.nilf], .func, false, none, false, false⟩
      (.node (.node .leaf 98 ⟨1, false, [.nils], .slice 3 1 8, false, none, false, false⟩
        .leaf) 99 ⟨4, true, [.int .i64 0, .int .u64 0, .str [], .nils], .struct [(0, 3), (1, 24), (2, 9), (3, 63)], false, none, false, false⟩
       .leaf)) 100 ⟨4, true, [.int .i64 0, .int .u64 0, .str [], .nils], .struct [(0, 3), (1, 24), (2, 9), (3, 63)], false, none, false, false⟩
     (.node (.node (.node .leaf 101 ⟨1, false, [.nilp], .ptr, false, some 103, false, false⟩
        .leaf) 102 ⟨2, true, [.nilp, .nils], .struct [(0, 101), (1, 63)], false, none, false, false⟩
       .leaf) 103 ⟨2, true, [.nilp, .nils], .struct [(0, 101), (1, 63)], false, none, false, true⟩
      (.node .leaf 104 ⟨1, false, [.nilf], .func, false, none, false, false⟩
       .leaf))) 105 ⟨1, false, [.nilf], .func, false, none, false, false⟩
    (.node (.node (.node (.node .leaf 106 ⟨1, false, [.nilf], .func, false, none, false, false⟩
        .leaf) 107 ⟨1, false, [.nilf], .func, false, none, false, false⟩
       .leaf) 108 ⟨1, false, [.nilf], .func, false, none, false, false⟩
      (.node .leaf 109 ⟨1, false, [.nilf], .func, false, none, false, false⟩
       .leaf)) 110 ⟨1, false, [.nilf], .func, false, none, false, false⟩
     (.node (.node (.node .leaf 111 ⟨1, false, [.nils], .slice 115 2 32, false, none, false, false⟩
        .leaf) 113 ⟨1, false, [.nilf], .func, false, none, false, false⟩
       .leaf) 114 ⟨2, true, [.int .u64 0, .nils], .struct [(0, 24), (1, 25)], false, none, false, false⟩
      (.node .leaf 115 ⟨2, true, [.int .u64 0, .nils], .struct [(0, 24), (1, 25)], false, none, false, false⟩
       .leaf)))) 116 ⟨1, false, [.nilf], .func, false, none, false, false⟩
   (.node (.node (.node (.node (.node .leaf 117 ⟨1, false, [.nilf], .func, false, none, false, false⟩
        .leaf) 118 ⟨1, false, [.nilf], .func, false, none, false, false⟩
       .leaf) 119 ⟨1, false, [.nilf], .func, false, none, false, false⟩
      (.node (.node .leaf 120 ⟨1, false, [.nilf], .func, false, none, false, false⟩
        .leaf) 121 ⟨1, false, [.int .u64 0], .int .u64, false, none, false, false⟩
       .leaf)) 123 ⟨1, false, [.nilf], .func, false, none, false, false⟩
     (.node (.node (.node .leaf 124 ⟨1, false, [.nilf], .func, false, none, false, false⟩
        .leaf) 125 ⟨1, false, [.dead], .other, false, none, false, false⟩
       .leaf) 126 ⟨1, false, [.dead], .other, false, none, false, false⟩
      (.node .leaf 128 ⟨1, false, [.nilf], .func, false, none, false, false⟩
       .leaf))) 129 ⟨1, false, [.nilf], .func, false, none, false, false⟩
    (.node (.node (.node (.node .leaf 130 ⟨8, true, [.int .u32 0, .int .u32 0, .int .u32 0, .int .u32 0, .int .u32 0, .int .u32 0, .int .u32 0, .int .u32 0], .arr 8 50 1, true, none, false, false⟩
        .leaf) 131 ⟨1, false, [.nilf], .func, false, none, false, false⟩
       .leaf) 132 ⟨1, false, [.nilf], .func, false, none, false, false⟩
      (.node .leaf 133 ⟨1, false, [.nilp], .ptr, false, some 51, false, false⟩
       .leaf)) 134 ⟨1, false, [.nilf], .func, false, none, false, false⟩
     (.node (.node (.node .leaf 135 ⟨3, true, [.int .i64 0, .int .u64 0, .str []], .struct [(0, 3), (1, 24), (2, 9)], true, none, false, false⟩
        .leaf) 136 ⟨3, true, [.int .i64 0, .int .u64 0, .str []], .struct [(0, 3), (1, 24), (2, 9)], true, none, false, false⟩
       .leaf) 137 ⟨1, false, [.nilf], .func, false, none, false, false⟩
      (.node .leaf 138 ⟨1, false, [.nilf], .func, false, none, false, false⟩
       .leaf))))) 139 ⟨3, true, [.int .i64 0, .int .u64 0, .str []], .struct [(0, 3), (1, 24), (2, 9)], true, none, false, false⟩
  (.node (.node (.node (.node (.node (.node .leaf 141 ⟨1, false, [.nilf], .func, false, none, false, false⟩
        .leaf) 142 ⟨1, false, [.nilf], .func, false, none, false, false⟩
       .leaf) 144 ⟨1, false, [.nilf], .func, false, none, false, false⟩
      (.node (.node .leaf 146 ⟨1, false, [.nilf], .func, false, none, false, false⟩
        .leaf) 147 ⟨1, false, [.nilf], .func, false, none, false, false⟩
       .leaf)) 148 ⟨1, false, [.nilf], .func, false, none, false, false⟩
     (.node (.node (.node .leaf 149 ⟨1, false, [.nilf], .func, false, none, false, false⟩
        .leaf) 150 ⟨1, false, [.nilf], .func, false, none, false, false⟩
       .leaf) 151 ⟨1, false, [.nilf], .func, false, none, false, false⟩
      (.node .leaf 152 ⟨1, false, [.nilf], .func, false, none, false, false⟩
       .leaf))) 153 ⟨1, false, [.nilp], .ptr, false, some 5, false, false⟩
    (.node (.node (.node (.node .leaf 154 ⟨1, false, [.nilf], .func, false, none, false, false⟩
        .leaf) 156 ⟨1, false, [.nilf], .func, false, none, false, false⟩
       .leaf) 158 ⟨1, false, [.nilf], .func, false, none, false, false⟩
      (.node .leaf 159 ⟨8, true, [.int .u64 0, .int .u64 0, .int .u64 0, .int .u64 0, .int .u64 0, .int .u64 0, .int .u64 0, .int .u64 0], .arr 8 24 1, true, none, false, false⟩
       .leaf)) 161 ⟨1, false, [.nilf], .func, false, none, false, false⟩
     (.node (.node (.node .leaf 162 ⟨1, false, [.nilf], .func, false, none, false, false⟩
        .leaf) 164 ⟨1, false, [.nilf], .func, false, none, false, false⟩
       .leaf) 165 ⟨1, false, [.nilf], .func, false, none, false, false⟩
      (.node .leaf 167 ⟨1, false, [.nilf], .func, false, none, false, false⟩
       .leaf)))) 168 ⟨1, false, [.nilf], .func, false, none, false, false⟩
   (.node (.node (.node (.node (.node .leaf 169 ⟨1, false, [.nilf], .func, false, none, false, false⟩
        .leaf) 170 ⟨1, false, [.nilp], .other, false, none, true, false⟩
       .leaf) 171 ⟨1, false, [.nilf], .func, false, none, false, false⟩
      (.node (.node .leaf 172 ⟨1, false, [.nilf], .func, false, none, false, false⟩
        .leaf) 173 ⟨1, false, [.nilf], .func, false, none, false, false⟩
       .leaf)) 174 ⟨1, false, [.nilf], .func, false, none, false, false⟩
     (.node (.node (.node .leaf 175 ⟨1, false, [.nilf], .func, false, none, false, false⟩
        .leaf) 176 ⟨1, false, [.nilf], .func, false, none, false, false⟩
       .leaf) 177 ⟨4, true, [.nilp, .nilp, .nilp, .str []], .struct [(0, 17), (1, 17), (2, 17), (3, 9)], false, none, false, false⟩
      (.node .leaf 178 ⟨4, true, [.nilp, .nilp, .nilp, .str []], .struct [(0, 17), (1, 17), (2, 17), (3, 9)], false, none, false, false⟩
       .leaf))) 179 ⟨0, true, [], .arr 0 16 1, false, none, false, false⟩
    (.node (.node (.node (.node .leaf 180 ⟨0, true, [], .struct [(0, 179)], false, none, false, false⟩
        .leaf) 181 ⟨0, true, [], .struct [(0, 179)], false, none, false, false⟩
       .leaf) 182 ⟨1, false, [.int .u8 0], .int .u8, false, none, false, false⟩
      (.node .leaf 183 ⟨1, false, [.int .u8 0], .int .u8, false, none, false, false⟩
       .leaf)) 184 ⟨1, false, [.nilf], .func, false, none, false, false⟩
     (.node (.node (.node .leaf 185 ⟨1, false, [.int .i32 0], .int .i32, false, none, false, false⟩
        .leaf) 186 ⟨1, false, [.int .i32 0], .int .i32, false, none, false, false⟩
       .leaf) 187 ⟨11, true, [.int .u64 0, .int .u64 0, .int .u32 0, .int .u8 0, .int .u8 0, .int .u8 0, .int .u8 0, .nilf, .nilp, .int .i32 0, .int .i32 0], .struct [(0, 12), (1, 12), (2, 50), (3, 182), (4, 5), (5, 5), (6, 183), (7, 184), (8, 153), (9, 185), (10, 186)], false, none, false, false⟩
      (.node .leaf 188 ⟨11, true, [.int .u64 0, .int .u64 0, .int .u32 0, .int .u8 0, .int .u8 0, .int .u8 0, .int .u8 0, .nilf, .nilp, .int .i32 0, .int .i32 0], .struct [(0, 12), (1, 12), (2, 50), (3, 182), (4, 5), (5, 5), (6, 183), (7, 184), (8, 153), (9, 185), (10, 186)], false, none, false, false⟩
       .leaf)))))))
theorem tt_ok : TsOk Try.prog tt := tsOk_of (by kernel_rfl)

theorem size_ac (x : Int) (h0 : 0 ≤ x) (h1 : x ≤ 1000000) : ACalls Try.prog 108 [.int .i64 x] (.int .i64 (x + 20)) := by
  refine acalls_L (T := tt) (S := noS) (lo := noA) (lb := noA) 5 (fn := Try.f108) rfl rfl (by kernel_rfl) (by kernel_rfl) rfl tt_ok (noS_ok _) (by kernel_rfl) ?_
  (intro L P1 Q1 hL hP hQ; cbv; subst hL; simp only [L2, L3, std, sat_need, sat_must, sat_ite, sat_done, sat_yes, sat_ex, sat_all, sat_sup, sat_and, sat_fail]; subst hQ)
  (simp only [sySet, reduceCtorEq, forall_const, Int.reduceToNat, Int.reduceAdd, Int.reduceSub, Int.cast_ofNat_Int, Int.toNat_natCast, Nat.le_eq, Nat.sub_eq, ne_eq, Decidable.not_not, implies_true, true_and, and_true, wadd, wsub, wmul, decide_eq_true_eq, decide_eq_false_iff_not, Nat.succ_eq_add_one, imp_false, not_false_eq_true, not_true_eq_false, false_imp_iff, true_imp_iff])
  omega
end Sy
end Go.Proofs.Ythlggigjnpldcaa
