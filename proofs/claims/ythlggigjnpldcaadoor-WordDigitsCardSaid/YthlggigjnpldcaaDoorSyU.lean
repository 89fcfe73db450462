/- The symbolic executor: at this seat's program. -/
import Derived.Test.YthlggigjnpldcaaDoorSyX
import Derived.Test.YthlggigjnpldcaaDoorSyMs
namespace Go.Proofs.YthlggigjnpldcaaDoor
namespace Sy
open Go Go.RowKit
set_option maxRecDepth 100000
set_option linter.unusedSimpArgs false

section
variable {P : Program} {Q : AV → Prop}
theorem sat_need {b : Bool} {k : Tree} : Sat P Q (.need b k) ↔ b = true ∧ Sat P Q k := ⟨fun h => by cases h with | need h hk => exact ⟨h, hk⟩, fun h => .need h.1 h.2⟩
theorem sat_must {p : Prop} {k : Tree} : Sat P Q (.must p k) ↔ p ∧ Sat P Q k := ⟨fun h => by cases h with | must h hk => exact ⟨h, hk⟩, fun h => .must h.1 h.2⟩
theorem sat_ite {b : Bool} {t e : Tree} : Sat P Q (.ite b t e) ↔ (b = true → Sat P Q t) ∧ (b = false → Sat P Q e) := ⟨fun h => by cases h with | ite h hk => exact ⟨h, hk⟩, fun h => .ite h.1 h.2⟩
theorem sat_done {r : AV} : Sat P Q (.done r) ↔ Q r := ⟨fun h => by cases h with | done h => exact h, fun h => .done h⟩
theorem sat_yes : Sat P Q .yes ↔ True := ⟨fun _ => trivial, fun _ => .yes⟩
theorem sat_ex {X : Type} {f : X → Tree} : Sat P Q (.ex X f) ↔ ∃ x, Sat P Q (f x) := ⟨fun h => by cases h with | ex x h => exact ⟨x, h⟩, fun ⟨x, h⟩ => .ex x h⟩
theorem sat_all {X : Type} {f : X → Tree} : Sat P Q (.all X f) ↔ ∀ x, Sat P Q (f x) := ⟨fun h => by cases h with | all h => exact h, fun h => .all h⟩
theorem sat_sup {p : Prop} {k : Tree} : Sat P Q (.sup p k) ↔ (p → Sat P Q k) := ⟨fun h => by cases h with | sup h => exact h, fun h => .sup h⟩
theorem sat_and {a b : Tree} : Sat P Q (.and a b) ↔ Sat P Q a ∧ Sat P Q b := ⟨fun h => by cases h with | and h hk => exact ⟨h, hk⟩, fun h => .and h.1 h.2⟩
theorem sat_fail {n : Nat} : Sat P Q (.fail n) ↔ False := ⟨fun h => (by cases h), fun h => h.elim⟩
end

/-- A function's answer, the leaf operations sealed. -/
theorem acalls_L {P : Program} {T : TT} {S : Seal → Sums} {lo lb : Seal → Nat → St → Option Ann} (n : Nat) {f : FuncId} {fn : Func} {c : Code} {xs : List AV} {r : AV} (hf : P.funcs[f]? = some fn) (hb : fn.body = some c) (hn : (fn.name == "runtime.NumGoroutine") = false)
    (hc : codeOk fn.ntmps c = true) (hx : (nble xs.length fn.ntmps && nble fn.ntmps 500000) = true) (hT : TsOk P T) (hS : SumsOk P (S std)) (hm : P.follows .mixedOrders = true)
    (h : ∀ (L : Seal) (P' : Program) (Q' : AV → Prop), @L = @std → P' = P → Q' = fits r → Sat P' Q' (runF T L (S L) (lo L) (lb L) n fn xs)) : ACalls P f xs r :=
  acalls_of (lo := lo std) (lb := lb std) hf hb hn hc hx hT hS hm (h std _ _ rfl rfl rfl)

/-- The same, the arguments sealed too. -/
theorem acalls_L' {P : Program} {T : TT} {S : Seal → Sums} {lo lb : Seal → Nat → St → Option Ann} (n : Nat) {f : FuncId} {fn : Func} {c : Code} {xs : Seal → List AV} {r : AV} (hf : P.funcs[f]? = some fn) (hb : fn.body = some c) (hn : (fn.name == "runtime.NumGoroutine") = false)
    (hc : codeOk fn.ntmps c = true) (hx : (nble (xs std).length fn.ntmps && nble fn.ntmps 500000) = true) (hT : TsOk P T) (hS : SumsOk P (S std)) (hm : P.follows .mixedOrders = true)
    (h : ∀ (L : Seal) (P' : Program) (Q' : AV → Prop), @L = @std → P' = P → Q' = fits r → Sat P' Q' (runF T L (S L) (lo L) (lb L) n fn (xs L))) : ACalls P f (xs std) r :=
  acalls_of (lo := lo std) (lb := lb std) hf hb hn hc hx hT hS hm (h std _ _ rfl rfl rfl)

/-- The same of a function that turns its caller's blocks. -/
theorem mcalls_L {P : Program} {T : TT} {S : Seal → Sums} {lo lb : Seal → Nat → St → Option Ann} (n : Nat) {f : FuncId} {fn : Func} {c : Code} {xs rts : Seal → List AV} {O O1 : Seal → List (Nat × Ob)} (hf : P.funcs[f]? = some fn) (hb : fn.body = some c) (hn : (fn.name == "runtime.NumGoroutine") = false)
    (hc : codeOk fn.ntmps c = true) (hx : (nble (xs std).length fn.ntmps && nble fn.ntmps 500000 && nble fn.results.size 500000 && allPin (O std)) = true) (hT : TsOk P T) (hS : SumsOk P (S std)) (hm : P.follows .mixedOrders = true)
    (h : ∀ (L : Seal) (P' : Program) (Q' : AV → Prop), @L = @std → P' = P → Q' = (fun _ => True) → Sat P' Q' (runM T L (S L) (lo L) (lb L) n fn (xs L) (O L) (rts L) (O1 L))) : MCalls P f (xs std) (O std) (resOf (rts std)) (O1 std) :=
  mcalls_of (lo := lo std) (lb := lb std) hf hb hn hc hx hT hS hm (h std _ _ rfl rfl rfl)

def noS : Seal → Sums := fun _ => ⟨fun _ _ => none, fun _ => none⟩
theorem noS_ok (P : Program) : SumsOk P (noS std) := ⟨fun f xs p r h => by (cases h), fun f m h => by cases h⟩
def noA : Seal → Nat → St → Option Ann := fun _ _ _ => none

def tt : TT :=
 (.node (.node (.node (.node (.node (.node (.node .leaf 1 ⟨1, false, [.nilf], .func, false, none, false, false⟩
       .leaf) 2 ⟨1, false, [.int .i64 0], .int .i64, false, none, false, false⟩
      .leaf) 3 ⟨1, false, [.int .i64 0], .int .i64, false, none, false, false⟩
     (.node (.node .leaf 4 ⟨1, false, [.bool false], .bool, false, none, false, false⟩
       .leaf) 5 ⟨1, false, [.int .u8 0], .int .u8, false, none, false, false⟩
      .leaf)) 6 ⟨1, false, [.int .u8 0], .int .u8, false, none, false, false⟩
    (.node (.node (.node .leaf 7 ⟨4, true, [.int .i64 0, .int .i64 0, .bool false, .int .u8 0], .struct [(0, 2), (1, 3), (2, 4), (3, 6)], true, none, false, false⟩
       .leaf) 8 ⟨4, true, [.int .i64 0, .int .i64 0, .bool false, .int .u8 0], .struct [(0, 2), (1, 3), (2, 4), (3, 6)], true, none, false, false⟩
      .leaf) 9 ⟨1, false, [.str []], .str, false, none, false, false⟩
     (.node .leaf 10 ⟨1, false, [.str []], .str, false, none, false, false⟩
      .leaf))) 11 ⟨1, false, [.str []], .str, false, none, false, false⟩
   (.node (.node (.node (.node .leaf 12 ⟨1, false, [.int .u64 0], .int .u64, false, none, false, false⟩
       .leaf) 13 ⟨2, true, [.str [], .int .u64 0], .struct [(0, 9), (1, 12)], false, none, false, false⟩
      .leaf) 14 ⟨2, true, [.str [], .int .u64 0], .struct [(0, 9), (1, 12)], false, none, false, false⟩
     (.node .leaf 15 ⟨1, false, [.nilp], .ptr, false, some 72, false, false⟩
      .leaf)) 16 ⟨1, false, [.nilp], .ptr, false, some 75, false, false⟩
    (.node (.node (.node .leaf 17 ⟨1, false, [.nilp], .ptr, false, some 83, false, false⟩
       .leaf) 18 ⟨1, true, [.nilp], .struct [(0, 17)], false, none, false, false⟩
      .leaf) 19 ⟨1, true, [.nilp], .struct [(0, 17)], false, none, false, false⟩
     (.node .leaf 20 ⟨1, false, [.nili], .iface, false, none, false, false⟩
      .leaf)))) 21 ⟨1, false, [.int .i32 0], .int .i32, false, none, false, false⟩
  (.node (.node (.node (.node (.node .leaf 22 ⟨1, false, [.int .u64 0], .int .u64, false, none, false, false⟩
       .leaf) 23 ⟨1, false, [.nilf], .func, false, none, false, false⟩
      .leaf) 24 ⟨1, false, [.nilf], .func, false, none, false, false⟩
     (.node .leaf 25 ⟨1, false, [.int .i64 0], .int .i64, false, none, false, false⟩
      .leaf)) 27 ⟨1, false, [.nilf], .func, false, none, false, false⟩
    (.node (.node (.node .leaf 29 ⟨1, false, [.nilf], .func, false, none, false, false⟩
       .leaf) 30 ⟨1, false, [.nilf], .func, false, none, false, false⟩
      .leaf) 31 ⟨1, false, [.nilf], .func, false, none, false, false⟩
     (.node .leaf 32 ⟨1, false, [.nili], .iface, false, none, false, false⟩
      .leaf))) 33 ⟨1, false, [.nili], .iface, false, none, false, false⟩
   (.node (.node (.node (.node .leaf 35 ⟨1, false, [.nilf], .func, false, none, false, false⟩
       .leaf) 36 ⟨1, false, [.nils], .slice 5 1 1, false, none, false, false⟩
      .leaf) 37 ⟨1, false, [.int .u64 0], .int .u64, false, none, false, false⟩
     (.node .leaf 38 ⟨1, false, [.nilf], .func, false, none, false, false⟩
      .leaf)) 39 ⟨1, false, [.nilf], .func, false, none, false, false⟩
    (.node (.node (.node .leaf 40 ⟨24, true, [.int .u8 0, .int .u8 0, .int .u8 0, .int .u8 0, .int .u8 0, .int .u8 0, .int .u8 0, .int .u8 0, .int .u8 0, .int .u8 0, .int .u8 0, .int .u8 0, .int .u8 0, .int .u8 0, .int .u8 0, .int .u8 0, .int .u8 0, .int .u8 0, .int .u8 0, .int .u8 0, .int .u8 0, .int .u8 0, .int .u8 0, .int .u8 0], .arr 24 5 1, true, none, false, false⟩
       .leaf) 41 ⟨1, false, [.nilf], .func, false, none, false, false⟩
      .leaf) 42 ⟨1, false, [.nilf], .func, false, none, false, false⟩
     (.node .leaf 44 ⟨1, false, [.nilf], .func, false, none, false, false⟩
      .leaf))))) 45 ⟨1, false, [.int .i64 0], .int .i64, false, none, false, false⟩
 (.node (.node (.node (.node (.node (.node .leaf 46 ⟨1, false, [.nilf], .func, false, none, false, false⟩
       .leaf) 47 ⟨1, false, [.nilf], .func, false, none, false, false⟩
      .leaf) 48 ⟨1, false, [.nilp], .ptr, false, some 60, false, false⟩
     (.node .leaf 49 ⟨1, false, [.nilf], .func, false, none, false, false⟩
      .leaf)) 50 ⟨1, false, [.nilf], .func, false, none, false, false⟩
    (.node (.node (.node .leaf 51 ⟨1, false, [.nilf], .func, false, none, false, false⟩
       .leaf) 52 ⟨1, false, [.nilf], .func, false, none, false, false⟩
      .leaf) 53 ⟨20, true, [.int .u64 0, .int .u64 0, .int .u64 0, .int .u64 0, .int .u64 0, .int .u64 0, .int .u64 0, .int .u64 0, .int .u64 0, .int .u64 0, .int .u64 0, .int .u64 0, .int .u64 0, .int .u64 0, .int .u64 0, .int .u64 0, .int .u64 0, .int .u64 0, .int .u64 0, .int .u64 0], .arr 20 22 1, true, none, false, false⟩
     (.node .leaf 54 ⟨1, false, [.int .u32 0], .int .u32, false, none, false, false⟩
      .leaf))) 55 ⟨65, true, [.int .u8 0, .int .u8 0, .int .u8 0, .int .u8 0, .int .u8 0, .int .u8 0, .int .u8 0, .int .u8 0, .int .u8 0, .int .u8 0, .int .u8 0, .int .u8 0, .int .u8 0, .int .u8 0, .int .u8 0, .int .u8 0, .int .u8 0, .int .u8 0, .int .u8 0, .int .u8 0, .int .u8 0, .int .u8 0, .int .u8 0, .int .u8 0, .int .u8 0, .int .u8 0, .int .u8 0, .int .u8 0, .int .u8 0, .int .u8 0, .int .u8 0, .int .u8 0, .int .u8 0, .int .u8 0, .int .u8 0, .int .u8 0, .int .u8 0, .int .u8 0, .int .u8 0, .int .u8 0, .int .u8 0, .int .u8 0, .int .u8 0, .int .u8 0, .int .u8 0, .int .u8 0, .int .u8 0, .int .u8 0, .int .u8 0, .int .u8 0, .int .u8 0, .int .u8 0, .int .u8 0, .int .u8 0, .int .u8 0, .int .u8 0, .int .u8 0, .int .u8 0, .int .u8 0, .int .u8 0, .int .u8 0, .int .u8 0, .int .u8 0, .int .u8 0, .int .u8 0], .arr 65 5 1, true, none, false, false⟩
   (.node (.node (.node (.node .leaf 56 ⟨1, false, [.nilf], .func, false, none, false, false⟩
       .leaf) 57 ⟨1, false, [.nilf], .func, false, none, false, false⟩
      .leaf) 58 ⟨1, false, [.nilf], .func, false, none, false, false⟩
     (.node .leaf 59 ⟨3, true, [.str [], .str [], .nili], .struct [(0, 9), (1, 9), (2, 33)], false, none, false, false⟩
      .leaf)) 60 ⟨3, true, [.str [], .str [], .nili], .struct [(0, 9), (1, 9), (2, 33)], false, none, false, false⟩
    (.node (.node (.node .leaf 61 ⟨1, false, [.nilf], .func, false, none, false, false⟩
       .leaf) 62 ⟨1, false, [.nilf], .func, false, none, false, false⟩
      .leaf) 63 ⟨1, false, [.nilp], .ptr, false, some 5, false, false⟩
     (.node .leaf 64 ⟨1, false, [.nilp], .ptr, false, some 66, false, false⟩
      .leaf)))) 65 ⟨1, true, [.str []], .struct [(0, 9)], true, none, false, false⟩
  (.node (.node (.node (.node (.node .leaf 66 ⟨1, true, [.str []], .struct [(0, 9)], true, none, false, false⟩
       .leaf) 67 ⟨32, true, [.int .u8 0, .int .u8 0, .int .u8 0, .int .u8 0, .int .u8 0, .int .u8 0, .int .u8 0, .int .u8 0, .int .u8 0, .int .u8 0, .int .u8 0, .int .u8 0, .int .u8 0, .int .u8 0, .int .u8 0, .int .u8 0, .int .u8 0, .int .u8 0, .int .u8 0, .int .u8 0, .int .u8 0, .int .u8 0, .int .u8 0, .int .u8 0, .int .u8 0, .int .u8 0, .int .u8 0, .int .u8 0, .int .u8 0, .int .u8 0, .int .u8 0, .int .u8 0], .arr 32 5 1, true, none, false, false⟩
      .leaf) 68 ⟨64, true, [.int .u8 0, .int .u8 0, .int .u8 0, .int .u8 0, .int .u8 0, .int .u8 0, .int .u8 0, .int .u8 0, .int .u8 0, .int .u8 0, .int .u8 0, .int .u8 0, .int .u8 0, .int .u8 0, .int .u8 0, .int .u8 0, .int .u8 0, .int .u8 0, .int .u8 0, .int .u8 0, .int .u8 0, .int .u8 0, .int .u8 0, .int .u8 0, .int .u8 0, .int .u8 0, .int .u8 0, .int .u8 0, .int .u8 0, .int .u8 0, .int .u8 0, .int .u8 0, .int .u8 0, .int .u8 0, .int .u8 0, .int .u8 0, .int .u8 0, .int .u8 0, .int .u8 0, .int .u8 0, .int .u8 0, .int .u8 0, .int .u8 0, .int .u8 0, .int .u8 0, .int .u8 0, .int .u8 0, .int .u8 0, .int .u8 0, .int .u8 0, .int .u8 0, .int .u8 0, .int .u8 0, .int .u8 0, .int .u8 0, .int .u8 0, .int .u8 0, .int .u8 0, .int .u8 0, .int .u8 0, .int .u8 0, .int .u8 0, .int .u8 0, .int .u8 0], .arr 64 5 1, true, none, false, false⟩
     (.node .leaf 69 ⟨1, false, [.nilf], .func, false, none, false, false⟩
      .leaf)) 70 ⟨1, false, [.nilf], .func, false, none, false, false⟩
    (.node (.node (.node .leaf 71 ⟨4, true, [.nilp, .nilp, .nilp, .str []], .struct [(0, 17), (1, 17), (2, 17), (3, 9)], false, none, false, false⟩
       .leaf) 72 ⟨4, true, [.nilp, .nilp, .nilp, .str []], .struct [(0, 17), (1, 17), (2, 17), (3, 9)], false, none, false, false⟩
      .leaf) 73 ⟨0, true, [], .arr 0 16 1, false, none, false, false⟩
     (.node .leaf 74 ⟨0, true, [], .struct [(0, 73)], false, none, false, false⟩
      .leaf))) 75 ⟨0, true, [], .struct [(0, 73)], false, none, false, false⟩
   (.node (.node (.node (.node .leaf 76 ⟨1, false, [.nilf], .func, false, none, false, false⟩
       .leaf) 77 ⟨1, false, [.int .u8 0], .int .u8, false, none, false, false⟩
      .leaf) 78 ⟨1, false, [.int .u8 0], .int .u8, false, none, false, false⟩
     (.node .leaf 79 ⟨1, false, [.nilf], .func, false, none, false, false⟩
      .leaf)) 80 ⟨1, false, [.int .i32 0], .int .i32, false, none, false, false⟩
    (.node (.node (.node .leaf 81 ⟨1, false, [.int .i32 0], .int .i32, false, none, false, false⟩
       .leaf) 82 ⟨11, true, [.int .u64 0, .int .u64 0, .int .u32 0, .int .u8 0, .int .u8 0, .int .u8 0, .int .u8 0, .nilf, .nilp, .int .i32 0, .int .i32 0], .struct [(0, 12), (1, 12), (2, 54), (3, 77), (4, 5), (5, 5), (6, 78), (7, 79), (8, 63), (9, 80), (10, 81)], false, none, false, false⟩
      .leaf) 83 ⟨11, true, [.int .u64 0, .int .u64 0, .int .u32 0, .int .u8 0, .int .u8 0, .int .u8 0, .int .u8 0, .nilf, .nilp, .int .i32 0, .int .i32 0], .struct [(0, 12), (1, 12), (2, 54), (3, 77), (4, 5), (5, 5), (6, 78), (7, 79), (8, 63), (9, 80), (10, 81)], false, none, false, false⟩
     (.node .leaf 84 ⟨1, false, [.nilp], .other, false, none, true, false⟩
      .leaf))))))
theorem tt_ok : TsOk Tryd.prog tt := tsOk_of (by kernel_rfl)

end Sy
end Go.Proofs.YthlggigjnpldcaaDoor
