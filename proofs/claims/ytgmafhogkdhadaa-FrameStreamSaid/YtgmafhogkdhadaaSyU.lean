/- The symbolic executor: at this seat's program. -/
import Derived.Test.YtgmafhogkdhadaaSyX
namespace Go.Proofs.Ytgmafhogkdhadaa
namespace Sy
open Go Go.RowKit
set_option maxRecDepth 100000
set_option linter.unusedSimpArgs false

section
variable {P : Program} {Q : AV → Prop}
theorem sat_need {b : Bool} {k : Tree} : Sat P Q (.need b k) ↔ b = true ∧ Sat P Q k := ⟨fun h => by cases h with | need h hk => exact ⟨h, hk⟩, fun h => .need h.1 h.2⟩
theorem sat_must {p : Prop} {k : Tree} : Sat P Q (.must p k) ↔ p ∧ Sat P Q k := ⟨fun h => by cases h with | must h hk => exact ⟨h, hk⟩, fun h => .must h.1 h.2⟩
theorem sat_ite {b : Bool} {t e : Tree} : Sat P Q (.ite b t e) ↔ (b = true → Sat P Q t) ∧ (b = false → Sat P Q e) := ⟨fun h => by cases h with | ite h hk => exact ⟨h, hk⟩, fun h => .ite h.1 h.2⟩
theorem sat_done {r : AV} : Sat P Q (.done r) ↔ Q r := ⟨fun h => by cases h with | done h => exact h, fun h => .done h⟩
theorem sat_yes : Sat P Q .yes ↔ True := ⟨fun _ => trivial, fun _ => .yes⟩
theorem sat_ex {X : Type} {f : X → Tree} : Sat P Q (.ex X f) ↔ ∃ x, Sat P Q (f x) := ⟨fun h => by cases h with | ex x h => exact ⟨x, h⟩, fun ⟨x, h⟩ => .ex x h⟩
theorem sat_all {X : Type} {f : X → Tree} : Sat P Q (.all X f) ↔ ∀ x, Sat P Q (f x) := ⟨fun h => by cases h with | all h => exact h, fun h => .all h⟩
theorem sat_sup {p : Prop} {k : Tree} : Sat P Q (.sup p k) ↔ (p → Sat P Q k) := ⟨fun h => by cases h with | sup h => exact h, fun h => .sup h⟩
theorem sat_and {a b : Tree} : Sat P Q (.and a b) ↔ Sat P Q a ∧ Sat P Q b := ⟨fun h => by cases h with | and h hk => exact ⟨h, hk⟩, fun h => .and h.1 h.2⟩
theorem sat_fail {n : Nat} : Sat P Q (.fail n) ↔ False := ⟨fun h => (by cases h), fun h => h.elim⟩
end

/-- A function's answer, the leaf operations sealed. -/
theorem acalls_L {P : Program} {T : TT} {S : Seal → Sums} {lo lb : Seal → Nat → St → Option Ann} (n : Nat) {f : FuncId} {fn : Func} {c : Code} {xs : List AV} {r : AV} (hf : P.funcs[f]? = some fn) (hb : fn.body = some c) (hn : (fn.name == "runtime.NumGoroutine") = false)
    (hc : codeOk fn.ntmps c = true) (hx : Nat.ble xs.length fn.ntmps = true) (hT : TsOk P T) (hS : SumsOk P (S std)) (hm : P.follows .mixedOrders = true)
    (h : ∀ (L : Seal) (P' : Program) (Q' : AV → Prop), @L = @std → P' = P → Q' = fits r → Sat P' Q' (runF T L (S L) (lo L) (lb L) n fn xs)) : ACalls P f xs r :=
  acalls_of (lo := lo std) (lb := lb std) hf hb hn hc hx hT hS hm (h std _ _ rfl rfl rfl)

/-- The same, the arguments sealed too. -/
theorem acalls_L' {P : Program} {T : TT} {S : Seal → Sums} {lo lb : Seal → Nat → St → Option Ann} (n : Nat) {f : FuncId} {fn : Func} {c : Code} {xs : Seal → List AV} {r : AV} (hf : P.funcs[f]? = some fn) (hb : fn.body = some c) (hn : (fn.name == "runtime.NumGoroutine") = false)
    (hc : codeOk fn.ntmps c = true) (hx : Nat.ble (xs std).length fn.ntmps = true) (hT : TsOk P T) (hS : SumsOk P (S std)) (hm : P.follows .mixedOrders = true)
    (h : ∀ (L : Seal) (P' : Program) (Q' : AV → Prop), @L = @std → P' = P → Q' = fits r → Sat P' Q' (runF T L (S L) (lo L) (lb L) n fn (xs L))) : ACalls P f (xs std) r :=
  acalls_of (lo := lo std) (lb := lb std) hf hb hn hc hx hT hS hm (h std _ _ rfl rfl rfl)

def noS : Seal → Sums := fun _ _ _ => none
theorem noS_ok (P : Program) : SumsOk P (noS std) := fun f xs p r h => by cases h
def noA : Seal → Nat → St → Option Ann := fun _ _ _ => none

def tt : TT :=
 (.node (.node (.node (.node (.node (.node (.node .leaf 1 ⟨1, false, [.nilf], .func, false⟩
       .leaf) 2 ⟨1, false, [.int .i64 0], .int .i64, false⟩
      .leaf) 3 ⟨1, false, [.int .i64 0], .int .i64, false⟩
     (.node (.node .leaf 4 ⟨1, false, [.bool false], .bool, false⟩
       .leaf) 5 ⟨1, false, [.int .u8 0], .int .u8, false⟩
      .leaf)) 6 ⟨1, false, [.int .u8 0], .int .u8, false⟩
    (.node (.node (.node .leaf 7 ⟨4, true, [.int .i64 0, .int .i64 0, .bool false, .int .u8 0], .struct [(0, 2), (1, 3), (2, 4), (3, 6)], true⟩
       .leaf) 8 ⟨4, true, [.int .i64 0, .int .i64 0, .bool false, .int .u8 0], .struct [(0, 2), (1, 3), (2, 4), (3, 6)], true⟩
      .leaf) 9 ⟨1, false, [.str []], .str, false⟩
     (.node (.node .leaf 10 ⟨1, false, [.str []], .str, false⟩
       .leaf) 11 ⟨1, false, [.str []], .str, false⟩
      .leaf))) 12 ⟨1, false, [.int .u64 0], .int .u64, false⟩
   (.node (.node (.node (.node .leaf 13 ⟨2, true, [.str [], .int .u64 0], .struct [(0, 9), (1, 12)], false⟩
       .leaf) 14 ⟨2, true, [.str [], .int .u64 0], .struct [(0, 9), (1, 12)], false⟩
      .leaf) 15 ⟨1, false, [.nilp], .ptr, false⟩
     (.node (.node .leaf 16 ⟨1, false, [.nilp], .ptr, false⟩
       .leaf) 17 ⟨1, false, [.nilp], .ptr, false⟩
      .leaf)) 18 ⟨1, true, [.nilp], .struct [(0, 17)], false⟩
    (.node (.node (.node .leaf 19 ⟨1, true, [.nilp], .struct [(0, 17)], false⟩
       .leaf) 20 ⟨1, false, [.dead], .other, false⟩
      .leaf) 21 ⟨1, false, [.int .i32 0], .int .i32, false⟩
     (.node .leaf 22 ⟨1, false, [.int .u64 0], .int .u64, false⟩
      .leaf)))) 23 ⟨1, false, [.nilf], .func, false⟩
  (.node (.node (.node (.node (.node .leaf 24 ⟨1, false, [.nilf], .func, false⟩
       .leaf) 25 ⟨1, false, [.nilf], .func, false⟩
      .leaf) 26 ⟨1, false, [.nilf], .func, false⟩
     (.node (.node .leaf 27 ⟨1, false, [.nilf], .func, false⟩
       .leaf) 28 ⟨1, false, [.nilf], .func, false⟩
      .leaf)) 29 ⟨1, false, [.int .i64 0], .int .i64, false⟩
    (.node (.node (.node .leaf 31 ⟨1, false, [.nilf], .func, false⟩
       .leaf) 32 ⟨1, false, [.nilf], .func, false⟩
      .leaf) 33 ⟨1, false, [.nilf], .func, false⟩
     (.node .leaf 34 ⟨1, false, [.int .u32 0], .int .u32, false⟩
      .leaf))) 35 ⟨1, false, [.int .u64 0], .int .u64, false⟩
   (.node (.node (.node (.node .leaf 36 ⟨1, false, [.nilf], .func, false⟩
       .leaf) 37 ⟨1, false, [.nilf], .func, false⟩
      .leaf) 38 ⟨1, false, [.nilf], .func, false⟩
     (.node (.node .leaf 39 ⟨1, false, [.nilf], .func, false⟩
       .leaf) 40 ⟨1, false, [.nilf], .func, false⟩
      .leaf)) 41 ⟨1, false, [.int .u16 0], .int .u16, false⟩
    (.node (.node (.node .leaf 42 ⟨1, false, [.nils], .slice 5 1 1, false⟩
       .leaf) 43 ⟨1, false, [.nilf], .func, false⟩
      .leaf) 44 ⟨1, false, [.nilf], .func, false⟩
     (.node .leaf 46 ⟨1, false, [.nilf], .func, false⟩
      .leaf))))) 47 ⟨1, false, [.nilf], .func, false⟩
 (.node (.node (.node (.node (.node (.node .leaf 48 ⟨1, false, [.nilf], .func, false⟩
       .leaf) 49 ⟨1, false, [.nilf], .func, false⟩
      .leaf) 50 ⟨3, true, [.int .u64 0, .int .u64 0, .int .i64 0], .struct [(0, 22), (1, 22), (2, 3)], true⟩
     (.node (.node .leaf 51 ⟨3, true, [.int .u64 0, .int .u64 0, .int .i64 0], .struct [(0, 22), (1, 22), (2, 3)], true⟩
       .leaf) 52 ⟨1, false, [.nilf], .func, false⟩
      .leaf)) 53 ⟨1, false, [.nilf], .func, false⟩
    (.node (.node (.node .leaf 54 ⟨1, false, [.nilf], .func, false⟩
       .leaf) 55 ⟨1, false, [.nilf], .func, false⟩
      .leaf) 56 ⟨1, false, [.nilf], .func, false⟩
     (.node .leaf 57 ⟨3, true, [.int .i64 0, .int .u64 0, .str []], .struct [(0, 3), (1, 22), (2, 9)], true⟩
      .leaf))) 58 ⟨3, true, [.int .i64 0, .int .u64 0, .str []], .struct [(0, 3), (1, 22), (2, 9)], true⟩
   (.node (.node (.node (.node .leaf 59 ⟨1, false, [.nilf], .func, false⟩
       .leaf) 61 ⟨1, false, [.nilf], .func, false⟩
      .leaf) 62 ⟨3, true, [.int .i64 0, .int .u64 0, .str []], .struct [(0, 3), (1, 22), (2, 9)], true⟩
     (.node (.node .leaf 64 ⟨1, false, [.nilf], .func, false⟩
       .leaf) 66 ⟨1, false, [.nilf], .func, false⟩
      .leaf)) 67 ⟨1, false, [.nilf], .func, false⟩
    (.node (.node (.node .leaf 69 ⟨1, false, [.nilf], .func, false⟩
       .leaf) 70 ⟨1, false, [.nilf], .func, false⟩
      .leaf) 71 ⟨1, false, [.nilf], .func, false⟩
     (.node .leaf 72 ⟨1, false, [.nils], .slice 58 3 32, false⟩
      .leaf)))) 74 ⟨1, false, [.nilf], .func, false⟩
  (.node (.node (.node (.node (.node .leaf 75 ⟨1, false, [.nilf], .func, false⟩
       .leaf) 76 ⟨1, false, [.nils], .slice 3 1 8, false⟩
      .leaf) 77 ⟨1, false, [.nilf], .func, false⟩
     (.node (.node .leaf 78 ⟨1, false, [.nils], .slice 9 1 16, false⟩
       .leaf) 79 ⟨1, false, [.nilf], .func, false⟩
      .leaf)) 80 ⟨1, false, [.nilf], .func, false⟩
    (.node (.node (.node .leaf 81 ⟨4, true, [.nilp, .nilp, .nilp, .str []], .struct [(0, 17), (1, 17), (2, 17), (3, 9)], false⟩
       .leaf) 82 ⟨4, true, [.nilp, .nilp, .nilp, .str []], .struct [(0, 17), (1, 17), (2, 17), (3, 9)], false⟩
      .leaf) 83 ⟨0, true, [], .arr 0 16 1, false⟩
     (.node .leaf 84 ⟨0, true, [], .struct [(0, 83)], false⟩
      .leaf))) 85 ⟨0, true, [], .struct [(0, 83)], false⟩
   (.node (.node (.node (.node .leaf 86 ⟨1, false, [.nilf], .func, false⟩
       .leaf) 87 ⟨1, false, [.int .u8 0], .int .u8, false⟩
      .leaf) 88 ⟨1, false, [.int .u8 0], .int .u8, false⟩
     (.node (.node .leaf 89 ⟨1, false, [.nilf], .func, false⟩
       .leaf) 90 ⟨1, false, [.nilp], .ptr, false⟩
      .leaf)) 91 ⟨1, false, [.int .i32 0], .int .i32, false⟩
    (.node (.node (.node .leaf 92 ⟨1, false, [.int .i32 0], .int .i32, false⟩
       .leaf) 93 ⟨11, true, [.int .u64 0, .int .u64 0, .int .u32 0, .int .u8 0, .int .u8 0, .int .u8 0, .int .u8 0, .nilf, .nilp, .int .i32 0, .int .i32 0], .struct [(0, 12), (1, 12), (2, 34), (3, 87), (4, 5), (5, 5), (6, 88), (7, 89), (8, 90), (9, 91), (10, 92)], false⟩
      .leaf) 94 ⟨11, true, [.int .u64 0, .int .u64 0, .int .u32 0, .int .u8 0, .int .u8 0, .int .u8 0, .int .u8 0, .nilf, .nilp, .int .i32 0, .int .i32 0], .struct [(0, 12), (1, 12), (2, 34), (3, 87), (4, 5), (5, 5), (6, 88), (7, 89), (8, 90), (9, 91), (10, 92)], false⟩
     (.node .leaf 95 ⟨1, false, [.nilp], .other, false⟩
      .leaf))))))
theorem tt_ok : TsOk Try.prog tt := tsOk_of (by kernel_rfl)

theorem size_ac (x : Int) (h0 : 0 ≤ x) (h1 : x ≤ 1000000) : ACalls Try.prog 44 [.int .i64 x] (.int .i64 (x + 20)) := by
  refine acalls_L (T := tt) (S := noS) (lo := noA) (lb := noA) 5 (fn := Try.f44) rfl rfl (by kernel_rfl) (by kernel_rfl) rfl tt_ok (noS_ok _) (by kernel_rfl) ?_
  (intro L P1 Q1 hL hP hQ; cbv; subst hL; simp only [L2, L3, std, sat_need, sat_must, sat_ite, sat_done, sat_yes, sat_ex, sat_all, sat_sup, sat_and, sat_fail]; subst hQ)
  (simp only [ilt_t, ilt_f, ile_t, ile_f, ieq_t, ieq_f, ine_t, ine_f, seq_t, seq_f, inR_t, inS_t, inC_t, mkOk_t, roomOk_t, catOk_t, fits_bool, fits_int, fits_str, fits1_bool, fits1_int, fits1_str, fits_tup, fitsL_cons, fitsL_nil, slen_is, scat_is, ssub_is, sidx_is, natI_is, imin_is, imax_is, Bool.not_eq_true', Bool.not_eq_false', Bool.and_eq_true, Bool.and_eq_false_imp, Bool.or_eq_true, Bool.or_eq_false_iff, decide_eq_true_eq, decide_eq_false_iff_not, true_and, and_true, reduceCtorEq, imp_false, not_false_eq_true, not_true_eq_false, false_imp_iff, true_imp_iff, forall_const, implies_true, Bool.not_true, Bool.not_false, ne_eq, Decidable.not_not, wadd, wsub, wmul, w_i64, w_i32, w_u64, w_u32, w_u16, w_u8, Nat.succ_eq_add_one, Nat.le_eq, Nat.sub_eq, Int.cast_ofNat_Int, Int.toNat_natCast, Int.reduceToNat, Int.reduceAdd, Int.reduceSub, Int.zero_add, lenN_is, fits3_is, nadd0, fits1_agg0, fits1_aggi, fits1_aggs, fits1_aggb, fits_agg0, fits_aggi, fits_aggs, fits_aggb, fits1_lst, fits_lst, fits1_nils, fits_nils, fits1_aggl, fits1_aggn])
  omega
end Sy
end Go.Proofs.Ytgmafhogkdhadaa
