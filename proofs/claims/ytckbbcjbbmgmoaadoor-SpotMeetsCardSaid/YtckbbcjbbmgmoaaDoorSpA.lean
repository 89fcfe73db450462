/- Chapter 4 (spot): Text, Bytes, Of, Any, Meet, Cmp, Parse; the document's. -/
import Derived.Test.YtckbbcjbbmgmoaaDoorStS
import Derived.Test.YtckbbcjbbmgmoaaDoorWdC
namespace Go.Proofs.YtckbbcjbbmgmoaaDoor
namespace Sy
open Go Go.RowKit
set_option maxRecDepth 100000
set_option linter.unusedSimpArgs false
set_option linter.unusedVariables false

/-- A place. -/
structure Pl where
  a : Int
  b : Int
  c : Int
  d : Int
  p : Int
  deriving DecidableEq
def plA (L : Seal) (x : Pl) : AV := .agg [.int .u8 (L Pl.a x), .int .u8 (L Pl.b x), .int .u8 (L Pl.c x), .int .u8 (L Pl.d x), .int .u16 (L Pl.p x)]
def mkPl (L : Seal) (a b c d p : Int) : Pl := L (L (L (L (L Pl.mk a) b) c) d) p
def plOk (x : Pl) : Prop := (0 ≤ x.a ∧ x.a ≤ 255) ∧ (0 ≤ x.b ∧ x.b ≤ 255) ∧ (0 ≤ x.c ∧ x.c ≤ 255) ∧ (0 ≤ x.d ∧ x.d ≤ 255) ∧ 0 ≤ x.p ∧ x.p ≤ 65535
def ub (n : Int) : UInt8 := UInt8.ofNat n.toNat
def plB (x : Pl) : List UInt8 := [ub x.a, ub x.b, ub x.c, ub x.d, ub (x.p / 256), ub (x.p % 256)]
def plT (x : Pl) : List UInt8 := digZ x.a ++ 46 :: (digZ x.b ++ 46 :: (digZ x.c ++ 46 :: (digZ x.d ++ 58 :: digZ x.p)))
def plAny (x : Pl) : Bool := decide (x.a = 0) && (decide (x.b = 0) && (decide (x.c = 0) && decide (x.d = 0)))
def plMeet (x y : Pl) : Bool := decide (x.p = y.p) && (decide (x.a = y.a ∧ x.b = y.b ∧ x.c = y.c ∧ x.d = y.d) || (plAny x || plAny y))
def plCmp (x y : Pl) : Int := Lib.compareBytes (plB x) (plB y)
theorem ub_mod (n : Nat) : UInt8.ofNat n = UInt8.ofNat (n % 256) := by
  apply UInt8.toNat_inj.1
  rw [UInt8.toNat_ofNat', UInt8.toNat_ofNat']; omega
theorem put_2 {p : Int} (h0 : 0 ≤ p) (h1 : p ≤ 65535) : putZ p 2 = [ub (p / 256), ub (p % 256)] := by
  obtain ⟨n, rfl⟩ := nat_of h0
  show putL n 2 = _
  rw [putL, putL, putL, Nat.pow_one, Nat.pow_zero, Nat.div_one, ub_mod n]
  show _ = [UInt8.ofNat ((n : Int) / 256).toNat, UInt8.ofNat ((n : Int) % 256).toNat]
  rw [show ((n : Int) / 256).toNat = n / 256 by omega, show ((n : Int) % 256).toNat = n % 256 by omega]
theorem ub_nat {n : Int} (h0 : 0 ≤ n) (h1 : n ≤ 255) : ((ub n).toNat : Int) = n := by
  rw [ub, UInt8.toNat_ofNat']; omega
def bytes_s (L : Seal) : Ent1 := (8, fun xs => match xs with
  | [.agg [.int .u8 a, .int .u8 b, .int .u8 c, .int .u8 d, .int .u16 p]] => some (L plOk (mkPl L a b c d p), .str (L plB (mkPl L a b c d p)))
  | _ => none)
theorem bytes_good : Good Tryd.prog (bytes_s std) := by
  intro xs p r h hp
  dsimp only [bytes_s] at h ⊢
  split at h <;> cases h
  try simp only [L2, L3, std] at hp ⊢
  rename_i a b c d p
  have hp : plOk ⟨a, b, c, d, p⟩ := hp
  refine acalls_L (T := tt) (S := fun L => sumOf [put_s L]) (lo := noA) (lb := noA) 5 (fn := Tryd.f8) rfl rfl (by kernel_rfl) (by kernel_rfl) rfl tt_ok (sumOf_ok ⟨put_good, trivial⟩) (by kernel_rfl) ?_
  (intro L P1 Q1 hL hP hQ; cbv; subst hL; simp only [L2, L3, std, sat_need, sat_must, sat_ite, sat_done, sat_yes, sat_ex, sat_all, sat_sup, sat_and, sat_fail]; subst hQ)
  (simp only [sySet, reduceCtorEq, forall_const, Int.reduceToNat, Int.reduceAdd, Int.reduceSub, Int.cast_ofNat_Int, Int.toNat_natCast, Nat.le_eq, Nat.sub_eq, ne_eq, Decidable.not_not, implies_true, true_and, and_true, wadd, wsub, wmul, decide_eq_true_eq, decide_eq_false_iff_not, Nat.succ_eq_add_one, imp_false, not_false_eq_true, not_true_eq_false, false_imp_iff, true_imp_iff])
  obtain ⟨-, -, -, -, h1, h2⟩ := hp
  simp only at h1 h2
  have h2 : p ≤ 65535 := h2
  rw [show p % 18446744073709551616 = p by omega, put_2 h1 h2]
  exact ⟨fun i _ => ⟨_, rfl⟩, ⟨by omega, by omega, by decide, by decide⟩, by simp [bytesOf], rfl⟩
def any_s (L : Seal) : Ent1 := (11, fun xs => match xs with
  | [.agg [.int .u8 a, .int .u8 b, .int .u8 c, .int .u8 d, .int .u16 p]] => some (True, .bool (L plAny (mkPl L a b c d p)))
  | _ => none)
theorem any_good : Good Tryd.prog (any_s std) := by
  intro xs p r h hp
  dsimp only [any_s] at h ⊢
  split at h <;> cases h
  try simp only [L2, L3, std] at hp ⊢
  rename_i a b c d p
  refine acalls_L (T := tt) (S := noS) (lo := noA) (lb := noA) 5 (fn := Tryd.f11) rfl rfl (by kernel_rfl) (by kernel_rfl) rfl tt_ok (noS_ok _) (by kernel_rfl) ?_
  (intro L P1 Q1 hL hP hQ; cbv; subst hL; simp only [L2, L3, std, sat_need, sat_must, sat_ite, sat_done, sat_yes, sat_ex, sat_all, sat_sup, sat_and, sat_fail]; subst hQ)
  (simp only [sySet, reduceCtorEq, forall_const, Int.reduceToNat, Int.reduceAdd, Int.reduceSub, Int.cast_ofNat_Int, Int.toNat_natCast, Nat.le_eq, Nat.sub_eq, ne_eq, Decidable.not_not, implies_true, true_and, and_true, wadd, wsub, wmul, decide_eq_true_eq, decide_eq_false_iff_not, Nat.succ_eq_add_one, imp_false, not_false_eq_true, not_true_eq_false, false_imp_iff, true_imp_iff])
  show _ = (decide (a = 0) && (decide (b = 0) && (decide (c = 0) && decide (d = 0))))
  simp [ieq, Bool.beq_eq_decide_eq]
def meet_s (L : Seal) : Ent1 := (12, fun xs => match xs with
  | [.agg [.int .u8 a, .int .u8 b, .int .u8 c, .int .u8 d, .int .u16 p], .agg [.int .u8 e, .int .u8 f, .int .u8 g, .int .u8 h, .int .u16 q]] => some (True, .bool (L2 L plMeet (mkPl L a b c d p) (mkPl L e f g h q)))
  | _ => none)
theorem meet_good : Good Tryd.prog (meet_s std) := by
  intro xs p r h hp
  dsimp only [meet_s] at h ⊢
  split at h <;> cases h
  try simp only [L2, L3, std] at hp ⊢
  rename_i a b c d p e f g h q
  refine acalls_L (T := tt) (S := fun L => sumOf [any_s L]) (lo := noA) (lb := noA) 5 (fn := Tryd.f12) rfl rfl (by kernel_rfl) (by kernel_rfl) rfl tt_ok (sumOf_ok ⟨any_good, trivial⟩) (by kernel_rfl) ?_
  (intro L P1 Q1 hL hP hQ; cbv; subst hL; simp only [L2, L3, std, sat_need, sat_must, sat_ite, sat_done, sat_yes, sat_ex, sat_all, sat_sup, sat_and, sat_fail]; subst hQ)
  (simp only [sySet, reduceCtorEq, forall_const, Int.reduceToNat, Int.reduceAdd, Int.reduceSub, Int.cast_ofNat_Int, Int.toNat_natCast, Nat.le_eq, Nat.sub_eq, ne_eq, Decidable.not_not, implies_true, true_and, and_true, wadd, wsub, wmul, decide_eq_true_eq, decide_eq_false_iff_not, Nat.succ_eq_add_one, imp_false, not_false_eq_true, not_true_eq_false, false_imp_iff, true_imp_iff])
  show (_ → (_ → true = (decide (p = q) && (decide (a = e ∧ b = f ∧ c = g ∧ d = h) || (plAny ⟨a, b, c, d, p⟩ || plAny ⟨e, f, g, h, q⟩)))) ∧ (_ → (plAny ⟨a, b, c, d, p⟩ = true → true = (decide (p = q) && (decide (a = e ∧ b = f ∧ c = g ∧ d = h) || (plAny ⟨a, b, c, d, p⟩ || plAny ⟨e, f, g, h, q⟩)))) ∧
    (plAny ⟨a, b, c, d, p⟩ = false → plAny ⟨e, f, g, h, q⟩ = (decide (p = q) && (decide (a = e ∧ b = f ∧ c = g ∧ d = h) || (plAny ⟨a, b, c, d, p⟩ || plAny ⟨e, f, g, h, q⟩)))))) ∧ (_ → false = (decide (p = q) && (decide (a = e ∧ b = f ∧ c = g ∧ d = h) || (plAny ⟨a, b, c, d, p⟩ || plAny ⟨e, f, g, h, q⟩))))
  refine ⟨fun h1 => ⟨fun h2 => ?_, fun h2 => ⟨fun h3 => ?_, fun h3 => ?_⟩⟩, fun h1 => ?_⟩
  · simp [h1, h2]
  · subst h1
    rw [h3]; simp
  · have h2 : ¬ (a = e ∧ b = f ∧ c = g ∧ d = h) := fun x => h2 x.1 x.2.1 x.2.2.1 x.2.2.2
    rw [decide_eq_true h1, decide_eq_false h2, h3]; rfl
  · simp [h1]
def cmpP_s (L : Seal) : Ent1 := (10, fun xs => match xs with
  | [.agg [.int .u8 a, .int .u8 b, .int .u8 c, .int .u8 d, .int .u16 p], .agg [.int .u8 e, .int .u8 f, .int .u8 g, .int .u8 h, .int .u16 q]] => some (L plOk (mkPl L a b c d p) ∧ L plOk (mkPl L e f g h q), .int .i64 (L2 L plCmp (mkPl L a b c d p) (mkPl L e f g h q)))
  | _ => none)
theorem cmpP_good : Good Tryd.prog (cmpP_s std) := by
  intro xs p r h hp
  dsimp only [cmpP_s] at h ⊢
  split at h <;> cases h
  try simp only [L2, L3, std] at hp ⊢
  rename_i a b c d p e f g h q
  obtain ⟨p1, p2⟩ : plOk ⟨a, b, c, d, p⟩ ∧ plOk ⟨e, f, g, h, q⟩ := hp
  refine acalls_L (T := tt) (S := fun L => sumOf [bytes_s L, cmp_s L]) (lo := noA) (lb := noA) 5 (fn := Tryd.f10) rfl rfl (by kernel_rfl) (by kernel_rfl) rfl tt_ok (sumOf_ok ⟨bytes_good, cmp_good, trivial⟩) (by kernel_rfl) ?_
  (intro L P1 Q1 hL hP hQ; cbv; subst hL; simp only [L2, L3, std, sat_need, sat_must, sat_ite, sat_done, sat_yes, sat_ex, sat_all, sat_sup, sat_and, sat_fail]; subst hQ)
  (simp only [sySet, reduceCtorEq, forall_const, Int.reduceToNat, Int.reduceAdd, Int.reduceSub, Int.cast_ofNat_Int, Int.toNat_natCast, Nat.le_eq, Nat.sub_eq, ne_eq, Decidable.not_not, implies_true, true_and, and_true, wadd, wsub, wmul, decide_eq_true_eq, decide_eq_false_iff_not, Nat.succ_eq_add_one, imp_false, not_false_eq_true, not_true_eq_false, false_imp_iff, true_imp_iff])
  exact ⟨p1, p2, rfl⟩
/-! ### A place as a text -/
def ipL (x : Pl) : List Int := [x.a, x.b, x.c, x.d]
def ipT (x : Pl) (j : Nat) : List UInt8 := digZ (nthI (ipL x) j)
def le4 (i : Nat) : Prop := i ≤ 4
def to4 (i : Nat) : Nat := 4 - i
def txtA (L : Seal) (x : Pl) : Nat → St → Option Ann := fun id st => match id with
  | 0 => some ⟨Nat, fun i => [(8, .int .i64 (L natI i)), (3, .sl 900 1 0 i)], fun i => [(900, .row 9 1 i (fun j _ => .str (L2 L ipT x j)))], [1, 7], [1], fun i => L le4 i, fun i => L to4 i⟩
  | _ => none
theorem ip_in {x : Pl} (h : plOk x) (j : Nat) : u64In (nthI (ipL x) j) := by
  obtain ⟨h1, h2, h3, h4, -⟩ := h
  match j with
  | 0 => exact ⟨h1.1, by have := h1.2; show x.a < _; omega⟩
  | 1 => exact ⟨h2.1, by have := h2.2; show x.b < _; omega⟩
  | 2 => exact ⟨h3.1, by have := h3.2; show x.c < _; omega⟩
  | 3 => exact ⟨h4.1, by have := h4.2; show x.d < _; omega⟩
  | j + 4 => exact ⟨Int.le_refl 0, (by decide : (0 : Int) < 18446744073709551616)⟩
theorem join4 (x : Pl) : Lib.join [digZ x.a, digZ x.b, digZ x.c, digZ x.d] [46] = digZ x.a ++ 46 :: (digZ x.b ++ 46 :: (digZ x.c ++ 46 :: digZ x.d)) := by
  simp [Lib.join, List.intercalate]
def text_s (L : Seal) : Ent1 := (9, fun xs => match xs with
  | [.agg [.int .u8 a, .int .u8 b, .int .u8 c, .int .u8 d, .int .u16 p]] => some (L plOk (mkPl L a b c d p), .str (L plT (mkPl L a b c d p)))
  | _ => none)
theorem text_good : Good Tryd.prog (text_s std) := by
  intro xs p r h hp
  dsimp only [text_s] at h ⊢
  split at h <;> cases h
  try simp only [L2, L3, std] at hp ⊢
  rename_i a b c d p
  have hp : plOk ⟨a, b, c, d, p⟩ := hp
  refine acalls_L (T := tt) (S := fun L => sumOf [dig_s L, jn_s L]) (lo := fun L => txtA L ⟨a, b, c, d, p⟩) (lb := noA) 5 (fn := Tryd.f9) rfl rfl (by kernel_rfl) (by kernel_rfl) rfl tt_ok (sumOf_ok ⟨dig_good, jn_good, trivial⟩) (by kernel_rfl) ?_
  intro L P' Q' hL hP hQ
  (cbv; try simp only [sat_need, sat_must, sat_ite, sat_done, sat_yes, sat_ex, sat_all, sat_sup, sat_and, sat_fail, true_and, and_true])
  refine ⟨⟨0, ?_⟩, fun i hi => ?_⟩
  · (cbv; try simp only [sat_need, sat_must, sat_ite, sat_done, sat_yes, sat_ex, sat_all, sat_sup, sat_and, sat_fail, true_and, and_true])
    (subst hL; subst hQ; simp only [L2, L3, std] at *; try simp only [sySet, reduceCtorEq, forall_const, Int.reduceToNat, Int.reduceAdd, Int.reduceSub, Int.cast_ofNat_Int, Int.toNat_natCast, Nat.le_eq, Nat.sub_eq, ne_eq, Decidable.not_not, implies_true, true_and, and_true, wadd, wsub, wmul, decide_eq_true_eq, decide_eq_false_iff_not, Nat.succ_eq_add_one, imp_false, not_false_eq_true, not_true_eq_false, false_imp_iff, true_imp_iff] at *)
    exact Nat.zero_le _
  · (cbv; try simp only [sat_need, sat_must, sat_ite, sat_done, sat_yes, sat_ex, sat_all, sat_sup, sat_and, sat_fail, true_and, and_true])
    have hi4 : i ≤ 4 := by
      have hi' := hi
      rw [hL] at hi'
      exact hi'
    refine ⟨fun h1 => ⟨?_, ?_, ?_, i + 1, ?_⟩, fun h1 => ⟨?_, ?_, ?_, ?_, ?_⟩⟩
    · (subst hL; subst hQ; simp only [L2, L3, std] at *; try simp only [sySet, reduceCtorEq, forall_const, Int.reduceToNat, Int.reduceAdd, Int.reduceSub, Int.cast_ofNat_Int, Int.toNat_natCast, Nat.le_eq, Nat.sub_eq, ne_eq, Decidable.not_not, implies_true, true_and, and_true, wadd, wsub, wmul, decide_eq_true_eq, decide_eq_false_iff_not, Nat.succ_eq_add_one, imp_false, not_false_eq_true, not_true_eq_false, false_imp_iff, true_imp_iff] at *)
      omega
    · (subst hL; subst hQ; simp only [L2, L3, std] at *; try simp only [sySet, reduceCtorEq, forall_const, Int.reduceToNat, Int.reduceAdd, Int.reduceSub, Int.cast_ofNat_Int, Int.toNat_natCast, Nat.le_eq, Nat.sub_eq, ne_eq, Decidable.not_not, implies_true, true_and, and_true, wadd, wsub, wmul, decide_eq_true_eq, decide_eq_false_iff_not, Nat.succ_eq_add_one, imp_false, not_false_eq_true, not_true_eq_false, false_imp_iff, true_imp_iff] at *)
      have := ip_in hp i
      show u64In (_ % _)
      rw [show nthI [a, b, c, d] i % 18446744073709551616 = nthI (ipL ⟨a, b, c, d, p⟩) i from Int.emod_eq_of_lt this.1 this.2]
      exact this
    · (subst hL; subst hQ; simp only [L2, L3, std] at *; try simp only [sySet, reduceCtorEq, forall_const, Int.reduceToNat, Int.reduceAdd, Int.reduceSub, Int.cast_ofNat_Int, Int.toNat_natCast, Nat.le_eq, Nat.sub_eq, ne_eq, Decidable.not_not, implies_true, true_and, and_true, wadd, wsub, wmul, decide_eq_true_eq, decide_eq_false_iff_not, Nat.succ_eq_add_one, imp_false, not_false_eq_true, not_true_eq_false, false_imp_iff, true_imp_iff] at *)
      omega
    · (cbv; try simp only [sat_need, sat_must, sat_ite, sat_done, sat_yes, sat_ex, sat_all, sat_sup, sat_and, sat_fail, true_and, and_true])
      (subst hL; subst hQ; simp only [L2, L3, std] at *; try simp only [sySet, reduceCtorEq, forall_const, Int.reduceToNat, Int.reduceAdd, Int.reduceSub, Int.cast_ofNat_Int, Int.toNat_natCast, Nat.le_eq, Nat.sub_eq, ne_eq, Decidable.not_not, implies_true, true_and, and_true, wadd, wsub, wmul, decide_eq_true_eq, decide_eq_false_iff_not, Nat.succ_eq_add_one, imp_false, not_false_eq_true, not_true_eq_false, false_imp_iff, true_imp_iff] at *)
      refine ⟨fun k j hk hj => ?_, by omega, by show i + 1 ≤ 4; omega, by show 4 - (i + 1) + 1 ≤ 4 - i; omega⟩
      by_cases hk' : k < i
      · rw [blt_t hk', show k - i = 0 by omega]; rfl
      · have : k = i := by omega
        subst this
        rw [blt_f (by omega), show k - k = 0 by omega]
        match j, hj with
        | 0, _ =>
          have := ip_in hp k
          show AV.str (digZ (nthI [a, b, c, d] k % 18446744073709551616)) = .str (digZ (nthI (ipL ⟨a, b, c, d, p⟩) k))
          rw [show nthI [a, b, c, d] k % 18446744073709551616 = nthI (ipL ⟨a, b, c, d, p⟩) k from Int.emod_eq_of_lt this.1 this.2]
    all_goals
      (subst hL; subst hQ; simp only [L2, L3, std] at *; try simp only [sySet, reduceCtorEq, forall_const, Int.reduceToNat, Int.reduceAdd, Int.reduceSub, Int.cast_ofNat_Int, Int.toNat_natCast, Nat.le_eq, Nat.sub_eq, ne_eq, Decidable.not_not, implies_true, true_and, and_true, wadd, wsub, wmul, decide_eq_true_eq, decide_eq_false_iff_not, Nat.succ_eq_add_one, imp_false, not_false_eq_true, not_true_eq_false, false_imp_iff, true_imp_iff] at *)
      have h4 : i = 4 := by omega
      subst h4
      have l1 := dig_len (ip_in hp 0)
      have l2 := dig_len (ip_in hp 1)
      have l3 := dig_len (ip_in hp 2)
      have l4 := dig_len (ip_in hp 3)
      have hp5 : 0 ≤ p ∧ p ≤ 65535 := hp.2.2.2.2
      have l5 := dig_len (n := p) ⟨hp5.1, by omega⟩
      have hj : jnZ [46] (.lst 1 4 fun i x => AV.str (ipT ⟨a, b, c, d, p⟩ i)) = digZ a ++ 46 :: (digZ b ++ 46 :: (digZ c ++ 46 :: digZ d)) := join4 ⟨a, b, c, d, p⟩
      have hm : p % 18446744073709551616 = p := by omega
      simp only [nthI, ipL, List.getD_cons_zero, List.getD_cons_succ] at l1 l2 l3 l4
      have hl : (digZ a ++ 46 :: (digZ b ++ 46 :: (digZ c ++ 46 :: digZ d))).length ≤ 100 := by
        simp only [List.length_append, List.length_cons]; omega
    · refine ⟨fun k hk => ⟨_, rfl⟩, by omega, ?_⟩
      have : Lib.join (partsOf 4 fun i x => AV.str (ipT ⟨a, b, c, d, p⟩ i)) [46] = digZ a ++ 46 :: (digZ b ++ 46 :: (digZ c ++ 46 :: digZ d)) := hj
      rw [this]; omega
    · rw [hj, List.length_singleton]; omega
    · rw [hm]; exact ⟨hp5.1, by omega⟩
    · rw [hj, hm, List.length_append, List.length_singleton]; omega
    · rw [hj, hm]
      show _ = plT ⟨a, b, c, d, p⟩
      simp [plT]
/-! ### Bytes as a place -/
def ofE (s : List UInt8) : Int := if s.length = 6 ∧ s.drop 4 ≠ [0, 0] then 0 else 4
def ofP (s : List UInt8) : Pl := if ofE s = 0 then ⟨byteAt s 0, byteAt s 1, byteAt s 2, byteAt s 3, getZ (s.drop 4)⟩ else ⟨0, 0, 0, 0, 0⟩
def of_s (L : Seal) : Ent1 := (15, fun xs => match xs with
  | [.str s] => some (L2 L upto 1000000000 s, .tup [plA L (L ofP s), .int .i64 (L ofE s)])
  | _ => none)
theorem pl_fit {x : Pl} {a b c d p : Int} (h : x = ⟨a, b, c, d, p⟩) : fits1 (plA std x) (.agg [.int .u8 a, .int .u8 b, .int .u8 c, .int .u8 d, .int .u16 p]) := by
  subst h
  show fits1 (.agg [.int .u8 a, .int .u8 b, .int .u8 c, .int .u8 d, .int .u16 p]) _
  simp only [fits1_aggi, fits1_agg0, and_self]
theorem of_good : Good Tryd.prog (of_s std) := by
  intro xs p r h hp
  dsimp only [of_s] at h ⊢
  split at h <;> cases h
  try simp only [L2, L3, std] at hp ⊢
  rename_i s
  have hp : s.length ≤ 1000000000 := hp
  refine acalls_L (T := tt) (S := fun L => sumOf [get_s L]) (lo := noA) (lb := noA) 5 (fn := Tryd.f15) rfl rfl (by kernel_rfl) (by kernel_rfl) rfl tt_ok (sumOf_ok ⟨get_good, trivial⟩) (by kernel_rfl) ?_
  (intro L P1 Q1 hL hP hQ; cbv; subst hL; simp only [L2, L3, std, sat_need, sat_must, sat_ite, sat_done, sat_yes, sat_ex, sat_all, sat_sup, sat_and, sat_fail]; subst hQ)
  (simp only [sySet, reduceCtorEq, forall_const, Int.reduceToNat, Int.reduceAdd, Int.reduceSub, Int.cast_ofNat_Int, Int.toNat_natCast, Nat.le_eq, Nat.sub_eq, ne_eq, Decidable.not_not, implies_true, true_and, and_true, wadd, wsub, wmul, decide_eq_true_eq, decide_eq_false_iff_not, Nat.succ_eq_add_one, imp_false, not_false_eq_true, not_true_eq_false, false_imp_iff, true_imp_iff])
  have bad : ofE s = 4 → fits1 (plA std (ofP s)) (.agg [.int .u8 0, .int .u8 0, .int .u8 0, .int .u8 0, .int .u16 0]) ∧ 4 = ofE s := fun h => ⟨pl_fit (if_neg (by rw [h]; decide)), h.symm⟩
  refine ⟨fun h => bad (if_neg (by omega)), fun h => ⟨by omega, fun h2 => bad (if_neg (fun x => x.2 h2)), fun h2 => ?_⟩⟩
  have hE : ofE s = 0 := if_pos ⟨by omega, h2⟩
  have hl : (s.drop 4).length = 2 := by rw [List.length_drop]; omega
  have hg := getL_lt (s.drop 4)
  rw [hl] at hg
  have hg2 : getZ (s.drop 4) < 65536 := by show ((getL (s.drop 4) : Nat) : Int) < 65536; omega
  have hg0 : 0 ≤ getZ (s.drop 4) := by show 0 ≤ ((getL (s.drop 4) : Nat) : Int); omega
  have hb : ∀ j, j < 4 → byteAt (s.take 4) j = byteAt s j := fun j hj => by
    rw [byteAt, byteAt, List.getD_eq_getElem?_getD, List.getD_eq_getElem?_getD, List.getElem?_take, if_pos hj]
  refine ⟨by omega, ⟨by omega, by omega⟩, by omega, ?_, pl_fit ?_, hE.symm⟩
  · rw [nble_eq, List.length_take]; omega
  · rw [ofP, if_pos hE, hb 0 (by omega), hb 1 (by omega), hb 2 (by omega), hb 3 (by omega), Int.emod_eq_of_lt hg0 hg2]
/-! ### The place of a text -/
def hostS (s : List UInt8) : List (List UInt8) := splitS (cutA s [58]) [46]
def portS (s : List UInt8) : List UInt8 := cutB s [58]
def prtV (s : List UInt8) (k : Nat) : Int := numV (nthS (hostS s) k)
def prtE (s : List UInt8) (k : Nat) : Int := numE (nthS (hostS s) k)
def prtO (s : List UInt8) (k : Nat) : Prop := prtE s k = 0 ∧ prtV s k ≤ 255
def spOk (s : List UInt8) : Prop := cutY s [58] = true ∧ (hostS s).length = 4 ∧ (∀ k, k < 4 → prtO s k) ∧ numE (portS s) = 0 ∧ 1 ≤ numV (portS s) ∧ numV (portS s) ≤ 65535
open Classical in
noncomputable def spE (s : List UInt8) : Int := if spOk s then 0 else 4
noncomputable def spP (s : List UInt8) : Pl := if spE s = 0 then ⟨prtV s 0, prtV s 1, prtV s 2, prtV s 3, numV (portS s)⟩ else ⟨0, 0, 0, 0, 0⟩
theorem split_mem {c : UInt8} : ∀ {s : List UInt8} {x : List UInt8}, x ∈ splitC c s → x.length ≤ s.length
  | [], x, h => by simp [splitC] at h; subst h; exact Nat.le_refl _
  | y :: s, x, h => by
    have ih := fun x h => split_mem (c := c) (s := s) (x := x) h
    unfold splitC at h
    split at h
    · rcases List.mem_cons.1 h with rfl | h
      · exact Nat.zero_le _
      · have := ih x h; simp; omega
    · split at h
      · rename_i z r hs
        rcases List.mem_cons.1 h with rfl | h
        · have := ih z (by rw [hs]; simp); simp; omega
        · have := ih x (by rw [hs]; simp [h]); simp; omega
      · rename_i hs; exact absurd hs (splitC_ne _ _)
theorem nth_len (c : UInt8) (s : List UInt8) (k : Nat) : (nthS (splitC c s) k).length ≤ s.length := by
  rw [nthS, List.getD_eq_getElem?_getD]
  cases h : (splitC c s)[k]? with
  | none => exact Nat.zero_le _
  | some x => exact split_mem (List.mem_of_getElem? h)
theorem num_ge (s : List UInt8) : 0 ≤ numV s := by
  unfold numV
  split
  · exact Int.natCast_nonneg _
  · exact Int.le_refl _
theorem cutA_len (s sep : List UInt8) : (cutA s sep).length ≤ s.length := by
  unfold cutA
  split
  · exact Nat.le_refl _
  · rw [List.length_take]; omega
theorem cutB_len (s sep : List UInt8) : (cutB s sep).length ≤ s.length := by
  unfold cutB
  split
  · exact Nat.zero_le _
  · rw [List.length_drop]; omega
theorem sp_bad {s : List UInt8} (h : ¬ spOk s) : fits1 (plA std (spP s)) (.agg [.int .u8 0, .int .u8 0, .int .u8 0, .int .u8 0, .int .u16 0]) ∧ 4 = spE s := by
  have e : spE s = 4 := if_neg h
  exact ⟨pl_fit (if_neg (by rw [e]; decide)), e.symm⟩
noncomputable def par_s (L : Seal) : Ent1 := (13, fun xs => match xs with
  | [.str s] => some (L2 L upto 1000000 s, .tup [plA L (L spP s), .int .i64 (L spE s)])
  | _ => none)
def ipZ (s : List UInt8) (i k : Nat) : Int := if k < i then prtV s k else 0
def parInv (s : List UInt8) (i : Nat) : Prop := i ≤ 4 ∧ ∀ k, k < i → prtO s k
def parA (L : Seal) (s : List UInt8) : Nat → St → Option Ann := fun id st => match id with
  | 0 => some ⟨Nat, fun i => [(30, .int .i64 (L natI i)), (2, .ref 2 0), (4, .ref 4 0)],
      fun i => [(2, .box 25 [.int .u8 0, .int .u8 0, .int .u8 0, .int .u8 0, .int .u16 0]), (4, .box 25 [.int .u8 (L (L2 L ipZ s i) 0), .int .u8 (L (L2 L ipZ s i) 1), .int .u8 (L (L2 L ipZ s i) 2), .int .u8 (L (L2 L ipZ s i) 3), .int .u16 0])], [8, 28, 29], [],
      fun i => L2 L parInv s i, fun i => L to4 i⟩
  | _ => none
theorem par_good : Good Tryd.prog (par_s std) := by
  intro xs p r h hp
  dsimp only [par_s] at h ⊢
  split at h <;> cases h
  try simp only [L2, L3, std] at hp ⊢
  rename_i s
  have hp : s.length ≤ 1000000 := hp
  refine acalls_L (T := tt) (S := fun L => sumOf [cut_s L, spl_s L, num_s L]) (lo := fun L => parA L s) (lb := noA) 5 (fn := Tryd.f13) rfl rfl (by kernel_rfl) (by kernel_rfl) rfl tt_ok (sumOf_ok ⟨cut_good, spl_good, num_good, trivial⟩) (by kernel_rfl) ?_
  intro L P' Q' hL hP hQ
  have hcl := cutA_len s [58]
  have hbl := cutB_len s [58]
  (cbv; try simp only [sat_need, sat_must, sat_ite, sat_done, sat_yes, sat_ex, sat_all, sat_sup, sat_and, sat_fail, true_and, and_true])
  refine ⟨?_, ?_, fun h => ?_, fun h1 => ⟨fun h => ?_, fun h2 => ⟨⟨0, ?_⟩, fun i hi => ?_⟩⟩⟩
  · (subst hL; subst hQ; simp only [L2, L3, std] at *; try simp only [sySet, reduceCtorEq, forall_const, Int.reduceToNat, Int.reduceAdd, Int.reduceSub, Int.cast_ofNat_Int, Int.toNat_natCast, Nat.le_eq, Nat.sub_eq, ne_eq, Decidable.not_not, implies_true, true_and, and_true, wadd, wsub, wmul, decide_eq_true_eq, decide_eq_false_iff_not, Nat.succ_eq_add_one, imp_false, not_false_eq_true, not_true_eq_false, false_imp_iff, true_imp_iff] at *)
    exact ⟨rfl, by show s.length ≤ _; omega⟩
  · (subst hL; subst hQ; simp only [L2, L3, std] at *; try simp only [sySet, reduceCtorEq, forall_const, Int.reduceToNat, Int.reduceAdd, Int.reduceSub, Int.cast_ofNat_Int, Int.toNat_natCast, Nat.le_eq, Nat.sub_eq, ne_eq, Decidable.not_not, implies_true, true_and, and_true, wadd, wsub, wmul, decide_eq_true_eq, decide_eq_false_iff_not, Nat.succ_eq_add_one, imp_false, not_false_eq_true, not_true_eq_false, false_imp_iff, true_imp_iff] at *)
    exact ⟨rfl, by show (cutA s [58]).length ≤ _; omega⟩
  · (subst hL; subst hQ; simp only [L2, L3, std] at *; try simp only [sySet, reduceCtorEq, forall_const, Int.reduceToNat, Int.reduceAdd, Int.reduceSub, Int.cast_ofNat_Int, Int.toNat_natCast, Nat.le_eq, Nat.sub_eq, ne_eq, Decidable.not_not, implies_true, true_and, and_true, wadd, wsub, wmul, decide_eq_true_eq, decide_eq_false_iff_not, Nat.succ_eq_add_one, imp_false, not_false_eq_true, not_true_eq_false, false_imp_iff, true_imp_iff] at *)
    exact sp_bad fun x => by rw [x.1] at h; cases h
  · (subst hL; subst hQ; simp only [L2, L3, std] at *; try simp only [sySet, reduceCtorEq, forall_const, Int.reduceToNat, Int.reduceAdd, Int.reduceSub, Int.cast_ofNat_Int, Int.toNat_natCast, Nat.le_eq, Nat.sub_eq, ne_eq, Decidable.not_not, implies_true, true_and, and_true, wadd, wsub, wmul, decide_eq_true_eq, decide_eq_false_iff_not, Nat.succ_eq_add_one, imp_false, not_false_eq_true, not_true_eq_false, false_imp_iff, true_imp_iff] at *)
    exact sp_bad fun x => h (by have := x.2.1; show ((hostS s).length : Int) = 4; omega)
  · (cbv; try simp only [sat_need, sat_must, sat_ite, sat_done, sat_yes, sat_ex, sat_all, sat_sup, sat_and, sat_fail, true_and, and_true])
    (subst hL; subst hQ; simp only [L2, L3, std] at *; try simp only [sySet, reduceCtorEq, forall_const, Int.reduceToNat, Int.reduceAdd, Int.reduceSub, Int.cast_ofNat_Int, Int.toNat_natCast, Nat.le_eq, Nat.sub_eq, ne_eq, Decidable.not_not, implies_true, true_and, and_true, wadd, wsub, wmul, decide_eq_true_eq, decide_eq_false_iff_not, Nat.succ_eq_add_one, imp_false, not_false_eq_true, not_true_eq_false, false_imp_iff, true_imp_iff] at *)
    exact ⟨rfl, rfl, rfl, rfl, Nat.zero_le _, fun k hk => by omega⟩
  · cbv at hi
    (cbv; try simp only [sat_need, sat_must, sat_ite, sat_done, sat_yes, sat_ex, sat_all, sat_sup, sat_and, sat_fail, true_and, and_true])
    have hpl : ∀ k, (nthS (hostS s) k).length ≤ 1000000 := fun k => Nat.le_trans (nth_len _ _ k) (by omega)
    refine ⟨fun h3 => ⟨?_, ?_, fun h4 => ?_, fun h4 => ⟨fun h5 => ?_, fun h5 => ⟨?_, i + 1, ?_⟩⟩⟩, fun h3 => ⟨?_, fun h4 => ⟨fun h5 => ⟨fun h6 => ?_, fun h6 => ?_⟩, fun h5 => ?_⟩, fun h4 => ?_⟩⟩
    · (subst hL; subst hQ; simp only [L2, L3, std] at *; try simp only [sySet, reduceCtorEq, forall_const, Int.reduceToNat, Int.reduceAdd, Int.reduceSub, Int.cast_ofNat_Int, Int.toNat_natCast, Nat.le_eq, Nat.sub_eq, ne_eq, Decidable.not_not, implies_true, true_and, and_true, wadd, wsub, wmul, decide_eq_true_eq, decide_eq_false_iff_not, Nat.succ_eq_add_one, imp_false, not_false_eq_true, not_true_eq_false, false_imp_iff, true_imp_iff] at *)
      omega
    · (subst hL; subst hQ; simp only [L2, L3, std] at *; try simp only [sySet, reduceCtorEq, forall_const, Int.reduceToNat, Int.reduceAdd, Int.reduceSub, Int.cast_ofNat_Int, Int.toNat_natCast, Nat.le_eq, Nat.sub_eq, ne_eq, Decidable.not_not, implies_true, true_and, and_true, wadd, wsub, wmul, decide_eq_true_eq, decide_eq_false_iff_not, Nat.succ_eq_add_one, imp_false, not_false_eq_true, not_true_eq_false, false_imp_iff, true_imp_iff] at *)
      exact hpl i
    · (subst hL; subst hQ; simp only [L2, L3, std] at *; try simp only [sySet, reduceCtorEq, forall_const, Int.reduceToNat, Int.reduceAdd, Int.reduceSub, Int.cast_ofNat_Int, Int.toNat_natCast, Nat.le_eq, Nat.sub_eq, ne_eq, Decidable.not_not, implies_true, true_and, and_true, wadd, wsub, wmul, decide_eq_true_eq, decide_eq_false_iff_not, Nat.succ_eq_add_one, imp_false, not_false_eq_true, not_true_eq_false, false_imp_iff, true_imp_iff] at *)
      exact sp_bad fun x => h4 (x.2.2.1 i (by omega)).1
    · (subst hL; subst hQ; simp only [L2, L3, std] at *; try simp only [sySet, reduceCtorEq, forall_const, Int.reduceToNat, Int.reduceAdd, Int.reduceSub, Int.cast_ofNat_Int, Int.toNat_natCast, Nat.le_eq, Nat.sub_eq, ne_eq, Decidable.not_not, implies_true, true_and, and_true, wadd, wsub, wmul, decide_eq_true_eq, decide_eq_false_iff_not, Nat.succ_eq_add_one, imp_false, not_false_eq_true, not_true_eq_false, false_imp_iff, true_imp_iff] at *)
      have h5 : 255 < prtV s i := h5
      exact sp_bad fun x => by have := (x.2.2.1 i (by omega)).2; omega
    · (subst hL; subst hQ; simp only [L2, L3, std] at *; try simp only [sySet, reduceCtorEq, forall_const, Int.reduceToNat, Int.reduceAdd, Int.reduceSub, Int.cast_ofNat_Int, Int.toNat_natCast, Nat.le_eq, Nat.sub_eq, ne_eq, Decidable.not_not, implies_true, true_and, and_true, wadd, wsub, wmul, decide_eq_true_eq, decide_eq_false_iff_not, Nat.succ_eq_add_one, imp_false, not_false_eq_true, not_true_eq_false, false_imp_iff, true_imp_iff] at *)
      omega
    · (cbv; try simp only [sat_need, sat_must, sat_ite, sat_done, sat_yes, sat_ex, sat_all, sat_sup, sat_and, sat_fail, true_and, and_true])
      (subst hL; subst hQ; simp only [L2, L3, std] at *; try simp only [sySet, reduceCtorEq, forall_const, Int.reduceToNat, Int.reduceAdd, Int.reduceSub, Int.cast_ofNat_Int, Int.toNat_natCast, Nat.le_eq, Nat.sub_eq, ne_eq, Decidable.not_not, implies_true, true_and, and_true, wadd, wsub, wmul, decide_eq_true_eq, decide_eq_false_iff_not, Nat.succ_eq_add_one, imp_false, not_false_eq_true, not_true_eq_false, false_imp_iff, true_imp_iff] at *)
      have h4 : prtE s i = 0 := h4
      have h5 : prtV s i ≤ 255 := h5
      have h0 : 0 ≤ prtV s i := num_ge _
      have hm : numV (nthS (splitS (cutA s [58]) [46]) i) % 256 = prtV s i := by
        show prtV s i % 256 = prtV s i
        omega
      rw [hm]
      have cell : ∀ k, (cond (nbeq i k) (prtV s i) (ipZ s i k)) = ipZ s (i + 1) k := by
        intro k
        by_cases hik : i = k
        · subst hik
          rw [beq_same, ipZ, ipZ, if_pos (show i < i + 1 by omega)]; rfl
        · rw [beq_no hik]
          show ipZ s i k = _
          rw [ipZ, ipZ]
          by_cases hlt : k < i
          · rw [if_pos hlt, if_pos (by omega)]
          · rw [if_neg hlt, if_neg (by omega)]
      have hi4 : i < 4 := by omega
      refine ⟨cell 3, cell 2, cell 1, cell 0, by omega, ⟨by omega, fun k hk => ?_⟩, by show 4 - (i + 1) + 1 ≤ 4 - i; omega⟩
      by_cases hki : k = i
      · rw [hki]; exact ⟨h4, h5⟩
      · exact hi.2 k (by omega)
    · (subst hL; subst hQ; simp only [L2, L3, std] at *; try simp only [sySet, reduceCtorEq, forall_const, Int.reduceToNat, Int.reduceAdd, Int.reduceSub, Int.cast_ofNat_Int, Int.toNat_natCast, Nat.le_eq, Nat.sub_eq, ne_eq, Decidable.not_not, implies_true, true_and, and_true, wadd, wsub, wmul, decide_eq_true_eq, decide_eq_false_iff_not, Nat.succ_eq_add_one, imp_false, not_false_eq_true, not_true_eq_false, false_imp_iff, true_imp_iff] at *)
      show (cutB s [58]).length ≤ 1000000
      omega
    all_goals
      (subst hL; subst hQ; simp only [L2, L3, std] at *; try simp only [sySet, reduceCtorEq, forall_const, Int.reduceToNat, Int.reduceAdd, Int.reduceSub, Int.cast_ofNat_Int, Int.toNat_natCast, Nat.le_eq, Nat.sub_eq, ne_eq, Decidable.not_not, implies_true, true_and, and_true, wadd, wsub, wmul, decide_eq_true_eq, decide_eq_false_iff_not, Nat.succ_eq_add_one, imp_false, not_false_eq_true, not_true_eq_false, false_imp_iff, true_imp_iff] at *)
      have hi4 : i = 4 := by have := hi.1; omega
      subst hi4
    · have hok : spOk s := ⟨h1, by show lenS (hostS s) = 4; have h2 : ((lenS (hostS s) : Nat) : Int) = 4 := h2; omega, hi.2, h4, h5, h6⟩
      have hE : spE s = 0 := if_pos hok
      refine ⟨pl_fit ?_, hE.symm⟩
      rw [spP, if_pos hE, show numV (cutB s [58]) % 65536 = numV (cutB s [58]) by omega]
      rfl
    · exact sp_bad fun x => by have := x.2.2.2.2.2; have h6 : 65535 < numV (portS s) := h6; omega
    · exact sp_bad fun x => by have := x.2.2.2.2.1; have h5 : numV (portS s) < 1 := h5; omega
    · exact sp_bad fun x => h4 x.2.2.2.1
end Sy
end Go.Proofs.YtckbbcjbbmgmoaaDoor
