/- Chapter 6 (digest): the constants. -/
import Derived.Test.YthlggigjnpldcaaAcC
namespace Go.Proofs.Ythlggigjnpldcaa
namespace Sy
open Go Go.RowKit
set_option maxRecDepth 100000
set_option linter.unusedSimpArgs false
set_option linter.unusedVariables false

def m32 : Int := 4294967295
def mulW (x y : Int) : Int := wmul .u64 (band .u64 x m32) (band .u64 y m32)
def mulT (x y : Int) : Int := wadd .u64 (wmul .u64 (wshr .u64 x 32) (band .u64 y m32)) (wshr .u64 (mulW x y) 32)
def mulU (x y : Int) : Int := wadd .u64 (band .u64 (mulT x y) m32) (wmul .u64 (band .u64 x m32) (wshr .u64 y 32))
def mulH (x y : Int) : Int := wadd .u64 (wadd .u64 (wmul .u64 (wshr .u64 x 32) (wshr .u64 y 32)) (wshr .u64 (mulT x y) 32)) (wshr .u64 (mulU x y) 32)
def mulL (x y : Int) : Int := wmul .u64 x y
def mul_s (L : Seal) : Ent1 := (89, fun xs => match xs with | [.int .u64 x, .int .u64 y] => some (True, .tup [.int .u64 (L2 L mulH x y), .int .u64 (L2 L mulL x y)]) | _ => none)
theorem mul_good : Good Try.prog (mul_s std) := by
  intro xs p r h hp
  dsimp only [mul_s] at h ⊢
  split at h <;> cases h
  try simp only [L2, L3, std] at hp ⊢
  rename_i x y
  refine acalls_L (T := tt) (S := noS) (lo := noA) (lb := noA) 5 (fn := Try.f89) rfl rfl (by kernel_rfl) (by kernel_rfl) rfl tt_ok (noS_ok _) (by kernel_rfl) ?_
  intro L P' Q' hL hP hQ
  (cbv; try simp only [sat_need, sat_must, sat_ite, sat_done, sat_yes, sat_ex, sat_all, sat_sup, sat_and, sat_fail, true_and, and_true])
  subst hL; subst hQ
  refine ⟨rfl, rfl, rfl, rfl, rfl, ?_⟩
  show fits (.tup [.int .u64 (mulH x y), .int .u64 (mulL x y)]) (.tup [.int .u64 (mulH x y), .int .u64 (mulL x y)])
  simp only [sySet]
  trivial
/-- Is y's power above p times 2 to the 96th, to the 64th? -/
def abvB (y p : Int) (three : Bool) : Bool := match three with
  | false => decide (p < mulH y y) || (decide (mulH y y = p) && decide (0 < mulL y y))
  | true => decide (wshl .u64 p 32 < wadd .u64 (wmul .u64 (mulH y y) y) (mulH (mulL y y) y)) || (decide (wadd .u64 (wmul .u64 (mulH y y) y) (mulH (mulL y y) y) = wshl .u64 p 32) && decide (0 < mulL (mulL y y) y))
def abv_s (L : Seal) : Ent1 := (87, fun xs => match xs with | [.int .u64 y, .int .u64 p, .bool t] => some (True, .bool (L3 L abvB y p t)) | _ => none)
theorem abv_good : Good Try.prog (abv_s std) := by
  intro xs p r h hp
  dsimp only [abv_s] at h ⊢
  split at h <;> cases h
  try simp only [L2, L3, std] at hp ⊢
  rename_i y p t
  refine acalls_L (T := tt) (S := fun L => sumOf [mul_s L]) (lo := noA) (lb := noA) 5 (fn := Try.f87) rfl rfl (by kernel_rfl) (by kernel_rfl) rfl tt_ok (sumOf_ok ⟨mul_good, trivial⟩) (by kernel_rfl) ?_
  (intro L P1 Q1 hL hP hQ; cbv; subst hL; simp only [L2, L3, std, sat_need, sat_must, sat_ite, sat_done, sat_yes, sat_ex, sat_all, sat_sup, sat_and, sat_fail]; subst hQ)
  cases t
  · refine ⟨trivial, fun _ => ⟨fun h => ?_, fun h => ⟨fun h2 => ?_, fun h2 => ?_⟩⟩, fun h => by cases h⟩
    all_goals simp only [fits_bool]
    all_goals simp_all [abvB, ilt, ieq]
  · refine ⟨trivial, fun h => (by cases h), fun _ => ⟨trivial, rfl, fun h => ?_, fun h => ⟨rfl, fun h2 => ?_, fun h2 => ?_⟩⟩⟩
    all_goals simp only [fits_bool]
    all_goals simp_all [abvB, ilt, ieq]
/-- The root's bits, f of which are still to come. -/
def lstX (p : Int) (three : Bool) : Nat → Int → Int
  | 0, x => x
  | f + 1, x => lstX p three f (if abvB (bor .u64 x (2 ^ f)) p three = true then x else bor .u64 x (2 ^ f))
/-- k, which no reduction finds out before n is known. -/
def lazyN (k n : Nat) : Nat := k + 0 * n
theorem lazyN_is (k n : Nat) : lazyN k n = k := by rw [lazyN, Nat.zero_mul]; rfl
def leastZ (p : Int) (three : Bool) : Int := lstX p three (lazyN 37 p.toNat) 0 % 4294967296
theorem leastZ_is (p : Int) (three : Bool) : leastZ p three = lstX p three 37 0 % 4294967296 := by rw [leastZ, lazyN_is]
def lstInv (p : Int) (three : Bool) (x : Int × Nat) : Prop := x.2 ≤ 36 ∧ lstX p three (x.2 + 1) x.1 = lstX p three 37 0
def pow2 (f : Nat) : Int := 2 ^ f
def lstA (L : Seal) (p : Int) (t : Bool) : Nat → St → Option Ann := fun id st => match id with
  | 0 => some ⟨Int × Nat, fun x => [(5, .int .u64 (L Prod.fst x)), (6, .int .u64 (L pow2 (L Prod.snd x)))], fun _ => [], [0, 1], [], fun x => L3 L lstInv p t x, fun x => L Prod.snd x⟩
  | _ => none
theorem pow2_half : ∀ f : _root_.Fin 37, wshr .u64 (pow2 f.val) 1 = if f.val = 0 then 0 else pow2 (f.val - 1) := by decide +kernel
theorem pow2_pos (f : Nat) : 0 < pow2 f := by unfold pow2; exact Int.pow_pos (by decide)
theorem lst_half {f : Nat} (h : f ≤ 36) : wshr .u64 (pow2 f) 1 = if f = 0 then 0 else pow2 (f - 1) := pow2_half ⟨f, by omega⟩
theorem lst_next {p : Int} {t : Bool} {x : Int} {f : Nat} (h : lstInv p t (x, f)) (h0 : ¬ f = 0) : lstInv p t ((if abvB (bor .u64 x (pow2 f)) p t = true then x else bor .u64 x (pow2 f)), f - 1) := by
  obtain ⟨h1, h2⟩ := h
  refine ⟨by show f - 1 ≤ 36; have : f ≤ 36 := h1; omega, ?_⟩
  rw [← h2]
  show lstX p t (f - 1 + 1) _ = lstX p t (f + 1) x
  rw [show f - 1 + 1 = f by omega]
  rfl
theorem lst_end {p : Int} {t : Bool} {x : Int} {f : Nat} (h : lstInv p t (x, f)) (h0 : f = 0) : (if abvB (bor .u64 x (pow2 f)) p t = true then x else bor .u64 x (pow2 f)) = lstX p t 37 0 := by
  obtain ⟨h1, h2⟩ := h
  subst h0
  rw [← h2]; rfl
def least_s (L : Seal) : Ent1 := (58, fun xs => match xs with | [.int .u64 p, .bool t] => some (True, .int .u32 (L2 L leastZ p t)) | _ => none)
theorem least_good : Good Try.prog (least_s std) := by
  intro xs p r h hp
  dsimp only [least_s] at h ⊢
  split at h <;> cases h
  try simp only [L2, L3, std] at hp ⊢
  rename_i p t
  refine acalls_L (T := tt) (S := fun L => sumOf [abv_s L]) (lo := noA) (lb := fun L => lstA L p t) 5 (fn := Try.f58) rfl rfl (by kernel_rfl) (by kernel_rfl) rfl tt_ok (sumOf_ok ⟨abv_good, trivial⟩) (by kernel_rfl) ?_
  intro L P' Q' hL hP hQ
  (cbv; try simp only [sat_need, sat_must, sat_ite, sat_done, sat_yes, sat_ex, sat_all, sat_sup, sat_and, sat_fail, true_and, and_true])
  refine ⟨fun x hx => ?_, ⟨(0, 36), ?_⟩⟩
  · cbv at hx
    obtain ⟨y1, hy1⟩ : ∃ y : Int × Nat, y = (bor .u64 x.1 (pow2 x.2), x.2 - 1) := ⟨_, rfl⟩
    obtain ⟨y2, hy2⟩ : ∃ y : Int × Nat, y = (x.1, x.2 - 1) := ⟨_, rfl⟩
    (cbv; try simp only [sat_need, sat_must, sat_ite, sat_done, sat_yes, sat_ex, sat_all, sat_sup, sat_and, sat_fail, true_and, and_true])
    refine ⟨fun h1 => ⟨?_, fun h2 => ⟨y1, ?_⟩, fun h2 => ?_⟩, fun h1 => ⟨?_, fun h2 => ⟨y2, ?_⟩, fun h2 => ?_⟩⟩
    all_goals (try (cbv; try simp only [sat_need, sat_must, sat_ite, sat_done, sat_yes, sat_ex, sat_all, sat_sup, sat_and, sat_fail, true_and, and_true]))
    all_goals (obtain ⟨x, f⟩ := x; (subst hL; subst hQ; simp only [L2, L3, std] at *; try simp only [sySet, reduceCtorEq, forall_const, Int.reduceToNat, Int.reduceAdd, Int.reduceSub, Int.cast_ofNat_Int, Int.toNat_natCast, Nat.le_eq, Nat.sub_eq, ne_eq, Decidable.not_not, implies_true, true_and, and_true, wadd, wsub, wmul, decide_eq_true_eq, decide_eq_false_iff_not, Nat.succ_eq_add_one, imp_false, not_false_eq_true, not_true_eq_false, false_imp_iff, true_imp_iff] at *))
    · decide
    · rw [lst_half hx.1] at h2 ⊢
      have h0 : ¬ f = 0 := by intro h0; rw [if_pos h0] at h2; omega
      have := lst_next hx h0
      rw [if_neg (by simpa using h1)] at this
      rw [if_neg h0, hy1]
      have hf : f ≤ 36 := hx.1
      exact ⟨rfl, rfl, this, by show f - 1 + 1 ≤ f; omega⟩
    · rw [lst_half hx.1] at h2
      have h0 : f = 0 := by
        by_cases h0 : f = 0
        · exact h0
        · rw [if_neg h0] at h2
          exact absurd h2 (by
            have := pow2_pos (f - 1)
            show ¬ pow2 (f - 1) ≤ 0
            omega)
      have := lst_end hx h0
      rw [if_neg (by simpa using h1)] at this
      rw [this, leastZ_is]
    · decide
    · rw [lst_half hx.1] at h2 ⊢
      have h0 : ¬ f = 0 := by intro h0; rw [if_pos h0] at h2; omega
      have := lst_next hx h0
      rw [if_pos (by simpa using h1)] at this
      rw [if_neg h0, hy2]
      exact ⟨rfl, rfl, this, by show f - 1 + 1 ≤ f; omega⟩
    · rw [lst_half hx.1] at h2
      have h0 : f = 0 := by
        by_cases h0 : f = 0
        · exact h0
        · rw [if_neg h0] at h2
          exact absurd h2 (by
            have := pow2_pos (f - 1)
            show ¬ pow2 (f - 1) ≤ 0
            omega)
      have := lst_end hx h0
      rw [if_pos (by simpa using h1)] at this
      rw [this, leastZ_is]
  · (cbv; try simp only [sat_need, sat_must, sat_ite, sat_done, sat_yes, sat_ex, sat_all, sat_sup, sat_and, sat_fail, true_and, and_true])
    (subst hL; subst hQ; simp only [L2, L3, std] at *; try simp only [sySet, reduceCtorEq, forall_const, Int.reduceToNat, Int.reduceAdd, Int.reduceSub, Int.cast_ofNat_Int, Int.toNat_natCast, Nat.le_eq, Nat.sub_eq, ne_eq, Decidable.not_not, implies_true, true_and, and_true, wadd, wsub, wmul, decide_eq_true_eq, decide_eq_false_iff_not, Nat.succ_eq_add_one, imp_false, not_false_eq_true, not_true_eq_false, false_imp_iff, true_imp_iff] at *)
    exact ⟨by decide, by decide, rfl⟩
/-- Is a number one of the primes? -/
def prF (n : Int) : Nat → Int → Bool
  | 0, _ => false
  | f + 1, d => if d * d ≤ n then (if n % d = 0 then false else prF n f (d + 1)) else decide (1 < n)
def primeB (n : Int) : Bool := prF n (lazyN 38 n.toNat) 2
theorem primeB_is (n : Int) : prF n 38 2 = primeB n := by rw [primeB, lazyN_is]
def prInv (n : Int) (d : Nat) : Prop := 2 ≤ d ∧ d ≤ 33 ∧ prF n (40 - d) d = primeB n
def prA (L : Seal) (n : Int) : Nat → St → Option Ann := fun id st => match id with
  | 0 => some ⟨Nat, fun d => [(3, .int .u64 (L natI d))], fun _ => [], [0], [], fun d => L2 L prInv n d, fun d => L (fun d : Nat => 40 - d) d⟩
  | _ => none
def prime_s (L : Seal) : Ent1 := (57, fun xs => match xs with | [.int .u64 n] => some (L (fun n : Int => 0 ≤ n ∧ n ≤ 1000) n, .bool (L primeB n)) | _ => none)
theorem prime_good : Good Try.prog (prime_s std) := by
  intro xs p r h hp
  dsimp only [prime_s] at h ⊢
  split at h <;> cases h
  try simp only [L2, L3, std] at hp ⊢
  rename_i n
  have hn : 0 ≤ n ∧ n ≤ 1000 := hp
  refine acalls_L (T := tt) (S := noS) (lo := fun L => prA L n) (lb := noA) 5 (fn := Try.f57) rfl rfl (by kernel_rfl) (by kernel_rfl) rfl tt_ok (noS_ok _) (by kernel_rfl) ?_
  intro L P' Q' hL hP hQ
  (cbv; try simp only [sat_need, sat_must, sat_ite, sat_done, sat_yes, sat_ex, sat_all, sat_sup, sat_and, sat_fail, true_and, and_true])
  refine ⟨⟨2, ?_⟩, fun d hd => ?_⟩
  · (cbv; try simp only [sat_need, sat_must, sat_ite, sat_done, sat_yes, sat_ex, sat_all, sat_sup, sat_and, sat_fail, true_and, and_true])
    (subst hL; subst hQ; simp only [L2, L3, std] at *; try simp only [sySet, reduceCtorEq, forall_const, Int.reduceToNat, Int.reduceAdd, Int.reduceSub, Int.cast_ofNat_Int, Int.toNat_natCast, Nat.le_eq, Nat.sub_eq, ne_eq, Decidable.not_not, implies_true, true_and, and_true, wadd, wsub, wmul, decide_eq_true_eq, decide_eq_false_iff_not, Nat.succ_eq_add_one, imp_false, not_false_eq_true, not_true_eq_false, false_imp_iff, true_imp_iff] at *)
    exact ⟨by decide, by decide, primeB_is n⟩
  · cbv at hd
    (cbv; try simp only [sat_need, sat_must, sat_ite, sat_done, sat_yes, sat_ex, sat_all, sat_sup, sat_and, sat_fail, true_and, and_true])
    refine ⟨fun h1 => ⟨?_, fun h2 => ?_, fun h2 => ⟨d + 1, ?_⟩⟩, fun h1 => ?_⟩
    all_goals (try (cbv; try simp only [sat_need, sat_must, sat_ite, sat_done, sat_yes, sat_ex, sat_all, sat_sup, sat_and, sat_fail, true_and, and_true]))
    all_goals (subst hL; subst hQ; simp only [L2, L3, std] at *; try simp only [sySet, reduceCtorEq, forall_const, Int.reduceToNat, Int.reduceAdd, Int.reduceSub, Int.cast_ofNat_Int, Int.toNat_natCast, Nat.le_eq, Nat.sub_eq, ne_eq, Decidable.not_not, implies_true, true_and, and_true, wadd, wsub, wmul, decide_eq_true_eq, decide_eq_false_iff_not, Nat.succ_eq_add_one, imp_false, not_false_eq_true, not_true_eq_false, false_imp_iff, true_imp_iff] at *)
    all_goals (obtain ⟨i1, i2, i3⟩ := hd)
    all_goals (have hdd : d * d ≤ 33 * 33 := Nat.mul_le_mul i2 i2)
    all_goals (have hd2 : ((d : Nat) : Int) * ((d : Nat) : Int) = ((d * d : Nat) : Int) := by simp)
    all_goals (rw [show 40 - d = (39 - d) + 1 by omega, prF, hd2] at i3)
    all_goals (try rw [hd2] at h1)
    · omega
    · rw [if_pos (by omega)] at i3
      rw [Int.tmod_eq_emod_of_nonneg hn.1] at h2
      rw [if_pos h2] at i3
      exact i3
    · rw [if_pos (by omega)] at i3
      rw [Int.tmod_eq_emod_of_nonneg hn.1] at h2
      rw [if_neg h2] at i3
      have h31 : d ≤ 31 := by
        apply Nat.le_of_not_lt
        intro h
        have : 32 * 32 ≤ d * d := Nat.mul_le_mul h h
        omega
      refine ⟨by omega, ⟨by omega, by omega, ?_⟩, by omega⟩
      rw [show 40 - (d + 1) = 39 - d by omega, ← i3]
      congr 1
    · rw [if_neg (by omega)] at i3
      rw [← i3]; rfl
end Sy
end Go.Proofs.Ythlggigjnpldcaa
