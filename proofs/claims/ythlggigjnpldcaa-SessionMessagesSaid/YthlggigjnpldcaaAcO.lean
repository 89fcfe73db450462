/- Chapter 1: the number that a text begins with; of what is written it is what was written. -/
import Derived.Test.YthlggigjnpldcaaAcN
namespace Go.Proofs.Ythlggigjnpldcaa
namespace Sy
open Go Go.RowKit
set_option maxRecDepth 100000
set_option linter.unusedSimpArgs false
set_option linter.unusedVariables false

def cb (s : List UInt8) (i : Nat) : Nat := (s.getD i 0).toNat
theorem cb_lt (s : List UInt8) (i : Nat) : cb s i < 256 := UInt8.toNat_lt _
/-- The number, the bytes it takes, the error: at byte i, n so far. -/
def lng (s : List UInt8) : Nat → Nat → Nat → Nat × Nat × Nat
  | 0, _, _ => (0, 0, 4)
  | f + 1, i, n =>
    if s.length ≤ i then (0, 0, 3)
    else if i = 9 ∧ 1 < cb s i then (0, 0, 4)
    else if 128 ≤ cb s i then lng s f (i + 1) (n + cb s i % 128 * 2 ^ (7 * i))
    else if 0 < cb s i ∨ i = 0 then (n + cb s i % 128 * 2 ^ (7 * i), i + 1, 0)
    else (0, 0, 4)
def lngN (s : List UInt8) : Int := (lng s 10 0 0).1
def lngK (s : List UInt8) : Int := (lng s 10 0 0).2.1
def lngE (s : List UInt8) : Int := (lng s 10 0 0).2.2
def lngInv (s : List UInt8) (x : Nat × Nat) : Prop := x.1 ≤ s.length ∧ x.1 ≤ 9 ∧ x.2 < 2 ^ (7 * x.1) ∧ lng s (10 - x.1) x.1 x.2 = lng s 10 0 0
theorem bor_add {n m i : Nat} (hn : n < 2 ^ i) (hm : m * 2 ^ i < 2 ^ 64) (hn' : n < 2 ^ 64) : bor .u64 (n : Int) ((m * 2 ^ i : Nat) : Int) = ((n + m * 2 ^ i : Nat) : Int) := by
  have e : n ||| m * 2 ^ i = n + m * 2 ^ i := by
    have := Nat.shiftLeft_add_eq_or_of_lt hn m
    rw [Nat.shiftLeft_eq] at this
    rw [Nat.or_comm, ← this, Nat.add_comm]
  have hlt : n ||| m * 2 ^ i < 2 ^ 64 := Nat.or_lt_two_pow hn' hm
  unfold bor
  rw [show IntKind.u64.bits = 64 from rfl, BitVec.ofInt_natCast, BitVec.ofInt_natCast, BitVec.toNat_or, BitVec.toNat_ofNat, BitVec.toNat_ofNat, Nat.mod_eq_of_lt hn', Nat.mod_eq_of_lt hm, w_u64, ← e]
  omega
theorem shl_at {c i : Nat} (h : c * 2 ^ (7 * i) < 2 ^ 64) (hi : i ≤ 9) : wshl .u64 (c : Int) (7 * (i : Int)) = ((c * 2 ^ (7 * i) : Nat) : Int) := by
  unfold wshl
  rw [show (7 * (i : Int)).toNat = 7 * i by omega, show IntKind.u64.bits = 64 from rfl, Nat.min_eq_left (by omega), w_u64]
  have e : ((c : Int) * 2 ^ (7 * i)) = ((c * 2 ^ (7 * i) : Nat) : Int) := by simp
  rw [e]
  omega
theorem pow9 {i : Nat} (hi : i ≤ 9) : 2 ^ (7 * i) ≤ 2 ^ 63 := Nat.pow_le_pow_right (by decide) (by omega)
/-- A byte more. -/
theorem lng_bits {c i n : Nat} (hi : i ≤ 9) (hn : n < 2 ^ (7 * i)) (hc : c < 256) (h9 : ¬ (i = 9 ∧ 1 < c)) : n + c % 128 * 2 ^ (7 * i) < 2 ^ (7 * (i + 1)) ∧ n + c % 128 * 2 ^ (7 * i) < 2 ^ 64 ∧ c % 128 * 2 ^ (7 * i) < 2 ^ 64 ∧ n < 2 ^ 64 := by
  have h1 := pow9 hi
  have e : 2 ^ (7 * (i + 1)) = 128 * 2 ^ (7 * i) := by rw [show 7 * (i + 1) = 7 + 7 * i by omega, Nat.pow_add]
  have h2 : c % 128 * 2 ^ (7 * i) ≤ 127 * 2 ^ (7 * i) := Nat.mul_le_mul_right _ (by omega)
  rw [e]
  refine ⟨by omega, ?_⟩
  by_cases h : i = 9
  · subst h
    have : c ≤ 1 := by omega
    have h3 : c % 128 * 2 ^ (7 * 9) ≤ 1 * 2 ^ (7 * 9) := Nat.mul_le_mul_right _ (by omega)
    omega
  · have h3 : 2 ^ (7 * i) ≤ 2 ^ 56 := Nat.pow_le_pow_right (by decide) (by omega)
    omega
theorem lng_or {c i n : Nat} (hi : i ≤ 9) (hn : n < 2 ^ (7 * i)) (hc : c < 256) (h9 : ¬ (i = 9 ∧ 1 < c)) : bor .u64 (n : Int) (wshl .u64 ((c : Int) % 128) (7 * (i : Int))) = ((n + c % 128 * 2 ^ (7 * i) : Nat) : Int) := by
  obtain ⟨_, _, h3, h4⟩ := lng_bits hi hn hc h9
  rw [show ((c : Int) % 128) = ((c % 128 : Nat) : Int) by omega, shl_at h3 hi, bor_add hn h3 h4]
theorem lng_step {s : List UInt8} {i n : Nat} (hx : lngInv s (i, n)) : lng s 10 0 0 = if s.length ≤ i then (0, 0, 3)
    else if i = 9 ∧ 1 < cb s i then (0, 0, 4)
    else if 128 ≤ cb s i then lng s (9 - i) (i + 1) (n + cb s i % 128 * 2 ^ (7 * i))
    else if 0 < cb s i ∨ i = 0 then (n + cb s i % 128 * 2 ^ (7 * i), i + 1, 0)
    else (0, 0, 4) := by
  obtain ⟨h1, h2, h3, h4⟩ := hx
  rw [← h4]
  simp only at h2 ⊢
  rw [show 10 - i = (9 - i) + 1 by omega, lng]
theorem lng_is {s : List UInt8} {a b c : Nat} (h : lng s 10 0 0 = (a, b, c)) : (a : Int) = lngN s ∧ (b : Int) = lngK s ∧ (c : Int) = lngE s := by
  unfold lngN lngK lngE
  rw [h]
  exact ⟨rfl, rfl, rfl⟩
theorem lng_1 {s : List UInt8} {i n : Nat} (hx : lngInv s (i, n)) (h : (i : Int) = (s.length : Int)) : 0 = lngN s ∧ 0 = lngK s ∧ 3 = lngE s := by
  have := lng_step hx
  rw [if_pos (by omega)] at this
  exact lng_is this
theorem cb_is (s : List UInt8) (i : Nat) : ((s.getD i 0).toNat : Int) % 18446744073709551616 = (cb s i : Int) := by
  have := cb_lt s i
  unfold cb at *
  omega
theorem lng_2 {s : List UInt8} {i n : Nat} (hx : lngInv s (i, n)) (h : ¬ (i : Int) = (s.length : Int)) (h9 : (i : Int) = 9) (hc : 1 < ((s.getD i 0).toNat : Int) % 18446744073709551616) : 0 = lngN s ∧ 0 = lngK s ∧ 4 = lngE s := by
  have := lng_step hx
  have h1 := hx.1
  rw [cb_is] at hc
  simp only at h1
  rw [if_neg (by omega), if_pos ⟨by omega, by omega⟩] at this
  exact lng_is this
theorem lng_x {s : List UInt8} {i n : Nat} (hx : lngInv s (i, n)) (h9 : ¬ (i = 9 ∧ 1 < cb s i)) : bor .u64 (n : Int) (wshl .u64 ((((s.getD i 0).toNat : Int) % 18446744073709551616).tmod 128) ((7 * (i : Int) + 9223372036854775808) % 18446744073709551616 - 9223372036854775808)) = ((n + cb s i % 128 * 2 ^ (7 * i) : Nat) : Int) := by
  have h1 := hx.2.1
  have h2 := hx.2.2.1
  simp only at h1 h2
  rw [cb_is, Int.tmod_eq_emod_of_nonneg (by omega), show (7 * (i : Int) + 9223372036854775808) % 18446744073709551616 - 9223372036854775808 = 7 * (i : Int) by omega]
  exact lng_or h1 h2 (cb_lt s i) h9
theorem lng_3 {s : List UInt8} {i n : Nat} (hx : lngInv s (i, n)) (h : ¬ (i : Int) = (s.length : Int)) (h9 : ¬ (i = 9 ∧ 1 < cb s i)) (hm : 128 ≤ ((s.getD i 0).toNat : Int) % 18446744073709551616) : lngInv s (i + 1, n + cb s i % 128 * 2 ^ (7 * i)) ∧ 10 - (i + 1) + 1 ≤ 10 - i ∧ i ≤ 8 := by
  have h0 := lng_step hx
  have h1 := hx.2.1
  have h2 := hx.2.2.1
  have h3 := hx.1
  rw [cb_is] at hm
  simp only at h1 h2 h3
  rw [if_neg (by omega), if_neg h9, if_pos (by omega)] at h0
  refine ⟨⟨?_, ?_, (lng_bits h1 h2 (cb_lt s i) h9).1, ?_⟩, by omega, by omega⟩
  · simp only; omega
  · simp only; omega
  · simp only
    rw [h0]; congr 1; omega
theorem lng_4 {s : List UInt8} {i n : Nat} (hx : lngInv s (i, n)) (h : ¬ (i : Int) = (s.length : Int)) (h9 : ¬ (i = 9 ∧ 1 < cb s i)) (hm : ((s.getD i 0).toNat : Int) % 18446744073709551616 < 128) (hp : 0 < cb s i ∨ i = 0) :
    bor .u64 (n : Int) (wshl .u64 ((((s.getD i 0).toNat : Int) % 18446744073709551616).tmod 128) ((7 * (i : Int) + 9223372036854775808) % 18446744073709551616 - 9223372036854775808)) = lngN s ∧
      ((i : Int) + 1 + 9223372036854775808) % 18446744073709551616 - 9223372036854775808 = lngK s ∧ 0 = lngE s := by
  have h0 := lng_step hx
  have h1 := hx.2.1
  have h3 := hx.1
  rw [cb_is] at hm
  simp only at h1 h3
  rw [if_neg (by omega), if_neg h9, if_neg (by omega), if_pos hp] at h0
  obtain ⟨e1, e2, e3⟩ := lng_is h0
  rw [lng_x hx h9]
  exact ⟨e1, by rw [← e2]; omega, e3⟩
theorem lng_5 {s : List UInt8} {i n : Nat} (hx : lngInv s (i, n)) (h : ¬ (i : Int) = (s.length : Int)) (h9 : ¬ (i = 9 ∧ 1 < cb s i)) (hm : ((s.getD i 0).toNat : Int) % 18446744073709551616 < 128) (hp : ((s.getD i 0).toNat : Int) % 18446744073709551616 ≤ 0)
    (h1 : ¬ ((i : Int) + 1 + 9223372036854775808) % 18446744073709551616 - 9223372036854775808 = 1) : 0 = lngN s ∧ 0 = lngK s ∧ 4 = lngE s := by
  have h0 := lng_step hx
  have h2 := hx.2.1
  have h3 := hx.1
  rw [cb_is] at hm hp
  simp only at h2 h3
  rw [if_neg (by omega), if_neg h9, if_neg (by omega), if_neg (by omega)] at h0
  exact lng_is h0
def lngA (L : Seal) (s : List UInt8) : Nat → St → Option Ann := fun id st => match id with
  | 0 => some ⟨Nat × Nat, fun x => [(6, .int .i64 (L natI (L Prod.fst x))), (5, .int .u64 (L natI (L Prod.snd x)))], fun _ => [], [0], [],
      fun x => L2 L lngInv s x, fun x => L (fun x : Nat × Nat => 10 - x.1) x⟩
  | _ => none
def lng_s (L : Seal) : Ent1 := (54, fun xs => match xs with | [.str s] => some (True, .tup [.int .u64 (L lngN s), .int .i64 (L lngK s), .int .i64 (L lngE s)]) | _ => none)
theorem lng_good : Good Try.prog (lng_s std) := by
  intro xs p r h hp
  dsimp only [lng_s] at h ⊢
  split at h <;> cases h
  try simp only [L2, L3, std] at hp ⊢
  rename_i s
  refine acalls_L (T := tt) (S := noS) (lo := noA) (lb := fun L => lngA L s) 5 (fn := Try.f54) rfl rfl (by kernel_rfl) (by kernel_rfl) rfl tt_ok (noS_ok _) (by kernel_rfl) ?_
  intro L P' Q' hL hP hQ
  (cbv; try simp only [sat_need, sat_must, sat_ite, sat_done, sat_yes, sat_ex, sat_all, sat_sup, sat_and, sat_fail, true_and, and_true])
  refine ⟨fun x hx => ?_, ⟨(0, 0), ?_⟩⟩
  · cbv at hx
    obtain ⟨i, n⟩ := x
    (cbv; try simp only [sat_need, sat_must, sat_ite, sat_done, sat_yes, sat_ex, sat_all, sat_sup, sat_and, sat_fail, true_and, and_true])
    obtain ⟨m, hm'⟩ : ∃ m, m = n + cb s i % 128 * 2 ^ (7 * i) := ⟨_, rfl⟩
    refine ⟨fun h => ?_, fun h => ⟨?_, fun h9 => ⟨fun hc => ?_, fun hc => ⟨?_, ?_, fun hm => ⟨(i + 1, m), ?_⟩, fun hm => ⟨fun hp => ?_, fun hp => ⟨fun h1 => ?_, fun h1 => ?_⟩⟩⟩⟩,
      fun h9 => ⟨?_, ?_, fun hm => ⟨(i + 1, m), ?_⟩, fun hm => ⟨fun hp => ?_, fun hp => ⟨fun h1 => ?_, fun h1 => ?_⟩⟩⟩⟩⟩
    · (subst hL; subst hQ; simp only [L2, L3, std] at *; try simp only [sySet, reduceCtorEq, forall_const, Int.reduceToNat, Int.reduceAdd, Int.reduceSub, Int.cast_ofNat_Int, Int.toNat_natCast, Nat.le_eq, Nat.sub_eq, ne_eq, Decidable.not_not, implies_true, true_and, and_true, wadd, wsub, wmul, decide_eq_true_eq, decide_eq_false_iff_not, Nat.succ_eq_add_one, imp_false, not_false_eq_true, not_true_eq_false, false_imp_iff, true_imp_iff] at *)
      exact lng_1 hx h
    · (subst hL; subst hQ; simp only [L2, L3, std] at *; try simp only [sySet, reduceCtorEq, forall_const, Int.reduceToNat, Int.reduceAdd, Int.reduceSub, Int.cast_ofNat_Int, Int.toNat_natCast, Nat.le_eq, Nat.sub_eq, ne_eq, Decidable.not_not, implies_true, true_and, and_true, wadd, wsub, wmul, decide_eq_true_eq, decide_eq_false_iff_not, Nat.succ_eq_add_one, imp_false, not_false_eq_true, not_true_eq_false, false_imp_iff, true_imp_iff] at *)
      have := hx.1
      simp only at this
      omega
    · (subst hL; subst hQ; simp only [L2, L3, std] at *; try simp only [sySet, reduceCtorEq, forall_const, Int.reduceToNat, Int.reduceAdd, Int.reduceSub, Int.cast_ofNat_Int, Int.toNat_natCast, Nat.le_eq, Nat.sub_eq, ne_eq, Decidable.not_not, implies_true, true_and, and_true, wadd, wsub, wmul, decide_eq_true_eq, decide_eq_false_iff_not, Nat.succ_eq_add_one, imp_false, not_false_eq_true, not_true_eq_false, false_imp_iff, true_imp_iff] at *)
      exact lng_2 hx h h9 hc
    · (subst hL; subst hQ; simp only [L2, L3, std] at *; try simp only [sySet, reduceCtorEq, forall_const, Int.reduceToNat, Int.reduceAdd, Int.reduceSub, Int.cast_ofNat_Int, Int.toNat_natCast, Nat.le_eq, Nat.sub_eq, ne_eq, Decidable.not_not, implies_true, true_and, and_true, wadd, wsub, wmul, decide_eq_true_eq, decide_eq_false_iff_not, Nat.succ_eq_add_one, imp_false, not_false_eq_true, not_true_eq_false, false_imp_iff, true_imp_iff] at *)
      decide
    · (subst hL; subst hQ; simp only [L2, L3, std] at *; try simp only [sySet, reduceCtorEq, forall_const, Int.reduceToNat, Int.reduceAdd, Int.reduceSub, Int.cast_ofNat_Int, Int.toNat_natCast, Nat.le_eq, Nat.sub_eq, ne_eq, Decidable.not_not, implies_true, true_and, and_true, wadd, wsub, wmul, decide_eq_true_eq, decide_eq_false_iff_not, Nat.succ_eq_add_one, imp_false, not_false_eq_true, not_true_eq_false, false_imp_iff, true_imp_iff] at *)
      have := hx.2.1
      simp only at this
      rw [Int.emod_eq_of_lt (by omega) (by omega)]
      omega
    · (cbv; try simp only [sat_need, sat_must, sat_ite, sat_done, sat_yes, sat_ex, sat_all, sat_sup, sat_and, sat_fail, true_and, and_true])
      (subst hL; subst hQ; simp only [L2, L3, std] at *; try simp only [sySet, reduceCtorEq, forall_const, Int.reduceToNat, Int.reduceAdd, Int.reduceSub, Int.cast_ofNat_Int, Int.toNat_natCast, Nat.le_eq, Nat.sub_eq, ne_eq, Decidable.not_not, implies_true, true_and, and_true, wadd, wsub, wmul, decide_eq_true_eq, decide_eq_false_iff_not, Nat.succ_eq_add_one, imp_false, not_false_eq_true, not_true_eq_false, false_imp_iff, true_imp_iff] at *)
      rw [cb_is] at hc
      exact absurd hm (by rw [cb_is]; omega)
    · (subst hL; subst hQ; simp only [L2, L3, std] at *; try simp only [sySet, reduceCtorEq, forall_const, Int.reduceToNat, Int.reduceAdd, Int.reduceSub, Int.cast_ofNat_Int, Int.toNat_natCast, Nat.le_eq, Nat.sub_eq, ne_eq, Decidable.not_not, implies_true, true_and, and_true, wadd, wsub, wmul, decide_eq_true_eq, decide_eq_false_iff_not, Nat.succ_eq_add_one, imp_false, not_false_eq_true, not_true_eq_false, false_imp_iff, true_imp_iff] at *)
      rw [cb_is] at hc
      exact lng_4 hx h (by omega) hm (by rw [cb_is] at hp; omega)
    · (subst hL; subst hQ; simp only [L2, L3, std] at *; try simp only [sySet, reduceCtorEq, forall_const, Int.reduceToNat, Int.reduceAdd, Int.reduceSub, Int.cast_ofNat_Int, Int.toNat_natCast, Nat.le_eq, Nat.sub_eq, ne_eq, Decidable.not_not, implies_true, true_and, and_true, wadd, wsub, wmul, decide_eq_true_eq, decide_eq_false_iff_not, Nat.succ_eq_add_one, imp_false, not_false_eq_true, not_true_eq_false, false_imp_iff, true_imp_iff] at *)
      rw [cb_is] at hc
      have := hx.2.1
      simp only at this
      exact lng_4 hx h (by omega) hm (by omega)
    · (subst hL; subst hQ; simp only [L2, L3, std] at *; try simp only [sySet, reduceCtorEq, forall_const, Int.reduceToNat, Int.reduceAdd, Int.reduceSub, Int.cast_ofNat_Int, Int.toNat_natCast, Nat.le_eq, Nat.sub_eq, ne_eq, Decidable.not_not, implies_true, true_and, and_true, wadd, wsub, wmul, decide_eq_true_eq, decide_eq_false_iff_not, Nat.succ_eq_add_one, imp_false, not_false_eq_true, not_true_eq_false, false_imp_iff, true_imp_iff] at *)
      rw [cb_is] at hc
      exact lng_5 hx h (by omega) hm hp h1
    · (subst hL; subst hQ; simp only [L2, L3, std] at *; try simp only [sySet, reduceCtorEq, forall_const, Int.reduceToNat, Int.reduceAdd, Int.reduceSub, Int.cast_ofNat_Int, Int.toNat_natCast, Nat.le_eq, Nat.sub_eq, ne_eq, Decidable.not_not, implies_true, true_and, and_true, wadd, wsub, wmul, decide_eq_true_eq, decide_eq_false_iff_not, Nat.succ_eq_add_one, imp_false, not_false_eq_true, not_true_eq_false, false_imp_iff, true_imp_iff] at *)
      decide
    · (subst hL; subst hQ; simp only [L2, L3, std] at *; try simp only [sySet, reduceCtorEq, forall_const, Int.reduceToNat, Int.reduceAdd, Int.reduceSub, Int.cast_ofNat_Int, Int.toNat_natCast, Nat.le_eq, Nat.sub_eq, ne_eq, Decidable.not_not, implies_true, true_and, and_true, wadd, wsub, wmul, decide_eq_true_eq, decide_eq_false_iff_not, Nat.succ_eq_add_one, imp_false, not_false_eq_true, not_true_eq_false, false_imp_iff, true_imp_iff] at *)
      have := hx.2.1
      simp only at this
      rw [Int.emod_eq_of_lt (by omega) (by omega)]
      omega
    · (cbv; try simp only [sat_need, sat_must, sat_ite, sat_done, sat_yes, sat_ex, sat_all, sat_sup, sat_and, sat_fail, true_and, and_true])
      (subst hL; subst hQ; simp only [L2, L3, std] at *; try simp only [sySet, reduceCtorEq, forall_const, Int.reduceToNat, Int.reduceAdd, Int.reduceSub, Int.cast_ofNat_Int, Int.toNat_natCast, Nat.le_eq, Nat.sub_eq, ne_eq, Decidable.not_not, implies_true, true_and, and_true, wadd, wsub, wmul, decide_eq_true_eq, decide_eq_false_iff_not, Nat.succ_eq_add_one, imp_false, not_false_eq_true, not_true_eq_false, false_imp_iff, true_imp_iff] at *)
      obtain ⟨q1, q2, q3⟩ := lng_3 hx h (by omega) hm
      rw [lng_x hx (by omega), hm']
      exact ⟨rfl, by omega, q1, q2⟩
    · (subst hL; subst hQ; simp only [L2, L3, std] at *; try simp only [sySet, reduceCtorEq, forall_const, Int.reduceToNat, Int.reduceAdd, Int.reduceSub, Int.cast_ofNat_Int, Int.toNat_natCast, Nat.le_eq, Nat.sub_eq, ne_eq, Decidable.not_not, implies_true, true_and, and_true, wadd, wsub, wmul, decide_eq_true_eq, decide_eq_false_iff_not, Nat.succ_eq_add_one, imp_false, not_false_eq_true, not_true_eq_false, false_imp_iff, true_imp_iff] at *)
      exact lng_4 hx h (by omega) hm (by rw [cb_is] at hp; omega)
    · (subst hL; subst hQ; simp only [L2, L3, std] at *; try simp only [sySet, reduceCtorEq, forall_const, Int.reduceToNat, Int.reduceAdd, Int.reduceSub, Int.cast_ofNat_Int, Int.toNat_natCast, Nat.le_eq, Nat.sub_eq, ne_eq, Decidable.not_not, implies_true, true_and, and_true, wadd, wsub, wmul, decide_eq_true_eq, decide_eq_false_iff_not, Nat.succ_eq_add_one, imp_false, not_false_eq_true, not_true_eq_false, false_imp_iff, true_imp_iff] at *)
      have := hx.2.1
      simp only at this
      exact lng_4 hx h (by omega) hm (by omega)
    · (subst hL; subst hQ; simp only [L2, L3, std] at *; try simp only [sySet, reduceCtorEq, forall_const, Int.reduceToNat, Int.reduceAdd, Int.reduceSub, Int.cast_ofNat_Int, Int.toNat_natCast, Nat.le_eq, Nat.sub_eq, ne_eq, Decidable.not_not, implies_true, true_and, and_true, wadd, wsub, wmul, decide_eq_true_eq, decide_eq_false_iff_not, Nat.succ_eq_add_one, imp_false, not_false_eq_true, not_true_eq_false, false_imp_iff, true_imp_iff] at *)
      exact lng_5 hx h (by omega) hm hp h1
  · (cbv; try simp only [sat_need, sat_must, sat_ite, sat_done, sat_yes, sat_ex, sat_all, sat_sup, sat_and, sat_fail, true_and, and_true])
    (subst hL; subst hQ; simp only [L2, L3, std] at *; try simp only [sySet, reduceCtorEq, forall_const, Int.reduceToNat, Int.reduceAdd, Int.reduceSub, Int.cast_ofNat_Int, Int.toNat_natCast, Nat.le_eq, Nat.sub_eq, ne_eq, Decidable.not_not, implies_true, true_and, and_true, wadd, wsub, wmul, decide_eq_true_eq, decide_eq_false_iff_not, Nat.succ_eq_add_one, imp_false, not_false_eq_true, not_true_eq_false, false_imp_iff, true_imp_iff] at *)
    exact ⟨Nat.zero_le _, by omega, by simp, rfl⟩
end Sy
end Go.Proofs.Ythlggigjnpldcaa
