/- Chapters 1, 7, 19, the document's answers: the number by sevens, the value, the message that a text is. -/
import Derived.Test.YthlggigjnpldcaaAcY
namespace Go.Proofs.Ythlggigjnpldcaa
namespace Sy
open Go Go.RowKit
set_option maxRecDepth 100000
set_option linter.unusedSimpArgs false
set_option linter.unusedVariables false

def decN : List UInt8 → Nat → Nat
  | _, 0 => 0
  | [], _ + 1 => 0
  | b :: r, k + 1 => b.toNat % 128 + 128 * decN r k
theorem cb_cons (b : UInt8) (r : List UInt8) (i : Nat) : cb (b :: r) (i + 1) = cb r i := rfl
theorem cb_zero (b : UInt8) (r : List UInt8) : cb (b :: r) 0 = b.toNat := rfl
theorem decN_succ : ∀ (k : Nat) (s : List UInt8), decN s (k + 1) = decN s k + cb s k % 128 * 128 ^ k
  | 0, [] => by simp [decN, cb]
  | 0, b :: r => by simp [decN, cb_zero]
  | k + 1, [] => by simp [decN, cb]
  | k + 1, b :: r => by
    have := decN_succ k r
    rw [decN, decN, cb_cons, this, Nat.mul_add, Nat.pow_succ]
    have e : 128 * (cb r k % 128 * 128 ^ k) = cb r k % 128 * (128 ^ k * 128) := by
      rw [Nat.mul_comm 128, Nat.mul_assoc]
    omega
theorem decN_lt (s : List UInt8) : ∀ k, decN s k < 128 ^ k
  | 0 => by cases s <;> simp [decN]
  | k + 1 => by
    have := decN_lt s k
    rw [decN_succ, Nat.pow_succ]
    have h : cb s k % 128 * 128 ^ k ≤ 127 * 128 ^ k := Nat.mul_le_mul_right _ (by omega)
    omega
theorem decN_pos : ∀ (k : Nat) (s : List UInt8), cb s k < 128 → 0 < cb s k → 0 < decN s (k + 1) := by
  intro k s h h0
  rw [decN_succ]
  have h1 : 0 < 128 ^ k := Nat.pow_pos (by decide)
  have : 0 < cb s k % 128 * 128 ^ k := Nat.mul_pos (by omega) h1
  omega
theorem canon : ∀ (k : Nat) (s : List UInt8), k < s.length → (∀ j, j < k → 128 ≤ cb s j) → cb s k < 128 → (0 < cb s k ∨ k = 0) → shortL (decN s (k + 1)) = s.take (k + 1)
  | _, [], h, _, _, _ => by simp at h
  | 0, b :: r, h, ha, hc, h0 => by
    rw [cb_zero] at hc
    rw [decN, decN, shortL_small (by omega), List.take_succ_cons, List.take_zero]
    congr 1
    apply UInt8.toNat_inj.1
    simp; omega
  | k + 1, b :: r, h, ha, hc, h0 => by
    rw [cb_cons] at hc h0
    have hp : 0 < cb r k := by omega
    have h2 := decN_pos k r hc hp
    have hb := ha 0 (by omega)
    rw [cb_zero] at hb
    have hb' := b.toNat_lt
    have ih := canon k r (by simpa using h) (fun j hj => by have := ha (j + 1) (by omega); rwa [cb_cons] at this) hc (.inl hp)
    rw [decN, shortL_big (by omega), show (b.toNat % 128 + 128 * decN r (k + 1)) / 128 = decN r (k + 1) by omega, ih, List.take_succ_cons]
    congr 1
    apply UInt8.toNat_inj.1
    simp; omega
theorem lng_run {s : List UInt8} : ∀ k, k ≤ 9 → k ≤ s.length → (∀ j, j < k → 128 ≤ cb s j) → lng s 10 0 0 = lng s (10 - k) k (decN s k)
  | 0, _, _, _ => by cases s <;> rfl
  | k + 1, h9, hl, ha => by
    rw [lng_run k (by omega) (by omega) (fun j hj => ha j (by omega)), show 10 - k = (10 - (k + 1)) + 1 by omega, lng, if_neg (by omega), if_neg (by omega), if_pos (ha k (by omega)), decN_succ, show (2 : Nat) ^ (7 * k) = 128 ^ k by rw [Nat.pow_mul]]
theorem lng_stop {s : List UInt8} {k : Nat} (h9 : k ≤ 9) (hl : k < s.length) (ha : ∀ j, j < k → 128 ≤ cb s j) (hc : cb s k < 128) :
    lng s 10 0 0 = if k = 9 ∧ 1 < cb s k then (0, 0, 4) else if 0 < cb s k ∨ k = 0 then (decN s (k + 1), k + 1, 0) else (0, 0, 4) := by
  rw [lng_run k h9 (by omega) ha, show 10 - k = (9 - k) + 1 by omega, lng, if_neg (by omega)]
  by_cases h : k = 9 ∧ 1 < cb s k
  · rw [if_pos h, if_pos h]
  · rw [if_neg h, if_neg h, if_neg (by omega), decN_succ, show (2 : Nat) ^ (7 * k) = 128 ^ k by rw [Nat.pow_mul]]
theorem lng_long {s : List UInt8} (hl : 9 < s.length) (ha : ∀ j, j < 10 → 128 ≤ cb s j) : ¬ lngE s = 0 := by
  unfold lngE
  rw [lng_run 9 (by omega) (by omega) (fun j hj => ha j (by omega)), lng, if_neg (by omega), if_pos ⟨rfl, by have := ha 9 (by omega); omega⟩]
  decide
theorem lng_end {s : List UInt8} (hl : s.length ≤ 9) (ha : ∀ j, j < s.length → 128 ≤ cb s j) : ¬ lngE s = 0 := by
  unfold lngE
  rw [lng_run s.length hl (Nat.le_refl _) ha, show 10 - s.length = (9 - s.length) + 1 by omega, lng, if_pos (Nat.le_refl _)]
  decide
def dgS (s : List UInt8) (i : Nat) : Int := ((decN s i % 18446744073709551616 : Nat) : Int)
def unitZ (i : Nat) : Int := ((128 ^ i % 18446744073709551616 : Nat) : Int)
/-- A number by sevens stands there just if it is written so. -/
theorem rl_is {s : List UInt8} {k : Nat} (h9 : k ≤ 9) (hl : k < s.length) (ha : ∀ j, j < k → 128 ≤ cb s j) (hc : cb s k < 128) :
    (shortZ (dgS s (k + 1)) = s.take (k + 1) ↔ lngE s = 0) ∧ (lngE s = 0 → lngN s = dgS s (k + 1) ∧ lngK s = (k : Int) + 1) := by
  have hs := lng_stop h9 hl ha hc
  have hso : shortOk (dgS s (k + 1)) := ⟨by unfold dgS; omega, by unfold dgS; omega⟩
  have fwd : shortZ (dgS s (k + 1)) = s.take (k + 1) → lngE s = 0 := by
    intro h
    have := (lng_of hso (s.drop (k + 1))).2.2
    rwa [h, List.take_append_drop] at this
  have bwd : lngE s = 0 → (0 < cb s k ∨ k = 0) ∧ ¬ (k = 9 ∧ 1 < cb s k) := by
    intro h
    unfold lngE at h
    rw [hs] at h
    by_cases h1 : k = 9 ∧ 1 < cb s k
    · rw [if_pos h1] at h; exact absurd h (by decide)
    · rw [if_neg h1] at h
      by_cases h2 : 0 < cb s k ∨ k = 0
      · exact ⟨h2, h1⟩
      · rw [if_neg h2] at h; exact absurd h (by decide)
  have val : lngE s = 0 → dgS s (k + 1) = (decN s (k + 1) : Int) := by
    intro h
    obtain ⟨h2, h1⟩ := bwd h
    have hb : decN s (k + 1) < 18446744073709551616 := by
      have hd := decN_lt s k
      rw [decN_succ]
      by_cases hk : k = 9
      · subst hk
        have : cb s 9 % 128 * 128 ^ 9 ≤ 1 * 128 ^ 9 := Nat.mul_le_mul_right _ (by omega)
        omega
      · have h8 : 128 ^ k ≤ 128 ^ 8 := Nat.pow_le_pow_right (by decide) (by omega)
        have : cb s k % 128 * 128 ^ k ≤ 127 * 128 ^ k := Nat.mul_le_mul_right _ (by omega)
        omega
    unfold dgS
    rw [Nat.mod_eq_of_lt hb]
  refine ⟨⟨fwd, fun h => ?_⟩, fun h => ?_⟩
  · have hb := bwd h
    have hv := val h
    unfold shortZ
    rw [hv, Int.toNat_natCast]
    exact canon k s hl ha hc hb.1
  · have hb := bwd h
    have hv := val h
    unfold lngN lngK
    rw [hs, if_neg hb.2, if_pos hb.1, hv]
    exact ⟨rfl, by show ((k + 1 : Nat) : Int) = _; omega⟩
def allBig (s : List UInt8) : Prop := s.length < 10 ∧ ∀ j, j < s.length → 128 ≤ cb s j
open Classical in
noncomputable def rlE (s : List UInt8) : Int := if lngE s = 0 then 0 else if allBig s then 3 else 4
def rlN (s : List UInt8) : Int := if lngE s = 0 then lngN s else 0
def rlK (s : List UInt8) : Int := if lngE s = 0 then lngK s else 0
noncomputable def rlong_s (L : Seal) : Ent1 := (101, fun xs => match xs with | [.str s] => some (L2 L upto 900000 s, .tup [.int .u64 (L rlN s), .int .i64 (L rlK s), .int .i64 (L rlE s)]) | _ => none)
def rlInv (s : List UInt8) (z : Nat) : Prop := 1 ≤ z ∧ z ≤ s.length + 1 ∧ ∀ j, j < z - 1 → 128 ≤ cb s j
def leZ (z : Int) (i : Nat) : Prop := (i : Int) ≤ z
def lefZ (z : Int) (i : Nat) : Nat := (z - i).toNat
theorem dg_step (s : List UInt8) (i : Nat) : unitZ i * 128 % 18446744073709551616 = unitZ (i + 1) ∧
    (dgS s i + (((s.getD i 0).toNat : Int).tmod 128 % 18446744073709551616 * unitZ i % 18446744073709551616)) % 18446744073709551616 = dgS s (i + 1) := by
  have a : ((s.getD i 0).toNat : Int).tmod 128 % 18446744073709551616 = ((cb s i % 128 : Nat) : Int) := by
    rw [Int.tmod_eq_emod_of_nonneg (by omega)]
    unfold cb; omega
  have m : (18446744073709551616 : Int) = ((18446744073709551616 : Nat) : Int) := rfl
  constructor
  · unfold unitZ
    rw [m, show (128 : Int) = ((128 : Nat) : Int) from rfl, ← Int.natCast_mul, ← Int.natCast_emod, Nat.pow_succ]
    congr 1
    simp [Nat.mul_mod]
  · rw [a]
    unfold dgS unitZ
    rw [m, ← Int.natCast_mul, ← Int.natCast_emod, ← Int.natCast_add, ← Int.natCast_emod, decN_succ]
    congr 1
    simp [Nat.add_mod, Nat.mul_mod]
def rlA (L : Seal) (s : List UInt8) : Nat → St → Option Ann := fun id st => match id with
  | 0 => some ⟨Nat, fun z => [(5, .int .i64 (L natI z))], fun _ => [], [0], [], fun z => L2 L rlInv s z, fun z => L2 L (fun (s : List UInt8) (z : Nat) => s.length + 1 - z) s z⟩
  | 2 => withInt st 5 fun z => some ⟨Nat, fun i => [(8, .int .i64 (L natI i)), (6, .int .u64 (L2 L dgS s i)), (7, .int .u64 (L unitZ i))], fun _ => [], [0, 5], [],
      fun i => L2 L leZ z i, fun i => L2 L lefZ z i⟩
  | _ => none
theorem rl_bad {s : List UInt8} (h : ¬ lngE s = 0) (h2 : ¬ allBig s) : 0 = rlN s ∧ 0 = rlK s ∧ 4 = rlE s := by
  unfold rlN rlK rlE
  rw [if_neg h, if_neg h, if_neg h, if_neg h2]
  exact ⟨rfl, rfl, rfl⟩
theorem rlong_good : Good Try.prog (rlong_s std) := by
  intro xs p r h hp
  dsimp only [rlong_s] at h ⊢
  split at h <;> cases h
  try simp only [L2, L3, std] at hp ⊢
  rename_i s
  refine acalls_L (T := tt) (S := fun L => sumOf [rshort_s L]) (lo := fun L => rlA L s) (lb := noA) 5 (fn := Try.f101) rfl rfl (by kernel_rfl) (by kernel_rfl) rfl tt_ok (sumOf_ok ⟨rshort_good, trivial⟩) (by kernel_rfl) ?_
  have hl : s.length ≤ 900000 := hp
  intro L P' Q' hL hP hQ
  (cbv; try simp only [sat_need, sat_must, sat_ite, sat_done, sat_yes, sat_ex, sat_all, sat_sup, sat_and, sat_fail, true_and, and_true])
  refine ⟨⟨1, ?_⟩, fun z hz => ?_⟩
  · (cbv; try simp only [sat_need, sat_must, sat_ite, sat_done, sat_yes, sat_ex, sat_all, sat_sup, sat_and, sat_fail, true_and, and_true])
    (subst hL; subst hQ; simp only [L2, L3, std] at *; try simp only [sySet, reduceCtorEq, forall_const, Int.reduceToNat, Int.reduceAdd, Int.reduceSub, Int.cast_ofNat_Int, Int.toNat_natCast, Nat.le_eq, Nat.sub_eq, ne_eq, Decidable.not_not, implies_true, true_and, and_true, wadd, wsub, wmul, decide_eq_true_eq, decide_eq_false_iff_not, Nat.succ_eq_add_one, imp_false, not_false_eq_true, not_true_eq_false, false_imp_iff, true_imp_iff] at *)
    exact ⟨Nat.le_refl _, by omega, fun j hj => by omega⟩
  · cbv at hz
    (cbv; try simp only [sat_need, sat_must, sat_ite, sat_done, sat_yes, sat_ex, sat_all, sat_sup, sat_and, sat_fail, true_and, and_true])
    refine ⟨fun h1 => ⟨?_, fun h2 => ⟨z + 1, ?_⟩, fun h2 => ⟨fun h3 => ?_, fun h3 => ⟨⟨0, ?_⟩, fun i hi => ?_⟩⟩⟩, fun h1 => ?_⟩
    · (subst hL; subst hQ; simp only [L2, L3, std] at *; try simp only [sySet, reduceCtorEq, forall_const, Int.reduceToNat, Int.reduceAdd, Int.reduceSub, Int.cast_ofNat_Int, Int.toNat_natCast, Nat.le_eq, Nat.sub_eq, ne_eq, Decidable.not_not, implies_true, true_and, and_true, wadd, wsub, wmul, decide_eq_true_eq, decide_eq_false_iff_not, Nat.succ_eq_add_one, imp_false, not_false_eq_true, not_true_eq_false, false_imp_iff, true_imp_iff] at *)
      have := hz.1
      have := hz.2.1
      omega
    · (cbv; try simp only [sat_need, sat_must, sat_ite, sat_done, sat_yes, sat_ex, sat_all, sat_sup, sat_and, sat_fail, true_and, and_true])
      (subst hL; subst hQ; simp only [L2, L3, std] at *; try simp only [sySet, reduceCtorEq, forall_const, Int.reduceToNat, Int.reduceAdd, Int.reduceSub, Int.cast_ofNat_Int, Int.toNat_natCast, Nat.le_eq, Nat.sub_eq, ne_eq, Decidable.not_not, implies_true, true_and, and_true, wadd, wsub, wmul, decide_eq_true_eq, decide_eq_false_iff_not, Nat.succ_eq_add_one, imp_false, not_false_eq_true, not_true_eq_false, false_imp_iff, true_imp_iff] at *)
      have z1 := hz.1
      have z2 := hz.2.1
      have ez : ((z : Int) - 1 + 9223372036854775808) % 18446744073709551616 - 9223372036854775808 = ((z - 1 : Nat) : Int) := by omega
      rw [ez, Int.toNat_natCast] at h2
      refine ⟨by omega, ⟨by omega, by omega, fun j hj => ?_⟩, by omega⟩
      by_cases hjz : j < z - 1
      · exact hz.2.2 j hjz
      · have : j = z - 1 := by omega
        subst this
        unfold cb
        omega
    · (subst hL; subst hQ; simp only [L2, L3, std] at *; try simp only [sySet, reduceCtorEq, forall_const, Int.reduceToNat, Int.reduceAdd, Int.reduceSub, Int.cast_ofNat_Int, Int.toNat_natCast, Nat.le_eq, Nat.sub_eq, ne_eq, Decidable.not_not, implies_true, true_and, and_true, wadd, wsub, wmul, decide_eq_true_eq, decide_eq_false_iff_not, Nat.succ_eq_add_one, imp_false, not_false_eq_true, not_true_eq_false, false_imp_iff, true_imp_iff] at *)
      have z1 := hz.1
      have z2 := hz.2.1
      have hb : ¬ lngE s = 0 := lng_long (by omega) (fun j hj => hz.2.2 j (by omega))
      exact rl_bad hb (fun h => by have := h.1; omega)
    · (cbv; try simp only [sat_need, sat_must, sat_ite, sat_done, sat_yes, sat_ex, sat_all, sat_sup, sat_and, sat_fail, true_and, and_true])
      (subst hL; subst hQ; simp only [L2, L3, std] at *; try simp only [sySet, reduceCtorEq, forall_const, Int.reduceToNat, Int.reduceAdd, Int.reduceSub, Int.cast_ofNat_Int, Int.toNat_natCast, Nat.le_eq, Nat.sub_eq, ne_eq, Decidable.not_not, implies_true, true_and, and_true, wadd, wsub, wmul, decide_eq_true_eq, decide_eq_false_iff_not, Nat.succ_eq_add_one, imp_false, not_false_eq_true, not_true_eq_false, false_imp_iff, true_imp_iff] at *)
      refine ⟨rfl, ?_, ?_⟩
      · cases s <;> rfl
      · show ((0 : Nat) : Int) ≤ z
        omega
    · cbv at hi
      (cbv; try simp only [sat_need, sat_must, sat_ite, sat_done, sat_yes, sat_ex, sat_all, sat_sup, sat_and, sat_fail, true_and, and_true])
      refine ⟨fun h4 => ⟨?_, ?_, ⟨i + 1, ?_⟩⟩, fun h4 => ⟨?_, ?_, fun h5 => ?_, fun h5 => ?_⟩⟩
      · (subst hL; subst hQ; simp only [L2, L3, std] at *; try simp only [sySet, reduceCtorEq, forall_const, Int.reduceToNat, Int.reduceAdd, Int.reduceSub, Int.cast_ofNat_Int, Int.toNat_natCast, Nat.le_eq, Nat.sub_eq, ne_eq, Decidable.not_not, implies_true, true_and, and_true, wadd, wsub, wmul, decide_eq_true_eq, decide_eq_false_iff_not, Nat.succ_eq_add_one, imp_false, not_false_eq_true, not_true_eq_false, false_imp_iff, true_imp_iff] at *)
        have hi : (i : Int) ≤ z := hi
        omega
      · (subst hL; subst hQ; simp only [L2, L3, std] at *; try simp only [sySet, reduceCtorEq, forall_const, Int.reduceToNat, Int.reduceAdd, Int.reduceSub, Int.cast_ofNat_Int, Int.toNat_natCast, Nat.le_eq, Nat.sub_eq, ne_eq, Decidable.not_not, implies_true, true_and, and_true, wadd, wsub, wmul, decide_eq_true_eq, decide_eq_false_iff_not, Nat.succ_eq_add_one, imp_false, not_false_eq_true, not_true_eq_false, false_imp_iff, true_imp_iff] at *)
        decide
      · (cbv; try simp only [sat_need, sat_must, sat_ite, sat_done, sat_yes, sat_ex, sat_all, sat_sup, sat_and, sat_fail, true_and, and_true])
        (subst hL; subst hQ; simp only [L2, L3, std] at *; try simp only [sySet, reduceCtorEq, forall_const, Int.reduceToNat, Int.reduceAdd, Int.reduceSub, Int.cast_ofNat_Int, Int.toNat_natCast, Nat.le_eq, Nat.sub_eq, ne_eq, Decidable.not_not, implies_true, true_and, and_true, wadd, wsub, wmul, decide_eq_true_eq, decide_eq_false_iff_not, Nat.succ_eq_add_one, imp_false, not_false_eq_true, not_true_eq_false, false_imp_iff, true_imp_iff] at *)
        have hi : (i : Int) ≤ z := hi
        obtain ⟨d1, d2⟩ := dg_step s i
        refine ⟨d1, d2, by omega, ?_, ?_⟩
        · show ((i + 1 : Nat) : Int) ≤ z
          omega
        · show ((z : Int) - ((i + 1 : Nat) : Int)).toNat + 1 ≤ ((z : Int) - (i : Int)).toNat
          omega
      · subst hL
        exact ⟨by show 0 ≤ dgS s i; unfold dgS; omega, by show dgS s i < _; unfold dgS; omega⟩
      · (subst hL; subst hQ; simp only [L2, L3, std] at *; try simp only [sySet, reduceCtorEq, forall_const, Int.reduceToNat, Int.reduceAdd, Int.reduceSub, Int.cast_ofNat_Int, Int.toNat_natCast, Nat.le_eq, Nat.sub_eq, ne_eq, Decidable.not_not, implies_true, true_and, and_true, wadd, wsub, wmul, decide_eq_true_eq, decide_eq_false_iff_not, Nat.succ_eq_add_one, imp_false, not_false_eq_true, not_true_eq_false, false_imp_iff, true_imp_iff] at *)
        omega
      · (subst hL; subst hQ; simp only [L2, L3, std] at *; try simp only [sySet, reduceCtorEq, forall_const, Int.reduceToNat, Int.reduceAdd, Int.reduceSub, Int.cast_ofNat_Int, Int.toNat_natCast, Nat.le_eq, Nat.sub_eq, ne_eq, Decidable.not_not, implies_true, true_and, and_true, wadd, wsub, wmul, decide_eq_true_eq, decide_eq_false_iff_not, Nat.succ_eq_add_one, imp_false, not_false_eq_true, not_true_eq_false, false_imp_iff, true_imp_iff] at *)
        have z1 := hz.1
        have z2 := hz.2.1
        have ez : ((z : Int) - 1 + 9223372036854775808) % 18446744073709551616 - 9223372036854775808 = ((z - 1 : Nat) : Int) := by omega
        rw [ez, Int.toNat_natCast] at h2
        have hi : (i : Int) ≤ z := hi
        have iz : i = z := by omega
        subst iz
        have R := rl_is (s := s) (k := i - 1) (by omega) (by omega) hz.2.2 (by unfold cb; omega)
        rw [show i - 1 + 1 = i by omega] at R
        exact rl_bad (fun h => h5 (R.1.2 h)) (fun h => by
          have := h.2 (i - 1) (by omega)
          unfold cb at this
          omega)
      · (subst hL; subst hQ; simp only [L2, L3, std] at *; try simp only [sySet, reduceCtorEq, forall_const, Int.reduceToNat, Int.reduceAdd, Int.reduceSub, Int.cast_ofNat_Int, Int.toNat_natCast, Nat.le_eq, Nat.sub_eq, ne_eq, Decidable.not_not, implies_true, true_and, and_true, wadd, wsub, wmul, decide_eq_true_eq, decide_eq_false_iff_not, Nat.succ_eq_add_one, imp_false, not_false_eq_true, not_true_eq_false, false_imp_iff, true_imp_iff] at *)
        have z1 := hz.1
        have z2 := hz.2.1
        have ez : ((z : Int) - 1 + 9223372036854775808) % 18446744073709551616 - 9223372036854775808 = ((z - 1 : Nat) : Int) := by omega
        rw [ez, Int.toNat_natCast] at h2
        have hi : (i : Int) ≤ z := hi
        have iz : i = z := by omega
        subst iz
        have R := rl_is (s := s) (k := i - 1) (by omega) (by omega) hz.2.2 (by unfold cb; omega)
        rw [show i - 1 + 1 = i by omega] at R
        have h0 := R.1.1 h5
        obtain ⟨e1, e2⟩ := R.2 h0
        unfold rlN rlK rlE
        rw [if_pos h0, if_pos h0, if_pos h0, e1, e2]
        exact ⟨rfl, by omega, rfl⟩
    · (subst hL; subst hQ; simp only [L2, L3, std] at *; try simp only [sySet, reduceCtorEq, forall_const, Int.reduceToNat, Int.reduceAdd, Int.reduceSub, Int.cast_ofNat_Int, Int.toNat_natCast, Nat.le_eq, Nat.sub_eq, ne_eq, Decidable.not_not, implies_true, true_and, and_true, wadd, wsub, wmul, decide_eq_true_eq, decide_eq_false_iff_not, Nat.succ_eq_add_one, imp_false, not_false_eq_true, not_true_eq_false, false_imp_iff, true_imp_iff] at *)
      have z1 := hz.1
      have z2 := hz.2.1
      refine ⟨fun h => ?_, fun h => ?_⟩
      · exact rl_bad (lng_long (by omega) (fun j hj => hz.2.2 j (by omega))) (fun h => by have := h.1; omega)
      · have hb : ¬ lngE s = 0 := lng_end (by omega) (fun j hj => hz.2.2 j (by omega))
        unfold rlN rlK rlE
        rw [if_neg hb, if_neg hb, if_neg hb, if_pos ⟨by omega, fun j hj => hz.2.2 j (by omega)⟩]
        exact ⟨rfl, rfl, rfl⟩
end Sy
end Go.Proofs.Ythlggigjnpldcaa
/-! Chapter 7 (codec), the document's answer: the value at a place of a text; it is what the code reads. -/
namespace Go.Proofs.Ythlggigjnpldcaa
namespace Sy
open Go Go.RowKit
set_option maxRecDepth 100000
set_option linter.unusedSimpArgs false
set_option linter.unusedVariables false

theorem nxtRest_lt {s : List UInt8} (h : ¬ s = []) : (nxtRest s).length < s.length := by
  have : 0 < s.length := List.length_pos_iff.2 h
  unfold nxtRest
  rw [List.length_drop, List.length_drop]
  omega
mutual
noncomputable def refV (d : Nat) (s : List UInt8) : NR :=
  if hs : s = [] then nrBad 3
  else if cb s 0 < 1 ∨ 3 < cb s 0 then nrBad 10
  else if ¬ rlE (s.drop 1) = 0 then nrBad (rlE (s.drop 1))
  else if cb s 0 = 1 then ⟨.mk 1 (lngN (s.drop 1)) [] [], nxtRest s, 0⟩
  else if cb s 0 = 2 then
    if ((nxtRest s).length : Int) < lngN (s.drop 1) then nrBad 3
    else ⟨.mk 2 0 ((nxtRest s).take (lngN (s.drop 1)).toNat) [], (nxtRest s).drop (lngN (s.drop 1)).toNat, 0⟩
  else if d = 6 then nrBad 8
  else refLs d (lngN (s.drop 1)) [] (nxtRest s)
termination_by 2 * s.length
decreasing_by
  have := nxtRest_lt hs
  omega
noncomputable def refLs (d : Nat) (m : Int) (acc : List CV) (s : List UInt8) : NR :=
  if m ≤ 0 then ⟨.mk 3 0 [] acc, s, 0⟩
  else if ¬ (refV (d + 1) s).e = 0 then nrBad (refV (d + 1) s).e
  else if h : (refV (d + 1) s).r.length < s.length then refLs d (m - 1) (acc ++ [(refV (d + 1) s).v]) (refV (d + 1) s).r
  else nrBad 8
termination_by 2 * s.length + 1
decreasing_by
  all_goals omega
end
theorem rlE_0 {s : List UInt8} : rlE s = 0 ↔ lngE s = 0 := by
  unfold rlE
  by_cases h : lngE s = 0
  · rw [if_pos h]; exact ⟨fun _ => h, fun _ => rfl⟩
  · rw [if_neg h]
    refine ⟨fun h2 => ?_, fun h2 => absurd h2 h⟩
    split at h2 <;> exact absurd h2 (by decide)
section
variable {d : Nat} {s : List UInt8}
theorem rv_0 (h1 : s = []) : refV d s = nrBad 3 := by rw [refV, dif_pos h1]
variable (h1 : ¬ s = [])
include h1
theorem rv_1 (h2 : cb s 0 < 1 ∨ 3 < cb s 0) : refV d s = nrBad 10 := by rw [refV, dif_neg h1, if_pos h2]
variable (h2 : ¬ (cb s 0 < 1 ∨ 3 < cb s 0))
include h2
theorem rv_2 (h3 : ¬ lngE (s.drop 1) = 0) : refV d s = nrBad (rlE (s.drop 1)) ∧ ¬ rlE (s.drop 1) = 0 := by
  have h3' : ¬ rlE (s.drop 1) = 0 := fun h => h3 (rlE_0.1 h)
  exact ⟨by rw [refV, dif_neg h1, if_neg h2, if_pos h3'], h3'⟩
variable (h3 : lngE (s.drop 1) = 0)
include h3
theorem rv_3 (h4 : cb s 0 = 1) : refV d s = ⟨.mk 1 (lngN (s.drop 1)) [] [], nxtRest s, 0⟩ := by rw [refV, dif_neg h1, if_neg h2, if_neg (fun h => h (rlE_0.2 h3)), if_pos h4]
variable (h4 : ¬ cb s 0 = 1)
include h4
theorem rv_4 (h5 : cb s 0 = 2) (h6 : ((nxtRest s).length : Int) < lngN (s.drop 1)) : refV d s = nrBad 3 := by rw [refV, dif_neg h1, if_neg h2, if_neg (fun h => h (rlE_0.2 h3)), if_neg h4, if_pos h5, if_pos h6]
theorem rv_5 (h5 : cb s 0 = 2) (h6 : ¬ ((nxtRest s).length : Int) < lngN (s.drop 1)) : refV d s = ⟨.mk 2 0 ((nxtRest s).take (lngN (s.drop 1)).toNat) [], (nxtRest s).drop (lngN (s.drop 1)).toNat, 0⟩ := by rw [refV, dif_neg h1, if_neg h2, if_neg (fun h => h (rlE_0.2 h3)), if_neg h4, if_pos h5, if_neg h6]
variable (h5 : ¬ cb s 0 = 2)
include h5
theorem rv_6 (h6 : d = 6) : refV d s = nrBad 8 := by rw [refV, dif_neg h1, if_neg h2, if_neg (fun h => h (rlE_0.2 h3)), if_neg h4, if_neg h5, if_pos h6]
theorem rv_7 (h6 : ¬ d = 6) : refV d s = refLs d (lngN (s.drop 1)) [] (nxtRest s) := by rw [refV, dif_neg h1, if_neg h2, if_neg (fun h => h (rlE_0.2 h3)), if_neg h4, if_neg h5, if_neg h6]
end
theorem rls_0 {d : Nat} {m : Int} {acc : List CV} {s : List UInt8} (h : m ≤ 0) : refLs d m acc s = ⟨.mk 3 0 [] acc, s, 0⟩ := by rw [refLs, if_pos h]
theorem rls_1 {d : Nat} {m : Int} {acc : List CV} {s : List UInt8} (h : ¬ m ≤ 0) (h1 : ¬ (refV (d + 1) s).e = 0) : refLs d m acc s = nrBad (refV (d + 1) s).e := by rw [refLs, if_neg h, if_pos h1]
theorem ref_short (s : List UInt8) : (∀ d, (refV d s).e = 0 → (refV d s).r.length < s.length) ∧ (∀ d m acc, (refLs d m acc s).e = 0 → (refLs d m acc s).r.length ≤ s.length) := by
  induction hn : s.length using Nat.strongRecOn generalizing s with
  | _ n ih =>
    subst hn
    constructor
    · intro d
      by_cases h1 : s = []
      · rw [rv_0 h1]; intro h; exact absurd h (by decide)
      by_cases h2 : cb s 0 < 1 ∨ 3 < cb s 0
      · rw [rv_1 h1 h2]; intro h; exact absurd h (by decide)
      by_cases h3 : lngE (s.drop 1) = 0
      · have hr := nxtRest_lt h1
        by_cases h4 : cb s 0 = 1
        · rw [rv_3 h1 h2 h3 h4]; intro _; exact hr
        by_cases h5 : cb s 0 = 2
        · by_cases h6 : ((nxtRest s).length : Int) < lngN (s.drop 1)
          · rw [rv_4 h1 h2 h3 h4 h5 h6]; intro h; exact absurd h (by decide)
          · rw [rv_5 h1 h2 h3 h4 h5 h6]; intro _
            show ((nxtRest s).drop _).length < _
            rw [List.length_drop]; omega
        by_cases h6 : d = 6
        · rw [rv_6 h1 h2 h3 h4 h5 h6]; intro h; exact absurd h (by decide)
        · rw [rv_7 h1 h2 h3 h4 h5 h6]; intro h
          have := (ih _ hr _ rfl).2 _ _ _ h
          omega
      · obtain ⟨e, h⟩ := rv_2 (d := d) h1 h2 h3
        rw [e]; intro h'; exact absurd h' h
    · intro d m acc
      by_cases h : m ≤ 0
      · rw [rls_0 h]; intro _; exact Nat.le_refl _
      by_cases h1 : (refV (d + 1) s).e = 0
      · rw [refLs, if_neg h, if_neg (fun x => x h1)]
        by_cases h2 : (refV (d + 1) s).r.length < s.length
        · rw [dif_pos h2]; intro h3
          have := (ih _ h2 _ rfl).2 _ _ _ h3
          omega
        · rw [dif_neg h2]; intro h; exact absurd h (by decide)
      · rw [rls_1 h h1]; intro h2; exact absurd h2 h1
theorem ref_suf (s : List UInt8) : (∀ d, (refV d s).e = 0 → (refV d s).r <:+ s) ∧ (∀ d m acc, (refLs d m acc s).e = 0 → (refLs d m acc s).r <:+ s) := by
  induction hn : s.length using Nat.strongRecOn generalizing s with
  | _ n ih =>
    subst hn
    have rest : nxtRest s <:+ s := (List.drop_suffix _ _).trans (List.drop_suffix _ _)
    have hv : ∀ d, (refV d s).e = 0 → (refV d s).r <:+ s := by
      intro d
      by_cases h1 : s = []
      · rw [rv_0 h1]; intro h; exact absurd h (by decide)
      by_cases h2 : cb s 0 < 1 ∨ 3 < cb s 0
      · rw [rv_1 h1 h2]; intro h; exact absurd h (by decide)
      by_cases h3 : lngE (s.drop 1) = 0
      · have hr := nxtRest_lt h1
        by_cases h4 : cb s 0 = 1
        · rw [rv_3 h1 h2 h3 h4]; intro _; exact rest
        by_cases h5 : cb s 0 = 2
        · by_cases h6 : ((nxtRest s).length : Int) < lngN (s.drop 1)
          · rw [rv_4 h1 h2 h3 h4 h5 h6]; intro h; exact absurd h (by decide)
          · rw [rv_5 h1 h2 h3 h4 h5 h6]; intro _
            exact (List.drop_suffix _ _).trans rest
        by_cases h6 : d = 6
        · rw [rv_6 h1 h2 h3 h4 h5 h6]; intro h; exact absurd h (by decide)
        · rw [rv_7 h1 h2 h3 h4 h5 h6]; intro h
          exact ((ih _ hr _ rfl).2 _ _ _ h).trans rest
      · obtain ⟨e, h⟩ := rv_2 (d := d) h1 h2 h3
        rw [e]; intro h'; exact absurd h' h
    refine ⟨hv, ?_⟩
    · intro d m acc
      by_cases h : m ≤ 0
      · rw [rls_0 h]; intro _; exact List.suffix_refl _
      by_cases h1 : (refV (d + 1) s).e = 0
      · have h2 := (ref_short s).1 _ h1
        rw [refLs, if_neg h, if_neg (fun x => x h1), dif_pos h2]
        intro h3
        exact ((ih _ h2 _ rfl).2 _ _ _ h3).trans (hv _ h1)
      · rw [rls_1 h h1]; intro h2; exact absurd h2 h1
theorem rls_2 {d : Nat} {m : Int} {acc : List CV} {s : List UInt8} (h : ¬ m ≤ 0) (h1 : (refV (d + 1) s).e = 0) : refLs d m acc s = refLs d (m - 1) (acc ++ [(refV (d + 1) s).v]) (refV (d + 1) s).r := by
  rw [refLs, if_neg h, if_neg (fun x => x h1), dif_pos ((ref_short s).1 _ h1)]
def SimV (s : List UInt8) : Prop := ∀ (st : List Lv) (f : Nat), s.length < f →
  ((refV st.length s).e = 0 → ∃ f', (refV st.length s).r.length < f' ∧ nxtVal f st s = nxtDone (nxtVal f') st (refV st.length s).v (refV st.length s).r) ∧
  (¬ (refV st.length s).e = 0 → ∃ e, e ≠ 0 ∧ nxtVal f st s = nrBad e)
def SimL (s : List UInt8) : Prop := ∀ (st : List Lv) (m : Int) (acc : List CV) (f : Nat), 0 ≤ m → s.length < f →
  ((refLs st.length m acc s).e = 0 → ∃ f', (refLs st.length m acc s).r.length < f' ∧ nxtShut (nxtVal f) (⟨m, acc⟩ :: st) s = nxtDone (nxtVal f') st (refLs st.length m acc s).v (refLs st.length m acc s).r) ∧
  (¬ (refLs st.length m acc s).e = 0 → ∃ e, e ≠ 0 ∧ nxtShut (nxtVal f) (⟨m, acc⟩ :: st) s = nrBad e)
/-- The document's reading is the code's. -/
theorem ref_sim (s : List UInt8) : SimV s ∧ SimL s := by
  induction hn : s.length using Nat.strongRecOn generalizing s with
  | _ n ih =>
    subst hn
    have hv : SimV s := by
      intro st f hf
      obtain ⟨g, rfl⟩ : ∃ g, f = g + 1 := ⟨f - 1, by omega⟩
      have bad : ∀ e : Int, e ≠ 0 → refV st.length s = nrBad e → ∀ e', e' ≠ 0 → nxtVal (g + 1) st s = nrBad e' →
          ((refV st.length s).e = 0 → ∃ f', (refV st.length s).r.length < f' ∧ nxtVal (g + 1) st s = nxtDone (nxtVal f') st (refV st.length s).v (refV st.length s).r) ∧
          (¬ (refV st.length s).e = 0 → ∃ e, e ≠ 0 ∧ nxtVal (g + 1) st s = nrBad e) := by
        intro e he h e' he' h'
        rw [h]
        exact ⟨fun h => absurd h he, fun _ => ⟨e', he', h'⟩⟩
      by_cases h1 : s = []
      · exact bad 3 (by decide) (rv_0 h1) 3 (by decide) (by rw [nxtVal, if_pos h1])
      by_cases h2 : cb s 0 < 1 ∨ 3 < cb s 0
      · exact bad 10 (by decide) (rv_1 h1 h2) 10 (by decide) (by rw [nxtVal, if_neg h1, if_pos h2])
      by_cases h3 : lngE (s.drop 1) = 0
      · have hr := nxtRest_lt h1
        have h3' : ¬ lngE (s.drop 1) ≠ 0 := fun h => h h3
        by_cases h4 : cb s 0 = 1
        · rw [rv_3 h1 h2 h3 h4]
          exact ⟨fun _ => ⟨g, by show (nxtRest s).length < g; omega, by rw [nxtVal, if_neg h1, if_neg h2, if_neg h3', if_pos h4]⟩, fun h => absurd rfl h⟩
        by_cases h5 : cb s 0 = 2
        · by_cases h6 : ((nxtRest s).length : Int) < lngN (s.drop 1)
          · exact bad 3 (by decide) (rv_4 h1 h2 h3 h4 h5 h6) 3 (by decide) (by rw [nxtVal, if_neg h1, if_neg h2, if_neg h3', if_neg h4, if_pos h5, if_pos h6])
          · rw [rv_5 h1 h2 h3 h4 h5 h6]
            exact ⟨fun _ => ⟨g, by show ((nxtRest s).drop _).length < g; rw [List.length_drop]; omega, by rw [nxtVal, if_neg h1, if_neg h2, if_neg h3', if_neg h4, if_pos h5, if_neg h6]⟩, fun h => absurd rfl h⟩
        by_cases h6 : st.length = 6
        · exact bad 8 (by decide) (rv_6 h1 h2 h3 h4 h5 h6) 8 (by decide) (by rw [nxtVal, if_neg h1, if_neg h2, if_neg h3', if_neg h4, if_neg h5, if_pos h6])
        · rw [rv_7 h1 h2 h3 h4 h5 h6, nxtVal, if_neg h1, if_neg h2, if_neg h3', if_neg h4, if_neg h5, if_neg h6]
          exact (ih _ hr _ rfl).2 st _ [] g (lng_yes h3).2.2.1 (by omega)
      · obtain ⟨e, h⟩ := rv_2 (d := st.length) h1 h2 h3
        exact bad _ h e _ h3 (by rw [nxtVal, if_neg h1, if_neg h2, if_pos h3])
    refine ⟨hv, ?_⟩
    intro st m acc f hm hf
    by_cases h : m ≤ 0
    · have : m = 0 := by omega
      subst this
      rw [rls_0 h]
      exact ⟨fun _ => ⟨f, hf, by rw [nxtShut, if_pos (show (0 : Int) = 0 from rfl)]⟩, fun h => absurd rfl h⟩
    have hs : nxtShut (nxtVal f) (⟨m, acc⟩ :: st) s = nxtVal f (⟨m, acc⟩ :: st) s := by rw [nxtShut, if_neg (show ¬ m = 0 by omega)]
    obtain ⟨v1, v2⟩ := hv (⟨m, acc⟩ :: st) f hf
    rw [List.length_cons] at v1 v2
    by_cases h1 : (refV (st.length + 1) s).e = 0
    · rw [rls_2 h h1, hs]
      obtain ⟨f', h2, h3⟩ := v1 h1
      have hlt := (ref_short s).1 _ h1
      have := (ih _ hlt _ rfl).2 st (m - 1) (acc ++ [(refV (st.length + 1) s).v]) f' (by omega) h2
      have e : nxtVal f (⟨m, acc⟩ :: st) s = nxtShut (nxtVal f') (⟨m - 1, acc ++ [(refV (st.length + 1) s).v]⟩ :: st) (refV (st.length + 1) s).r := by
        rw [h3, nxtDone, nxtShut]
      rw [e]
      exact this
    · rw [rls_1 h h1, hs]
      obtain ⟨e, he, h3⟩ := v2 h1
      exact ⟨fun h => absurd h h1, fun _ => ⟨e, he, h3⟩⟩
/-- What the document reads off a whole text, and what the code does. -/
theorem get_ref {s : List UInt8} (hl : s.length ≤ 8192) : (getE s = 0 ↔ (refV 0 s).e = 0 ∧ (refV 0 s).r = []) ∧ (getE s = 0 → getV s = (refV 0 s).v) := by
  have ht : nxtTop s = nxtVal (s.length + 1) [] s := by unfold nxtTop; rw [if_neg (by omega)]
  obtain ⟨v1, v2⟩ := (ref_sim s).1 [] (s.length + 1) (by omega)
  simp only [List.length_nil] at v1 v2
  by_cases h : (refV 0 s).e = 0
  · obtain ⟨f', _, h2⟩ := v1 h
    have e : nxtTop s = ⟨(refV 0 s).v, (refV 0 s).r, 0⟩ := by rw [ht, h2, nxtDone]
    have iff : getE s = 0 ↔ (refV 0 s).r = [] := by
      unfold getE
      rw [e]
      by_cases hr : (refV 0 s).r = []
      · rw [if_neg (fun x => x.2 hr)]; exact ⟨fun _ => hr, fun _ => rfl⟩
      · rw [if_pos ⟨rfl, hr⟩]; exact ⟨fun x => absurd x (by decide), fun x => absurd x hr⟩
    refine ⟨⟨fun x => ⟨h, iff.1 x⟩, fun x => iff.2 x.2⟩, fun x => ?_⟩
    unfold getV
    rw [if_pos x, e]
  · obtain ⟨e, he, h2⟩ := v2 h
    have e1 : getE s = e := by
      unfold getE
      rw [ht, h2, if_neg (fun x => he x.1)]; rfl
    refine ⟨⟨fun x => absurd (e1.symm.trans x) he, fun x => absurd x.1 h⟩, fun x => absurd (e1.symm.trans x) he⟩
end Sy
end Go.Proofs.Ythlggigjnpldcaa
/-! Chapter 7 (codec), the document's answer: Next, stepped through. -/
namespace Go.Proofs.Ythlggigjnpldcaa
namespace Sy
open Go Go.RowKit
set_option maxRecDepth 100000
set_option linter.unusedSimpArgs false
set_option linter.unusedVariables false

/-- What Next hands back, at a place of a text. -/
noncomputable def rnxR (s : List UInt8) (a d : Int) : NR := refV d.toNat (s.drop a.toNat)
noncomputable def rnxV (s : List UInt8) (a d : Int) : CV := if (rnxR s a d).e = 0 then (rnxR s a d).v else .mk 0 0 [] []
noncomputable def rnxA (s : List UInt8) (a d : Int) : Int := if (rnxR s a d).e = 0 then (s.length : Int) - ((rnxR s a d).r.length : Int) else 0
noncomputable def rnxE (s : List UInt8) (a d : Int) : Int := (rnxR s a d).e
def rnxOk (N : Nat) (s : List UInt8) (a d : Int) : Prop := 0 ≤ a ∧ a ≤ (s.length : Int) ∧ (s.length : Int) - a < N ∧ 0 ≤ d ∧ d ≤ 6 ∧ s.length ≤ 900000
noncomputable def rnx_s (N : Nat) (L : Seal) : Ent1 := (75, fun xs => match xs with
  | [.str s, .int .i64 a, .int .i64 d] => some (L (L3 L (rnxOk N) s a) d, .tup [cvA L (L3 L rnxV s a d), .int .i64 (L3 L rnxA s a d), .int .i64 (L3 L rnxE s a d)])
  | _ => none)
theorem rnx_bad {s : List UInt8} {a d e : Int} (he : ¬ e = 0) (h : refV d.toNat (s.drop a.toNat) = nrBad e) : fits1 (cvA std (rnxV s a d)) (.agg [.int .i64 0, .int .u64 0, .str [], .nils]) ∧ 0 = rnxA s a d ∧ e = rnxE s a d := by
  have e1 : (rnxR s a d).e = e := by rw [rnxR, h]; rfl
  have e2 : ¬ (rnxR s a d).e = 0 := by rw [e1]; exact he
  refine ⟨?_, (if_neg e2).symm, e1.symm⟩
  rw [rnxV, if_neg e2]
  show fits1 (.agg [.int .i64 0, .int .u64 0, .str [], .lst 4 0 (cvIn (.mk 0 0 [] []))]) _
  simp [fits1_aggi, fits1_aggs, fits1_aggn, fits1_agg0]
theorem rnx_yes {s : List UInt8} {a d : Int} {k n : Int} {t r : List UInt8} (h : refV d.toNat (s.drop a.toNat) = ⟨.mk k n t [], r, 0⟩) : fits1 (cvA std (rnxV s a d)) (.agg [.int .i64 k, .int .u64 n, .str t, .nils]) ∧ (s.length : Int) - (r.length : Int) = rnxA s a d ∧ 0 = rnxE s a d := by
  have e1 : rnxR s a d = ⟨.mk k n t [], r, 0⟩ := h
  have e2 : (rnxR s a d).e = 0 := by rw [e1]
  refine ⟨?_, by rw [rnxA, if_pos e2, e1], by rw [rnxE, e1]⟩
  rw [rnxV, if_pos e2, e1]
  show fits1 (.agg [.int .i64 k, .int .u64 n, .str t, .lst 4 0 (cvIn (.mk k n t []))]) _
  simp [fits1_aggi, fits1_aggs, fits1_aggn, fits1_agg0]
theorem rnx_at {N : Nat} {s : List UInt8} {a d : Int} (h : rnxOk N s a d) (ha : a < (s.length : Int)) :
    ¬ s.drop a.toNat = [] ∧ ((s.getD a.toNat 0).toNat + 9223372036854775808 : Int) % 18446744073709551616 - 9223372036854775808 = (cb (s.drop a.toNat) 0 : Int) ∧
    (a + 1 + 9223372036854775808) % 18446744073709551616 - 9223372036854775808 = a + 1 ∧
    s.drop ((a + 1 + 9223372036854775808) % 18446744073709551616 - 9223372036854775808).toNat = (s.drop a.toNat).drop 1 := by
  obtain ⟨o1, o2, o3, o4, o5, o6⟩ := h
  have e : (a + 1 + 9223372036854775808) % 18446744073709551616 - 9223372036854775808 = a + 1 := by omega
  have c : cb (s.drop a.toNat) 0 = (s.getD a.toNat 0).toNat := by
    unfold cb
    rw [List.getD_eq_getElem?_getD, List.getD_eq_getElem?_getD, List.getElem?_drop]; rfl
  have hb := (s.getD a.toNat 0).toNat_lt
  refine ⟨fun h => ?_, by rw [c]; omega, e, ?_⟩
  · have := congrArg List.length h
    rw [List.length_drop, List.length_nil] at this
    omega
  · rw [e, List.drop_drop]
    congr 1
    omega
theorem rnx_rest {s : List UInt8} {a : Int} (h0 : 0 ≤ a) (hl : s.length ≤ 900000) (hn : ¬ s.drop a.toNat = []) (h : lngE ((s.drop a.toNat).drop 1) = 0) :
    a + 1 + lngK ((s.drop a.toNat).drop 1) = (s.length : Int) - ((nxtRest (s.drop a.toNat)).length : Int) ∧ s.drop (a + 1 + lngK ((s.drop a.toNat).drop 1)).toNat = nxtRest (s.drop a.toNat) ∧
    rlK ((s.drop a.toNat).drop 1) = lngK ((s.drop a.toNat).drop 1) ∧ rlN ((s.drop a.toNat).drop 1) = lngN ((s.drop a.toNat).drop 1) ∧ 0 ≤ lngN ((s.drop a.toNat).drop 1) ∧ lngN ((s.drop a.toNat).drop 1) < 18446744073709551616 ∧
    (nxtRest (s.drop a.toNat)).length + 2 ≤ (s.drop a.toNat).length ∧ a + 1 + lngK ((s.drop a.toNat).drop 1) ≤ (s.length : Int) ∧ 0 ≤ lngK ((s.drop a.toNat).drop 1) := by
  have y := lng_yes h
  have rl := rest_len hn h
  have hk := lngK_le ((s.drop a.toNat).drop 1)
  have hd : (nxtRest (s.drop a.toNat)) = s.drop (a + 1 + lngK ((s.drop a.toNat).drop 1)).toNat := by
    unfold nxtRest
    rw [List.drop_drop, List.drop_drop]
    congr 1
    omega
  have l1 : (s.drop a.toNat).length = s.length - a.toNat := List.length_drop
  have l2 : 0 < (s.drop a.toNat).length := List.length_pos_iff.2 hn
  have l3 : (s.drop (a + 1 + lngK ((s.drop a.toNat).drop 1)).toNat).length = s.length - (a + 1 + lngK ((s.drop a.toNat).drop 1)).toNat := List.length_drop
  rw [← hd] at l3
  refine ⟨by omega, hd.symm, if_pos h, if_pos h, y.2.2.1, y.2.2.2, rl.1, by omega, by omega⟩
structure RX where
  i : Nat
  l : List CV
  r : List UInt8
noncomputable def rxInv (s : List UInt8) (a d : Int) (n : Int) (x : RX) : Prop :=
  x.l.length = x.i ∧ (x.i : Int) ≤ n ∧ 0 ≤ n ∧ n < 18446744073709551616 ∧ x.r.length + x.i + 2 ≤ (s.drop a.toNat).length ∧ x.r <:+ s ∧ rnxR s a d = refLs d.toNat (n - x.i) x.l x.r
def rxAt (s : List UInt8) (x : RX) : Int := (s.length : Int) - (x.r.length : Int)
noncomputable def rxA (L : Seal) (s : List UInt8) (a d : Int) : Nat → St → Option Ann := fun id st => match id with
  | 0 => withInt st 10 fun n => some ⟨RX, fun x => [(13, .int .u64 (L natI (L RX.i x))), (1, .int .i64 (L2 L rxAt s x)), (9, .ref 9 0)],
      fun x => [(9, .box 37 [.int .i64 3, .int .u64 0, .str [], .sl 900 4 0 (L RX.i x)]), (900, .row 37 4 (L RX.i x) (fun q j => cv1 L (L2 L nthV (L RX.l x) q) j))], [0, 2, 6, 10], [6],
      fun x => L2 L (L3 L rxInv s a d) n x, fun x => L (fun x : RX => x.r.length) x⟩
  | _ => none
theorem rx_step {N : Nat} {s : List UInt8} {a d n : Int} {x : RX} (hp : rnxOk (N + 1) s a d) (hd : ¬ d = 6) (hx : rxInv s a d n x) (hi : (x.i : Int) < n) :
    rnxOk N s (rxAt s x) ((d + 1 + 9223372036854775808) % 18446744073709551616 - 9223372036854775808) ∧
    rnxR s (rxAt s x) ((d + 1 + 9223372036854775808) % 18446744073709551616 - 9223372036854775808) = refV (d.toNat + 1) x.r ∧
    (¬ (refV (d.toNat + 1) x.r).e = 0 → refV d.toNat (s.drop a.toNat) = nrBad (refV (d.toNat + 1) x.r).e) ∧
    ((refV (d.toNat + 1) x.r).e = 0 → rxInv s a d n ⟨x.i + 1, x.l ++ [(refV (d.toNat + 1) x.r).v], (refV (d.toNat + 1) x.r).r⟩ ∧ (refV (d.toNat + 1) x.r).r.length < x.r.length ∧
      rnxV s (rxAt s x) ((d + 1 + 9223372036854775808) % 18446744073709551616 - 9223372036854775808) = (refV (d.toNat + 1) x.r).v ∧
      rnxA s (rxAt s x) ((d + 1 + 9223372036854775808) % 18446744073709551616 - 9223372036854775808) = (s.length : Int) - ((refV (d.toNat + 1) x.r).r.length : Int)) := by
  obtain ⟨o1, o2, o3, o4, o5, o6⟩ := hp
  obtain ⟨i1, i2, i3, i4, i5, i6, i7⟩ := hx
  have hl : (s.drop a.toNat).length = s.length - a.toNat := List.length_drop
  have hs := i6.length_le
  have e : (d + 1 + 9223372036854775808) % 18446744073709551616 - 9223372036854775808 = d + 1 := by omega
  have hR : rnxR s (rxAt s x) (d + 1) = refV (d.toNat + 1) x.r := by
    unfold rnxR rxAt
    rw [show (d + 1).toNat = d.toNat + 1 by omega, show ((s.length : Int) - (x.r.length : Int)).toNat = s.length - x.r.length by omega, ← List.suffix_iff_eq_drop.1 i6]
  have hm : ¬ n - (x.i : Int) ≤ 0 := by omega
  rw [e]
  refine ⟨⟨by unfold rxAt; omega, by unfold rxAt; omega, by unfold rxAt; omega, by omega, by omega, o6⟩, hR, fun h => ?_, fun h => ⟨⟨?_, ?_, i3, i4, ?_, ?_, ?_⟩, (ref_short x.r).1 _ h, ?_, ?_⟩⟩
  · exact i7.trans (rls_1 hm h)
  · show (x.l ++ [_]).length = x.i + 1
    rw [List.length_append, i1]; rfl
  · show ((x.i + 1 : Nat) : Int) ≤ n
    omega
  · show (refV (d.toNat + 1) x.r).r.length + (x.i + 1) + 2 ≤ _
    have := (ref_short x.r).1 _ h
    omega
  · exact ((ref_suf x.r).1 _ h).trans i6
  · show rnxR s a d = refLs d.toNat (n - ((x.i + 1 : Nat) : Int)) _ _
    rw [i7, rls_2 hm h, show n - ((x.i + 1 : Nat) : Int) = n - (x.i : Int) - 1 by omega]
  · rw [rnxV, hR, if_pos h]
  · rw [rnxA, hR, if_pos h]
theorem cv_pushR {l : List CV} {v : CV} {i q j : Nat} (hi : l.length = i) (hq : q < i + 1) (hj : j < 4) :
    sel1 std (nblt q i) (cv1 std (nthV l q) j) (lget .dead [.int .i64 v.kd, .int .u64 v.nn, .str v.tx, .lst 4 (lenV v) (cvIn v)] ((q - i) * 4 + j)) = cv1 std (nthV (l ++ [v]) q) j := by
  subst hi
  by_cases h : q < l.length
  · rw [nthV_app_l h, blt_t h, show q - l.length = 0 by omega, Nat.zero_mul, Nat.zero_add]
    match j, hj with
    | 0, _ => rfl
    | 1, _ => rfl
    | 2, _ => rfl
    | 3, _ => rfl
  · have : q = l.length := by omega
    subst this
    rw [nthV_app_r, blt_f (by omega), show l.length - l.length = 0 by omega, Nat.zero_mul, Nat.zero_add]
    match j, hj with
    | 0, _ => rfl
    | 1, _ => rfl
    | 2, _ => rfl
    | 3, _ => rfl
theorem rx_fin {s : List UInt8} {a d n : Int} {x : RX} (hx : rxInv s a d n x) (hi : n ≤ (x.i : Int)) :
    fits1 (cvA std (rnxV s a d)) (.agg [.int .i64 3, .int .u64 0, .str [], .lst 4 x.i fun i => cv1 std (nthV x.l i)]) ∧ rxAt s x = rnxA s a d ∧ 0 = rnxE s a d := by
  obtain ⟨i1, i2, i3, i4, i5, i6, i7⟩ := hx
  have e1 : rnxR s a d = ⟨.mk 3 0 [] x.l, x.r, 0⟩ := by rw [i7, rls_0 (by omega)]
  have e2 : (rnxR s a d).e = 0 := by rw [e1]
  refine ⟨?_, by rw [rnxA, if_pos e2, e1]; rfl, by rw [rnxE, e1]⟩
  rw [rnxV, if_pos e2, e1]
  show fits1 (.agg [.int .i64 3, .int .u64 0, .str [], .lst 4 x.l.length (cvGet x.l)]) _
  simp only [fits1_aggi, fits1_aggs, fits1_aggl, fits1_agg0, true_and, and_true]
  exact ⟨i1.symm, fun q j hq hj => by rw [cvGet_nth _ _ _ hq]; exact cv1_std _ j hj⟩
theorem rnx_good : ∀ N, Good Try.prog (rnx_s N std) := by
  intro N
  induction N with
  | zero =>
    intro xs p r h hp
    dsimp only [rnx_s] at h ⊢
    split at h <;> cases h
    try simp only [L2, L3, std] at hp ⊢
    rename_i s a d
    obtain ⟨h1, h2, h3, _⟩ : rnxOk 0 s a d := hp
    omega
  | succ N ih =>
    intro xs p r h hp
    dsimp only [rnx_s] at h ⊢
    split at h <;> cases h
    try simp only [L2, L3, std] at hp ⊢
    rename_i s a d
    refine acalls_L (T := tt) (S := fun L => sumOf [rlong_s L, rnx_s N L]) (lo := fun L => rxA L s a d) (lb := noA) 5 (fn := Try.f75) rfl rfl (by kernel_rfl) (by kernel_rfl) rfl tt_ok (sumOf_ok ⟨rlong_good, ih, trivial⟩) (by kernel_rfl) ?_
    have hp' : rnxOk (N + 1) s a d := hp
    intro L P' Q' hL hP hQ
    (cbv; try simp only [sat_need, sat_must, sat_ite, sat_done, sat_yes, sat_ex, sat_all, sat_sup, sat_and, sat_fail, true_and, and_true])
    refine ⟨fun h1 => ?_, fun h1 => ⟨?_, fun h2 => ?_, fun h2 => ⟨fun h3 => ?_, fun h3 => ⟨?_, ?_, fun h4 => ?_, fun h4 => ⟨fun h5 => ?_, fun h5 => ⟨fun h6 => ⟨fun h7 => ?_, fun h7 => ⟨?_, ?_⟩⟩, fun h6 => ⟨fun h7 => ?_, fun h7 => ?_⟩⟩⟩⟩⟩⟩⟩
    · (subst hL; subst hQ; simp only [L2, L3, std] at *; try simp only [sySet, reduceCtorEq, forall_const, Int.reduceToNat, Int.reduceAdd, Int.reduceSub, Int.cast_ofNat_Int, Int.toNat_natCast, Nat.le_eq, Nat.sub_eq, ne_eq, Decidable.not_not, implies_true, true_and, and_true, wadd, wsub, wmul, decide_eq_true_eq, decide_eq_false_iff_not, Nat.succ_eq_add_one, imp_false, not_false_eq_true, not_true_eq_false, false_imp_iff, true_imp_iff] at *)
      obtain ⟨o1, o2, o3, o4, o5, o6⟩ := hp'
      exact rnx_bad (by decide) (rv_0 (List.drop_eq_nil_of_le (by omega)))
    · (subst hL; subst hQ; simp only [L2, L3, std] at *; try simp only [sySet, reduceCtorEq, forall_const, Int.reduceToNat, Int.reduceAdd, Int.reduceSub, Int.cast_ofNat_Int, Int.toNat_natCast, Nat.le_eq, Nat.sub_eq, ne_eq, Decidable.not_not, implies_true, true_and, and_true, wadd, wsub, wmul, decide_eq_true_eq, decide_eq_false_iff_not, Nat.succ_eq_add_one, imp_false, not_false_eq_true, not_true_eq_false, false_imp_iff, true_imp_iff] at *)
      obtain ⟨o1, o2, o3, o4, o5, o6⟩ := hp'
      omega
    · (subst hL; subst hQ; simp only [L2, L3, std] at *; try simp only [sySet, reduceCtorEq, forall_const, Int.reduceToNat, Int.reduceAdd, Int.reduceSub, Int.cast_ofNat_Int, Int.toNat_natCast, Nat.le_eq, Nat.sub_eq, ne_eq, Decidable.not_not, implies_true, true_and, and_true, wadd, wsub, wmul, decide_eq_true_eq, decide_eq_false_iff_not, Nat.succ_eq_add_one, imp_false, not_false_eq_true, not_true_eq_false, false_imp_iff, true_imp_iff] at *)
      obtain ⟨f1, f2, f3, f4⟩ := rnx_at hp' h1
      rw [f2] at h2
      exact rnx_bad (by decide) (rv_1 f1 (by omega))
    · (subst hL; subst hQ; simp only [L2, L3, std] at *; try simp only [sySet, reduceCtorEq, forall_const, Int.reduceToNat, Int.reduceAdd, Int.reduceSub, Int.cast_ofNat_Int, Int.toNat_natCast, Nat.le_eq, Nat.sub_eq, ne_eq, Decidable.not_not, implies_true, true_and, and_true, wadd, wsub, wmul, decide_eq_true_eq, decide_eq_false_iff_not, Nat.succ_eq_add_one, imp_false, not_false_eq_true, not_true_eq_false, false_imp_iff, true_imp_iff] at *)
      obtain ⟨f1, f2, f3, f4⟩ := rnx_at hp' h1
      rw [f2] at h3
      exact rnx_bad (by decide) (rv_1 f1 (by omega))
    · (subst hL; subst hQ; simp only [L2, L3, std] at *; try simp only [sySet, reduceCtorEq, forall_const, Int.reduceToNat, Int.reduceAdd, Int.reduceSub, Int.cast_ofNat_Int, Int.toNat_natCast, Nat.le_eq, Nat.sub_eq, ne_eq, Decidable.not_not, implies_true, true_and, and_true, wadd, wsub, wmul, decide_eq_true_eq, decide_eq_false_iff_not, Nat.succ_eq_add_one, imp_false, not_false_eq_true, not_true_eq_false, false_imp_iff, true_imp_iff] at *)
      obtain ⟨o1, o2, o3, o4, o5, o6⟩ := hp'
      omega
    · (subst hL; subst hQ; simp only [L2, L3, std] at *; try simp only [sySet, reduceCtorEq, forall_const, Int.reduceToNat, Int.reduceAdd, Int.reduceSub, Int.cast_ofNat_Int, Int.toNat_natCast, Nat.le_eq, Nat.sub_eq, ne_eq, Decidable.not_not, implies_true, true_and, and_true, wadd, wsub, wmul, decide_eq_true_eq, decide_eq_false_iff_not, Nat.succ_eq_add_one, imp_false, not_false_eq_true, not_true_eq_false, false_imp_iff, true_imp_iff] at *)
      obtain ⟨o1, o2, o3, o4, o5, o6⟩ := hp'
      unfold upto
      rw [List.length_drop]
      omega
    · (subst hL; subst hQ; simp only [L2, L3, std] at *; try simp only [sySet, reduceCtorEq, forall_const, Int.reduceToNat, Int.reduceAdd, Int.reduceSub, Int.cast_ofNat_Int, Int.toNat_natCast, Nat.le_eq, Nat.sub_eq, ne_eq, Decidable.not_not, implies_true, true_and, and_true, wadd, wsub, wmul, decide_eq_true_eq, decide_eq_false_iff_not, Nat.succ_eq_add_one, imp_false, not_false_eq_true, not_true_eq_false, false_imp_iff, true_imp_iff] at *)
      obtain ⟨f1, f2, f3, f4⟩ := rnx_at hp' h1
      rw [f2] at h2 h3
      rw [f4] at h4 ⊢
      have := rv_2 (d := d.toNat) f1 (by omega) (fun h => h4 (rlE_0.2 h))
      exact rnx_bad h4 this.1
    · (subst hL; subst hQ; simp only [L2, L3, std] at *; try simp only [sySet, reduceCtorEq, forall_const, Int.reduceToNat, Int.reduceAdd, Int.reduceSub, Int.cast_ofNat_Int, Int.toNat_natCast, Nat.le_eq, Nat.sub_eq, ne_eq, Decidable.not_not, implies_true, true_and, and_true, wadd, wsub, wmul, decide_eq_true_eq, decide_eq_false_iff_not, Nat.succ_eq_add_one, imp_false, not_false_eq_true, not_true_eq_false, false_imp_iff, true_imp_iff] at *)
      obtain ⟨f1, f2, f3, f4⟩ := rnx_at hp' h1
      obtain ⟨o1, o2, o3, o4, o5, o6⟩ := hp'
      rw [f2] at h2 h3 h5 ⊢
      rw [f4] at h4 ⊢
      rw [f3]
      have h4' := rlE_0.1 h4
      have hv := rv_3 (d := d.toNat) f1 (by omega) h4' (by omega)
      have g := rnx_rest o1 o6 f1 h4'
      obtain ⟨g1, g2, g3, g4, g5, g6, g7, g8, g9⟩ := g
      obtain ⟨y1, y2, y3⟩ := rnx_yes hv
      rw [g3, g4, h5]
      exact ⟨y1, by rw [← y2]; omega, y3⟩
    · (subst hL; subst hQ; simp only [L2, L3, std] at *; try simp only [sySet, reduceCtorEq, forall_const, Int.reduceToNat, Int.reduceAdd, Int.reduceSub, Int.cast_ofNat_Int, Int.toNat_natCast, Nat.le_eq, Nat.sub_eq, ne_eq, Decidable.not_not, implies_true, true_and, and_true, wadd, wsub, wmul, decide_eq_true_eq, decide_eq_false_iff_not, Nat.succ_eq_add_one, imp_false, not_false_eq_true, not_true_eq_false, false_imp_iff, true_imp_iff] at *)
      obtain ⟨f1, f2, f3, f4⟩ := rnx_at hp' h1
      obtain ⟨o1, o2, o3, o4, o5, o6⟩ := hp'
      have h4' : lngE ((s.drop a.toNat).drop 1) = 0 := rlE_0.1 (by rw [← f4]; exact h4)
      obtain ⟨g1, g2, g3, g4, g5, g6, g7, g8, g9⟩ := rnx_rest o1 o6 f1 h4'
      rw [f2] at h2 h3 h5 h6
      try rw [f4, f3] at h7
      try rw [g3, g4] at h7
      try rw [f4, f3]
      try rw [g3, g4]
      have w1 : (a + 1 + lngK ((s.drop a.toNat).drop 1) + 9223372036854775808) % 18446744073709551616 - 9223372036854775808 = a + 1 + lngK ((s.drop a.toNat).drop 1) := by omega
      try rw [w1] at h7
      have w2 : lngN ((s.drop a.toNat).drop 1) ≤ ((nxtRest (s.drop a.toNat)).length : Int) → (lngN ((s.drop a.toNat).drop 1) + 9223372036854775808) % 18446744073709551616 - 9223372036854775808 = lngN ((s.drop a.toNat).drop 1) := by omega
      exact rnx_bad (by decide) (rv_4 f1 (by omega) h4' (by omega) (by omega) (by omega))
    · (subst hL; subst hQ; simp only [L2, L3, std] at *; try simp only [sySet, reduceCtorEq, forall_const, Int.reduceToNat, Int.reduceAdd, Int.reduceSub, Int.cast_ofNat_Int, Int.toNat_natCast, Nat.le_eq, Nat.sub_eq, ne_eq, Decidable.not_not, implies_true, true_and, and_true, wadd, wsub, wmul, decide_eq_true_eq, decide_eq_false_iff_not, Nat.succ_eq_add_one, imp_false, not_false_eq_true, not_true_eq_false, false_imp_iff, true_imp_iff] at *)
      obtain ⟨f1, f2, f3, f4⟩ := rnx_at hp' h1
      obtain ⟨o1, o2, o3, o4, o5, o6⟩ := hp'
      have h4' : lngE ((s.drop a.toNat).drop 1) = 0 := rlE_0.1 (by rw [← f4]; exact h4)
      obtain ⟨g1, g2, g3, g4, g5, g6, g7, g8, g9⟩ := rnx_rest o1 o6 f1 h4'
      rw [f2] at h2 h3 h5 h6
      try rw [f4, f3] at h7
      try rw [g3, g4] at h7
      try rw [f4, f3]
      try rw [g3, g4]
      have w1 : (a + 1 + lngK ((s.drop a.toNat).drop 1) + 9223372036854775808) % 18446744073709551616 - 9223372036854775808 = a + 1 + lngK ((s.drop a.toNat).drop 1) := by omega
      try rw [w1] at h7
      have w2 : lngN ((s.drop a.toNat).drop 1) ≤ ((nxtRest (s.drop a.toNat)).length : Int) → (lngN ((s.drop a.toNat).drop 1) + 9223372036854775808) % 18446744073709551616 - 9223372036854775808 = lngN ((s.drop a.toNat).drop 1) := by omega
      have w3 : lngN ((s.drop a.toNat).drop 1) ≤ ((nxtRest (s.drop a.toNat)).length : Int) := by omega
      rw [w1, w2 w3]
      omega
    · (subst hL; subst hQ; simp only [L2, L3, std] at *; try simp only [sySet, reduceCtorEq, forall_const, Int.reduceToNat, Int.reduceAdd, Int.reduceSub, Int.cast_ofNat_Int, Int.toNat_natCast, Nat.le_eq, Nat.sub_eq, ne_eq, Decidable.not_not, implies_true, true_and, and_true, wadd, wsub, wmul, decide_eq_true_eq, decide_eq_false_iff_not, Nat.succ_eq_add_one, imp_false, not_false_eq_true, not_true_eq_false, false_imp_iff, true_imp_iff] at *)
      obtain ⟨f1, f2, f3, f4⟩ := rnx_at hp' h1
      obtain ⟨o1, o2, o3, o4, o5, o6⟩ := hp'
      have h4' : lngE ((s.drop a.toNat).drop 1) = 0 := rlE_0.1 (by rw [← f4]; exact h4)
      obtain ⟨g1, g2, g3, g4, g5, g6, g7, g8, g9⟩ := rnx_rest o1 o6 f1 h4'
      rw [f2] at h2 h3 h5 h6
      try rw [f4, f3] at h7
      try rw [g3, g4] at h7
      try rw [f4, f3]
      try rw [g3, g4]
      have w1 : (a + 1 + lngK ((s.drop a.toNat).drop 1) + 9223372036854775808) % 18446744073709551616 - 9223372036854775808 = a + 1 + lngK ((s.drop a.toNat).drop 1) := by omega
      try rw [w1] at h7
      have w2 : lngN ((s.drop a.toNat).drop 1) ≤ ((nxtRest (s.drop a.toNat)).length : Int) → (lngN ((s.drop a.toNat).drop 1) + 9223372036854775808) % 18446744073709551616 - 9223372036854775808 = lngN ((s.drop a.toNat).drop 1) := by omega
      have w3 : lngN ((s.drop a.toNat).drop 1) ≤ ((nxtRest (s.drop a.toNat)).length : Int) := by omega
      rw [w1, w2 w3]
      have hv := rv_5 (d := d.toNat) f1 (by omega) h4' (by omega) (by omega) (by omega)
      obtain ⟨y1, y2, y3⟩ := rnx_yes hv
      have w4 : (a + 1 + lngK ((s.drop a.toNat).drop 1) + lngN ((s.drop a.toNat).drop 1) + 9223372036854775808) % 18446744073709551616 - 9223372036854775808 = a + 1 + lngK ((s.drop a.toNat).drop 1) + lngN ((s.drop a.toNat).drop 1) := by omega
      rw [w4, f2, h6, List.drop_take, g2, show (a + 1 + lngK ((s.drop a.toNat).drop 1) + lngN ((s.drop a.toNat).drop 1)).toNat - (a + 1 + lngK ((s.drop a.toNat).drop 1)).toNat = (lngN ((s.drop a.toNat).drop 1)).toNat by omega]
      refine ⟨y1, ?_, y3⟩
      rw [← y2, List.length_drop]
      omega
    · (subst hL; subst hQ; simp only [L2, L3, std] at *; try simp only [sySet, reduceCtorEq, forall_const, Int.reduceToNat, Int.reduceAdd, Int.reduceSub, Int.cast_ofNat_Int, Int.toNat_natCast, Nat.le_eq, Nat.sub_eq, ne_eq, Decidable.not_not, implies_true, true_and, and_true, wadd, wsub, wmul, decide_eq_true_eq, decide_eq_false_iff_not, Nat.succ_eq_add_one, imp_false, not_false_eq_true, not_true_eq_false, false_imp_iff, true_imp_iff] at *)
      obtain ⟨f1, f2, f3, f4⟩ := rnx_at hp' h1
      obtain ⟨o1, o2, o3, o4, o5, o6⟩ := hp'
      have h4' : lngE ((s.drop a.toNat).drop 1) = 0 := rlE_0.1 (by rw [← f4]; exact h4)
      obtain ⟨g1, g2, g3, g4, g5, g6, g7, g8, g9⟩ := rnx_rest o1 o6 f1 h4'
      rw [f2] at h2 h3 h5 h6
      try rw [f4, f3] at h7
      try rw [g3, g4] at h7
      try rw [f4, f3]
      try rw [g3, g4]
      have w1 : (a + 1 + lngK ((s.drop a.toNat).drop 1) + 9223372036854775808) % 18446744073709551616 - 9223372036854775808 = a + 1 + lngK ((s.drop a.toNat).drop 1) := by omega
      try rw [w1] at h7
      have w2 : lngN ((s.drop a.toNat).drop 1) ≤ ((nxtRest (s.drop a.toNat)).length : Int) → (lngN ((s.drop a.toNat).drop 1) + 9223372036854775808) % 18446744073709551616 - 9223372036854775808 = lngN ((s.drop a.toNat).drop 1) := by omega
      exact rnx_bad (by decide) (rv_6 f1 (by omega) h4' (by omega) (by omega) (by omega))
    · obtain ⟨x0, hx0⟩ : ∃ x : RX, x = ⟨0, [], nxtRest (s.drop a.toNat)⟩ := ⟨_, rfl⟩
      refine ⟨⟨x0, ?_⟩, fun x hx => ?_⟩
      · (cbv; try simp only [sat_need, sat_must, sat_ite, sat_done, sat_yes, sat_ex, sat_all, sat_sup, sat_and, sat_fail, true_and, and_true])
        (subst hL; subst hQ; simp only [L2, L3, std] at *; try simp only [sySet, reduceCtorEq, forall_const, Int.reduceToNat, Int.reduceAdd, Int.reduceSub, Int.cast_ofNat_Int, Int.toNat_natCast, Nat.le_eq, Nat.sub_eq, ne_eq, Decidable.not_not, implies_true, true_and, and_true, wadd, wsub, wmul, decide_eq_true_eq, decide_eq_false_iff_not, Nat.succ_eq_add_one, imp_false, not_false_eq_true, not_true_eq_false, false_imp_iff, true_imp_iff] at *)
        obtain ⟨f1, f2, f3, f4⟩ := rnx_at hp' h1
        obtain ⟨o1, o2, o3, o4, o5, o6⟩ := hp'
        have h4' : lngE ((s.drop a.toNat).drop 1) = 0 := rlE_0.1 (by rw [← f4]; exact h4)
        obtain ⟨g1, g2, g3, g4, g5, g6, g7, g8, g9⟩ := rnx_rest o1 o6 f1 h4'
        rw [f2] at h2 h3 h5 h6
        try rw [f4, f3] at h7
        try rw [g3, g4] at h7
        try rw [f4, f3]
        try rw [g3, g4]
        have w1 : (a + 1 + lngK ((s.drop a.toNat).drop 1) + 9223372036854775808) % 18446744073709551616 - 9223372036854775808 = a + 1 + lngK ((s.drop a.toNat).drop 1) := by omega
        try rw [w1] at h7
        have w2 : lngN ((s.drop a.toNat).drop 1) ≤ ((nxtRest (s.drop a.toNat)).length : Int) → (lngN ((s.drop a.toNat).drop 1) + 9223372036854775808) % 18446744073709551616 - 9223372036854775808 = lngN ((s.drop a.toNat).drop 1) := by omega
        subst hx0
        have hv := rv_7 (d := d.toNat) f1 (by omega) h4' (by omega) (by omega) (by omega)
        refine ⟨rfl, rfl, ?_, ?_, rfl, ?_⟩
        · rw [f2]; omega
        · rw [w1]; exact g1
        · refine ⟨rfl, g5, g5, g6, by show (nxtRest _).length + 0 + 2 ≤ _; omega, ?_, ?_⟩
          · show nxtRest (s.drop a.toNat) <:+ s
            rw [← g2]; exact List.drop_suffix _ _
          · show rnxR s a d = refLs d.toNat (lngN ((s.drop a.toNat).drop 1) - ((0 : Nat) : Int)) [] (nxtRest (s.drop a.toNat))
            rw [show lngN ((s.drop a.toNat).drop 1) - ((0 : Nat) : Int) = lngN ((s.drop a.toNat).drop 1) by omega]
            exact hv
      · cbv at hx
        obtain ⟨nx, hnx⟩ : ∃ nx : RX, nx = ⟨x.i + 1, x.l ++ [(refV (d.toNat + 1) x.r).v], (refV (d.toNat + 1) x.r).r⟩ := ⟨_, rfl⟩
        (cbv; try simp only [sat_need, sat_must, sat_ite, sat_done, sat_yes, sat_ex, sat_all, sat_sup, sat_and, sat_fail, true_and, and_true])
        refine ⟨fun h8 => ⟨?_, fun h9 => ?_, fun h9 => ⟨?_, ⟨nx, ?_⟩⟩⟩, fun h8 => ?_⟩
        · (subst hL; subst hQ; simp only [L2, L3, std] at *; try simp only [sySet, reduceCtorEq, forall_const, Int.reduceToNat, Int.reduceAdd, Int.reduceSub, Int.cast_ofNat_Int, Int.toNat_natCast, Nat.le_eq, Nat.sub_eq, ne_eq, Decidable.not_not, implies_true, true_and, and_true, wadd, wsub, wmul, decide_eq_true_eq, decide_eq_false_iff_not, Nat.succ_eq_add_one, imp_false, not_false_eq_true, not_true_eq_false, false_imp_iff, true_imp_iff] at *)
          exact (rx_step hp' h7 hx h8).1
        · (subst hL; subst hQ; simp only [L2, L3, std] at *; try simp only [sySet, reduceCtorEq, forall_const, Int.reduceToNat, Int.reduceAdd, Int.reduceSub, Int.cast_ofNat_Int, Int.toNat_natCast, Nat.le_eq, Nat.sub_eq, ne_eq, Decidable.not_not, implies_true, true_and, and_true, wadd, wsub, wmul, decide_eq_true_eq, decide_eq_false_iff_not, Nat.succ_eq_add_one, imp_false, not_false_eq_true, not_true_eq_false, false_imp_iff, true_imp_iff] at *)
          obtain ⟨t1, t2, t3, t4⟩ := rx_step hp' h7 hx h8
          rw [rnxE, t2] at h9 ⊢
          exact rnx_bad h9 (t3 h9)
        · (subst hL; subst hQ; simp only [L2, L3, std] at *; try simp only [sySet, reduceCtorEq, forall_const, Int.reduceToNat, Int.reduceAdd, Int.reduceSub, Int.cast_ofNat_Int, Int.toNat_natCast, Nat.le_eq, Nat.sub_eq, ne_eq, Decidable.not_not, implies_true, true_and, and_true, wadd, wsub, wmul, decide_eq_true_eq, decide_eq_false_iff_not, Nat.succ_eq_add_one, imp_false, not_false_eq_true, not_true_eq_false, false_imp_iff, true_imp_iff] at *)
          obtain ⟨o1, o2, o3, o4, o5, o6⟩ := hp'
          obtain ⟨i1, i2, i3, i4, i5, i6, i7⟩ := hx
          have hl : (s.drop a.toNat).length = s.length - a.toNat := List.length_drop
          omega
        · (cbv; try simp only [sat_need, sat_must, sat_ite, sat_done, sat_yes, sat_ex, sat_all, sat_sup, sat_and, sat_fail, true_and, and_true])
          (subst hL; subst hQ; simp only [L2, L3, std] at *; try simp only [sySet, reduceCtorEq, forall_const, Int.reduceToNat, Int.reduceAdd, Int.reduceSub, Int.cast_ofNat_Int, Int.toNat_natCast, Nat.le_eq, Nat.sub_eq, ne_eq, Decidable.not_not, implies_true, true_and, and_true, wadd, wsub, wmul, decide_eq_true_eq, decide_eq_false_iff_not, Nat.succ_eq_add_one, imp_false, not_false_eq_true, not_true_eq_false, false_imp_iff, true_imp_iff] at *)
          obtain ⟨t1, t2, t3, t4⟩ := rx_step hp' h7 hx h8
          rw [rnxE, t2] at h9
          obtain ⟨t5, t6, t7, t8⟩ := t4 h9
          rw [t7, t8]
          subst hnx
          obtain ⟨i1, i2, i3, i4, i5, i6, i7⟩ := hx
          obtain ⟨o1, o2, o3, o4, o5, o6⟩ := hp'
          have hl : (s.drop a.toNat).length = s.length - a.toNat := List.length_drop
          refine ⟨⟨rfl, fun q j hq hj => cv_pushR i1 hq hj⟩, rfl, rfl, ?_, t5, t6⟩
          show ((x.i : Int) + 1) % 18446744073709551616 = ((x.i + 1 : Nat) : Int)
          omega
        · (subst hL; subst hQ; simp only [L2, L3, std] at *; try simp only [sySet, reduceCtorEq, forall_const, Int.reduceToNat, Int.reduceAdd, Int.reduceSub, Int.cast_ofNat_Int, Int.toNat_natCast, Nat.le_eq, Nat.sub_eq, ne_eq, Decidable.not_not, implies_true, true_and, and_true, wadd, wsub, wmul, decide_eq_true_eq, decide_eq_false_iff_not, Nat.succ_eq_add_one, imp_false, not_false_eq_true, not_true_eq_false, false_imp_iff, true_imp_iff] at *)
          exact rx_fin hx h8
end Sy
end Go.Proofs.Ythlggigjnpldcaa
/-! Chapter 19 (session), the document's answer: Message, Read. -/
namespace Go.Proofs.Ythlggigjnpldcaa
namespace Sy
open Go Go.RowKit
set_option maxRecDepth 100000
set_option linter.unusedSimpArgs false
set_option linter.unusedVariables false

theorem callTo_mono {P : Program} {f : FuncId} {args : Array Value} {w : World} {Q Q' : Ending → World → Prop} (h : CallTo P f args w Q) (hq : ∀ e w, Q e w → Q' e w) : CallTo P f args w Q' := by
  unfold CallTo at *
  split at h
  · exact Calls.mono h hq
  · exact hq _ _ h
  · exact h.elim
/-- An answer may be told in other words. -/
theorem ac_res {P : Program} {f : FuncId} {xs : List AV} {r r' : AV} (e : ∀ (h : Array Obj) D v, R h D noMu r v → R h D noMu r' v) (h : ACalls P f xs r) : ACalls P f xs r' := fun D w vs hD hx =>
  callTo_mono (h D w vs hD hx) fun _ _ ⟨v, D', h1, h2, h3, h4, h5⟩ => ⟨v, D', h1, h2, h3, h4, e _ _ _ h5⟩
theorem cvB_R {h : Array Obj} {D : Nat → Prop} {μ : Mu} {c : CV} {v : Value} (r : R h D μ (cvA std c) v) : R h D μ (cvB std c) v := by
  obtain ⟨us, rfl, o1, s1, hr⟩ := R.inv_agg (cs := [.int .i64 c.kd, .int .u64 c.nn, .str c.tx, .lst 4 (lenV c) (cvIn c)]) r
  refine R.agg (cs := [.int .i64 c.kd, .int .u64 c.nn, .str c.tx, .lst 4 (lenV c) (fun i j => cv1 std (nthV c.ls i) j)]) _ (by rw [← s1]; rfl) o1 fun i y v hy hv => ?_
  match i, hy with
  | 0, hy => cases hy; exact hr 0 _ v rfl hv
  | 1, hy => cases hy; exact hr 1 _ v rfl hv
  | 2, hy => cases hy; exact hr 2 _ v rfl hv
  | 3, hy =>
    cases hy
    exact lst_same (hr 3 _ v rfl hv) fun i j hi hj => by rw [cv1_std _ _ hj]; exact cvGet_nth _ _ _ hi
  | i + 4, hy => simp at hy
theorem tup3_R {h : Array Obj} {D : Nat → Prop} {μ : Mu} {x y a b : AV} {v : Value} (e : ∀ v, R h D μ x v → R h D μ y v) (r : R h D μ (.tup [x, a, b]) v) : R h D μ (.tup [y, a, b]) v := by
  obtain ⟨us, rfl, hr⟩ := r.inv_tup
  have h2 := rl_1 e hr
  exact .tup _ _ h2.1 h2.2
noncomputable def rnxB_s (L : Seal) : Ent1 := (75, fun xs => match xs with
  | [.str s, .int .i64 a, .int .i64 d] => some (L (L3 L (rnxOk 1000000) s a) d, .tup [cvB L (L3 L rnxV s a d), .int .i64 (L3 L rnxA s a d), .int .i64 (L3 L rnxE s a d)])
  | _ => none)
theorem rnxB_good : Good Try.prog (rnxB_s std) := by
  intro xs p r h hp
  dsimp only [rnxB_s] at h ⊢
  split at h <;> cases h
  try simp only [L2, L3, std] at hp ⊢
  rename_i s a d
  exact ac_res (fun h D v r => tup3_R (fun v => cvB_R) r) (rnx_good 1000000 _ _ _ rfl hp)
theorem cv_push_nil (g : Nat → CV) {i q j : Nat} (hq : q < i + 1) (hj : j < 4) (hn : (g i).ls = []) :
    sel1 std (nblt q i) (cv1 std (g q) j) (lget .dead [.int .i64 (g i).kd, .int .u64 (g i).nn, .str (g i).tx, .nils] ((q - i) * 4 + j)) = cv1 std (g q) j := by
  by_cases h : q < i
  · rw [blt_t h, show q - i = 0 by omega, Nat.zero_mul, Nat.zero_add]
    match j, hj with
    | 0, _ => rfl
    | 1, _ => rfl
    | 2, _ => rfl
    | 3, _ => rfl
  · have : q = i := by omega
    subst this
    rw [blt_f (by omega), show q - q = 0 by omega, Nat.zero_mul, Nat.zero_add]
    match j, hj with
    | 0, _ => rfl
    | 1, _ => rfl
    | 2, _ => rfl
    | 3, _ =>
      show AV.lst 4 0 (cvIn (g q)) = AV.lst 4 (g q).ls.length (cvIn (g q))
      rw [hn]; rfl
theorem push_nil {l : List CV} {v : CV} {i : Nat} (hi : i = l.length) (hn : v.ls = []) :
    rdL (.lst 4 (i.add 1) fun q j => sel1 std (nblt q i) (cv1 std (nthV l q) j) (lget .dead [.int .i64 v.kd, .int .u64 v.nn, .str v.tx, .nils] ((q - i) * 4 + j))) = l ++ [v] ∧
    okL (.lst 4 (i.add 1) fun q j => sel1 std (nblt q i) (cv1 std (nthV l q) j) (lget .dead [.int .i64 v.kd, .int .u64 v.nn, .str v.tx, .nils] ((q - i) * 4 + j))) := by
  subst hi
  refine rd_cells (by simp) fun q j hq hj => ?_
  have hq : q < l.length + 1 := hq
  by_cases h : q < l.length
  · rw [nthV_app_l h, ← cv1_std _ _ hj, blt_t h, show q - l.length = 0 by omega, Nat.zero_mul, Nat.zero_add]
    match j, hj with
    | 0, _ => rfl
    | 1, _ => rfl
    | 2, _ => rfl
    | 3, _ => rfl
  · have : q = l.length := by omega
    subst this
    rw [nthV_app_r, ← cv1_std _ _ hj, blt_f (by omega), show l.length - l.length = 0 by omega, Nat.zero_mul, Nat.zero_add]
    match j, hj with
    | 0, _ => rfl
    | 1, _ => rfl
    | 2, _ => rfl
    | 3, _ =>
      have e : nthV l l.length = .mk 0 0 [] [] := by rw [nthV, List.getD_eq_getElem?_getD, List.getElem?_eq_none (Nat.le_refl _)]; rfl
      show AV.lst 4 0 (cvIn (nthV l l.length)) = AV.lst 4 v.ls.length (cvGet v.ls)
      rw [hn, e]; rfl
theorem rmsg_end {e k : Int} {b : List UInt8} {l : List Int} (h : msgOk e b l) (x : Nat → Nat → AV) (n : Nat) (hr : rdL (.lst 4 n x) = itemsV k b l) (ho : okL (.lst 4 n x)) :
    (okL (.lst 4 n x) ∧ szOk 2000 (CV.mk 3 0 [] (rdL (.lst 4 n x))) ∧ txOk (mkV std 3 0 [] (.lst 4 n x))) ∧
    (¬ putE (mkV std 3 0 [] (.lst 4 n x)) = 0 → [] = msgT k e b l) ∧
    (putE (mkV std 3 0 [] (.lst 4 n x)) = 0 → byOk e (putT (mkV std 3 0 [] (.lst 4 n x))) ∧ byT k e (putT (mkV std 3 0 [] (.lst 4 n x))) = msgT k e b l) := by
  rw [show mkV std 3 0 [] (.lst 4 n x) = CV.mk 3 0 [] (rdL (.lst 4 n x)) from rfl, hr, show CV.mk 3 0 [] (itemsV k b l) = msgV k b l from rfl]
  obtain ⟨m1, m2, m3⟩ := msgV_ok (k := k) h
  refine ⟨⟨ho, m1, m2⟩, fun hE => by rw [msgT, if_neg hE], fun hE => ⟨⟨h.1.1, h.1.2, ?_⟩, by rw [msgT, if_pos hE]⟩⟩
  have := m2.2
  rw [putT, if_pos hE]
  omega
def rmsgA (L : Seal) (l : List Int) : Nat → St → Option Ann := fun id st => match id with
  | 0 => some ⟨Nat, fun i => [(19, .int .i64 (L natI i)), (9, .ref 9 0)], fun i => [(9, .box 37 [.int .i64 3, .int .u64 0, .str [], .sl 900 4 0 i]), (900, .row 37 4 i (fun i j => cv1 L (L2 L nthV (L numVs l) i) j))], [0, 1, 2, 17, 18], [],
      fun i => L2 L (fun (l : List Int) i => i ≤ l.length) l i, fun i => L2 L (fun (l : List Int) (i : Nat) => l.length - i) l i⟩
  | _ => none
def rmsg_s (L : Seal) : Ent1 := (36, fun xs => match xs with
  | [.int .i64 k, .int .u64 e, .str b, x] => some (L okI x ∧ L3 L msgOk e b (L rdI x), .str (L (L3 L msgT k e b) (L rdI x)))
  | _ => none)
theorem rmsg_good : Good Try.prog (rmsg_s std) := by
  intro xs p r h hp
  dsimp only [rmsg_s] at h ⊢
  split at h <;> cases h
  try simp only [L2, L3, std] at hp ⊢
  rename_i k e b x
  obtain ⟨ho, hz⟩ := hp
  refine ac_li ho ?_
  have hz : msgOk e b (rdI x) := hz
  show ACalls _ _ [.int .i64 k, .int .u64 e, .str b, lstI std (rdI x)] (.str (msgT k e b (rdI x)))
  generalize rdI x = l at hz ⊢
  refine acalls_L' (T := tt) (S := fun L => sumOf [rput2_s 2000 L, rby_s L]) (lo := fun L => rmsgA L l) (lb := noA) 5 (fn := Try.f36) (xs := fun L => [.int .i64 k, .int .u64 e, .str b, lstI L l]) rfl rfl (by kernel_rfl) (by kernel_rfl) rfl tt_ok
    (sumOf_ok ⟨rput2_good _, rby_good, trivial⟩) (by kernel_rfl) ?_
  intro L P' Q' hL hP hQ
  (cbv; try simp only [sat_need, sat_must, sat_ite, sat_done, sat_yes, sat_ex, sat_all, sat_sup, sat_and, sat_fail, true_and, and_true])
  refine ⟨⟨0, ?_⟩, fun i hi => ?_⟩
  · (cbv; try simp only [sat_need, sat_must, sat_ite, sat_done, sat_yes, sat_ex, sat_all, sat_sup, sat_and, sat_fail, true_and, and_true])
    (subst hL; subst hQ; simp only [L2, L3, std] at *; try simp only [sySet, reduceCtorEq, forall_const, Int.reduceToNat, Int.reduceAdd, Int.reduceSub, Int.cast_ofNat_Int, Int.toNat_natCast, Nat.le_eq, Nat.sub_eq, ne_eq, Decidable.not_not, implies_true, true_and, and_true, wadd, wsub, wmul, decide_eq_true_eq, decide_eq_false_iff_not, Nat.succ_eq_add_one, imp_false, not_false_eq_true, not_true_eq_false, false_imp_iff, true_imp_iff] at *)
    exact Nat.zero_le _
  · cbv at hi
    (cbv; try simp only [sat_need, sat_must, sat_ite, sat_done, sat_yes, sat_ex, sat_all, sat_sup, sat_and, sat_fail, true_and, and_true])
    refine ⟨fun hlt => ⟨?_, ?_, ⟨i + 1, ?_⟩⟩, fun hge => ⟨fun h2 => ?_, fun h2 => ?_⟩⟩
    · (subst hL; subst hQ; simp only [L2, L3, std] at *; try simp only [sySet, reduceCtorEq, forall_const, Int.reduceToNat, Int.reduceAdd, Int.reduceSub, Int.cast_ofNat_Int, Int.toNat_natCast, Nat.le_eq, Nat.sub_eq, ne_eq, Decidable.not_not, implies_true, true_and, and_true, wadd, wsub, wmul, decide_eq_true_eq, decide_eq_false_iff_not, Nat.succ_eq_add_one, imp_false, not_false_eq_true, not_true_eq_false, false_imp_iff, true_imp_iff] at *)
      omega
    · (subst hL; subst hQ; simp only [L2, L3, std] at *; try simp only [sySet, reduceCtorEq, forall_const, Int.reduceToNat, Int.reduceAdd, Int.reduceSub, Int.cast_ofNat_Int, Int.toNat_natCast, Nat.le_eq, Nat.sub_eq, ne_eq, Decidable.not_not, implies_true, true_and, and_true, wadd, wsub, wmul, decide_eq_true_eq, decide_eq_false_iff_not, Nat.succ_eq_add_one, imp_false, not_false_eq_true, not_true_eq_false, false_imp_iff, true_imp_iff] at *)
      have : lenI l = l.length := rfl
      have := hz.2.2.1
      omega
    · (cbv; try simp only [sat_need, sat_must, sat_ite, sat_done, sat_yes, sat_ex, sat_all, sat_sup, sat_and, sat_fail, true_and, and_true])
      (subst hL; subst hQ; simp only [L2, L3, std] at *; try simp only [sySet, reduceCtorEq, forall_const, Int.reduceToNat, Int.reduceAdd, Int.reduceSub, Int.cast_ofNat_Int, Int.toNat_natCast, Nat.le_eq, Nat.sub_eq, ne_eq, Decidable.not_not, implies_true, true_and, and_true, wadd, wsub, wmul, decide_eq_true_eq, decide_eq_false_iff_not, Nat.succ_eq_add_one, imp_false, not_false_eq_true, not_true_eq_false, false_imp_iff, true_imp_iff] at *)
      have : lenI l = l.length := rfl
      have e1 : nthV (numVs l) i = numV (nthI l i) := by
        rw [nthV, numVs, List.getD_eq_getElem?_getD, List.getElem?_map, nthI, List.getD_eq_getElem?_getD, List.getElem?_eq_getElem (by omega)]; rfl
      have hp := fun q j hq hj => cv_push_nil (nthV (numVs l)) (i := i) (q := q) (j := j) hq hj (by rw [e1]; rfl)
      rw [e1] at hp
      have := hz.2.2.1
      exact ⟨hp, by omega, by omega, by omega⟩
    · (subst hL; subst hQ; simp only [L2, L3, std] at *; try simp only [sySet, reduceCtorEq, forall_const, Int.reduceToNat, Int.reduceAdd, Int.reduceSub, Int.cast_ofNat_Int, Int.toNat_natCast, Nat.le_eq, Nat.sub_eq, ne_eq, Decidable.not_not, implies_true, true_and, and_true, wadd, wsub, wmul, decide_eq_true_eq, decide_eq_false_iff_not, Nat.succ_eq_add_one, imp_false, not_false_eq_true, not_true_eq_false, false_imp_iff, true_imp_iff] at *)
      have : lenI l = l.length := rfl
      have := hz.2.2.1
      subst h2
      obtain ⟨e1, e2⟩ := push_nil (l := numVs l) (v := txtV b) (i := i) (by rw [numVs_len]; omega) rfl
      refine ⟨by omega, rmsg_end hz _ _ ?_ e2⟩
      have e3 : itemsV 2 b l = numVs l ++ [txtV b] := if_pos rfl
      rw [e3]; exact e1
    · (subst hL; subst hQ; simp only [L2, L3, std] at *; try simp only [sySet, reduceCtorEq, forall_const, Int.reduceToNat, Int.reduceAdd, Int.reduceSub, Int.cast_ofNat_Int, Int.toNat_natCast, Nat.le_eq, Nat.sub_eq, ne_eq, Decidable.not_not, implies_true, true_and, and_true, wadd, wsub, wmul, decide_eq_true_eq, decide_eq_false_iff_not, Nat.succ_eq_add_one, imp_false, not_false_eq_true, not_true_eq_false, false_imp_iff, true_imp_iff] at *)
      have : lenI l = l.length := rfl
      obtain ⟨e1, e2⟩ := rd_cells (n := i) (get := fun q j => cv1 std (nthV (numVs l) q) j) (l := numVs l) (by rw [numVs_len]; omega) (fun q j hq hj => cv1_std _ j hj)
      refine rmsg_end hz _ _ ?_ e2
      have e3 : itemsV k b l = numVs l := if_neg h2
      rw [e3]; exact e1
/-! ### Read -/
noncomputable def rrs_s (L : Seal) : Ent1 := (38, fun xs => match xs with
  | [.str s] => some (L2 L upto 900000 s, .tup [.int .i64 (L rsK s), .int .u64 (L rsP s), lstI L (L rsI s), .str (L rsB s)])
  | _ => none)
def rtab (k : Int) : Int := nthI [0, 1, 2, 2, 3] k.toNat
noncomputable def rrV (s : List UInt8) : CV := rnxV (nxB s) 0 0
noncomputable def rrInv (s : List UInt8) (i : Nat) : Prop := numTo (rrV s).ls i ∧ (i : Int) ≤ rtab (nxK s)
def rrMu (s : List UInt8) (i : Nat) : Nat := (rtab (nxK s) - i).toNat
theorem rtab_le (k : Int) : 0 ≤ rtab k ∧ rtab k ≤ 3 := by
  unfold rtab
  generalize k.toNat = m
  match m with
  | 0 => decide
  | 1 => decide
  | 2 => decide
  | 3 => decide
  | 4 => decide
  | m + 5 => exact ⟨by show (0 : Int) ≤ 0; decide, by show (0 : Int) ≤ 3; decide⟩
theorem rtab_nums {k : Int} (h0 : 1 ≤ k) (h1 : k ≤ 4) : rtab k = numsZ k := by
  have : k = 1 ∨ k = 2 ∨ k = 3 ∨ k = 4 := by omega
  rcases this with rfl | rfl | rfl | rfl <;> rfl
noncomputable def rrA (L : Seal) (s : List UInt8) : Nat → St → Option Ann := fun id st => match id with
  | 0 => some ⟨Nat, fun i => [(14, .int .i64 (L natI i)), (13, .sl 901 1 0 i)], fun i => [(901, .row 24 1 i (fun i _ => .int .u64 (L2 L nnAt (L CV.ls (L rrV s)) i)))], [6, 9, 11, 12], [6, 9],
      fun i => L2 L rrInv s i, fun i => L2 L rrMu s i⟩
  | _ => none
theorem rr_facts {s : List UInt8} (h1 : nxE s = 0) : (nxB s).length ≤ 8192 ∧ 1 ≤ nxK s ∧ (paE s = 0 ↔ rnL s = (s.length : Int)) ∧ (getE (nxB s) = 0 ↔ rnxE (nxB s) 0 0 = 0 ∧ rnxA (nxB s) 0 0 = ((nxB s).length : Int)) ∧ (getE (nxB s) = 0 → getV (nxB s) = rrV s) := by
  obtain ⟨hl, hn⟩ := nx_len s h1
  obtain ⟨hN0, hN1⟩ := nxN_bound s
  have hB : (nxB s).length ≤ 8192 := by
    rw [nxB, if_pos h1, List.length_drop, List.length_take]
    omega
  have hK : 1 ≤ nxK s := by
    rw [nxK, if_pos h1]
    have nc : nxE s = if s.length < 20 then 3 else if s.take 3 ≠ [79, 70, 1] then 4 else if (s.getD 3 0).toNat = 0 then 10 else if 8192 < nxN s then 5 else if (s.length : Int) < nxN s + 20 then 3 else chkE (s.take (nxN s + 20).toNat) := rfl
    rw [nc] at h1
    split at h1
    · cases h1
    · split at h1
      · cases h1
      · split at h1
        · cases h1
        · omega
  have hR : rnL s = nxN s + 20 := if_pos h1
  have hr : nxR s = s.drop (nxN s + 20).toNat := by rw [nxR, if_pos h1]
  have g := get_ref hB
  have hx : rnxR (nxB s) 0 0 = refV 0 (nxB s) := rfl
  refine ⟨hB, hK, ?_, ?_, fun h => ?_⟩
  · have hd : nxR s = [] ↔ rnL s = (s.length : Int) := by
      rw [hr, hR]
      constructor
      · intro h
        have := congrArg List.length h
        rw [List.length_drop, List.length_nil] at this
        omega
      · intro h
        exact List.drop_eq_nil_of_le (by omega)
    rw [← hd]
    unfold paE
    by_cases hn : nxR s = []
    · rw [if_neg (fun h => h.2 hn)]; exact ⟨fun _ => hn, fun _ => h1⟩
    · rw [if_pos ⟨h1, hn⟩]; exact ⟨fun h => absurd h (by decide), fun h => absurd h hn⟩
  · rw [g.1, rnxE, rnxA, hx]
    constructor
    · rintro ⟨a, b⟩
      rw [if_pos a, b]
      exact ⟨a, by simp⟩
    · rintro ⟨a, b⟩
      rw [if_pos a] at b
      exact ⟨a, List.eq_nil_of_length_eq_zero (by omega)⟩
  · rw [g.2 h, rrV, rnxV, hx, if_pos (g.1.1 h).1]
theorem rr_pa {s : List UInt8} (h : paE s = 0) : paK s = nxK s ∧ paP s = nxP s ∧ paB s = nxB s := ⟨if_pos h, if_pos h, if_pos h⟩
theorem pa_nx {s : List UInt8} (h : paE s = 0) : nxE s = 0 := by
  unfold paE at h
  split at h
  · cases h
  · exact h
theorem rr_iff {s : List UInt8} : rsOk s ↔ nxE s = 0 ∧ rnL s = (s.length : Int) ∧ nxK s ≤ 4 ∧ rnxE (nxB s) 0 0 = 0 ∧ rnxA (nxB s) 0 0 = ((nxB s).length : Int) ∧ (rrV s).kd = 3 ∧
    (nxK s = 2 → (rrV s).ls.length = 3 ∧ (nthV (rrV s).ls 2).kd = 2) ∧ (nxK s ≠ 2 → ((rrV s).ls.length : Int) = rtab (nxK s)) ∧ numTo (rrV s).ls (rtab (nxK s)).toNat := by
  constructor
  · rintro ⟨a1, a2, a3, a4, a5, a6, a7⟩
    have n1 := pa_nx a1
    obtain ⟨f1, f2, f3, f4, f5⟩ := rr_facts n1
    obtain ⟨p1, p2, p3⟩ := rr_pa a1
    rw [p3] at a3 a4
    have eL : rsL s = (rrV s).ls := by rw [rsL, p3, f5 a3]
    have k4 : nxK s ≤ 4 := by
      rw [rsN, p1] at a2
      apply Int.not_lt.1
      intro h
      apply a2
      unfold numsZ
      rw [if_neg (by omega), if_neg (by omega), if_neg (by omega)]
    have eN : rsN s = rtab (nxK s) := by rw [rsN, p1, rtab_nums f2 k4]
    have eM : rsM s = (rtab (nxK s)).toNat := by rw [rsM, eN]
    rw [p1, eL, eN, eM] at a5
    rw [p1, eL, eN] at a6
    rw [eL, eM] at a7
    rw [f5 a3] at a4
    refine ⟨n1, f3.1 a1, k4, (f4.1 a3).1, (f4.1 a3).2, a4, fun h => ?_, a6, a7⟩
    obtain ⟨b1, b2⟩ := a5 h
    rw [h] at b1 b2
    refine ⟨by have : rtab 2 = 2 := rfl
               omega, b2⟩
  · rintro ⟨n1, a1, k4, a2, a3, a4, a5, a6, a7⟩
    obtain ⟨f1, f2, f3, f4, f5⟩ := rr_facts n1
    have pe := f3.2 a1
    obtain ⟨p1, p2, p3⟩ := rr_pa pe
    have ge := f4.2 ⟨a2, a3⟩
    have eL : rsL s = (rrV s).ls := by rw [rsL, p3, f5 ge]
    have eN : rsN s = rtab (nxK s) := by rw [rsN, p1, rtab_nums f2 k4]
    have eM : rsM s = (rtab (nxK s)).toNat := by rw [rsM, eN]
    refine ⟨pe, ?_, by rw [p3]; exact ge, by rw [p3, f5 ge]; exact a4, fun h => ?_, fun h => ?_, by rw [eL, eM]; exact a7⟩
    · rw [rsN, p1]
      have : nxK s = 1 ∨ nxK s = 2 ∨ nxK s = 3 ∨ nxK s = 4 := by omega
      rcases this with h | h | h | h <;> rw [h] <;> decide
    · rw [p1] at h
      obtain ⟨b1, b2⟩ := a5 h
      rw [eL, eN, eM, h]
      refine ⟨by have : rtab 2 = 2 := rfl
                 omega, b2⟩
    · rw [p1] at h
      rw [eL, eN]
      exact a6 h
theorem rr_yes {s : List UInt8} {i : Nat} (h : rsOk s) (hi : (i : Int) = rtab (nxK s)) : nxK s = rsK s ∧ nxP s = rsP s ∧ fits1 (lstI std (rsI s)) (.lst 1 i fun i x => .int .u64 (nnAt (rrV s).ls i)) ∧ (if nxK s = 2 then (nthV (rrV s).ls 2).tx else []) = rsB s := by
  have a1 := h.1
  obtain ⟨n1, _, k4, r1, r2, _⟩ := rr_iff.1 h
  obtain ⟨f1, f2, f3, f4, f5⟩ := rr_facts n1
  obtain ⟨p1, p2, p3⟩ := rr_pa a1
  have a3 := h.2.2.1
  rw [p3] at a3
  have eL : rsL s = (rrV s).ls := by rw [rsL, p3, f5 a3]
  have eN : rsN s = rtab (nxK s) := by rw [rsN, p1, rtab_nums f2 k4]
  have eM : rsM s = (rtab (nxK s)).toNat := by rw [rsM, eN]
  obtain ⟨y1, y2, y3, y4, y5⟩ := rs_yes (i := i) h (by rw [eM]; omega)
  rw [p1] at y1
  rw [p2] at y2
  rw [eL] at y3
  refine ⟨y1, y2, y3, ?_⟩
  rw [← y4, p1, eL]
  by_cases hk : nxK s = 2
  · rw [if_pos hk, if_pos hk, eM, hk]; rfl
  · rw [if_neg hk, if_neg hk]
theorem rrs_good : Good Try.prog (rrs_s std) := by
  intro xs p r h hp
  dsimp only [rrs_s] at h ⊢
  split at h <;> cases h
  try simp only [L2, L3, std] at hp ⊢
  rename_i s
  refine acalls_L (T := tt) (S := fun L => sumOf [rnext_s L, rnxB_s L]) (lo := fun L => rrA L s) (lb := noA) 5 (fn := Try.f38) rfl rfl (by kernel_rfl) (by kernel_rfl) rfl tt_ok (sumOf_ok ⟨rnext_good, rnxB_good, trivial⟩) (by kernel_rfl) ?_
  intro L P' Q' hL hP hQ
  have bad : ¬ rsOk s → fits (.tup [.int .i64 (rsK s), .int .u64 (rsP s), lstI std (rsI s), .str (rsB s)]) (.tup [.int .i64 0, .int .u64 0, .nils, .str []]) := by
    intro h
    have e : rsE s = 4 := if_neg h
    simp only [rsK, rsP, rsI, rsB, e]
    show fits (.tup [.int .i64 0, .int .u64 0, .lst 1 0 _, .str []]) _
    simp only [sySet]
    trivial
  (cbv; try simp only [sat_need, sat_must, sat_ite, sat_done, sat_yes, sat_ex, sat_all, sat_sup, sat_and, sat_fail, true_and, and_true])
  refine ⟨?_, fun h1 => ?_, fun h1 => ⟨fun h2 => ?_, fun h2 => ⟨fun h3 => ?_, fun h3 => ⟨?_, fun h4 => ?_, fun h4 => ⟨fun h5 => ?_, fun h5 => ⟨fun h6 => ?_, fun h6 => ⟨?_, fun h7 => ⟨fun h8 => ?_, fun h8 => ⟨?_, fun h9 => ?_, fun h9 => ⟨?_, ⟨0, ?_⟩, fun i hi => ?_⟩⟩⟩, fun h7 => ?_⟩⟩⟩⟩⟩⟩⟩
  · subst hL; exact hp
  · (subst hL; subst hQ; simp only [L2, L3, std] at *; try simp only [sySet, reduceCtorEq, forall_const, Int.reduceToNat, Int.reduceAdd, Int.reduceSub, Int.cast_ofNat_Int, Int.toNat_natCast, Nat.le_eq, Nat.sub_eq, ne_eq, Decidable.not_not, implies_true, true_and, and_true, wadd, wsub, wmul, decide_eq_true_eq, decide_eq_false_iff_not, Nat.succ_eq_add_one, imp_false, not_false_eq_true, not_true_eq_false, false_imp_iff, true_imp_iff] at *); exact bad (fun h => h1 (rr_iff.1 h).1)
  · (subst hL; subst hQ; simp only [L2, L3, std] at *; try simp only [sySet, reduceCtorEq, forall_const, Int.reduceToNat, Int.reduceAdd, Int.reduceSub, Int.cast_ofNat_Int, Int.toNat_natCast, Nat.le_eq, Nat.sub_eq, ne_eq, Decidable.not_not, implies_true, true_and, and_true, wadd, wsub, wmul, decide_eq_true_eq, decide_eq_false_iff_not, Nat.succ_eq_add_one, imp_false, not_false_eq_true, not_true_eq_false, false_imp_iff, true_imp_iff] at *); exact bad (fun h => h2 (rr_iff.1 h).2.1)
  · (subst hL; subst hQ; simp only [L2, L3, std] at *; try simp only [sySet, reduceCtorEq, forall_const, Int.reduceToNat, Int.reduceAdd, Int.reduceSub, Int.cast_ofNat_Int, Int.toNat_natCast, Nat.le_eq, Nat.sub_eq, ne_eq, Decidable.not_not, implies_true, true_and, and_true, wadd, wsub, wmul, decide_eq_true_eq, decide_eq_false_iff_not, Nat.succ_eq_add_one, imp_false, not_false_eq_true, not_true_eq_false, false_imp_iff, true_imp_iff] at *); exact bad (fun h => by have := (rr_iff.1 h).2.2.1; omega)
  · (subst hL; subst hQ; simp only [L2, L3, std] at *; try simp only [sySet, reduceCtorEq, forall_const, Int.reduceToNat, Int.reduceAdd, Int.reduceSub, Int.cast_ofNat_Int, Int.toNat_natCast, Nat.le_eq, Nat.sub_eq, ne_eq, Decidable.not_not, implies_true, true_and, and_true, wadd, wsub, wmul, decide_eq_true_eq, decide_eq_false_iff_not, Nat.succ_eq_add_one, imp_false, not_false_eq_true, not_true_eq_false, false_imp_iff, true_imp_iff] at *)
    have f := (rr_facts h1).1
    exact ⟨by omega, by omega, by omega, by omega, by omega, by omega⟩
  · (subst hL; subst hQ; simp only [L2, L3, std] at *; try simp only [sySet, reduceCtorEq, forall_const, Int.reduceToNat, Int.reduceAdd, Int.reduceSub, Int.cast_ofNat_Int, Int.toNat_natCast, Nat.le_eq, Nat.sub_eq, ne_eq, Decidable.not_not, implies_true, true_and, and_true, wadd, wsub, wmul, decide_eq_true_eq, decide_eq_false_iff_not, Nat.succ_eq_add_one, imp_false, not_false_eq_true, not_true_eq_false, false_imp_iff, true_imp_iff] at *); exact bad (fun h => h4 (rr_iff.1 h).2.2.2.1)
  · (subst hL; subst hQ; simp only [L2, L3, std] at *; try simp only [sySet, reduceCtorEq, forall_const, Int.reduceToNat, Int.reduceAdd, Int.reduceSub, Int.cast_ofNat_Int, Int.toNat_natCast, Nat.le_eq, Nat.sub_eq, ne_eq, Decidable.not_not, implies_true, true_and, and_true, wadd, wsub, wmul, decide_eq_true_eq, decide_eq_false_iff_not, Nat.succ_eq_add_one, imp_false, not_false_eq_true, not_true_eq_false, false_imp_iff, true_imp_iff] at *); exact bad (fun h => h5 (rr_iff.1 h).2.2.2.2.1)
  · (subst hL; subst hQ; simp only [L2, L3, std] at *; try simp only [sySet, reduceCtorEq, forall_const, Int.reduceToNat, Int.reduceAdd, Int.reduceSub, Int.cast_ofNat_Int, Int.toNat_natCast, Nat.le_eq, Nat.sub_eq, ne_eq, Decidable.not_not, implies_true, true_and, and_true, wadd, wsub, wmul, decide_eq_true_eq, decide_eq_false_iff_not, Nat.succ_eq_add_one, imp_false, not_false_eq_true, not_true_eq_false, false_imp_iff, true_imp_iff] at *); exact bad (fun h => h6 (rr_iff.1 h).2.2.2.2.2.1)
  · (subst hL; subst hQ; simp only [L2, L3, std] at *; try simp only [sySet, reduceCtorEq, forall_const, Int.reduceToNat, Int.reduceAdd, Int.reduceSub, Int.cast_ofNat_Int, Int.toNat_natCast, Nat.le_eq, Nat.sub_eq, ne_eq, Decidable.not_not, implies_true, true_and, and_true, wadd, wsub, wmul, decide_eq_true_eq, decide_eq_false_iff_not, Nat.succ_eq_add_one, imp_false, not_false_eq_true, not_true_eq_false, false_imp_iff, true_imp_iff] at *)
    have f := (rr_facts h1).2.1
    omega
  · (subst hL; subst hQ; simp only [L2, L3, std] at *; try simp only [sySet, reduceCtorEq, forall_const, Int.reduceToNat, Int.reduceAdd, Int.reduceSub, Int.cast_ofNat_Int, Int.toNat_natCast, Nat.le_eq, Nat.sub_eq, ne_eq, Decidable.not_not, implies_true, true_and, and_true, wadd, wsub, wmul, decide_eq_true_eq, decide_eq_false_iff_not, Nat.succ_eq_add_one, imp_false, not_false_eq_true, not_true_eq_false, false_imp_iff, true_imp_iff] at *); exact bad fun h => h8 (by have := ((rr_iff.1 h).2.2.2.2.2.2.1 h7).1; unfold lenV; unfold rrV at this; omega)
  · (subst hL; subst hQ; simp only [L2, L3, std] at *; try simp only [sySet, reduceCtorEq, forall_const, Int.reduceToNat, Int.reduceAdd, Int.reduceSub, Int.cast_ofNat_Int, Int.toNat_natCast, Nat.le_eq, Nat.sub_eq, ne_eq, Decidable.not_not, implies_true, true_and, and_true, wadd, wsub, wmul, decide_eq_true_eq, decide_eq_false_iff_not, Nat.succ_eq_add_one, imp_false, not_false_eq_true, not_true_eq_false, false_imp_iff, true_imp_iff] at *)
    omega
  · (subst hL; subst hQ; simp only [L2, L3, std] at *; try simp only [sySet, reduceCtorEq, forall_const, Int.reduceToNat, Int.reduceAdd, Int.reduceSub, Int.cast_ofNat_Int, Int.toNat_natCast, Nat.le_eq, Nat.sub_eq, ne_eq, Decidable.not_not, implies_true, true_and, and_true, wadd, wsub, wmul, decide_eq_true_eq, decide_eq_false_iff_not, Nat.succ_eq_add_one, imp_false, not_false_eq_true, not_true_eq_false, false_imp_iff, true_imp_iff] at *); exact bad (fun h => h9 ((rr_iff.1 h).2.2.2.2.2.2.1 h7).2)
  · (subst hL; subst hQ; simp only [L2, L3, std] at *; try simp only [sySet, reduceCtorEq, forall_const, Int.reduceToNat, Int.reduceAdd, Int.reduceSub, Int.cast_ofNat_Int, Int.toNat_natCast, Nat.le_eq, Nat.sub_eq, ne_eq, Decidable.not_not, implies_true, true_and, and_true, wadd, wsub, wmul, decide_eq_true_eq, decide_eq_false_iff_not, Nat.succ_eq_add_one, imp_false, not_false_eq_true, not_true_eq_false, false_imp_iff, true_imp_iff] at *)
    omega
  · (cbv; try simp only [sat_need, sat_must, sat_ite, sat_done, sat_yes, sat_ex, sat_all, sat_sup, sat_and, sat_fail, true_and, and_true])
    (subst hL; subst hQ; simp only [L2, L3, std] at *; try simp only [sySet, reduceCtorEq, forall_const, Int.reduceToNat, Int.reduceAdd, Int.reduceSub, Int.cast_ofNat_Int, Int.toNat_natCast, Nat.le_eq, Nat.sub_eq, ne_eq, Decidable.not_not, implies_true, true_and, and_true, wadd, wsub, wmul, decide_eq_true_eq, decide_eq_false_iff_not, Nat.succ_eq_add_one, imp_false, not_false_eq_true, not_true_eq_false, false_imp_iff, true_imp_iff] at *)
    exact ⟨⟨Nat.zero_le _, fun j hj => by omega⟩, (rtab_le _).1⟩
  · cbv at hi
    (cbv; try simp only [sat_need, sat_must, sat_ite, sat_done, sat_yes, sat_ex, sat_all, sat_sup, sat_and, sat_fail, true_and, and_true])
    refine ⟨fun hlt => ⟨?_, fun h10 => ?_, fun h10 => ⟨?_, ?_, ⟨i + 1, ?_⟩⟩⟩, fun hge => ?_⟩
    · (subst hL; subst hQ; simp only [L2, L3, std] at *; try simp only [sySet, reduceCtorEq, forall_const, Int.reduceToNat, Int.reduceAdd, Int.reduceSub, Int.cast_ofNat_Int, Int.toNat_natCast, Nat.le_eq, Nat.sub_eq, ne_eq, Decidable.not_not, implies_true, true_and, and_true, wadd, wsub, wmul, decide_eq_true_eq, decide_eq_false_iff_not, Nat.succ_eq_add_one, imp_false, not_false_eq_true, not_true_eq_false, false_imp_iff, true_imp_iff] at *)
      have hi' : rrInv s i := hi
      have hr := rtab_le (nxK s)
      have ht : nthI [0, 1, 2, 2, 3] (nxK s).toNat = rtab (nxK s) := rfl
      have hi2 : (i : Int) ≤ rtab (nxK s) := hi'.2
      have hlen : rtab (nxK s) ≤ ((rrV s).ls.length : Int) := by rw [h7]; unfold lenV at h8; unfold rrV; have : rtab 2 = 2 := rfl; omega
      have hv : lenV (rnxV (nxB s) 0 0) = (rrV s).ls.length := rfl
      omega
    · (subst hL; subst hQ; simp only [L2, L3, std] at *; try simp only [sySet, reduceCtorEq, forall_const, Int.reduceToNat, Int.reduceAdd, Int.reduceSub, Int.cast_ofNat_Int, Int.toNat_natCast, Nat.le_eq, Nat.sub_eq, ne_eq, Decidable.not_not, implies_true, true_and, and_true, wadd, wsub, wmul, decide_eq_true_eq, decide_eq_false_iff_not, Nat.succ_eq_add_one, imp_false, not_false_eq_true, not_true_eq_false, false_imp_iff, true_imp_iff] at *)
      have hi' : rrInv s i := hi
      have hr := rtab_le (nxK s)
      have ht : nthI [0, 1, 2, 2, 3] (nxK s).toNat = rtab (nxK s) := rfl
      have hi2 : (i : Int) ≤ rtab (nxK s) := hi'.2
      have hlen : rtab (nxK s) ≤ ((rrV s).ls.length : Int) := by rw [h7]; unfold lenV at h8; unfold rrV; have : rtab 2 = 2 := rfl; omega
      have hv : lenV (rnxV (nxB s) 0 0) = (rrV s).ls.length := rfl
      exact bad fun h => h10 ((rr_iff.1 h).2.2.2.2.2.2.2.2.2 i (by omega))
    · (subst hL; subst hQ; simp only [L2, L3, std] at *; try simp only [sySet, reduceCtorEq, forall_const, Int.reduceToNat, Int.reduceAdd, Int.reduceSub, Int.cast_ofNat_Int, Int.toNat_natCast, Nat.le_eq, Nat.sub_eq, ne_eq, Decidable.not_not, implies_true, true_and, and_true, wadd, wsub, wmul, decide_eq_true_eq, decide_eq_false_iff_not, Nat.succ_eq_add_one, imp_false, not_false_eq_true, not_true_eq_false, false_imp_iff, true_imp_iff] at *)
      have hi' : rrInv s i := hi
      have hr := rtab_le (nxK s)
      have ht : nthI [0, 1, 2, 2, 3] (nxK s).toNat = rtab (nxK s) := rfl
      have hi2 : (i : Int) ≤ rtab (nxK s) := hi'.2
      have hlen : rtab (nxK s) ≤ ((rrV s).ls.length : Int) := by rw [h7]; unfold lenV at h8; unfold rrV; have : rtab 2 = 2 := rfl; omega
      have hv : lenV (rnxV (nxB s) 0 0) = (rrV s).ls.length := rfl
      omega
    · (subst hL; subst hQ; simp only [L2, L3, std] at *; try simp only [sySet, reduceCtorEq, forall_const, Int.reduceToNat, Int.reduceAdd, Int.reduceSub, Int.cast_ofNat_Int, Int.toNat_natCast, Nat.le_eq, Nat.sub_eq, ne_eq, Decidable.not_not, implies_true, true_and, and_true, wadd, wsub, wmul, decide_eq_true_eq, decide_eq_false_iff_not, Nat.succ_eq_add_one, imp_false, not_false_eq_true, not_true_eq_false, false_imp_iff, true_imp_iff] at *)
      have hi' : rrInv s i := hi
      have hr := rtab_le (nxK s)
      have ht : nthI [0, 1, 2, 2, 3] (nxK s).toNat = rtab (nxK s) := rfl
      have hi2 : (i : Int) ≤ rtab (nxK s) := hi'.2
      have hlen : rtab (nxK s) ≤ ((rrV s).ls.length : Int) := by rw [h7]; unfold lenV at h8; unfold rrV; have : rtab 2 = 2 := rfl; omega
      have hv : lenV (rnxV (nxB s) 0 0) = (rrV s).ls.length := rfl
      omega
    · (cbv; try simp only [sat_need, sat_must, sat_ite, sat_done, sat_yes, sat_ex, sat_all, sat_sup, sat_and, sat_fail, true_and, and_true])
      (subst hL; subst hQ; simp only [L2, L3, std] at *; try simp only [sySet, reduceCtorEq, forall_const, Int.reduceToNat, Int.reduceAdd, Int.reduceSub, Int.cast_ofNat_Int, Int.toNat_natCast, Nat.le_eq, Nat.sub_eq, ne_eq, Decidable.not_not, implies_true, true_and, and_true, wadd, wsub, wmul, decide_eq_true_eq, decide_eq_false_iff_not, Nat.succ_eq_add_one, imp_false, not_false_eq_true, not_true_eq_false, false_imp_iff, true_imp_iff] at *)
      have hi' : rrInv s i := hi
      have hr := rtab_le (nxK s)
      have ht : nthI [0, 1, 2, 2, 3] (nxK s).toNat = rtab (nxK s) := rfl
      have hi2 : (i : Int) ≤ rtab (nxK s) := hi'.2
      have hlen : rtab (nxK s) ≤ ((rrV s).ls.length : Int) := by rw [h7]; unfold lenV at h8; unfold rrV; have : rtab 2 = 2 := rfl; omega
      have hv : lenV (rnxV (nxB s) 0 0) = (rrV s).ls.length := rfl
      refine ⟨fun q j hq hj => ?_, by omega, ⟨⟨by omega, fun j hj => ?_⟩, ?_⟩, ?_⟩
      · by_cases h : q < i
        · rw [blt_t h, show q - i = 0 by omega]; rfl
        · have : q = i := by omega
          subst this
          rw [blt_f (by omega), show q - q = 0 by omega]; rfl
      · by_cases h : j < i
        · exact hi'.1.2 j h
        · have : j = i := by omega
          subst this
          exact h10
      · show ((i + 1 : Nat) : Int) ≤ rtab (nxK s)
        omega
      · show (rtab (nxK s) - ((i + 1 : Nat) : Int)).toNat + 1 ≤ (rtab (nxK s) - (i : Int)).toNat
        omega
    · (subst hL; subst hQ; simp only [L2, L3, std] at *; try simp only [sySet, reduceCtorEq, forall_const, Int.reduceToNat, Int.reduceAdd, Int.reduceSub, Int.cast_ofNat_Int, Int.toNat_natCast, Nat.le_eq, Nat.sub_eq, ne_eq, Decidable.not_not, implies_true, true_and, and_true, wadd, wsub, wmul, decide_eq_true_eq, decide_eq_false_iff_not, Nat.succ_eq_add_one, imp_false, not_false_eq_true, not_true_eq_false, false_imp_iff, true_imp_iff] at *)
      have hi' : rrInv s i := hi
      have hr := rtab_le (nxK s)
      have ht : nthI [0, 1, 2, 2, 3] (nxK s).toNat = rtab (nxK s) := rfl
      have hi2 : (i : Int) ≤ rtab (nxK s) := hi'.2
      have hlen : rtab (nxK s) ≤ ((rrV s).ls.length : Int) := by rw [h7]; unfold lenV at h8; unfold rrV; have : rtab 2 = 2 := rfl; omega
      have hv : lenV (rnxV (nxB s) 0 0) = (rrV s).ls.length := rfl
      have hM : (i : Int) = rtab (nxK s) := by omega
      have hok : rsOk s := rr_iff.2 ⟨h1, h2, h3, h4, h5, h6, fun _ => ⟨by unfold lenV at h8; unfold rrV; omega, h9⟩, fun h => absurd h7 h, by rw [← hM, Int.toNat_natCast]; exact hi'.1⟩
      obtain ⟨y1, y2, y3, y4⟩ := rr_yes hok hM
      refine ⟨y1, y2, y3, ?_⟩
      rw [← y4, if_pos h7]
      try rfl
  · refine ⟨fun h8 => ?_, fun h8 => ⟨⟨0, ?_⟩, fun i hi => ?_⟩⟩
    · (subst hL; subst hQ; simp only [L2, L3, std] at *; try simp only [sySet, reduceCtorEq, forall_const, Int.reduceToNat, Int.reduceAdd, Int.reduceSub, Int.cast_ofNat_Int, Int.toNat_natCast, Nat.le_eq, Nat.sub_eq, ne_eq, Decidable.not_not, implies_true, true_and, and_true, wadd, wsub, wmul, decide_eq_true_eq, decide_eq_false_iff_not, Nat.succ_eq_add_one, imp_false, not_false_eq_true, not_true_eq_false, false_imp_iff, true_imp_iff] at *)
      exact bad fun h => h8 ((rr_iff.1 h).2.2.2.2.2.2.2.1 h7)
    · (cbv; try simp only [sat_need, sat_must, sat_ite, sat_done, sat_yes, sat_ex, sat_all, sat_sup, sat_and, sat_fail, true_and, and_true])
      (subst hL; subst hQ; simp only [L2, L3, std] at *; try simp only [sySet, reduceCtorEq, forall_const, Int.reduceToNat, Int.reduceAdd, Int.reduceSub, Int.cast_ofNat_Int, Int.toNat_natCast, Nat.le_eq, Nat.sub_eq, ne_eq, Decidable.not_not, implies_true, true_and, and_true, wadd, wsub, wmul, decide_eq_true_eq, decide_eq_false_iff_not, Nat.succ_eq_add_one, imp_false, not_false_eq_true, not_true_eq_false, false_imp_iff, true_imp_iff] at *)
      exact ⟨⟨Nat.zero_le _, fun j hj => by omega⟩, (rtab_le _).1⟩
    · cbv at hi
      (cbv; try simp only [sat_need, sat_must, sat_ite, sat_done, sat_yes, sat_ex, sat_all, sat_sup, sat_and, sat_fail, true_and, and_true])
      refine ⟨fun hlt => ⟨?_, fun h10 => ?_, fun h10 => ⟨?_, ?_, ⟨i + 1, ?_⟩⟩⟩, fun hge => ?_⟩
      · (subst hL; subst hQ; simp only [L2, L3, std] at *; try simp only [sySet, reduceCtorEq, forall_const, Int.reduceToNat, Int.reduceAdd, Int.reduceSub, Int.cast_ofNat_Int, Int.toNat_natCast, Nat.le_eq, Nat.sub_eq, ne_eq, Decidable.not_not, implies_true, true_and, and_true, wadd, wsub, wmul, decide_eq_true_eq, decide_eq_false_iff_not, Nat.succ_eq_add_one, imp_false, not_false_eq_true, not_true_eq_false, false_imp_iff, true_imp_iff] at *)
        have hi' : rrInv s i := hi
        have hr := rtab_le (nxK s)
        have ht : nthI [0, 1, 2, 2, 3] (nxK s).toNat = rtab (nxK s) := rfl
        have hi2 : (i : Int) ≤ rtab (nxK s) := hi'.2
        have hlen : rtab (nxK s) ≤ ((rrV s).ls.length : Int) := Int.le_of_eq (Eq.symm h8)
        have hv : lenV (rnxV (nxB s) 0 0) = (rrV s).ls.length := rfl
        omega
      · (subst hL; subst hQ; simp only [L2, L3, std] at *; try simp only [sySet, reduceCtorEq, forall_const, Int.reduceToNat, Int.reduceAdd, Int.reduceSub, Int.cast_ofNat_Int, Int.toNat_natCast, Nat.le_eq, Nat.sub_eq, ne_eq, Decidable.not_not, implies_true, true_and, and_true, wadd, wsub, wmul, decide_eq_true_eq, decide_eq_false_iff_not, Nat.succ_eq_add_one, imp_false, not_false_eq_true, not_true_eq_false, false_imp_iff, true_imp_iff] at *)
        have hi' : rrInv s i := hi
        have hr := rtab_le (nxK s)
        have ht : nthI [0, 1, 2, 2, 3] (nxK s).toNat = rtab (nxK s) := rfl
        have hi2 : (i : Int) ≤ rtab (nxK s) := hi'.2
        have hlen : rtab (nxK s) ≤ ((rrV s).ls.length : Int) := Int.le_of_eq (Eq.symm h8)
        have hv : lenV (rnxV (nxB s) 0 0) = (rrV s).ls.length := rfl
        exact bad fun h => h10 ((rr_iff.1 h).2.2.2.2.2.2.2.2.2 i (by omega))
      · (subst hL; subst hQ; simp only [L2, L3, std] at *; try simp only [sySet, reduceCtorEq, forall_const, Int.reduceToNat, Int.reduceAdd, Int.reduceSub, Int.cast_ofNat_Int, Int.toNat_natCast, Nat.le_eq, Nat.sub_eq, ne_eq, Decidable.not_not, implies_true, true_and, and_true, wadd, wsub, wmul, decide_eq_true_eq, decide_eq_false_iff_not, Nat.succ_eq_add_one, imp_false, not_false_eq_true, not_true_eq_false, false_imp_iff, true_imp_iff] at *)
        have hi' : rrInv s i := hi
        have hr := rtab_le (nxK s)
        have ht : nthI [0, 1, 2, 2, 3] (nxK s).toNat = rtab (nxK s) := rfl
        have hi2 : (i : Int) ≤ rtab (nxK s) := hi'.2
        have hlen : rtab (nxK s) ≤ ((rrV s).ls.length : Int) := Int.le_of_eq (Eq.symm h8)
        have hv : lenV (rnxV (nxB s) 0 0) = (rrV s).ls.length := rfl
        omega
      · (subst hL; subst hQ; simp only [L2, L3, std] at *; try simp only [sySet, reduceCtorEq, forall_const, Int.reduceToNat, Int.reduceAdd, Int.reduceSub, Int.cast_ofNat_Int, Int.toNat_natCast, Nat.le_eq, Nat.sub_eq, ne_eq, Decidable.not_not, implies_true, true_and, and_true, wadd, wsub, wmul, decide_eq_true_eq, decide_eq_false_iff_not, Nat.succ_eq_add_one, imp_false, not_false_eq_true, not_true_eq_false, false_imp_iff, true_imp_iff] at *)
        have hi' : rrInv s i := hi
        have hr := rtab_le (nxK s)
        have ht : nthI [0, 1, 2, 2, 3] (nxK s).toNat = rtab (nxK s) := rfl
        have hi2 : (i : Int) ≤ rtab (nxK s) := hi'.2
        have hlen : rtab (nxK s) ≤ ((rrV s).ls.length : Int) := Int.le_of_eq (Eq.symm h8)
        have hv : lenV (rnxV (nxB s) 0 0) = (rrV s).ls.length := rfl
        omega
      · (cbv; try simp only [sat_need, sat_must, sat_ite, sat_done, sat_yes, sat_ex, sat_all, sat_sup, sat_and, sat_fail, true_and, and_true])
        (subst hL; subst hQ; simp only [L2, L3, std] at *; try simp only [sySet, reduceCtorEq, forall_const, Int.reduceToNat, Int.reduceAdd, Int.reduceSub, Int.cast_ofNat_Int, Int.toNat_natCast, Nat.le_eq, Nat.sub_eq, ne_eq, Decidable.not_not, implies_true, true_and, and_true, wadd, wsub, wmul, decide_eq_true_eq, decide_eq_false_iff_not, Nat.succ_eq_add_one, imp_false, not_false_eq_true, not_true_eq_false, false_imp_iff, true_imp_iff] at *)
        have hi' : rrInv s i := hi
        have hr := rtab_le (nxK s)
        have ht : nthI [0, 1, 2, 2, 3] (nxK s).toNat = rtab (nxK s) := rfl
        have hi2 : (i : Int) ≤ rtab (nxK s) := hi'.2
        have hlen : rtab (nxK s) ≤ ((rrV s).ls.length : Int) := Int.le_of_eq (Eq.symm h8)
        have hv : lenV (rnxV (nxB s) 0 0) = (rrV s).ls.length := rfl
        refine ⟨fun q j hq hj => ?_, by omega, ⟨⟨by omega, fun j hj => ?_⟩, ?_⟩, ?_⟩
        · by_cases h : q < i
          · rw [blt_t h, show q - i = 0 by omega]; rfl
          · have : q = i := by omega
            subst this
            rw [blt_f (by omega), show q - q = 0 by omega]; rfl
        · by_cases h : j < i
          · exact hi'.1.2 j h
          · have : j = i := by omega
            subst this
            exact h10
        · show ((i + 1 : Nat) : Int) ≤ rtab (nxK s)
          omega
        · show (rtab (nxK s) - ((i + 1 : Nat) : Int)).toNat + 1 ≤ (rtab (nxK s) - (i : Int)).toNat
          omega
      · (subst hL; subst hQ; simp only [L2, L3, std] at *; try simp only [sySet, reduceCtorEq, forall_const, Int.reduceToNat, Int.reduceAdd, Int.reduceSub, Int.cast_ofNat_Int, Int.toNat_natCast, Nat.le_eq, Nat.sub_eq, ne_eq, Decidable.not_not, implies_true, true_and, and_true, wadd, wsub, wmul, decide_eq_true_eq, decide_eq_false_iff_not, Nat.succ_eq_add_one, imp_false, not_false_eq_true, not_true_eq_false, false_imp_iff, true_imp_iff] at *)
        have hi' : rrInv s i := hi
        have hr := rtab_le (nxK s)
        have ht : nthI [0, 1, 2, 2, 3] (nxK s).toNat = rtab (nxK s) := rfl
        have hi2 : (i : Int) ≤ rtab (nxK s) := hi'.2
        have hlen : rtab (nxK s) ≤ ((rrV s).ls.length : Int) := Int.le_of_eq (Eq.symm h8)
        have hv : lenV (rnxV (nxB s) 0 0) = (rrV s).ls.length := rfl
        have hM : (i : Int) = rtab (nxK s) := by omega
        have hok : rsOk s := rr_iff.2 ⟨h1, h2, h3, h4, h5, h6, fun h => absurd h h7, fun _ => h8, by rw [← hM, Int.toNat_natCast]; exact hi'.1⟩
        obtain ⟨y1, y2, y3, y4⟩ := rr_yes hok hM
        refine ⟨y1, y2, y3, ?_⟩
        rw [← y4, if_neg h7]
        try rfl
end Sy
end Go.Proofs.Ythlggigjnpldcaa
