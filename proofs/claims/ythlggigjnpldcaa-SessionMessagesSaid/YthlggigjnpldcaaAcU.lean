/- Chapter 18 (backoff): Delay, Next, Reset; its example. -/
import Derived.Test.YthlggigjnpldcaaLwFA
namespace Go.Proofs.Ythlggigjnpldcaa
namespace Sy
open Go Go.RowKit
set_option maxRecDepth 100000
set_option linter.unusedSimpArgs false
set_option linter.unusedVariables false

/-- A number's bits. -/
def bln (n : Nat) : Nat := if n = 0 then 0 else n.log2 + 1
theorem bln_div {n k : Nat} (h : 2 ^ k ≤ n) : bln n = bln (n / 2 ^ k) + k := by
  have h0 : n ≠ 0 := by have := Nat.two_pow_pos k; omega
  have h1 : n / 2 ^ k ≠ 0 := by
    have := Nat.div_pos h (Nat.two_pow_pos k)
    omega
  unfold bln
  rw [if_neg h0, if_neg h1]
  have h2 : k ≤ n.log2 := (Nat.le_log2 h0).2 h
  have h3 := (Nat.le_log2 (k := n.log2) h0).1 (Nat.le_refl _)
  have h4 := (Nat.log2_lt (k := n.log2 + 1) h0).1 (Nat.lt_succ_self _)
  have e1 : (n / 2 ^ k).log2 = n.log2 - k := by
    apply Nat.le_antisymm
    · apply Nat.le_of_lt_succ
      rw [Nat.log2_lt h1, Nat.div_lt_iff_lt_mul (Nat.two_pow_pos k), ← Nat.pow_add]
      rw [show n.log2 - k + 1 + k = n.log2 + 1 by omega]
      exact h4
    · rw [Nat.le_log2 h1, Nat.le_div_iff_mul_le (Nat.two_pow_pos k), ← Nat.pow_add]
      rw [show n.log2 - k + k = n.log2 by omega]
      exact h3
  omega
def blT : List UInt8 := [0, 1, 2, 2, 3, 3, 3, 3, 4, 4, 4, 4, 4, 4, 4, 4, 5, 5, 5, 5, 5, 5, 5, 5, 5, 5, 5, 5, 5, 5, 5, 5, 6, 6, 6, 6, 6, 6, 6, 6, 6, 6, 6, 6, 6, 6, 6, 6, 6, 6, 6, 6, 6, 6, 6, 6, 6, 6, 6, 6, 6, 6, 6, 6, 7, 7, 7, 7, 7, 7, 7, 7, 7, 7, 7, 7, 7, 7, 7, 7, 7, 7, 7, 7, 7, 7, 7, 7, 7, 7, 7, 7, 7, 7, 7, 7, 7, 7, 7, 7, 7, 7, 7, 7, 7, 7, 7, 7, 7, 7, 7, 7, 7, 7, 7, 7, 7, 7, 7, 7, 7, 7, 7, 7, 7, 7, 7, 7, 8, 8, 8, 8, 8, 8, 8, 8, 8, 8, 8, 8, 8, 8, 8, 8, 8, 8, 8, 8, 8, 8, 8, 8, 8, 8, 8, 8, 8, 8, 8, 8, 8, 8, 8, 8, 8, 8, 8, 8, 8, 8, 8, 8, 8, 8, 8, 8, 8, 8, 8, 8, 8, 8, 8, 8, 8, 8, 8, 8, 8, 8, 8, 8, 8, 8, 8, 8, 8, 8, 8, 8, 8, 8, 8, 8, 8, 8, 8, 8, 8, 8, 8, 8, 8, 8, 8, 8, 8, 8, 8, 8, 8, 8, 8, 8, 8, 8, 8, 8, 8, 8, 8, 8, 8, 8, 8, 8, 8, 8, 8, 8, 8, 8, 8, 8, 8, 8, 8, 8, 8, 8, 8, 8, 8, 8, 8, 8]
theorem blT_eq : ([0, 1, 2, 2, 3, 3, 3, 3, 4, 4, 4, 4, 4, 4, 4, 4, 5, 5, 5, 5, 5, 5, 5, 5, 5, 5, 5, 5, 5, 5, 5, 5, 6, 6, 6, 6, 6, 6, 6, 6, 6, 6, 6, 6, 6, 6, 6, 6, 6, 6, 6, 6, 6, 6, 6, 6, 6, 6, 6, 6, 6, 6, 6, 6, 7, 7, 7, 7, 7, 7, 7, 7, 7, 7, 7, 7, 7, 7, 7, 7, 7, 7, 7, 7, 7, 7, 7, 7, 7, 7, 7, 7, 7, 7, 7, 7, 7, 7, 7, 7, 7, 7, 7, 7, 7, 7, 7, 7, 7, 7, 7, 7, 7, 7, 7, 7, 7, 7, 7, 7, 7, 7, 7, 7, 7, 7, 7, 7, 8, 8, 8, 8, 8, 8, 8, 8, 8, 8, 8, 8, 8, 8, 8, 8, 8, 8, 8, 8, 8, 8, 8, 8, 8, 8, 8, 8, 8, 8, 8, 8, 8, 8, 8, 8, 8, 8, 8, 8, 8, 8, 8, 8, 8, 8, 8, 8, 8, 8, 8, 8, 8, 8, 8, 8, 8, 8, 8, 8, 8, 8, 8, 8, 8, 8, 8, 8, 8, 8, 8, 8, 8, 8, 8, 8, 8, 8, 8, 8, 8, 8, 8, 8, 8, 8, 8, 8, 8, 8, 8, 8, 8, 8, 8, 8, 8, 8, 8, 8, 8, 8, 8, 8, 8, 8, 8, 8, 8, 8, 8, 8, 8, 8, 8, 8, 8, 8, 8, 8, 8, 8, 8, 8, 8, 8, 8, 8] : List UInt8) = blT := rfl
theorem blT_len : blT.length = 256 := by decide +kernel
theorem bl_8 : ∀ k : _root_.Fin 256, bln k.val ≤ 8 := by decide +kernel
theorem blT_at : ∀ k : _root_.Fin 256, (blT.getD k.val 0).toNat = bln k.val := by decide +kernel
theorem blT_is (x : Int) (h0 : 0 ≤ x) (h1 : x < 256) : ((blT.getD x.toNat 0).toNat : Int) = ((bln x.toNat : Nat) : Int) := by
  have := blT_at ⟨x.toNat, by omega⟩
  simp only at this
  rw [this]
theorem shr32 (n : Int) : wshr .u64 n 32 = n / 4294967296 := by
  unfold wshr
  rw [show (2 : Int) ^ (min (32 : Int).toNat IntKind.u64.bits) = 4294967296 from rfl, Int.fdiv_eq_ediv_of_nonneg _ (by decide)]
theorem shr16 (n : Int) : wshr .u64 n 16 = n / 65536 := by
  unfold wshr
  rw [show (2 : Int) ^ (min (16 : Int).toNat IntKind.u64.bits) = 65536 from rfl, Int.fdiv_eq_ediv_of_nonneg _ (by decide)]
theorem shr8 (n : Int) : wshr .u64 n 8 = n / 256 := by
  unfold wshr
  rw [show (2 : Int) ^ (min (8 : Int).toNat IntKind.u64.bits) = 256 from rfl, Int.fdiv_eq_ediv_of_nonneg _ (by decide)]
/-- One step: so many bits off. -/
theorem bl_step (x : Int) (k : Nat) (P : Int) (hP : P = ((2 ^ k : Nat) : Int)) (h : P ≤ x) : ((bln x.toNat : Nat) : Int) = ((bln (x / P).toNat : Nat) : Int) + k := by
  have hp := Nat.two_pow_pos k
  have h1 : 2 ^ k ≤ x.toNat := by omega
  have := bln_div h1
  have e : (x / P).toNat = x.toNat / 2 ^ k := by
    rw [hP]
    have : x = (x.toNat : Int) := by omega
    rw [this, ← Int.natCast_ediv, Int.toNat_natCast, Int.toNat_natCast]
  rw [e]
  omega
def u64Ok (n : Int) : Prop := 0 ≤ n ∧ n < 18446744073709551616
def blZ (n : Int) : Int := (bln n.toNat : Nat)
def len_s (L : Seal) : Ent1 := (113, fun xs => match xs with | [.int .u64 n] => some (L u64Ok n, .int .i64 (L blZ n)) | _ => none)
theorem bl_fin (c : Int) (x n : Int) (h0 : 0 ≤ x) (h1 : x < 256) (hc : 0 ≤ c) (hc' : c ≤ 56) (h : blZ n = blZ x + c) :
    ((c + (((blT.getD (x % 256).toNat 0).toNat : Int))) = blZ n) ∧ 0 ≤ (((blT.getD (x % 256).toNat 0).toNat : Int)) ∧ (((blT.getD (x % 256).toNat 0).toNat : Int)) ≤ 8 := by
  have e : x % 256 = x := by omega
  rw [e, blT_is x h0 h1, h]
  have := bl_8 ⟨x.toNat, by omega⟩
  simp only at this
  unfold blZ
  refine ⟨by omega, by omega, by omega⟩
theorem blZ_step (x : Int) (k : Nat) (P : Int) (hP : P = ((2 ^ k : Nat) : Int)) (h : P ≤ x) : blZ x = blZ (x / P) + k := bl_step x k P hP h
theorem len_good : Good Try.prog (len_s std) := by
  intro xs p r h hp
  dsimp only [len_s] at h ⊢
  split at h <;> cases h
  try simp only [L2, L3, std] at hp ⊢
  rename_i n
  refine acalls_L (T := tt) (S := noS) (lo := noA) (lb := noA) 5 (fn := Try.f113) rfl rfl (by kernel_rfl) (by kernel_rfl) rfl tt_ok (noS_ok _) (by kernel_rfl) ?_
  intro L P' Q' hL hP hQ
  (cbv; try simp only [sat_need, sat_must, sat_ite, sat_done, sat_yes, sat_ex, sat_all, sat_sup, sat_and, sat_fail, true_and, and_true])
  refine ⟨fun h1 => ⟨?_, fun h2 => ⟨?_, fun h3 => ⟨?_, ?_, ?_⟩, fun h3 => ⟨?_, ?_⟩⟩, fun h2 => ⟨fun h3 => ⟨?_, ?_, ?_⟩, fun h3 => ⟨?_, ?_⟩⟩⟩, fun h1 => ⟨fun h2 => ⟨?_, fun h3 => ⟨?_, ?_, ?_⟩, fun h3 => ⟨?_, ?_⟩⟩, fun h2 => ⟨fun h3 => ⟨?_, ?_, ?_⟩, fun h3 => ⟨?_, ?_⟩⟩⟩⟩
  all_goals (subst hL; subst hQ; simp only [L2, L3, std] at *; try simp only [sySet, reduceCtorEq, forall_const, Int.reduceToNat, Int.reduceAdd, Int.reduceSub, Int.cast_ofNat_Int, Int.toNat_natCast, Nat.le_eq, Nat.sub_eq, ne_eq, Decidable.not_not, implies_true, true_and, and_true, wadd, wsub, wmul, decide_eq_true_eq, decide_eq_false_iff_not, Nat.succ_eq_add_one, imp_false, not_false_eq_true, not_true_eq_false, false_imp_iff, true_imp_iff] at *)
  all_goals try (simp only [shr32, shr16, shr8, blT_eq, blT_len] at *)
  all_goals obtain ⟨u0, u1⟩ := hp
  all_goals try omega
  · have b := bl_fin 56 (n / 4294967296 / 65536 / 256) n (by omega) (by omega) (by omega) (by omega) (by rw [blZ_step n 32 4294967296 rfl h1, blZ_step _ 16 65536 rfl h2, blZ_step _ 8 256 rfl h3]; omega)
    omega
  · have b := bl_fin 48 (n / 4294967296 / 65536) n (by omega) (by omega) (by omega) (by omega) (by rw [blZ_step n 32 4294967296 rfl h1, blZ_step _ 16 65536 rfl h2]; omega)
    omega
  · have b := bl_fin 40 (n / 4294967296 / 256) n (by omega) (by omega) (by omega) (by omega) (by rw [blZ_step n 32 4294967296 rfl h1, blZ_step _ 8 256 rfl h3]; omega)
    omega
  · have b := bl_fin 32 (n / 4294967296) n (by omega) (by omega) (by omega) (by omega) (by rw [blZ_step n 32 4294967296 rfl h1]; omega)
    omega
  · have b := bl_fin 24 (n / 65536 / 256) n (by omega) (by omega) (by omega) (by omega) (by rw [blZ_step n 16 65536 rfl h2, blZ_step _ 8 256 rfl h3]; omega)
    omega
  · have b := bl_fin 16 (n / 65536) n (by omega) (by omega) (by omega) (by omega) (by rw [blZ_step n 16 65536 rfl h2]; omega)
    omega
  · have b := bl_fin 8 (n / 256) n (by omega) (by omega) (by omega) (by omega) (by rw [blZ_step n 8 256 rfl h3]; omega)
    omega
  · have b := bl_fin 0 n n (by omega) (by omega) (by omega) (by omega) (by omega)
    omega
def ldZ (n : Int) : Int := 64 - blZ n
theorem bl_le {n : Int} (h : u64Ok n) : 0 ≤ blZ n ∧ blZ n ≤ 64 := by
  obtain ⟨h0, h1⟩ := h
  unfold blZ bln
  split
  · omega
  · rename_i hn
    have p64 : (2 : Nat) ^ 64 = 18446744073709551616 := by decide
    have := (Nat.log2_lt (k := 64) hn).2 (by rw [p64]; omega)
    omega
def lead_s (L : Seal) : Ent1 := (102, fun xs => match xs with | [.int .u64 n] => some (L u64Ok n, .int .i64 (L ldZ n)) | _ => none)
theorem lead_good : Good Try.prog (lead_s std) := by
  intro xs p r h hp
  dsimp only [lead_s] at h ⊢
  split at h <;> cases h
  try simp only [L2, L3, std] at hp ⊢
  rename_i n
  refine acalls_L (T := tt) (S := fun L => sumOf [len_s L]) (lo := noA) (lb := noA) 5 (fn := Try.f102) rfl rfl (by kernel_rfl) (by kernel_rfl) rfl tt_ok (sumOf_ok ⟨len_good, trivial⟩) (by kernel_rfl) ?_
  have := bl_le hp
  (intro L P1 Q1 hL hP hQ; cbv; subst hL; simp only [L2, L3, std, sat_need, sat_must, sat_ite, sat_done, sat_yes, sat_ex, sat_all, sat_sup, sat_and, sat_fail]; subst hQ)
  (simp only [sySet, reduceCtorEq, forall_const, Int.reduceToNat, Int.reduceAdd, Int.reduceSub, Int.cast_ofNat_Int, Int.toNat_natCast, Nat.le_eq, Nat.sub_eq, ne_eq, Decidable.not_not, implies_true, true_and, and_true, wadd, wsub, wmul, decide_eq_true_eq, decide_eq_false_iff_not, Nat.succ_eq_add_one, imp_false, not_false_eq_true, not_true_eq_false, false_imp_iff, true_imp_iff])
  unfold ldZ
  exact ⟨hp, by omega⟩
/-- The delay ahead of the next try. -/
def dlyZ (b c t : Int) : Int := if b = 0 ∨ c = 0 then 0 else if ldZ b + 1 ≤ max t 0 then c else min (wshl .u64 b (max t 0)) c
def dly_s (L : Seal) : Ent1 := (78, fun xs => match xs with | [.agg [.int .u64 b, .int .u64 c, .int .i64 t]] => some (L u64Ok b, .int .u64 (L3 L dlyZ b c t)) | _ => none)
theorem dly_good : Good Try.prog (dly_s std) := by
  intro xs p r h hp
  dsimp only [dly_s] at h ⊢
  split at h <;> cases h
  try simp only [L2, L3, std] at hp ⊢
  rename_i b c t
  refine acalls_L (T := tt) (S := fun L => sumOf [lead_s L]) (lo := noA) (lb := noA) 5 (fn := Try.f78) rfl rfl (by kernel_rfl) (by kernel_rfl) rfl tt_ok (sumOf_ok ⟨lead_good, trivial⟩) (by kernel_rfl) ?_
  have := bl_le hp
  have : 0 ≤ ldZ b ∧ ldZ b ≤ 64 := by unfold ldZ; omega
  (intro L P1 Q1 hL hP hQ; cbv; subst hL; simp only [L2, L3, std, sat_need, sat_must, sat_ite, sat_done, sat_yes, sat_ex, sat_all, sat_sup, sat_and, sat_fail]; subst hQ)
  (simp only [sySet, reduceCtorEq, forall_const, Int.reduceToNat, Int.reduceAdd, Int.reduceSub, Int.cast_ofNat_Int, Int.toNat_natCast, Nat.le_eq, Nat.sub_eq, ne_eq, Decidable.not_not, implies_true, true_and, and_true, wadd, wsub, wmul, decide_eq_true_eq, decide_eq_false_iff_not, Nat.succ_eq_add_one, imp_false, not_false_eq_true, not_true_eq_false, false_imp_iff, true_imp_iff])
  refine ⟨fun h => by simp [dlyZ, h], fun h1 => ⟨fun h => by simp [dlyZ, h], fun h2 => ⟨hp, fun h3 => ?_, fun h3 => ⟨by omega, ?_⟩⟩⟩⟩
  · rw [dlyZ, if_neg (by omega), if_pos (by omega)]
  · rw [dlyZ, if_neg (by omega), if_neg (by omega)]
def nxtT (t : Int) : Int := min (max t 0 + 1) 64
def wnext_s (L : Seal) : Ent1 := (79, fun xs => match xs with | [.agg [.int .u64 b, .int .u64 c, .int .i64 t]] => some (L (fun t : Int => t ≤ 1000000) t, .agg [.int .u64 b, .int .u64 c, .int .i64 (L nxtT t)]) | _ => none)
theorem wnext_good : Good Try.prog (wnext_s std) := by
  intro xs p r h hp
  dsimp only [wnext_s] at h ⊢
  split at h <;> cases h
  try simp only [L2, L3, std] at hp ⊢
  rename_i b c t
  refine acalls_L (T := tt) (S := noS) (lo := noA) (lb := noA) 5 (fn := Try.f79) rfl rfl (by kernel_rfl) (by kernel_rfl) rfl tt_ok (noS_ok _) (by kernel_rfl) ?_
  (intro L P1 Q1 hL hP hQ; cbv; subst hL; simp only [L2, L3, std, sat_need, sat_must, sat_ite, sat_done, sat_yes, sat_ex, sat_all, sat_sup, sat_and, sat_fail]; subst hQ)
  (simp only [sySet, reduceCtorEq, forall_const, Int.reduceToNat, Int.reduceAdd, Int.reduceSub, Int.cast_ofNat_Int, Int.toNat_natCast, Nat.le_eq, Nat.sub_eq, ne_eq, Decidable.not_not, implies_true, true_and, and_true, wadd, wsub, wmul, decide_eq_true_eq, decide_eq_false_iff_not, Nat.succ_eq_add_one, imp_false, not_false_eq_true, not_true_eq_false, false_imp_iff, true_imp_iff])
  have hp : t ≤ 1000000 := hp
  unfold nxtT
  omega
def wreset_s (L : Seal) : Ent1 := (76, fun xs => match xs with | [.agg [.int .u64 b, .int .u64 c, .int .i64 t]] => some (True, .agg [.int .u64 b, .int .u64 c, .int .i64 0]) | _ => none)
theorem wreset_good : Good Try.prog (wreset_s std) := by
  intro xs p r h hp
  dsimp only [wreset_s] at h ⊢
  split at h <;> cases h
  try simp only [L2, L3, std] at hp ⊢
  rename_i b c t
  refine acalls_L (T := tt) (S := noS) (lo := noA) (lb := noA) 5 (fn := Try.f76) rfl rfl (by kernel_rfl) (by kernel_rfl) rfl tt_ok (noS_ok _) (by kernel_rfl) ?_
  (intro L P1 Q1 hL hP hQ; cbv; subst hL; simp only [L2, L3, std, sat_need, sat_must, sat_ite, sat_done, sat_yes, sat_ex, sat_all, sat_sup, sat_and, sat_fail]; subst hQ)
  (simp only [sySet, reduceCtorEq, forall_const, Int.reduceToNat, Int.reduceAdd, Int.reduceSub, Int.cast_ofNat_Int, Int.toNat_natCast, Nat.le_eq, Nat.sub_eq, ne_eq, Decidable.not_not, implies_true, true_and, and_true, wadd, wsub, wmul, decide_eq_true_eq, decide_eq_false_iff_not, Nat.succ_eq_add_one, imp_false, not_false_eq_true, not_true_eq_false, false_imp_iff, true_imp_iff])
theorem awake18_ac : ACalls Try.prog 95 [] (.bool true) := by
  refine acalls_L (T := tt) (S := fun L => sumOf [dly_s L, wnext_s L, tru 46]) (lo := noA) (lb := noA) 5 (fn := Try.f95) rfl rfl (by kernel_rfl) (by kernel_rfl) rfl tt_ok (sumOf_ok ⟨dly_good, wnext_good, tru_good Awake01_ac, trivial⟩) (by kernel_rfl) ?_
  (intro L P1 Q1 hL hP hQ; cbv; subst hL; simp only [L2, L3, std, sat_need, sat_must, sat_ite, sat_done, sat_yes, sat_ex, sat_all, sat_sup, sat_and, sat_fail]; subst hQ)
  (simp only [sySet, reduceCtorEq, forall_const, Int.reduceToNat, Int.reduceAdd, Int.reduceSub, Int.cast_ofNat_Int, Int.toNat_natCast, Nat.le_eq, Nat.sub_eq, ne_eq, Decidable.not_not, implies_true, true_and, and_true, wadd, wsub, wmul, decide_eq_true_eq, decide_eq_false_iff_not, Nat.succ_eq_add_one, imp_false, not_false_eq_true, not_true_eq_false, false_imp_iff, true_imp_iff])
  simp only [u64Ok]
  decide +kernel
theorem Awake18_ac : ACalls Try.prog 69 [] (.bool true) := by
  refine acalls_L (T := tt) (S := fun L => sumOf [tru 95]) (lo := noA) (lb := noA) 5 (fn := Try.f69) rfl rfl (by kernel_rfl) (by kernel_rfl) rfl tt_ok (sumOf_ok ⟨tru_good awake18_ac, trivial⟩) (by kernel_rfl) ?_
  (intro L P1 Q1 hL hP hQ; cbv; subst hL; simp only [L2, L3, std, sat_need, sat_must, sat_ite, sat_done, sat_yes, sat_ex, sat_all, sat_sup, sat_and, sat_fail]; subst hQ)
  (simp only [sySet, reduceCtorEq, forall_const, Int.reduceToNat, Int.reduceAdd, Int.reduceSub, Int.cast_ofNat_Int, Int.toNat_natCast, Nat.le_eq, Nat.sub_eq, ne_eq, Decidable.not_not, implies_true, true_and, and_true, wadd, wsub, wmul, decide_eq_true_eq, decide_eq_false_iff_not, Nat.succ_eq_add_one, imp_false, not_false_eq_true, not_true_eq_false, false_imp_iff, true_imp_iff])
theorem Awake08_ac : ACalls Try.prog 68 [] (.bool true) := by
  refine acalls_L (T := tt) (S := fun L => sumOf [tru 94]) (lo := noA) (lb := noA) 5 (fn := Try.f68) rfl rfl (by kernel_rfl) (by kernel_rfl) rfl tt_ok (sumOf_ok ⟨tru_good awake08_ac, trivial⟩) (by kernel_rfl) ?_
  (intro L P1 Q1 hL hP hQ; cbv; subst hL; simp only [L2, L3, std, sat_need, sat_must, sat_ite, sat_done, sat_yes, sat_ex, sat_all, sat_sup, sat_and, sat_fail]; subst hQ)
  (simp only [sySet, reduceCtorEq, forall_const, Int.reduceToNat, Int.reduceAdd, Int.reduceSub, Int.cast_ofNat_Int, Int.toNat_natCast, Nat.le_eq, Nat.sub_eq, ne_eq, Decidable.not_not, implies_true, true_and, and_true, wadd, wsub, wmul, decide_eq_true_eq, decide_eq_false_iff_not, Nat.succ_eq_add_one, imp_false, not_false_eq_true, not_true_eq_false, false_imp_iff, true_imp_iff])
end Sy
end Go.Proofs.Ythlggigjnpldcaa
