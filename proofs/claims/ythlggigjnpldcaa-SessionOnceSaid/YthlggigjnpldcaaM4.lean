/-Chapter 18 (backoff): Delay, Next, Reset; its example. Go's strings.Builder: what it writes. Chapter 7 (codec): values, in plain Lean, and as the executor sees them. Chapter 7 (codec): how deep, bare, the same. Chapter 7 (codec): bare, the same; the document's. Chapter 7 (codec): the same; the document's bare, same. Chapter 7 (codec): writings. Chapter 7 (codec): values made, put; the chapter's example. Chapter 7 (codec), its law: values made of nodes. Chapter 1: the number that a text begins with; of what is written it is what was written.-/
import Derived.Test.YthlggigjnpldcaaM3
import Derived.Lib.Builder
namespace Go.Proofs.Ythlggigjnpldcaa
namespace Sy
open Go Go.RowKit
set_option maxRecDepth 100000
set_option linter.unusedSimpArgs false
set_option linter.unusedVariables false

/-- A number's bits. -/
def bln (n : Nat) : Nat := if n = 0 then 0 else n.log2 + 1
theorem bln_div {n k : Nat} (h : 2 ^ k ≤ n) : bln n = bln (n / 2 ^ k) + k := by
  have h0 : n ≠ 0 := by have := Nat.two_pow_pos k; omega
  have h1 : n / 2 ^ k ≠ 0 := by
    have := Nat.div_pos h (Nat.two_pow_pos k)
    omega
  unfold bln
  rw [if_neg h0, if_neg h1]
  have h2 : k ≤ n.log2 := (Nat.le_log2 h0).2 h
  have h3 := (Nat.le_log2 (k := n.log2) h0).1 (Nat.le_refl _)
  have h4 := (Nat.log2_lt (k := n.log2 + 1) h0).1 (Nat.lt_succ_self _)
  have e1 : (n / 2 ^ k).log2 = n.log2 - k := by
    apply Nat.le_antisymm
    · apply Nat.le_of_lt_succ
      rw [Nat.log2_lt h1, Nat.div_lt_iff_lt_mul (Nat.two_pow_pos k), ← Nat.pow_add]
      rw [show n.log2 - k + 1 + k = n.log2 + 1 by omega]
      exact h4
    · rw [Nat.le_log2 h1, Nat.le_div_iff_mul_le (Nat.two_pow_pos k), ← Nat.pow_add]
      rw [show n.log2 - k + k = n.log2 by omega]
      exact h3
  omega
def blT : List UInt8 := [0, 1, 2, 2, 3, 3, 3, 3, 4, 4, 4, 4, 4, 4, 4, 4, 5, 5, 5, 5, 5, 5, 5, 5, 5, 5, 5, 5, 5, 5, 5, 5, 6, 6, 6, 6, 6, 6, 6, 6, 6, 6, 6, 6, 6, 6, 6, 6, 6, 6, 6, 6, 6, 6, 6, 6, 6, 6, 6, 6, 6, 6, 6, 6, 7, 7, 7, 7, 7, 7, 7, 7, 7, 7, 7, 7, 7, 7, 7, 7, 7, 7, 7, 7, 7, 7, 7, 7, 7, 7, 7, 7, 7, 7, 7, 7, 7, 7, 7, 7, 7, 7, 7, 7, 7, 7, 7, 7, 7, 7, 7, 7, 7, 7, 7, 7, 7, 7, 7, 7, 7, 7, 7, 7, 7, 7, 7, 7, 8, 8, 8, 8, 8, 8, 8, 8, 8, 8, 8, 8, 8, 8, 8, 8, 8, 8, 8, 8, 8, 8, 8, 8, 8, 8, 8, 8, 8, 8, 8, 8, 8, 8, 8, 8, 8, 8, 8, 8, 8, 8, 8, 8, 8, 8, 8, 8, 8, 8, 8, 8, 8, 8, 8, 8, 8, 8, 8, 8, 8, 8, 8, 8, 8, 8, 8, 8, 8, 8, 8, 8, 8, 8, 8, 8, 8, 8, 8, 8, 8, 8, 8, 8, 8, 8, 8, 8, 8, 8, 8, 8, 8, 8, 8, 8, 8, 8, 8, 8, 8, 8, 8, 8, 8, 8, 8, 8, 8, 8, 8, 8, 8, 8, 8, 8, 8, 8, 8, 8, 8, 8, 8, 8, 8, 8, 8, 8]
theorem blT_eq : ([0, 1, 2, 2, 3, 3, 3, 3, 4, 4, 4, 4, 4, 4, 4, 4, 5, 5, 5, 5, 5, 5, 5, 5, 5, 5, 5, 5, 5, 5, 5, 5, 6, 6, 6, 6, 6, 6, 6, 6, 6, 6, 6, 6, 6, 6, 6, 6, 6, 6, 6, 6, 6, 6, 6, 6, 6, 6, 6, 6, 6, 6, 6, 6, 7, 7, 7, 7, 7, 7, 7, 7, 7, 7, 7, 7, 7, 7, 7, 7, 7, 7, 7, 7, 7, 7, 7, 7, 7, 7, 7, 7, 7, 7, 7, 7, 7, 7, 7, 7, 7, 7, 7, 7, 7, 7, 7, 7, 7, 7, 7, 7, 7, 7, 7, 7, 7, 7, 7, 7, 7, 7, 7, 7, 7, 7, 7, 7, 8, 8, 8, 8, 8, 8, 8, 8, 8, 8, 8, 8, 8, 8, 8, 8, 8, 8, 8, 8, 8, 8, 8, 8, 8, 8, 8, 8, 8, 8, 8, 8, 8, 8, 8, 8, 8, 8, 8, 8, 8, 8, 8, 8, 8, 8, 8, 8, 8, 8, 8, 8, 8, 8, 8, 8, 8, 8, 8, 8, 8, 8, 8, 8, 8, 8, 8, 8, 8, 8, 8, 8, 8, 8, 8, 8, 8, 8, 8, 8, 8, 8, 8, 8, 8, 8, 8, 8, 8, 8, 8, 8, 8, 8, 8, 8, 8, 8, 8, 8, 8, 8, 8, 8, 8, 8, 8, 8, 8, 8, 8, 8, 8, 8, 8, 8, 8, 8, 8, 8, 8, 8, 8, 8, 8, 8, 8, 8] : List UInt8) = blT := rfl
theorem blT_len : blT.length = 256 := by decide +kernel
theorem bl_8 : ∀ k : _root_.Fin 256, bln k.val ≤ 8 := by decide +kernel
theorem blT_at : ∀ k : _root_.Fin 256, (blT.getD k.val 0).toNat = bln k.val := by decide +kernel
theorem blT_is (x : Int) (h0 : 0 ≤ x) (h1 : x < 256) : ((blT.getD x.toNat 0).toNat : Int) = ((bln x.toNat : Nat) : Int) := by
  have := blT_at ⟨x.toNat, by omega⟩
  simp only at this
  rw [this]
theorem shr32 (n : Int) : wshr .u64 n 32 = n / 4294967296 := by
  unfold wshr
  rw [show (2 : Int) ^ (min (32 : Int).toNat IntKind.u64.bits) = 4294967296 from rfl, Int.fdiv_eq_ediv_of_nonneg _ (by decide)]
theorem shr16 (n : Int) : wshr .u64 n 16 = n / 65536 := by
  unfold wshr
  rw [show (2 : Int) ^ (min (16 : Int).toNat IntKind.u64.bits) = 65536 from rfl, Int.fdiv_eq_ediv_of_nonneg _ (by decide)]
theorem shr8 (n : Int) : wshr .u64 n 8 = n / 256 := by
  unfold wshr
  rw [show (2 : Int) ^ (min (8 : Int).toNat IntKind.u64.bits) = 256 from rfl, Int.fdiv_eq_ediv_of_nonneg _ (by decide)]
/-- One step: so many bits off. -/
theorem bl_step (x : Int) (k : Nat) (P : Int) (hP : P = ((2 ^ k : Nat) : Int)) (h : P ≤ x) : ((bln x.toNat : Nat) : Int) = ((bln (x / P).toNat : Nat) : Int) + k := by
  have hp := Nat.two_pow_pos k
  have h1 : 2 ^ k ≤ x.toNat := by omega
  have := bln_div h1
  have e : (x / P).toNat = x.toNat / 2 ^ k := by
    rw [hP]
    have : x = (x.toNat : Int) := by omega
    rw [this, ← Int.natCast_ediv, Int.toNat_natCast, Int.toNat_natCast]
  rw [e]
  omega
def u64Ok (n : Int) : Prop := 0 ≤ n ∧ n < 18446744073709551616
def blZ (n : Int) : Int := (bln n.toNat : Nat)
def len_s (L : Seal) : Ent1 := (113, fun xs => match xs with | [.int .u64 n] => some (L u64Ok n, .int .i64 (L blZ n)) | _ => none)
theorem bl_fin (c : Int) (x n : Int) (h0 : 0 ≤ x) (h1 : x < 256) (hc : 0 ≤ c) (hc' : c ≤ 56) (h : blZ n = blZ x + c) :
    ((c + (((blT.getD (x % 256).toNat 0).toNat : Int))) = blZ n) ∧ 0 ≤ (((blT.getD (x % 256).toNat 0).toNat : Int)) ∧ (((blT.getD (x % 256).toNat 0).toNat : Int)) ≤ 8 := by
  have e : x % 256 = x := by omega
  rw [e, blT_is x h0 h1, h]
  have := bl_8 ⟨x.toNat, by omega⟩
  simp only at this
  unfold blZ
  refine ⟨by omega, by omega, by omega⟩
theorem blZ_step (x : Int) (k : Nat) (P : Int) (hP : P = ((2 ^ k : Nat) : Int)) (h : P ≤ x) : blZ x = blZ (x / P) + k := bl_step x k P hP h
theorem len_good : Good Try.prog (len_s std) := by
  intro xs p r h hp
  dsimp only [len_s] at h ⊢
  split at h <;> cases h
  try simp only [L2, L3, std] at hp ⊢
  rename_i n
  refine acalls_L (T := tt) (S := noS) (lo := noA) (lb := noA) 5 (fn := Try.f113) rfl rfl (by kernel_rfl) (by kernel_rfl) rfl tt_ok (noS_ok _) (by kernel_rfl) ?_
  intro L P' Q' hL hP hQ
  (cbv; try simp only [sat_need, sat_must, sat_ite, sat_done, sat_yes, sat_ex, sat_all, sat_sup, sat_and, sat_fail, true_and, and_true])
  refine ⟨fun h1 => ⟨?_, fun h2 => ⟨?_, fun h3 => ⟨?_, ?_, ?_⟩, fun h3 => ⟨?_, ?_⟩⟩, fun h2 => ⟨fun h3 => ⟨?_, ?_, ?_⟩, fun h3 => ⟨?_, ?_⟩⟩⟩, fun h1 => ⟨fun h2 => ⟨?_, fun h3 => ⟨?_, ?_, ?_⟩, fun h3 => ⟨?_, ?_⟩⟩, fun h2 => ⟨fun h3 => ⟨?_, ?_, ?_⟩, fun h3 => ⟨?_, ?_⟩⟩⟩⟩
  all_goals (subst hL; subst hQ; simp only [L2, L3, std] at *; try simp only [sySet, reduceCtorEq, forall_const, Int.reduceToNat, Int.reduceAdd, Int.reduceSub, Int.cast_ofNat_Int, Int.toNat_natCast, Nat.le_eq, Nat.sub_eq, ne_eq, Decidable.not_not, implies_true, true_and, and_true, wadd, wsub, wmul, decide_eq_true_eq, decide_eq_false_iff_not, Nat.succ_eq_add_one, imp_false, not_false_eq_true, not_true_eq_false, false_imp_iff, true_imp_iff] at *)
  all_goals try (simp only [shr32, shr16, shr8, blT_eq, blT_len] at *)
  all_goals obtain ⟨u0, u1⟩ := hp
  all_goals try omega
  · have b := bl_fin 56 (n / 4294967296 / 65536 / 256) n (by omega) (by omega) (by omega) (by omega) (by rw [blZ_step n 32 4294967296 rfl h1, blZ_step _ 16 65536 rfl h2, blZ_step _ 8 256 rfl h3]; omega)
    omega
  · have b := bl_fin 48 (n / 4294967296 / 65536) n (by omega) (by omega) (by omega) (by omega) (by rw [blZ_step n 32 4294967296 rfl h1, blZ_step _ 16 65536 rfl h2]; omega)
    omega
  · have b := bl_fin 40 (n / 4294967296 / 256) n (by omega) (by omega) (by omega) (by omega) (by rw [blZ_step n 32 4294967296 rfl h1, blZ_step _ 8 256 rfl h3]; omega)
    omega
  · have b := bl_fin 32 (n / 4294967296) n (by omega) (by omega) (by omega) (by omega) (by rw [blZ_step n 32 4294967296 rfl h1]; omega)
    omega
  · have b := bl_fin 24 (n / 65536 / 256) n (by omega) (by omega) (by omega) (by omega) (by rw [blZ_step n 16 65536 rfl h2, blZ_step _ 8 256 rfl h3]; omega)
    omega
  · have b := bl_fin 16 (n / 65536) n (by omega) (by omega) (by omega) (by omega) (by rw [blZ_step n 16 65536 rfl h2]; omega)
    omega
  · have b := bl_fin 8 (n / 256) n (by omega) (by omega) (by omega) (by omega) (by rw [blZ_step n 8 256 rfl h3]; omega)
    omega
  · have b := bl_fin 0 n n (by omega) (by omega) (by omega) (by omega) (by omega)
    omega
def ldZ (n : Int) : Int := 64 - blZ n
theorem bl_le {n : Int} (h : u64Ok n) : 0 ≤ blZ n ∧ blZ n ≤ 64 := by
  obtain ⟨h0, h1⟩ := h
  unfold blZ bln
  split
  · omega
  · rename_i hn
    have p64 : (2 : Nat) ^ 64 = 18446744073709551616 := by decide
    have := (Nat.log2_lt (k := 64) hn).2 (by rw [p64]; omega)
    omega
def lead_s (L : Seal) : Ent1 := (102, fun xs => match xs with | [.int .u64 n] => some (L u64Ok n, .int .i64 (L ldZ n)) | _ => none)
theorem lead_good : Good Try.prog (lead_s std) := by
  intro xs p r h hp
  dsimp only [lead_s] at h ⊢
  split at h <;> cases h
  try simp only [L2, L3, std] at hp ⊢
  rename_i n
  refine acalls_L (T := tt) (S := fun L => sumOf [len_s L]) (lo := noA) (lb := noA) 5 (fn := Try.f102) rfl rfl (by kernel_rfl) (by kernel_rfl) rfl tt_ok (sumOf_ok ⟨len_good, trivial⟩) (by kernel_rfl) ?_
  have := bl_le hp
  (intro L P1 Q1 hL hP hQ; cbv; subst hL; simp only [L2, L3, std, sat_need, sat_must, sat_ite, sat_done, sat_yes, sat_ex, sat_all, sat_sup, sat_and, sat_fail]; subst hQ)
  (simp only [sySet, reduceCtorEq, forall_const, Int.reduceToNat, Int.reduceAdd, Int.reduceSub, Int.cast_ofNat_Int, Int.toNat_natCast, Nat.le_eq, Nat.sub_eq, ne_eq, Decidable.not_not, implies_true, true_and, and_true, wadd, wsub, wmul, decide_eq_true_eq, decide_eq_false_iff_not, Nat.succ_eq_add_one, imp_false, not_false_eq_true, not_true_eq_false, false_imp_iff, true_imp_iff])
  unfold ldZ
  exact ⟨hp, by omega⟩
/-- The delay ahead of the next try. -/
def dlyZ (b c t : Int) : Int := if b = 0 ∨ c = 0 then 0 else if ldZ b + 1 ≤ max t 0 then c else min (wshl .u64 b (max t 0)) c
def dly_s (L : Seal) : Ent1 := (78, fun xs => match xs with | [.agg [.int .u64 b, .int .u64 c, .int .i64 t]] => some (L u64Ok b, .int .u64 (L3 L dlyZ b c t)) | _ => none)
theorem dly_good : Good Try.prog (dly_s std) := by
  intro xs p r h hp
  dsimp only [dly_s] at h ⊢
  split at h <;> cases h
  try simp only [L2, L3, std] at hp ⊢
  rename_i b c t
  refine acalls_L (T := tt) (S := fun L => sumOf [lead_s L]) (lo := noA) (lb := noA) 5 (fn := Try.f78) rfl rfl (by kernel_rfl) (by kernel_rfl) rfl tt_ok (sumOf_ok ⟨lead_good, trivial⟩) (by kernel_rfl) ?_
  have := bl_le hp
  have : 0 ≤ ldZ b ∧ ldZ b ≤ 64 := by unfold ldZ; omega
  (intro L P1 Q1 hL hP hQ; cbv; subst hL; simp only [L2, L3, std, sat_need, sat_must, sat_ite, sat_done, sat_yes, sat_ex, sat_all, sat_sup, sat_and, sat_fail]; subst hQ)
  (simp only [sySet, reduceCtorEq, forall_const, Int.reduceToNat, Int.reduceAdd, Int.reduceSub, Int.cast_ofNat_Int, Int.toNat_natCast, Nat.le_eq, Nat.sub_eq, ne_eq, Decidable.not_not, implies_true, true_and, and_true, wadd, wsub, wmul, decide_eq_true_eq, decide_eq_false_iff_not, Nat.succ_eq_add_one, imp_false, not_false_eq_true, not_true_eq_false, false_imp_iff, true_imp_iff])
  refine ⟨fun h => by simp [dlyZ, h], fun h1 => ⟨fun h => by simp [dlyZ, h], fun h2 => ⟨hp, fun h3 => ?_, fun h3 => ⟨by omega, ?_⟩⟩⟩⟩
  · rw [dlyZ, if_neg (by omega), if_pos (by omega)]
  · rw [dlyZ, if_neg (by omega), if_neg (by omega)]
def nxtT (t : Int) : Int := min (max t 0 + 1) 64
def wnext_s (L : Seal) : Ent1 := (79, fun xs => match xs with | [.agg [.int .u64 b, .int .u64 c, .int .i64 t]] => some (L (fun t : Int => t ≤ 1000000) t, .agg [.int .u64 b, .int .u64 c, .int .i64 (L nxtT t)]) | _ => none)
theorem wnext_good : Good Try.prog (wnext_s std) := by
  intro xs p r h hp
  dsimp only [wnext_s] at h ⊢
  split at h <;> cases h
  try simp only [L2, L3, std] at hp ⊢
  rename_i b c t
  refine acalls_L (T := tt) (S := noS) (lo := noA) (lb := noA) 5 (fn := Try.f79) rfl rfl (by kernel_rfl) (by kernel_rfl) rfl tt_ok (noS_ok _) (by kernel_rfl) ?_
  (intro L P1 Q1 hL hP hQ; cbv; subst hL; simp only [L2, L3, std, sat_need, sat_must, sat_ite, sat_done, sat_yes, sat_ex, sat_all, sat_sup, sat_and, sat_fail]; subst hQ)
  (simp only [sySet, reduceCtorEq, forall_const, Int.reduceToNat, Int.reduceAdd, Int.reduceSub, Int.cast_ofNat_Int, Int.toNat_natCast, Nat.le_eq, Nat.sub_eq, ne_eq, Decidable.not_not, implies_true, true_and, and_true, wadd, wsub, wmul, decide_eq_true_eq, decide_eq_false_iff_not, Nat.succ_eq_add_one, imp_false, not_false_eq_true, not_true_eq_false, false_imp_iff, true_imp_iff])
  have hp : t ≤ 1000000 := hp
  unfold nxtT
  omega
def wreset_s (L : Seal) : Ent1 := (76, fun xs => match xs with | [.agg [.int .u64 b, .int .u64 c, .int .i64 t]] => some (True, .agg [.int .u64 b, .int .u64 c, .int .i64 0]) | _ => none)
theorem wreset_good : Good Try.prog (wreset_s std) := by
  intro xs p r h hp
  dsimp only [wreset_s] at h ⊢
  split at h <;> cases h
  try simp only [L2, L3, std] at hp ⊢
  rename_i b c t
  refine acalls_L (T := tt) (S := noS) (lo := noA) (lb := noA) 5 (fn := Try.f76) rfl rfl (by kernel_rfl) (by kernel_rfl) rfl tt_ok (noS_ok _) (by kernel_rfl) ?_
  (intro L P1 Q1 hL hP hQ; cbv; subst hL; simp only [L2, L3, std, sat_need, sat_must, sat_ite, sat_done, sat_yes, sat_ex, sat_all, sat_sup, sat_and, sat_fail]; subst hQ)
  (simp only [sySet, reduceCtorEq, forall_const, Int.reduceToNat, Int.reduceAdd, Int.reduceSub, Int.cast_ofNat_Int, Int.toNat_natCast, Nat.le_eq, Nat.sub_eq, ne_eq, Decidable.not_not, implies_true, true_and, and_true, wadd, wsub, wmul, decide_eq_true_eq, decide_eq_false_iff_not, Nat.succ_eq_add_one, imp_false, not_false_eq_true, not_true_eq_false, false_imp_iff, true_imp_iff])
theorem awake18_ac : ACalls Try.prog 95 [] (.bool true) := by
  refine acalls_L (T := tt) (S := fun L => sumOf [dly_s L, wnext_s L, tru 46]) (lo := noA) (lb := noA) 5 (fn := Try.f95) rfl rfl (by kernel_rfl) (by kernel_rfl) rfl tt_ok (sumOf_ok ⟨dly_good, wnext_good, tru_good Awake01_ac, trivial⟩) (by kernel_rfl) ?_
  (intro L P1 Q1 hL hP hQ; cbv; subst hL; simp only [L2, L3, std, sat_need, sat_must, sat_ite, sat_done, sat_yes, sat_ex, sat_all, sat_sup, sat_and, sat_fail]; subst hQ)
  (simp only [sySet, reduceCtorEq, forall_const, Int.reduceToNat, Int.reduceAdd, Int.reduceSub, Int.cast_ofNat_Int, Int.toNat_natCast, Nat.le_eq, Nat.sub_eq, ne_eq, Decidable.not_not, implies_true, true_and, and_true, wadd, wsub, wmul, decide_eq_true_eq, decide_eq_false_iff_not, Nat.succ_eq_add_one, imp_false, not_false_eq_true, not_true_eq_false, false_imp_iff, true_imp_iff])
  simp only [u64Ok]
  decide +kernel
theorem Awake18_ac : ACalls Try.prog 69 [] (.bool true) := by
  refine acalls_L (T := tt) (S := fun L => sumOf [tru 95]) (lo := noA) (lb := noA) 5 (fn := Try.f69) rfl rfl (by kernel_rfl) (by kernel_rfl) rfl tt_ok (sumOf_ok ⟨tru_good awake18_ac, trivial⟩) (by kernel_rfl) ?_
  (intro L P1 Q1 hL hP hQ; cbv; subst hL; simp only [L2, L3, std, sat_need, sat_must, sat_ite, sat_done, sat_yes, sat_ex, sat_all, sat_sup, sat_and, sat_fail]; subst hQ)
  (simp only [sySet, reduceCtorEq, forall_const, Int.reduceToNat, Int.reduceAdd, Int.reduceSub, Int.cast_ofNat_Int, Int.toNat_natCast, Nat.le_eq, Nat.sub_eq, ne_eq, Decidable.not_not, implies_true, true_and, and_true, wadd, wsub, wmul, decide_eq_true_eq, decide_eq_false_iff_not, Nat.succ_eq_add_one, imp_false, not_false_eq_true, not_true_eq_false, false_imp_iff, true_imp_iff])
theorem Awake08_ac : ACalls Try.prog 68 [] (.bool true) := by
  refine acalls_L (T := tt) (S := fun L => sumOf [tru 94]) (lo := noA) (lb := noA) 5 (fn := Try.f68) rfl rfl (by kernel_rfl) (by kernel_rfl) rfl tt_ok (sumOf_ok ⟨tru_good awake08_ac, trivial⟩) (by kernel_rfl) ?_
  (intro L P1 Q1 hL hP hQ; cbv; subst hL; simp only [L2, L3, std, sat_need, sat_must, sat_ite, sat_done, sat_yes, sat_ex, sat_all, sat_sup, sat_and, sat_fail]; subst hQ)
  (simp only [sySet, reduceCtorEq, forall_const, Int.reduceToNat, Int.reduceAdd, Int.reduceSub, Int.cast_ofNat_Int, Int.toNat_natCast, Nat.le_eq, Nat.sub_eq, ne_eq, Decidable.not_not, implies_true, true_and, and_true, wadd, wsub, wmul, decide_eq_true_eq, decide_eq_false_iff_not, Nat.succ_eq_add_one, imp_false, not_false_eq_true, not_true_eq_false, false_imp_iff, true_imp_iff])
end Sy
end Go.Proofs.Ythlggigjnpldcaa
namespace Go.Proofs.Ythlggigjnpldcaa
namespace Sy
open Go Go.RowKit
set_option maxRecDepth 100000
set_option linter.unusedSimpArgs false
set_option linter.unusedVariables false

/-- A pointer as it is. -/
def noEsc_m : EntM := (104, fun raw ob => match raw with
  | [.ref id 0] => match ob id with
    | some (.box ty cs) => some ⟨[.ref 500000 0], [(500000, .box ty cs)], True, .ref 500000 0, [(500000, .box ty cs)]⟩
    | _ => none
  | _ => none)
theorem noEsc_good : GoodM Try.prog noEsc_m := by
  intro raw ob T hT hp
  unfold noEsc_m at hT
  simp only at hT
  split at hT
  · split at hT
    · cases hT
      intro D w μ vs hD hxs hdom hobs hinj hown hg hgb
      obtain ⟨v, hv⟩ : ∃ v, vs.toList = [v] := List.length_eq_one_iff.1 (by simpa using hxs.1.symm)
      have : vs = #[v] := by rw [← Array.toArray_toList (xs := vs), hv]
      subst this
      unfold CallTo
      rw [show noEsc_m.fst = 104 from rfl, run_callFunc_extern (fn := Try.f104) rfl (by kernel_rfl) (by kernel_rfl) (by kernel_rfl) (e := Extern.AbiNoEscape.same) (by kernel_rfl)]
      rw [Lib.run_noEscape]
      exact ⟨v, D, μ, { ret := rfl, os := rfl, tape := rfl, output := rfl, size := Nat.le_refl _, old := fun _ _ _ => rfl, up := fun _ h => h, dn := fun _ h => .inl h, dom := hdom, obs := hobs, inj := hinj, own := fun n b z h => ⟨(hown n b z h).1, (hown n b z h).2, .inr ⟨n, z, h⟩⟩, keep := fun _ _ _ => rfl, val := hxs.2 0 _ _ rfl rfl }⟩
    · cases hT
  · cases hT

def cc_m : EntM := (90, fun raw ob => match raw with
  | [.ref id 0] => match ob id with
    | some (.box _ [.nilp, .nils]) => some ⟨[.ref 500000 0], [(500000, .box 103 [.nilp, .nils])], True, .tup [], [(500000, .box 103 [.ref 500000 0, .nils])]⟩
    | some (.box _ [.ref _ 0, .sl k 1 0 n]) => match ob k with
      | some (.row _ 1 m get) => some ⟨[.ref 500000 0], [(500000, .box 103 [.ref 500000 0, .sl 500001 1 0 m]), (500001, .row 5 1 m get)], True, .tup [], [(500000, .box 103 [.ref 500000 0, .sl 500001 1 0 m]), (500001, .row 5 1 m get)]⟩
      | _ => none
    | _ => none
  | _ => none)
theorem cc_new : MCalls Try.prog 90 [.ref 500000 0] [(500000, .box 103 [.nilp, .nils])] (.tup []) [(500000, .box 103 [.ref 500000 0, .nils])] := by
  refine mcalls_L (T := tt) (S := fun L => sumOfM [] [noEsc_m]) (lo := noA) (lb := noA) 5 (fn := Try.f90) (xs := fun L => [.ref 500000 0]) (rts := fun _ => []) (O := fun L => [(500000, .box 103 [.nilp, .nils])]) (O1 := fun L => [(500000, .box 103 [.ref 500000 0, .nils])])
    rfl rfl (by kernel_rfl) (by kernel_rfl) (by kernel_rfl) tt_ok (sumOfM_ok trivial ⟨noEsc_good, trivial⟩) (by kernel_rfl) ?_
  intro L P' Q' hL hP hQ
  (cbv; try simp only [sat_need, sat_must, sat_ite, sat_done, sat_yes, sat_ex, sat_all, sat_sup, sat_and, sat_fail, true_and, and_true])
  exact ⟨fun _ => trivial, fun h => by cases h⟩
theorem cc_old (m : Nat) (get : Nat → Nat → AV) : MCalls Try.prog 90 [.ref 500000 0] [(500000, .box 103 [.ref 500000 0, .sl 500001 1 0 m]), (500001, .row 5 1 m get)] (.tup []) [(500000, .box 103 [.ref 500000 0, .sl 500001 1 0 m]), (500001, .row 5 1 m get)] := by
  refine mcalls_L (T := tt) (S := fun L => sumOfM [] [noEsc_m]) (lo := noA) (lb := noA) 5 (fn := Try.f90) (xs := fun L => [.ref 500000 0]) (rts := fun _ => []) (O := fun L => [(500000, .box 103 [.ref 500000 0, .sl 500001 1 0 m]), (500001, .row 5 1 m get)]) (O1 := fun L => [(500000, .box 103 [.ref 500000 0, .sl 500001 1 0 m]), (500001, .row 5 1 m get)])
    rfl rfl (by kernel_rfl) (by kernel_rfl) (by kernel_rfl) tt_ok (sumOfM_ok trivial ⟨noEsc_good, trivial⟩) (by kernel_rfl) ?_
  intro L P' Q' hL hP hQ
  (cbv; try simp only [sat_need, sat_must, sat_ite, sat_done, sat_yes, sat_ex, sat_all, sat_sup, sat_and, sat_fail, true_and, and_true])
  subst hL
  simp [std]
theorem cc_good : GoodM Try.prog cc_m := by
  intro raw ob T hT hp
  unfold cc_m at hT
  simp only at hT
  repeat' split at hT
  all_goals first | (cases hT; done) | (cases hT; exact cc_new) | (cases hT; exact cc_old _ _)

/-! ### What a builder holds -/
def bld (L : Seal) (l : List UInt8) : List (Nat × Ob) := [(500000, .box 103 [.ref 500000 0, .sl 500001 1 0 (L lenN l)]), (500001, .row 5 1 (L lenN l) (fun i _ => .int .u8 (L2 L byteAt l i)))]
def bldN (L : Seal) (l : List UInt8) : List (Nat × Ob) := [(500000, .box 103 [.ref 500000 0, .sl 7 1 0 (L lenN l)]), (7, .row 5 1 (L lenN l) (fun i _ => .int .u8 (L2 L byteAt l i)))]
def bld0 : List (Nat × Ob) := [(500000, .box 103 [.nilp, .nils])]
/-- What a builder of the caller's holds: none: it isn't written yet. -/
def bldOf (L : Seal) (ob : Nat → Option Ob) (id : Nat) : Option (Option (List UInt8)) := match ob id with
  | some (.box _ [.nilp, .nils]) => some none
  | some (.box _ [.ref _ 0, .sl k 1 0 n]) => match ob k with
    | some (.row _ 1 m get) => some (some (L2 L bytesOf m (fun i => (get i 0).toI)))
    | _ => none
  | _ => none
def bytesAdd (l m : List UInt8) : List UInt8 := l ++ m
def byte1 (c : Int) : List UInt8 := [UInt8.ofNat c.toNat]
def u8Ok (c : Int) : Prop := 0 ≤ c ∧ c < 256
def roomB (l m : List UInt8) : Prop := l.length + m.length ≤ 90000000
def wb_m (L : Seal) : EntM := (83, fun raw ob => match raw with
  | [.ref id 0, .int .u8 c] => match bldOf L ob id with
    | some none => some ⟨[.ref 500000 0, .int .u8 c], bld0, L u8Ok c, .dead, bldN L (L byte1 c)⟩
    | some (some l) => some ⟨[.ref 500000 0, .int .u8 c], bld L l, L u8Ok c ∧ L2 L roomB l (L byte1 c), .dead, bldN L (L2 L bytesAdd l (L byte1 c))⟩
    | none => none
  | _ => none)
def ws_m (L : Seal) : EntM := (62, fun raw ob => match raw with
  | [.ref id 0, .str s] => match bldOf L ob id with
    | some (some l) => some ⟨[.ref 500000 0, .str s], bld L l, L2 L roomB l s, .tup [.int .i64 (L slen s), .dead], bldN L (L2 L bytesAdd l s)⟩
    | _ => none
  | _ => none)
def bs_m (L : Seal) : EntM := (50, fun raw ob => match raw with
  | [.ref id 0] => match bldOf L ob id with
    | some (some l) => some ⟨[.ref 500000 0], bld L l, L (fun l => l ≠ [] ∧ l.length ≤ 90000000) l, .str l, []⟩
    | _ => none
  | _ => none)
def bl_m (L : Seal) : EntM := (49, fun raw ob => match raw with
  | [.ref id 0] => match bldOf L ob id with
    | some (some l) => some ⟨[.ref 500000 0], bld L l, True, .int .i64 (L slen l), bld L l⟩
    | _ => none
  | _ => none)
theorem byteAt_l {l m : List UInt8} {i : Nat} (h : i < l.length) : byteAt (l ++ m) i = byteAt l i := by
  simp [byteAt, List.getElem?_append_left h]
theorem byteAt_r {l m : List UInt8} {i : Nat} (h : ¬ i < l.length) : byteAt (l ++ m) i = byteAt m (i - l.length) := by
  simp [byteAt, List.getElem?_append_right (show l.length ≤ i by omega)]
theorem bytesOf_at (l : List UInt8) : bytesOf l.length (fun i => byteAt l i) = l := by
  apply List.ext_getElem
  · simp [bytesOf]
  · intro i h1 h2
    simp [bytesOf, byteAt, h2]
theorem byte1_at {c : Int} (hc : u8Ok c) (i : Nat) (h : i < 1) : nthI [c] i = byteAt (byte1 c) i := by
  have : i = 0 := by omega
  subst this
  obtain ⟨h0, h1⟩ := hc
  simp [nthI, byteAt, byte1, UInt8.toNat_ofNat']
  omega
theorem wb_new (c : Int) (hc : u8Ok c) : MCalls Try.prog 83 [.ref 500000 0, .int .u8 c] bld0 .dead (bldN std (byte1 c)) := by
  refine mcalls_L (T := tt) (S := fun L => sumOfM [] [cc_m]) (lo := noA) (lb := noA) 5 (fn := Try.f83) (xs := fun L => [.ref 500000 0, .int .u8 c]) (rts := fun _ => [.dead]) (O := fun L => bld0) (O1 := fun L => bldN L (L byte1 c))
    rfl rfl (by kernel_rfl) (by kernel_rfl) (by kernel_rfl) tt_ok (sumOfM_ok trivial ⟨cc_good, trivial⟩) (by kernel_rfl) ?_
  intro L P' Q' hL hP hQ
  (cbv; try simp only [sat_need, sat_must, sat_ite, sat_done, sat_yes, sat_ex, sat_all, sat_sup, sat_and, sat_fail, true_and, and_true])
  subst hL
  simp only [L2, L3, std, roomOk_t]
  have h1 : lenN (byte1 c) = 1 := rfl
  rw [h1]
  exact ⟨by omega, ⟨rfl, fun i j hi hj => by rw [show Nat.add 0 i = i from Nat.zero_add i, byte1_at hc i hi]⟩, rfl⟩
theorem wb_old (l : List UInt8) (c : Int) (hc : u8Ok c) (hl : roomB l (byte1 c)) : MCalls Try.prog 83 [.ref 500000 0, .int .u8 c] (bld std l) .dead (bldN std (bytesAdd l (byte1 c))) := by
  refine mcalls_L (T := tt) (S := fun L => sumOfM [] [cc_m]) (lo := noA) (lb := noA) 5 (fn := Try.f83) (xs := fun L => [.ref 500000 0, .int .u8 c]) (rts := fun _ => [.dead]) (O := fun L => bld L l) (O1 := fun L => bldN L (L2 L bytesAdd l (L byte1 c)))
    rfl rfl (by kernel_rfl) (by kernel_rfl) (by kernel_rfl) tt_ok (sumOfM_ok trivial ⟨cc_good, trivial⟩) (by kernel_rfl) ?_
  intro L P' Q' hL hP hQ
  (cbv; try simp only [sat_need, sat_must, sat_ite, sat_done, sat_yes, sat_ex, sat_all, sat_sup, sat_and, sat_fail, true_and, and_true])
  subst hL
  simp only [L2, L3, std, roomOk_t]
  have h1 : lenN (bytesAdd l (byte1 c)) = l.length + 1 := by simp [lenN, bytesAdd, byte1]
  have h2 : (byte1 c).length = 1 := rfl
  have hl : l.length + (byte1 c).length ≤ 90000000 := hl
  have h3 : lenN l = l.length := rfl
  rw [h1, h3]
  refine ⟨fun _ _ _ _ => trivial, by omega, ⟨rfl, fun i j hi hj => ?_⟩, rfl⟩
  by_cases h : i < l.length
  · rw [blt_t h, show bytesAdd l (byte1 c) = l ++ byte1 c from rfl, byteAt_l h]; rfl
  · rw [blt_f h, show bytesAdd l (byte1 c) = l ++ byte1 c from rfl, byteAt_r h]
    show AV.int .u8 (nthI [c] (Nat.add 0 (i - l.length))) = _
    rw [show Nat.add 0 (i - l.length) = i - l.length from Nat.zero_add _, byte1_at hc _ (by omega)]
theorem ws_old (l s : List UInt8) (hl : roomB l s) : MCalls Try.prog 62 [.ref 500000 0, .str s] (bld std l) (.tup [.int .i64 (slen s), .dead]) (bldN std (bytesAdd l s)) := by
  refine mcalls_L (T := tt) (S := fun L => sumOfM [] [cc_m]) (lo := noA) (lb := noA) 5 (fn := Try.f62) (xs := fun L => [.ref 500000 0, .str s]) (rts := fun L => [.int .i64 (L slen s), .dead]) (O := fun L => bld L l) (O1 := fun L => bldN L (L2 L bytesAdd l s))
    rfl rfl (by kernel_rfl) (by kernel_rfl) (by kernel_rfl) tt_ok (sumOfM_ok trivial ⟨cc_good, trivial⟩) (by kernel_rfl) ?_
  intro L P' Q' hL hP hQ
  (cbv; try simp only [sat_need, sat_must, sat_ite, sat_done, sat_yes, sat_ex, sat_all, sat_sup, sat_and, sat_fail, true_and, and_true])
  subst hL
  simp only [L2, L3, std, roomOk_t]
  have h1 : lenN (bytesAdd l s) = l.length + s.length := by simp [lenN, bytesAdd]
  have hl : l.length + s.length ≤ 90000000 := hl
  have h3 : lenN l = l.length := rfl
  rw [h1, h3]
  refine ⟨fun _ _ _ _ => trivial, by omega, ⟨rfl, fun i j hi hj => ?_⟩, rfl⟩
  by_cases h : i < l.length
  · rw [blt_t h, show bytesAdd l s = l ++ s from rfl, byteAt_l h]; rfl
  · rw [blt_f h, show bytesAdd l s = l ++ s from rfl, byteAt_r h]; rfl
theorem bs_old (l : List UInt8) (h0 : l ≠ []) (hl : l.length ≤ 90000000) : MCalls Try.prog 50 [.ref 500000 0] (bld std l) (.str l) [] := by
  refine mcalls_L (T := tt) (S := fun L => sumOfM [] [cc_m]) (lo := noA) (lb := noA) 5 (fn := Try.f50) (xs := fun L => [.ref 500000 0]) (rts := fun L => [.str l]) (O := fun L => bld L l) (O1 := fun L => [])
    rfl rfl (by kernel_rfl) (by kernel_rfl) (by kernel_rfl) tt_ok (sumOfM_ok trivial ⟨cc_good, trivial⟩) (by kernel_rfl) ?_
  intro L P' Q' hL hP hQ
  (cbv; try simp only [sat_need, sat_must, sat_ite, sat_done, sat_yes, sat_ex, sat_all, sat_sup, sat_and, sat_fail, true_and, and_true])
  subst hL
  simp only [L2, L3, std]
  have h3 : lenN l = l.length := rfl
  have h1 : 0 < l.length := List.length_pos_iff.2 h0
  refine ⟨blt_t h1, ⟨by show (0 : Int) < (l.length : Int); omega, by show (l.length : Int) ≤ (l.length : Int); omega, by show (l.length : Int) ≤ _; omega, fun i hi => ⟨_, rfl, ?_, ?_⟩⟩, bytesOf_at l⟩
  · simp [byteAt]
  · have := UInt8.toNat_lt (l.getD i 0)
    show ((l.getD i 0).toNat : Int) < 256
    omega
theorem bl_old (l : List UInt8) : MCalls Try.prog 49 [.ref 500000 0] (bld std l) (.int .i64 (slen l)) (bld std l) := by
  refine mcalls_L (T := tt) (S := fun L => sumOfM [] [cc_m]) (lo := noA) (lb := noA) 5 (fn := Try.f49) (xs := fun L => [.ref 500000 0]) (rts := fun L => [.int .i64 (L slen l)]) (O := fun L => bld L l) (O1 := fun L => bld L l)
    rfl rfl (by kernel_rfl) (by kernel_rfl) (by kernel_rfl) tt_ok (sumOfM_ok trivial ⟨cc_good, trivial⟩) (by kernel_rfl) ?_
  intro L P' Q' hL hP hQ
  (cbv; try simp only [sat_need, sat_must, sat_ite, sat_done, sat_yes, sat_ex, sat_all, sat_sup, sat_and, sat_fail, true_and, and_true])
  subst hL
  exact ⟨fun _ _ _ _ => trivial, rfl⟩
theorem wb_good : GoodM Try.prog (wb_m std) := by
  intro raw ob T hT hp
  unfold wb_m at hT
  simp only at hT
  repeat' split at hT
  all_goals first | (cases hT; done) | (cases hT; exact wb_new _ hp) | (cases hT; exact wb_old _ _ hp.1 hp.2)
theorem ws_good : GoodM Try.prog (ws_m std) := by
  intro raw ob T hT hp
  unfold ws_m at hT
  simp only at hT
  repeat' split at hT
  all_goals first | (cases hT; done) | (cases hT; exact ws_old _ _ hp)
theorem bs_good : GoodM Try.prog (bs_m std) := by
  intro raw ob T hT hp
  unfold bs_m at hT
  simp only at hT
  repeat' split at hT
  all_goals first | (cases hT; done) | (cases hT; exact bs_old _ hp.1 hp.2)
theorem bl_good : GoodM Try.prog (bl_m std) := by
  intro raw ob T hT hp
  unfold bl_m at hT
  simp only at hT
  repeat' split at hT
  all_goals first | (cases hT; done) | (cases hT; exact bl_old _)
end Sy
end Go.Proofs.Ythlggigjnpldcaa
namespace Go.Proofs.Ythlggigjnpldcaa
namespace Sy
open Go Go.RowKit
set_option maxRecDepth 100000
set_option linter.unusedSimpArgs false
set_option linter.unusedVariables false

inductive CV where
  | mk (k n : Int) (s : List UInt8) (l : List CV)
namespace CV
def kd : CV → Int
  | mk k _ _ _ => k
def nn : CV → Int
  | mk _ n _ _ => n
def tx : CV → List UInt8
  | mk _ _ s _ => s
def ls : CV → List CV
  | mk _ _ _ l => l
theorem eta (v : CV) : mk v.kd v.nn v.tx v.ls = v := by cases v; rfl
end CV
def nthV (l : List CV) (i : Nat) : CV := l.getD i (.mk 0 0 [] [])
def lenL (l : List CV) : Nat := l.length
def lenV (v : CV) : Nat := v.ls.length
def sizeC : CV → Nat
  | .mk _ _ _ l => sizeCs l + 1
where sizeCs : List CV → Nat
  | [] => 0
  | v :: l => sizeC v + sizeCs l
abbrev sizeCs := sizeC.sizeCs
theorem sizeCs_nil : sizeCs [] = 0 := by simp [sizeC.sizeCs]
theorem sizeCs_cons (v : CV) (l : List CV) : sizeCs (v :: l) = sizeC v + sizeCs l := by simp [sizeC.sizeCs]
theorem sizeC_mk (k n : Int) (s : List UInt8) (l : List CV) : sizeC (.mk k n s l) = sizeCs l + 1 := by rw [sizeC]
theorem sizeC_pos (v : CV) : 0 < sizeC v := by cases v; rw [sizeC_mk]; omega
theorem sizeC_nth : ∀ (l : List CV) (i : Nat), i < l.length → sizeC (nthV l i) ≤ sizeCs l
  | [], i, h => by simp at h
  | v :: l, 0, h => by rw [sizeCs_cons]; show sizeC v ≤ _; omega
  | v :: l, i + 1, h => by
    have := sizeC_nth l i (by simpa using h)
    rw [sizeCs_cons]
    show sizeC (nthV l i) ≤ _
    omega
theorem nthV_mem {l : List CV} {i : Nat} (h : i < l.length) : nthV l i ∈ l := by
  rw [nthV, List.getD_eq_getElem?_getD, List.getElem?_eq_getElem h]; exact List.getElem_mem h
/-- A fact of all values, by their parts. -/
theorem cv_ind {p : CV → Prop} (h : ∀ k n s l, (∀ v ∈ l, p v) → p (.mk k n s l)) : ∀ (m : Nat) (v : CV), sizeC v ≤ m → p v
  | 0, v, hv => by have := sizeC_pos v; omega
  | m + 1, .mk k n s l, hv => h k n s l fun w hw => by
    rw [sizeC_mk] at hv
    obtain ⟨i, hi, rfl⟩ := List.getElem_of_mem hw
    have := sizeC_nth l i hi
    have e : nthV l i = l[i] := by rw [nthV, List.getD_eq_getElem?_getD, List.getElem?_eq_getElem hi]; rfl
    rw [e] at this
    exact cv_ind h m _ (by omega)
theorem cv_all {p : CV → Prop} (h : ∀ k n s l, (∀ v ∈ l, p v) → p (.mk k n s l)) (v : CV) : p v := cv_ind h _ v (Nat.le_refl _)

/-! ### values as the executor sees them -/
def dflC : Nat → AV
  | 0 => .int .i64 0
  | 1 => .int .u64 0
  | 2 => .str []
  | _ => .lst 4 0 (fun _ _ => .dead)
mutual
def cvCell : CV → Nat → AV
  | .mk k n s l, j => match j with
    | 0 => .int .i64 k
    | 1 => .int .u64 n
    | 2 => .str s
    | _ => .lst 4 l.length (cvGet l)
def cvGet : List CV → Nat → Nat → AV
  | [], _, j => dflC j
  | v :: l, i, j => match i with
    | 0 => cvCell v j
    | i + 1 => cvGet l i j
end
theorem cvCell_0 (v : CV) : cvCell v 0 = .int .i64 v.kd := by cases v; rw [cvCell]; rfl
theorem cvCell_1 (v : CV) : cvCell v 1 = .int .u64 v.nn := by cases v; rw [cvCell]; rfl
theorem cvCell_2 (v : CV) : cvCell v 2 = .str v.tx := by cases v; rw [cvCell]; rfl
theorem cvCell_3 (v : CV) : cvCell v 3 = .lst 4 v.ls.length (cvGet v.ls) := by cases v; rw [cvCell] <;> first | rfl | (intro h; cases h)
theorem cvGet_nth : ∀ (l : List CV) (i j : Nat), i < l.length → cvGet l i j = cvCell (nthV l i) j
  | [], i, j, h => by simp at h
  | v :: l, 0, j, h => by rw [cvGet]; rfl
  | v :: l, i + 1, j, h => by rw [cvGet]; exact cvGet_nth l i j (by simpa using h)
/-- A value's cells. -/
def cvIn (v : CV) : Nat → Nat → AV := cvGet v.ls
def cv1 (L : Seal) (v : CV) : Nat → AV
  | 0 => .int .i64 (L CV.kd v)
  | 1 => .int .u64 (L CV.nn v)
  | 2 => .str (L CV.tx v)
  | _ => .lst 4 (L lenV v) (L cvIn v)
theorem cv1_std (v : CV) (j : Nat) (h : j < 4) : cv1 std v j = cvCell v j := by
  match j, h with
  | 0, _ => rw [cvCell_0]; rfl
  | 1, _ => rw [cvCell_1]; rfl
  | 2, _ => rw [cvCell_2]; rfl
  | 3, _ => rw [cvCell_3]; rfl
def cvL (L : Seal) (l : List CV) : AV := .lst 4 (L lenL l) (fun i j => cv1 L (L2 L nthV l i) j)
def cvA (L : Seal) (v : CV) : AV := .agg [.int .i64 (L CV.kd v), .int .u64 (L CV.nn v), .str (L CV.tx v), .lst 4 (L lenV v) (L cvIn v)]
/-- What a cell of values holds. -/
def rdL : AV → List CV
  | .lst _ n get => (List.range n).map fun i => .mk (get i 0).toI (get i 1).toI (match get i 2 with | .str s => s | _ => []) (rdL (get i 3))
  | _ => []
def okL : AV → Prop
  | .lst sz n get => sz = 4 ∧ ∀ i, i < n → (∃ x, get i 0 = .int .i64 x) ∧ (∃ x, get i 1 = .int .u64 x) ∧ (∃ x, get i 2 = .str x) ∧ okL (get i 3)
  | .nils => True
  | _ => False
theorem rd_len (sz n : Nat) (get : Nat → Nat → AV) : (rdL (.lst sz n get)).length = n := by simp [rdL]
theorem rd_nth {sz n : Nat} {get : Nat → Nat → AV} {i : Nat} (h : i < n) : nthV (rdL (.lst sz n get)) i = .mk (get i 0).toI (get i 1).toI (match get i 2 with | .str s => s | _ => []) (rdL (get i 3)) := by
  rw [nthV, List.getD_eq_getElem?_getD, rdL]
  simp [h]
theorem cv_ext {a b : List CV} (h : a.length = b.length) (k : ∀ i, i < a.length → nthV a i = nthV b i) : a = b := by
  apply List.ext_getElem h
  intro i h1 h2
  have := k i h1
  rw [nthV, nthV, List.getD_eq_getElem?_getD, List.getD_eq_getElem?_getD, List.getElem?_eq_getElem h1, List.getElem?_eq_getElem h2] at this
  exact this
theorem rd_cell : ∀ v : CV, rdL (cvCell v 3) = v.ls ∧ okL (cvCell v 3) := by
  refine cv_all fun k n s l ih => ?_
  rw [cvCell_3]
  show rdL (.lst 4 l.length (cvGet l)) = l ∧ okL (.lst 4 l.length (cvGet l))
  refine ⟨cv_ext (rd_len _ _ _) fun i hi => ?_, rfl, fun i hi => ?_⟩
  · rw [rd_len] at hi
    rw [rd_nth hi, cvGet_nth _ _ _ hi, cvGet_nth _ _ _ hi, cvGet_nth _ _ _ hi, cvGet_nth _ _ _ hi, cvCell_0, cvCell_1, cvCell_2, (ih _ (nthV_mem hi)).1]
    exact CV.eta _
  · rw [cvGet_nth _ _ _ hi, cvGet_nth _ _ _ hi, cvGet_nth _ _ _ hi, cvGet_nth _ _ _ hi, cvCell_0, cvCell_1, cvCell_2]
    exact ⟨⟨_, rfl⟩, ⟨_, rfl⟩, ⟨_, rfl⟩, (ih _ (nthV_mem hi)).2⟩
theorem rd_in (v : CV) : rdL (.lst 4 (lenV v) (cvIn v)) = v.ls ∧ okL (.lst 4 (lenV v) (cvIn v)) := by
  have := rd_cell v
  rw [cvCell_3] at this
  exact this
theorem rd_list (l : List CV) : rdL (cvL std l) = l ∧ okL (cvL std l) := by
  refine ⟨cv_ext (rd_len _ _ _) fun i hi => ?_, rfl, fun i hi => ⟨⟨_, rfl⟩, ⟨_, rfl⟩, ⟨_, rfl⟩, (rd_in _).2⟩⟩
  have hi : i < l.length := by rw [show (rdL (cvL std l)).length = lenL l from rd_len _ _ _] at hi; exact hi
  show nthV (rdL (.lst 4 (lenL l) _)) i = _
  rw [rd_nth (show i < lenL l from hi)]
  show CV.mk (nthV l i).kd (nthV l i).nn (nthV l i).tx (rdL (.lst 4 (lenV (nthV l i)) (cvIn (nthV l i)))) = _
  rw [(rd_in _).1, CV.eta]
/-- What is known of values is known of them as they are told. -/
theorem okL_R {h : Array Obj} {D : Nat → Prop} : ∀ (x : AV) {μ : Mu} {v : Value}, okL x → R h D μ x v → R h D μ (.lst 4 (rdL x).length (cvGet (rdL x))) v := by
  intro x μ v ho r
  induction r with
  | nils => exact .lst0 _ _ _ _ (fun _ => rfl)
  | lst0 sz get a cap hn => exact .lst0 _ _ _ _ hn
  | lst sz n get b o cap vs hD hc hv h1 hr ih =>
    obtain ⟨rfl, ho⟩ := ho
    rw [rd_len]
    refine .lst _ _ _ b o cap vs hD hc hv h1 (fun i j hi hj => ?_)
    rw [cvGet_nth _ _ _ (by rw [rd_len]; exact hi), rd_nth hi]
    obtain ⟨⟨x0, e0⟩, ⟨x1, e1⟩, ⟨x2, e2⟩, o3⟩ := ho i hi
    have hj' := hr i j hi hj
    match j, hj with
    | 0, _ => rw [cvCell_0]; rw [e0] at hj' ⊢; exact hj'
    | 1, _ => rw [cvCell_1]; rw [e1] at hj' ⊢; exact hj'
    | 2, _ => rw [cvCell_2]; rw [e2] at hj' ⊢; exact hj'
    | 3, _ => rw [cvCell_3]; exact ih i 3 hi (by omega) o3
  | _ => exact ho.elim
theorem cvL_R {h : Array Obj} {D : Nat → Prop} {μ : Mu} {l : List CV} {v : Value} (r : R h D μ (.lst 4 l.length (cvGet l)) v) : R h D μ (cvL std l) v :=
  lst_same r fun i j hi hj => by
    rw [cvGet_nth _ _ _ hi]
    exact (cv1_std _ j hj).symm

/-! ### What functions say of values -/
mutual
def deepV : CV → Int
  | .mk k _ _ l => if k = 3 then deepLs l + 1 else 0
def deepLs : List CV → Int
  | [] => 0
  | v :: l => max (deepV v) (deepLs l)
end
theorem deepLs_app : ∀ a b : List CV, deepLs (a ++ b) = max (deepLs a) (deepLs b)
  | [], b => by
    rw [List.nil_append, deepLs]
    have : ∀ b : List CV, 0 ≤ deepLs b := by
      intro b
      induction b with
      | nil => rw [deepLs]; omega
      | cons v l ih => rw [deepLs]; omega
    have := this b
    omega
  | v :: a, b => by rw [List.cons_append, deepLs, deepLs_app a b, deepLs]; omega
theorem take_nth {l : List CV} {i : Nat} (h : i < l.length) : l.take (i + 1) = l.take i ++ [nthV l i] := by
  rw [List.take_succ_eq_append_getElem h, nthV, List.getD_eq_getElem?_getD, List.getElem?_eq_getElem h]; rfl
def deepTo (l : List CV) (i : Nat) : Int := deepLs (l.take i)
theorem deepTo_succ {l : List CV} {i : Nat} (h : i < l.length) : deepTo l (i + 1) = max (deepTo l i) (deepV (nthV l i)) := by
  unfold deepTo
  rw [take_nth h, deepLs_app, deepLs, deepLs]
  have : 0 ≤ deepV (nthV l i) ∨ True := .inr trivial
  have h0 : ∀ b : List CV, 0 ≤ deepLs b := by
    intro b
    induction b with
    | nil => rw [deepLs]; omega
    | cons v l ih => rw [deepLs]; omega
  have := h0 (l.take i)
  omega
mutual
def bareV : CV → Bool
  | .mk k n s l => if k = 1 then decide (s = []) && l.isEmpty else if k = 2 then decide (n = 0) && l.isEmpty else if k = 3 then decide (n = 0) && decide (s = []) && bareLs l else false
def bareLs : List CV → Bool
  | [] => true
  | v :: l => bareV v && bareLs l
end
mutual
def sameV : CV → CV → Bool
  | .mk k n s l, w => decide (k = w.kd) && decide (n = w.nn) && decide (s = w.tx) && sameLs l w.ls
def sameLs : List CV → List CV → Bool
  | [], m => m.isEmpty
  | v :: l, m => match m with
    | [] => false
    | w :: m => sameV v w && sameLs l m
end
def byteK (k : Int) : List UInt8 := [UInt8.ofNat (k % 256).toNat]
mutual
def textV : CV → List UInt8
  | .mk k n s l => byteK k ++ if k = 1 then shortZ n else if k = 2 then shortZ s.length ++ s else shortZ l.length ++ textLs l
def textLs : List CV → List UInt8
  | [] => []
  | v :: l => textV v ++ textLs l
end
theorem textLs_app : ∀ a b : List CV, textLs (a ++ b) = textLs a ++ textLs b
  | [], b => by rw [textLs]; rfl
  | v :: a, b => by rw [List.cons_append, textLs, textLs_app a b, textLs, List.append_assoc]
def textTo (l : List CV) (i : Nat) : List UInt8 := textLs (l.take i)
theorem textTo_succ {l : List CV} {i : Nat} (h : i < l.length) : textTo l (i + 1) = textTo l i ++ textV (nthV l i) := by
  unfold textTo
  rw [take_nth h, textLs_app, textLs, textLs, List.append_nil]
end Sy
end Go.Proofs.Ythlggigjnpldcaa
namespace Go.Proofs.Ythlggigjnpldcaa
namespace Sy
open Go Go.RowKit
set_option maxRecDepth 100000
set_option linter.unusedSimpArgs false
set_option linter.unusedVariables false

def mkV (L : Seal) (k n : Int) (s : List UInt8) (x : AV) : CV := L (L (L (L CV.mk k) n) s) (L rdL x)
def szOk (N : Nat) (v : CV) : Prop := sizeC v ≤ N ∧ N ≤ 1000000
def szOks (N : Nat) (l : List CV) : Prop := sizeCs l ≤ N ∧ N ≤ 1000000
theorem len_sz : ∀ l : List CV, l.length ≤ sizeCs l
  | [] => by simp
  | v :: l => by
    have := len_sz l
    have := sizeC_pos v
    rw [sizeCs_cons, List.length_cons]; omega
theorem nth_sz {N : Nat} {l : List CV} {i : Nat} (h : szOks N l) (hi : i < l.length) : szOk N (nthV l i) := by
  have := sizeC_nth l i hi
  exact ⟨by have := h.1; omega, h.2⟩
theorem sizeC_mk_ok {N : Nat} {k n : Int} {s : List UInt8} {l : List CV} : szOk (N + 1) (.mk k n s l) = (szOks N l ∧ N + 1 ≤ 1000000) := by
  unfold szOk szOks
  rw [sizeC_mk]
  exact propext ⟨fun h => ⟨⟨by omega, by omega⟩, by omega⟩, fun h => ⟨by have := h.1.1; omega, h.2⟩⟩
theorem mk_parts (v : CV) : CV.mk v.kd v.nn v.tx (rdL (.lst 4 (lenV v) (cvIn v))) = v := by rw [(rd_in v).1]; exact CV.eta v
theorem mkV_parts (v : CV) : mkV std v.kd v.nn v.tx (.lst 4 (lenV v) (cvIn v)) = v := mk_parts v
theorem rdl (l : List CV) : rdL (.lst 4 (lenL l) fun i => cv1 std (nthV l i)) = l := (rd_list l).1
theorem okl (l : List CV) : okL (.lst 4 (lenL l) fun i => cv1 std (nthV l i)) := (rd_list l).2
theorem mkl (k n : Int) (s : List UInt8) (l : List CV) : mkV std k n s (.lst 4 (lenL l) fun i => cv1 std (nthV l i)) = .mk k n s l := by
  show CV.mk k n s (rdL _) = _
  rw [rdl]
/-- A value's list is told as its values are. -/
theorem val_R {h : Array Obj} {D : Nat → Prop} {μ : Mu} {a b c x : AV} {v : Value} (ho : okL x) (r : R h D μ (.agg [a, b, c, x]) v) : R h D μ (.agg [a, b, c, cvL std (rdL x)]) v := by
  obtain ⟨us, rfl, o1, s1, hr⟩ := r.inv_agg
  refine .agg _ _ (by rw [← s1]; rfl) o1 fun i y v hy hv => ?_
  match i, hy with
  | 0, hy => cases hy; exact hr 0 _ v rfl hv
  | 1, hy => cases hy; exact hr 1 _ v rfl hv
  | 2, hy => cases hy; exact hr 2 _ v rfl hv
  | 3, hy => cases hy; exact cvL_R (okL_R x ho (hr 3 _ v rfl hv))
  | i + 4, hy => simp at hy
theorem rl_1 {h : Array Obj} {D : Nat → Prop} {μ : Mu} {x y : AV} {r : List AV} {vs : Array Value} (e : ∀ v, R h D μ x v → R h D μ y v) (hr : RL h D μ (x :: r) vs) : RL h D μ (y :: r) vs := by
  refine ⟨by rw [← hr.1]; rfl, fun i z v hz hv => ?_⟩
  cases i with
  | zero => cases hz; exact e v (hr.2 0 x v rfl hv)
  | succ i => exact hr.2 (i + 1) z v hz hv
theorem rl_2 {h : Array Obj} {D : Nat → Prop} {μ : Mu} {a x y : AV} {r : List AV} {vs : Array Value} (e : ∀ v, R h D μ x v → R h D μ y v) (hr : RL h D μ (a :: x :: r) vs) : RL h D μ (a :: y :: r) vs := by
  refine ⟨by rw [← hr.1]; rfl, fun i z v hz hv => ?_⟩
  match i, hz with
  | 0, hz => exact hr.2 0 z v hz hv
  | 1, hz => cases hz; exact e v (hr.2 1 x v rfl hv)
  | i + 2, hz => exact hr.2 (i + 2) z v hz hv
theorem ac_args' {P : Program} {f : FuncId} {xs ys : List AV} {r : AV} (h : ∀ h D vs, RL h D noMu xs vs → RL h D noMu ys vs) (ha : ACalls P f ys r) : ACalls P f xs r := fun D w vs hD hx => ha D w vs hD (h _ _ _ hx)
theorem ac_v {P : Program} {f : FuncId} {a b c x r : AV} (ho : okL x) (h : ACalls P f [.agg [a, b, c, cvL std (rdL x)]] r) : ACalls P f [.agg [a, b, c, x]] r :=
  ac_args' (fun h D vs hr => rl_1 (fun v => val_R ho) hr) h
theorem ac_vv {P : Program} {f : FuncId} {a b c x a' b' c' x' r : AV} (ho : okL x) (ho' : okL x') (h : ACalls P f [.agg [a, b, c, cvL std (rdL x)], .agg [a', b', c', cvL std (rdL x')]] r) : ACalls P f [.agg [a, b, c, x], .agg [a', b', c', x']] r :=
  ac_args' (fun h D vs hr => rl_1 (fun v => val_R ho) (rl_2 (fun v => val_R ho') hr)) h
theorem list_R {h : Array Obj} {D : Nat → Prop} {μ : Mu} {x : AV} {v : Value} (ho : okL x) (r : R h D μ x v) : R h D μ (cvL std (rdL x)) v := cvL_R (okL_R x ho r)
theorem ac_l {P : Program} {f : FuncId} {x r : AV} {q : List AV} (ho : okL x) (h : ACalls P f (cvL std (rdL x) :: q) r) : ACalls P f (x :: q) r :=
  ac_args' (fun h D vs hr => rl_1 (fun v => list_R ho) hr) h
theorem ac_ll {P : Program} {f : FuncId} {x y r : AV} {q : List AV} (ho : okL x) (ho' : okL y) (h : ACalls P f (cvL std (rdL x) :: cvL std (rdL y) :: q) r) : ACalls P f (x :: y :: q) r :=
  ac_args' (fun h D vs hr => rl_1 (fun v => list_R ho) (rl_2 (fun v => list_R ho') hr)) h

/-! ### Deep -/
def deepA (L : Seal) (l : List CV) : Nat → St → Option Ann := fun id s => match id with
  | 0 => some ⟨Nat, fun i => [(12, .int .i64 (L natI i)), (3, .int .i64 (L2 L deepTo l i))], fun i => [], [10, 11], [],
      fun i => L2 L (fun (l : List CV) i => i ≤ l.length) l i, fun i => L2 L (fun (l : List CV) (i : Nat) => l.length - i) l i⟩
  | _ => none
def deep_s (N : Nat) (L : Seal) : Ent1 := (15, fun xs => match xs with
  | [.agg [.int .i64 k, .int .u64 n, .str s, x]] => some (L okL x ∧ L2 L szOk N (mkV L k n s x), .int .i64 (L deepV (mkV L k n s x)))
  | _ => none)
theorem deep_le : ∀ v, 0 ≤ deepV v ∧ deepV v ≤ (sizeC v : Int) := by
  refine cv_all fun k n s l ih => ?_
  have : ∀ m : List CV, (∀ v ∈ m, 0 ≤ deepV v ∧ deepV v ≤ (sizeC v : Int)) → 0 ≤ deepLs m ∧ deepLs m ≤ (sizeCs m : Int) := by
    intro m
    induction m with
    | nil => intro _; rw [deepLs, sizeCs_nil]; omega
    | cons v m ih =>
      intro h
      have h1 := h v (by simp)
      have h2 := ih fun w hw => h w (by simp [hw])
      rw [deepLs, sizeCs_cons]; omega
  have := this l ih
  rw [deepV, sizeC_mk]
  split <;> omega
theorem deepTo_le (l : List CV) (i : Nat) : 0 ≤ deepTo l i ∧ deepTo l i ≤ (sizeCs l : Int) := by
  have h1 : ∀ m : List CV, 0 ≤ deepLs m ∧ deepLs m ≤ (sizeCs m : Int) := by
    intro m
    induction m with
    | nil => rw [deepLs, sizeCs_nil]; omega
    | cons v m ih => have := deep_le v; rw [deepLs, sizeCs_cons]; omega
  have h2 := h1 (l.take i)
  have h3 : ∀ (m : List CV) (i : Nat), sizeCs (m.take i) ≤ sizeCs m := by
    intro m
    induction m with
    | nil => intro i; simp
    | cons v m ih =>
      intro i
      cases i with
      | zero => rw [List.take_zero, sizeCs_nil]; omega
      | succ i => have := ih i; rw [List.take_succ_cons, sizeCs_cons, sizeCs_cons]; omega
  have := h3 l i
  exact ⟨h2.1, by unfold deepTo; omega⟩
theorem deep_good : ∀ N, Good Try.prog (deep_s N std) := by
  intro N
  induction N with
  | zero =>
    intro xs p r h hp
    unfold deep_s at h
    simp only at h
    split at h
    · rename_i k n s x
      cases h
      have h1 : sizeC (mkV std k n s x) ≤ 0 := hp.2.1
      have := sizeC_pos (mkV std k n s x)
      omega
    · cases h
  | succ N ih =>
    intro xs p r h hp
    unfold deep_s at h
    simp only at h
    split at h
    · rename_i k n s x
      cases h
      obtain ⟨ho, hz⟩ := hp
      refine ac_v ho ?_
      show ACalls _ _ _ (.int .i64 (deepV (.mk k n s (rdL x))))
      have hz : szOk (N + 1) (.mk k n s (rdL x)) := hz
      generalize rdL x = l at hz ⊢
      refine acalls_L' (T := tt) (S := fun L => sumOf [deep_s N L]) (lo := fun L => deepA L l) (lb := noA) 5 (fn := Try.f15) (xs := fun L => [.agg [.int .i64 k, .int .u64 n, .str s, cvL L l]]) rfl rfl (by kernel_rfl) (by kernel_rfl) rfl tt_ok
        (sumOf_ok ⟨ih, trivial⟩) (by kernel_rfl) ?_
      intro L P' Q' hL hP hQ
      (cbv; try simp only [sat_need, sat_must, sat_ite, sat_done, sat_yes, sat_ex, sat_all, sat_sup, sat_and, sat_fail, true_and, and_true])
      refine ⟨fun h => ?_, fun h => ⟨⟨0, ?_⟩, fun i hi => ?_⟩⟩
      · (subst hL; subst hQ; simp only [L2, L3, std] at *; try simp only [sySet, reduceCtorEq, forall_const, Int.reduceToNat, Int.reduceAdd, Int.reduceSub, Int.cast_ofNat_Int, Int.toNat_natCast, Nat.le_eq, Nat.sub_eq, ne_eq, Decidable.not_not, implies_true, true_and, and_true, wadd, wsub, wmul, decide_eq_true_eq, decide_eq_false_iff_not, Nat.succ_eq_add_one, imp_false, not_false_eq_true, not_true_eq_false, false_imp_iff, true_imp_iff] at *)
        rw [deepV, if_neg h]
      · (cbv; try simp only [sat_need, sat_must, sat_ite, sat_done, sat_yes, sat_ex, sat_all, sat_sup, sat_and, sat_fail, true_and, and_true])
        (subst hL; subst hQ; simp only [L2, L3, std] at *; try simp only [sySet, reduceCtorEq, forall_const, Int.reduceToNat, Int.reduceAdd, Int.reduceSub, Int.cast_ofNat_Int, Int.toNat_natCast, Nat.le_eq, Nat.sub_eq, ne_eq, Decidable.not_not, implies_true, true_and, and_true, wadd, wsub, wmul, decide_eq_true_eq, decide_eq_false_iff_not, Nat.succ_eq_add_one, imp_false, not_false_eq_true, not_true_eq_false, false_imp_iff, true_imp_iff] at *)
        exact ⟨by rw [deepTo, List.take_zero, deepLs], Nat.zero_le _⟩
      · cbv at hi
        (cbv; try simp only [sat_need, sat_must, sat_ite, sat_done, sat_yes, sat_ex, sat_all, sat_sup, sat_and, sat_fail, true_and, and_true])
        refine ⟨fun hlt => ⟨?_, ⟨?_, ?_⟩, ⟨i + 1, ?_⟩⟩, fun hge => ?_⟩
        · (subst hL; subst hQ; simp only [L2, L3, std] at *; try simp only [sySet, reduceCtorEq, forall_const, Int.reduceToNat, Int.reduceAdd, Int.reduceSub, Int.cast_ofNat_Int, Int.toNat_natCast, Nat.le_eq, Nat.sub_eq, ne_eq, Decidable.not_not, implies_true, true_and, and_true, wadd, wsub, wmul, decide_eq_true_eq, decide_eq_false_iff_not, Nat.succ_eq_add_one, imp_false, not_false_eq_true, not_true_eq_false, false_imp_iff, true_imp_iff] at *)
          omega
        · (subst hL; subst hQ; simp only [L2, L3, std] at *; try simp only [sySet, reduceCtorEq, forall_const, Int.reduceToNat, Int.reduceAdd, Int.reduceSub, Int.cast_ofNat_Int, Int.toNat_natCast, Nat.le_eq, Nat.sub_eq, ne_eq, Decidable.not_not, implies_true, true_and, and_true, wadd, wsub, wmul, decide_eq_true_eq, decide_eq_false_iff_not, Nat.succ_eq_add_one, imp_false, not_false_eq_true, not_true_eq_false, false_imp_iff, true_imp_iff] at *)
          exact (rd_in _).2
        · (subst hL; subst hQ; simp only [L2, L3, std] at *; try simp only [sySet, reduceCtorEq, forall_const, Int.reduceToNat, Int.reduceAdd, Int.reduceSub, Int.cast_ofNat_Int, Int.toNat_natCast, Nat.le_eq, Nat.sub_eq, ne_eq, Decidable.not_not, implies_true, true_and, and_true, wadd, wsub, wmul, decide_eq_true_eq, decide_eq_false_iff_not, Nat.succ_eq_add_one, imp_false, not_false_eq_true, not_true_eq_false, false_imp_iff, true_imp_iff] at *)
          rw [mk_parts]
          rw [sizeC_mk_ok] at hz
          exact nth_sz hz.1 (by have : lenL l = l.length := rfl; omega)
        · (cbv; try simp only [sat_need, sat_must, sat_ite, sat_done, sat_yes, sat_ex, sat_all, sat_sup, sat_and, sat_fail, true_and, and_true])
          (subst hL; subst hQ; simp only [L2, L3, std] at *; try simp only [sySet, reduceCtorEq, forall_const, Int.reduceToNat, Int.reduceAdd, Int.reduceSub, Int.cast_ofNat_Int, Int.toNat_natCast, Nat.le_eq, Nat.sub_eq, ne_eq, Decidable.not_not, implies_true, true_and, and_true, wadd, wsub, wmul, decide_eq_true_eq, decide_eq_false_iff_not, Nat.succ_eq_add_one, imp_false, not_false_eq_true, not_true_eq_false, false_imp_iff, true_imp_iff] at *)
          have : lenL l = l.length := rfl
          have := len_sz l
          have h1 := hz.1
          have h2 := hz.2
          rw [sizeC_mk] at h1
          rw [mkV_parts]
          exact ⟨by rw [deepTo_succ (by omega)], by omega, by omega, by omega⟩
        · (subst hL; subst hQ; simp only [L2, L3, std] at *; try simp only [sySet, reduceCtorEq, forall_const, Int.reduceToNat, Int.reduceAdd, Int.reduceSub, Int.cast_ofNat_Int, Int.toNat_natCast, Nat.le_eq, Nat.sub_eq, ne_eq, Decidable.not_not, implies_true, true_and, and_true, wadd, wsub, wmul, decide_eq_true_eq, decide_eq_false_iff_not, Nat.succ_eq_add_one, imp_false, not_false_eq_true, not_true_eq_false, false_imp_iff, true_imp_iff] at *)
          have : lenL l = l.length := rfl
          have hil : i = l.length := by omega
          have h3 := deepTo_le l i
          have h1 := hz.1
          have h2 := hz.2
          rw [sizeC_mk] at h1
          rw [deepV, if_pos h, hil, deepTo, List.take_length]
          rw [hil, deepTo, List.take_length] at h3
          omega
    · cases h
end Sy
end Go.Proofs.Ythlggigjnpldcaa
namespace Go.Proofs.Ythlggigjnpldcaa
namespace Sy
open Go Go.RowKit
set_option maxRecDepth 100000
set_option linter.unusedSimpArgs false
set_option linter.unusedVariables false

/-! ### The document's Deep -/
def rdeepA (L : Seal) (l : List CV) : Nat → St → Option Ann := fun id s => match id with
  | 0 => some ⟨Nat, fun i => [(13, .int .i64 (L natI i)), (3, .int .i64 (L2 L deepTo l i))], fun i => [], [11, 12], [],
      fun i => L2 L (fun (l : List CV) i => i ≤ l.length) l i, fun i => L2 L (fun (l : List CV) (i : Nat) => l.length - i) l i⟩
  | _ => none
def rdeep_s (N : Nat) (L : Seal) : Ent1 := (16, fun xs => match xs with
  | [.agg [.int .i64 k, .int .u64 n, .str s, x]] => some (L okL x ∧ L2 L szOk N (mkV L k n s x), .int .i64 (L deepV (mkV L k n s x)))
  | _ => none)
theorem rdeep_good : ∀ N, Good Try.prog (rdeep_s N std) := by
  intro N
  induction N with
  | zero =>
    intro xs p r h hp
    unfold rdeep_s at h
    simp only at h
    split at h
    · rename_i k n s x
      cases h
      have h1 : sizeC (mkV std k n s x) ≤ 0 := hp.2.1
      have := sizeC_pos (mkV std k n s x)
      omega
    · cases h
  | succ N ih =>
    intro xs p r h hp
    unfold rdeep_s at h
    simp only at h
    split at h
    rotate_left
    · cases h
    rename_i k n s x
    cases h
    obtain ⟨ho, hz⟩ := hp
    refine ac_v ho ?_
    rw [show mkV std k n s x = .mk k n s (rdL x) from rfl] at hz ⊢
    generalize rdL x = l at hz ⊢
    have hz : szOk (N + 1) (.mk k n s l) := hz
    refine acalls_L' (T := tt) (S := fun L => sumOf [rdeep_s N L]) (lo := fun L => rdeepA L l) (lb := noA) 5 (fn := Try.f16) (xs := fun L => [.agg [.int .i64 k, .int .u64 n, .str s, cvL L l]]) rfl rfl (by kernel_rfl) (by kernel_rfl) rfl tt_ok
      (sumOf_ok ⟨ih, trivial⟩) (by kernel_rfl) ?_
    intro L P' Q' hL hP hQ
    (cbv; try simp only [sat_need, sat_must, sat_ite, sat_done, sat_yes, sat_ex, sat_all, sat_sup, sat_and, sat_fail, true_and, and_true])
    refine ⟨fun h => ?_, fun h => ⟨⟨0, ?_⟩, fun i hi => ?_⟩⟩
    · (subst hL; subst hQ; simp only [L2, L3, std] at *; try simp only [sySet, reduceCtorEq, forall_const, Int.reduceToNat, Int.reduceAdd, Int.reduceSub, Int.cast_ofNat_Int, Int.toNat_natCast, Nat.le_eq, Nat.sub_eq, ne_eq, Decidable.not_not, implies_true, true_and, and_true, wadd, wsub, wmul, decide_eq_true_eq, decide_eq_false_iff_not, Nat.succ_eq_add_one, imp_false, not_false_eq_true, not_true_eq_false, false_imp_iff, true_imp_iff] at *)
      rw [deepV, if_neg h]
    · (cbv; try simp only [sat_need, sat_must, sat_ite, sat_done, sat_yes, sat_ex, sat_all, sat_sup, sat_and, sat_fail, true_and, and_true])
      (subst hL; subst hQ; simp only [L2, L3, std] at *; try simp only [sySet, reduceCtorEq, forall_const, Int.reduceToNat, Int.reduceAdd, Int.reduceSub, Int.cast_ofNat_Int, Int.toNat_natCast, Nat.le_eq, Nat.sub_eq, ne_eq, Decidable.not_not, implies_true, true_and, and_true, wadd, wsub, wmul, decide_eq_true_eq, decide_eq_false_iff_not, Nat.succ_eq_add_one, imp_false, not_false_eq_true, not_true_eq_false, false_imp_iff, true_imp_iff] at *)
      exact ⟨by rw [deepTo, List.take_zero, deepLs], Nat.zero_le _⟩
    · cbv at hi
      (cbv; try simp only [sat_need, sat_must, sat_ite, sat_done, sat_yes, sat_ex, sat_all, sat_sup, sat_and, sat_fail, true_and, and_true])
      refine ⟨fun hlt => ⟨?_, ⟨?_, ?_⟩, fun hgt => ⟨i + 1, ?_⟩, fun hgt => ⟨i + 1, ?_⟩⟩, fun hge => ?_⟩
      · (subst hL; subst hQ; simp only [L2, L3, std] at *; try simp only [sySet, reduceCtorEq, forall_const, Int.reduceToNat, Int.reduceAdd, Int.reduceSub, Int.cast_ofNat_Int, Int.toNat_natCast, Nat.le_eq, Nat.sub_eq, ne_eq, Decidable.not_not, implies_true, true_and, and_true, wadd, wsub, wmul, decide_eq_true_eq, decide_eq_false_iff_not, Nat.succ_eq_add_one, imp_false, not_false_eq_true, not_true_eq_false, false_imp_iff, true_imp_iff] at *)
        omega
      · (subst hL; subst hQ; simp only [L2, L3, std] at *; try simp only [sySet, reduceCtorEq, forall_const, Int.reduceToNat, Int.reduceAdd, Int.reduceSub, Int.cast_ofNat_Int, Int.toNat_natCast, Nat.le_eq, Nat.sub_eq, ne_eq, Decidable.not_not, implies_true, true_and, and_true, wadd, wsub, wmul, decide_eq_true_eq, decide_eq_false_iff_not, Nat.succ_eq_add_one, imp_false, not_false_eq_true, not_true_eq_false, false_imp_iff, true_imp_iff] at *)
        exact (rd_in _).2
      · (subst hL; subst hQ; simp only [L2, L3, std] at *; try simp only [sySet, reduceCtorEq, forall_const, Int.reduceToNat, Int.reduceAdd, Int.reduceSub, Int.cast_ofNat_Int, Int.toNat_natCast, Nat.le_eq, Nat.sub_eq, ne_eq, Decidable.not_not, implies_true, true_and, and_true, wadd, wsub, wmul, decide_eq_true_eq, decide_eq_false_iff_not, Nat.succ_eq_add_one, imp_false, not_false_eq_true, not_true_eq_false, false_imp_iff, true_imp_iff] at *)
        rw [mk_parts]
        rw [sizeC_mk_ok] at hz
        exact nth_sz hz.1 (by have : lenL l = l.length := rfl; omega)
      · (cbv; try simp only [sat_need, sat_must, sat_ite, sat_done, sat_yes, sat_ex, sat_all, sat_sup, sat_and, sat_fail, true_and, and_true])
        (subst hL; subst hQ; simp only [L2, L3, std] at *; try simp only [sySet, reduceCtorEq, forall_const, Int.reduceToNat, Int.reduceAdd, Int.reduceSub, Int.cast_ofNat_Int, Int.toNat_natCast, Nat.le_eq, Nat.sub_eq, ne_eq, Decidable.not_not, implies_true, true_and, and_true, wadd, wsub, wmul, decide_eq_true_eq, decide_eq_false_iff_not, Nat.succ_eq_add_one, imp_false, not_false_eq_true, not_true_eq_false, false_imp_iff, true_imp_iff] at *)
        have : lenL l = l.length := rfl
        have := len_sz l
        have h1 := hz.1
        have h2 := hz.2
        rw [sizeC_mk] at h1
        rw [mkV_parts] at hgt ⊢
        exact ⟨by rw [deepTo_succ (by omega)]; omega, by omega, by omega, by omega⟩
      · (cbv; try simp only [sat_need, sat_must, sat_ite, sat_done, sat_yes, sat_ex, sat_all, sat_sup, sat_and, sat_fail, true_and, and_true])
        (subst hL; subst hQ; simp only [L2, L3, std] at *; try simp only [sySet, reduceCtorEq, forall_const, Int.reduceToNat, Int.reduceAdd, Int.reduceSub, Int.cast_ofNat_Int, Int.toNat_natCast, Nat.le_eq, Nat.sub_eq, ne_eq, Decidable.not_not, implies_true, true_and, and_true, wadd, wsub, wmul, decide_eq_true_eq, decide_eq_false_iff_not, Nat.succ_eq_add_one, imp_false, not_false_eq_true, not_true_eq_false, false_imp_iff, true_imp_iff] at *)
        have : lenL l = l.length := rfl
        have := len_sz l
        have h1 := hz.1
        have h2 := hz.2
        rw [sizeC_mk] at h1
        rw [mkV_parts] at hgt
        exact ⟨by rw [deepTo_succ (by omega)]; omega, by omega, by omega, by omega⟩
      · (subst hL; subst hQ; simp only [L2, L3, std] at *; try simp only [sySet, reduceCtorEq, forall_const, Int.reduceToNat, Int.reduceAdd, Int.reduceSub, Int.cast_ofNat_Int, Int.toNat_natCast, Nat.le_eq, Nat.sub_eq, ne_eq, Decidable.not_not, implies_true, true_and, and_true, wadd, wsub, wmul, decide_eq_true_eq, decide_eq_false_iff_not, Nat.succ_eq_add_one, imp_false, not_false_eq_true, not_true_eq_false, false_imp_iff, true_imp_iff] at *)
        have : lenL l = l.length := rfl
        have hil : i = l.length := by omega
        have h3 := deepTo_le l i
        have h1 := hz.1
        have h2 := hz.2
        rw [sizeC_mk] at h1
        rw [deepV, if_pos h, hil, deepTo, List.take_length]
        rw [hil, deepTo, List.take_length] at h3
        omega

/-! ### bare -/
theorem bareLs_all : ∀ l : List CV, bareLs l = true ↔ ∀ i, i < l.length → bareV (nthV l i) = true
  | [] => by rw [bareLs]; simp
  | v :: l => by
    rw [bareLs, Bool.and_eq_true, bareLs_all l]
    refine ⟨fun ⟨h1, h2⟩ i hi => ?_, fun h => ⟨h 0 (by simp), fun i hi => h (i + 1) (by simpa using hi)⟩⟩
    cases i with
    | zero => exact h1
    | succ i => exact h2 i (by simpa using hi)
/-- The first that isn't bare. -/
def idxB (l : List CV) : Int := if bareLs l = true then -1 else (l.findIdx fun v => !bareV v : Nat)
def bareTo (l : List CV) (i : Nat) : Prop := i ≤ l.length ∧ ∀ j, j < i → bareV (nthV l j) = true
theorem idxB_at {l : List CV} {i : Nat} (hi : i < l.length) (h : ∀ j, j < i → bareV (nthV l j) = true) (hn : bareV (nthV l i) = false) : idxB l = (i : Int) := by
  have hb : ¬ bareLs l = true := by
    rw [bareLs_all]
    intro h2
    have := h2 i hi
    rw [hn] at this; cases this
  rw [idxB, if_neg hb]
  congr 1
  rw [List.findIdx_eq hi]
  have get : ∀ (j : Nat) (hj : j < l.length), l[j] = nthV l j := by
    intro j hj
    rw [nthV, List.getD_eq_getElem?_getD, List.getElem?_eq_getElem hj]; rfl
  refine ⟨by rw [get i hi, hn]; rfl, fun j hj => ?_⟩
  have hj' := h j hj
  rw [get j (by omega), hj']; rfl
theorem idxB_neg {l : List CV} (h : ∀ j, j < l.length → bareV (nthV l j) = true) : idxB l = -1 := by rw [idxB, if_pos ((bareLs_all l).2 h)]
theorem idxB_ge (l : List CV) : (0 ≤ idxB l) = (bareLs l = false) := by
  unfold idxB
  split
  · rename_i h; rw [h]; simp
  · rename_i h; simp at h; rw [h]; simp
def b1_s (N : Nat) (L : Seal) : Ent1 := (82, fun xs => match xs with
  | [.agg [.int .i64 k, .int .u64 n, .str s, x]] => some (L okL x ∧ L2 L szOk N (mkV L k n s x), .bool (L not (L bareV (mkV L k n s x))))
  | _ => none)
def if_s (N : Nat) (L : Seal) : Ent1 := (103, fun xs => match xs with
  | [x, .fn 82 [] []] => some (L okL x ∧ L2 L szOks N (L rdL x), .int .i64 (L idxB (L rdL x)))
  | _ => none)
def cf_s (N : Nat) (L : Seal) : Ent1 := (81, fun xs => match xs with
  | [x, .fn 82 [] []] => some (L okL x ∧ L2 L szOks N (L rdL x), .bool (L not (L bareLs (L rdL x))))
  | _ => none)
def bare_s (N : Nat) (L : Seal) : Ent1 := (47, fun xs => match xs with
  | [.agg [.int .i64 k, .int .u64 n, .str s, x]] => some (L okL x ∧ L2 L szOk N (mkV L k n s x), .bool (L bareV (mkV L k n s x)))
  | _ => none)
theorem lenL0 (l : List CV) : ieq ((lenL l : Nat) : Int) 0 = l.isEmpty := by
  cases l with
  | nil => rfl
  | cons v l =>
    simp [lenL, ieq]
    omega
theorem ile_f' (a b : Int) : (ile a b = false) = ¬ a ≤ b := by simp [ile]
theorem b1_of {N : Nat} (ih : Good Try.prog (bare_s N std)) : Good Try.prog (b1_s N std) := by
  intro xs p r h hp
  unfold b1_s at h
  simp only at h
  split at h
  rotate_left
  · cases h
  rename_i k n s x
  cases h
  obtain ⟨ho, hz⟩ := hp
  refine ac_v ho ?_
  rw [show mkV std k n s x = .mk k n s (rdL x) from rfl] at hz ⊢
  generalize rdL x = l at hz ⊢
  have hz : szOk N (.mk k n s l) := hz
  refine acalls_L' (xs := fun L => [.agg [.int .i64 k, .int .u64 n, .str s, cvL L l]]) (T := tt) (S := fun L => sumOf [bare_s N L]) (lo := noA) (lb := noA) 5 (fn := Try.f82) rfl rfl (by kernel_rfl) (by kernel_rfl) rfl tt_ok (sumOf_ok ⟨ih, trivial⟩) (by kernel_rfl) ?_
  intro L P' Q' hL hP hQ
  (cbv; try simp only [sat_need, sat_must, sat_ite, sat_done, sat_yes, sat_ex, sat_all, sat_sup, sat_and, sat_fail, true_and, and_true])
  (subst hL; subst hQ; simp only [L2, L3, std] at *; try simp only [sySet, reduceCtorEq, forall_const, Int.reduceToNat, Int.reduceAdd, Int.reduceSub, Int.cast_ofNat_Int, Int.toNat_natCast, Nat.le_eq, Nat.sub_eq, ne_eq, Decidable.not_not, implies_true, true_and, and_true, wadd, wsub, wmul, decide_eq_true_eq, decide_eq_false_iff_not, Nat.succ_eq_add_one, imp_false, not_false_eq_true, not_true_eq_false, false_imp_iff, true_imp_iff] at *)
  rw [rdl, mkl]
  exact ⟨⟨okl l, hz⟩, rfl⟩
def ifA (L : Seal) (l : List CV) : Nat → St → Option Ann := fun id s => match id with
  | 0 => some ⟨Nat, fun i => [(8, .int .i64 (L natI i))], fun i => [], [0, 1, 6, 7], [],
      fun i => L2 L bareTo l i, fun i => L2 L (fun (l : List CV) (i : Nat) => l.length - i) l i⟩
  | _ => none
theorem if_of {N : Nat} (ih : Good Try.prog (b1_s N std)) : Good Try.prog (if_s N std) := by
  intro xs p r h hp
  unfold if_s at h
  simp only at h
  split at h
  rotate_left
  · cases h
  rename_i x
  cases h
  obtain ⟨ho, hz⟩ := hp
  refine ac_l ho ?_
  have hz : szOks N (rdL x) := hz
  show ACalls _ _ _ (.int .i64 (idxB (rdL x)))
  generalize rdL x = l at hz ⊢
  refine acalls_L' (T := tt) (S := fun L => sumOf [b1_s N L]) (lo := fun L => ifA L l) (lb := noA) 5 (fn := Try.f103) (xs := fun L => [cvL L l, .fn 82 [] []]) rfl rfl (by kernel_rfl) (by kernel_rfl) rfl tt_ok
    (sumOf_ok ⟨ih, trivial⟩) (by kernel_rfl) ?_
  intro L P' Q' hL hP hQ
  (cbv; try simp only [sat_need, sat_must, sat_ite, sat_done, sat_yes, sat_ex, sat_all, sat_sup, sat_and, sat_fail, true_and, and_true])
  refine ⟨⟨0, ?_⟩, fun i hi => ?_⟩
  · (cbv; try simp only [sat_need, sat_must, sat_ite, sat_done, sat_yes, sat_ex, sat_all, sat_sup, sat_and, sat_fail, true_and, and_true])
    (subst hL; subst hQ; simp only [L2, L3, std] at *; try simp only [sySet, reduceCtorEq, forall_const, Int.reduceToNat, Int.reduceAdd, Int.reduceSub, Int.cast_ofNat_Int, Int.toNat_natCast, Nat.le_eq, Nat.sub_eq, ne_eq, Decidable.not_not, implies_true, true_and, and_true, wadd, wsub, wmul, decide_eq_true_eq, decide_eq_false_iff_not, Nat.succ_eq_add_one, imp_false, not_false_eq_true, not_true_eq_false, false_imp_iff, true_imp_iff] at *)
    exact ⟨Nat.zero_le _, fun j hj => by omega⟩
  · cbv at hi
    (cbv; try simp only [sat_need, sat_must, sat_ite, sat_done, sat_yes, sat_ex, sat_all, sat_sup, sat_and, sat_fail, true_and, and_true])
    refine ⟨fun hlt => ⟨?_, ⟨?_, ?_⟩, fun hb => ?_, fun hb => ⟨i + 1, ?_⟩⟩, fun hge => ?_⟩
    · (subst hL; subst hQ; simp only [L2, L3, std] at *; try simp only [sySet, reduceCtorEq, forall_const, Int.reduceToNat, Int.reduceAdd, Int.reduceSub, Int.cast_ofNat_Int, Int.toNat_natCast, Nat.le_eq, Nat.sub_eq, ne_eq, Decidable.not_not, implies_true, true_and, and_true, wadd, wsub, wmul, decide_eq_true_eq, decide_eq_false_iff_not, Nat.succ_eq_add_one, imp_false, not_false_eq_true, not_true_eq_false, false_imp_iff, true_imp_iff] at *)
      omega
    · (subst hL; subst hQ; simp only [L2, L3, std] at *; try simp only [sySet, reduceCtorEq, forall_const, Int.reduceToNat, Int.reduceAdd, Int.reduceSub, Int.cast_ofNat_Int, Int.toNat_natCast, Nat.le_eq, Nat.sub_eq, ne_eq, Decidable.not_not, implies_true, true_and, and_true, wadd, wsub, wmul, decide_eq_true_eq, decide_eq_false_iff_not, Nat.succ_eq_add_one, imp_false, not_false_eq_true, not_true_eq_false, false_imp_iff, true_imp_iff] at *)
      exact (rd_in _).2
    · (subst hL; subst hQ; simp only [L2, L3, std] at *; try simp only [sySet, reduceCtorEq, forall_const, Int.reduceToNat, Int.reduceAdd, Int.reduceSub, Int.cast_ofNat_Int, Int.toNat_natCast, Nat.le_eq, Nat.sub_eq, ne_eq, Decidable.not_not, implies_true, true_and, and_true, wadd, wsub, wmul, decide_eq_true_eq, decide_eq_false_iff_not, Nat.succ_eq_add_one, imp_false, not_false_eq_true, not_true_eq_false, false_imp_iff, true_imp_iff] at *)
      rw [mk_parts]
      exact nth_sz hz (by have : lenL l = l.length := rfl; omega)
    · (subst hL; subst hQ; simp only [L2, L3, std] at *; try simp only [sySet, reduceCtorEq, forall_const, Int.reduceToNat, Int.reduceAdd, Int.reduceSub, Int.cast_ofNat_Int, Int.toNat_natCast, Nat.le_eq, Nat.sub_eq, ne_eq, Decidable.not_not, implies_true, true_and, and_true, wadd, wsub, wmul, decide_eq_true_eq, decide_eq_false_iff_not, Nat.succ_eq_add_one, imp_false, not_false_eq_true, not_true_eq_false, false_imp_iff, true_imp_iff] at *)
      rw [mkV_parts] at hb
      exact (idxB_at (by have : lenL l = l.length := rfl; omega) hi.2 hb).symm
    · (cbv; try simp only [sat_need, sat_must, sat_ite, sat_done, sat_yes, sat_ex, sat_all, sat_sup, sat_and, sat_fail, true_and, and_true])
      (subst hL; subst hQ; simp only [L2, L3, std] at *; try simp only [sySet, reduceCtorEq, forall_const, Int.reduceToNat, Int.reduceAdd, Int.reduceSub, Int.cast_ofNat_Int, Int.toNat_natCast, Nat.le_eq, Nat.sub_eq, ne_eq, Decidable.not_not, implies_true, true_and, and_true, wadd, wsub, wmul, decide_eq_true_eq, decide_eq_false_iff_not, Nat.succ_eq_add_one, imp_false, not_false_eq_true, not_true_eq_false, false_imp_iff, true_imp_iff] at *)
      rw [mkV_parts] at hb
      have : lenL l = l.length := rfl
      have := len_sz l
      have h1 := hz.1
      have h2 := hz.2
      refine ⟨by omega, ⟨by omega, fun j hj => ?_⟩, by omega⟩
      by_cases e : j = i
      · rw [e]; exact hb
      · exact hi.2 j (by omega)
    · (subst hL; subst hQ; simp only [L2, L3, std] at *; try simp only [sySet, reduceCtorEq, forall_const, Int.reduceToNat, Int.reduceAdd, Int.reduceSub, Int.cast_ofNat_Int, Int.toNat_natCast, Nat.le_eq, Nat.sub_eq, ne_eq, Decidable.not_not, implies_true, true_and, and_true, wadd, wsub, wmul, decide_eq_true_eq, decide_eq_false_iff_not, Nat.succ_eq_add_one, imp_false, not_false_eq_true, not_true_eq_false, false_imp_iff, true_imp_iff] at *)
      have : lenL l = l.length := rfl
      exact (idxB_neg fun j hj => hi.2 j (by omega)).symm
theorem cf_of {N : Nat} (ih : Good Try.prog (if_s N std)) : Good Try.prog (cf_s N std) := by
  intro xs p r h hp
  unfold cf_s at h
  simp only at h
  split at h
  rotate_left
  · cases h
  rename_i x
  cases h
  obtain ⟨ho, hz⟩ := hp
  refine ac_l ho ?_
  have hz : szOks N (rdL x) := hz
  show ACalls _ _ _ (.bool (not (bareLs (rdL x))))
  generalize rdL x = l at hz ⊢
  refine acalls_L' (xs := fun L => [cvL L l, .fn 82 [] []]) (T := tt) (S := fun L => sumOf [if_s N L]) (lo := noA) (lb := noA) 5 (fn := Try.f81) rfl rfl (by kernel_rfl) (by kernel_rfl) rfl tt_ok (sumOf_ok ⟨ih, trivial⟩) (by kernel_rfl) ?_
  intro L P' Q' hL hP hQ
  (cbv; try simp only [sat_need, sat_must, sat_ite, sat_done, sat_yes, sat_ex, sat_all, sat_sup, sat_and, sat_fail, true_and, and_true])
  (subst hL; subst hQ; simp only [L2, L3, std] at *; try simp only [sySet, reduceCtorEq, forall_const, Int.reduceToNat, Int.reduceAdd, Int.reduceSub, Int.cast_ofNat_Int, Int.toNat_natCast, Nat.le_eq, Nat.sub_eq, ne_eq, Decidable.not_not, implies_true, true_and, and_true, wadd, wsub, wmul, decide_eq_true_eq, decide_eq_false_iff_not, Nat.succ_eq_add_one, imp_false, not_false_eq_true, not_true_eq_false, false_imp_iff, true_imp_iff] at *)
  rw [rdl]
  refine ⟨⟨okl l, hz⟩, ?_⟩
  have := idxB_ge l
  cases hb : bareLs l with
  | true =>
    rw [hb] at this
    simp only [Bool.true_eq_false, eq_iff_iff, iff_false] at this
    have h : ile 0 (idxB l) = false := by rw [ile_f']; exact this
    rw [h]; rfl
  | false =>
    rw [hb] at this
    simp only [eq_iff_iff, iff_true] at this
    simpa [ile] using this
theorem bare_good : ∀ N, Good Try.prog (bare_s N std) := by
  intro N
  induction N with
  | zero =>
    intro xs p r h hp
    unfold bare_s at h
    simp only at h
    split at h
    · rename_i k n s x
      cases h
      have h1 : sizeC (mkV std k n s x) ≤ 0 := hp.2.1
      have := sizeC_pos (mkV std k n s x)
      omega
    · cases h
  | succ N ih =>
    intro xs p r h hp
    unfold bare_s at h
    simp only at h
    split at h
    rotate_left
    · cases h
    rename_i k n s x
    cases h
    obtain ⟨ho, hz⟩ := hp
    refine ac_v ho ?_
    rw [show mkV std k n s x = .mk k n s (rdL x) from rfl] at hz ⊢
    generalize rdL x = l at hz ⊢
    have hz : szOk (N + 1) (.mk k n s l) := hz
    refine acalls_L' (T := tt) (S := fun L => sumOf [cf_s N L]) (lo := noA) (lb := noA) 5 (fn := Try.f47) (xs := fun L => [.agg [.int .i64 k, .int .u64 n, .str s, cvL L l]]) rfl rfl (by kernel_rfl) (by kernel_rfl) rfl tt_ok
      (sumOf_ok ⟨cf_of (if_of (b1_of ih)), trivial⟩) (by kernel_rfl) ?_
    intro L P' Q' hL hP hQ
    (cbv; try simp only [sat_need, sat_must, sat_ite, sat_done, sat_yes, sat_ex, sat_all, sat_sup, sat_and, sat_fail, true_and, and_true])
    (subst hL; subst hQ; simp only [L2, L3, std] at *; try simp only [sySet, reduceCtorEq, forall_const, Int.reduceToNat, Int.reduceAdd, Int.reduceSub, Int.cast_ofNat_Int, Int.toNat_natCast, Nat.le_eq, Nat.sub_eq, ne_eq, Decidable.not_not, implies_true, true_and, and_true, wadd, wsub, wmul, decide_eq_true_eq, decide_eq_false_iff_not, Nat.succ_eq_add_one, imp_false, not_false_eq_true, not_true_eq_false, false_imp_iff, true_imp_iff] at *)
    simp only [rdl, lenL0]
    rw [sizeC_mk_ok] at hz
    rw [bareV]
    by_cases h1 : k = 1
    · simp [h1]
      exact ⟨fun a _ => a, fun a b => absurd b a⟩
    · by_cases h2 : k = 2
      · simp [h2]
        exact ⟨fun a _ => a, fun a b => absurd b a⟩
      · by_cases h3 : k = 3
        · simp [h3]
          refine ⟨fun h4 => ⟨fun h5 => ⟨⟨okl l, hz.1⟩, by simp [h4, h5]⟩, fun h5 => by simp [h5]⟩, fun h4 => by simp [h4]⟩
        · simp [h1, h2, h3]
end Sy
end Go.Proofs.Ythlggigjnpldcaa
namespace Go.Proofs.Ythlggigjnpldcaa
namespace Sy
open Go Go.RowKit
set_option maxRecDepth 100000
set_option linter.unusedSimpArgs false
set_option linter.unusedVariables false

theorem sameLs_iff : ∀ a b : List CV, sameLs a b = true ↔ a.length = b.length ∧ ∀ i, i < a.length → sameV (nthV a i) (nthV b i) = true
  | [], b => by rw [sameLs]; cases b <;> simp
  | v :: a, [] => by rw [sameLs]; simp
  | v :: a, w :: b => by
    rw [sameLs, Bool.and_eq_true, sameLs_iff a b]
    simp only [List.length_cons]
    refine ⟨fun ⟨h1, h2, h3⟩ => ⟨by omega, fun i hi => ?_⟩, fun ⟨h1, h2⟩ => ⟨h2 0 (by omega), by omega, fun i hi => h2 (i + 1) (by omega)⟩⟩
    cases i with
    | zero => exact h1
    | succ i => exact h3 i (by omega)
def sameTo (a b : List CV) (i : Nat) : Prop := i ≤ a.length ∧ a.length = b.length ∧ ∀ j, j < i → sameV (nthV a j) (nthV b j) = true
theorem sameLs_no {a b : List CV} {i : Nat} (hi : i < a.length) (h : sameV (nthV a i) (nthV b i) = false) : sameLs a b = false := by
  cases e : sameLs a b with
  | false => rfl
  | true => rw [((sameLs_iff a b).1 e).2 i hi] at h; cases h
def eqv_s (N : Nat) (L : Seal) : Ent1 := (53, fun xs => match xs with
  | [x, y, .fn 17 [] []] => some (L okL x ∧ L okL y ∧ L2 L szOks N (L rdL x), .bool (L2 L sameLs (L rdL x) (L rdL y)))
  | _ => none)
def same_s (N : Nat) (L : Seal) : Ent1 := (17, fun xs => match xs with
  | [.agg [.int .i64 k, .int .u64 n, .str s, x], .agg [.int .i64 k', .int .u64 n', .str s', y]] => some (L okL x ∧ L okL y ∧ L2 L szOk N (mkV L k n s x), .bool (L2 L sameV (mkV L k n s x) (mkV L k' n' s' y)))
  | _ => none)
def rsame_s (N : Nat) (L : Seal) : Ent1 := (18, fun xs => match xs with
  | [.agg [.int .i64 k, .int .u64 n, .str s, x], .agg [.int .i64 k', .int .u64 n', .str s', y]] => some (L okL x ∧ L okL y ∧ L2 L szOk N (mkV L k n s x), .bool (L2 L sameV (mkV L k n s x) (mkV L k' n' s' y)))
  | _ => none)
def eqvA (L : Seal) (l m : List CV) : Nat → St → Option Ann := fun id s => match id with
  | 0 => some ⟨Nat, fun i => [(17, .int .i64 (L natI i))], fun i => [], [1, 2, 15, 16], [],
      fun i => L3 L sameTo l m i, fun i => L2 L (fun (l : List CV) (i : Nat) => l.length - i) l i⟩
  | _ => none
theorem eqv_of {N : Nat} (ih : Good Try.prog (same_s N std)) : Good Try.prog (eqv_s N std) := by
  intro xs p r h hp
  unfold eqv_s at h
  simp only at h
  split at h
  rotate_left
  · cases h
  rename_i x y
  cases h
  obtain ⟨ho, ho', hz⟩ := hp
  refine ac_ll ho ho' ?_
  have hz : szOks N (rdL x) := hz
  show ACalls _ _ _ (.bool (sameLs (rdL x) (rdL y)))
  generalize rdL x = l at hz ⊢
  generalize rdL y = m
  refine acalls_L' (T := tt) (S := fun L => sumOf [same_s N L]) (lo := fun L => eqvA L l m) (lb := noA) 5 (fn := Try.f53) (xs := fun L => [cvL L l, cvL L m, .fn 17 [] []]) rfl rfl (by kernel_rfl) (by kernel_rfl) rfl tt_ok
    (sumOf_ok ⟨ih, trivial⟩) (by kernel_rfl) ?_
  intro L P' Q' hL hP hQ
  (cbv; try simp only [sat_need, sat_must, sat_ite, sat_done, sat_yes, sat_ex, sat_all, sat_sup, sat_and, sat_fail, true_and, and_true])
  refine ⟨fun hne => ?_, fun heq => ⟨⟨0, ?_⟩, fun i hi => ?_⟩⟩
  · (subst hL; subst hQ; simp only [L2, L3, std] at *; try simp only [sySet, reduceCtorEq, forall_const, Int.reduceToNat, Int.reduceAdd, Int.reduceSub, Int.cast_ofNat_Int, Int.toNat_natCast, Nat.le_eq, Nat.sub_eq, ne_eq, Decidable.not_not, implies_true, true_and, and_true, wadd, wsub, wmul, decide_eq_true_eq, decide_eq_false_iff_not, Nat.succ_eq_add_one, imp_false, not_false_eq_true, not_true_eq_false, false_imp_iff, true_imp_iff] at *)
    cases e : sameLs l m with
    | false => rfl
    | true => exact absurd (by rw [show lenL l = l.length from rfl, show lenL m = m.length from rfl, ((sameLs_iff l m).1 e).1]) hne
  · (cbv; try simp only [sat_need, sat_must, sat_ite, sat_done, sat_yes, sat_ex, sat_all, sat_sup, sat_and, sat_fail, true_and, and_true])
    (subst hL; subst hQ; simp only [L2, L3, std] at *; try simp only [sySet, reduceCtorEq, forall_const, Int.reduceToNat, Int.reduceAdd, Int.reduceSub, Int.cast_ofNat_Int, Int.toNat_natCast, Nat.le_eq, Nat.sub_eq, ne_eq, Decidable.not_not, implies_true, true_and, and_true, wadd, wsub, wmul, decide_eq_true_eq, decide_eq_false_iff_not, Nat.succ_eq_add_one, imp_false, not_false_eq_true, not_true_eq_false, false_imp_iff, true_imp_iff] at *)
    exact ⟨Nat.zero_le _, by have : lenL l = l.length := rfl; have : lenL m = m.length := rfl; omega, fun j hj => by omega⟩
  · cbv at hi
    (cbv; try simp only [sat_need, sat_must, sat_ite, sat_done, sat_yes, sat_ex, sat_all, sat_sup, sat_and, sat_fail, true_and, and_true])
    refine ⟨fun hlt => ⟨?_, ?_, ⟨?_, ?_, ?_⟩, fun hb => ?_, fun hb => ⟨i + 1, ?_⟩⟩, fun hge => ?_⟩
    · (subst hL; subst hQ; simp only [L2, L3, std] at *; try simp only [sySet, reduceCtorEq, forall_const, Int.reduceToNat, Int.reduceAdd, Int.reduceSub, Int.cast_ofNat_Int, Int.toNat_natCast, Nat.le_eq, Nat.sub_eq, ne_eq, Decidable.not_not, implies_true, true_and, and_true, wadd, wsub, wmul, decide_eq_true_eq, decide_eq_false_iff_not, Nat.succ_eq_add_one, imp_false, not_false_eq_true, not_true_eq_false, false_imp_iff, true_imp_iff] at *)
      omega
    · (subst hL; subst hQ; simp only [L2, L3, std] at *; try simp only [sySet, reduceCtorEq, forall_const, Int.reduceToNat, Int.reduceAdd, Int.reduceSub, Int.cast_ofNat_Int, Int.toNat_natCast, Nat.le_eq, Nat.sub_eq, ne_eq, Decidable.not_not, implies_true, true_and, and_true, wadd, wsub, wmul, decide_eq_true_eq, decide_eq_false_iff_not, Nat.succ_eq_add_one, imp_false, not_false_eq_true, not_true_eq_false, false_imp_iff, true_imp_iff] at *)
      have : lenL l = l.length := rfl
      have : lenL m = m.length := rfl
      omega
    · (subst hL; subst hQ; simp only [L2, L3, std] at *; try simp only [sySet, reduceCtorEq, forall_const, Int.reduceToNat, Int.reduceAdd, Int.reduceSub, Int.cast_ofNat_Int, Int.toNat_natCast, Nat.le_eq, Nat.sub_eq, ne_eq, Decidable.not_not, implies_true, true_and, and_true, wadd, wsub, wmul, decide_eq_true_eq, decide_eq_false_iff_not, Nat.succ_eq_add_one, imp_false, not_false_eq_true, not_true_eq_false, false_imp_iff, true_imp_iff] at *)
      exact (rd_in _).2
    · (subst hL; subst hQ; simp only [L2, L3, std] at *; try simp only [sySet, reduceCtorEq, forall_const, Int.reduceToNat, Int.reduceAdd, Int.reduceSub, Int.cast_ofNat_Int, Int.toNat_natCast, Nat.le_eq, Nat.sub_eq, ne_eq, Decidable.not_not, implies_true, true_and, and_true, wadd, wsub, wmul, decide_eq_true_eq, decide_eq_false_iff_not, Nat.succ_eq_add_one, imp_false, not_false_eq_true, not_true_eq_false, false_imp_iff, true_imp_iff] at *)
      exact (rd_in _).2
    · (subst hL; subst hQ; simp only [L2, L3, std] at *; try simp only [sySet, reduceCtorEq, forall_const, Int.reduceToNat, Int.reduceAdd, Int.reduceSub, Int.cast_ofNat_Int, Int.toNat_natCast, Nat.le_eq, Nat.sub_eq, ne_eq, Decidable.not_not, implies_true, true_and, and_true, wadd, wsub, wmul, decide_eq_true_eq, decide_eq_false_iff_not, Nat.succ_eq_add_one, imp_false, not_false_eq_true, not_true_eq_false, false_imp_iff, true_imp_iff] at *)
      rw [mk_parts]
      exact nth_sz hz (by have : lenL l = l.length := rfl; omega)
    · (subst hL; subst hQ; simp only [L2, L3, std] at *; try simp only [sySet, reduceCtorEq, forall_const, Int.reduceToNat, Int.reduceAdd, Int.reduceSub, Int.cast_ofNat_Int, Int.toNat_natCast, Nat.le_eq, Nat.sub_eq, ne_eq, Decidable.not_not, implies_true, true_and, and_true, wadd, wsub, wmul, decide_eq_true_eq, decide_eq_false_iff_not, Nat.succ_eq_add_one, imp_false, not_false_eq_true, not_true_eq_false, false_imp_iff, true_imp_iff] at *)
      rw [mk_parts, mk_parts] at hb
      rw [sameLs_no (i := i) (by have : lenL l = l.length := rfl; omega) hb]
    · (cbv; try simp only [sat_need, sat_must, sat_ite, sat_done, sat_yes, sat_ex, sat_all, sat_sup, sat_and, sat_fail, true_and, and_true])
      (subst hL; subst hQ; simp only [L2, L3, std] at *; try simp only [sySet, reduceCtorEq, forall_const, Int.reduceToNat, Int.reduceAdd, Int.reduceSub, Int.cast_ofNat_Int, Int.toNat_natCast, Nat.le_eq, Nat.sub_eq, ne_eq, Decidable.not_not, implies_true, true_and, and_true, wadd, wsub, wmul, decide_eq_true_eq, decide_eq_false_iff_not, Nat.succ_eq_add_one, imp_false, not_false_eq_true, not_true_eq_false, false_imp_iff, true_imp_iff] at *)
      rw [mk_parts, mk_parts] at hb
      have : lenL l = l.length := rfl
      have := len_sz l
      have h1 := hz.1
      have h2 := hz.2
      refine ⟨by omega, ⟨by omega, hi.2.1, fun j hj => ?_⟩, by omega⟩
      by_cases e : j = i
      · rw [e]; exact hb
      · exact hi.2.2 j (by omega)
    · (subst hL; subst hQ; simp only [L2, L3, std] at *; try simp only [sySet, reduceCtorEq, forall_const, Int.reduceToNat, Int.reduceAdd, Int.reduceSub, Int.cast_ofNat_Int, Int.toNat_natCast, Nat.le_eq, Nat.sub_eq, ne_eq, Decidable.not_not, implies_true, true_and, and_true, wadd, wsub, wmul, decide_eq_true_eq, decide_eq_false_iff_not, Nat.succ_eq_add_one, imp_false, not_false_eq_true, not_true_eq_false, false_imp_iff, true_imp_iff] at *)
      have : lenL l = l.length := rfl
      have : sameLs l m = true := (sameLs_iff l m).2 ⟨hi.2.1, fun j hj => hi.2.2 j (by omega)⟩
      rw [this]
theorem sameV_mk (k n k' n' : Int) (s s' : List UInt8) (l l' : List CV) : sameV (.mk k n s l) (.mk k' n' s' l') = (decide (k = k') && decide (n = n') && decide (s = s') && sameLs l l') := by rw [sameV]; rfl
theorem same_good : ∀ N, Good Try.prog (same_s N std) := by
  intro N
  induction N with
  | zero =>
    intro xs p r h hp
    unfold same_s at h
    simp only at h
    split at h
    · rename_i k n s x k' n' s' y
      cases h
      have h1 : sizeC (mkV std k n s x) ≤ 0 := hp.2.2.1
      have := sizeC_pos (mkV std k n s x)
      omega
    · cases h
  | succ N ih =>
    intro xs p r h hp
    unfold same_s at h
    simp only at h
    split at h
    rotate_left
    · cases h
    rename_i k n s x k' n' s' y
    cases h
    obtain ⟨ho, ho', hz⟩ := hp
    refine ac_vv ho ho' ?_
    rw [show mkV std k n s x = .mk k n s (rdL x) from rfl] at hz ⊢
    rw [show mkV std k' n' s' y = .mk k' n' s' (rdL y) from rfl]
    generalize rdL x = l at hz ⊢
    generalize rdL y = m
    have hz : szOk (N + 1) (.mk k n s l) := hz
    refine acalls_L' (T := tt) (S := fun L => sumOf [eqv_s N L]) (lo := noA) (lb := noA) 5 (fn := Try.f17) (xs := fun L => [.agg [.int .i64 k, .int .u64 n, .str s, cvL L l], .agg [.int .i64 k', .int .u64 n', .str s', cvL L m]]) rfl rfl (by kernel_rfl) (by kernel_rfl) rfl tt_ok
      (sumOf_ok ⟨eqv_of ih, trivial⟩) (by kernel_rfl) ?_
    intro L P' Q' hL hP hQ
    (cbv; try simp only [sat_need, sat_must, sat_ite, sat_done, sat_yes, sat_ex, sat_all, sat_sup, sat_and, sat_fail, true_and, and_true])
    (subst hL; subst hQ; simp only [L2, L3, std] at *; try simp only [sySet, reduceCtorEq, forall_const, Int.reduceToNat, Int.reduceAdd, Int.reduceSub, Int.cast_ofNat_Int, Int.toNat_natCast, Nat.le_eq, Nat.sub_eq, ne_eq, Decidable.not_not, implies_true, true_and, and_true, wadd, wsub, wmul, decide_eq_true_eq, decide_eq_false_iff_not, Nat.succ_eq_add_one, imp_false, not_false_eq_true, not_true_eq_false, false_imp_iff, true_imp_iff] at *)
    simp only [rdl]
    rw [sizeC_mk_ok] at hz
    rw [sameV_mk]
    exact ⟨fun h1 => ⟨fun h2 => ⟨fun h3 => ⟨⟨okl l, okl m, hz.1⟩, by simp [h1, h2, h3]⟩, fun h3 => by simp [h3]⟩, fun h2 => by simp [h2]⟩, fun h1 => by simp [h1]⟩
def rsameA (L : Seal) (l m : List CV) : Nat → St → Option Ann := fun id s => match id with
  | 0 => some ⟨Nat, fun i => [(37, .int .i64 (L natI i))], fun i => [], [2, 3, 35, 36], [2, 3],
      fun i => L3 L sameTo l m i, fun i => L2 L (fun (l : List CV) (i : Nat) => l.length - i) l i⟩
  | _ => none
theorem rsame_good : ∀ N, Good Try.prog (rsame_s N std) := by
  intro N
  induction N with
  | zero =>
    intro xs p r h hp
    unfold rsame_s at h
    simp only at h
    split at h
    · rename_i k n s x k' n' s' y
      cases h
      have h1 : sizeC (mkV std k n s x) ≤ 0 := hp.2.2.1
      have := sizeC_pos (mkV std k n s x)
      omega
    · cases h
  | succ N ih =>
    intro xs p r h hp
    unfold rsame_s at h
    simp only at h
    split at h
    rotate_left
    · cases h
    rename_i k n s x k' n' s' y
    cases h
    obtain ⟨ho, ho', hz⟩ := hp
    refine ac_vv ho ho' ?_
    rw [show mkV std k n s x = .mk k n s (rdL x) from rfl] at hz ⊢
    rw [show mkV std k' n' s' y = .mk k' n' s' (rdL y) from rfl]
    generalize rdL x = l at hz ⊢
    generalize rdL y = m
    have hz : szOk (N + 1) (.mk k n s l) := hz
    refine acalls_L' (T := tt) (S := fun L => sumOf [rsame_s N L]) (lo := fun L => rsameA L l m) (lb := noA) 5 (fn := Try.f18) (xs := fun L => [.agg [.int .i64 k, .int .u64 n, .str s, cvL L l], .agg [.int .i64 k', .int .u64 n', .str s', cvL L m]]) rfl rfl (by kernel_rfl) (by kernel_rfl) rfl tt_ok
      (sumOf_ok ⟨ih, trivial⟩) (by kernel_rfl) ?_
    intro L P' Q' hL hP hQ
    (cbv; try simp only [sat_need, sat_must, sat_ite, sat_done, sat_yes, sat_ex, sat_all, sat_sup, sat_and, sat_fail, true_and, and_true])
    refine ⟨fun h1 => ?_, fun h1 => ⟨fun h2 => ?_, fun h2 => ⟨fun h3 => ?_, fun h3 => ⟨fun h4 => ?_, fun h4 => ⟨⟨0, ?_⟩, fun i hi => ?_⟩⟩⟩⟩⟩
    · (subst hL; subst hQ; simp only [L2, L3, std] at *; try simp only [sySet, reduceCtorEq, forall_const, Int.reduceToNat, Int.reduceAdd, Int.reduceSub, Int.cast_ofNat_Int, Int.toNat_natCast, Nat.le_eq, Nat.sub_eq, ne_eq, Decidable.not_not, implies_true, true_and, and_true, wadd, wsub, wmul, decide_eq_true_eq, decide_eq_false_iff_not, Nat.succ_eq_add_one, imp_false, not_false_eq_true, not_true_eq_false, false_imp_iff, true_imp_iff] at *)
      rw [sameV_mk]; simp [h1]
    · (subst hL; subst hQ; simp only [L2, L3, std] at *; try simp only [sySet, reduceCtorEq, forall_const, Int.reduceToNat, Int.reduceAdd, Int.reduceSub, Int.cast_ofNat_Int, Int.toNat_natCast, Nat.le_eq, Nat.sub_eq, ne_eq, Decidable.not_not, implies_true, true_and, and_true, wadd, wsub, wmul, decide_eq_true_eq, decide_eq_false_iff_not, Nat.succ_eq_add_one, imp_false, not_false_eq_true, not_true_eq_false, false_imp_iff, true_imp_iff] at *)
      rw [sameV_mk]; simp [h2]
    · (subst hL; subst hQ; simp only [L2, L3, std] at *; try simp only [sySet, reduceCtorEq, forall_const, Int.reduceToNat, Int.reduceAdd, Int.reduceSub, Int.cast_ofNat_Int, Int.toNat_natCast, Nat.le_eq, Nat.sub_eq, ne_eq, Decidable.not_not, implies_true, true_and, and_true, wadd, wsub, wmul, decide_eq_true_eq, decide_eq_false_iff_not, Nat.succ_eq_add_one, imp_false, not_false_eq_true, not_true_eq_false, false_imp_iff, true_imp_iff] at *)
      rw [sameV_mk]; simp [h3]
    · (subst hL; subst hQ; simp only [L2, L3, std] at *; try simp only [sySet, reduceCtorEq, forall_const, Int.reduceToNat, Int.reduceAdd, Int.reduceSub, Int.cast_ofNat_Int, Int.toNat_natCast, Nat.le_eq, Nat.sub_eq, ne_eq, Decidable.not_not, implies_true, true_and, and_true, wadd, wsub, wmul, decide_eq_true_eq, decide_eq_false_iff_not, Nat.succ_eq_add_one, imp_false, not_false_eq_true, not_true_eq_false, false_imp_iff, true_imp_iff] at *)
      have : sameLs l m = false := by
        cases e : sameLs l m with
        | false => rfl
        | true => exact absurd (by rw [show lenL l = l.length from rfl, show lenL m = m.length from rfl, ((sameLs_iff l m).1 e).1]) h4
      rw [sameV_mk, this]; simp
    · (cbv; try simp only [sat_need, sat_must, sat_ite, sat_done, sat_yes, sat_ex, sat_all, sat_sup, sat_and, sat_fail, true_and, and_true])
      (subst hL; subst hQ; simp only [L2, L3, std] at *; try simp only [sySet, reduceCtorEq, forall_const, Int.reduceToNat, Int.reduceAdd, Int.reduceSub, Int.cast_ofNat_Int, Int.toNat_natCast, Nat.le_eq, Nat.sub_eq, ne_eq, Decidable.not_not, implies_true, true_and, and_true, wadd, wsub, wmul, decide_eq_true_eq, decide_eq_false_iff_not, Nat.succ_eq_add_one, imp_false, not_false_eq_true, not_true_eq_false, false_imp_iff, true_imp_iff] at *)
      exact ⟨Nat.zero_le _, by have : lenL l = l.length := rfl; have : lenL m = m.length := rfl; omega, fun j hj => by omega⟩
    · cbv at hi
      (cbv; try simp only [sat_need, sat_must, sat_ite, sat_done, sat_yes, sat_ex, sat_all, sat_sup, sat_and, sat_fail, true_and, and_true])
      refine ⟨fun hlt => ⟨?_, ?_, ⟨?_, ?_, ?_⟩, fun hb => ?_, fun hb => ⟨i + 1, ?_⟩⟩, fun hge => ?_⟩
      · (subst hL; subst hQ; simp only [L2, L3, std] at *; try simp only [sySet, reduceCtorEq, forall_const, Int.reduceToNat, Int.reduceAdd, Int.reduceSub, Int.cast_ofNat_Int, Int.toNat_natCast, Nat.le_eq, Nat.sub_eq, ne_eq, Decidable.not_not, implies_true, true_and, and_true, wadd, wsub, wmul, decide_eq_true_eq, decide_eq_false_iff_not, Nat.succ_eq_add_one, imp_false, not_false_eq_true, not_true_eq_false, false_imp_iff, true_imp_iff] at *)
        omega
      · (subst hL; subst hQ; simp only [L2, L3, std] at *; try simp only [sySet, reduceCtorEq, forall_const, Int.reduceToNat, Int.reduceAdd, Int.reduceSub, Int.cast_ofNat_Int, Int.toNat_natCast, Nat.le_eq, Nat.sub_eq, ne_eq, Decidable.not_not, implies_true, true_and, and_true, wadd, wsub, wmul, decide_eq_true_eq, decide_eq_false_iff_not, Nat.succ_eq_add_one, imp_false, not_false_eq_true, not_true_eq_false, false_imp_iff, true_imp_iff] at *)
        have : lenL l = l.length := rfl
        have : lenL m = m.length := rfl
        omega
      · (subst hL; subst hQ; simp only [L2, L3, std] at *; try simp only [sySet, reduceCtorEq, forall_const, Int.reduceToNat, Int.reduceAdd, Int.reduceSub, Int.cast_ofNat_Int, Int.toNat_natCast, Nat.le_eq, Nat.sub_eq, ne_eq, Decidable.not_not, implies_true, true_and, and_true, wadd, wsub, wmul, decide_eq_true_eq, decide_eq_false_iff_not, Nat.succ_eq_add_one, imp_false, not_false_eq_true, not_true_eq_false, false_imp_iff, true_imp_iff] at *)
        exact (rd_in _).2
      · (subst hL; subst hQ; simp only [L2, L3, std] at *; try simp only [sySet, reduceCtorEq, forall_const, Int.reduceToNat, Int.reduceAdd, Int.reduceSub, Int.cast_ofNat_Int, Int.toNat_natCast, Nat.le_eq, Nat.sub_eq, ne_eq, Decidable.not_not, implies_true, true_and, and_true, wadd, wsub, wmul, decide_eq_true_eq, decide_eq_false_iff_not, Nat.succ_eq_add_one, imp_false, not_false_eq_true, not_true_eq_false, false_imp_iff, true_imp_iff] at *)
        exact (rd_in _).2
      · (subst hL; subst hQ; simp only [L2, L3, std] at *; try simp only [sySet, reduceCtorEq, forall_const, Int.reduceToNat, Int.reduceAdd, Int.reduceSub, Int.cast_ofNat_Int, Int.toNat_natCast, Nat.le_eq, Nat.sub_eq, ne_eq, Decidable.not_not, implies_true, true_and, and_true, wadd, wsub, wmul, decide_eq_true_eq, decide_eq_false_iff_not, Nat.succ_eq_add_one, imp_false, not_false_eq_true, not_true_eq_false, false_imp_iff, true_imp_iff] at *)
        rw [mk_parts]
        rw [sizeC_mk_ok] at hz
        exact nth_sz hz.1 (by have : lenL l = l.length := rfl; omega)
      · (subst hL; subst hQ; simp only [L2, L3, std] at *; try simp only [sySet, reduceCtorEq, forall_const, Int.reduceToNat, Int.reduceAdd, Int.reduceSub, Int.cast_ofNat_Int, Int.toNat_natCast, Nat.le_eq, Nat.sub_eq, ne_eq, Decidable.not_not, implies_true, true_and, and_true, wadd, wsub, wmul, decide_eq_true_eq, decide_eq_false_iff_not, Nat.succ_eq_add_one, imp_false, not_false_eq_true, not_true_eq_false, false_imp_iff, true_imp_iff] at *)
        rw [mk_parts, mk_parts] at hb
        rw [sameV_mk, sameLs_no (i := i) (by have : lenL l = l.length := rfl; omega) hb]; simp
      · (cbv; try simp only [sat_need, sat_must, sat_ite, sat_done, sat_yes, sat_ex, sat_all, sat_sup, sat_and, sat_fail, true_and, and_true])
        (subst hL; subst hQ; simp only [L2, L3, std] at *; try simp only [sySet, reduceCtorEq, forall_const, Int.reduceToNat, Int.reduceAdd, Int.reduceSub, Int.cast_ofNat_Int, Int.toNat_natCast, Nat.le_eq, Nat.sub_eq, ne_eq, Decidable.not_not, implies_true, true_and, and_true, wadd, wsub, wmul, decide_eq_true_eq, decide_eq_false_iff_not, Nat.succ_eq_add_one, imp_false, not_false_eq_true, not_true_eq_false, false_imp_iff, true_imp_iff] at *)
        rw [mk_parts, mk_parts] at hb
        rw [sizeC_mk_ok] at hz
        have : lenL l = l.length := rfl
        have := len_sz l
        have h1 := hz.1.1
        have h2 := hz.1.2
        refine ⟨by omega, ⟨by omega, hi.2.1, fun j hj => ?_⟩, by omega⟩
        by_cases e : j = i
        · rw [e]; exact hb
        · exact hi.2.2 j (by omega)
      · (subst hL; subst hQ; simp only [L2, L3, std] at *; try simp only [sySet, reduceCtorEq, forall_const, Int.reduceToNat, Int.reduceAdd, Int.reduceSub, Int.cast_ofNat_Int, Int.toNat_natCast, Nat.le_eq, Nat.sub_eq, ne_eq, Decidable.not_not, implies_true, true_and, and_true, wadd, wsub, wmul, decide_eq_true_eq, decide_eq_false_iff_not, Nat.succ_eq_add_one, imp_false, not_false_eq_true, not_true_eq_false, false_imp_iff, true_imp_iff] at *)
        have : lenL l = l.length := rfl
        have : sameLs l m = true := (sameLs_iff l m).2 ⟨hi.2.1, fun j hj => hi.2.2 j (by omega)⟩
        rw [sameV_mk, this]; simp [h1, h2, h3]
def rbareA (L : Seal) (l : List CV) : Nat → St → Option Ann := fun id s => match id with
  | 0 => some ⟨Nat, fun i => [(47, .int .i64 (L natI i))], fun i => [], [45, 46], [],
      fun i => L2 L bareTo l i, fun i => L2 L (fun (l : List CV) (i : Nat) => l.length - i) l i⟩
  | _ => none
def rbare_s (N : Nat) (L : Seal) : Ent1 := (51, fun xs => match xs with
  | [.agg [.int .i64 k, .int .u64 n, .str s, x]] => some (L okL x ∧ L2 L szOk N (mkV L k n s x), .bool (L bareV (mkV L k n s x)))
  | _ => none)
theorem bareV_iff (k n : Int) (s : List UInt8) (l : List CV) : bareV (.mk k n s l) = true ↔ 1 ≤ k ∧ k ≤ 3 ∧ (k ≠ 1 → n = 0) ∧ (k ≠ 2 → s = []) ∧ (k ≠ 3 → l = []) ∧ bareLs l = true := by
  have hl : l = [] → bareLs l = true := by rintro rfl; rw [bareLs]
  rw [bareV]
  by_cases h1 : k = 1
  · simp [h1]
    exact fun _ h => hl h
  · by_cases h2 : k = 2
    · simp [h2]
      exact fun _ h => hl h
    · by_cases h3 : k = 3
      · simp [h3, and_assoc]
      · simp [h1, h2, h3]
        intros; omega
theorem bareV_no {k n : Int} {s : List UInt8} {l : List CV} (h : ¬ (1 ≤ k ∧ k ≤ 3 ∧ (k ≠ 1 → n = 0) ∧ (k ≠ 2 → s = []) ∧ (k ≠ 3 → l = []) ∧ bareLs l = true)) : bareV (.mk k n s l) = false := by
  cases e : bareV (.mk k n s l) with
  | false => rfl
  | true => exact absurd ((bareV_iff _ _ _ _).1 e) h
theorem rbare_good : ∀ N, Good Try.prog (rbare_s N std) := by
  intro N
  induction N with
  | zero =>
    intro xs p r h hp
    unfold rbare_s at h
    simp only at h
    split at h
    · rename_i k n s x
      cases h
      have h1 : sizeC (mkV std k n s x) ≤ 0 := hp.2.1
      have := sizeC_pos (mkV std k n s x)
      omega
    · cases h
  | succ N ih =>
    intro xs p r h hp
    unfold rbare_s at h
    simp only at h
    split at h
    rotate_left
    · cases h
    rename_i k n s x
    cases h
    obtain ⟨ho, hz⟩ := hp
    refine ac_v ho ?_
    rw [show mkV std k n s x = .mk k n s (rdL x) from rfl] at hz ⊢
    generalize rdL x = l at hz ⊢
    have hz : szOk (N + 1) (.mk k n s l) := hz
    refine acalls_L' (T := tt) (S := fun L => sumOf [rbare_s N L]) (lo := fun L => rbareA L l) (lb := noA) 5 (fn := Try.f51) (xs := fun L => [.agg [.int .i64 k, .int .u64 n, .str s, cvL L l]]) rfl rfl (by kernel_rfl) (by kernel_rfl) rfl tt_ok
      (sumOf_ok ⟨ih, trivial⟩) (by kernel_rfl) ?_
    intro L P' Q' hL hP hQ
    (cbv; try simp only [sat_need, sat_must, sat_ite, sat_done, sat_yes, sat_ex, sat_all, sat_sup, sat_and, sat_fail, true_and, and_true])
    refine ⟨fun h1 => ?_, fun h1 => ⟨fun h2 => ?_, fun h2 => ⟨fun h7 => ⟨fun h8 => ?_, fun h8 => ?_⟩, fun h7 => ?_⟩⟩⟩
    · (subst hL; subst hQ; simp only [L2, L3, std] at *; try simp only [sySet, reduceCtorEq, forall_const, Int.reduceToNat, Int.reduceAdd, Int.reduceSub, Int.cast_ofNat_Int, Int.toNat_natCast, Nat.le_eq, Nat.sub_eq, ne_eq, Decidable.not_not, implies_true, true_and, and_true, wadd, wsub, wmul, decide_eq_true_eq, decide_eq_false_iff_not, Nat.succ_eq_add_one, imp_false, not_false_eq_true, not_true_eq_false, false_imp_iff, true_imp_iff] at *)
      rw [bareV_no fun h => by omega]
    · (subst hL; subst hQ; simp only [L2, L3, std] at *; try simp only [sySet, reduceCtorEq, forall_const, Int.reduceToNat, Int.reduceAdd, Int.reduceSub, Int.cast_ofNat_Int, Int.toNat_natCast, Nat.le_eq, Nat.sub_eq, ne_eq, Decidable.not_not, implies_true, true_and, and_true, wadd, wsub, wmul, decide_eq_true_eq, decide_eq_false_iff_not, Nat.succ_eq_add_one, imp_false, not_false_eq_true, not_true_eq_false, false_imp_iff, true_imp_iff] at *)
      rw [bareV_no fun h => by omega]
    · (subst hL; subst hQ; simp only [L2, L3, std] at *; try simp only [sySet, reduceCtorEq, forall_const, Int.reduceToNat, Int.reduceAdd, Int.reduceSub, Int.cast_ofNat_Int, Int.toNat_natCast, Nat.le_eq, Nat.sub_eq, ne_eq, Decidable.not_not, implies_true, true_and, and_true, wadd, wsub, wmul, decide_eq_true_eq, decide_eq_false_iff_not, Nat.succ_eq_add_one, imp_false, not_false_eq_true, not_true_eq_false, false_imp_iff, true_imp_iff] at *)
      rw [bareV_no fun h => h8 (h.2.2.1 h7)]
    · refine ⟨fun h3 => ⟨fun h4 => ?_, fun h4 => ?_⟩, fun h3 => ?_⟩
      · (subst hL; subst hQ; simp only [L2, L3, std] at *; try simp only [sySet, reduceCtorEq, forall_const, Int.reduceToNat, Int.reduceAdd, Int.reduceSub, Int.cast_ofNat_Int, Int.toNat_natCast, Nat.le_eq, Nat.sub_eq, ne_eq, Decidable.not_not, implies_true, true_and, and_true, wadd, wsub, wmul, decide_eq_true_eq, decide_eq_false_iff_not, Nat.succ_eq_add_one, imp_false, not_false_eq_true, not_true_eq_false, false_imp_iff, true_imp_iff] at *)
        rw [bareV_no fun h => h4 (h.2.2.2.1 h3)]
      · refine ⟨fun h5 => ⟨fun h6 => ?_, fun h6 => ?_⟩, fun h5 => ?_⟩
        · (subst hL; subst hQ; simp only [L2, L3, std] at *; try simp only [sySet, reduceCtorEq, forall_const, Int.reduceToNat, Int.reduceAdd, Int.reduceSub, Int.cast_ofNat_Int, Int.toNat_natCast, Nat.le_eq, Nat.sub_eq, ne_eq, Decidable.not_not, implies_true, true_and, and_true, wadd, wsub, wmul, decide_eq_true_eq, decide_eq_false_iff_not, Nat.succ_eq_add_one, imp_false, not_false_eq_true, not_true_eq_false, false_imp_iff, true_imp_iff] at *)
          rw [bareV_no fun h => by
            have := h.2.2.2.2.1 h5
            rw [this] at h6
            exact absurd h6 (by simp [lenL])]
        · refine ⟨⟨0, ?_⟩, fun i hi => ?_⟩
          · (cbv; try simp only [sat_need, sat_must, sat_ite, sat_done, sat_yes, sat_ex, sat_all, sat_sup, sat_and, sat_fail, true_and, and_true])
            (subst hL; subst hQ; simp only [L2, L3, std] at *; try simp only [sySet, reduceCtorEq, forall_const, Int.reduceToNat, Int.reduceAdd, Int.reduceSub, Int.cast_ofNat_Int, Int.toNat_natCast, Nat.le_eq, Nat.sub_eq, ne_eq, Decidable.not_not, implies_true, true_and, and_true, wadd, wsub, wmul, decide_eq_true_eq, decide_eq_false_iff_not, Nat.succ_eq_add_one, imp_false, not_false_eq_true, not_true_eq_false, false_imp_iff, true_imp_iff] at *)
            exact ⟨Nat.zero_le _, fun j hj => by omega⟩
          · cbv at hi
            (cbv; try simp only [sat_need, sat_must, sat_ite, sat_done, sat_yes, sat_ex, sat_all, sat_sup, sat_and, sat_fail, true_and, and_true])
            refine ⟨fun hlt => ⟨?_, ⟨?_, ?_⟩, fun hb => ?_, fun hb => ⟨i + 1, ?_⟩⟩, fun hge => ?_⟩
            · (subst hL; subst hQ; simp only [L2, L3, std] at *; try simp only [sySet, reduceCtorEq, forall_const, Int.reduceToNat, Int.reduceAdd, Int.reduceSub, Int.cast_ofNat_Int, Int.toNat_natCast, Nat.le_eq, Nat.sub_eq, ne_eq, Decidable.not_not, implies_true, true_and, and_true, wadd, wsub, wmul, decide_eq_true_eq, decide_eq_false_iff_not, Nat.succ_eq_add_one, imp_false, not_false_eq_true, not_true_eq_false, false_imp_iff, true_imp_iff] at *)
              omega
            · (subst hL; subst hQ; simp only [L2, L3, std] at *; try simp only [sySet, reduceCtorEq, forall_const, Int.reduceToNat, Int.reduceAdd, Int.reduceSub, Int.cast_ofNat_Int, Int.toNat_natCast, Nat.le_eq, Nat.sub_eq, ne_eq, Decidable.not_not, implies_true, true_and, and_true, wadd, wsub, wmul, decide_eq_true_eq, decide_eq_false_iff_not, Nat.succ_eq_add_one, imp_false, not_false_eq_true, not_true_eq_false, false_imp_iff, true_imp_iff] at *)
              exact (rd_in _).2
            · (subst hL; subst hQ; simp only [L2, L3, std] at *; try simp only [sySet, reduceCtorEq, forall_const, Int.reduceToNat, Int.reduceAdd, Int.reduceSub, Int.cast_ofNat_Int, Int.toNat_natCast, Nat.le_eq, Nat.sub_eq, ne_eq, Decidable.not_not, implies_true, true_and, and_true, wadd, wsub, wmul, decide_eq_true_eq, decide_eq_false_iff_not, Nat.succ_eq_add_one, imp_false, not_false_eq_true, not_true_eq_false, false_imp_iff, true_imp_iff] at *)
              rw [mk_parts]
              rw [sizeC_mk_ok] at hz
              exact nth_sz hz.1 (by have : lenL l = l.length := rfl; omega)
            · (subst hL; subst hQ; simp only [L2, L3, std] at *; try simp only [sySet, reduceCtorEq, forall_const, Int.reduceToNat, Int.reduceAdd, Int.reduceSub, Int.cast_ofNat_Int, Int.toNat_natCast, Nat.le_eq, Nat.sub_eq, ne_eq, Decidable.not_not, implies_true, true_and, and_true, wadd, wsub, wmul, decide_eq_true_eq, decide_eq_false_iff_not, Nat.succ_eq_add_one, imp_false, not_false_eq_true, not_true_eq_false, false_imp_iff, true_imp_iff] at *)
              rw [mkV_parts] at hb
              have : lenL l = l.length := rfl
              rw [bareV_no fun h => by
                have := (bareLs_all l).1 h.2.2.2.2.2 i (by omega)
                rw [hb] at this; cases this]
            · (cbv; try simp only [sat_need, sat_must, sat_ite, sat_done, sat_yes, sat_ex, sat_all, sat_sup, sat_and, sat_fail, true_and, and_true])
              (subst hL; subst hQ; simp only [L2, L3, std] at *; try simp only [sySet, reduceCtorEq, forall_const, Int.reduceToNat, Int.reduceAdd, Int.reduceSub, Int.cast_ofNat_Int, Int.toNat_natCast, Nat.le_eq, Nat.sub_eq, ne_eq, Decidable.not_not, implies_true, true_and, and_true, wadd, wsub, wmul, decide_eq_true_eq, decide_eq_false_iff_not, Nat.succ_eq_add_one, imp_false, not_false_eq_true, not_true_eq_false, false_imp_iff, true_imp_iff] at *)
              rw [mkV_parts] at hb
              rw [sizeC_mk_ok] at hz
              have : lenL l = l.length := rfl
              have := len_sz l
              have h1 := hz.1.1
              have h2 := hz.1.2
              refine ⟨by omega, ⟨by omega, fun j hj => ?_⟩, by omega⟩
              by_cases e : j = i
              · rw [e]; exact hb
              · exact hi.2 j (by omega)
            · (subst hL; subst hQ; simp only [L2, L3, std] at *; try simp only [sySet, reduceCtorEq, forall_const, Int.reduceToNat, Int.reduceAdd, Int.reduceSub, Int.cast_ofNat_Int, Int.toNat_natCast, Nat.le_eq, Nat.sub_eq, ne_eq, Decidable.not_not, implies_true, true_and, and_true, wadd, wsub, wmul, decide_eq_true_eq, decide_eq_false_iff_not, Nat.succ_eq_add_one, imp_false, not_false_eq_true, not_true_eq_false, false_imp_iff, true_imp_iff] at *)
              have : lenL l = l.length := rfl
              rw [(bareV_iff _ _ _ _).2 ⟨by omega, by omega, fun h => by first | assumption | omega, fun h => by first | assumption | omega, fun h => by first | omega | exact List.eq_nil_of_length_eq_zero (by omega), (bareLs_all l).2 fun j hj => hi.2 j (by omega)⟩]
        · refine ⟨⟨0, ?_⟩, fun i hi => ?_⟩
          · (cbv; try simp only [sat_need, sat_must, sat_ite, sat_done, sat_yes, sat_ex, sat_all, sat_sup, sat_and, sat_fail, true_and, and_true])
            (subst hL; subst hQ; simp only [L2, L3, std] at *; try simp only [sySet, reduceCtorEq, forall_const, Int.reduceToNat, Int.reduceAdd, Int.reduceSub, Int.cast_ofNat_Int, Int.toNat_natCast, Nat.le_eq, Nat.sub_eq, ne_eq, Decidable.not_not, implies_true, true_and, and_true, wadd, wsub, wmul, decide_eq_true_eq, decide_eq_false_iff_not, Nat.succ_eq_add_one, imp_false, not_false_eq_true, not_true_eq_false, false_imp_iff, true_imp_iff] at *)
            exact ⟨Nat.zero_le _, fun j hj => by omega⟩
          · cbv at hi
            (cbv; try simp only [sat_need, sat_must, sat_ite, sat_done, sat_yes, sat_ex, sat_all, sat_sup, sat_and, sat_fail, true_and, and_true])
            refine ⟨fun hlt => ⟨?_, ⟨?_, ?_⟩, fun hb => ?_, fun hb => ⟨i + 1, ?_⟩⟩, fun hge => ?_⟩
            · (subst hL; subst hQ; simp only [L2, L3, std] at *; try simp only [sySet, reduceCtorEq, forall_const, Int.reduceToNat, Int.reduceAdd, Int.reduceSub, Int.cast_ofNat_Int, Int.toNat_natCast, Nat.le_eq, Nat.sub_eq, ne_eq, Decidable.not_not, implies_true, true_and, and_true, wadd, wsub, wmul, decide_eq_true_eq, decide_eq_false_iff_not, Nat.succ_eq_add_one, imp_false, not_false_eq_true, not_true_eq_false, false_imp_iff, true_imp_iff] at *)
              omega
            · (subst hL; subst hQ; simp only [L2, L3, std] at *; try simp only [sySet, reduceCtorEq, forall_const, Int.reduceToNat, Int.reduceAdd, Int.reduceSub, Int.cast_ofNat_Int, Int.toNat_natCast, Nat.le_eq, Nat.sub_eq, ne_eq, Decidable.not_not, implies_true, true_and, and_true, wadd, wsub, wmul, decide_eq_true_eq, decide_eq_false_iff_not, Nat.succ_eq_add_one, imp_false, not_false_eq_true, not_true_eq_false, false_imp_iff, true_imp_iff] at *)
              exact (rd_in _).2
            · (subst hL; subst hQ; simp only [L2, L3, std] at *; try simp only [sySet, reduceCtorEq, forall_const, Int.reduceToNat, Int.reduceAdd, Int.reduceSub, Int.cast_ofNat_Int, Int.toNat_natCast, Nat.le_eq, Nat.sub_eq, ne_eq, Decidable.not_not, implies_true, true_and, and_true, wadd, wsub, wmul, decide_eq_true_eq, decide_eq_false_iff_not, Nat.succ_eq_add_one, imp_false, not_false_eq_true, not_true_eq_false, false_imp_iff, true_imp_iff] at *)
              rw [mk_parts]
              rw [sizeC_mk_ok] at hz
              exact nth_sz hz.1 (by have : lenL l = l.length := rfl; omega)
            · (subst hL; subst hQ; simp only [L2, L3, std] at *; try simp only [sySet, reduceCtorEq, forall_const, Int.reduceToNat, Int.reduceAdd, Int.reduceSub, Int.cast_ofNat_Int, Int.toNat_natCast, Nat.le_eq, Nat.sub_eq, ne_eq, Decidable.not_not, implies_true, true_and, and_true, wadd, wsub, wmul, decide_eq_true_eq, decide_eq_false_iff_not, Nat.succ_eq_add_one, imp_false, not_false_eq_true, not_true_eq_false, false_imp_iff, true_imp_iff] at *)
              rw [mkV_parts] at hb
              have : lenL l = l.length := rfl
              rw [bareV_no fun h => by
                have := (bareLs_all l).1 h.2.2.2.2.2 i (by omega)
                rw [hb] at this; cases this]
            · (cbv; try simp only [sat_need, sat_must, sat_ite, sat_done, sat_yes, sat_ex, sat_all, sat_sup, sat_and, sat_fail, true_and, and_true])
              (subst hL; subst hQ; simp only [L2, L3, std] at *; try simp only [sySet, reduceCtorEq, forall_const, Int.reduceToNat, Int.reduceAdd, Int.reduceSub, Int.cast_ofNat_Int, Int.toNat_natCast, Nat.le_eq, Nat.sub_eq, ne_eq, Decidable.not_not, implies_true, true_and, and_true, wadd, wsub, wmul, decide_eq_true_eq, decide_eq_false_iff_not, Nat.succ_eq_add_one, imp_false, not_false_eq_true, not_true_eq_false, false_imp_iff, true_imp_iff] at *)
              rw [mkV_parts] at hb
              rw [sizeC_mk_ok] at hz
              have : lenL l = l.length := rfl
              have := len_sz l
              have h1 := hz.1.1
              have h2 := hz.1.2
              refine ⟨by omega, ⟨by omega, fun j hj => ?_⟩, by omega⟩
              by_cases e : j = i
              · rw [e]; exact hb
              · exact hi.2 j (by omega)
            · (subst hL; subst hQ; simp only [L2, L3, std] at *; try simp only [sySet, reduceCtorEq, forall_const, Int.reduceToNat, Int.reduceAdd, Int.reduceSub, Int.cast_ofNat_Int, Int.toNat_natCast, Nat.le_eq, Nat.sub_eq, ne_eq, Decidable.not_not, implies_true, true_and, and_true, wadd, wsub, wmul, decide_eq_true_eq, decide_eq_false_iff_not, Nat.succ_eq_add_one, imp_false, not_false_eq_true, not_true_eq_false, false_imp_iff, true_imp_iff] at *)
              have : lenL l = l.length := rfl
              rw [(bareV_iff _ _ _ _).2 ⟨by omega, by omega, fun h => by first | assumption | omega, fun h => by first | assumption | omega, fun h => by first | omega | exact List.eq_nil_of_length_eq_zero (by omega), (bareLs_all l).2 fun j hj => hi.2 j (by omega)⟩]
      · refine ⟨fun h5 => ⟨fun h6 => ?_, fun h6 => ?_⟩, fun h5 => ?_⟩
        · (subst hL; subst hQ; simp only [L2, L3, std] at *; try simp only [sySet, reduceCtorEq, forall_const, Int.reduceToNat, Int.reduceAdd, Int.reduceSub, Int.cast_ofNat_Int, Int.toNat_natCast, Nat.le_eq, Nat.sub_eq, ne_eq, Decidable.not_not, implies_true, true_and, and_true, wadd, wsub, wmul, decide_eq_true_eq, decide_eq_false_iff_not, Nat.succ_eq_add_one, imp_false, not_false_eq_true, not_true_eq_false, false_imp_iff, true_imp_iff] at *)
          rw [bareV_no fun h => by
            have := h.2.2.2.2.1 h5
            rw [this] at h6
            exact absurd h6 (by simp [lenL])]
        · refine ⟨⟨0, ?_⟩, fun i hi => ?_⟩
          · (cbv; try simp only [sat_need, sat_must, sat_ite, sat_done, sat_yes, sat_ex, sat_all, sat_sup, sat_and, sat_fail, true_and, and_true])
            (subst hL; subst hQ; simp only [L2, L3, std] at *; try simp only [sySet, reduceCtorEq, forall_const, Int.reduceToNat, Int.reduceAdd, Int.reduceSub, Int.cast_ofNat_Int, Int.toNat_natCast, Nat.le_eq, Nat.sub_eq, ne_eq, Decidable.not_not, implies_true, true_and, and_true, wadd, wsub, wmul, decide_eq_true_eq, decide_eq_false_iff_not, Nat.succ_eq_add_one, imp_false, not_false_eq_true, not_true_eq_false, false_imp_iff, true_imp_iff] at *)
            exact ⟨Nat.zero_le _, fun j hj => by omega⟩
          · cbv at hi
            (cbv; try simp only [sat_need, sat_must, sat_ite, sat_done, sat_yes, sat_ex, sat_all, sat_sup, sat_and, sat_fail, true_and, and_true])
            refine ⟨fun hlt => ⟨?_, ⟨?_, ?_⟩, fun hb => ?_, fun hb => ⟨i + 1, ?_⟩⟩, fun hge => ?_⟩
            · (subst hL; subst hQ; simp only [L2, L3, std] at *; try simp only [sySet, reduceCtorEq, forall_const, Int.reduceToNat, Int.reduceAdd, Int.reduceSub, Int.cast_ofNat_Int, Int.toNat_natCast, Nat.le_eq, Nat.sub_eq, ne_eq, Decidable.not_not, implies_true, true_and, and_true, wadd, wsub, wmul, decide_eq_true_eq, decide_eq_false_iff_not, Nat.succ_eq_add_one, imp_false, not_false_eq_true, not_true_eq_false, false_imp_iff, true_imp_iff] at *)
              omega
            · (subst hL; subst hQ; simp only [L2, L3, std] at *; try simp only [sySet, reduceCtorEq, forall_const, Int.reduceToNat, Int.reduceAdd, Int.reduceSub, Int.cast_ofNat_Int, Int.toNat_natCast, Nat.le_eq, Nat.sub_eq, ne_eq, Decidable.not_not, implies_true, true_and, and_true, wadd, wsub, wmul, decide_eq_true_eq, decide_eq_false_iff_not, Nat.succ_eq_add_one, imp_false, not_false_eq_true, not_true_eq_false, false_imp_iff, true_imp_iff] at *)
              exact (rd_in _).2
            · (subst hL; subst hQ; simp only [L2, L3, std] at *; try simp only [sySet, reduceCtorEq, forall_const, Int.reduceToNat, Int.reduceAdd, Int.reduceSub, Int.cast_ofNat_Int, Int.toNat_natCast, Nat.le_eq, Nat.sub_eq, ne_eq, Decidable.not_not, implies_true, true_and, and_true, wadd, wsub, wmul, decide_eq_true_eq, decide_eq_false_iff_not, Nat.succ_eq_add_one, imp_false, not_false_eq_true, not_true_eq_false, false_imp_iff, true_imp_iff] at *)
              rw [mk_parts]
              rw [sizeC_mk_ok] at hz
              exact nth_sz hz.1 (by have : lenL l = l.length := rfl; omega)
            · (subst hL; subst hQ; simp only [L2, L3, std] at *; try simp only [sySet, reduceCtorEq, forall_const, Int.reduceToNat, Int.reduceAdd, Int.reduceSub, Int.cast_ofNat_Int, Int.toNat_natCast, Nat.le_eq, Nat.sub_eq, ne_eq, Decidable.not_not, implies_true, true_and, and_true, wadd, wsub, wmul, decide_eq_true_eq, decide_eq_false_iff_not, Nat.succ_eq_add_one, imp_false, not_false_eq_true, not_true_eq_false, false_imp_iff, true_imp_iff] at *)
              rw [mkV_parts] at hb
              have : lenL l = l.length := rfl
              rw [bareV_no fun h => by
                have := (bareLs_all l).1 h.2.2.2.2.2 i (by omega)
                rw [hb] at this; cases this]
            · (cbv; try simp only [sat_need, sat_must, sat_ite, sat_done, sat_yes, sat_ex, sat_all, sat_sup, sat_and, sat_fail, true_and, and_true])
              (subst hL; subst hQ; simp only [L2, L3, std] at *; try simp only [sySet, reduceCtorEq, forall_const, Int.reduceToNat, Int.reduceAdd, Int.reduceSub, Int.cast_ofNat_Int, Int.toNat_natCast, Nat.le_eq, Nat.sub_eq, ne_eq, Decidable.not_not, implies_true, true_and, and_true, wadd, wsub, wmul, decide_eq_true_eq, decide_eq_false_iff_not, Nat.succ_eq_add_one, imp_false, not_false_eq_true, not_true_eq_false, false_imp_iff, true_imp_iff] at *)
              rw [mkV_parts] at hb
              rw [sizeC_mk_ok] at hz
              have : lenL l = l.length := rfl
              have := len_sz l
              have h1 := hz.1.1
              have h2 := hz.1.2
              refine ⟨by omega, ⟨by omega, fun j hj => ?_⟩, by omega⟩
              by_cases e : j = i
              · rw [e]; exact hb
              · exact hi.2 j (by omega)
            · (subst hL; subst hQ; simp only [L2, L3, std] at *; try simp only [sySet, reduceCtorEq, forall_const, Int.reduceToNat, Int.reduceAdd, Int.reduceSub, Int.cast_ofNat_Int, Int.toNat_natCast, Nat.le_eq, Nat.sub_eq, ne_eq, Decidable.not_not, implies_true, true_and, and_true, wadd, wsub, wmul, decide_eq_true_eq, decide_eq_false_iff_not, Nat.succ_eq_add_one, imp_false, not_false_eq_true, not_true_eq_false, false_imp_iff, true_imp_iff] at *)
              have : lenL l = l.length := rfl
              rw [(bareV_iff _ _ _ _).2 ⟨by omega, by omega, fun h => by first | assumption | omega, fun h => by first | assumption | omega, fun h => by first | omega | exact List.eq_nil_of_length_eq_zero (by omega), (bareLs_all l).2 fun j hj => hi.2 j (by omega)⟩]
        · refine ⟨⟨0, ?_⟩, fun i hi => ?_⟩
          · (cbv; try simp only [sat_need, sat_must, sat_ite, sat_done, sat_yes, sat_ex, sat_all, sat_sup, sat_and, sat_fail, true_and, and_true])
            (subst hL; subst hQ; simp only [L2, L3, std] at *; try simp only [sySet, reduceCtorEq, forall_const, Int.reduceToNat, Int.reduceAdd, Int.reduceSub, Int.cast_ofNat_Int, Int.toNat_natCast, Nat.le_eq, Nat.sub_eq, ne_eq, Decidable.not_not, implies_true, true_and, and_true, wadd, wsub, wmul, decide_eq_true_eq, decide_eq_false_iff_not, Nat.succ_eq_add_one, imp_false, not_false_eq_true, not_true_eq_false, false_imp_iff, true_imp_iff] at *)
            exact ⟨Nat.zero_le _, fun j hj => by omega⟩
          · cbv at hi
            (cbv; try simp only [sat_need, sat_must, sat_ite, sat_done, sat_yes, sat_ex, sat_all, sat_sup, sat_and, sat_fail, true_and, and_true])
            refine ⟨fun hlt => ⟨?_, ⟨?_, ?_⟩, fun hb => ?_, fun hb => ⟨i + 1, ?_⟩⟩, fun hge => ?_⟩
            · (subst hL; subst hQ; simp only [L2, L3, std] at *; try simp only [sySet, reduceCtorEq, forall_const, Int.reduceToNat, Int.reduceAdd, Int.reduceSub, Int.cast_ofNat_Int, Int.toNat_natCast, Nat.le_eq, Nat.sub_eq, ne_eq, Decidable.not_not, implies_true, true_and, and_true, wadd, wsub, wmul, decide_eq_true_eq, decide_eq_false_iff_not, Nat.succ_eq_add_one, imp_false, not_false_eq_true, not_true_eq_false, false_imp_iff, true_imp_iff] at *)
              omega
            · (subst hL; subst hQ; simp only [L2, L3, std] at *; try simp only [sySet, reduceCtorEq, forall_const, Int.reduceToNat, Int.reduceAdd, Int.reduceSub, Int.cast_ofNat_Int, Int.toNat_natCast, Nat.le_eq, Nat.sub_eq, ne_eq, Decidable.not_not, implies_true, true_and, and_true, wadd, wsub, wmul, decide_eq_true_eq, decide_eq_false_iff_not, Nat.succ_eq_add_one, imp_false, not_false_eq_true, not_true_eq_false, false_imp_iff, true_imp_iff] at *)
              exact (rd_in _).2
            · (subst hL; subst hQ; simp only [L2, L3, std] at *; try simp only [sySet, reduceCtorEq, forall_const, Int.reduceToNat, Int.reduceAdd, Int.reduceSub, Int.cast_ofNat_Int, Int.toNat_natCast, Nat.le_eq, Nat.sub_eq, ne_eq, Decidable.not_not, implies_true, true_and, and_true, wadd, wsub, wmul, decide_eq_true_eq, decide_eq_false_iff_not, Nat.succ_eq_add_one, imp_false, not_false_eq_true, not_true_eq_false, false_imp_iff, true_imp_iff] at *)
              rw [mk_parts]
              rw [sizeC_mk_ok] at hz
              exact nth_sz hz.1 (by have : lenL l = l.length := rfl; omega)
            · (subst hL; subst hQ; simp only [L2, L3, std] at *; try simp only [sySet, reduceCtorEq, forall_const, Int.reduceToNat, Int.reduceAdd, Int.reduceSub, Int.cast_ofNat_Int, Int.toNat_natCast, Nat.le_eq, Nat.sub_eq, ne_eq, Decidable.not_not, implies_true, true_and, and_true, wadd, wsub, wmul, decide_eq_true_eq, decide_eq_false_iff_not, Nat.succ_eq_add_one, imp_false, not_false_eq_true, not_true_eq_false, false_imp_iff, true_imp_iff] at *)
              rw [mkV_parts] at hb
              have : lenL l = l.length := rfl
              rw [bareV_no fun h => by
                have := (bareLs_all l).1 h.2.2.2.2.2 i (by omega)
                rw [hb] at this; cases this]
            · (cbv; try simp only [sat_need, sat_must, sat_ite, sat_done, sat_yes, sat_ex, sat_all, sat_sup, sat_and, sat_fail, true_and, and_true])
              (subst hL; subst hQ; simp only [L2, L3, std] at *; try simp only [sySet, reduceCtorEq, forall_const, Int.reduceToNat, Int.reduceAdd, Int.reduceSub, Int.cast_ofNat_Int, Int.toNat_natCast, Nat.le_eq, Nat.sub_eq, ne_eq, Decidable.not_not, implies_true, true_and, and_true, wadd, wsub, wmul, decide_eq_true_eq, decide_eq_false_iff_not, Nat.succ_eq_add_one, imp_false, not_false_eq_true, not_true_eq_false, false_imp_iff, true_imp_iff] at *)
              rw [mkV_parts] at hb
              rw [sizeC_mk_ok] at hz
              have : lenL l = l.length := rfl
              have := len_sz l
              have h1 := hz.1.1
              have h2 := hz.1.2
              refine ⟨by omega, ⟨by omega, fun j hj => ?_⟩, by omega⟩
              by_cases e : j = i
              · rw [e]; exact hb
              · exact hi.2 j (by omega)
            · (subst hL; subst hQ; simp only [L2, L3, std] at *; try simp only [sySet, reduceCtorEq, forall_const, Int.reduceToNat, Int.reduceAdd, Int.reduceSub, Int.cast_ofNat_Int, Int.toNat_natCast, Nat.le_eq, Nat.sub_eq, ne_eq, Decidable.not_not, implies_true, true_and, and_true, wadd, wsub, wmul, decide_eq_true_eq, decide_eq_false_iff_not, Nat.succ_eq_add_one, imp_false, not_false_eq_true, not_true_eq_false, false_imp_iff, true_imp_iff] at *)
              have : lenL l = l.length := rfl
              rw [(bareV_iff _ _ _ _).2 ⟨by omega, by omega, fun h => by first | assumption | omega, fun h => by first | assumption | omega, fun h => by first | omega | exact List.eq_nil_of_length_eq_zero (by omega), (bareLs_all l).2 fun j hj => hi.2 j (by omega)⟩]
    · refine ⟨fun h3 => ⟨fun h4 => ?_, fun h4 => ?_⟩, fun h3 => ?_⟩
      · (subst hL; subst hQ; simp only [L2, L3, std] at *; try simp only [sySet, reduceCtorEq, forall_const, Int.reduceToNat, Int.reduceAdd, Int.reduceSub, Int.cast_ofNat_Int, Int.toNat_natCast, Nat.le_eq, Nat.sub_eq, ne_eq, Decidable.not_not, implies_true, true_and, and_true, wadd, wsub, wmul, decide_eq_true_eq, decide_eq_false_iff_not, Nat.succ_eq_add_one, imp_false, not_false_eq_true, not_true_eq_false, false_imp_iff, true_imp_iff] at *)
        rw [bareV_no fun h => h4 (h.2.2.2.1 h3)]
      · refine ⟨fun h5 => ⟨fun h6 => ?_, fun h6 => ?_⟩, fun h5 => ?_⟩
        · (subst hL; subst hQ; simp only [L2, L3, std] at *; try simp only [sySet, reduceCtorEq, forall_const, Int.reduceToNat, Int.reduceAdd, Int.reduceSub, Int.cast_ofNat_Int, Int.toNat_natCast, Nat.le_eq, Nat.sub_eq, ne_eq, Decidable.not_not, implies_true, true_and, and_true, wadd, wsub, wmul, decide_eq_true_eq, decide_eq_false_iff_not, Nat.succ_eq_add_one, imp_false, not_false_eq_true, not_true_eq_false, false_imp_iff, true_imp_iff] at *)
          rw [bareV_no fun h => by
            have := h.2.2.2.2.1 h5
            rw [this] at h6
            exact absurd h6 (by simp [lenL])]
        · refine ⟨⟨0, ?_⟩, fun i hi => ?_⟩
          · (cbv; try simp only [sat_need, sat_must, sat_ite, sat_done, sat_yes, sat_ex, sat_all, sat_sup, sat_and, sat_fail, true_and, and_true])
            (subst hL; subst hQ; simp only [L2, L3, std] at *; try simp only [sySet, reduceCtorEq, forall_const, Int.reduceToNat, Int.reduceAdd, Int.reduceSub, Int.cast_ofNat_Int, Int.toNat_natCast, Nat.le_eq, Nat.sub_eq, ne_eq, Decidable.not_not, implies_true, true_and, and_true, wadd, wsub, wmul, decide_eq_true_eq, decide_eq_false_iff_not, Nat.succ_eq_add_one, imp_false, not_false_eq_true, not_true_eq_false, false_imp_iff, true_imp_iff] at *)
            exact ⟨Nat.zero_le _, fun j hj => by omega⟩
          · cbv at hi
            (cbv; try simp only [sat_need, sat_must, sat_ite, sat_done, sat_yes, sat_ex, sat_all, sat_sup, sat_and, sat_fail, true_and, and_true])
            refine ⟨fun hlt => ⟨?_, ⟨?_, ?_⟩, fun hb => ?_, fun hb => ⟨i + 1, ?_⟩⟩, fun hge => ?_⟩
            · (subst hL; subst hQ; simp only [L2, L3, std] at *; try simp only [sySet, reduceCtorEq, forall_const, Int.reduceToNat, Int.reduceAdd, Int.reduceSub, Int.cast_ofNat_Int, Int.toNat_natCast, Nat.le_eq, Nat.sub_eq, ne_eq, Decidable.not_not, implies_true, true_and, and_true, wadd, wsub, wmul, decide_eq_true_eq, decide_eq_false_iff_not, Nat.succ_eq_add_one, imp_false, not_false_eq_true, not_true_eq_false, false_imp_iff, true_imp_iff] at *)
              omega
            · (subst hL; subst hQ; simp only [L2, L3, std] at *; try simp only [sySet, reduceCtorEq, forall_const, Int.reduceToNat, Int.reduceAdd, Int.reduceSub, Int.cast_ofNat_Int, Int.toNat_natCast, Nat.le_eq, Nat.sub_eq, ne_eq, Decidable.not_not, implies_true, true_and, and_true, wadd, wsub, wmul, decide_eq_true_eq, decide_eq_false_iff_not, Nat.succ_eq_add_one, imp_false, not_false_eq_true, not_true_eq_false, false_imp_iff, true_imp_iff] at *)
              exact (rd_in _).2
            · (subst hL; subst hQ; simp only [L2, L3, std] at *; try simp only [sySet, reduceCtorEq, forall_const, Int.reduceToNat, Int.reduceAdd, Int.reduceSub, Int.cast_ofNat_Int, Int.toNat_natCast, Nat.le_eq, Nat.sub_eq, ne_eq, Decidable.not_not, implies_true, true_and, and_true, wadd, wsub, wmul, decide_eq_true_eq, decide_eq_false_iff_not, Nat.succ_eq_add_one, imp_false, not_false_eq_true, not_true_eq_false, false_imp_iff, true_imp_iff] at *)
              rw [mk_parts]
              rw [sizeC_mk_ok] at hz
              exact nth_sz hz.1 (by have : lenL l = l.length := rfl; omega)
            · (subst hL; subst hQ; simp only [L2, L3, std] at *; try simp only [sySet, reduceCtorEq, forall_const, Int.reduceToNat, Int.reduceAdd, Int.reduceSub, Int.cast_ofNat_Int, Int.toNat_natCast, Nat.le_eq, Nat.sub_eq, ne_eq, Decidable.not_not, implies_true, true_and, and_true, wadd, wsub, wmul, decide_eq_true_eq, decide_eq_false_iff_not, Nat.succ_eq_add_one, imp_false, not_false_eq_true, not_true_eq_false, false_imp_iff, true_imp_iff] at *)
              rw [mkV_parts] at hb
              have : lenL l = l.length := rfl
              rw [bareV_no fun h => by
                have := (bareLs_all l).1 h.2.2.2.2.2 i (by omega)
                rw [hb] at this; cases this]
            · (cbv; try simp only [sat_need, sat_must, sat_ite, sat_done, sat_yes, sat_ex, sat_all, sat_sup, sat_and, sat_fail, true_and, and_true])
              (subst hL; subst hQ; simp only [L2, L3, std] at *; try simp only [sySet, reduceCtorEq, forall_const, Int.reduceToNat, Int.reduceAdd, Int.reduceSub, Int.cast_ofNat_Int, Int.toNat_natCast, Nat.le_eq, Nat.sub_eq, ne_eq, Decidable.not_not, implies_true, true_and, and_true, wadd, wsub, wmul, decide_eq_true_eq, decide_eq_false_iff_not, Nat.succ_eq_add_one, imp_false, not_false_eq_true, not_true_eq_false, false_imp_iff, true_imp_iff] at *)
              rw [mkV_parts] at hb
              rw [sizeC_mk_ok] at hz
              have : lenL l = l.length := rfl
              have := len_sz l
              have h1 := hz.1.1
              have h2 := hz.1.2
              refine ⟨by omega, ⟨by omega, fun j hj => ?_⟩, by omega⟩
              by_cases e : j = i
              · rw [e]; exact hb
              · exact hi.2 j (by omega)
            · (subst hL; subst hQ; simp only [L2, L3, std] at *; try simp only [sySet, reduceCtorEq, forall_const, Int.reduceToNat, Int.reduceAdd, Int.reduceSub, Int.cast_ofNat_Int, Int.toNat_natCast, Nat.le_eq, Nat.sub_eq, ne_eq, Decidable.not_not, implies_true, true_and, and_true, wadd, wsub, wmul, decide_eq_true_eq, decide_eq_false_iff_not, Nat.succ_eq_add_one, imp_false, not_false_eq_true, not_true_eq_false, false_imp_iff, true_imp_iff] at *)
              have : lenL l = l.length := rfl
              rw [(bareV_iff _ _ _ _).2 ⟨by omega, by omega, fun h => by first | assumption | omega, fun h => by first | assumption | omega, fun h => by first | omega | exact List.eq_nil_of_length_eq_zero (by omega), (bareLs_all l).2 fun j hj => hi.2 j (by omega)⟩]
        · refine ⟨⟨0, ?_⟩, fun i hi => ?_⟩
          · (cbv; try simp only [sat_need, sat_must, sat_ite, sat_done, sat_yes, sat_ex, sat_all, sat_sup, sat_and, sat_fail, true_and, and_true])
            (subst hL; subst hQ; simp only [L2, L3, std] at *; try simp only [sySet, reduceCtorEq, forall_const, Int.reduceToNat, Int.reduceAdd, Int.reduceSub, Int.cast_ofNat_Int, Int.toNat_natCast, Nat.le_eq, Nat.sub_eq, ne_eq, Decidable.not_not, implies_true, true_and, and_true, wadd, wsub, wmul, decide_eq_true_eq, decide_eq_false_iff_not, Nat.succ_eq_add_one, imp_false, not_false_eq_true, not_true_eq_false, false_imp_iff, true_imp_iff] at *)
            exact ⟨Nat.zero_le _, fun j hj => by omega⟩
          · cbv at hi
            (cbv; try simp only [sat_need, sat_must, sat_ite, sat_done, sat_yes, sat_ex, sat_all, sat_sup, sat_and, sat_fail, true_and, and_true])
            refine ⟨fun hlt => ⟨?_, ⟨?_, ?_⟩, fun hb => ?_, fun hb => ⟨i + 1, ?_⟩⟩, fun hge => ?_⟩
            · (subst hL; subst hQ; simp only [L2, L3, std] at *; try simp only [sySet, reduceCtorEq, forall_const, Int.reduceToNat, Int.reduceAdd, Int.reduceSub, Int.cast_ofNat_Int, Int.toNat_natCast, Nat.le_eq, Nat.sub_eq, ne_eq, Decidable.not_not, implies_true, true_and, and_true, wadd, wsub, wmul, decide_eq_true_eq, decide_eq_false_iff_not, Nat.succ_eq_add_one, imp_false, not_false_eq_true, not_true_eq_false, false_imp_iff, true_imp_iff] at *)
              omega
            · (subst hL; subst hQ; simp only [L2, L3, std] at *; try simp only [sySet, reduceCtorEq, forall_const, Int.reduceToNat, Int.reduceAdd, Int.reduceSub, Int.cast_ofNat_Int, Int.toNat_natCast, Nat.le_eq, Nat.sub_eq, ne_eq, Decidable.not_not, implies_true, true_and, and_true, wadd, wsub, wmul, decide_eq_true_eq, decide_eq_false_iff_not, Nat.succ_eq_add_one, imp_false, not_false_eq_true, not_true_eq_false, false_imp_iff, true_imp_iff] at *)
              exact (rd_in _).2
            · (subst hL; subst hQ; simp only [L2, L3, std] at *; try simp only [sySet, reduceCtorEq, forall_const, Int.reduceToNat, Int.reduceAdd, Int.reduceSub, Int.cast_ofNat_Int, Int.toNat_natCast, Nat.le_eq, Nat.sub_eq, ne_eq, Decidable.not_not, implies_true, true_and, and_true, wadd, wsub, wmul, decide_eq_true_eq, decide_eq_false_iff_not, Nat.succ_eq_add_one, imp_false, not_false_eq_true, not_true_eq_false, false_imp_iff, true_imp_iff] at *)
              rw [mk_parts]
              rw [sizeC_mk_ok] at hz
              exact nth_sz hz.1 (by have : lenL l = l.length := rfl; omega)
            · (subst hL; subst hQ; simp only [L2, L3, std] at *; try simp only [sySet, reduceCtorEq, forall_const, Int.reduceToNat, Int.reduceAdd, Int.reduceSub, Int.cast_ofNat_Int, Int.toNat_natCast, Nat.le_eq, Nat.sub_eq, ne_eq, Decidable.not_not, implies_true, true_and, and_true, wadd, wsub, wmul, decide_eq_true_eq, decide_eq_false_iff_not, Nat.succ_eq_add_one, imp_false, not_false_eq_true, not_true_eq_false, false_imp_iff, true_imp_iff] at *)
              rw [mkV_parts] at hb
              have : lenL l = l.length := rfl
              rw [bareV_no fun h => by
                have := (bareLs_all l).1 h.2.2.2.2.2 i (by omega)
                rw [hb] at this; cases this]
            · (cbv; try simp only [sat_need, sat_must, sat_ite, sat_done, sat_yes, sat_ex, sat_all, sat_sup, sat_and, sat_fail, true_and, and_true])
              (subst hL; subst hQ; simp only [L2, L3, std] at *; try simp only [sySet, reduceCtorEq, forall_const, Int.reduceToNat, Int.reduceAdd, Int.reduceSub, Int.cast_ofNat_Int, Int.toNat_natCast, Nat.le_eq, Nat.sub_eq, ne_eq, Decidable.not_not, implies_true, true_and, and_true, wadd, wsub, wmul, decide_eq_true_eq, decide_eq_false_iff_not, Nat.succ_eq_add_one, imp_false, not_false_eq_true, not_true_eq_false, false_imp_iff, true_imp_iff] at *)
              rw [mkV_parts] at hb
              rw [sizeC_mk_ok] at hz
              have : lenL l = l.length := rfl
              have := len_sz l
              have h1 := hz.1.1
              have h2 := hz.1.2
              refine ⟨by omega, ⟨by omega, fun j hj => ?_⟩, by omega⟩
              by_cases e : j = i
              · rw [e]; exact hb
              · exact hi.2 j (by omega)
            · (subst hL; subst hQ; simp only [L2, L3, std] at *; try simp only [sySet, reduceCtorEq, forall_const, Int.reduceToNat, Int.reduceAdd, Int.reduceSub, Int.cast_ofNat_Int, Int.toNat_natCast, Nat.le_eq, Nat.sub_eq, ne_eq, Decidable.not_not, implies_true, true_and, and_true, wadd, wsub, wmul, decide_eq_true_eq, decide_eq_false_iff_not, Nat.succ_eq_add_one, imp_false, not_false_eq_true, not_true_eq_false, false_imp_iff, true_imp_iff] at *)
              have : lenL l = l.length := rfl
              rw [(bareV_iff _ _ _ _).2 ⟨by omega, by omega, fun h => by first | assumption | omega, fun h => by first | assumption | omega, fun h => by first | omega | exact List.eq_nil_of_length_eq_zero (by omega), (bareLs_all l).2 fun j hj => hi.2 j (by omega)⟩]
      · refine ⟨fun h5 => ⟨fun h6 => ?_, fun h6 => ?_⟩, fun h5 => ?_⟩
        · (subst hL; subst hQ; simp only [L2, L3, std] at *; try simp only [sySet, reduceCtorEq, forall_const, Int.reduceToNat, Int.reduceAdd, Int.reduceSub, Int.cast_ofNat_Int, Int.toNat_natCast, Nat.le_eq, Nat.sub_eq, ne_eq, Decidable.not_not, implies_true, true_and, and_true, wadd, wsub, wmul, decide_eq_true_eq, decide_eq_false_iff_not, Nat.succ_eq_add_one, imp_false, not_false_eq_true, not_true_eq_false, false_imp_iff, true_imp_iff] at *)
          rw [bareV_no fun h => by
            have := h.2.2.2.2.1 h5
            rw [this] at h6
            exact absurd h6 (by simp [lenL])]
        · refine ⟨⟨0, ?_⟩, fun i hi => ?_⟩
          · (cbv; try simp only [sat_need, sat_must, sat_ite, sat_done, sat_yes, sat_ex, sat_all, sat_sup, sat_and, sat_fail, true_and, and_true])
            (subst hL; subst hQ; simp only [L2, L3, std] at *; try simp only [sySet, reduceCtorEq, forall_const, Int.reduceToNat, Int.reduceAdd, Int.reduceSub, Int.cast_ofNat_Int, Int.toNat_natCast, Nat.le_eq, Nat.sub_eq, ne_eq, Decidable.not_not, implies_true, true_and, and_true, wadd, wsub, wmul, decide_eq_true_eq, decide_eq_false_iff_not, Nat.succ_eq_add_one, imp_false, not_false_eq_true, not_true_eq_false, false_imp_iff, true_imp_iff] at *)
            exact ⟨Nat.zero_le _, fun j hj => by omega⟩
          · cbv at hi
            (cbv; try simp only [sat_need, sat_must, sat_ite, sat_done, sat_yes, sat_ex, sat_all, sat_sup, sat_and, sat_fail, true_and, and_true])
            refine ⟨fun hlt => ⟨?_, ⟨?_, ?_⟩, fun hb => ?_, fun hb => ⟨i + 1, ?_⟩⟩, fun hge => ?_⟩
            · (subst hL; subst hQ; simp only [L2, L3, std] at *; try simp only [sySet, reduceCtorEq, forall_const, Int.reduceToNat, Int.reduceAdd, Int.reduceSub, Int.cast_ofNat_Int, Int.toNat_natCast, Nat.le_eq, Nat.sub_eq, ne_eq, Decidable.not_not, implies_true, true_and, and_true, wadd, wsub, wmul, decide_eq_true_eq, decide_eq_false_iff_not, Nat.succ_eq_add_one, imp_false, not_false_eq_true, not_true_eq_false, false_imp_iff, true_imp_iff] at *)
              omega
            · (subst hL; subst hQ; simp only [L2, L3, std] at *; try simp only [sySet, reduceCtorEq, forall_const, Int.reduceToNat, Int.reduceAdd, Int.reduceSub, Int.cast_ofNat_Int, Int.toNat_natCast, Nat.le_eq, Nat.sub_eq, ne_eq, Decidable.not_not, implies_true, true_and, and_true, wadd, wsub, wmul, decide_eq_true_eq, decide_eq_false_iff_not, Nat.succ_eq_add_one, imp_false, not_false_eq_true, not_true_eq_false, false_imp_iff, true_imp_iff] at *)
              exact (rd_in _).2
            · (subst hL; subst hQ; simp only [L2, L3, std] at *; try simp only [sySet, reduceCtorEq, forall_const, Int.reduceToNat, Int.reduceAdd, Int.reduceSub, Int.cast_ofNat_Int, Int.toNat_natCast, Nat.le_eq, Nat.sub_eq, ne_eq, Decidable.not_not, implies_true, true_and, and_true, wadd, wsub, wmul, decide_eq_true_eq, decide_eq_false_iff_not, Nat.succ_eq_add_one, imp_false, not_false_eq_true, not_true_eq_false, false_imp_iff, true_imp_iff] at *)
              rw [mk_parts]
              rw [sizeC_mk_ok] at hz
              exact nth_sz hz.1 (by have : lenL l = l.length := rfl; omega)
            · (subst hL; subst hQ; simp only [L2, L3, std] at *; try simp only [sySet, reduceCtorEq, forall_const, Int.reduceToNat, Int.reduceAdd, Int.reduceSub, Int.cast_ofNat_Int, Int.toNat_natCast, Nat.le_eq, Nat.sub_eq, ne_eq, Decidable.not_not, implies_true, true_and, and_true, wadd, wsub, wmul, decide_eq_true_eq, decide_eq_false_iff_not, Nat.succ_eq_add_one, imp_false, not_false_eq_true, not_true_eq_false, false_imp_iff, true_imp_iff] at *)
              rw [mkV_parts] at hb
              have : lenL l = l.length := rfl
              rw [bareV_no fun h => by
                have := (bareLs_all l).1 h.2.2.2.2.2 i (by omega)
                rw [hb] at this; cases this]
            · (cbv; try simp only [sat_need, sat_must, sat_ite, sat_done, sat_yes, sat_ex, sat_all, sat_sup, sat_and, sat_fail, true_and, and_true])
              (subst hL; subst hQ; simp only [L2, L3, std] at *; try simp only [sySet, reduceCtorEq, forall_const, Int.reduceToNat, Int.reduceAdd, Int.reduceSub, Int.cast_ofNat_Int, Int.toNat_natCast, Nat.le_eq, Nat.sub_eq, ne_eq, Decidable.not_not, implies_true, true_and, and_true, wadd, wsub, wmul, decide_eq_true_eq, decide_eq_false_iff_not, Nat.succ_eq_add_one, imp_false, not_false_eq_true, not_true_eq_false, false_imp_iff, true_imp_iff] at *)
              rw [mkV_parts] at hb
              rw [sizeC_mk_ok] at hz
              have : lenL l = l.length := rfl
              have := len_sz l
              have h1 := hz.1.1
              have h2 := hz.1.2
              refine ⟨by omega, ⟨by omega, fun j hj => ?_⟩, by omega⟩
              by_cases e : j = i
              · rw [e]; exact hb
              · exact hi.2 j (by omega)
            · (subst hL; subst hQ; simp only [L2, L3, std] at *; try simp only [sySet, reduceCtorEq, forall_const, Int.reduceToNat, Int.reduceAdd, Int.reduceSub, Int.cast_ofNat_Int, Int.toNat_natCast, Nat.le_eq, Nat.sub_eq, ne_eq, Decidable.not_not, implies_true, true_and, and_true, wadd, wsub, wmul, decide_eq_true_eq, decide_eq_false_iff_not, Nat.succ_eq_add_one, imp_false, not_false_eq_true, not_true_eq_false, false_imp_iff, true_imp_iff] at *)
              have : lenL l = l.length := rfl
              rw [(bareV_iff _ _ _ _).2 ⟨by omega, by omega, fun h => by first | assumption | omega, fun h => by first | assumption | omega, fun h => by first | omega | exact List.eq_nil_of_length_eq_zero (by omega), (bareLs_all l).2 fun j hj => hi.2 j (by omega)⟩]
        · refine ⟨⟨0, ?_⟩, fun i hi => ?_⟩
          · (cbv; try simp only [sat_need, sat_must, sat_ite, sat_done, sat_yes, sat_ex, sat_all, sat_sup, sat_and, sat_fail, true_and, and_true])
            (subst hL; subst hQ; simp only [L2, L3, std] at *; try simp only [sySet, reduceCtorEq, forall_const, Int.reduceToNat, Int.reduceAdd, Int.reduceSub, Int.cast_ofNat_Int, Int.toNat_natCast, Nat.le_eq, Nat.sub_eq, ne_eq, Decidable.not_not, implies_true, true_and, and_true, wadd, wsub, wmul, decide_eq_true_eq, decide_eq_false_iff_not, Nat.succ_eq_add_one, imp_false, not_false_eq_true, not_true_eq_false, false_imp_iff, true_imp_iff] at *)
            exact ⟨Nat.zero_le _, fun j hj => by omega⟩
          · cbv at hi
            (cbv; try simp only [sat_need, sat_must, sat_ite, sat_done, sat_yes, sat_ex, sat_all, sat_sup, sat_and, sat_fail, true_and, and_true])
            refine ⟨fun hlt => ⟨?_, ⟨?_, ?_⟩, fun hb => ?_, fun hb => ⟨i + 1, ?_⟩⟩, fun hge => ?_⟩
            · (subst hL; subst hQ; simp only [L2, L3, std] at *; try simp only [sySet, reduceCtorEq, forall_const, Int.reduceToNat, Int.reduceAdd, Int.reduceSub, Int.cast_ofNat_Int, Int.toNat_natCast, Nat.le_eq, Nat.sub_eq, ne_eq, Decidable.not_not, implies_true, true_and, and_true, wadd, wsub, wmul, decide_eq_true_eq, decide_eq_false_iff_not, Nat.succ_eq_add_one, imp_false, not_false_eq_true, not_true_eq_false, false_imp_iff, true_imp_iff] at *)
              omega
            · (subst hL; subst hQ; simp only [L2, L3, std] at *; try simp only [sySet, reduceCtorEq, forall_const, Int.reduceToNat, Int.reduceAdd, Int.reduceSub, Int.cast_ofNat_Int, Int.toNat_natCast, Nat.le_eq, Nat.sub_eq, ne_eq, Decidable.not_not, implies_true, true_and, and_true, wadd, wsub, wmul, decide_eq_true_eq, decide_eq_false_iff_not, Nat.succ_eq_add_one, imp_false, not_false_eq_true, not_true_eq_false, false_imp_iff, true_imp_iff] at *)
              exact (rd_in _).2
            · (subst hL; subst hQ; simp only [L2, L3, std] at *; try simp only [sySet, reduceCtorEq, forall_const, Int.reduceToNat, Int.reduceAdd, Int.reduceSub, Int.cast_ofNat_Int, Int.toNat_natCast, Nat.le_eq, Nat.sub_eq, ne_eq, Decidable.not_not, implies_true, true_and, and_true, wadd, wsub, wmul, decide_eq_true_eq, decide_eq_false_iff_not, Nat.succ_eq_add_one, imp_false, not_false_eq_true, not_true_eq_false, false_imp_iff, true_imp_iff] at *)
              rw [mk_parts]
              rw [sizeC_mk_ok] at hz
              exact nth_sz hz.1 (by have : lenL l = l.length := rfl; omega)
            · (subst hL; subst hQ; simp only [L2, L3, std] at *; try simp only [sySet, reduceCtorEq, forall_const, Int.reduceToNat, Int.reduceAdd, Int.reduceSub, Int.cast_ofNat_Int, Int.toNat_natCast, Nat.le_eq, Nat.sub_eq, ne_eq, Decidable.not_not, implies_true, true_and, and_true, wadd, wsub, wmul, decide_eq_true_eq, decide_eq_false_iff_not, Nat.succ_eq_add_one, imp_false, not_false_eq_true, not_true_eq_false, false_imp_iff, true_imp_iff] at *)
              rw [mkV_parts] at hb
              have : lenL l = l.length := rfl
              rw [bareV_no fun h => by
                have := (bareLs_all l).1 h.2.2.2.2.2 i (by omega)
                rw [hb] at this; cases this]
            · (cbv; try simp only [sat_need, sat_must, sat_ite, sat_done, sat_yes, sat_ex, sat_all, sat_sup, sat_and, sat_fail, true_and, and_true])
              (subst hL; subst hQ; simp only [L2, L3, std] at *; try simp only [sySet, reduceCtorEq, forall_const, Int.reduceToNat, Int.reduceAdd, Int.reduceSub, Int.cast_ofNat_Int, Int.toNat_natCast, Nat.le_eq, Nat.sub_eq, ne_eq, Decidable.not_not, implies_true, true_and, and_true, wadd, wsub, wmul, decide_eq_true_eq, decide_eq_false_iff_not, Nat.succ_eq_add_one, imp_false, not_false_eq_true, not_true_eq_false, false_imp_iff, true_imp_iff] at *)
              rw [mkV_parts] at hb
              rw [sizeC_mk_ok] at hz
              have : lenL l = l.length := rfl
              have := len_sz l
              have h1 := hz.1.1
              have h2 := hz.1.2
              refine ⟨by omega, ⟨by omega, fun j hj => ?_⟩, by omega⟩
              by_cases e : j = i
              · rw [e]; exact hb
              · exact hi.2 j (by omega)
            · (subst hL; subst hQ; simp only [L2, L3, std] at *; try simp only [sySet, reduceCtorEq, forall_const, Int.reduceToNat, Int.reduceAdd, Int.reduceSub, Int.cast_ofNat_Int, Int.toNat_natCast, Nat.le_eq, Nat.sub_eq, ne_eq, Decidable.not_not, implies_true, true_and, and_true, wadd, wsub, wmul, decide_eq_true_eq, decide_eq_false_iff_not, Nat.succ_eq_add_one, imp_false, not_false_eq_true, not_true_eq_false, false_imp_iff, true_imp_iff] at *)
              have : lenL l = l.length := rfl
              rw [(bareV_iff _ _ _ _).2 ⟨by omega, by omega, fun h => by first | assumption | omega, fun h => by first | assumption | omega, fun h => by first | omega | exact List.eq_nil_of_length_eq_zero (by omega), (bareLs_all l).2 fun j hj => hi.2 j (by omega)⟩]
end Sy
end Go.Proofs.Ythlggigjnpldcaa
namespace Go.Proofs.Ythlggigjnpldcaa
namespace Sy
open Go Go.RowKit
set_option maxRecDepth 100000
set_option linter.unusedSimpArgs false
set_option linter.unusedVariables false

theorem shortL_len : ∀ (k n : Nat), n < 128 ^ (k + 1) → (shortL n).length ≤ k + 1
  | 0, n, h => by rw [shortL_small (by omega)]; simp
  | k + 1, n, h => by
    by_cases h1 : n < 128
    · rw [shortL_small h1]; simp
    · rw [shortL_big (by omega), List.length_cons]
      have := shortL_len k (n / 128) (by rw [Nat.div_lt_iff_lt_mul (by omega)]; rw [Nat.pow_succ] at h; exact h)
      omega
theorem shortZ_len {n : Int} (h : shortOk n) : (shortZ n).length ≤ 10 := shortL_len 9 n.toNat (by
  have := h.2
  have := h.1
  rw [show (128 : Nat) ^ (9 + 1) = 1180591620717411303424 from by decide]
  omega)
theorem bytes1 (a : Int) : bytesOf 1 (fun i => (AV.int .u8 (nthI [a] (0 + i))).toI) = [UInt8.ofNat a.toNat] := rfl
def shInv (n x : Int) (p : List UInt8) : Prop := shortOk x ∧ p ++ shortZ x = shortZ n
def rshA (L : Seal) (n : Int) : Nat → St → Option Ann := fun id s => match id with
  | 0 => some ⟨Int × List UInt8, fun x => [(0, .int .u64 x.1), (3, .str x.2)], fun i => [], [], [],
      fun x => L3 L shInv n x.1 x.2, fun x => L Int.toNat x.1⟩
  | _ => none
def rshort_s (L : Seal) : Ent1 := (85, fun xs => match xs with | [.int .u64 n] => some (L shortOk n, .str (L shortZ n)) | _ => none)
theorem shortZ_big {x : Int} (h : shortOk x) (hx : 127 < x) : shortZ x = UInt8.ofNat (x % 128 + 128).toNat :: shortZ (x / 128) := by
  have := h.1
  unfold shortZ
  rw [shortL_big (by omega)]
  congr 1
  · congr 1; omega
  · congr 1; omega
theorem shortZ_small {x : Int} (h : shortOk x) (hx : x ≤ 127) : shortZ x = [UInt8.ofNat x.toNat] := by
  have := h.1
  unfold shortZ
  exact shortL_small (by omega)
theorem rshort_good : Good Try.prog (rshort_s std) := by
  intro xs p r h hp
  unfold rshort_s at h
  simp only at h
  split at h
  rotate_left
  · cases h
  rename_i n
  cases h
  have hn : shortOk n := hp
  have hl := shortZ_len hn
  refine acalls_L (T := tt) (S := noS) (lo := fun L => rshA L n) (lb := noA) 5 (fn := Try.f85) rfl rfl (by kernel_rfl) (by kernel_rfl) rfl tt_ok (noS_ok _) (by kernel_rfl) ?_
  intro L P' Q' hL hP hQ
  (cbv; try simp only [sat_need, sat_must, sat_ite, sat_done, sat_yes, sat_ex, sat_all, sat_sup, sat_and, sat_fail, true_and, and_true])
  refine ⟨⟨(n, []), ?_⟩, fun x hx => ?_⟩
  · (cbv; try simp only [sat_need, sat_must, sat_ite, sat_done, sat_yes, sat_ex, sat_all, sat_sup, sat_and, sat_fail, true_and, and_true])
    (subst hL; subst hQ; simp only [L2, L3, std] at *; try simp only [sySet, reduceCtorEq, forall_const, Int.reduceToNat, Int.reduceAdd, Int.reduceSub, Int.cast_ofNat_Int, Int.toNat_natCast, Nat.le_eq, Nat.sub_eq, ne_eq, Decidable.not_not, implies_true, true_and, and_true, wadd, wsub, wmul, decide_eq_true_eq, decide_eq_false_iff_not, Nat.succ_eq_add_one, imp_false, not_false_eq_true, not_true_eq_false, false_imp_iff, true_imp_iff] at *)
    exact ⟨hn, rfl⟩
  · cbv at hx
    obtain ⟨x, pre⟩ := x
    (cbv; try simp only [sat_need, sat_must, sat_ite, sat_done, sat_yes, sat_ex, sat_all, sat_sup, sat_and, sat_fail, true_and, and_true])
    obtain ⟨x', hx'⟩ : ∃ x', x' = x / 128 := ⟨_, rfl⟩
    obtain ⟨p', hp'⟩ : ∃ p', p' = pre ++ [UInt8.ofNat (x % 128 + 128).toNat] := ⟨_, rfl⟩
    refine ⟨fun h => ⟨?_, ?_, ?_, ?_, ⟨(x', p'), ?_⟩⟩, fun h => ⟨?_, ?_, ?_⟩⟩
    · (subst hL; subst hQ; simp only [L2, L3, std] at *; try simp only [sySet, reduceCtorEq, forall_const, Int.reduceToNat, Int.reduceAdd, Int.reduceSub, Int.cast_ofNat_Int, Int.toNat_natCast, Nat.le_eq, Nat.sub_eq, ne_eq, Decidable.not_not, implies_true, true_and, and_true, wadd, wsub, wmul, decide_eq_true_eq, decide_eq_false_iff_not, Nat.succ_eq_add_one, imp_false, not_false_eq_true, not_true_eq_false, false_imp_iff, true_imp_iff] at *)
      omega
    · (subst hL; subst hQ; simp only [L2, L3, std] at *; try simp only [sySet, reduceCtorEq, forall_const, Int.reduceToNat, Int.reduceAdd, Int.reduceSub, Int.cast_ofNat_Int, Int.toNat_natCast, Nat.le_eq, Nat.sub_eq, ne_eq, Decidable.not_not, implies_true, true_and, and_true, wadd, wsub, wmul, decide_eq_true_eq, decide_eq_false_iff_not, Nat.succ_eq_add_one, imp_false, not_false_eq_true, not_true_eq_false, false_imp_iff, true_imp_iff] at *)
      exact ⟨Nat.le_refl _, fun i hi => ⟨_, rfl⟩⟩
    · (subst hL; subst hQ; simp only [L2, L3, std] at *; try simp only [sySet, reduceCtorEq, forall_const, Int.reduceToNat, Int.reduceAdd, Int.reduceSub, Int.cast_ofNat_Int, Int.toNat_natCast, Nat.le_eq, Nat.sub_eq, ne_eq, Decidable.not_not, implies_true, true_and, and_true, wadd, wsub, wmul, decide_eq_true_eq, decide_eq_false_iff_not, Nat.succ_eq_add_one, imp_false, not_false_eq_true, not_true_eq_false, false_imp_iff, true_imp_iff] at *)
      rw [bytes1]
      have := congrArg List.length hx.2
      rw [List.length_append] at this
      simp; omega
    · (subst hL; subst hQ; simp only [L2, L3, std] at *; try simp only [sySet, reduceCtorEq, forall_const, Int.reduceToNat, Int.reduceAdd, Int.reduceSub, Int.cast_ofNat_Int, Int.toNat_natCast, Nat.le_eq, Nat.sub_eq, ne_eq, Decidable.not_not, implies_true, true_and, and_true, wadd, wsub, wmul, decide_eq_true_eq, decide_eq_false_iff_not, Nat.succ_eq_add_one, imp_false, not_false_eq_true, not_true_eq_false, false_imp_iff, true_imp_iff] at *)
      omega
    · (cbv; try simp only [sat_need, sat_must, sat_ite, sat_done, sat_yes, sat_ex, sat_all, sat_sup, sat_and, sat_fail, true_and, and_true])
      (subst hL; subst hQ; simp only [L2, L3, std] at *; try simp only [sySet, reduceCtorEq, forall_const, Int.reduceToNat, Int.reduceAdd, Int.reduceSub, Int.cast_ofNat_Int, Int.toNat_natCast, Nat.le_eq, Nat.sub_eq, ne_eq, Decidable.not_not, implies_true, true_and, and_true, wadd, wsub, wmul, decide_eq_true_eq, decide_eq_false_iff_not, Nat.succ_eq_add_one, imp_false, not_false_eq_true, not_true_eq_false, false_imp_iff, true_imp_iff] at *)
      rw [bytes1]
      have h0 := hx.1.1
      have h1 := hx.1.2
      have e1 : x.tmod 128 = x % 128 := Int.tmod_eq_emod_of_nonneg h0
      have e2 : x.tdiv 128 = x / 128 := Int.tdiv_eq_ediv_of_nonneg h0
      have e3 := hx.2
      rw [shortZ_big hx.1 h] at e3
      refine ⟨?_, ?_, ⟨⟨by omega, by omega⟩, ?_⟩, by omega⟩
      · have e4 : (x % 128 + 128) % 18446744073709551616 % 256 = x % 128 + 128 := by omega
        rw [hp', e1, e4]
      · rw [wquo64, w_u64, e2, hx']
        exact Int.emod_eq_of_lt (by omega) (by omega)
      · rw [hp', hx', List.append_assoc]; exact e3
    · (subst hL; subst hQ; simp only [L2, L3, std] at *; try simp only [sySet, reduceCtorEq, forall_const, Int.reduceToNat, Int.reduceAdd, Int.reduceSub, Int.cast_ofNat_Int, Int.toNat_natCast, Nat.le_eq, Nat.sub_eq, ne_eq, Decidable.not_not, implies_true, true_and, and_true, wadd, wsub, wmul, decide_eq_true_eq, decide_eq_false_iff_not, Nat.succ_eq_add_one, imp_false, not_false_eq_true, not_true_eq_false, false_imp_iff, true_imp_iff] at *)
      exact ⟨Nat.le_refl _, fun i hi => ⟨_, rfl⟩⟩
    · (subst hL; subst hQ; simp only [L2, L3, std] at *; try simp only [sySet, reduceCtorEq, forall_const, Int.reduceToNat, Int.reduceAdd, Int.reduceSub, Int.cast_ofNat_Int, Int.toNat_natCast, Nat.le_eq, Nat.sub_eq, ne_eq, Decidable.not_not, implies_true, true_and, and_true, wadd, wsub, wmul, decide_eq_true_eq, decide_eq_false_iff_not, Nat.succ_eq_add_one, imp_false, not_false_eq_true, not_true_eq_false, false_imp_iff, true_imp_iff] at *)
      rw [bytes1]
      have := congrArg List.length hx.2
      rw [List.length_append] at this
      have := (shortZ_small hx.1 h)
      simp; omega
    · (subst hL; subst hQ; simp only [L2, L3, std] at *; try simp only [sySet, reduceCtorEq, forall_const, Int.reduceToNat, Int.reduceAdd, Int.reduceSub, Int.cast_ofNat_Int, Int.toNat_natCast, Nat.le_eq, Nat.sub_eq, ne_eq, Decidable.not_not, implies_true, true_and, and_true, wadd, wsub, wmul, decide_eq_true_eq, decide_eq_false_iff_not, Nat.succ_eq_add_one, imp_false, not_false_eq_true, not_true_eq_false, false_imp_iff, true_imp_iff] at *)
      rw [bytes1, ← hx.2, shortZ_small hx.1 h]
      have h0 := hx.1.1
      congr 3; omega

/-! ### Text -/
mutual
def wfV : CV → Prop
  | .mk _ n s l => shortOk n ∧ s.length ≤ 9223372036854775807 ∧ wfLs l
def wfLs : List CV → Prop
  | [] => True
  | v :: l => wfV v ∧ wfLs l
end
theorem wf_nth : ∀ {l : List CV} {i : Nat}, wfLs l → i < l.length → wfV (nthV l i)
  | [], i, _, h => by simp at h
  | v :: l, 0, w, _ => by rw [wfLs] at w; exact w.1
  | v :: l, i + 1, w, h => by rw [wfLs] at w; exact wf_nth (l := l) w.2 (by simpa using h)
theorem textTo_len (l : List CV) : ∀ i, (textTo l i).length ≤ (textLs l).length := by
  intro i
  have := textLs_app (l.take i) (l.drop i)
  rw [List.take_append_drop] at this
  rw [this, List.length_append, textTo]; omega
theorem textV_mk (k n : Int) (s : List UInt8) (l : List CV) : textV (.mk k n s l) = byteK k ++ if k = 1 then shortZ n else if k = 2 then shortZ s.length ++ s else shortZ l.length ++ textLs l := by rw [textV]
def txOk (v : CV) : Prop := wfV v ∧ (textV v).length ≤ 90000000
theorem wf_mk {k n : Int} {s : List UInt8} {l : List CV} : txOk (.mk k n s l) = ((shortOk n ∧ s.length ≤ 9223372036854775807 ∧ wfLs l) ∧ (textV (.mk k n s l)).length ≤ 90000000) := by
  unfold txOk; rw [wfV]
theorem u64_small {x : Int} (h : 0 ≤ x) (h1 : x < 18446744073709551616) : x % 18446744073709551616 = x := Int.emod_eq_of_lt h h1
theorem u64_len {k n : Int} {s : List UInt8} {l : List CV} (h : wfV (.mk k n s l)) : (s.length : Int) % 18446744073709551616 = s.length := by
  rw [wfV] at h
  exact u64_small (by omega) (by omega)
theorem cvs_short {N : Nat} {k n : Int} {s : List UInt8} {l : List CV} (h : szOk (N + 1) (.mk k n s l)) : shortOk ((l.length : Nat) : Int) := by
  rw [sizeC_mk_ok] at h
  have := len_sz l
  have h1 := h.1.1
  have h2 := h.1.2
  exact ⟨by omega, by omega⟩
theorem u64_cvs {N : Nat} {k n : Int} {s : List UInt8} {l : List CV} (h : szOk (N + 1) (.mk k n s l)) : ((lenL l : Nat) : Int) % 18446744073709551616 = ((l.length : Nat) : Int) := by
  have := cvs_short h
  exact u64_small this.1 this.2
theorem tx_nth {k n : Int} {s : List UInt8} {l : List CV} (h : txOk (.mk k n s l)) (h1 : k ≠ 1) (h2 : k ≠ 2) {i : Nat} (hi : i < l.length) : txOk (nthV l i) := by
  rw [wf_mk] at h
  refine ⟨wf_nth h.1.2.2 hi, ?_⟩
  have h3 := h.2
  have h4 := textTo_succ hi
  have h5 := textTo_len l (i + 1)
  rw [h4, List.length_append] at h5
  rw [textV_mk, if_neg h1, if_neg h2] at h3
  simp only [List.length_append] at h3
  omega
def rtextX (k : Int) (l : List CV) (i : Nat) : List UInt8 := byteK k ++ shortZ l.length ++ textTo l i
def rtextA (L : Seal) (k : Int) (l : List CV) : Nat → St → Option Ann := fun id s => match id with
  | 0 => some ⟨Nat, fun i => [(42, .int .i64 (L natI i)), (3, .str (L3 L rtextX k l i))], fun i => [], [40, 41], [],
      fun i => L2 L (fun (l : List CV) i => i ≤ l.length) l i, fun i => L2 L (fun (l : List CV) (i : Nat) => l.length - i) l i⟩
  | _ => none
def rtext_s (N : Nat) (L : Seal) : Ent1 := (52, fun xs => match xs with
  | [.agg [.int .i64 k, .int .u64 n, .str s, x]] => some (L okL x ∧ L2 L szOk N (mkV L k n s x) ∧ L txOk (mkV L k n s x), .str (L textV (mkV L k n s x)))
  | _ => none)
theorem rtext_good : ∀ N, Good Try.prog (rtext_s N std) := by
  intro N
  induction N with
  | zero =>
    intro xs p r h hp
    unfold rtext_s at h
    simp only at h
    split at h
    · rename_i k n s x
      cases h
      have h1 : sizeC (mkV std k n s x) ≤ 0 := hp.2.1.1
      have := sizeC_pos (mkV std k n s x)
      omega
    · cases h
  | succ N ih =>
    intro xs p r h hp
    unfold rtext_s at h
    simp only at h
    split at h
    rotate_left
    · cases h
    rename_i k n s x
    cases h
    obtain ⟨ho, hz, hw⟩ := hp
    refine ac_v ho ?_
    rw [show mkV std k n s x = .mk k n s (rdL x) from rfl] at hz hw ⊢
    generalize rdL x = l at hz hw ⊢
    have hz : szOk (N + 1) (.mk k n s l) := hz
    have hw : txOk (.mk k n s l) := hw
    refine acalls_L' (T := tt) (S := fun L => sumOf [rshort_s L, rtext_s N L]) (lo := fun L => rtextA L k l) (lb := noA) 5 (fn := Try.f52) (xs := fun L => [.agg [.int .i64 k, .int .u64 n, .str s, cvL L l]]) rfl rfl (by kernel_rfl) (by kernel_rfl) rfl tt_ok
      (sumOf_ok ⟨rshort_good, ih, trivial⟩) (by kernel_rfl) ?_
    intro L P' Q' hL hP hQ
    (cbv; try simp only [sat_need, sat_must, sat_ite, sat_done, sat_yes, sat_ex, sat_all, sat_sup, sat_and, sat_fail, true_and, and_true])
    refine ⟨?_, fun h1 => ⟨?_, ?_, ?_⟩, fun h1 => ⟨fun h2 => ⟨?_, ?_, ?_, ?_⟩, fun h2 => ⟨?_, ?_, ⟨0, ?_⟩, fun i hi => ?_⟩⟩⟩
    · (subst hL; subst hQ; simp only [L2, L3, std] at *; try simp only [sySet, reduceCtorEq, forall_const, Int.reduceToNat, Int.reduceAdd, Int.reduceSub, Int.cast_ofNat_Int, Int.toNat_natCast, Nat.le_eq, Nat.sub_eq, ne_eq, Decidable.not_not, implies_true, true_and, and_true, wadd, wsub, wmul, decide_eq_true_eq, decide_eq_false_iff_not, Nat.succ_eq_add_one, imp_false, not_false_eq_true, not_true_eq_false, false_imp_iff, true_imp_iff] at *)
      exact ⟨Nat.le_refl _, fun i hi => ⟨_, rfl⟩⟩
    · (subst hL; subst hQ; simp only [L2, L3, std] at *; try simp only [sySet, reduceCtorEq, forall_const, Int.reduceToNat, Int.reduceAdd, Int.reduceSub, Int.cast_ofNat_Int, Int.toNat_natCast, Nat.le_eq, Nat.sub_eq, ne_eq, Decidable.not_not, implies_true, true_and, and_true, wadd, wsub, wmul, decide_eq_true_eq, decide_eq_false_iff_not, Nat.succ_eq_add_one, imp_false, not_false_eq_true, not_true_eq_false, false_imp_iff, true_imp_iff] at *)
      rw [wf_mk] at hw
      exact hw.1.1
    · (subst hL; subst hQ; simp only [L2, L3, std] at *; try simp only [sySet, reduceCtorEq, forall_const, Int.reduceToNat, Int.reduceAdd, Int.reduceSub, Int.cast_ofNat_Int, Int.toNat_natCast, Nat.le_eq, Nat.sub_eq, ne_eq, Decidable.not_not, implies_true, true_and, and_true, wadd, wsub, wmul, decide_eq_true_eq, decide_eq_false_iff_not, Nat.succ_eq_add_one, imp_false, not_false_eq_true, not_true_eq_false, false_imp_iff, true_imp_iff] at *)
      rw [bytes1]
      rw [wf_mk] at hw
      have := shortZ_len hw.1.1
      simp; omega
    · (subst hL; subst hQ; simp only [L2, L3, std] at *; try simp only [sySet, reduceCtorEq, forall_const, Int.reduceToNat, Int.reduceAdd, Int.reduceSub, Int.cast_ofNat_Int, Int.toNat_natCast, Nat.le_eq, Nat.sub_eq, ne_eq, Decidable.not_not, implies_true, true_and, and_true, wadd, wsub, wmul, decide_eq_true_eq, decide_eq_false_iff_not, Nat.succ_eq_add_one, imp_false, not_false_eq_true, not_true_eq_false, false_imp_iff, true_imp_iff] at *)
      rw [textV_mk, if_pos h1, bytes1]; rfl
    · (subst hL; subst hQ; simp only [L2, L3, std] at *; try simp only [sySet, reduceCtorEq, forall_const, Int.reduceToNat, Int.reduceAdd, Int.reduceSub, Int.cast_ofNat_Int, Int.toNat_natCast, Nat.le_eq, Nat.sub_eq, ne_eq, Decidable.not_not, implies_true, true_and, and_true, wadd, wsub, wmul, decide_eq_true_eq, decide_eq_false_iff_not, Nat.succ_eq_add_one, imp_false, not_false_eq_true, not_true_eq_false, false_imp_iff, true_imp_iff] at *)
      rw [wf_mk] at hw
      rw [u64_small (by omega) (by omega)]
      exact ⟨by omega, by omega⟩
    · (subst hL; subst hQ; simp only [L2, L3, std] at *; try simp only [sySet, reduceCtorEq, forall_const, Int.reduceToNat, Int.reduceAdd, Int.reduceSub, Int.cast_ofNat_Int, Int.toNat_natCast, Nat.le_eq, Nat.sub_eq, ne_eq, Decidable.not_not, implies_true, true_and, and_true, wadd, wsub, wmul, decide_eq_true_eq, decide_eq_false_iff_not, Nat.succ_eq_add_one, imp_false, not_false_eq_true, not_true_eq_false, false_imp_iff, true_imp_iff] at *)
      rw [wf_mk] at hw
      rw [u64_small (by omega) (by omega), bytes1]
      have := shortZ_len (n := (s.length : Int)) ⟨by omega, by omega⟩
      simp; omega
    · (subst hL; subst hQ; simp only [L2, L3, std] at *; try simp only [sySet, reduceCtorEq, forall_const, Int.reduceToNat, Int.reduceAdd, Int.reduceSub, Int.cast_ofNat_Int, Int.toNat_natCast, Nat.le_eq, Nat.sub_eq, ne_eq, Decidable.not_not, implies_true, true_and, and_true, wadd, wsub, wmul, decide_eq_true_eq, decide_eq_false_iff_not, Nat.succ_eq_add_one, imp_false, not_false_eq_true, not_true_eq_false, false_imp_iff, true_imp_iff] at *)
      rw [u64_len hw.1, bytes1]
      have h3 := hw.2
      rw [textV_mk, if_neg h1, if_pos h2] at h3
      simp at h3 ⊢
      omega
    · (subst hL; subst hQ; simp only [L2, L3, std] at *; try simp only [sySet, reduceCtorEq, forall_const, Int.reduceToNat, Int.reduceAdd, Int.reduceSub, Int.cast_ofNat_Int, Int.toNat_natCast, Nat.le_eq, Nat.sub_eq, ne_eq, Decidable.not_not, implies_true, true_and, and_true, wadd, wsub, wmul, decide_eq_true_eq, decide_eq_false_iff_not, Nat.succ_eq_add_one, imp_false, not_false_eq_true, not_true_eq_false, false_imp_iff, true_imp_iff] at *)
      rw [u64_len hw.1, bytes1, textV_mk, if_neg h1, if_pos h2]
      show ([_] ++ _) ++ _ = _
      rw [List.append_assoc]; rfl
    · (subst hL; subst hQ; simp only [L2, L3, std] at *; try simp only [sySet, reduceCtorEq, forall_const, Int.reduceToNat, Int.reduceAdd, Int.reduceSub, Int.cast_ofNat_Int, Int.toNat_natCast, Nat.le_eq, Nat.sub_eq, ne_eq, Decidable.not_not, implies_true, true_and, and_true, wadd, wsub, wmul, decide_eq_true_eq, decide_eq_false_iff_not, Nat.succ_eq_add_one, imp_false, not_false_eq_true, not_true_eq_false, false_imp_iff, true_imp_iff] at *)
      rw [u64_cvs hz]
      exact cvs_short hz
    · (subst hL; subst hQ; simp only [L2, L3, std] at *; try simp only [sySet, reduceCtorEq, forall_const, Int.reduceToNat, Int.reduceAdd, Int.reduceSub, Int.cast_ofNat_Int, Int.toNat_natCast, Nat.le_eq, Nat.sub_eq, ne_eq, Decidable.not_not, implies_true, true_and, and_true, wadd, wsub, wmul, decide_eq_true_eq, decide_eq_false_iff_not, Nat.succ_eq_add_one, imp_false, not_false_eq_true, not_true_eq_false, false_imp_iff, true_imp_iff] at *)
      rw [u64_cvs hz, bytes1]
      have := shortZ_len (cvs_short hz)
      simp; omega
    · (cbv; try simp only [sat_need, sat_must, sat_ite, sat_done, sat_yes, sat_ex, sat_all, sat_sup, sat_and, sat_fail, true_and, and_true])
      (subst hL; subst hQ; simp only [L2, L3, std] at *; try simp only [sySet, reduceCtorEq, forall_const, Int.reduceToNat, Int.reduceAdd, Int.reduceSub, Int.cast_ofNat_Int, Int.toNat_natCast, Nat.le_eq, Nat.sub_eq, ne_eq, Decidable.not_not, implies_true, true_and, and_true, wadd, wsub, wmul, decide_eq_true_eq, decide_eq_false_iff_not, Nat.succ_eq_add_one, imp_false, not_false_eq_true, not_true_eq_false, false_imp_iff, true_imp_iff] at *)
      rw [u64_cvs hz, bytes1]
      exact ⟨by rw [rtextX, textTo, List.take_zero, textLs, List.append_nil]; rfl, Nat.zero_le _⟩
    · cbv at hi
      (cbv; try simp only [sat_need, sat_must, sat_ite, sat_done, sat_yes, sat_ex, sat_all, sat_sup, sat_and, sat_fail, true_and, and_true])
      refine ⟨fun hlt => ⟨?_, ⟨?_, ?_, ?_⟩, ?_, ⟨i + 1, ?_⟩⟩, fun hge => ?_⟩
      · (subst hL; subst hQ; simp only [L2, L3, std] at *; try simp only [sySet, reduceCtorEq, forall_const, Int.reduceToNat, Int.reduceAdd, Int.reduceSub, Int.cast_ofNat_Int, Int.toNat_natCast, Nat.le_eq, Nat.sub_eq, ne_eq, Decidable.not_not, implies_true, true_and, and_true, wadd, wsub, wmul, decide_eq_true_eq, decide_eq_false_iff_not, Nat.succ_eq_add_one, imp_false, not_false_eq_true, not_true_eq_false, false_imp_iff, true_imp_iff] at *)
        omega
      · (subst hL; subst hQ; simp only [L2, L3, std] at *; try simp only [sySet, reduceCtorEq, forall_const, Int.reduceToNat, Int.reduceAdd, Int.reduceSub, Int.cast_ofNat_Int, Int.toNat_natCast, Nat.le_eq, Nat.sub_eq, ne_eq, Decidable.not_not, implies_true, true_and, and_true, wadd, wsub, wmul, decide_eq_true_eq, decide_eq_false_iff_not, Nat.succ_eq_add_one, imp_false, not_false_eq_true, not_true_eq_false, false_imp_iff, true_imp_iff] at *)
        exact (rd_in _).2
      · (subst hL; subst hQ; simp only [L2, L3, std] at *; try simp only [sySet, reduceCtorEq, forall_const, Int.reduceToNat, Int.reduceAdd, Int.reduceSub, Int.cast_ofNat_Int, Int.toNat_natCast, Nat.le_eq, Nat.sub_eq, ne_eq, Decidable.not_not, implies_true, true_and, and_true, wadd, wsub, wmul, decide_eq_true_eq, decide_eq_false_iff_not, Nat.succ_eq_add_one, imp_false, not_false_eq_true, not_true_eq_false, false_imp_iff, true_imp_iff] at *)
        rw [mk_parts]
        rw [sizeC_mk_ok] at hz
        exact nth_sz hz.1 (by have : lenL l = l.length := rfl; omega)
      · (subst hL; subst hQ; simp only [L2, L3, std] at *; try simp only [sySet, reduceCtorEq, forall_const, Int.reduceToNat, Int.reduceAdd, Int.reduceSub, Int.cast_ofNat_Int, Int.toNat_natCast, Nat.le_eq, Nat.sub_eq, ne_eq, Decidable.not_not, implies_true, true_and, and_true, wadd, wsub, wmul, decide_eq_true_eq, decide_eq_false_iff_not, Nat.succ_eq_add_one, imp_false, not_false_eq_true, not_true_eq_false, false_imp_iff, true_imp_iff] at *)
        rw [mkV_parts]
        exact tx_nth hw (by omega) (by omega) (by have : lenL l = l.length := rfl; omega)
      · (subst hL; subst hQ; simp only [L2, L3, std] at *; try simp only [sySet, reduceCtorEq, forall_const, Int.reduceToNat, Int.reduceAdd, Int.reduceSub, Int.cast_ofNat_Int, Int.toNat_natCast, Nat.le_eq, Nat.sub_eq, ne_eq, Decidable.not_not, implies_true, true_and, and_true, wadd, wsub, wmul, decide_eq_true_eq, decide_eq_false_iff_not, Nat.succ_eq_add_one, imp_false, not_false_eq_true, not_true_eq_false, false_imp_iff, true_imp_iff] at *)
        rw [mkV_parts]
        have h3 := hw.2
        have h4 := textTo_succ (l := l) (i := i) (by have : lenL l = l.length := rfl; omega)
        have h5 := textTo_len l (i + 1)
        rw [h4, List.length_append] at h5
        rw [textV_mk, if_neg h1, if_neg h2] at h3
        simp only [List.length_append, rtextX] at h3 ⊢
        omega
      · (cbv; try simp only [sat_need, sat_must, sat_ite, sat_done, sat_yes, sat_ex, sat_all, sat_sup, sat_and, sat_fail, true_and, and_true])
        (subst hL; subst hQ; simp only [L2, L3, std] at *; try simp only [sySet, reduceCtorEq, forall_const, Int.reduceToNat, Int.reduceAdd, Int.reduceSub, Int.cast_ofNat_Int, Int.toNat_natCast, Nat.le_eq, Nat.sub_eq, ne_eq, Decidable.not_not, implies_true, true_and, and_true, wadd, wsub, wmul, decide_eq_true_eq, decide_eq_false_iff_not, Nat.succ_eq_add_one, imp_false, not_false_eq_true, not_true_eq_false, false_imp_iff, true_imp_iff] at *)
        have : lenL l = l.length := rfl
        have := len_sz l
        rw [sizeC_mk_ok] at hz
        have h4 := hz.1.1
        have h5 := hz.1.2
        rw [mkV_parts]
        exact ⟨by rw [rtextX, rtextX, textTo_succ (by omega)]; simp only [List.append_assoc], by omega, by omega, by omega⟩
      · (subst hL; subst hQ; simp only [L2, L3, std] at *; try simp only [sySet, reduceCtorEq, forall_const, Int.reduceToNat, Int.reduceAdd, Int.reduceSub, Int.cast_ofNat_Int, Int.toNat_natCast, Nat.le_eq, Nat.sub_eq, ne_eq, Decidable.not_not, implies_true, true_and, and_true, wadd, wsub, wmul, decide_eq_true_eq, decide_eq_false_iff_not, Nat.succ_eq_add_one, imp_false, not_false_eq_true, not_true_eq_false, false_imp_iff, true_imp_iff] at *)
        have : lenL l = l.length := rfl
        have hil : i = l.length := by omega
        rw [textV_mk, if_neg h1, if_neg h2, rtextX, hil, textTo, List.take_length, List.append_assoc]

/-! ### put -/
def putX (b : List UInt8) (k : Int) (l : List CV) (i : Nat) : List UInt8 := b ++ byteK k ++ shortZ l.length ++ textTo l i
def putA (L : Seal) (b : List UInt8) (k : Int) (l : List CV) : Nat → St → Option Ann := fun id s => match id with
  | 1 => some ⟨Nat, fun i => [(23, .int .i64 (L natI i))], fun i => [(500000, .box 103 [.ref 500000 0, .sl 901 1 0 (L lenN (L (L3 L putX b k l) i))]), (901, .row 5 1 (L lenN (L (L3 L putX b k l) i)) (fun j _ => .int .u8 (L2 L byteAt (L (L3 L putX b k l) i) j)))], [0, 21, 22], [],
      fun i => L2 L (fun (l : List CV) i => i ≤ l.length) l i, fun i => L2 L (fun (l : List CV) (i : Nat) => l.length - i) l i⟩
  | _ => none
def put_m (N : Nat) (L : Seal) : EntM := (48, fun raw ob => match raw with
  | [.ref id 0, .agg [.int .i64 k, .int .u64 n, .str s, x]] => match bldOf L ob id with
    | some none => some ⟨[.ref 500000 0, .agg [.int .i64 k, .int .u64 n, .str s, x]], bld0, L okL x ∧ L2 L szOk N (mkV L k n s x) ∧ L txOk (mkV L k n s x), .tup [], bldN L (L textV (mkV L k n s x))⟩
    | some (some l) => some ⟨[.ref 500000 0, .agg [.int .i64 k, .int .u64 n, .str s, x]], bld L l, L okL x ∧ L2 L szOk N (mkV L k n s x) ∧ L txOk (mkV L k n s x) ∧ L2 L roomB l (L textV (mkV L k n s x)), .tup [], bldN L (L2 L bytesAdd l (L textV (mkV L k n s x)))⟩
    | none => none
  | _ => none)
theorem room_1 {b : List UInt8} {k n : Int} {s : List UInt8} {l : List CV} (h : roomB b (textV (.mk k n s l))) : roomB b (byte1 (k % 256)) := by
  rw [textV_mk] at h
  unfold roomB at h ⊢
  have : (byteK k).length = 1 := rfl
  have : (byte1 (k % 256)).length = 1 := rfl
  rw [List.length_append] at h
  omega
theorem room_3 {b q : List UInt8} {k : Int} (h : roomB b (byteK k ++ q)) : roomB (bytesAdd b (byte1 (k % 256))) q := by
  unfold roomB bytesAdd at *
  have : (byteK k).length = 1 := rfl
  have : (byte1 (k % 256)).length = 1 := rfl
  rw [List.length_append] at h ⊢
  omega
theorem room_4 {b q r : List UInt8} {k : Int} (h : roomB b (byteK k ++ (q ++ r))) : roomB (bytesAdd b (byte1 (k % 256))) q := by
  unfold roomB bytesAdd at *
  have : (byteK k).length = 1 := rfl
  have : (byte1 (k % 256)).length = 1 := rfl
  rw [List.length_append, List.length_append] at h
  rw [List.length_append]
  omega
theorem same_b {x y : List UInt8} (h : x = y) : (lenN x = lenN y ∧ ∀ i j : Nat, i < lenN y → j < 1 → AV.int .u8 (byteAt x i) = AV.int .u8 (byteAt y i)) ∧ lenN x = lenN y := by
  subst h; exact ⟨⟨rfl, fun _ _ _ _ => rfl⟩, rfl⟩
theorem same_3 {b q t : List UInt8} {k : Int} (h : t = byteK k ++ q) : (lenN (bytesAdd (bytesAdd b (byte1 (k % 256))) q) = lenN (bytesAdd b t) ∧ ∀ i j : Nat, i < lenN (bytesAdd b t) → j < 1 → AV.int .u8 (byteAt (bytesAdd (bytesAdd b (byte1 (k % 256))) q) i) = AV.int .u8 (byteAt (bytesAdd b t) i)) ∧ lenN (bytesAdd (bytesAdd b (byte1 (k % 256))) q) = lenN (bytesAdd b t) :=
  same_b (by rw [h]; unfold bytesAdd; rw [List.append_assoc]; rfl)
theorem same_0 {q t : List UInt8} {k : Int} (h : t = byteK k ++ q) : (lenN (bytesAdd (byte1 (k % 256)) q) = lenN t ∧ ∀ i j : Nat, i < lenN t → j < 1 → AV.int .u8 (byteAt (bytesAdd (byte1 (k % 256)) q) i) = AV.int .u8 (byteAt t i)) ∧ lenN (bytesAdd (byte1 (k % 256)) q) = lenN t :=
  same_b (by rw [h]; rfl)
theorem put_old {N : Nat} (ih : GoodM Try.prog (put_m N std)) (b : List UInt8) (k n : Int) (s : List UInt8) (l : List CV) (hz : szOk (N + 1) (.mk k n s l)) (hw : txOk (.mk k n s l)) (hb : roomB b (textV (.mk k n s l))) :
    MCalls Try.prog 48 [.ref 500000 0, .agg [.int .i64 k, .int .u64 n, .str s, cvL std l]] (bld std b) (.tup []) (bldN std (bytesAdd b (textV (.mk k n s l)))) := by
  refine mcalls_L (T := tt) (S := fun L => sumOfM [short_s L] [wb_m L, ws_m L, put_m N L]) (lo := fun L => putA L b k l) (lb := noA) 5 (fn := Try.f48) (xs := fun L => [.ref 500000 0, .agg [.int .i64 k, .int .u64 n, .str s, cvL L l]]) (rts := fun _ => []) (O := fun L => bld L b) (O1 := fun L => bldN L (L2 L bytesAdd b (L textV (.mk k n s l))))
    rfl rfl (by kernel_rfl) (by kernel_rfl) (by kernel_rfl) tt_ok (sumOfM_ok ⟨short_good, trivial⟩ ⟨wb_good, ws_good, ih, trivial⟩) (by kernel_rfl) ?_
  intro L P' Q' hL hP hQ
  have hB : ∀ b : List UInt8, L (L bytesOf (L lenN b)) (fun i => (AV.int .u8 (L2 L byteAt b i)).toI) = b := by subst hL; exact bytesOf_at
  (cbv; try simp only [sat_need, sat_must, sat_ite, sat_done, sat_yes, sat_ex, sat_all, sat_sup, sat_and, sat_fail, true_and, and_true])
  simp only [hB]
  refine ⟨⟨trivial, fun _ _ _ _ => trivial⟩, trivial, ⟨?_, ?_⟩, fun h1 => ⟨?_, ⟨trivial, fun _ _ _ _ => trivial⟩, trivial, ?_, ?_⟩, fun h1 => ⟨fun h2 => ⟨?_, ?_, ⟨trivial, fun _ _ _ _ => trivial⟩, trivial, ?_, ?_⟩, fun h2 => ⟨?_, ⟨trivial, fun _ _ _ _ => trivial⟩, trivial, ?_, ⟨0, ?_⟩, fun i hi => ?_⟩⟩⟩
  · (subst hL; subst hQ; simp only [L2, L3, std] at *; try simp only [sySet, reduceCtorEq, forall_const, Int.reduceToNat, Int.reduceAdd, Int.reduceSub, Int.cast_ofNat_Int, Int.toNat_natCast, Nat.le_eq, Nat.sub_eq, ne_eq, Decidable.not_not, implies_true, true_and, and_true, wadd, wsub, wmul, decide_eq_true_eq, decide_eq_false_iff_not, Nat.succ_eq_add_one, imp_false, not_false_eq_true, not_true_eq_false, false_imp_iff, true_imp_iff] at *)
    exact ⟨Int.emod_nonneg _ (by omega), Int.emod_lt_of_pos _ (by omega)⟩
  · (subst hL; subst hQ; simp only [L2, L3, std] at *; try simp only [sySet, reduceCtorEq, forall_const, Int.reduceToNat, Int.reduceAdd, Int.reduceSub, Int.cast_ofNat_Int, Int.toNat_natCast, Nat.le_eq, Nat.sub_eq, ne_eq, Decidable.not_not, implies_true, true_and, and_true, wadd, wsub, wmul, decide_eq_true_eq, decide_eq_false_iff_not, Nat.succ_eq_add_one, imp_false, not_false_eq_true, not_true_eq_false, false_imp_iff, true_imp_iff] at *)
    exact room_1 hb
  · (subst hL; subst hQ; simp only [L2, L3, std] at *; try simp only [sySet, reduceCtorEq, forall_const, Int.reduceToNat, Int.reduceAdd, Int.reduceSub, Int.cast_ofNat_Int, Int.toNat_natCast, Nat.le_eq, Nat.sub_eq, ne_eq, Decidable.not_not, implies_true, true_and, and_true, wadd, wsub, wmul, decide_eq_true_eq, decide_eq_false_iff_not, Nat.succ_eq_add_one, imp_false, not_false_eq_true, not_true_eq_false, false_imp_iff, true_imp_iff] at *)
    rw [wf_mk] at hw
    exact hw.1.1
  · (subst hL; subst hQ; simp only [L2, L3, std] at *; try simp only [sySet, reduceCtorEq, forall_const, Int.reduceToNat, Int.reduceAdd, Int.reduceSub, Int.cast_ofNat_Int, Int.toNat_natCast, Nat.le_eq, Nat.sub_eq, ne_eq, Decidable.not_not, implies_true, true_and, and_true, wadd, wsub, wmul, decide_eq_true_eq, decide_eq_false_iff_not, Nat.succ_eq_add_one, imp_false, not_false_eq_true, not_true_eq_false, false_imp_iff, true_imp_iff] at *)
    rw [textV_mk, if_pos h1] at hb
    exact room_3 hb
  · (subst hL; subst hQ; simp only [L2, L3, std] at *; try simp only [sySet, reduceCtorEq, forall_const, Int.reduceToNat, Int.reduceAdd, Int.reduceSub, Int.cast_ofNat_Int, Int.toNat_natCast, Nat.le_eq, Nat.sub_eq, ne_eq, Decidable.not_not, implies_true, true_and, and_true, wadd, wsub, wmul, decide_eq_true_eq, decide_eq_false_iff_not, Nat.succ_eq_add_one, imp_false, not_false_eq_true, not_true_eq_false, false_imp_iff, true_imp_iff] at *)
    exact same_3 (by rw [textV_mk, if_pos h1])
  · (subst hL; subst hQ; simp only [L2, L3, std] at *; try simp only [sySet, reduceCtorEq, forall_const, Int.reduceToNat, Int.reduceAdd, Int.reduceSub, Int.cast_ofNat_Int, Int.toNat_natCast, Nat.le_eq, Nat.sub_eq, ne_eq, Decidable.not_not, implies_true, true_and, and_true, wadd, wsub, wmul, decide_eq_true_eq, decide_eq_false_iff_not, Nat.succ_eq_add_one, imp_false, not_false_eq_true, not_true_eq_false, false_imp_iff, true_imp_iff] at *)
    rw [wf_mk] at hw
    rw [u64_small (by omega) (by omega)]
    exact ⟨by omega, by omega⟩
  · (subst hL; subst hQ; simp only [L2, L3, std] at *; try simp only [sySet, reduceCtorEq, forall_const, Int.reduceToNat, Int.reduceAdd, Int.reduceSub, Int.cast_ofNat_Int, Int.toNat_natCast, Nat.le_eq, Nat.sub_eq, ne_eq, Decidable.not_not, implies_true, true_and, and_true, wadd, wsub, wmul, decide_eq_true_eq, decide_eq_false_iff_not, Nat.succ_eq_add_one, imp_false, not_false_eq_true, not_true_eq_false, false_imp_iff, true_imp_iff] at *)
    rw [u64_len hw.1]
    have h3 := hw.2
    rw [textV_mk, if_neg h1, if_pos h2] at h3
    simp at h3 ⊢
    omega
  · (subst hL; subst hQ; simp only [L2, L3, std] at *; try simp only [sySet, reduceCtorEq, forall_const, Int.reduceToNat, Int.reduceAdd, Int.reduceSub, Int.cast_ofNat_Int, Int.toNat_natCast, Nat.le_eq, Nat.sub_eq, ne_eq, Decidable.not_not, implies_true, true_and, and_true, wadd, wsub, wmul, decide_eq_true_eq, decide_eq_false_iff_not, Nat.succ_eq_add_one, imp_false, not_false_eq_true, not_true_eq_false, false_imp_iff, true_imp_iff] at *)
    rw [u64_len hw.1]
    rw [textV_mk, if_neg h1, if_pos h2] at hb
    exact room_3 hb
  · (subst hL; subst hQ; simp only [L2, L3, std] at *; try simp only [sySet, reduceCtorEq, forall_const, Int.reduceToNat, Int.reduceAdd, Int.reduceSub, Int.cast_ofNat_Int, Int.toNat_natCast, Nat.le_eq, Nat.sub_eq, ne_eq, Decidable.not_not, implies_true, true_and, and_true, wadd, wsub, wmul, decide_eq_true_eq, decide_eq_false_iff_not, Nat.succ_eq_add_one, imp_false, not_false_eq_true, not_true_eq_false, false_imp_iff, true_imp_iff] at *)
    rw [u64_len hw.1]
    exact same_3 (by rw [textV_mk, if_neg h1, if_pos h2])
  · (subst hL; subst hQ; simp only [L2, L3, std] at *; try simp only [sySet, reduceCtorEq, forall_const, Int.reduceToNat, Int.reduceAdd, Int.reduceSub, Int.cast_ofNat_Int, Int.toNat_natCast, Nat.le_eq, Nat.sub_eq, ne_eq, Decidable.not_not, implies_true, true_and, and_true, wadd, wsub, wmul, decide_eq_true_eq, decide_eq_false_iff_not, Nat.succ_eq_add_one, imp_false, not_false_eq_true, not_true_eq_false, false_imp_iff, true_imp_iff] at *)
    rw [u64_cvs hz]
    exact cvs_short hz
  · (subst hL; subst hQ; simp only [L2, L3, std] at *; try simp only [sySet, reduceCtorEq, forall_const, Int.reduceToNat, Int.reduceAdd, Int.reduceSub, Int.cast_ofNat_Int, Int.toNat_natCast, Nat.le_eq, Nat.sub_eq, ne_eq, Decidable.not_not, implies_true, true_and, and_true, wadd, wsub, wmul, decide_eq_true_eq, decide_eq_false_iff_not, Nat.succ_eq_add_one, imp_false, not_false_eq_true, not_true_eq_false, false_imp_iff, true_imp_iff] at *)
    rw [u64_cvs hz]
    rw [textV_mk, if_neg h1, if_neg h2] at hb
    exact room_4 hb
  · (cbv; try simp only [sat_need, sat_must, sat_ite, sat_done, sat_yes, sat_ex, sat_all, sat_sup, sat_and, sat_fail, true_and, and_true])
    (subst hL; subst hQ; simp only [L2, L3, std] at *; try simp only [sySet, reduceCtorEq, forall_const, Int.reduceToNat, Int.reduceAdd, Int.reduceSub, Int.cast_ofNat_Int, Int.toNat_natCast, Nat.le_eq, Nat.sub_eq, ne_eq, Decidable.not_not, implies_true, true_and, and_true, wadd, wsub, wmul, decide_eq_true_eq, decide_eq_false_iff_not, Nat.succ_eq_add_one, imp_false, not_false_eq_true, not_true_eq_false, false_imp_iff, true_imp_iff] at *)
    rw [u64_cvs hz]
    have e : bytesAdd (bytesAdd b (byte1 (k % 256))) (shortZ ((l.length : Nat) : Int)) = putX b k l 0 := by
      rw [putX, textTo, List.take_zero, textLs, List.append_nil]; rfl
    rw [e]
    exact ⟨⟨rfl, fun _ _ _ _ => rfl⟩, rfl, Nat.zero_le _⟩
  · cbv at hi
    (cbv; try simp only [sat_need, sat_must, sat_ite, sat_done, sat_yes, sat_ex, sat_all, sat_sup, sat_and, sat_fail, true_and, and_true])
    simp only [hB]
    refine ⟨fun hlt => ⟨?_, ⟨trivial, fun _ _ _ _ => trivial⟩, trivial, fun _ _ _ _ => trivial, ⟨?_, ?_, ?_, ?_⟩, ⟨i + 1, ?_⟩⟩, fun hge => ?_⟩
    · (subst hL; subst hQ; simp only [L2, L3, std] at *; try simp only [sySet, reduceCtorEq, forall_const, Int.reduceToNat, Int.reduceAdd, Int.reduceSub, Int.cast_ofNat_Int, Int.toNat_natCast, Nat.le_eq, Nat.sub_eq, ne_eq, Decidable.not_not, implies_true, true_and, and_true, wadd, wsub, wmul, decide_eq_true_eq, decide_eq_false_iff_not, Nat.succ_eq_add_one, imp_false, not_false_eq_true, not_true_eq_false, false_imp_iff, true_imp_iff] at *)
      omega
    · (subst hL; subst hQ; simp only [L2, L3, std] at *; try simp only [sySet, reduceCtorEq, forall_const, Int.reduceToNat, Int.reduceAdd, Int.reduceSub, Int.cast_ofNat_Int, Int.toNat_natCast, Nat.le_eq, Nat.sub_eq, ne_eq, Decidable.not_not, implies_true, true_and, and_true, wadd, wsub, wmul, decide_eq_true_eq, decide_eq_false_iff_not, Nat.succ_eq_add_one, imp_false, not_false_eq_true, not_true_eq_false, false_imp_iff, true_imp_iff] at *)
      exact (rd_in _).2
    · (subst hL; subst hQ; simp only [L2, L3, std] at *; try simp only [sySet, reduceCtorEq, forall_const, Int.reduceToNat, Int.reduceAdd, Int.reduceSub, Int.cast_ofNat_Int, Int.toNat_natCast, Nat.le_eq, Nat.sub_eq, ne_eq, Decidable.not_not, implies_true, true_and, and_true, wadd, wsub, wmul, decide_eq_true_eq, decide_eq_false_iff_not, Nat.succ_eq_add_one, imp_false, not_false_eq_true, not_true_eq_false, false_imp_iff, true_imp_iff] at *)
      rw [mk_parts]
      rw [sizeC_mk_ok] at hz
      exact nth_sz hz.1 (by have : lenL l = l.length := rfl; omega)
    · (subst hL; subst hQ; simp only [L2, L3, std] at *; try simp only [sySet, reduceCtorEq, forall_const, Int.reduceToNat, Int.reduceAdd, Int.reduceSub, Int.cast_ofNat_Int, Int.toNat_natCast, Nat.le_eq, Nat.sub_eq, ne_eq, Decidable.not_not, implies_true, true_and, and_true, wadd, wsub, wmul, decide_eq_true_eq, decide_eq_false_iff_not, Nat.succ_eq_add_one, imp_false, not_false_eq_true, not_true_eq_false, false_imp_iff, true_imp_iff] at *)
      rw [mkV_parts]
      exact tx_nth hw (by omega) (by omega) (by have : lenL l = l.length := rfl; omega)
    · (subst hL; subst hQ; simp only [L2, L3, std] at *; try simp only [sySet, reduceCtorEq, forall_const, Int.reduceToNat, Int.reduceAdd, Int.reduceSub, Int.cast_ofNat_Int, Int.toNat_natCast, Nat.le_eq, Nat.sub_eq, ne_eq, Decidable.not_not, implies_true, true_and, and_true, wadd, wsub, wmul, decide_eq_true_eq, decide_eq_false_iff_not, Nat.succ_eq_add_one, imp_false, not_false_eq_true, not_true_eq_false, false_imp_iff, true_imp_iff] at *)
      rw [mkV_parts]
      have h4 := textTo_succ (l := l) (i := i) (by have : lenL l = l.length := rfl; omega)
      have h5 := textTo_len l (i + 1)
      rw [h4, List.length_append] at h5
      rw [textV_mk, if_neg h1, if_neg h2] at hb
      unfold roomB at hb ⊢
      simp only [List.length_append, putX] at hb ⊢
      omega
    · (cbv; try simp only [sat_need, sat_must, sat_ite, sat_done, sat_yes, sat_ex, sat_all, sat_sup, sat_and, sat_fail, true_and, and_true])
      (subst hL; subst hQ; simp only [L2, L3, std] at *; try simp only [sySet, reduceCtorEq, forall_const, Int.reduceToNat, Int.reduceAdd, Int.reduceSub, Int.cast_ofNat_Int, Int.toNat_natCast, Nat.le_eq, Nat.sub_eq, ne_eq, Decidable.not_not, implies_true, true_and, and_true, wadd, wsub, wmul, decide_eq_true_eq, decide_eq_false_iff_not, Nat.succ_eq_add_one, imp_false, not_false_eq_true, not_true_eq_false, false_imp_iff, true_imp_iff] at *)
      have : lenL l = l.length := rfl
      have := len_sz l
      rw [sizeC_mk_ok] at hz
      have h4 := hz.1.1
      have h5 := hz.1.2
      rw [mkV_parts]
      have e : bytesAdd (putX b k l i) (textV (nthV l i)) = putX b k l (i + 1) := by
        rw [putX, putX, textTo_succ (by omega)]; unfold bytesAdd; simp only [List.append_assoc]
      rw [e]
      exact ⟨⟨rfl, fun _ _ _ _ => rfl⟩, rfl, by omega, by omega, by omega⟩
    · (subst hL; subst hQ; simp only [L2, L3, std] at *; try simp only [sySet, reduceCtorEq, forall_const, Int.reduceToNat, Int.reduceAdd, Int.reduceSub, Int.cast_ofNat_Int, Int.toNat_natCast, Nat.le_eq, Nat.sub_eq, ne_eq, Decidable.not_not, implies_true, true_and, and_true, wadd, wsub, wmul, decide_eq_true_eq, decide_eq_false_iff_not, Nat.succ_eq_add_one, imp_false, not_false_eq_true, not_true_eq_false, false_imp_iff, true_imp_iff] at *)
      have : lenL l = l.length := rfl
      have hil : i = l.length := by omega
      exact same_b (by rw [textV_mk, if_neg h1, if_neg h2, putX, hil, textTo, List.take_length]; unfold bytesAdd; simp only [List.append_assoc])
theorem put_new {N : Nat} (ih : GoodM Try.prog (put_m N std)) (k n : Int) (s : List UInt8) (l : List CV) (hz : szOk (N + 1) (.mk k n s l)) (hw : txOk (.mk k n s l)) :
    MCalls Try.prog 48 [.ref 500000 0, .agg [.int .i64 k, .int .u64 n, .str s, cvL std l]] bld0 (.tup []) (bldN std (textV (.mk k n s l))) := by
  refine mcalls_L (T := tt) (S := fun L => sumOfM [short_s L] [wb_m L, ws_m L, put_m N L]) (lo := fun L => putA L [] k l) (lb := noA) 5 (fn := Try.f48) (xs := fun L => [.ref 500000 0, .agg [.int .i64 k, .int .u64 n, .str s, cvL L l]]) (rts := fun _ => []) (O := fun L => bld0) (O1 := fun L => bldN L (L textV (.mk k n s l)))
    rfl rfl (by kernel_rfl) (by kernel_rfl) (by kernel_rfl) tt_ok (sumOfM_ok ⟨short_good, trivial⟩ ⟨wb_good, ws_good, ih, trivial⟩) (by kernel_rfl) ?_
  intro L P' Q' hL hP hQ
  have hb : roomB [] (textV (.mk k n s l)) := by have := hw.2; unfold roomB; simp; omega
  have hB : ∀ b : List UInt8, L (L bytesOf (L lenN b)) (fun i => (AV.int .u8 (L2 L byteAt b i)).toI) = b := by subst hL; exact bytesOf_at
  (cbv; try simp only [sat_need, sat_must, sat_ite, sat_done, sat_yes, sat_ex, sat_all, sat_sup, sat_and, sat_fail, true_and, and_true])
  simp only [hB]
  refine ⟨?_, fun h1 => ⟨?_, ⟨trivial, fun _ _ _ _ => trivial⟩, trivial, ?_, ?_⟩, fun h1 => ⟨fun h2 => ⟨?_, ?_, ⟨trivial, fun _ _ _ _ => trivial⟩, trivial, ?_, ?_⟩, fun h2 => ⟨?_, ⟨trivial, fun _ _ _ _ => trivial⟩, trivial, ?_, ⟨0, ?_⟩, fun i hi => ?_⟩⟩⟩
  · (subst hL; subst hQ; simp only [L2, L3, std] at *; try simp only [sySet, reduceCtorEq, forall_const, Int.reduceToNat, Int.reduceAdd, Int.reduceSub, Int.cast_ofNat_Int, Int.toNat_natCast, Nat.le_eq, Nat.sub_eq, ne_eq, Decidable.not_not, implies_true, true_and, and_true, wadd, wsub, wmul, decide_eq_true_eq, decide_eq_false_iff_not, Nat.succ_eq_add_one, imp_false, not_false_eq_true, not_true_eq_false, false_imp_iff, true_imp_iff] at *)
    exact ⟨Int.emod_nonneg _ (by omega), Int.emod_lt_of_pos _ (by omega)⟩
  · (subst hL; subst hQ; simp only [L2, L3, std] at *; try simp only [sySet, reduceCtorEq, forall_const, Int.reduceToNat, Int.reduceAdd, Int.reduceSub, Int.cast_ofNat_Int, Int.toNat_natCast, Nat.le_eq, Nat.sub_eq, ne_eq, Decidable.not_not, implies_true, true_and, and_true, wadd, wsub, wmul, decide_eq_true_eq, decide_eq_false_iff_not, Nat.succ_eq_add_one, imp_false, not_false_eq_true, not_true_eq_false, false_imp_iff, true_imp_iff] at *)
    rw [wf_mk] at hw
    exact hw.1.1
  · (subst hL; subst hQ; simp only [L2, L3, std] at *; try simp only [sySet, reduceCtorEq, forall_const, Int.reduceToNat, Int.reduceAdd, Int.reduceSub, Int.cast_ofNat_Int, Int.toNat_natCast, Nat.le_eq, Nat.sub_eq, ne_eq, Decidable.not_not, implies_true, true_and, and_true, wadd, wsub, wmul, decide_eq_true_eq, decide_eq_false_iff_not, Nat.succ_eq_add_one, imp_false, not_false_eq_true, not_true_eq_false, false_imp_iff, true_imp_iff] at *)
    rw [textV_mk, if_pos h1] at hb
    exact room_3 hb
  · (subst hL; subst hQ; simp only [L2, L3, std] at *; try simp only [sySet, reduceCtorEq, forall_const, Int.reduceToNat, Int.reduceAdd, Int.reduceSub, Int.cast_ofNat_Int, Int.toNat_natCast, Nat.le_eq, Nat.sub_eq, ne_eq, Decidable.not_not, implies_true, true_and, and_true, wadd, wsub, wmul, decide_eq_true_eq, decide_eq_false_iff_not, Nat.succ_eq_add_one, imp_false, not_false_eq_true, not_true_eq_false, false_imp_iff, true_imp_iff] at *)
    exact same_0 (by rw [textV_mk, if_pos h1])
  · (subst hL; subst hQ; simp only [L2, L3, std] at *; try simp only [sySet, reduceCtorEq, forall_const, Int.reduceToNat, Int.reduceAdd, Int.reduceSub, Int.cast_ofNat_Int, Int.toNat_natCast, Nat.le_eq, Nat.sub_eq, ne_eq, Decidable.not_not, implies_true, true_and, and_true, wadd, wsub, wmul, decide_eq_true_eq, decide_eq_false_iff_not, Nat.succ_eq_add_one, imp_false, not_false_eq_true, not_true_eq_false, false_imp_iff, true_imp_iff] at *)
    rw [wf_mk] at hw
    rw [u64_small (by omega) (by omega)]
    exact ⟨by omega, by omega⟩
  · (subst hL; subst hQ; simp only [L2, L3, std] at *; try simp only [sySet, reduceCtorEq, forall_const, Int.reduceToNat, Int.reduceAdd, Int.reduceSub, Int.cast_ofNat_Int, Int.toNat_natCast, Nat.le_eq, Nat.sub_eq, ne_eq, Decidable.not_not, implies_true, true_and, and_true, wadd, wsub, wmul, decide_eq_true_eq, decide_eq_false_iff_not, Nat.succ_eq_add_one, imp_false, not_false_eq_true, not_true_eq_false, false_imp_iff, true_imp_iff] at *)
    rw [u64_len hw.1]
    have h3 := hw.2
    rw [textV_mk, if_neg h1, if_pos h2] at h3
    simp at h3 ⊢
    omega
  · (subst hL; subst hQ; simp only [L2, L3, std] at *; try simp only [sySet, reduceCtorEq, forall_const, Int.reduceToNat, Int.reduceAdd, Int.reduceSub, Int.cast_ofNat_Int, Int.toNat_natCast, Nat.le_eq, Nat.sub_eq, ne_eq, Decidable.not_not, implies_true, true_and, and_true, wadd, wsub, wmul, decide_eq_true_eq, decide_eq_false_iff_not, Nat.succ_eq_add_one, imp_false, not_false_eq_true, not_true_eq_false, false_imp_iff, true_imp_iff] at *)
    rw [u64_len hw.1]
    rw [textV_mk, if_neg h1, if_pos h2] at hb
    exact room_3 hb
  · (subst hL; subst hQ; simp only [L2, L3, std] at *; try simp only [sySet, reduceCtorEq, forall_const, Int.reduceToNat, Int.reduceAdd, Int.reduceSub, Int.cast_ofNat_Int, Int.toNat_natCast, Nat.le_eq, Nat.sub_eq, ne_eq, Decidable.not_not, implies_true, true_and, and_true, wadd, wsub, wmul, decide_eq_true_eq, decide_eq_false_iff_not, Nat.succ_eq_add_one, imp_false, not_false_eq_true, not_true_eq_false, false_imp_iff, true_imp_iff] at *)
    rw [u64_len hw.1]
    exact same_0 (by rw [textV_mk, if_neg h1, if_pos h2])
  · (subst hL; subst hQ; simp only [L2, L3, std] at *; try simp only [sySet, reduceCtorEq, forall_const, Int.reduceToNat, Int.reduceAdd, Int.reduceSub, Int.cast_ofNat_Int, Int.toNat_natCast, Nat.le_eq, Nat.sub_eq, ne_eq, Decidable.not_not, implies_true, true_and, and_true, wadd, wsub, wmul, decide_eq_true_eq, decide_eq_false_iff_not, Nat.succ_eq_add_one, imp_false, not_false_eq_true, not_true_eq_false, false_imp_iff, true_imp_iff] at *)
    rw [u64_cvs hz]
    exact cvs_short hz
  · (subst hL; subst hQ; simp only [L2, L3, std] at *; try simp only [sySet, reduceCtorEq, forall_const, Int.reduceToNat, Int.reduceAdd, Int.reduceSub, Int.cast_ofNat_Int, Int.toNat_natCast, Nat.le_eq, Nat.sub_eq, ne_eq, Decidable.not_not, implies_true, true_and, and_true, wadd, wsub, wmul, decide_eq_true_eq, decide_eq_false_iff_not, Nat.succ_eq_add_one, imp_false, not_false_eq_true, not_true_eq_false, false_imp_iff, true_imp_iff] at *)
    rw [u64_cvs hz]
    rw [textV_mk, if_neg h1, if_neg h2] at hb
    exact room_4 hb
  · (cbv; try simp only [sat_need, sat_must, sat_ite, sat_done, sat_yes, sat_ex, sat_all, sat_sup, sat_and, sat_fail, true_and, and_true])
    (subst hL; subst hQ; simp only [L2, L3, std] at *; try simp only [sySet, reduceCtorEq, forall_const, Int.reduceToNat, Int.reduceAdd, Int.reduceSub, Int.cast_ofNat_Int, Int.toNat_natCast, Nat.le_eq, Nat.sub_eq, ne_eq, Decidable.not_not, implies_true, true_and, and_true, wadd, wsub, wmul, decide_eq_true_eq, decide_eq_false_iff_not, Nat.succ_eq_add_one, imp_false, not_false_eq_true, not_true_eq_false, false_imp_iff, true_imp_iff] at *)
    rw [u64_cvs hz]
    have e : bytesAdd (byte1 (k % 256)) (shortZ ((l.length : Nat) : Int)) = putX [] k l 0 := by
      rw [putX, textTo, List.take_zero, textLs, List.append_nil]; rfl
    rw [e]
    exact ⟨⟨rfl, fun _ _ _ _ => rfl⟩, rfl, Nat.zero_le _⟩
  · cbv at hi
    (cbv; try simp only [sat_need, sat_must, sat_ite, sat_done, sat_yes, sat_ex, sat_all, sat_sup, sat_and, sat_fail, true_and, and_true])
    simp only [hB]
    refine ⟨fun hlt => ⟨?_, ⟨trivial, fun _ _ _ _ => trivial⟩, trivial, fun _ _ _ _ => trivial, ⟨?_, ?_, ?_, ?_⟩, ⟨i + 1, ?_⟩⟩, fun hge => ?_⟩
    · (subst hL; subst hQ; simp only [L2, L3, std] at *; try simp only [sySet, reduceCtorEq, forall_const, Int.reduceToNat, Int.reduceAdd, Int.reduceSub, Int.cast_ofNat_Int, Int.toNat_natCast, Nat.le_eq, Nat.sub_eq, ne_eq, Decidable.not_not, implies_true, true_and, and_true, wadd, wsub, wmul, decide_eq_true_eq, decide_eq_false_iff_not, Nat.succ_eq_add_one, imp_false, not_false_eq_true, not_true_eq_false, false_imp_iff, true_imp_iff] at *)
      omega
    · (subst hL; subst hQ; simp only [L2, L3, std] at *; try simp only [sySet, reduceCtorEq, forall_const, Int.reduceToNat, Int.reduceAdd, Int.reduceSub, Int.cast_ofNat_Int, Int.toNat_natCast, Nat.le_eq, Nat.sub_eq, ne_eq, Decidable.not_not, implies_true, true_and, and_true, wadd, wsub, wmul, decide_eq_true_eq, decide_eq_false_iff_not, Nat.succ_eq_add_one, imp_false, not_false_eq_true, not_true_eq_false, false_imp_iff, true_imp_iff] at *)
      exact (rd_in _).2
    · (subst hL; subst hQ; simp only [L2, L3, std] at *; try simp only [sySet, reduceCtorEq, forall_const, Int.reduceToNat, Int.reduceAdd, Int.reduceSub, Int.cast_ofNat_Int, Int.toNat_natCast, Nat.le_eq, Nat.sub_eq, ne_eq, Decidable.not_not, implies_true, true_and, and_true, wadd, wsub, wmul, decide_eq_true_eq, decide_eq_false_iff_not, Nat.succ_eq_add_one, imp_false, not_false_eq_true, not_true_eq_false, false_imp_iff, true_imp_iff] at *)
      rw [mk_parts]
      rw [sizeC_mk_ok] at hz
      exact nth_sz hz.1 (by have : lenL l = l.length := rfl; omega)
    · (subst hL; subst hQ; simp only [L2, L3, std] at *; try simp only [sySet, reduceCtorEq, forall_const, Int.reduceToNat, Int.reduceAdd, Int.reduceSub, Int.cast_ofNat_Int, Int.toNat_natCast, Nat.le_eq, Nat.sub_eq, ne_eq, Decidable.not_not, implies_true, true_and, and_true, wadd, wsub, wmul, decide_eq_true_eq, decide_eq_false_iff_not, Nat.succ_eq_add_one, imp_false, not_false_eq_true, not_true_eq_false, false_imp_iff, true_imp_iff] at *)
      rw [mkV_parts]
      exact tx_nth hw (by omega) (by omega) (by have : lenL l = l.length := rfl; omega)
    · (subst hL; subst hQ; simp only [L2, L3, std] at *; try simp only [sySet, reduceCtorEq, forall_const, Int.reduceToNat, Int.reduceAdd, Int.reduceSub, Int.cast_ofNat_Int, Int.toNat_natCast, Nat.le_eq, Nat.sub_eq, ne_eq, Decidable.not_not, implies_true, true_and, and_true, wadd, wsub, wmul, decide_eq_true_eq, decide_eq_false_iff_not, Nat.succ_eq_add_one, imp_false, not_false_eq_true, not_true_eq_false, false_imp_iff, true_imp_iff] at *)
      rw [mkV_parts]
      have h4 := textTo_succ (l := l) (i := i) (by have : lenL l = l.length := rfl; omega)
      have h5 := textTo_len l (i + 1)
      rw [h4, List.length_append] at h5
      rw [textV_mk, if_neg h1, if_neg h2] at hb
      unfold roomB at hb ⊢
      simp only [List.length_append, putX] at hb ⊢
      omega
    · (cbv; try simp only [sat_need, sat_must, sat_ite, sat_done, sat_yes, sat_ex, sat_all, sat_sup, sat_and, sat_fail, true_and, and_true])
      (subst hL; subst hQ; simp only [L2, L3, std] at *; try simp only [sySet, reduceCtorEq, forall_const, Int.reduceToNat, Int.reduceAdd, Int.reduceSub, Int.cast_ofNat_Int, Int.toNat_natCast, Nat.le_eq, Nat.sub_eq, ne_eq, Decidable.not_not, implies_true, true_and, and_true, wadd, wsub, wmul, decide_eq_true_eq, decide_eq_false_iff_not, Nat.succ_eq_add_one, imp_false, not_false_eq_true, not_true_eq_false, false_imp_iff, true_imp_iff] at *)
      have : lenL l = l.length := rfl
      have := len_sz l
      rw [sizeC_mk_ok] at hz
      have h4 := hz.1.1
      have h5 := hz.1.2
      rw [mkV_parts]
      have e : bytesAdd (putX [] k l i) (textV (nthV l i)) = putX [] k l (i + 1) := by
        rw [putX, putX, textTo_succ (by omega)]; unfold bytesAdd; simp only [List.append_assoc]
      rw [e]
      exact ⟨⟨rfl, fun _ _ _ _ => rfl⟩, rfl, by omega, by omega, by omega⟩
    · (subst hL; subst hQ; simp only [L2, L3, std] at *; try simp only [sySet, reduceCtorEq, forall_const, Int.reduceToNat, Int.reduceAdd, Int.reduceSub, Int.cast_ofNat_Int, Int.toNat_natCast, Nat.le_eq, Nat.sub_eq, ne_eq, Decidable.not_not, implies_true, true_and, and_true, wadd, wsub, wmul, decide_eq_true_eq, decide_eq_false_iff_not, Nat.succ_eq_add_one, imp_false, not_false_eq_true, not_true_eq_false, false_imp_iff, true_imp_iff] at *)
      have : lenL l = l.length := rfl
      have hil : i = l.length := by omega
      exact same_b (by rw [textV_mk, if_neg h1, if_neg h2, putX, hil, textTo, List.take_length, List.nil_append, List.append_assoc])
theorem mc_args {P : Program} {f : FuncId} {xs ys : List AV} {O O1 : List (Nat × Ob)} {r : AV} (e : ∀ h D μ vs, RL h D μ xs vs → RL h D μ ys vs) (hm : MCalls P f ys O r O1) : MCalls P f xs O r O1 :=
  fun D w μ vs hD hx => hm D w μ vs hD (e _ _ _ _ hx)
theorem cput_good : ∀ N, GoodM Try.prog (put_m N std) := by
  intro N
  induction N with
  | zero =>
    intro raw ob T hT hp
    unfold put_m at hT
    simp only at hT
    split at hT
    · rename_i k n s x
      split at hT <;> cases hT
      · have h1 : sizeC (mkV std k n s x) ≤ 0 := hp.2.1.1
        have := sizeC_pos (mkV std k n s x)
        omega
      · have h1 : sizeC (mkV std k n s x) ≤ 0 := hp.2.1.1
        have := sizeC_pos (mkV std k n s x)
        omega
    · cases hT
  | succ N ih =>
    intro raw ob T hT hp
    unfold put_m at hT
    simp only at hT
    split at hT
    rotate_left
    · cases hT
    rename_i k n s x
    split at hT <;> cases hT
    · refine mc_args (fun h D μ vs hr => rl_2 (fun v => val_R hp.1) hr) ?_
      exact put_new ih k n s (rdL x) hp.2.1 hp.2.2
    · refine mc_args (fun h D μ vs hr => rl_2 (fun v => val_R hp.1) hr) ?_
      exact put_old ih _ k n s (rdL x) hp.2.1 hp.2.2.1 hp.2.2.2
end Sy
end Go.Proofs.Ythlggigjnpldcaa
namespace Go.Proofs.Ythlggigjnpldcaa
namespace Sy
open Go Go.RowKit
set_option maxRecDepth 100000
set_option linter.unusedSimpArgs false
set_option linter.unusedVariables false

/-- A slice, by whether it is nil, has no element, has some. -/
theorem ac_nilsplit {P : Program} {f : FuncId} {sz n : Nat} {get : Nat → Nat → AV} {r : AV} (h0 : n = 0 → ACalls P f [.nils] r) (h1 : n = 0 → ACalls P f [.emp] r) (h2 : 0 < n → ACalls P f [.lst sz n get] r) : ACalls P f [.lst sz n get] r := by
  by_cases e : n = 0
  · subst e
    intro D w vs hD hx
    obtain ⟨v, hv⟩ : ∃ v, vs.toList = [v] := List.length_eq_one_iff.1 (by simpa using hx.1.symm)
    have : vs = #[v] := by rw [← Array.toArray_toList (xs := vs), hv]
    subst this
    have hr := hx.2 0 _ _ rfl rfl
    have one : ∀ y, R w.heap D noMu y v → RL w.heap D noMu [y] #[v] := fun y r => ⟨rfl, fun i x u hx hu => by
      match i with
      | 0 => cases hx; cases hu; exact r
      | i + 1 => simp at hx⟩
    cases hr with
    | lst0 _ _ a cap hn =>
      cases a with
      | none =>
        obtain rfl := hn rfl
        exact h0 rfl D w _ hD (one _ .nils)
      | some a => exact h1 rfl D w _ hD (one _ (.emp a cap))
    | lst _ _ _ b o cap vs' hD' hc hv' h1' hr' => exact h1 rfl D w _ hD (one _ (.emp _ cap))
  · exact h2 (by omega)

def numV (n : Int) : CV := .mk 1 n [] []
def txtV (s : List UInt8) : CV := .mk 2 0 s []
def rowV (l : List CV) : CV := .mk 3 0 [] l
def num_s (L : Seal) : Ent1 := (45, fun xs => match xs with | [.int .u64 n] => some (True, cvA L (L numV n)) | _ => none)
def txt_s (L : Seal) : Ent1 := (22, fun xs => match xs with | [.str s] => some (True, cvA L (L txtV s)) | _ => none)
theorem num_good : Good Try.prog (num_s std) := by
  intro xs p r h hp
  unfold num_s at h
  simp only at h
  split at h
  rotate_left
  · cases h
  rename_i n
  cases h
  refine acalls_L (T := tt) (S := noS) (lo := noA) (lb := noA) 5 (fn := Try.f45) rfl rfl (by kernel_rfl) (by kernel_rfl) rfl tt_ok (noS_ok _) (by kernel_rfl) ?_
  (intro L P1 Q1 hL hP hQ; cbv; subst hL; simp only [L2, L3, std, sat_need, sat_must, sat_ite, sat_done, sat_yes, sat_ex, sat_all, sat_sup, sat_and, sat_fail]; subst hQ)
  show fits (.agg [.int .i64 1, .int .u64 n, .str [], .lst 4 0 (cvIn (numV n))]) _
  simp [fits_aggi, fits1_aggi, fits1_aggs, fits1_aggn, fits1_agg0]
theorem txt_good : Good Try.prog (txt_s std) := by
  intro xs p r h hp
  unfold txt_s at h
  simp only at h
  split at h
  rotate_left
  · cases h
  rename_i n
  cases h
  refine acalls_L (T := tt) (S := noS) (lo := noA) (lb := noA) 5 (fn := Try.f22) rfl rfl (by kernel_rfl) (by kernel_rfl) rfl tt_ok (noS_ok _) (by kernel_rfl) ?_
  (intro L P1 Q1 hL hP hQ; cbv; subst hL; simp only [L2, L3, std, sat_need, sat_must, sat_ite, sat_done, sat_yes, sat_ex, sat_all, sat_sup, sat_and, sat_fail]; subst hQ)
  show fits (.agg [.int .i64 2, .int .u64 0, .str n, .lst 4 0 (cvIn (txtV n))]) _
  simp [fits_aggi, fits1_aggi, fits1_aggs, fits1_aggn, fits1_agg0]
def lenOk (l : List CV) : Prop := l.length ≤ 1000000
def clone_s (L : Seal) : Ent1 := (55, fun xs => match xs with
  | [x] => some (L okL x ∧ L lenOk (L rdL x), .lst 4 (L lenL (L rdL x)) (L cvGet (L rdL x)))
  | _ => none)
theorem clone_good : Good Try.prog (clone_s std) := by
  intro xs p r h hp
  unfold clone_s at h
  simp only at h
  split at h
  rotate_left
  · cases h
  rename_i x
  cases h
  obtain ⟨ho, hz⟩ := hp
  refine ac_l ho ?_
  have hz : lenOk (rdL x) := hz
  show ACalls _ _ [cvL std (rdL x)] (.lst 4 (lenL (rdL x)) (cvGet (rdL x)))
  generalize rdL x = l at hz ⊢
  refine ac_nilsplit (fun h => ?_) (fun h => ?_) (fun h => ?_)
  · refine acalls_L (T := tt) (S := noS) (lo := noA) (lb := noA) 5 (fn := Try.f55) rfl rfl (by kernel_rfl) (by kernel_rfl) rfl tt_ok (noS_ok _) (by kernel_rfl) ?_
    intro L P' Q' hL hP hQ
    (cbv; try simp only [sat_need, sat_must, sat_ite, sat_done, sat_yes, sat_ex, sat_all, sat_sup, sat_and, sat_fail, true_and, and_true])
    (subst hL; subst hQ; simp only [L2, L3, std] at *; try simp only [sySet, reduceCtorEq, forall_const, Int.reduceToNat, Int.reduceAdd, Int.reduceSub, Int.cast_ofNat_Int, Int.toNat_natCast, Nat.le_eq, Nat.sub_eq, ne_eq, Decidable.not_not, implies_true, true_and, and_true, wadd, wsub, wmul, decide_eq_true_eq, decide_eq_false_iff_not, Nat.succ_eq_add_one, imp_false, not_false_eq_true, not_true_eq_false, false_imp_iff, true_imp_iff] at *)
    exact h.symm
  · refine acalls_L (T := tt) (S := noS) (lo := noA) (lb := noA) 5 (fn := Try.f55) rfl rfl (by kernel_rfl) (by kernel_rfl) rfl tt_ok (noS_ok _) (by kernel_rfl) ?_
    intro L P' Q' hL hP hQ
    (cbv; try simp only [sat_need, sat_must, sat_ite, sat_done, sat_yes, sat_ex, sat_all, sat_sup, sat_and, sat_fail, true_and, and_true])
    (subst hL; subst hQ; simp only [L2, L3, std] at *; try simp only [sySet, reduceCtorEq, forall_const, Int.reduceToNat, Int.reduceAdd, Int.reduceSub, Int.cast_ofNat_Int, Int.toNat_natCast, Nat.le_eq, Nat.sub_eq, ne_eq, Decidable.not_not, implies_true, true_and, and_true, wadd, wsub, wmul, decide_eq_true_eq, decide_eq_false_iff_not, Nat.succ_eq_add_one, imp_false, not_false_eq_true, not_true_eq_false, false_imp_iff, true_imp_iff] at *)
    exact ⟨by omega, h.symm, fun i j hi => by omega⟩
  · refine acalls_L' (T := tt) (S := noS) (lo := fun _ => noA std) (lb := noA) 5 (fn := Try.f55) (xs := fun L => [cvL L l]) rfl rfl (by kernel_rfl) (by kernel_rfl) rfl tt_ok (noS_ok _) (by kernel_rfl) ?_
    intro L P' Q' hL hP hQ
    (cbv; try simp only [sat_need, sat_must, sat_ite, sat_done, sat_yes, sat_ex, sat_all, sat_sup, sat_and, sat_fail, true_and, and_true])
    (subst hL; subst hQ; simp only [L2, L3, std] at *; try simp only [sySet, reduceCtorEq, forall_const, Int.reduceToNat, Int.reduceAdd, Int.reduceSub, Int.cast_ofNat_Int, Int.toNat_natCast, Nat.le_eq, Nat.sub_eq, ne_eq, Decidable.not_not, implies_true, true_and, and_true, wadd, wsub, wmul, decide_eq_true_eq, decide_eq_false_iff_not, Nat.succ_eq_add_one, imp_false, not_false_eq_true, not_true_eq_false, false_imp_iff, true_imp_iff] at *)
    have h1 : lenL l ≤ 1000000 := hz
    exact ⟨blt_t h, by omega, fun i j hi hj => by rw [cv1_std _ _ hj, cvGet_nth _ _ _ hi]⟩
def list_s (L : Seal) : Ent1 := (21, fun xs => match xs with
  | [x] => some (L okL x ∧ L lenOk (L rdL x), cvA L (L rowV (L rdL x)))
  | _ => none)
theorem list_good : Good Try.prog (list_s std) := by
  intro xs p r h hp
  unfold list_s at h
  simp only at h
  split at h
  rotate_left
  · cases h
  rename_i x
  cases h
  obtain ⟨ho, hz⟩ := hp
  refine ac_l ho ?_
  have hz : lenOk (rdL x) := hz
  show ACalls _ _ [cvL std (rdL x)] (cvA std (rowV (rdL x)))
  generalize rdL x = l at hz ⊢
  refine acalls_L' (T := tt) (S := fun L => sumOf [clone_s L]) (lo := fun _ => noA std) (lb := noA) 5 (fn := Try.f21) (xs := fun L => [cvL L l]) rfl rfl (by kernel_rfl) (by kernel_rfl) rfl tt_ok (sumOf_ok ⟨clone_good, trivial⟩) (by kernel_rfl) ?_
  intro L P' Q' hL hP hQ
  (cbv; try simp only [sat_need, sat_must, sat_ite, sat_done, sat_yes, sat_ex, sat_all, sat_sup, sat_and, sat_fail, true_and, and_true])
  (subst hL; subst hQ; simp only [L2, L3, std] at *; try simp only [sySet, reduceCtorEq, forall_const, Int.reduceToNat, Int.reduceAdd, Int.reduceSub, Int.cast_ofNat_Int, Int.toNat_natCast, Nat.le_eq, Nat.sub_eq, ne_eq, Decidable.not_not, implies_true, true_and, and_true, wadd, wsub, wmul, decide_eq_true_eq, decide_eq_false_iff_not, Nat.succ_eq_add_one, imp_false, not_false_eq_true, not_true_eq_false, false_imp_iff, true_imp_iff] at *)
  rw [rdl]
  refine ⟨⟨okl l, hz⟩, ?_⟩
  show fits (.agg [.int .i64 3, .int .u64 0, .str [], .lst 4 (lenL l) (cvGet l)]) _
  simp [fits_aggi, fits1_aggi, fits1_aggs, fits1_aggl, fits1_agg0]

/-! ### Put -/
def putE (v : CV) : Int := if bareV v = true then (if deepV v > 6 then 8 else if (textV v).length > 8192 then 5 else 0) else 10
def putT (v : CV) : List UInt8 := if putE v = 0 then textV v else []
def cput_s (N : Nat) (L : Seal) : Ent1 := (12, fun xs => match xs with
  | [.agg [.int .i64 k, .int .u64 n, .str s, x]] => some (L okL x ∧ L2 L szOk N (mkV L k n s x) ∧ L txOk (mkV L k n s x), .tup [.str (L putT (mkV L k n s x)), .int .i64 (L putE (mkV L k n s x))])
  | _ => none)
def rput2_s (N : Nat) (L : Seal) : Ent1 := (13, fun xs => match xs with
  | [.agg [.int .i64 k, .int .u64 n, .str s, x]] => some (L okL x ∧ L2 L szOk N (mkV L k n s x) ∧ L txOk (mkV L k n s x), .tup [.str (L putT (mkV L k n s x)), .int .i64 (L putE (mkV L k n s x))])
  | _ => none)
theorem cput2_good (N : Nat) : Good Try.prog (cput_s N std) := by
  intro xs p r h hp
  unfold cput_s at h
  simp only at h
  split at h
  rotate_left
  · cases h
  rename_i k n s x
  cases h
  obtain ⟨ho, hz, hw⟩ := hp
  refine ac_v ho ?_
  rw [show mkV std k n s x = .mk k n s (rdL x) from rfl] at hz hw ⊢
  generalize rdL x = l at hz hw ⊢
  have hz : szOk N (.mk k n s l) := hz
  have hw : txOk (.mk k n s l) := hw
  refine acalls_L' (T := tt) (S := fun L => sumOfM [bare_s N L, deep_s N L] [put_m N L, bl_m L, bs_m L]) (lo := fun _ => noA std) (lb := noA) 5 (fn := Try.f12) (xs := fun L => [.agg [.int .i64 k, .int .u64 n, .str s, cvL L l]]) rfl rfl (by kernel_rfl) (by kernel_rfl) rfl tt_ok
    (sumOfM_ok ⟨bare_good N, deep_good N, trivial⟩ ⟨cput_good N, bl_good, bs_good, trivial⟩) (by kernel_rfl) ?_
  intro L P' Q' hL hP hQ
  have hB : ∀ b : List UInt8, L (L bytesOf (L lenN b)) (fun i => (AV.int .u8 (L2 L byteAt b i)).toI) = b := by subst hL; exact bytesOf_at
  (cbv; try simp only [sat_need, sat_must, sat_ite, sat_done, sat_yes, sat_ex, sat_all, sat_sup, sat_and, sat_fail, true_and, and_true])
  simp only [hB]
  (subst hL; subst hQ; simp only [L2, L3, std] at *; try simp only [sySet, reduceCtorEq, forall_const, Int.reduceToNat, Int.reduceAdd, Int.reduceSub, Int.cast_ofNat_Int, Int.toNat_natCast, Nat.le_eq, Nat.sub_eq, ne_eq, Decidable.not_not, implies_true, true_and, and_true, wadd, wsub, wmul, decide_eq_true_eq, decide_eq_false_iff_not, Nat.succ_eq_add_one, imp_false, not_false_eq_true, not_true_eq_false, false_imp_iff, true_imp_iff] at *)
  simp only [rdl, mkl]
  refine ⟨⟨okl l, hz⟩, fun h1 => ?_, fun h1 => ⟨⟨okl l, hz⟩, fun h2 => ?_, fun h2 => ⟨⟨okl l, hz, hw⟩, fun h3 => ?_, fun h3 => ⟨⟨?_, hw.2⟩, ?_⟩⟩⟩⟩
  · simp [putT, putE, h1]
  · simp [putT, putE, h1, h2]
  · have h4 : ¬ 6 < deepV (.mk k n s l) := by omega
    have h5 : 8192 < (textV (.mk k n s l)).length := by omega
    simp [putT, putE, h1, h4, h5]
  · rw [textV_mk]; simp [byteK]
  · have h4 : ¬ 6 < deepV (.mk k n s l) := by omega
    have h5 : ¬ 8192 < (textV (.mk k n s l)).length := by omega
    simp [putT, putE, h1, h4, h5]
theorem rput2_good (N : Nat) : Good Try.prog (rput2_s N std) := by
  intro xs p r h hp
  unfold rput2_s at h
  simp only at h
  split at h
  rotate_left
  · cases h
  rename_i k n s x
  cases h
  obtain ⟨ho, hz, hw⟩ := hp
  refine ac_v ho ?_
  rw [show mkV std k n s x = .mk k n s (rdL x) from rfl] at hz hw ⊢
  generalize rdL x = l at hz hw ⊢
  have hz : szOk N (.mk k n s l) := hz
  have hw : txOk (.mk k n s l) := hw
  refine acalls_L' (T := tt) (S := fun L => sumOf [rbare_s N L, rdeep_s N L, rtext_s N L]) (lo := fun _ => noA std) (lb := noA) 5 (fn := Try.f13) (xs := fun L => [.agg [.int .i64 k, .int .u64 n, .str s, cvL L l]]) rfl rfl (by kernel_rfl) (by kernel_rfl) rfl tt_ok
    (sumOf_ok ⟨rbare_good N, rdeep_good N, rtext_good N, trivial⟩) (by kernel_rfl) ?_
  intro L P' Q' hL hP hQ
  (cbv; try simp only [sat_need, sat_must, sat_ite, sat_done, sat_yes, sat_ex, sat_all, sat_sup, sat_and, sat_fail, true_and, and_true])
  (subst hL; subst hQ; simp only [L2, L3, std] at *; try simp only [sySet, reduceCtorEq, forall_const, Int.reduceToNat, Int.reduceAdd, Int.reduceSub, Int.cast_ofNat_Int, Int.toNat_natCast, Nat.le_eq, Nat.sub_eq, ne_eq, Decidable.not_not, implies_true, true_and, and_true, wadd, wsub, wmul, decide_eq_true_eq, decide_eq_false_iff_not, Nat.succ_eq_add_one, imp_false, not_false_eq_true, not_true_eq_false, false_imp_iff, true_imp_iff] at *)
  simp only [rdl, mkl]
  refine ⟨⟨okl l, hz⟩, fun h1 => ?_, fun h1 => ⟨⟨okl l, hz⟩, fun h2 => ?_, fun h2 => ⟨⟨okl l, hz, hw⟩, fun h3 => ?_, fun h3 => ?_⟩⟩⟩
  · simp [putT, putE, h1]
  · simp [putT, putE, h1, h2]
  · have h4 : ¬ 6 < deepV (.mk k n s l) := by omega
    have h5 : 8192 < (textV (.mk k n s l)).length := by omega
    simp [putT, putE, h1, h4, h5]
  · have h4 : ¬ 6 < deepV (.mk k n s l) := by omega
    have h5 : ¬ 8192 < (textV (.mk k n s l)).length := by omega
    simp [putT, putE, h1, h4, h5]

/-! ### The chapter's example -/
theorem one1 (v : CV) : rdL (.lst 4 1 fun i j => lget .dead [.int .i64 v.kd, .int .u64 v.nn, .str v.tx, .lst 4 (lenV v) (cvIn v)] (i * 4 + j)) = [v] := by
  show [CV.mk v.kd v.nn v.tx (rdL (.lst 4 (lenV v) (cvIn v)))] = [v]
  rw [mk_parts]
theorem one1_ok (v : CV) : okL (.lst 4 1 fun i j => lget .dead [.int .i64 v.kd, .int .u64 v.nn, .str v.tx, .lst 4 (lenV v) (cvIn v)] (i * 4 + j)) := by
  refine ⟨rfl, fun i hi => ?_⟩
  have : i = 0 := by omega
  subst this
  exact ⟨⟨_, rfl⟩, ⟨_, rfl⟩, ⟨_, rfl⟩, (rd_in v).2⟩
theorem short1 : shortZ 1 = [1] := by rw [shortZ, show (1 : Int).toNat = 1 from rfl, shortL_small (by decide)]; rfl
theorem short5 : shortZ 5 = [5] := by rw [shortZ, show (5 : Int).toNat = 5 from rfl, shortL_small (by decide)]; rfl
theorem ex_text : textV (rowV [numV 5]) = [3, 1, 1, 5] := by
  rw [rowV, numV, textV_mk, if_neg (by decide), if_neg (by decide), textLs, textV_mk, if_pos rfl, textLs, short5]
  show _ ++ (shortZ 1 ++ _) = _
  rw [short1]; rfl
theorem ex_bare : bareV (rowV [numV 5]) = true := by rw [rowV, numV, bareV, bareLs, bareV, bareLs]; rfl
theorem ex_deep : deepV (rowV [numV 5]) = 1 := by rw [rowV, numV, deepV, deepLs, deepV, deepLs]; rfl
theorem ex_size : sizeC (rowV [numV 5]) = 2 := by rw [rowV, numV, sizeC_mk, sizeCs_cons, sizeCs_nil, sizeC_mk, sizeCs_nil]
theorem ex_putE : putE (rowV [numV 5]) = 0 := by rw [putE, ex_bare, ex_deep, ex_text]; rfl
theorem ex_putT : putT (rowV [numV 5]) = [3, 1, 1, 5] := by rw [putT, ex_putE, ex_text]; rfl
theorem ex_tx : txOk (rowV [numV 5]) := by
  refine ⟨?_, by rw [ex_text]; decide⟩
  simp only [rowV, numV, wfV, wfLs, shortOk]
  decide
theorem awake07_ac : ACalls Try.prog 10 [] (.bool true) := by
  refine acalls_L (T := tt) (S := fun L => sumOf [num_s L, list_s L, cput_s 100 L, tru 46]) (lo := noA) (lb := noA) 5 (fn := Try.f10) rfl rfl (by kernel_rfl) (by kernel_rfl) rfl tt_ok (sumOf_ok ⟨num_good, list_good, cput2_good 100, tru_good Awake01_ac, trivial⟩) (by kernel_rfl) ?_
  intro L P' Q' hL hP hQ
  (cbv; try simp only [sat_need, sat_must, sat_ite, sat_done, sat_yes, sat_ex, sat_all, sat_sup, sat_and, sat_fail, true_and, and_true])
  (subst hL; subst hQ; simp only [L2, L3, std] at *; try simp only [sySet, reduceCtorEq, forall_const, Int.reduceToNat, Int.reduceAdd, Int.reduceSub, Int.cast_ofNat_Int, Int.toNat_natCast, Nat.le_eq, Nat.sub_eq, ne_eq, Decidable.not_not, implies_true, true_and, and_true, wadd, wsub, wmul, decide_eq_true_eq, decide_eq_false_iff_not, Nat.succ_eq_add_one, imp_false, not_false_eq_true, not_true_eq_false, false_imp_iff, true_imp_iff] at *)
  simp only [one1, mk_parts, mkV_parts, ex_putE, ex_putT]
  exact ⟨⟨one1_ok _, by show (1 : Nat) ≤ 1000000; omega⟩, ⟨(rd_in _).2, ⟨by rw [ex_size]; omega, by omega⟩, ex_tx⟩, fun _ => trivial, trivial⟩
theorem Awake07_ac : ACalls Try.prog 67 [] (.bool true) := by
  refine acalls_L (T := tt) (S := fun L => sumOf [tru 10]) (lo := noA) (lb := noA) 5 (fn := Try.f67) rfl rfl (by kernel_rfl) (by kernel_rfl) rfl tt_ok (sumOf_ok ⟨tru_good awake07_ac, trivial⟩) (by kernel_rfl) ?_
  (intro L P1 Q1 hL hP hQ; cbv; subst hL; simp only [L2, L3, std, sat_need, sat_must, sat_ite, sat_done, sat_yes, sat_ex, sat_all, sat_sup, sat_and, sat_fail]; subst hQ)
  (simp only [sySet, reduceCtorEq, forall_const, Int.reduceToNat, Int.reduceAdd, Int.reduceSub, Int.cast_ofNat_Int, Int.toNat_natCast, Nat.le_eq, Nat.sub_eq, ne_eq, Decidable.not_not, implies_true, true_and, and_true, wadd, wsub, wmul, decide_eq_true_eq, decide_eq_false_iff_not, Nat.succ_eq_add_one, imp_false, not_false_eq_true, not_true_eq_false, false_imp_iff, true_imp_iff])
/-- One more value in a row. -/
theorem cv_push (g : Nat → CV) {i q j : Nat} (hq : q < i + 1) (hj : j < 4) :
    sel1 std (nblt q i) (cv1 std (g q) j) (lget .dead [.int .i64 (g i).kd, .int .u64 (g i).nn, .str (g i).tx, .lst 4 (lenV (g i)) (cvIn (g i))] ((q - i) * 4 + j)) = cv1 std (g q) j := by
  by_cases h : q < i
  · rw [blt_t h, show q - i = 0 by omega, Nat.zero_mul, Nat.zero_add]
    match j, hj with
    | 0, _ => rfl
    | 1, _ => rfl
    | 2, _ => rfl
    | 3, _ => rfl
  · have : q = i := by omega
    subst this
    rw [blt_f (by omega), show q - q = 0 by omega, Nat.zero_mul, Nat.zero_add]
    match j, hj with
    | 0, _ => rfl
    | 1, _ => rfl
    | 2, _ => rfl
    | 3, _ => rfl
/-! ### To -/
def toA (L : Seal) (k n : Int) (s : List UInt8) (l : List CV) : Nat → St → Option Ann := fun id st => match id with
  | 0 => some ⟨Nat, fun i => [(16, .int .i64 (L natI i)), (3, .ref 3 0), (2, .ref 2 0)], fun i => [(3, .box 37 [.int .i64 k, .int .u64 n, .str s, .sl 900 4 0 i]), (900, .row 37 4 i (fun i j => cv1 L (L2 L nthV l i) j)), (2, .box 37 [.dead, .dead, .dead, .dead])], [14, 15], [],
      fun i => L2 L (fun (l : List CV) i => i ≤ l.length) l i, fun i => L2 L (fun (l : List CV) (i : Nat) => l.length - i) l i⟩
  | _ => none
def to_s (N : Nat) (L : Seal) : Ent1 := (14, fun xs => match xs with
  | [.agg [.int .i64 k, .int .u64 n, .str s, x]] => some (L okL x ∧ L2 L szOk N (mkV L k n s x), cvA L (mkV L k n s x))
  | _ => none)
theorem to_good : ∀ N, Good Try.prog (to_s N std) := by
  intro N
  induction N with
  | zero =>
    intro xs p r h hp
    unfold to_s at h
    simp only at h
    split at h
    · rename_i k n s x
      cases h
      have h1 : sizeC (mkV std k n s x) ≤ 0 := hp.2.1
      have := sizeC_pos (mkV std k n s x)
      omega
    · cases h
  | succ N ih =>
    intro xs p r h hp
    unfold to_s at h
    simp only at h
    split at h
    rotate_left
    · cases h
    rename_i k n s x
    cases h
    obtain ⟨ho, hz⟩ := hp
    refine ac_v ho ?_
    rw [show mkV std k n s x = .mk k n s (rdL x) from rfl] at hz ⊢
    generalize rdL x = l at hz ⊢
    have hz : szOk (N + 1) (.mk k n s l) := hz
    refine acalls_L' (T := tt) (S := fun L => sumOf [to_s N L]) (lo := fun L => toA L k n s l) (lb := noA) 5 (fn := Try.f14) (xs := fun L => [.agg [.int .i64 k, .int .u64 n, .str s, cvL L l]]) rfl rfl (by kernel_rfl) (by kernel_rfl) rfl tt_ok
      (sumOf_ok ⟨ih, trivial⟩) (by kernel_rfl) ?_
    intro L P' Q' hL hP hQ
    (cbv; try simp only [sat_need, sat_must, sat_ite, sat_done, sat_yes, sat_ex, sat_all, sat_sup, sat_and, sat_fail, true_and, and_true])
    refine ⟨⟨0, ?_⟩, fun i hi => ?_⟩
    · (cbv; try simp only [sat_need, sat_must, sat_ite, sat_done, sat_yes, sat_ex, sat_all, sat_sup, sat_and, sat_fail, true_and, and_true])
      (subst hL; subst hQ; simp only [L2, L3, std] at *; try simp only [sySet, reduceCtorEq, forall_const, Int.reduceToNat, Int.reduceAdd, Int.reduceSub, Int.cast_ofNat_Int, Int.toNat_natCast, Nat.le_eq, Nat.sub_eq, ne_eq, Decidable.not_not, implies_true, true_and, and_true, wadd, wsub, wmul, decide_eq_true_eq, decide_eq_false_iff_not, Nat.succ_eq_add_one, imp_false, not_false_eq_true, not_true_eq_false, false_imp_iff, true_imp_iff] at *)
      exact Nat.zero_le _
    · cbv at hi
      (cbv; try simp only [sat_need, sat_must, sat_ite, sat_done, sat_yes, sat_ex, sat_all, sat_sup, sat_and, sat_fail, true_and, and_true])
      refine ⟨fun hlt => ⟨?_, ⟨?_, ?_⟩, ?_, ⟨i + 1, ?_⟩⟩, fun hge => ?_⟩
      · (subst hL; subst hQ; simp only [L2, L3, std] at *; try simp only [sySet, reduceCtorEq, forall_const, Int.reduceToNat, Int.reduceAdd, Int.reduceSub, Int.cast_ofNat_Int, Int.toNat_natCast, Nat.le_eq, Nat.sub_eq, ne_eq, Decidable.not_not, implies_true, true_and, and_true, wadd, wsub, wmul, decide_eq_true_eq, decide_eq_false_iff_not, Nat.succ_eq_add_one, imp_false, not_false_eq_true, not_true_eq_false, false_imp_iff, true_imp_iff] at *)
        omega
      · (subst hL; subst hQ; simp only [L2, L3, std] at *; try simp only [sySet, reduceCtorEq, forall_const, Int.reduceToNat, Int.reduceAdd, Int.reduceSub, Int.cast_ofNat_Int, Int.toNat_natCast, Nat.le_eq, Nat.sub_eq, ne_eq, Decidable.not_not, implies_true, true_and, and_true, wadd, wsub, wmul, decide_eq_true_eq, decide_eq_false_iff_not, Nat.succ_eq_add_one, imp_false, not_false_eq_true, not_true_eq_false, false_imp_iff, true_imp_iff] at *)
        exact (rd_in _).2
      · (subst hL; subst hQ; simp only [L2, L3, std] at *; try simp only [sySet, reduceCtorEq, forall_const, Int.reduceToNat, Int.reduceAdd, Int.reduceSub, Int.cast_ofNat_Int, Int.toNat_natCast, Nat.le_eq, Nat.sub_eq, ne_eq, Decidable.not_not, implies_true, true_and, and_true, wadd, wsub, wmul, decide_eq_true_eq, decide_eq_false_iff_not, Nat.succ_eq_add_one, imp_false, not_false_eq_true, not_true_eq_false, false_imp_iff, true_imp_iff] at *)
        rw [mk_parts]
        rw [sizeC_mk_ok] at hz
        exact nth_sz hz.1 (by have : lenL l = l.length := rfl; omega)
      · (subst hL; subst hQ; simp only [L2, L3, std] at *; try simp only [sySet, reduceCtorEq, forall_const, Int.reduceToNat, Int.reduceAdd, Int.reduceSub, Int.cast_ofNat_Int, Int.toNat_natCast, Nat.le_eq, Nat.sub_eq, ne_eq, Decidable.not_not, implies_true, true_and, and_true, wadd, wsub, wmul, decide_eq_true_eq, decide_eq_false_iff_not, Nat.succ_eq_add_one, imp_false, not_false_eq_true, not_true_eq_false, false_imp_iff, true_imp_iff] at *)
        have : lenL l = l.length := rfl
        have := len_sz l
        rw [sizeC_mk_ok] at hz
        have h4 := hz.1.1
        have h5 := hz.1.2
        omega
      · (cbv; try simp only [sat_need, sat_must, sat_ite, sat_done, sat_yes, sat_ex, sat_all, sat_sup, sat_and, sat_fail, true_and, and_true])
        (subst hL; subst hQ; simp only [L2, L3, std] at *; try simp only [sySet, reduceCtorEq, forall_const, Int.reduceToNat, Int.reduceAdd, Int.reduceSub, Int.cast_ofNat_Int, Int.toNat_natCast, Nat.le_eq, Nat.sub_eq, ne_eq, Decidable.not_not, implies_true, true_and, and_true, wadd, wsub, wmul, decide_eq_true_eq, decide_eq_false_iff_not, Nat.succ_eq_add_one, imp_false, not_false_eq_true, not_true_eq_false, false_imp_iff, true_imp_iff] at *)
        simp only [mk_parts]
        have : lenL l = l.length := rfl
        have := len_sz l
        rw [sizeC_mk_ok] at hz
        have h4 := hz.1.1
        have h5 := hz.1.2
        exact ⟨fun q j hq hj => cv_push (nthV l) hq hj, by omega, by omega, by omega⟩
      · (subst hL; subst hQ; simp only [L2, L3, std] at *; try simp only [sySet, reduceCtorEq, forall_const, Int.reduceToNat, Int.reduceAdd, Int.reduceSub, Int.cast_ofNat_Int, Int.toNat_natCast, Nat.le_eq, Nat.sub_eq, ne_eq, Decidable.not_not, implies_true, true_and, and_true, wadd, wsub, wmul, decide_eq_true_eq, decide_eq_false_iff_not, Nat.succ_eq_add_one, imp_false, not_false_eq_true, not_true_eq_false, false_imp_iff, true_imp_iff] at *)
        have : lenL l = l.length := rfl
        have hil : i = l.length := by omega
        show fits (.agg [.int .i64 k, .int .u64 n, .str s, .lst 4 l.length (cvGet l)]) _
        simp only [fits_aggi, fits1_aggi, fits1_aggs, fits1_aggl, fits1_agg0, true_and, and_true]
        refine ⟨hil, fun q j hq hj => ?_⟩
        rw [cvGet_nth _ _ _ hq]
        exact cv1_std _ j hj
end Sy
end Go.Proofs.Ythlggigjnpldcaa
namespace Go.Proofs.Ythlggigjnpldcaa
namespace Sy
open Go Go.RowKit
set_option maxRecDepth 100000
set_option linter.unusedSimpArgs false
set_option linter.unusedVariables false

structure Nd where
  k : Int
  n : Int
  s : List UInt8
  b : List UInt8
def ndAt (L : Seal) (x : Nd) : Nat → AV
  | 0 => .int .i64 (L Nd.k x)
  | 1 => .int .u64 (L Nd.n x)
  | 2 => .str (L Nd.s x)
  | _ => .lst 1 (L lenN (L Nd.b x)) (fun q _ => .int .u8 (L2 L byteAt (L Nd.b x) q))
def nthD (l : List Nd) (i : Nat) : Nd := l.getD i ⟨0, 0, [], []⟩
def lenD (l : List Nd) : Nat := l.length
/-- What is looked back at: of nodes ahead, by their places from the last one on back. -/
def backs {α : Type} (all : List α) : List UInt8 → List α
  | [] => []
  | x :: b => if h : x.toNat < all.length then all[all.length - 1 - x.toNat] :: backs all b else backs all b
def sumI : List Int → Int
  | [] => 0
  | x :: l => x + sumI l
def valN (all : List CV) (d : Nd) : CV := .mk d.k d.n d.s (backs all d.b)
def sizN (all : List Int) (d : Nd) : Int := 1 + ((d.s.length / 8 : Nat) : Int) + sumI (backs all d.b)
def valsN (l : List Nd) : Nat → List CV
  | 0 => []
  | i + 1 => valsN l i ++ [valN (valsN l i) (nthD l i)]
def sizsN (l : List Nd) : Nat → List Int
  | 0 => []
  | i + 1 => sizsN l i ++ [sizN (sizsN l i) (nthD l i)]
theorem valsN_len (l : List Nd) : ∀ i, (valsN l i).length = i
  | 0 => rfl
  | i + 1 => by rw [valsN, List.length_append, valsN_len l i]; rfl
theorem sizsN_len (l : List Nd) : ∀ i, (sizsN l i).length = i
  | 0 => rfl
  | i + 1 => by rw [sizsN, List.length_append, sizsN_len l i]; rfl
def valD (l : List Nd) (i : Nat) : CV := valN (valsN l i) (nthD l i)
def sizD (l : List Nd) (i : Nat) : Int := sizN (sizsN l i) (nthD l i)
theorem valsN_at (l : List Nd) : ∀ i q, q < i → nthV (valsN l i) q = valD l q
  | 0, q, h => by omega
  | i + 1, q, h => by
    rw [valsN, nthV, List.getD_eq_getElem?_getD]
    by_cases e : q < i
    · rw [List.getElem?_append_left (by rw [valsN_len]; exact e)]
      have := valsN_at l i q e
      rw [nthV, List.getD_eq_getElem?_getD] at this
      exact this
    · have : q = i := by omega
      subst this
      rw [List.getElem?_append_right (by rw [valsN_len]; omega), valsN_len]
      simp [valD]
theorem sizsN_at (l : List Nd) : ∀ i q, q < i → nthI (sizsN l i) q = sizD l q
  | 0, q, h => by omega
  | i + 1, q, h => by
    rw [sizsN, nthI, List.getD_eq_getElem?_getD]
    by_cases e : q < i
    · rw [List.getElem?_append_left (by rw [sizsN_len]; exact e)]
      have := sizsN_at l i q e
      rw [nthI, List.getD_eq_getElem?_getD] at this
      exact this
    · have : q = i := by omega
      subst this
      rw [List.getElem?_append_right (by rw [sizsN_len]; omega), sizsN_len]
      simp [sizD]
theorem backs_app {α : Type} (all : List α) : ∀ a b : List UInt8, backs all (a ++ b) = backs all a ++ backs all b
  | [], b => rfl
  | x :: a, b => by
    rw [List.cons_append, backs, backs]
    split <;> rw [backs_app all a b] <;> rfl
theorem sumI_app : ∀ a b : List Int, sumI (a ++ b) = sumI a + sumI b
  | [], b => by simp [sumI]
  | x :: a, b => by rw [List.cons_append, sumI, sumI_app a b, sumI]; omega
/-- What is in the list behind q looks. -/
def pushQ (l : List Nd) (i q : Nat) : List CV := backs (valsN l i) ((nthD l i).b.take q)
def cntQ (l : List Nd) (i q : Nat) : Nat := (pushQ l i q).length
def szQ (l : List Nd) (i q : Nat) : Int := 1 + (((nthD l i).s.length / 8 : Nat) : Int) + sumI (backs (sizsN l i) ((nthD l i).b.take q))
def fineD (l : List Nd) (i : Nat) : Prop := sizD l i ≤ 2000 ∧ (nthD l i).s.length ≤ 9000 ∧ (nthD l i).b.length ≤ 20 ∧ l.length ≤ 40
def fineTo (l : List Nd) (i : Nat) : Prop := ∀ j, j < i → fineD l j
def atQ (l : List Nd) (i q : Nat) : Int := (i : Int) - 1 - byteAt (nthD l i).b q
theorem push_yes {l : List Nd} {i q : Nat} (hq : q < (nthD l i).b.length) (h : 0 ≤ atQ l i q) : pushQ l i (q + 1) = pushQ l i q ++ [valD l (atQ l i q).toNat] ∧ szQ l i (q + 1) = szQ l i q + sizD l (atQ l i q).toNat ∧ (atQ l i q).toNat < i := by
  have hb : byteAt (nthD l i).b q = ((nthD l i).b[q]).toNat := by simp [byteAt, hq]
  unfold atQ at h ⊢
  rw [hb] at h ⊢
  have hlt : ((nthD l i).b[q]).toNat < i := by omega
  have e : ((i : Int) - 1 - (((nthD l i).b[q]).toNat : Int)).toNat = i - 1 - ((nthD l i).b[q]).toNat := by omega
  rw [e]
  refine ⟨?_, ?_, by omega⟩
  · unfold pushQ
    rw [List.take_succ_eq_append_getElem hq, backs_app]
    congr 1
    rw [backs, dif_pos (by rw [valsN_len]; exact hlt), backs]
    congr 1
    have := valsN_at l i (i - 1 - ((nthD l i).b[q]).toNat) (by omega)
    rw [nthV, List.getD_eq_getElem?_getD, List.getElem?_eq_getElem (by rw [valsN_len]; omega)] at this
    rw [← this]
    simp only [valsN_len, Option.getD_some]
  · unfold szQ
    rw [List.take_succ_eq_append_getElem hq, backs_app, sumI_app]
    rw [show backs (sizsN l i) [(nthD l i).b[q]] = [sizD l (i - 1 - ((nthD l i).b[q]).toNat)] from ?_]
    · simp only [sumI]; omega
    · rw [backs, dif_pos (by rw [sizsN_len]; exact hlt), backs]
      congr 1
      have := sizsN_at l i (i - 1 - ((nthD l i).b[q]).toNat) (by omega)
      rw [nthI, List.getD_eq_getElem?_getD, List.getElem?_eq_getElem (by rw [sizsN_len]; omega)] at this
      rw [← this]
      simp only [sizsN_len, Option.getD_some]
theorem push_no {l : List Nd} {i q : Nat} (hq : q < (nthD l i).b.length) (h : atQ l i q < 0) : pushQ l i (q + 1) = pushQ l i q ∧ szQ l i (q + 1) = szQ l i q := by
  have hb : byteAt (nthD l i).b q = ((nthD l i).b[q]).toNat := by simp [byteAt, hq]
  unfold atQ at h
  rw [hb] at h
  have hge : ¬ ((nthD l i).b[q]).toNat < i := by omega
  refine ⟨?_, ?_⟩
  · unfold pushQ
    rw [List.take_succ_eq_append_getElem hq, backs_app, backs, dif_neg (by rw [valsN_len]; exact hge), backs, List.append_nil]
  · unfold szQ
    rw [List.take_succ_eq_append_getElem hq, backs_app, backs, dif_neg (by rw [sizsN_len]; exact hge), backs, List.append_nil]
theorem cntQ_le (l : List Nd) (i : Nat) : ∀ q, q ≤ (nthD l i).b.length → cntQ l i q ≤ q
  | 0, _ => by simp [cntQ, pushQ, backs]
  | q + 1, h => by
    have := cntQ_le l i q (by omega)
    unfold cntQ at *
    by_cases e : 0 ≤ atQ l i q
    · rw [(push_yes (by omega) e).1, List.length_append]; simp; omega
    · rw [(push_no (by omega) (by omega)).1]; omega
theorem sizD_pos : ∀ (l : List Nd) (i : Nat), 1 ≤ sizD l i := by
  intro l i
  induction i using Nat.strongRecOn with
  | _ i ih =>
    have : ∀ q, q ≤ (nthD l i).b.length → 1 ≤ szQ l i q := by
      intro q
      induction q with
      | zero => intro _; simp [szQ, backs, sumI]; omega
      | succ q ihq =>
        intro hq
        have h1 := ihq (by omega)
        by_cases e : 0 ≤ atQ l i q
        · have h2 := push_yes (by omega) e
          have := ih _ h2.2.2
          omega
        · rw [(push_no (by omega) (by omega)).2]; exact h1
    have := this _ (Nat.le_refl _)
    unfold szQ at this
    rw [List.take_length] at this
    exact this
theorem szQ_mono (l : List Nd) (i : Nat) : ∀ q, q ≤ (nthD l i).b.length → 1 ≤ szQ l i q ∧ (fineTo l i → szQ l i q ≤ 1 + (((nthD l i).s.length / 8 : Nat) : Int) + 2000 * (q : Int))
  | 0, _ => by simp [szQ, backs, sumI]; omega
  | q + 1, h => by
    have := szQ_mono l i q (by omega)
    by_cases e : 0 ≤ atQ l i q
    · have h2 := push_yes (by omega) e
      have h3 := sizD_pos l (atQ l i q).toNat
      refine ⟨by omega, fun hf => ?_⟩
      have h4 := (hf _ h2.2.2).1
      have := this.2 hf
      rw [h2.2.1]; omega
    · rw [(push_no (by omega) (by omega)).2]
      exact ⟨this.1, fun hf => by have := this.2 hf; omega⟩
instance (l : List Nd) (i : Nat) : Decidable (fineD l i) := by unfold fineD; exact inferInstance
instance (l : List Nd) (i : Nat) : Decidable (fineTo l i) := by unfold fineTo; exact Nat.decidableBallLT i fun j _ => fineD l j
def madeO (l : List Nd) : Bool := decide (0 < l.length) && decide (fineTo l l.length)
def madeV (l : List Nd) : CV := if madeO l = true then valD l (l.length - 1) else .mk 0 0 [] []
/-- What is read is of a size. -/
def smallD (l : List Nd) : Prop := l.length ≤ 1048576 ∧ ∀ i, (nthD l i).s.length ≤ 1048576 ∧ (nthD l i).b.length ≤ 1048576
def outA (L : Seal) (l : List Nd) : Option Ann := some ⟨Nat, fun i => [(15, .int .i64 (L natI i)), (4, .sl 900 4 0 i), (5, .sl 902 1 0 i)],
    fun i => [(900, .row 27 4 i (fun q j => cv1 L (L2 L valD l q) j)), (902, .row 3 1 i (fun q _ => .int .i64 (L2 L sizD l q)))], [0, 2, 13, 14], [2],
      fun i => L2 L (fun (l : List Nd) (i : Nat) => i ≤ l.length ∧ fineTo l i) l i, fun i => L2 L (fun (l : List Nd) (i : Nat) => l.length - i) l i⟩
def innA (L : Seal) (l : List Nd) (i : Nat) : Option Ann := some ⟨Nat, fun q => [(35, .int .i64 (L natI q)), (9, .int .i64 (L3 L szQ l i q)), (8, .ref 8 0)],
    fun q => [(8, .box 27 [.int .i64 (L Nd.k (L2 L nthD l i)), .int .u64 (L Nd.n (L2 L nthD l i)), .str (L Nd.s (L2 L nthD l i)), .sl 901 4 0 (L3 L cntQ l i q)]), (901, .row 27 4 (L3 L cntQ l i q) (fun p j => L2 L cvGet (L3 L pushQ l i q) p j))],
      [0, 2, 4, 5, 6, 7, 13, 14, 15, 33, 34], [2, 7, 900, 902],
      fun q => L3 L (fun (l : List Nd) (i q : Nat) => q ≤ (nthD l i).b.length) l i q, fun q => L3 L (fun (l : List Nd) (i q : Nat) => (nthD l i).b.length - q) l i q⟩
def madeA (L : Seal) (l : List Nd) : Nat → St → Option Ann := fun id s => match id with
  | 0 => outA L l
  | 2 => match aget s.slots 4 with
    | some (.sl _ _ _ i) => innA L l i
    | _ => none
  | _ => none
theorem fineTo_no {l : List Nd} {i : Nat} (hi : i < l.length) (h : ¬ fineD l i) : madeO l = false := by
  unfold madeO
  have : ¬ fineTo l l.length := fun hf => h (hf i hi)
  simp [this]
theorem made_no {l : List Nd} (h : madeO l = false) : fits1 (cvA std (madeV l)) (.agg [.int .i64 0, .int .u64 0, .str [], .nils]) ∧ false = madeO l := by
  have e : madeV l = .mk 0 0 [] [] := by unfold madeV; rw [h]; rfl
  rw [e]
  refine ⟨?_, h.symm⟩
  show fits1 (.agg [.int .i64 0, .int .u64 0, .str [], .lst 4 0 (cvIn (.mk 0 0 [] []))]) _
  simp [fits1_aggi, fits1_aggs, fits1_aggn, fits1_agg0]
theorem made_yes {l : List Nd} (h0 : 0 < l.length) (h : fineTo l l.length) {v : CV} (hv : v = valD l (l.length - 1)) : fits1 (cvA std (madeV l)) (.agg [.int .i64 v.kd, .int .u64 v.nn, .str v.tx, .lst 4 (lenV v) (cvIn v)]) ∧ true = madeO l := by
  have e0 : madeO l = true := by unfold madeO; simp [h0, h]
  have e : madeV l = v := by unfold madeV; rw [e0, hv]; rfl
  rw [e]
  refine ⟨?_, e0.symm⟩
  show fits1 (.agg [.int .i64 v.kd, .int .u64 v.nn, .str v.tx, .lst 4 (lenV v) (cvIn v)]) _
  simp [fits1_aggi, fits1_aggs, fits1_aggl, fits1_agg0]
theorem wquo8 (n : Nat) (h : n ≤ 1048576) : wquo .i64 (n : Int) 8 = ((n / 8 : Nat) : Int) := by
  rw [wquo64, w_i64, Int.tdiv_eq_ediv_of_nonneg (by omega)]; omega
theorem atQ_is {l : List Nd} {i : Nat} (q : Nat) (hi : i ≤ 1048576) : ((i : Int) - 1 + 9223372036854775808) % 18446744073709551616 - 9223372036854775808 - ((byteAt (nthD l i).b q + 9223372036854775808) % 18446744073709551616 - 9223372036854775808) = atQ l i q ∧ -256 ≤ atQ l i q ∧ atQ l i q < i := by
  have h1 : 0 ≤ byteAt (nthD l i).b q := by simp [byteAt]
  have h2 : byteAt (nthD l i).b q < 256 := by
    have := UInt8.toNat_lt ((nthD l i).b.getD q 0)
    show ((((nthD l i).b.getD q 0).toNat : Nat) : Int) < 256
    omega
  unfold atQ
  exact ⟨by omega, by omega, by omega⟩
theorem atQ_w {l : List Nd} {i : Nat} (q : Nat) (hi : i ≤ 1048576) : ((i : Int) - 1 + 9223372036854775808) % 18446744073709551616 - 9223372036854775808 - ((byteAt (nthD l i).b q + 9223372036854775808) % 18446744073709551616 - 9223372036854775808) = atQ l i q ∧ (((i : Int) - 1 + 9223372036854775808) % 18446744073709551616 - 9223372036854775808 - ((byteAt (nthD l i).b q + 9223372036854775808) % 18446744073709551616 - 9223372036854775808) + 9223372036854775808) % 18446744073709551616 - 9223372036854775808 = atQ l i q := by
  have h := atQ_is (l := l) q hi
  exact ⟨h.1, by rw [h.1]; omega⟩
theorem cv_push2 (a : List CV) (v : CV) {p j : Nat} (hp : p < a.length + 1) (hj : j < 4) :
    sel1 std (nblt p a.length) (cv1 std (nthV a p) j) (lget .dead [.int .i64 v.kd, .int .u64 v.nn, .str v.tx, .lst 4 (lenV v) (cvIn v)] ((p - a.length) * 4 + j)) = cv1 std (nthV (a ++ [v]) p) j := by
  by_cases h : p < a.length
  · have e : nthV (a ++ [v]) p = nthV a p := by
      rw [nthV, nthV, List.getD_eq_getElem?_getD, List.getD_eq_getElem?_getD, List.getElem?_append_left h]
    rw [blt_t h, e, show p - a.length = 0 by omega, Nat.zero_mul, Nat.zero_add]
    match j, hj with
    | 0, _ => rfl
    | 1, _ => rfl
    | 2, _ => rfl
    | 3, _ => rfl
  · have e : nthV (a ++ [v]) p = v := by
      have : p = a.length := by omega
      subst this
      rw [nthV, List.getD_eq_getElem?_getD, List.getElem?_append_right (Nat.le_refl _)]
      simp
    rw [blt_f h, e, show p - a.length = 0 by omega, Nat.zero_mul, Nat.zero_add]
    match j, hj with
    | 0, _ => rfl
    | 1, _ => rfl
    | 2, _ => rfl
    | 3, _ => rfl
theorem cvGet_far : ∀ (a : List CV) (p j : Nat), a.length ≤ p → cvGet a p j = dflC j
  | [], p, j, _ => by rw [cvGet]
  | v :: a, 0, j, h => by simp at h
  | v :: a, p + 1, j, h => by rw [cvGet]; exact cvGet_far a p j (by simpa using h)
theorem cv_push3 (a : List CV) (v : CV) {p j : Nat} (hp : p < a.length + 1) (hj : j < 4) :
    sel1 std (nblt p a.length) (cvGet a p j) (lget .dead [.int .i64 v.kd, .int .u64 v.nn, .str v.tx, .lst 4 (lenV v) (cvIn v)] ((p - a.length) * 4 + j)) = cvGet (a ++ [v]) p j := by
  rw [cvGet_nth (a ++ [v]) p j (by simpa using hp), ← cv1_std _ j hj, ← cv_push2 a v hp hj]
  by_cases h : p < a.length
  · rw [cvGet_nth a p j h, ← cv1_std _ j hj]
  · rw [blt_f h, cvGet_far a p j (by omega)]
    have : p - a.length = 0 := by omega
    rw [this, Nat.zero_mul, Nat.zero_add]
    match j, hj with
    | 0, _ => rfl
    | 1, _ => rfl
    | 2, _ => rfl
    | 3, _ => rfl
theorem szQ_all {l : List Nd} {i q : Nat} (hq : q ≤ (nthD l i).b.length) (hge : ((nthD l i).b.length : Int) ≤ (q : Int)) : szQ l i q = sizD l i ∧ pushQ l i q = (valD l i).ls := by
  have : q = (nthD l i).b.length := by omega
  subst this
  unfold szQ pushQ
  rw [List.take_length]
  exact ⟨rfl, rfl⟩
theorem made_ac (l : List Nd) (hs : smallD l) : ACalls Try.prog 11 [.lst 4 l.length (fun i j => ndAt std (nthD l i) j)] (.tup [cvA std (madeV l), .bool (madeO l)]) := by
  refine acalls_L' (T := tt) (S := noS) (lo := fun L => madeA L l) (lb := noA) 5 (fn := Try.f11) (xs := fun L => [.lst 4 (L lenD l) (fun i j => ndAt L (L2 L nthD l i) j)]) rfl rfl (by kernel_rfl) (by kernel_rfl) rfl tt_ok (noS_ok _) (by kernel_rfl) ?_
  intro L P' Q' hL hP hQ
  (cbv; try simp only [sat_need, sat_must, sat_ite, sat_done, sat_yes, sat_ex, sat_all, sat_sup, sat_and, sat_fail, true_and, and_true])
  refine ⟨⟨0, ?_⟩, fun i hi => ?_⟩
  · (cbv; try simp only [sat_need, sat_must, sat_ite, sat_done, sat_yes, sat_ex, sat_all, sat_sup, sat_and, sat_fail, true_and, and_true])
    (subst hL; subst hQ; simp only [L2, L3, std] at *; try simp only [sySet, reduceCtorEq, forall_const, Int.reduceToNat, Int.reduceAdd, Int.reduceSub, Int.cast_ofNat_Int, Int.toNat_natCast, Nat.le_eq, Nat.sub_eq, ne_eq, Decidable.not_not, implies_true, true_and, and_true, wadd, wsub, wmul, decide_eq_true_eq, decide_eq_false_iff_not, Nat.succ_eq_add_one, imp_false, not_false_eq_true, not_true_eq_false, false_imp_iff, true_imp_iff] at *)
    exact ⟨Nat.zero_le _, fun j hj => by omega⟩
  · cbv at hi
    (cbv; try simp only [sat_need, sat_must, sat_ite, sat_done, sat_yes, sat_ex, sat_all, sat_sup, sat_and, sat_fail, true_and, and_true])
    refine ⟨fun hlt => ⟨?_, ?_, ⟨0, ?_⟩, fun q hq => ?_⟩, fun hge => ?_⟩
    · (subst hL; subst hQ; simp only [L2, L3, std] at *; try simp only [sySet, reduceCtorEq, forall_const, Int.reduceToNat, Int.reduceAdd, Int.reduceSub, Int.cast_ofNat_Int, Int.toNat_natCast, Nat.le_eq, Nat.sub_eq, ne_eq, Decidable.not_not, implies_true, true_and, and_true, wadd, wsub, wmul, decide_eq_true_eq, decide_eq_false_iff_not, Nat.succ_eq_add_one, imp_false, not_false_eq_true, not_true_eq_false, false_imp_iff, true_imp_iff] at *)
      omega
    · (subst hL; subst hQ; simp only [L2, L3, std] at *; try simp only [sySet, reduceCtorEq, forall_const, Int.reduceToNat, Int.reduceAdd, Int.reduceSub, Int.cast_ofNat_Int, Int.toNat_natCast, Nat.le_eq, Nat.sub_eq, ne_eq, Decidable.not_not, implies_true, true_and, and_true, wadd, wsub, wmul, decide_eq_true_eq, decide_eq_false_iff_not, Nat.succ_eq_add_one, imp_false, not_false_eq_true, not_true_eq_false, false_imp_iff, true_imp_iff] at *)
      decide
    · (cbv; try simp only [sat_need, sat_must, sat_ite, sat_done, sat_yes, sat_ex, sat_all, sat_sup, sat_and, sat_fail, true_and, and_true])
      (subst hL; subst hQ; simp only [L2, L3, std] at *; try simp only [sySet, reduceCtorEq, forall_const, Int.reduceToNat, Int.reduceAdd, Int.reduceSub, Int.cast_ofNat_Int, Int.toNat_natCast, Nat.le_eq, Nat.sub_eq, ne_eq, Decidable.not_not, implies_true, true_and, and_true, wadd, wsub, wmul, decide_eq_true_eq, decide_eq_false_iff_not, Nat.succ_eq_add_one, imp_false, not_false_eq_true, not_true_eq_false, false_imp_iff, true_imp_iff] at *)
      rw [wquo8 _ (hs.2 i).1]
      have h1 := (hs.2 i).1
      refine ⟨rfl, rfl, ?_, Nat.zero_le _⟩
      simp only [szQ, List.take_zero, backs, sumI]
      omega
    · cbv at hq
      (cbv; try simp only [sat_need, sat_must, sat_ite, sat_done, sat_yes, sat_ex, sat_all, sat_sup, sat_and, sat_fail, true_and, and_true])
      refine ⟨fun hlq => ⟨?_, fun hat => ⟨?_, ?_, ?_, ⟨q + 1, ?_⟩⟩, fun hat => ⟨q + 1, ?_⟩⟩, fun hgq => ⟨fun h1 => ?_, fun h1 => ⟨fun h2 => ?_, fun h2 => ⟨fun h3 => ?_, fun h3 => ⟨fun h4 => ?_, fun h4 => ?_⟩⟩⟩⟩⟩
      · (subst hL; subst hQ; simp only [L2, L3, std] at *; try simp only [sySet, reduceCtorEq, forall_const, Int.reduceToNat, Int.reduceAdd, Int.reduceSub, Int.cast_ofNat_Int, Int.toNat_natCast, Nat.le_eq, Nat.sub_eq, ne_eq, Decidable.not_not, implies_true, true_and, and_true, wadd, wsub, wmul, decide_eq_true_eq, decide_eq_false_iff_not, Nat.succ_eq_add_one, imp_false, not_false_eq_true, not_true_eq_false, false_imp_iff, true_imp_iff] at *)
        omega
      · (subst hL; subst hQ; simp only [L2, L3, std] at *; try simp only [sySet, reduceCtorEq, forall_const, Int.reduceToNat, Int.reduceAdd, Int.reduceSub, Int.cast_ofNat_Int, Int.toNat_natCast, Nat.le_eq, Nat.sub_eq, ne_eq, Decidable.not_not, implies_true, true_and, and_true, wadd, wsub, wmul, decide_eq_true_eq, decide_eq_false_iff_not, Nat.succ_eq_add_one, imp_false, not_false_eq_true, not_true_eq_false, false_imp_iff, true_imp_iff] at *)
        rw [(atQ_w q (by have := hs.1; omega)).2] at hat ⊢
        have hx := atQ_is (l := l) (i := i) q (by have := hs.1; omega)
        exact ⟨hat, hx.2.2⟩
      · (subst hL; subst hQ; simp only [L2, L3, std] at *; try simp only [sySet, reduceCtorEq, forall_const, Int.reduceToNat, Int.reduceAdd, Int.reduceSub, Int.cast_ofNat_Int, Int.toNat_natCast, Nat.le_eq, Nat.sub_eq, ne_eq, Decidable.not_not, implies_true, true_and, and_true, wadd, wsub, wmul, decide_eq_true_eq, decide_eq_false_iff_not, Nat.succ_eq_add_one, imp_false, not_false_eq_true, not_true_eq_false, false_imp_iff, true_imp_iff] at *)
        have := cntQ_le l i q hq
        have := (hs.2 i).2
        omega
      · (subst hL; subst hQ; simp only [L2, L3, std] at *; try simp only [sySet, reduceCtorEq, forall_const, Int.reduceToNat, Int.reduceAdd, Int.reduceSub, Int.cast_ofNat_Int, Int.toNat_natCast, Nat.le_eq, Nat.sub_eq, ne_eq, Decidable.not_not, implies_true, true_and, and_true, wadd, wsub, wmul, decide_eq_true_eq, decide_eq_false_iff_not, Nat.succ_eq_add_one, imp_false, not_false_eq_true, not_true_eq_false, false_imp_iff, true_imp_iff] at *)
        rw [(atQ_w q (by have := hs.1; omega)).2] at hat ⊢
        have hx := atQ_is (l := l) (i := i) q (by have := hs.1; omega)
        exact ⟨hat, hx.2.2⟩
      · (cbv; try simp only [sat_need, sat_must, sat_ite, sat_done, sat_yes, sat_ex, sat_all, sat_sup, sat_and, sat_fail, true_and, and_true])
        (subst hL; subst hQ; simp only [L2, L3, std] at *; try simp only [sySet, reduceCtorEq, forall_const, Int.reduceToNat, Int.reduceAdd, Int.reduceSub, Int.cast_ofNat_Int, Int.toNat_natCast, Nat.le_eq, Nat.sub_eq, ne_eq, Decidable.not_not, implies_true, true_and, and_true, wadd, wsub, wmul, decide_eq_true_eq, decide_eq_false_iff_not, Nat.succ_eq_add_one, imp_false, not_false_eq_true, not_true_eq_false, false_imp_iff, true_imp_iff] at *)
        rw [(atQ_w q (by have := hs.1; omega)).2] at hat
        simp only [(atQ_w q (show i ≤ 1048576 by have := hs.1; omega)).2]
        have hlq' : q < (nthD l i).b.length := by omega
        obtain ⟨y1, y2, y3⟩ := push_yes hlq' hat
        have hc : cntQ l i (q + 1) = cntQ l i q + 1 := by unfold cntQ; rw [y1, List.length_append]; rfl
        have hm := (szQ_mono l i (q + 1) (by omega)).2 hi.2
        have hm0 := (szQ_mono l i (q + 1) (by omega)).1
        have hb1 := (hs.2 i).1
        have hb2 := (hs.2 i).2
        refine ⟨⟨hc.symm, fun p j hp hj => ?_⟩, hc.symm, by rw [← y2]; omega, by omega, by omega, by omega⟩
        rw [y1]
        exact cv_push3 (pushQ l i q) _ (by rw [hc] at hp; exact hp) hj
      · (cbv; try simp only [sat_need, sat_must, sat_ite, sat_done, sat_yes, sat_ex, sat_all, sat_sup, sat_and, sat_fail, true_and, and_true])
        (subst hL; subst hQ; simp only [L2, L3, std] at *; try simp only [sySet, reduceCtorEq, forall_const, Int.reduceToNat, Int.reduceAdd, Int.reduceSub, Int.cast_ofNat_Int, Int.toNat_natCast, Nat.le_eq, Nat.sub_eq, ne_eq, Decidable.not_not, implies_true, true_and, and_true, wadd, wsub, wmul, decide_eq_true_eq, decide_eq_false_iff_not, Nat.succ_eq_add_one, imp_false, not_false_eq_true, not_true_eq_false, false_imp_iff, true_imp_iff] at *)
        rw [(atQ_w q (by have := hs.1; omega)).2] at hat
        have hlq' : q < (nthD l i).b.length := by omega
        obtain ⟨y1, y2⟩ := push_no hlq' hat
        have hc : cntQ l i (q + 1) = cntQ l i q := by unfold cntQ; rw [y1]
        have hb2 := (hs.2 i).2
        exact ⟨⟨hc.symm, fun p j hp hj => by rw [y1]⟩, hc.symm, y2.symm, by omega, by omega, by omega⟩
      · (subst hL; subst hQ; simp only [L2, L3, std] at *; try simp only [sySet, reduceCtorEq, forall_const, Int.reduceToNat, Int.reduceAdd, Int.reduceSub, Int.cast_ofNat_Int, Int.toNat_natCast, Nat.le_eq, Nat.sub_eq, ne_eq, Decidable.not_not, implies_true, true_and, and_true, wadd, wsub, wmul, decide_eq_true_eq, decide_eq_false_iff_not, Nat.succ_eq_add_one, imp_false, not_false_eq_true, not_true_eq_false, false_imp_iff, true_imp_iff] at *)
        rw [(szQ_all hq hgq).1] at h1
        exact made_no (fineTo_no (i := i) (by have : lenD l = l.length := rfl; omega) (fun h => by have := h.1; omega))
      · (subst hL; subst hQ; simp only [L2, L3, std] at *; try simp only [sySet, reduceCtorEq, forall_const, Int.reduceToNat, Int.reduceAdd, Int.reduceSub, Int.cast_ofNat_Int, Int.toNat_natCast, Nat.le_eq, Nat.sub_eq, ne_eq, Decidable.not_not, implies_true, true_and, and_true, wadd, wsub, wmul, decide_eq_true_eq, decide_eq_false_iff_not, Nat.succ_eq_add_one, imp_false, not_false_eq_true, not_true_eq_false, false_imp_iff, true_imp_iff] at *)
        exact made_no (fineTo_no (i := i) (by have : lenD l = l.length := rfl; omega) (fun h => by have := h.2.1; omega))
      · (subst hL; subst hQ; simp only [L2, L3, std] at *; try simp only [sySet, reduceCtorEq, forall_const, Int.reduceToNat, Int.reduceAdd, Int.reduceSub, Int.cast_ofNat_Int, Int.toNat_natCast, Nat.le_eq, Nat.sub_eq, ne_eq, Decidable.not_not, implies_true, true_and, and_true, wadd, wsub, wmul, decide_eq_true_eq, decide_eq_false_iff_not, Nat.succ_eq_add_one, imp_false, not_false_eq_true, not_true_eq_false, false_imp_iff, true_imp_iff] at *)
        exact made_no (fineTo_no (i := i) (by have : lenD l = l.length := rfl; omega) (fun h => by have := h.2.2.1; omega))
      · (subst hL; subst hQ; simp only [L2, L3, std] at *; try simp only [sySet, reduceCtorEq, forall_const, Int.reduceToNat, Int.reduceAdd, Int.reduceSub, Int.cast_ofNat_Int, Int.toNat_natCast, Nat.le_eq, Nat.sub_eq, ne_eq, Decidable.not_not, implies_true, true_and, and_true, wadd, wsub, wmul, decide_eq_true_eq, decide_eq_false_iff_not, Nat.succ_eq_add_one, imp_false, not_false_eq_true, not_true_eq_false, false_imp_iff, true_imp_iff] at *)
        exact made_no (fineTo_no (i := i) (by have : lenD l = l.length := rfl; omega) (fun h => by have := h.2.2.2; have : lenD l = l.length := rfl; omega))
      · (cbv; try simp only [sat_need, sat_must, sat_ite, sat_done, sat_yes, sat_ex, sat_all, sat_sup, sat_and, sat_fail, true_and, and_true])
        refine ⟨?_, ?_, i + 1, ?_⟩
        · (subst hL; subst hQ; simp only [L2, L3, std] at *; try simp only [sySet, reduceCtorEq, forall_const, Int.reduceToNat, Int.reduceAdd, Int.reduceSub, Int.cast_ofNat_Int, Int.toNat_natCast, Nat.le_eq, Nat.sub_eq, ne_eq, Decidable.not_not, implies_true, true_and, and_true, wadd, wsub, wmul, decide_eq_true_eq, decide_eq_false_iff_not, Nat.succ_eq_add_one, imp_false, not_false_eq_true, not_true_eq_false, false_imp_iff, true_imp_iff] at *)
          have := hs.1
          omega
        · (subst hL; subst hQ; simp only [L2, L3, std] at *; try simp only [sySet, reduceCtorEq, forall_const, Int.reduceToNat, Int.reduceAdd, Int.reduceSub, Int.cast_ofNat_Int, Int.toNat_natCast, Nat.le_eq, Nat.sub_eq, ne_eq, Decidable.not_not, implies_true, true_and, and_true, wadd, wsub, wmul, decide_eq_true_eq, decide_eq_false_iff_not, Nat.succ_eq_add_one, imp_false, not_false_eq_true, not_true_eq_false, false_imp_iff, true_imp_iff] at *)
          have := hs.1
          omega
        · (cbv; try simp only [sat_need, sat_must, sat_ite, sat_done, sat_yes, sat_ex, sat_all, sat_sup, sat_and, sat_fail, true_and, and_true])
          (subst hL; subst hQ; simp only [L2, L3, std] at *; try simp only [sySet, reduceCtorEq, forall_const, Int.reduceToNat, Int.reduceAdd, Int.reduceSub, Int.cast_ofNat_Int, Int.toNat_natCast, Nat.le_eq, Nat.sub_eq, ne_eq, Decidable.not_not, implies_true, true_and, and_true, wadd, wsub, wmul, decide_eq_true_eq, decide_eq_false_iff_not, Nat.succ_eq_add_one, imp_false, not_false_eq_true, not_true_eq_false, false_imp_iff, true_imp_iff] at *)
          have hL2 : lenD l = l.length := rfl
          have hs1 := hs.1
          obtain ⟨y1, y2⟩ := szQ_all hq hgq
          have hc : cntQ l i q = (valD l i).ls.length := by unfold cntQ; rw [y2]
          have hfine : fineTo l (i + 1) := by
            intro j hj
            rcases Nat.lt_or_ge j i with h | h
            · exact hi.2 j h
            · have : j = i := by omega
              subst this
              exact ⟨by rw [← y1]; exact h1, by omega, by omega, by omega⟩
          refine ⟨fun p j hp hj => ?_, fun p j hp hj => ?_, by omega, ⟨by omega, hfine⟩, by omega⟩
          · by_cases h : p < i
            · rw [blt_t h]; rfl
            · have : p = i := by omega
              subst this
              rw [blt_f h, Nat.sub_self]
              show AV.int .i64 (szQ l p q) = _
              rw [y1]
          · rw [y2, hc]
            by_cases h : p < i
            · rw [blt_t h, show p - i = 0 by omega, Nat.zero_mul, Nat.zero_add]
              match j, hj with
              | 0, _ => rfl
              | 1, _ => rfl
              | 2, _ => rfl
              | 3, _ => rfl
            · have : p = i := by omega
              subst this
              rw [blt_f h, Nat.sub_self, Nat.zero_mul, Nat.zero_add]
              match j, hj with
              | 0, _ => rfl
              | 1, _ => rfl
              | 2, _ => rfl
              | 3, _ => rfl
    · (cbv; try simp only [sat_need, sat_must, sat_ite, sat_done, sat_yes, sat_ex, sat_all, sat_sup, sat_and, sat_fail, true_and, and_true])
      refine ⟨fun h0 => ?_, fun h0 => ⟨?_, ?_⟩⟩
      · (subst hL; subst hQ; simp only [L2, L3, std] at *; try simp only [sySet, reduceCtorEq, forall_const, Int.reduceToNat, Int.reduceAdd, Int.reduceSub, Int.cast_ofNat_Int, Int.toNat_natCast, Nat.le_eq, Nat.sub_eq, ne_eq, Decidable.not_not, implies_true, true_and, and_true, wadd, wsub, wmul, decide_eq_true_eq, decide_eq_false_iff_not, Nat.succ_eq_add_one, imp_false, not_false_eq_true, not_true_eq_false, false_imp_iff, true_imp_iff] at *)
        exact made_no (by unfold madeO; have : ¬ 0 < l.length := by { have : lenD l = l.length := rfl; omega }; simp [this])
      · (subst hL; subst hQ; simp only [L2, L3, std] at *; try simp only [sySet, reduceCtorEq, forall_const, Int.reduceToNat, Int.reduceAdd, Int.reduceSub, Int.cast_ofNat_Int, Int.toNat_natCast, Nat.le_eq, Nat.sub_eq, ne_eq, Decidable.not_not, implies_true, true_and, and_true, wadd, wsub, wmul, decide_eq_true_eq, decide_eq_false_iff_not, Nat.succ_eq_add_one, imp_false, not_false_eq_true, not_true_eq_false, false_imp_iff, true_imp_iff] at *)
        have : lenD l = l.length := rfl
        have := hs.1
        omega
      · (subst hL; subst hQ; simp only [L2, L3, std] at *; try simp only [sySet, reduceCtorEq, forall_const, Int.reduceToNat, Int.reduceAdd, Int.reduceSub, Int.cast_ofNat_Int, Int.toNat_natCast, Nat.le_eq, Nat.sub_eq, ne_eq, Decidable.not_not, implies_true, true_and, and_true, wadd, wsub, wmul, decide_eq_true_eq, decide_eq_false_iff_not, Nat.succ_eq_add_one, imp_false, not_false_eq_true, not_true_eq_false, false_imp_iff, true_imp_iff] at *)
        have : lenD l = l.length := rfl
        have h1 := hs.1
        have hil : i = l.length := by omega
        subst hil
        refine made_yes (by omega) hi.2 ?_
        congr 1; omega
end Sy
end Go.Proofs.Ythlggigjnpldcaa
namespace Go.Proofs.Ythlggigjnpldcaa
namespace Sy
open Go Go.RowKit
set_option maxRecDepth 100000
set_option linter.unusedSimpArgs false
set_option linter.unusedVariables false

def cb (s : List UInt8) (i : Nat) : Nat := (s.getD i 0).toNat
theorem cb_lt (s : List UInt8) (i : Nat) : cb s i < 256 := UInt8.toNat_lt _
/-- The number, the bytes it takes, the error: at byte i, n so far. -/
def lng (s : List UInt8) : Nat → Nat → Nat → Nat × Nat × Nat
  | 0, _, _ => (0, 0, 4)
  | f + 1, i, n =>
    if s.length ≤ i then (0, 0, 3)
    else if i = 9 ∧ 1 < cb s i then (0, 0, 4)
    else if 128 ≤ cb s i then lng s f (i + 1) (n + cb s i % 128 * 2 ^ (7 * i))
    else if 0 < cb s i ∨ i = 0 then (n + cb s i % 128 * 2 ^ (7 * i), i + 1, 0)
    else (0, 0, 4)
def lngN (s : List UInt8) : Int := (lng s 10 0 0).1
def lngK (s : List UInt8) : Int := (lng s 10 0 0).2.1
def lngE (s : List UInt8) : Int := (lng s 10 0 0).2.2
def lngInv (s : List UInt8) (x : Nat × Nat) : Prop := x.1 ≤ s.length ∧ x.1 ≤ 9 ∧ x.2 < 2 ^ (7 * x.1) ∧ lng s (10 - x.1) x.1 x.2 = lng s 10 0 0
theorem bor_add {n m i : Nat} (hn : n < 2 ^ i) (hm : m * 2 ^ i < 2 ^ 64) (hn' : n < 2 ^ 64) : bor .u64 (n : Int) ((m * 2 ^ i : Nat) : Int) = ((n + m * 2 ^ i : Nat) : Int) := by
  have e : n ||| m * 2 ^ i = n + m * 2 ^ i := by
    have := Nat.shiftLeft_add_eq_or_of_lt hn m
    rw [Nat.shiftLeft_eq] at this
    rw [Nat.or_comm, ← this, Nat.add_comm]
  have hlt : n ||| m * 2 ^ i < 2 ^ 64 := Nat.or_lt_two_pow hn' hm
  unfold bor
  rw [show IntKind.u64.bits = 64 from rfl, BitVec.ofInt_natCast, BitVec.ofInt_natCast, BitVec.toNat_or, BitVec.toNat_ofNat, BitVec.toNat_ofNat, Nat.mod_eq_of_lt hn', Nat.mod_eq_of_lt hm, w_u64, ← e]
  omega
theorem shl_at {c i : Nat} (h : c * 2 ^ (7 * i) < 2 ^ 64) (hi : i ≤ 9) : wshl .u64 (c : Int) (7 * (i : Int)) = ((c * 2 ^ (7 * i) : Nat) : Int) := by
  unfold wshl
  rw [show (7 * (i : Int)).toNat = 7 * i by omega, show IntKind.u64.bits = 64 from rfl, Nat.min_eq_left (by omega), w_u64]
  have e : ((c : Int) * 2 ^ (7 * i)) = ((c * 2 ^ (7 * i) : Nat) : Int) := by simp
  rw [e]
  omega
theorem pow9 {i : Nat} (hi : i ≤ 9) : 2 ^ (7 * i) ≤ 2 ^ 63 := Nat.pow_le_pow_right (by decide) (by omega)
/-- A byte more. -/
theorem lng_bits {c i n : Nat} (hi : i ≤ 9) (hn : n < 2 ^ (7 * i)) (hc : c < 256) (h9 : ¬ (i = 9 ∧ 1 < c)) : n + c % 128 * 2 ^ (7 * i) < 2 ^ (7 * (i + 1)) ∧ n + c % 128 * 2 ^ (7 * i) < 2 ^ 64 ∧ c % 128 * 2 ^ (7 * i) < 2 ^ 64 ∧ n < 2 ^ 64 := by
  have h1 := pow9 hi
  have e : 2 ^ (7 * (i + 1)) = 128 * 2 ^ (7 * i) := by rw [show 7 * (i + 1) = 7 + 7 * i by omega, Nat.pow_add]
  have h2 : c % 128 * 2 ^ (7 * i) ≤ 127 * 2 ^ (7 * i) := Nat.mul_le_mul_right _ (by omega)
  rw [e]
  refine ⟨by omega, ?_⟩
  by_cases h : i = 9
  · subst h
    have : c ≤ 1 := by omega
    have h3 : c % 128 * 2 ^ (7 * 9) ≤ 1 * 2 ^ (7 * 9) := Nat.mul_le_mul_right _ (by omega)
    omega
  · have h3 : 2 ^ (7 * i) ≤ 2 ^ 56 := Nat.pow_le_pow_right (by decide) (by omega)
    omega
theorem lng_or {c i n : Nat} (hi : i ≤ 9) (hn : n < 2 ^ (7 * i)) (hc : c < 256) (h9 : ¬ (i = 9 ∧ 1 < c)) : bor .u64 (n : Int) (wshl .u64 ((c : Int) % 128) (7 * (i : Int))) = ((n + c % 128 * 2 ^ (7 * i) : Nat) : Int) := by
  obtain ⟨_, _, h3, h4⟩ := lng_bits hi hn hc h9
  rw [show ((c : Int) % 128) = ((c % 128 : Nat) : Int) by omega, shl_at h3 hi, bor_add hn h3 h4]
theorem lng_step {s : List UInt8} {i n : Nat} (hx : lngInv s (i, n)) : lng s 10 0 0 = if s.length ≤ i then (0, 0, 3)
    else if i = 9 ∧ 1 < cb s i then (0, 0, 4)
    else if 128 ≤ cb s i then lng s (9 - i) (i + 1) (n + cb s i % 128 * 2 ^ (7 * i))
    else if 0 < cb s i ∨ i = 0 then (n + cb s i % 128 * 2 ^ (7 * i), i + 1, 0)
    else (0, 0, 4) := by
  obtain ⟨h1, h2, h3, h4⟩ := hx
  rw [← h4]
  simp only at h2 ⊢
  rw [show 10 - i = (9 - i) + 1 by omega, lng]
theorem lng_is {s : List UInt8} {a b c : Nat} (h : lng s 10 0 0 = (a, b, c)) : (a : Int) = lngN s ∧ (b : Int) = lngK s ∧ (c : Int) = lngE s := by
  unfold lngN lngK lngE
  rw [h]
  exact ⟨rfl, rfl, rfl⟩
theorem lng_1 {s : List UInt8} {i n : Nat} (hx : lngInv s (i, n)) (h : (i : Int) = (s.length : Int)) : 0 = lngN s ∧ 0 = lngK s ∧ 3 = lngE s := by
  have := lng_step hx
  rw [if_pos (by omega)] at this
  exact lng_is this
theorem cb_is (s : List UInt8) (i : Nat) : ((s.getD i 0).toNat : Int) % 18446744073709551616 = (cb s i : Int) := by
  have := cb_lt s i
  unfold cb at *
  omega
theorem lng_2 {s : List UInt8} {i n : Nat} (hx : lngInv s (i, n)) (h : ¬ (i : Int) = (s.length : Int)) (h9 : (i : Int) = 9) (hc : 1 < ((s.getD i 0).toNat : Int) % 18446744073709551616) : 0 = lngN s ∧ 0 = lngK s ∧ 4 = lngE s := by
  have := lng_step hx
  have h1 := hx.1
  rw [cb_is] at hc
  simp only at h1
  rw [if_neg (by omega), if_pos ⟨by omega, by omega⟩] at this
  exact lng_is this
theorem lng_x {s : List UInt8} {i n : Nat} (hx : lngInv s (i, n)) (h9 : ¬ (i = 9 ∧ 1 < cb s i)) : bor .u64 (n : Int) (wshl .u64 ((((s.getD i 0).toNat : Int) % 18446744073709551616).tmod 128) ((7 * (i : Int) + 9223372036854775808) % 18446744073709551616 - 9223372036854775808)) = ((n + cb s i % 128 * 2 ^ (7 * i) : Nat) : Int) := by
  have h1 := hx.2.1
  have h2 := hx.2.2.1
  simp only at h1 h2
  rw [cb_is, Int.tmod_eq_emod_of_nonneg (by omega), show (7 * (i : Int) + 9223372036854775808) % 18446744073709551616 - 9223372036854775808 = 7 * (i : Int) by omega]
  exact lng_or h1 h2 (cb_lt s i) h9
theorem lng_3 {s : List UInt8} {i n : Nat} (hx : lngInv s (i, n)) (h : ¬ (i : Int) = (s.length : Int)) (h9 : ¬ (i = 9 ∧ 1 < cb s i)) (hm : 128 ≤ ((s.getD i 0).toNat : Int) % 18446744073709551616) : lngInv s (i + 1, n + cb s i % 128 * 2 ^ (7 * i)) ∧ 10 - (i + 1) + 1 ≤ 10 - i ∧ i ≤ 8 := by
  have h0 := lng_step hx
  have h1 := hx.2.1
  have h2 := hx.2.2.1
  have h3 := hx.1
  rw [cb_is] at hm
  simp only at h1 h2 h3
  rw [if_neg (by omega), if_neg h9, if_pos (by omega)] at h0
  refine ⟨⟨?_, ?_, (lng_bits h1 h2 (cb_lt s i) h9).1, ?_⟩, by omega, by omega⟩
  · simp only; omega
  · simp only; omega
  · simp only
    rw [h0]; congr 1; omega
theorem lng_4 {s : List UInt8} {i n : Nat} (hx : lngInv s (i, n)) (h : ¬ (i : Int) = (s.length : Int)) (h9 : ¬ (i = 9 ∧ 1 < cb s i)) (hm : ((s.getD i 0).toNat : Int) % 18446744073709551616 < 128) (hp : 0 < cb s i ∨ i = 0) :
    bor .u64 (n : Int) (wshl .u64 ((((s.getD i 0).toNat : Int) % 18446744073709551616).tmod 128) ((7 * (i : Int) + 9223372036854775808) % 18446744073709551616 - 9223372036854775808)) = lngN s ∧
      ((i : Int) + 1 + 9223372036854775808) % 18446744073709551616 - 9223372036854775808 = lngK s ∧ 0 = lngE s := by
  have h0 := lng_step hx
  have h1 := hx.2.1
  have h3 := hx.1
  rw [cb_is] at hm
  simp only at h1 h3
  rw [if_neg (by omega), if_neg h9, if_neg (by omega), if_pos hp] at h0
  obtain ⟨e1, e2, e3⟩ := lng_is h0
  rw [lng_x hx h9]
  exact ⟨e1, by rw [← e2]; omega, e3⟩
theorem lng_5 {s : List UInt8} {i n : Nat} (hx : lngInv s (i, n)) (h : ¬ (i : Int) = (s.length : Int)) (h9 : ¬ (i = 9 ∧ 1 < cb s i)) (hm : ((s.getD i 0).toNat : Int) % 18446744073709551616 < 128) (hp : ((s.getD i 0).toNat : Int) % 18446744073709551616 ≤ 0)
    (h1 : ¬ ((i : Int) + 1 + 9223372036854775808) % 18446744073709551616 - 9223372036854775808 = 1) : 0 = lngN s ∧ 0 = lngK s ∧ 4 = lngE s := by
  have h0 := lng_step hx
  have h2 := hx.2.1
  have h3 := hx.1
  rw [cb_is] at hm hp
  simp only at h2 h3
  rw [if_neg (by omega), if_neg h9, if_neg (by omega), if_neg (by omega)] at h0
  exact lng_is h0
def lngA (L : Seal) (s : List UInt8) : Nat → St → Option Ann := fun id st => match id with
  | 0 => some ⟨Nat × Nat, fun x => [(6, .int .i64 (L natI (L Prod.fst x))), (5, .int .u64 (L natI (L Prod.snd x)))], fun _ => [], [0], [],
      fun x => L2 L lngInv s x, fun x => L (fun x : Nat × Nat => 10 - x.1) x⟩
  | _ => none
def lng_s (L : Seal) : Ent1 := (54, fun xs => match xs with | [.str s] => some (True, .tup [.int .u64 (L lngN s), .int .i64 (L lngK s), .int .i64 (L lngE s)]) | _ => none)
theorem lng_good : Good Try.prog (lng_s std) := by
  intro xs p r h hp
  dsimp only [lng_s] at h ⊢
  split at h <;> cases h
  try simp only [L2, L3, std] at hp ⊢
  rename_i s
  refine acalls_L (T := tt) (S := noS) (lo := noA) (lb := fun L => lngA L s) 5 (fn := Try.f54) rfl rfl (by kernel_rfl) (by kernel_rfl) rfl tt_ok (noS_ok _) (by kernel_rfl) ?_
  intro L P' Q' hL hP hQ
  (cbv; try simp only [sat_need, sat_must, sat_ite, sat_done, sat_yes, sat_ex, sat_all, sat_sup, sat_and, sat_fail, true_and, and_true])
  refine ⟨fun x hx => ?_, ⟨(0, 0), ?_⟩⟩
  · cbv at hx
    obtain ⟨i, n⟩ := x
    (cbv; try simp only [sat_need, sat_must, sat_ite, sat_done, sat_yes, sat_ex, sat_all, sat_sup, sat_and, sat_fail, true_and, and_true])
    obtain ⟨m, hm'⟩ : ∃ m, m = n + cb s i % 128 * 2 ^ (7 * i) := ⟨_, rfl⟩
    refine ⟨fun h => ?_, fun h => ⟨?_, fun h9 => ⟨fun hc => ?_, fun hc => ⟨?_, ?_, fun hm => ⟨(i + 1, m), ?_⟩, fun hm => ⟨fun hp => ?_, fun hp => ⟨fun h1 => ?_, fun h1 => ?_⟩⟩⟩⟩,
      fun h9 => ⟨?_, ?_, fun hm => ⟨(i + 1, m), ?_⟩, fun hm => ⟨fun hp => ?_, fun hp => ⟨fun h1 => ?_, fun h1 => ?_⟩⟩⟩⟩⟩
    · (subst hL; subst hQ; simp only [L2, L3, std] at *; try simp only [sySet, reduceCtorEq, forall_const, Int.reduceToNat, Int.reduceAdd, Int.reduceSub, Int.cast_ofNat_Int, Int.toNat_natCast, Nat.le_eq, Nat.sub_eq, ne_eq, Decidable.not_not, implies_true, true_and, and_true, wadd, wsub, wmul, decide_eq_true_eq, decide_eq_false_iff_not, Nat.succ_eq_add_one, imp_false, not_false_eq_true, not_true_eq_false, false_imp_iff, true_imp_iff] at *)
      exact lng_1 hx h
    · (subst hL; subst hQ; simp only [L2, L3, std] at *; try simp only [sySet, reduceCtorEq, forall_const, Int.reduceToNat, Int.reduceAdd, Int.reduceSub, Int.cast_ofNat_Int, Int.toNat_natCast, Nat.le_eq, Nat.sub_eq, ne_eq, Decidable.not_not, implies_true, true_and, and_true, wadd, wsub, wmul, decide_eq_true_eq, decide_eq_false_iff_not, Nat.succ_eq_add_one, imp_false, not_false_eq_true, not_true_eq_false, false_imp_iff, true_imp_iff] at *)
      have := hx.1
      simp only at this
      omega
    · (subst hL; subst hQ; simp only [L2, L3, std] at *; try simp only [sySet, reduceCtorEq, forall_const, Int.reduceToNat, Int.reduceAdd, Int.reduceSub, Int.cast_ofNat_Int, Int.toNat_natCast, Nat.le_eq, Nat.sub_eq, ne_eq, Decidable.not_not, implies_true, true_and, and_true, wadd, wsub, wmul, decide_eq_true_eq, decide_eq_false_iff_not, Nat.succ_eq_add_one, imp_false, not_false_eq_true, not_true_eq_false, false_imp_iff, true_imp_iff] at *)
      exact lng_2 hx h h9 hc
    · (subst hL; subst hQ; simp only [L2, L3, std] at *; try simp only [sySet, reduceCtorEq, forall_const, Int.reduceToNat, Int.reduceAdd, Int.reduceSub, Int.cast_ofNat_Int, Int.toNat_natCast, Nat.le_eq, Nat.sub_eq, ne_eq, Decidable.not_not, implies_true, true_and, and_true, wadd, wsub, wmul, decide_eq_true_eq, decide_eq_false_iff_not, Nat.succ_eq_add_one, imp_false, not_false_eq_true, not_true_eq_false, false_imp_iff, true_imp_iff] at *)
      decide
    · (subst hL; subst hQ; simp only [L2, L3, std] at *; try simp only [sySet, reduceCtorEq, forall_const, Int.reduceToNat, Int.reduceAdd, Int.reduceSub, Int.cast_ofNat_Int, Int.toNat_natCast, Nat.le_eq, Nat.sub_eq, ne_eq, Decidable.not_not, implies_true, true_and, and_true, wadd, wsub, wmul, decide_eq_true_eq, decide_eq_false_iff_not, Nat.succ_eq_add_one, imp_false, not_false_eq_true, not_true_eq_false, false_imp_iff, true_imp_iff] at *)
      have := hx.2.1
      simp only at this
      rw [Int.emod_eq_of_lt (by omega) (by omega)]
      omega
    · (cbv; try simp only [sat_need, sat_must, sat_ite, sat_done, sat_yes, sat_ex, sat_all, sat_sup, sat_and, sat_fail, true_and, and_true])
      (subst hL; subst hQ; simp only [L2, L3, std] at *; try simp only [sySet, reduceCtorEq, forall_const, Int.reduceToNat, Int.reduceAdd, Int.reduceSub, Int.cast_ofNat_Int, Int.toNat_natCast, Nat.le_eq, Nat.sub_eq, ne_eq, Decidable.not_not, implies_true, true_and, and_true, wadd, wsub, wmul, decide_eq_true_eq, decide_eq_false_iff_not, Nat.succ_eq_add_one, imp_false, not_false_eq_true, not_true_eq_false, false_imp_iff, true_imp_iff] at *)
      rw [cb_is] at hc
      exact absurd hm (by rw [cb_is]; omega)
    · (subst hL; subst hQ; simp only [L2, L3, std] at *; try simp only [sySet, reduceCtorEq, forall_const, Int.reduceToNat, Int.reduceAdd, Int.reduceSub, Int.cast_ofNat_Int, Int.toNat_natCast, Nat.le_eq, Nat.sub_eq, ne_eq, Decidable.not_not, implies_true, true_and, and_true, wadd, wsub, wmul, decide_eq_true_eq, decide_eq_false_iff_not, Nat.succ_eq_add_one, imp_false, not_false_eq_true, not_true_eq_false, false_imp_iff, true_imp_iff] at *)
      rw [cb_is] at hc
      exact lng_4 hx h (by omega) hm (by rw [cb_is] at hp; omega)
    · (subst hL; subst hQ; simp only [L2, L3, std] at *; try simp only [sySet, reduceCtorEq, forall_const, Int.reduceToNat, Int.reduceAdd, Int.reduceSub, Int.cast_ofNat_Int, Int.toNat_natCast, Nat.le_eq, Nat.sub_eq, ne_eq, Decidable.not_not, implies_true, true_and, and_true, wadd, wsub, wmul, decide_eq_true_eq, decide_eq_false_iff_not, Nat.succ_eq_add_one, imp_false, not_false_eq_true, not_true_eq_false, false_imp_iff, true_imp_iff] at *)
      rw [cb_is] at hc
      have := hx.2.1
      simp only at this
      exact lng_4 hx h (by omega) hm (by omega)
    · (subst hL; subst hQ; simp only [L2, L3, std] at *; try simp only [sySet, reduceCtorEq, forall_const, Int.reduceToNat, Int.reduceAdd, Int.reduceSub, Int.cast_ofNat_Int, Int.toNat_natCast, Nat.le_eq, Nat.sub_eq, ne_eq, Decidable.not_not, implies_true, true_and, and_true, wadd, wsub, wmul, decide_eq_true_eq, decide_eq_false_iff_not, Nat.succ_eq_add_one, imp_false, not_false_eq_true, not_true_eq_false, false_imp_iff, true_imp_iff] at *)
      rw [cb_is] at hc
      exact lng_5 hx h (by omega) hm hp h1
    · (subst hL; subst hQ; simp only [L2, L3, std] at *; try simp only [sySet, reduceCtorEq, forall_const, Int.reduceToNat, Int.reduceAdd, Int.reduceSub, Int.cast_ofNat_Int, Int.toNat_natCast, Nat.le_eq, Nat.sub_eq, ne_eq, Decidable.not_not, implies_true, true_and, and_true, wadd, wsub, wmul, decide_eq_true_eq, decide_eq_false_iff_not, Nat.succ_eq_add_one, imp_false, not_false_eq_true, not_true_eq_false, false_imp_iff, true_imp_iff] at *)
      decide
    · (subst hL; subst hQ; simp only [L2, L3, std] at *; try simp only [sySet, reduceCtorEq, forall_const, Int.reduceToNat, Int.reduceAdd, Int.reduceSub, Int.cast_ofNat_Int, Int.toNat_natCast, Nat.le_eq, Nat.sub_eq, ne_eq, Decidable.not_not, implies_true, true_and, and_true, wadd, wsub, wmul, decide_eq_true_eq, decide_eq_false_iff_not, Nat.succ_eq_add_one, imp_false, not_false_eq_true, not_true_eq_false, false_imp_iff, true_imp_iff] at *)
      have := hx.2.1
      simp only at this
      rw [Int.emod_eq_of_lt (by omega) (by omega)]
      omega
    · (cbv; try simp only [sat_need, sat_must, sat_ite, sat_done, sat_yes, sat_ex, sat_all, sat_sup, sat_and, sat_fail, true_and, and_true])
      (subst hL; subst hQ; simp only [L2, L3, std] at *; try simp only [sySet, reduceCtorEq, forall_const, Int.reduceToNat, Int.reduceAdd, Int.reduceSub, Int.cast_ofNat_Int, Int.toNat_natCast, Nat.le_eq, Nat.sub_eq, ne_eq, Decidable.not_not, implies_true, true_and, and_true, wadd, wsub, wmul, decide_eq_true_eq, decide_eq_false_iff_not, Nat.succ_eq_add_one, imp_false, not_false_eq_true, not_true_eq_false, false_imp_iff, true_imp_iff] at *)
      obtain ⟨q1, q2, q3⟩ := lng_3 hx h (by omega) hm
      rw [lng_x hx (by omega), hm']
      exact ⟨rfl, by omega, q1, q2⟩
    · (subst hL; subst hQ; simp only [L2, L3, std] at *; try simp only [sySet, reduceCtorEq, forall_const, Int.reduceToNat, Int.reduceAdd, Int.reduceSub, Int.cast_ofNat_Int, Int.toNat_natCast, Nat.le_eq, Nat.sub_eq, ne_eq, Decidable.not_not, implies_true, true_and, and_true, wadd, wsub, wmul, decide_eq_true_eq, decide_eq_false_iff_not, Nat.succ_eq_add_one, imp_false, not_false_eq_true, not_true_eq_false, false_imp_iff, true_imp_iff] at *)
      exact lng_4 hx h (by omega) hm (by rw [cb_is] at hp; omega)
    · (subst hL; subst hQ; simp only [L2, L3, std] at *; try simp only [sySet, reduceCtorEq, forall_const, Int.reduceToNat, Int.reduceAdd, Int.reduceSub, Int.cast_ofNat_Int, Int.toNat_natCast, Nat.le_eq, Nat.sub_eq, ne_eq, Decidable.not_not, implies_true, true_and, and_true, wadd, wsub, wmul, decide_eq_true_eq, decide_eq_false_iff_not, Nat.succ_eq_add_one, imp_false, not_false_eq_true, not_true_eq_false, false_imp_iff, true_imp_iff] at *)
      have := hx.2.1
      simp only at this
      exact lng_4 hx h (by omega) hm (by omega)
    · (subst hL; subst hQ; simp only [L2, L3, std] at *; try simp only [sySet, reduceCtorEq, forall_const, Int.reduceToNat, Int.reduceAdd, Int.reduceSub, Int.cast_ofNat_Int, Int.toNat_natCast, Nat.le_eq, Nat.sub_eq, ne_eq, Decidable.not_not, implies_true, true_and, and_true, wadd, wsub, wmul, decide_eq_true_eq, decide_eq_false_iff_not, Nat.succ_eq_add_one, imp_false, not_false_eq_true, not_true_eq_false, false_imp_iff, true_imp_iff] at *)
      exact lng_5 hx h (by omega) hm hp h1
  · (cbv; try simp only [sat_need, sat_must, sat_ite, sat_done, sat_yes, sat_ex, sat_all, sat_sup, sat_and, sat_fail, true_and, and_true])
    (subst hL; subst hQ; simp only [L2, L3, std] at *; try simp only [sySet, reduceCtorEq, forall_const, Int.reduceToNat, Int.reduceAdd, Int.reduceSub, Int.cast_ofNat_Int, Int.toNat_natCast, Nat.le_eq, Nat.sub_eq, ne_eq, Decidable.not_not, implies_true, true_and, and_true, wadd, wsub, wmul, decide_eq_true_eq, decide_eq_false_iff_not, Nat.succ_eq_add_one, imp_false, not_false_eq_true, not_true_eq_false, false_imp_iff, true_imp_iff] at *)
    exact ⟨Nat.zero_le _, by omega, by simp, rfl⟩
end Sy
end Go.Proofs.Ythlggigjnpldcaa
