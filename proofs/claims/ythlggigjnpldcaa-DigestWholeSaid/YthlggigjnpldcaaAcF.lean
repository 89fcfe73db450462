/- Chapter 8 (frame): what its functions compute. -/
import Derived.Test.YthlggigjnpldcaaAcB
namespace Go.Proofs.Ythlggigjnpldcaa
namespace Sy
open Go Go.RowKit
set_option maxRecDepth 100000
set_option linter.unusedSimpArgs false
set_option linter.unusedVariables false

def magic : List UInt8 := [79, 70, 1]
def headT (k e : Int) (b : List UInt8) : List UInt8 := [79, 70, 1] ++ [UInt8.ofNat k.toNat] ++ putZ e 8 ++ putZ b.length 4 ++ b
def byE (k : Int) (b : List UInt8) : Int := if k < 1 ∨ 255 < k then 10 else if 8192 < b.length then 5 else 0
def byT (k e : Int) (b : List UInt8) : List UInt8 := if byE k b = 0 then markL (headT k e b) else []
def byOk (e : Int) (b : List UInt8) : Prop := 0 ≤ e ∧ e < 18446744073709551616 ∧ b.length ≤ 9223372036854775807
def size_s (L : Seal) : Ent1 := (108, fun xs => match xs with | [.int .i64 n] => some (L (fun n : Int => 0 ≤ n ∧ n ≤ 1000000) n, .int .i64 (L (fun n : Int => n + 20) n)) | _ => none)
theorem size_good : Good Try.prog (size_s std) := by
  intro xs p r h hp
  dsimp only [size_s] at h ⊢
  split at h <;> cases h
  try simp only [L2, L3, std] at hp ⊢
  exact size_ac _ hp.1 hp.2
def by_s (L : Seal) : Ent1 := (70, fun xs => match xs with | [.agg [.int .i64 k, .int .u64 e, .str b]] => some (L2 L byOk e b, .tup [.str (L3 L byT k e b), .int .i64 (L2 L byE k b)]) | _ => none)
def rby_s (L : Seal) : Ent1 := (71, fun xs => match xs with | [.agg [.int .i64 k, .int .u64 e, .str b]] => some (L2 L byOk e b, .tup [.str (L3 L byT k e b), .int .i64 (L2 L byE k b)]) | _ => none)
theorem putZ_len (e n : Int) : (putZ e n).length = cl8 n := putL_length _ _
theorem by_good : Good Try.prog (by_s std) := by
  intro xs p r h hp
  dsimp only [by_s] at h ⊢
  split at h <;> cases h
  try simp only [L2, L3, std] at hp ⊢
  rename_i k e b
  show ACalls _ _ _ (.tup [.str (byT k e b), .int .i64 (byE k b)])
  refine acalls_L (T := tt) (S := fun L => sumOf [put_s L, mark_s L]) (lo := noA) (lb := noA) 5 (fn := Try.f70) rfl rfl (by kernel_rfl) (by kernel_rfl) rfl tt_ok (sumOf_ok ⟨put_good, mark_good, trivial⟩) (by kernel_rfl) ?_
  (intro L P1 Q1 hL hP hQ; cbv; subst hL; simp only [L2, L3, std, sat_need, sat_must, sat_ite, sat_done, sat_yes, sat_ex, sat_all, sat_sup, sat_and, sat_fail]; subst hQ)
  (simp only [sySet, reduceCtorEq, forall_const, Int.reduceToNat, Int.reduceAdd, Int.reduceSub, Int.cast_ofNat_Int, Int.toNat_natCast, Nat.le_eq, Nat.sub_eq, ne_eq, Decidable.not_not, implies_true, true_and, and_true, wadd, wsub, wmul, decide_eq_true_eq, decide_eq_false_iff_not, Nat.succ_eq_add_one, imp_false, not_false_eq_true, not_true_eq_false, false_imp_iff, true_imp_iff])
  have e1 : (bytesOf 1 fun i => (AV.int .u8 (nthI [k % 256] (0 + i))).toI) = [UInt8.ofNat (k % 256).toNat] := rfl
  obtain ⟨h0, h1, h2⟩ : byOk e b := hp
  simp only [e1]
  refine ⟨fun h => ?_, fun h => ⟨fun h' => ?_, fun h' => ⟨fun hb => ?_, fun hb => ?_⟩⟩⟩
  · have hE : byE k b = 10 := if_pos (by omega)
    rw [byT, hE]; exact ⟨rfl, rfl⟩
  · have hE : byE k b = 10 := if_pos (by omega)
    rw [byT, hE]; exact ⟨rfl, rfl⟩
  · have hE : byE k b = 5 := by rw [byE, if_neg (by omega), if_pos (by omega)]
    rw [byT, hE]; exact ⟨rfl, rfl⟩
  · have hE : byE k b = 0 := by rw [byE, if_neg (by omega), if_neg (by omega)]
    rw [byT, hE, if_pos rfl, headT, show k % 256 = k by omega, show (b.length : Int) % 18446744073709551616 = b.length by omega]
    refine ⟨⟨by omega, fun i _ => ⟨_, rfl⟩⟩, by simp, ⟨h0, h1, by omega, by omega⟩, ?_, ⟨by omega, by omega, by omega, by omega⟩, ?_, ?_, ?_, rfl, rfl⟩
    all_goals simp [upto, putZ_len, putL_length, cl8]; try omega
theorem rby_good : Good Try.prog (rby_s std) := by
  intro xs p r h hp
  dsimp only [rby_s] at h ⊢
  split at h <;> cases h
  try simp only [L2, L3, std] at hp ⊢
  rename_i k e b
  show ACalls _ _ _ (.tup [.str (byT k e b), .int .i64 (byE k b)])
  refine acalls_L (T := tt) (S := fun L => sumOf [rput_s L, rmark_s L]) (lo := noA) (lb := noA) 5 (fn := Try.f71) rfl rfl (by kernel_rfl) (by kernel_rfl) rfl tt_ok (sumOf_ok ⟨rput_good, rmark_good, trivial⟩) (by kernel_rfl) ?_
  (intro L P1 Q1 hL hP hQ; cbv; subst hL; simp only [L2, L3, std, sat_need, sat_must, sat_ite, sat_done, sat_yes, sat_ex, sat_all, sat_sup, sat_and, sat_fail]; subst hQ)
  (simp only [sySet, reduceCtorEq, forall_const, Int.reduceToNat, Int.reduceAdd, Int.reduceSub, Int.cast_ofNat_Int, Int.toNat_natCast, Nat.le_eq, Nat.sub_eq, ne_eq, Decidable.not_not, implies_true, true_and, and_true, wadd, wsub, wmul, decide_eq_true_eq, decide_eq_false_iff_not, Nat.succ_eq_add_one, imp_false, not_false_eq_true, not_true_eq_false, false_imp_iff, true_imp_iff])
  have e1 : (bytesOf 1 fun i => (AV.int .u8 (nthI [k % 256] (0 + i))).toI) = [UInt8.ofNat (k % 256).toNat] := rfl
  obtain ⟨h0, h1, h2⟩ : byOk e b := hp
  simp only [e1]
  refine ⟨fun h => ?_, fun h => ⟨fun h' => ?_, fun h' => ⟨fun hb => ?_, fun hb => ?_⟩⟩⟩
  · have hE : byE k b = 10 := if_pos (by omega)
    rw [byT, hE]; exact ⟨rfl, rfl⟩
  · have hE : byE k b = 10 := if_pos (by omega)
    rw [byT, hE]; exact ⟨rfl, rfl⟩
  · have hE : byE k b = 5 := by rw [byE, if_neg (by omega), if_pos (by omega)]
    rw [byT, hE]; exact ⟨rfl, rfl⟩
  · have hE : byE k b = 0 := by rw [byE, if_neg (by omega), if_neg (by omega)]
    rw [byT, hE, if_pos rfl, headT, show k % 256 = k by omega, show (b.length : Int) % 18446744073709551616 = b.length by omega]
    refine ⟨⟨by omega, fun i _ => ⟨_, rfl⟩⟩, by simp, ⟨h0, h1, by omega, by omega⟩, ?_, ⟨by omega, by omega, by omega, by omega⟩, ?_, ?_, ?_, rfl, rfl⟩
    all_goals simp [upto, putZ_len, putL_length, cl8]; try omega
end Sy
end Go.Proofs.Ythlggigjnpldcaa
