/- Chapter 8 (frame): Next, Parse, the document's Next. -/
import Derived.Test.YthlggigjnpldcaaAcP
namespace Go.Proofs.Ythlggigjnpldcaa
namespace Sy
open Go Go.RowKit
set_option maxRecDepth 100000
set_option linter.unusedSimpArgs false
set_option linter.unusedVariables false

def preB (a b : List UInt8) : Bool := a.take b.length == b
def preOk (a b : List UInt8) : Prop := a.length ≤ 1000000000 ∧ b.length ≤ 1000000000
def pre0_s (L : Seal) : Ent1 := (86, fun xs => match xs with | [.str a, .str b] => some (L2 L preOk a b, .bool (L2 L preB a b)) | _ => none)
def pre_s (L : Seal) : Ent1 := (56, fun xs => match xs with | [.str a, .str b] => some (L2 L preOk a b, .bool (L2 L preB a b)) | _ => none)
theorem pre0_good : Good Try.prog (pre0_s std) := by
  intro xs p r h hp
  dsimp only [pre0_s] at h ⊢
  split at h <;> cases h
  try simp only [L2, L3, std] at hp ⊢
  rename_i a b
  refine acalls_L (T := tt) (S := noS) (lo := noA) (lb := noA) 5 (fn := Try.f86) rfl rfl (by kernel_rfl) (by kernel_rfl) rfl tt_ok (noS_ok _) (by kernel_rfl) ?_
  (intro L P1 Q1 hL hP hQ; cbv; subst hL; simp only [L2, L3, std, sat_need, sat_must, sat_ite, sat_done, sat_yes, sat_ex, sat_all, sat_sup, sat_and, sat_fail]; subst hQ)
  (simp only [sySet, reduceCtorEq, forall_const, Int.reduceToNat, Int.reduceAdd, Int.reduceSub, Int.cast_ofNat_Int, Int.toNat_natCast, Nat.le_eq, Nat.sub_eq, ne_eq, Decidable.not_not, implies_true, true_and, and_true, wadd, wsub, wmul, decide_eq_true_eq, decide_eq_false_iff_not, Nat.succ_eq_add_one, imp_false, not_false_eq_true, not_true_eq_false, false_imp_iff, true_imp_iff])
  exact ⟨fun h => ⟨by omega, rfl⟩, fun h => by
    have : ¬ a.take b.length = b := fun e => by have := congrArg List.length e; simp at this; omega
    simp [preB, this]⟩
theorem pre_good : Good Try.prog (pre_s std) := by
  intro xs p r h hp
  dsimp only [pre_s] at h ⊢
  split at h <;> cases h
  try simp only [L2, L3, std] at hp ⊢
  rename_i a b
  refine acalls_L (T := tt) (S := fun L => sumOf [pre0_s L]) (lo := noA) (lb := noA) 5 (fn := Try.f56) rfl rfl (by kernel_rfl) (by kernel_rfl) rfl tt_ok (sumOf_ok ⟨pre0_good, trivial⟩) (by kernel_rfl) ?_
  (intro L P1 Q1 hL hP hQ; cbv; subst hL; simp only [L2, L3, std, sat_need, sat_must, sat_ite, sat_done, sat_yes, sat_ex, sat_all, sat_sup, sat_and, sat_fail]; subst hQ)
  (simp only [sySet, reduceCtorEq, forall_const, Int.reduceToNat, Int.reduceAdd, Int.reduceSub, Int.cast_ofNat_Int, Int.toNat_natCast, Nat.le_eq, Nat.sub_eq, ne_eq, Decidable.not_not, implies_true, true_and, and_true, wadd, wsub, wmul, decide_eq_true_eq, decide_eq_false_iff_not, Nat.succ_eq_add_one, imp_false, not_false_eq_true, not_true_eq_false, false_imp_iff, true_imp_iff])
  exact hp

def fnext_s (L : Seal) : Ent1 := (99, fun xs => match xs with | [.str s] => some (L2 L upto 900000 s, .tup [.agg [.int .i64 (L nxK s), .int .u64 (L nxP s), .str (L nxB s)], .str (L nxR s), .int .i64 (L nxE s)]) | _ => none)
theorem fnext_good : Good Try.prog (fnext_s std) := by
  intro xs p r h hp
  dsimp only [fnext_s] at h ⊢
  split at h <;> cases h
  try simp only [L2, L3, std] at hp ⊢
  rename_i s
  refine acalls_L (T := tt) (S := fun L => sumOf [size_s L, pre_s L, get_s L, check_s L]) (lo := noA) (lb := noA) 5 (fn := Try.f99) rfl rfl (by kernel_rfl) (by kernel_rfl) rfl tt_ok (sumOf_ok ⟨size_good, pre_good, get_good, check_good, trivial⟩) (by kernel_rfl) ?_
  obtain ⟨hN0, hN1⟩ := nxN_bound s
  have bad : ∀ c : Int, c ≠ 0 → nxE s = c → (0 = nxK s ∧ 0 = nxP s ∧ [] = nxB s) ∧ [] = nxR s ∧ c = nxE s := by
    intro c hc he
    simp [nxK, nxP, nxB, nxR, he, hc]
  have hl : s.length ≤ 900000 := hp
  (intro L P1 Q1 hL hP hQ; cbv; subst hL; simp only [L2, L3, std, sat_need, sat_must, sat_ite, sat_done, sat_yes, sat_ex, sat_all, sat_sup, sat_and, sat_fail]; subst hQ)
  (simp only [sySet, reduceCtorEq, forall_const, Int.reduceToNat, Int.reduceAdd, Int.reduceSub, Int.cast_ofNat_Int, Int.toNat_natCast, Nat.le_eq, Nat.sub_eq, ne_eq, Decidable.not_not, implies_true, true_and, and_true, wadd, wsub, wmul, decide_eq_true_eq, decide_eq_false_iff_not, Nat.succ_eq_add_one, imp_false, not_false_eq_true, not_true_eq_false, false_imp_iff, true_imp_iff])
  simp only [show getZ (List.drop 12 (List.take 16 s)) = nxN s from rfl, show (nxN s + 9223372036854775808) % 18446744073709551616 - 9223372036854775808 = nxN s by omega, show (16 + nxN s) % 18446744073709551616 = nxN s + 16 by omega]
  have nc : nxE s = if s.length < 20 then 3 else if s.take 3 ≠ [79, 70, 1] then 4 else if (s.getD 3 0).toNat = 0 then 10 else if 8192 < nxN s then 5 else if (s.length : Int) < nxN s + 20 then 3 else chkE (s.take (nxN s + 20).toNat) := rfl
  refine ⟨by omega, fun h1 => bad 3 (by decide) (by rw [nc, if_pos (by omega)]), fun h1 => ⟨⟨by omega, by simp⟩, fun h2 => ?_, fun h2 => ?_⟩⟩
  · have h2 : s.take 3 ≠ [79, 70, 1] := by simpa [preB] using h2
    exact bad 4 (by decide) (by rw [nc, if_neg (by omega), if_pos h2])
  · have h2 : ¬ s.take 3 ≠ [79, 70, 1] := by simpa [preB] using h2
    refine ⟨by omega, fun h3 => bad 10 (by decide) (by rw [nc, if_neg (by omega), if_neg h2, if_pos (by omega)]), fun h3 => ⟨by omega, ⟨by simp only [List.length_drop, List.length_take]; omega, by simp only [List.length_drop, List.length_take]; omega⟩, fun h4 => bad 5 (by decide) (by rw [nc, if_neg (by omega), if_neg h2, if_neg (by omega), if_pos h4]), fun h4 => ⟨by omega,
      fun h5 => bad 3 (by decide) (by rw [nc, if_neg (by omega), if_neg h2, if_neg (by omega), if_neg (by omega), if_pos h5]), fun h5 => ?_⟩⟩⟩
    have ne : nxE s = chkE (s.take (nxN s + 20).toNat) := by rw [nc, if_neg (by omega), if_neg h2, if_neg (by omega), if_neg (by omega), if_neg (by omega)]
    refine ⟨by omega, by omega, by simp [upto]; omega, fun h6 => bad _ h6 ne, fun h6 => ?_⟩
    rw [h6] at ne
    have h8 := (s.getD 3 0).toNat_lt
    refine ⟨by omega, by omega, ⟨by simp only [List.length_drop, List.length_take]; omega, by simp only [List.length_drop, List.length_take]; omega⟩, by omega, by omega, by omega, ?_⟩
    simp only [nxK, nxP, nxB, nxR, ne, if_pos]
    exact ⟨⟨by omega, trivial, trivial⟩, trivial, trivial⟩

def paE (s : List UInt8) : Int := if nxE s = 0 ∧ nxR s ≠ [] then 4 else nxE s
def paK (s : List UInt8) : Int := if paE s = 0 then nxK s else 0
def paP (s : List UInt8) : Int := if paE s = 0 then nxP s else 0
def paB (s : List UInt8) : List UInt8 := if paE s = 0 then nxB s else []
def parse_s (L : Seal) : Ent1 := (72, fun xs => match xs with | [.str s] => some (L2 L upto 900000 s, .tup [.agg [.int .i64 (L paK s), .int .u64 (L paP s), .str (L paB s)], .int .i64 (L paE s)]) | _ => none)
theorem parse_good : Good Try.prog (parse_s std) := by
  intro xs p r h hp
  dsimp only [parse_s] at h ⊢
  split at h <;> cases h
  try simp only [L2, L3, std] at hp ⊢
  rename_i s
  refine acalls_L (T := tt) (S := fun L => sumOf [fnext_s L]) (lo := noA) (lb := noA) 5 (fn := Try.f72) rfl rfl (by kernel_rfl) (by kernel_rfl) rfl tt_ok (sumOf_ok ⟨fnext_good, trivial⟩) (by kernel_rfl) ?_
  (intro L P1 Q1 hL hP hQ; cbv; subst hL; simp only [L2, L3, std, sat_need, sat_must, sat_ite, sat_done, sat_yes, sat_ex, sat_all, sat_sup, sat_and, sat_fail]; subst hQ)
  (simp only [sySet, reduceCtorEq, forall_const, Int.reduceToNat, Int.reduceAdd, Int.reduceSub, Int.cast_ofNat_Int, Int.toNat_natCast, Nat.le_eq, Nat.sub_eq, ne_eq, Decidable.not_not, implies_true, true_and, and_true, wadd, wsub, wmul, decide_eq_true_eq, decide_eq_false_iff_not, Nat.succ_eq_add_one, imp_false, not_false_eq_true, not_true_eq_false, false_imp_iff, true_imp_iff])
  refine ⟨hp, fun h1 => ⟨fun h2 => ?_, fun h2 => ?_⟩, fun h1 => ?_⟩
  · have : paE s = 4 := if_pos ⟨h1, h2⟩
    simp [paK, paP, paB, this]
  · have : paE s = nxE s := if_neg (fun h => h.2 h2)
    simp [paK, paP, paB, this, h1]
  · have : paE s = nxE s := if_neg (fun h => h1 h.1)
    obtain ⟨e1, e2, e3, e4⟩ := nx_bad s h1
    simp [paK, paP, paB, this, h1, e1, e2, e3]
def rnL (s : List UInt8) : Int := if nxE s = 0 then nxN s + 20 else 0
def rnext_s (L : Seal) : Ent1 := (74, fun xs => match xs with | [.str s] => some (L2 L upto 900000 s, .tup [.agg [.int .i64 (L nxK s), .int .u64 (L nxP s), .str (L nxB s)], .int .i64 (L rnL s), .int .i64 (L nxE s)]) | _ => none)
theorem three (s : List UInt8) (h : 3 ≤ s.length) : ∃ c0 c1 c2 r, s = c0 :: c1 :: c2 :: r := by
  match s, h with
  | c0 :: c1 :: c2 :: r, _ => exact ⟨c0, c1, c2, r, rfl⟩
theorem rnext_good : Good Try.prog (rnext_s std) := by
  intro xs p r h hp
  dsimp only [rnext_s] at h ⊢
  split at h <;> cases h
  try simp only [L2, L3, std] at hp ⊢
  rename_i s
  refine acalls_L (T := tt) (S := fun L => sumOf [rget_s L, rby_s L]) (lo := noA) (lb := noA) 5 (fn := Try.f74) rfl rfl (by kernel_rfl) (by kernel_rfl) rfl tt_ok (sumOf_ok ⟨rget_good, rby_good, trivial⟩) (by kernel_rfl) ?_
  obtain ⟨hN0, hN1⟩ := nxN_bound s
  have hl : s.length ≤ 900000 := hp
  have hPb := nxP_bound s
  have bad : ∀ c : Int, c ≠ 0 → nxE s = c → (0 = nxK s ∧ 0 = nxP s ∧ [] = nxB s) ∧ 0 = rnL s ∧ c = nxE s := by
    intro c hc he
    obtain ⟨e1, e2, e3, e4⟩ := nx_bad s (by rw [he]; exact hc)
    have e5 : rnL s = 0 := if_neg (by rw [he]; exact hc)
    exact ⟨⟨e1.symm, e2.symm, e3.symm⟩, e5.symm, he.symm⟩
  have h8 := (s.getD 3 0).toNat_lt
  (intro L P1 Q1 hL hP hQ; cbv; subst hL; simp only [L2, L3, std, sat_need, sat_must, sat_ite, sat_done, sat_yes, sat_ex, sat_all, sat_sup, sat_and, sat_fail]; subst hQ)
  (simp only [sySet, reduceCtorEq, forall_const, Int.reduceToNat, Int.reduceAdd, Int.reduceSub, Int.cast_ofNat_Int, Int.toNat_natCast, Nat.le_eq, Nat.sub_eq, ne_eq, Decidable.not_not, implies_true, true_and, and_true, wadd, wsub, wmul, decide_eq_true_eq, decide_eq_false_iff_not, Nat.succ_eq_add_one, imp_false, not_false_eq_true, not_true_eq_false, false_imp_iff, true_imp_iff])
  simp only [show getZ (List.drop 12 (List.take 16 s)) = nxN s from rfl, show (nxN s + 9223372036854775808) % 18446744073709551616 - 9223372036854775808 = nxN s by omega, show (20 + nxN s + 9223372036854775808) % 18446744073709551616 - 9223372036854775808 = nxN s + 20 by omega, show (16 + nxN s + 9223372036854775808) % 18446744073709551616 - 9223372036854775808 = nxN s + 16 by omega, show (((s.getD 3 0).toNat : Int) + 9223372036854775808) % 18446744073709551616 - 9223372036854775808 = (s.getD 3 0).toNat by omega]
  have nc : nxE s = if s.length < 20 then 3 else if s.take 3 ≠ [79, 70, 1] then 4 else if (s.getD 3 0).toNat = 0 then 10 else if 8192 < nxN s then 5 else if (s.length : Int) < nxN s + 20 then 3 else chkE (s.take (nxN s + 20).toNat) := rfl
  refine ⟨fun h1 => bad 3 (by decide) (by rw [nc, if_pos (by omega)]), fun h1 => ?_⟩
  obtain ⟨c0, c1, c2, r, hs⟩ := three s (by omega)
  have t3 : s.take 3 = [c0, c1, c2] := by rw [hs]; rfl
  have g0 : s.getD 0 0 = c0 := by rw [hs]; rfl
  have g1 : s.getD 1 0 = c1 := by rw [hs]; rfl
  have g2 : s.getD 2 0 = c2 := by rw [hs]; rfl
  have ne4 : (c0.toNat ≠ 79 ∨ c1.toNat ≠ 70 ∨ c2.toNat ≠ 1) → nxE s = 4 := by
    intro h
    rw [nc, if_neg (by omega), if_pos]
    rw [t3]
    intro e
    simp only [List.cons.injEq, and_true] at e
    obtain ⟨rfl, rfl, rfl⟩ := e
    simp at h
  rw [g0, g1, g2]
  refine ⟨by omega, fun h2 => bad 4 (by decide) (ne4 (by omega)), fun h2 => ⟨by omega, fun h3 => bad 4 (by decide) (ne4 (by omega)), fun h3 => ⟨by omega, fun h4 => bad 4 (by decide) (ne4 (by omega)), fun h4 => ?_⟩⟩⟩
  have hm : s.take 3 = [79, 70, 1] := by
    rw [t3, show c0 = 79 from UInt8.toNat_inj.1 (by simpa using (by omega : c0.toNat = 79)), show c1 = 70 from UInt8.toNat_inj.1 (by simpa using (by omega : c1.toNat = 70)), show c2 = 1 from UInt8.toNat_inj.1 (by simpa using (by omega : c2.toNat = 1))]
  clear ne4 g0 g1 g2 t3 h2 h3 h4 hs
  have hm' : ¬ s.take 3 ≠ [79, 70, 1] := by simpa using hm
  refine ⟨by omega, fun h3 => bad 10 (by decide) (by rw [nc, if_neg (by omega), if_neg hm', if_pos (by omega)]), fun h3 => ⟨by omega, ⟨by simp only [List.length_drop, List.length_take]; omega, by simp only [List.length_drop, List.length_take]; omega⟩, fun h4 => bad 5 (by decide) (by rw [nc, if_neg (by omega), if_neg hm', if_neg (by omega), if_pos h4]), fun h4 => ⟨
    fun h5 => bad 3 (by decide) (by rw [nc, if_neg (by omega), if_neg hm', if_neg (by omega), if_neg (by omega), if_pos h5]), fun h5 => ?_⟩⟩⟩
  have ne : nxE s = chkE (s.take (nxN s + 20).toNat) := by
    rw [nc, if_neg (by omega), if_neg hm', if_neg (by omega), if_neg (by omega), if_neg (by omega)]
  have hb : (List.drop 16 (List.take (nxN s + 16).toNat s)).length = (nxN s).toNat := by simp only [List.length_drop, List.length_take]; omega
  have et : byT (s.getD 3 0).toNat (getZ (List.drop 4 (List.take 12 s))) (List.drop 16 (List.take (nxN s + 16).toNat s)) = markL (s.take (nxN s + 16).toNat) := by
    have : byE (s.getD 3 0).toNat (List.drop 16 (List.take (nxN s + 16).toNat s)) = 0 := by rw [byE, if_neg (by omega), if_neg (by omega)]
    rw [byT, if_pos this, head_is s (by omega) hm h5]
  have ec : chkE (s.take (nxN s + 20).toNat) = if markL (s.take (nxN s + 16).toNat) = s.take (nxN s + 20).toNat then 0 else 9 := by
    have hlen : (s.take (nxN s + 20).toNat).length = (nxN s + 20).toNat := by simp only [List.length_take]; omega
    rw [chkE, if_neg (by omega), hlen, List.take_take, show min ((nxN s + 20).toNat - 4) (nxN s + 20).toNat = (nxN s + 16).toNat by omega]
  rw [et]
  refine ⟨by omega, by omega, ⟨by simp only [List.length_drop, List.length_take]; omega, by simp only [List.length_drop, List.length_take]; omega⟩, by omega, ⟨hPb.1, hPb.2, by omega⟩, by omega, fun h6 => bad 9 (by decide) ?_, fun h6 => ?_⟩
  · rw [ne, ec, if_neg (fun e => h6 e.symm)]
  · rw [ec, if_pos h6.symm] at ne
    simp only [nxK, nxP, nxB, rnL, ne, if_pos]
    exact ⟨⟨trivial, trivial, trivial⟩, trivial, trivial⟩
end Sy
end Go.Proofs.Ythlggigjnpldcaa
