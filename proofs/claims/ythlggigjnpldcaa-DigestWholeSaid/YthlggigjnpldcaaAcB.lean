/- Chapters 1 and 2: CRC of parts, and the examples that each law of these chapters asks first. -/
import Derived.Test.YthlggigjnpldcaaAcA
namespace Go.Proofs.Ythlggigjnpldcaa
namespace Sy
open Go Go.RowKit
set_option maxRecDepth 100000
set_option linter.unusedSimpArgs false
set_option linter.unusedVariables false

def stepZ (n c : Int) : Int := stepB n.toNat (UInt8.ofNat c.toNat)
def stepOk (n c : Int) : Prop := 0 ≤ n ∧ n < 4294967296 ∧ 0 ≤ c ∧ c < 256
def step_s (L : Seal) : Ent1 := (115, fun xs => match xs with | [.int .u32 n, .int .u8 c] => some (L2 L stepOk n c, .int .u32 (L2 L stepZ n c)) | _ => none)
theorem step_good : Good Try.prog (step_s std) := by
  intro xs p r h hp
  dsimp only [step_s] at h ⊢
  split at h <;> cases h
  try simp only [L2, L3, std] at hp ⊢
  rename_i n c
  obtain ⟨h0, h1, h2, h3⟩ : stepOk n c := hp
  obtain ⟨k, rfl⟩ := nat_of h0
  obtain ⟨b, rfl⟩ := nat_of h2
  have e : ((UInt8.ofNat b).toNat : Int) = b := by rw [UInt8.toNat_ofNat']; omega
  have := fun w => step_any k (UInt8.ofNat b) w (by omega)
  rw [e] at this
  exact ac_of_below (fn := Try.f115) rfl rfl (by kernel_rfl) (args2 (tells_int _ _) (tells_int _ _)) (int_r _ _) (below_of_same this)

def flatN (p : Nat → List UInt8) : Nat → List UInt8
  | 0 => []
  | n + 1 => flatN p n ++ p n
def crc2 (p : Nat → List UInt8) (k : Int) (j : Nat) : Int := crcRun 4294967295 (flatN p k.toNat ++ (p k.toNat).take j)
def crcA (n : Nat) (p : Nat → List UInt8) (L : Seal) : Nat → St → Option Ann := fun id s => match id with
  | 0 => some ⟨Nat, fun k => [(9, .int .i64 (L natI k)), (3, .int .u32 (L3 L crc2 p (L natI k) 0))], fun _ => [], [7, 8], [], fun k => L2 L Nat.le k n, fun k => L2 L Nat.sub n k⟩
  | 2 => withStr s 13 fun l => withInt s 9 fun k => some ⟨Nat, fun j => [(15, .int .i64 (L natI j)), (3, .int .u32 (L3 L crc2 p k j))], fun _ => [], [7, 8, 9, 5, 13, 14], [], fun j => L2 L (fun (j : Nat) (l : List UInt8) => j ≤ l.length) j l, fun j => L2 L (fun (j : Nat) (l : List UInt8) => l.length - j) j l⟩
  | _ => none
theorem crc_ac (n : Nat) (p : Nat → List UInt8) (hn : n ≤ 1000) (hp : ∀ i, i < n → (p i).length ≤ 1000000) : ACalls Try.prog 110 [.lst 1 n (fun i _ => .str (p i))] (.int .u32 (crcL (flatN p n))) := by
  refine acalls_L (T := tt) (S := fun L => sumOf [step_s L]) (lo := crcA n p) (lb := noA) 5 (fn := Try.f110) rfl rfl (by kernel_rfl) (by kernel_rfl) rfl tt_ok (sumOf_ok ⟨step_good, trivial⟩) (by kernel_rfl) ?_
  intro L P' Q' hL hP hQ
  (cbv; try simp only [sat_need, sat_must, sat_ite, sat_done, sat_yes, sat_ex, sat_all, sat_sup, sat_and, sat_fail, true_and, and_true])
  refine ⟨⟨0, ?_⟩, fun x hx => ?_⟩
  · (cbv; try simp only [sat_need, sat_must, sat_ite, sat_done, sat_yes, sat_ex, sat_all, sat_sup, sat_and, sat_fail, true_and, and_true])
    (subst hL; subst hQ; simp only [L2, L3, std]; try simp only [sySet, reduceCtorEq, forall_const, Int.reduceToNat, Int.reduceAdd, Int.reduceSub, Int.cast_ofNat_Int, Int.toNat_natCast, Nat.le_eq, Nat.sub_eq, ne_eq, Decidable.not_not, implies_true, true_and, and_true, wadd, wsub, wmul, decide_eq_true_eq, decide_eq_false_iff_not, Nat.succ_eq_add_one, imp_false, not_false_eq_true, not_true_eq_false, false_imp_iff, true_imp_iff])
    exact ⟨rfl, Nat.zero_le n⟩
  · (cbv; try simp only [sat_need, sat_must, sat_ite, sat_done, sat_yes, sat_ex, sat_all, sat_sup, sat_and, sat_fail, true_and, and_true])
    refine ⟨fun h => ⟨?_, ⟨0, ?_⟩, fun y hy => ?_⟩, fun h => ?_⟩
    · (subst hL; subst hQ; simp only [L2, L3, std] at *; try simp only [sySet, reduceCtorEq, forall_const, Int.reduceToNat, Int.reduceAdd, Int.reduceSub, Int.cast_ofNat_Int, Int.toNat_natCast, Nat.le_eq, Nat.sub_eq, ne_eq, Decidable.not_not, implies_true, true_and, and_true, wadd, wsub, wmul, decide_eq_true_eq, decide_eq_false_iff_not, Nat.succ_eq_add_one, imp_false, not_false_eq_true, not_true_eq_false, false_imp_iff, true_imp_iff] at *)
      omega
    · (cbv; try simp only [sat_need, sat_must, sat_ite, sat_done, sat_yes, sat_ex, sat_all, sat_sup, sat_and, sat_fail, true_and, and_true])
      (subst hL; subst hQ; simp only [L2, L3, std] at *; try simp only [sySet, reduceCtorEq, forall_const, Int.reduceToNat, Int.reduceAdd, Int.reduceSub, Int.cast_ofNat_Int, Int.toNat_natCast, Nat.le_eq, Nat.sub_eq, ne_eq, Decidable.not_not, implies_true, true_and, and_true, wadd, wsub, wmul, decide_eq_true_eq, decide_eq_false_iff_not, Nat.succ_eq_add_one, imp_false, not_false_eq_true, not_true_eq_false, false_imp_iff, true_imp_iff] at *)
      exact Nat.zero_le _
    · cbv at hy
      (cbv; try simp only [sat_need, sat_must, sat_ite, sat_done, sat_yes, sat_ex, sat_all, sat_sup, sat_and, sat_fail, true_and, and_true])
      refine ⟨fun h' => ⟨?_, ?_, ⟨y + 1, ?_⟩⟩, fun h' => ⟨x + 1, ?_⟩⟩
      · (subst hL; subst hQ; simp only [L2, L3, std] at *; try simp only [sySet, reduceCtorEq, forall_const, Int.reduceToNat, Int.reduceAdd, Int.reduceSub, Int.cast_ofNat_Int, Int.toNat_natCast, Nat.le_eq, Nat.sub_eq, ne_eq, Decidable.not_not, implies_true, true_and, and_true, wadd, wsub, wmul, decide_eq_true_eq, decide_eq_false_iff_not, Nat.succ_eq_add_one, imp_false, not_false_eq_true, not_true_eq_false, false_imp_iff, true_imp_iff] at *)
        omega
      · (subst hL; subst hQ; simp only [L2, L3, std] at *; try simp only [sySet, reduceCtorEq, forall_const, Int.reduceToNat, Int.reduceAdd, Int.reduceSub, Int.cast_ofNat_Int, Int.toNat_natCast, Nat.le_eq, Nat.sub_eq, ne_eq, Decidable.not_not, implies_true, true_and, and_true, wadd, wsub, wmul, decide_eq_true_eq, decide_eq_false_iff_not, Nat.succ_eq_add_one, imp_false, not_false_eq_true, not_true_eq_false, false_imp_iff, true_imp_iff] at *)
        have := crcRun_lt (flatN p x ++ (p x).take y) (n := 4294967295) (by omega)
        have h8 := ((p x).getD y 0).toNat_lt
        exact ⟨Int.natCast_nonneg _, by simp only [crc2, Int.toNat_natCast]; omega, by omega, by omega⟩
      · (cbv; try simp only [sat_need, sat_must, sat_ite, sat_done, sat_yes, sat_ex, sat_all, sat_sup, sat_and, sat_fail, true_and, and_true])
        (subst hL; subst hQ; simp only [L2, L3, std] at *; try simp only [sySet, reduceCtorEq, forall_const, Int.reduceToNat, Int.reduceAdd, Int.reduceSub, Int.cast_ofNat_Int, Int.toNat_natCast, Nat.le_eq, Nat.sub_eq, ne_eq, Decidable.not_not, implies_true, true_and, and_true, wadd, wsub, wmul, decide_eq_true_eq, decide_eq_false_iff_not, Nat.succ_eq_add_one, imp_false, not_false_eq_true, not_true_eq_false, false_imp_iff, true_imp_iff] at *)
        have e : crcRun 4294967295 (flatN p x ++ (p x).take (y + 1)) = stepB (crcRun 4294967295 (flatN p x ++ (p x).take y)) ((p x).getD y 0) := by
          rw [List.take_succ_eq_append_getElem (by omega), ← List.append_assoc, crcRun, foldl_snoc, getD_get _ _ _ (by omega)]
          rfl
        have := hp x (by omega)
        refine ⟨?_, by omega, by omega, by omega⟩
        simp only [stepZ, crc2, Int.toNat_natCast]
        rw [e, UInt8.ofNat_toNat]
      · (cbv; try simp only [sat_need, sat_must, sat_ite, sat_done, sat_yes, sat_ex, sat_all, sat_sup, sat_and, sat_fail, true_and, and_true])
        (subst hL; subst hQ; simp only [L2, L3, std] at *; try simp only [sySet, reduceCtorEq, forall_const, Int.reduceToNat, Int.reduceAdd, Int.reduceSub, Int.cast_ofNat_Int, Int.toNat_natCast, Nat.le_eq, Nat.sub_eq, ne_eq, Decidable.not_not, implies_true, true_and, and_true, wadd, wsub, wmul, decide_eq_true_eq, decide_eq_false_iff_not, Nat.succ_eq_add_one, imp_false, not_false_eq_true, not_true_eq_false, false_imp_iff, true_imp_iff] at *)
        refine ⟨?_, by omega, by omega, by omega⟩
        have : y = (p x).length := by omega
        subst this
        simp only [crc2, Int.toNat_natCast, List.take_length]
        rw [show flatN p (x + 1) = flatN p x ++ p x from rfl]
        simp
    · (subst hL; subst hQ; simp only [L2, L3, std] at *; try simp only [sySet, reduceCtorEq, forall_const, Int.reduceToNat, Int.reduceAdd, Int.reduceSub, Int.cast_ofNat_Int, Int.toNat_natCast, Nat.le_eq, Nat.sub_eq, ne_eq, Decidable.not_not, implies_true, true_and, and_true, wadd, wsub, wmul, decide_eq_true_eq, decide_eq_false_iff_not, Nat.succ_eq_add_one, imp_false, not_false_eq_true, not_true_eq_false, false_imp_iff, true_imp_iff] at *)
      have : x = n := by omega
      subst this
      have := crcRun_lt (flatN p x) (n := 4294967295) (by omega)
      simp only [crc2, Int.toNat_natCast, List.take_zero, List.append_nil]
      exact not_u32 _ this

def shortOk (n : Int) : Prop := 0 ≤ n ∧ n < 18446744073709551616
def shortZ (n : Int) : List UInt8 := shortL n.toNat
def short_s (L : Seal) : Ent1 := (84, fun xs => match xs with | [.int .u64 n] => some (L shortOk n, .str (L shortZ n)) | _ => none)
theorem short_good : Good Try.prog (short_s std) := by
  intro xs p r h hp
  dsimp only [short_s] at h ⊢
  split at h <;> cases h
  try simp only [L2, L3, std] at hp ⊢
  rename_i n
  obtain ⟨h0, h1⟩ : shortOk n := hp
  obtain ⟨k, rfl⟩ := nat_of h0
  exact ac_of_below (fn := Try.f84) rfl rfl (by kernel_rfl) (args1 (tells_int _ _)) (fun h D => str_r h D _ _) (fun w => short_any k w (by omega))
/-- CRC of two parts that are told. -/
def crc2_s (L : Seal) : Ent1 := (110, fun xs => match xs with
  | [.lst 1 2 get] => match get 0 0 with
    | .str a => match get 1 0 with
      | .str b => some (L (fun g : Nat → Nat → AV => ∀ i j, i < 2 → j < 1 → g i j = .str (lget [] [a, b] i)) get ∧ L2 L upto 1000000 a ∧ L2 L upto 1000000 b, .int .u32 (L (fun l => (crcL l : Int)) (L2 L scat a b)))
      | _ => none
    | _ => none
  | _ => none)
theorem ac_lst1 {P : Program} {f : FuncId} {sz n : Nat} {g g' : Nat → Nat → AV} {r : AV} (e : ∀ i j, i < n → j < sz → g i j = g' i j) (h : ACalls P f [.lst sz n g'] r) : ACalls P f [.lst sz n g] r := by
  intro D w vs hD ⟨h1, h2⟩
  refine h D w vs hD ⟨h1, fun i x v hx hv => ?_⟩
  match i with
  | 0 => cases hx; exact lst_same (h2 0 _ v rfl hv) e
  | i + 1 => simp at hx
theorem crc2_good : Good Try.prog (crc2_s std) := by
  intro xs p r h hp
  dsimp only [crc2_s] at h ⊢
  split at h
  · rename_i get
    cases ea : get 0 0 with
    | str a =>
      cases eb : get 1 0 with
      | str b =>
        simp only [ea, eb] at h
        cases h
        obtain ⟨h1, h2, h3⟩ := hp
        have := crc_ac 2 (fun i => lget [] [a, b] i) (by omega) (fun i hi => by
          match i, hi with
          | 0, _ => exact h2
          | 1, _ => exact h3)
        exact ac_lst1 (g' := fun i _ => .str (lget [] [a, b] i)) h1 this
      | _ => simp only [ea, eb] at h; cases h
    | _ => simp only [ea] at h; cases h
  · cases h
theorem awake01_ac : ACalls Try.prog 80 [] (.bool true) := by
  refine acalls_L (T := tt) (S := fun L => sumOf [short_s L, put_s L]) (lo := noA) (lb := noA) 5 (fn := Try.f80) rfl rfl (by kernel_rfl) (by kernel_rfl) rfl tt_ok (sumOf_ok ⟨short_good, put_good, trivial⟩) (by kernel_rfl) ?_
  (intro L P1 Q1 hL hP hQ; cbv; subst hL; simp only [L2, L3, std, sat_need, sat_must, sat_ite, sat_done, sat_yes, sat_ex, sat_all, sat_sup, sat_and, sat_fail]; subst hQ)
  (simp only [sySet, reduceCtorEq, forall_const, Int.reduceToNat, Int.reduceAdd, Int.reduceSub, Int.cast_ofNat_Int, Int.toNat_natCast, Nat.le_eq, Nat.sub_eq, ne_eq, Decidable.not_not, implies_true, true_and, and_true, wadd, wsub, wmul, decide_eq_true_eq, decide_eq_false_iff_not, Nat.succ_eq_add_one, imp_false, not_false_eq_true, not_true_eq_false, false_imp_iff, true_imp_iff])
  exact ⟨by unfold shortOk; omega, fun _ => ⟨by unfold putOk; omega, by decide +kernel⟩, by rw [shortZ, show (300 : Int).toNat = 300 from rfl, shortL_big (by decide), shortL_small (by decide)]; rfl⟩
/-- A function without arguments that answers true. -/
def tru (f : Nat) : Ent1 := (f, fun xs => match xs with | [] => some (True, .bool true) | _ => none)
theorem tru_good {P : Program} {f : Nat} (h : ACalls P f [] (.bool true)) : Good P (tru f) := by
  intro xs p r h' hp
  match xs with
  | [] => cases h'; exact h
  | x :: xs => cases h'
theorem Awake01_ac : ACalls Try.prog 46 [] (.bool true) := by
  refine acalls_L (T := tt) (S := fun L => sumOf [tru 80]) (lo := noA) (lb := noA) 5 (fn := Try.f46) rfl rfl (by kernel_rfl) (by kernel_rfl) rfl tt_ok (sumOf_ok ⟨tru_good awake01_ac, trivial⟩) (by kernel_rfl) ?_
  (intro L P1 Q1 hL hP hQ; cbv; subst hL; simp only [L2, L3, std, sat_need, sat_must, sat_ite, sat_done, sat_yes, sat_ex, sat_all, sat_sup, sat_and, sat_fail]; subst hQ)
  (simp only [sySet, reduceCtorEq, forall_const, Int.reduceToNat, Int.reduceAdd, Int.reduceSub, Int.cast_ofNat_Int, Int.toNat_natCast, Nat.le_eq, Nat.sub_eq, ne_eq, Decidable.not_not, implies_true, true_and, and_true, wadd, wsub, wmul, decide_eq_true_eq, decide_eq_false_iff_not, Nat.succ_eq_add_one, imp_false, not_false_eq_true, not_true_eq_false, false_imp_iff, true_imp_iff])
theorem awake02_ac : ACalls Try.prog 114 [] (.bool true) := by
  refine acalls_L (T := tt) (S := fun L => sumOf [tru 46, crc2_s L]) (lo := noA) (lb := noA) 5 (fn := Try.f114) rfl rfl (by kernel_rfl) (by kernel_rfl) rfl tt_ok (sumOf_ok ⟨tru_good Awake01_ac, crc2_good, trivial⟩) (by kernel_rfl) ?_
  (intro L P1 Q1 hL hP hQ; cbv; subst hL; simp only [L2, L3, std, sat_need, sat_must, sat_ite, sat_done, sat_yes, sat_ex, sat_all, sat_sup, sat_and, sat_fail]; subst hQ)
  (simp only [sySet, reduceCtorEq, forall_const, Int.reduceToNat, Int.reduceAdd, Int.reduceSub, Int.cast_ofNat_Int, Int.toNat_natCast, Nat.le_eq, Nat.sub_eq, ne_eq, Decidable.not_not, implies_true, true_and, and_true, wadd, wsub, wmul, decide_eq_true_eq, decide_eq_false_iff_not, Nat.succ_eq_add_one, imp_false, not_false_eq_true, not_true_eq_false, false_imp_iff, true_imp_iff])
  refine ⟨⟨fun i j hi hj => ?_, by simp [upto, nthS], by simp [upto, nthS]⟩, by decide +kernel⟩
  match i, hi with
  | 0, _ => rfl
  | 1, _ => rfl
theorem Awake02_ac : ACalls Try.prog 107 [] (.bool true) := by
  refine acalls_L (T := tt) (S := fun L => sumOf [tru 114]) (lo := noA) (lb := noA) 5 (fn := Try.f107) rfl rfl (by kernel_rfl) (by kernel_rfl) rfl tt_ok (sumOf_ok ⟨tru_good awake02_ac, trivial⟩) (by kernel_rfl) ?_
  (intro L P1 Q1 hL hP hQ; cbv; subst hL; simp only [L2, L3, std, sat_need, sat_must, sat_ite, sat_done, sat_yes, sat_ex, sat_all, sat_sup, sat_and, sat_fail]; subst hQ)
  (simp only [sySet, reduceCtorEq, forall_const, Int.reduceToNat, Int.reduceAdd, Int.reduceSub, Int.cast_ofNat_Int, Int.toNat_natCast, Nat.le_eq, Nat.sub_eq, ne_eq, Decidable.not_not, implies_true, true_and, and_true, wadd, wsub, wmul, decide_eq_true_eq, decide_eq_false_iff_not, Nat.succ_eq_add_one, imp_false, not_false_eq_true, not_true_eq_false, false_imp_iff, true_imp_iff])
end Sy
end Go.Proofs.Ythlggigjnpldcaa
