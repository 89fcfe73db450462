/- Chapters 1 and 2: CRC of parts, and the examples that each law of these chapters asks first. -/
import Derived.Test.YtckbbcjbbmgmoaaDoorAcA
namespace Go.Proofs.YtckbbcjbbmgmoaaDoor
namespace Sy
open Go Go.RowKit
set_option maxRecDepth 100000
set_option linter.unusedSimpArgs false
set_option linter.unusedVariables false

def stepZ (n c : Int) : Int := stepB n.toNat (UInt8.ofNat c.toNat)
def stepOk (n c : Int) : Prop := 0 ≤ n ∧ n < 4294967296 ∧ 0 ≤ c ∧ c < 256
def flatN (p : Nat → List UInt8) : Nat → List UInt8
  | 0 => []
  | n + 1 => flatN p n ++ p n
def crc2 (p : Nat → List UInt8) (k : Int) (j : Nat) : Int := crcRun 4294967295 (flatN p k.toNat ++ (p k.toNat).take j)
def crcA (n : Nat) (p : Nat → List UInt8) (L : Seal) : Nat → St → Option Ann := fun id s => match id with
  | 0 => some ⟨Nat, fun k => [(9, .int .i64 (L natI k)), (3, .int .u32 (L3 L crc2 p (L natI k) 0))], fun _ => [], [7, 8], [], fun k => L2 L Nat.le k n, fun k => L2 L Nat.sub n k⟩
  | 2 => withStr s 13 fun l => withInt s 9 fun k => some ⟨Nat, fun j => [(15, .int .i64 (L natI j)), (3, .int .u32 (L3 L crc2 p k j))], fun _ => [], [7, 8, 9, 5, 13, 14], [], fun j => L2 L (fun (j : Nat) (l : List UInt8) => j ≤ l.length) j l, fun j => L2 L (fun (j : Nat) (l : List UInt8) => l.length - j) j l⟩
  | _ => none
def shortOk (n : Int) : Prop := 0 ≤ n ∧ n < 18446744073709551616
def shortZ (n : Int) : List UInt8 := shortL n.toNat
def short_s (L : Seal) : Ent1 := (41, fun xs => match xs with | [.int .u64 n] => some (L shortOk n, .str (L shortZ n)) | _ => none)
theorem short_good : Good Tryd.prog (short_s std) := by
  intro xs p r h hp
  dsimp only [short_s] at h ⊢
  split at h <;> cases h
  try simp only [L2, L3, std] at hp ⊢
  rename_i n
  obtain ⟨h0, h1⟩ : shortOk n := hp
  obtain ⟨k, rfl⟩ := nat_of h0
  exact ac_of_below (fn := Tryd.f41) rfl rfl (by kernel_rfl) (args1 (tells_int _ _)) (fun h D => str_r h D _ _) (fun w => short_any k w (by omega))
theorem ac_lst1 {P : Program} {f : FuncId} {sz n : Nat} {g g' : Nat → Nat → AV} {r : AV} (e : ∀ i j, i < n → j < sz → g i j = g' i j) (h : ACalls P f [.lst sz n g'] r) : ACalls P f [.lst sz n g] r := by
  intro D w vs hD ⟨h1, h2⟩
  refine h D w vs hD ⟨h1, fun i x v hx hv => ?_⟩
  match i with
  | 0 => cases hx; exact lst_same (h2 0 _ v rfl hv) e
  | i + 1 => simp at hx
theorem awake01_ac : ACalls Tryd.prog 32 [] (.bool true) := by
  refine acalls_L (T := tt) (S := fun L => sumOf [short_s L, put_s L]) (lo := noA) (lb := noA) 5 (fn := Tryd.f32) rfl rfl (by kernel_rfl) (by kernel_rfl) rfl tt_ok (sumOf_ok ⟨short_good, put_good, trivial⟩) (by kernel_rfl) ?_
  (intro L P1 Q1 hL hP hQ; cbv; subst hL; simp only [L2, L3, std, sat_need, sat_must, sat_ite, sat_done, sat_yes, sat_ex, sat_all, sat_sup, sat_and, sat_fail]; subst hQ)
  (simp only [sySet, reduceCtorEq, forall_const, Int.reduceToNat, Int.reduceAdd, Int.reduceSub, Int.cast_ofNat_Int, Int.toNat_natCast, Nat.le_eq, Nat.sub_eq, ne_eq, Decidable.not_not, implies_true, true_and, and_true, wadd, wsub, wmul, decide_eq_true_eq, decide_eq_false_iff_not, Nat.succ_eq_add_one, imp_false, not_false_eq_true, not_true_eq_false, false_imp_iff, true_imp_iff])
  exact ⟨by unfold shortOk; omega, fun _ => ⟨by unfold putOk; omega, by decide +kernel⟩, by rw [shortZ, show (300 : Int).toNat = 300 from rfl, shortL_big (by decide), shortL_small (by decide)]; rfl⟩
/-- A function without arguments that answers true. -/
def tru (f : Nat) : Ent1 := (f, fun xs => match xs with | [] => some (True, .bool true) | _ => none)
theorem tru_good {P : Program} {f : Nat} (h : ACalls P f [] (.bool true)) : Good P (tru f) := by
  intro xs p r h' hp
  match xs with
  | [] => cases h'; exact h
  | x :: xs => cases h'
theorem Awake01_ac : ACalls Tryd.prog 20 [] (.bool true) := by
  refine acalls_L (T := tt) (S := fun L => sumOf [tru 32]) (lo := noA) (lb := noA) 5 (fn := Tryd.f20) rfl rfl (by kernel_rfl) (by kernel_rfl) rfl tt_ok (sumOf_ok ⟨tru_good awake01_ac, trivial⟩) (by kernel_rfl) ?_
  (intro L P1 Q1 hL hP hQ; cbv; subst hL; simp only [L2, L3, std, sat_need, sat_must, sat_ite, sat_done, sat_yes, sat_ex, sat_all, sat_sup, sat_and, sat_fail]; subst hQ)
  (simp only [sySet, reduceCtorEq, forall_const, Int.reduceToNat, Int.reduceAdd, Int.reduceSub, Int.cast_ofNat_Int, Int.toNat_natCast, Nat.le_eq, Nat.sub_eq, ne_eq, Decidable.not_not, implies_true, true_and, and_true, wadd, wsub, wmul, decide_eq_true_eq, decide_eq_false_iff_not, Nat.succ_eq_add_one, imp_false, not_false_eq_true, not_true_eq_false, false_imp_iff, true_imp_iff])
end Sy
end Go.Proofs.YtckbbcjbbmgmoaaDoor
