/- Chapter 6 (digest): the document's Print, the example. -/
import Derived.Test.YthlggigjnpldcaaAgF
namespace Go.Proofs.Ythlggigjnpldcaa
namespace Sy
open Go Go.RowKit
set_option maxRecDepth 100000
set_option linter.unusedSimpArgs false
set_option linter.unusedVariables false

def fst16 (s : List UInt8) (n : Nat) : List UInt8 := (prtZ s).take n
def rpA (L : Seal) (s : List UInt8) : Nat → St → Option Ann := fun id st => match id with
  | 0 => some ⟨Nat, fun n => [(5, .int .i64 (L natI n))], fun n => [(4, .row 65 1 16 (fun i _ => .int .u8 (L2 L byteAt (L2 L fst16 s n) i)))], [2, 3, 4], [2], fun n => L (fun n : Nat => n ≤ 16) n, fun n => L (fun n : Nat => 16 - n) n⟩
  | _ => none
def refp_s (L : Seal) : Ent1 := (33, fun xs => match xs with | [.str s] => some (L2 L upto 1000000 s, p16 L (L prtZ s)) | _ => none)
theorem byte_app {l : List UInt8} {n n' i : Nat} (hn : n' = n + 1) (h : n < l.length) : over std n 0 1 [.int .u8 (sidx l (natI n))] (fun i _ => .int .u8 (byteAt (l.take n) i)) i 0 = .int .u8 (byteAt (l.take n') i) := by
  subst hn
  rw [over_get, if_pos ⟨Nat.le_refl _, by omega⟩]
  by_cases hi : i = n
  · rw [hi, beq_same]
    show AV.int .u8 (sidx l (natI n)) = _
    rw [sidx, natI, Int.toNat_natCast, byteAt, List.getD_eq_getElem?_getD, List.getD_eq_getElem?_getD, List.getElem?_take_of_lt (by omega)]
  · rw [beq_no hi]
    show AV.int .u8 (byteAt (l.take n) i) = _
    rw [byteAt, byteAt, List.getD_eq_getElem?_getD, List.getD_eq_getElem?_getD]
    by_cases hlt : i < n
    · rw [List.getElem?_take_of_lt hlt, List.getElem?_take_of_lt (by omega)]
    · rw [List.getElem?_eq_none (by rw [List.length_take]; omega), List.getElem?_eq_none (by rw [List.length_take]; omega)]
theorem refp_good : Good Try.prog (refp_s std) := by
  intro xs p r h hp
  dsimp only [refp_s] at h ⊢
  split at h <;> cases h
  try simp only [L2, L3, std] at hp ⊢
  rename_i s
  have hl : s.length ≤ 1000000 := hp
  refine acalls_L (T := tt) (S := fun L => sumOf [reft_s L]) (lo := fun L => rpA L s) (lb := noA) 5 (fn := Try.f33) rfl rfl (by kernel_rfl) (by kernel_rfl) rfl tt_ok (sumOf_ok ⟨reft_good, trivial⟩) (by kernel_rfl) ?_
  obtain ⟨n0, hn0⟩ : ∃ n : Nat, n = 0 := ⟨_, rfl⟩
  intro L P' Q' hL hP hQ
  (cbv; try simp only [sat_need, sat_must, sat_ite, sat_done, sat_yes, sat_ex, sat_all, sat_sup, sat_and, sat_fail, true_and, and_true])
  refine ⟨?_, ⟨n0, ?_⟩, fun n hn => ?_⟩
  · subst hL; exact hl
  · (cbv; try simp only [sat_need, sat_must, sat_ite, sat_done, sat_yes, sat_ex, sat_all, sat_sup, sat_and, sat_fail, true_and, and_true])
    subst hL; subst hQ
    refine ⟨fun _ _ _ _ => trivial, fun i j hi hj => ?_, ?_, ?_⟩
    · have : j = 0 := by omega
      subst this; subst hn0; rfl
    · subst hn0; rfl
    · subst hn0; exact Nat.zero_le _
  obtain ⟨n', hn'⟩ : ∃ n' : Nat, n' = n + 1 := ⟨_, rfl⟩
  (cbv; try simp only [sat_need, sat_must, sat_ite, sat_done, sat_yes, sat_ex, sat_all, sat_sup, sat_and, sat_fail, true_and, and_true])
  refine ⟨fun h1 => ⟨?_, ?_, n', ?_⟩, fun h1 => ?_⟩
  · subst hL
    have : n < 16 := lt_of_ilt (k := 16) h1
    show inR (natI n) (slen (prtZ s)) = true
    rw [slen, prtZ_len]
    exact inR_nat (k := 32) (by omega)
  · subst hL; exact inR_nat (lt_of_ilt h1)
  · (cbv; try simp only [sat_need, sat_must, sat_ite, sat_done, sat_yes, sat_ex, sat_all, sat_sup, sat_and, sat_fail, true_and, and_true])
    subst hL; subst hQ
    have h16 : n < 16 := lt_of_ilt h1
    refine ⟨fun _ _ _ _ => trivial, fun i j hi hj => ?_, ?_, ?_, ?_⟩
    · have : j = 0 := by omega
      subst this
      have ek : (natI n).toNat = n := Int.toNat_natCast n
      simp only [L2, L3, std, ek, fst16]
      exact byte_app hn' (by rw [prtZ_len]; omega)
    · exact natI_up hn' (by omega)
    · show n' ≤ 16
      omega
    · show 16 - n' + 1 ≤ 16 - n
      omega
  · subst hL; subst hQ
    have h16 : n = 16 := by
      have : ¬ n < 16 := ge_of_ilt h1
      have : n ≤ 16 := hn
      omega
    subst h16
    have e : ∀ j, j < 16 → byteAt (fst16 s 16) j = byteAt (prtZ s) j := by
      intro j hj
      rw [fst16, byteAt, byteAt, List.getD_eq_getElem?_getD, List.getD_eq_getElem?_getD, List.getElem?_take_of_lt hj]
    exact fits_16 (fun j => byteAt (fst16 s 16) j) _ e
theorem abc_is : (prtZ [97, 98, 99]).take 4 = [186, 120, 22, 191] := by decide +kernel
theorem awake06_ac : ACalls Try.prog 23 [] (.bool true) := by
  refine acalls_L (T := tt) (S := fun L => sumOf [tru 46, text_s L, pre_s L]) (lo := noA) (lb := noA) 5 (fn := Try.f23) rfl rfl (by kernel_rfl) (by kernel_rfl) rfl tt_ok (sumOf_ok ⟨tru_good Awake01_ac, text_good, pre_good, trivial⟩) (by kernel_rfl) ?_
  (intro L P1 Q1 hL hP hQ; cbv; subst hL; simp only [L2, L3, std, sat_need, sat_must, sat_ite, sat_done, sat_yes, sat_ex, sat_all, sat_sup, sat_and, sat_fail]; subst hQ)
  have e : sumX (.lst 1 2 fun i _ => .str (nthS [[97], [98, 99]] (Nat.add 0 i))) = prtZ [97, 98, 99] := rfl
  have hb : preB (prtZ [97, 98, 99]) [186, 120, 22, 191] = true := by
    show (List.take 4 (prtZ [97, 98, 99]) == [186, 120, 22, 191]) = true
    rw [abc_is]; rfl
  rw [e, hb]
  refine ⟨trivial, fun _ => ⟨⟨?_, by decide, by decide⟩, ⟨?_, by decide⟩, fun _ => ⟨trivial, ?_⟩, fun h => by cases h⟩, fun h => by cases h⟩
  · intro i hi
    exact ⟨_, rfl⟩
  · rw [prtZ_len]; decide
  · rw [fits_bool, slen, sumX_len]; rfl
end Sy
end Go.Proofs.Ythlggigjnpldcaa
