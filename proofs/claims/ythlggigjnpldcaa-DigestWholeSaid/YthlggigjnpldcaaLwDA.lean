/- The laws of chapter 6: DigestWhole, DigestSums. -/
import Derived.Test.YthlggigjnpldcaaAgG
import Derived.Test.YthlggigjnpldcaaOpn
namespace Go.Proofs.Ythlggigjnpldcaa
namespace Sy
open Go Go.RowKit
set_option maxRecDepth 100000
set_option linter.unusedSimpArgs false
set_option linter.unusedVariables false

def dwA (L : Seal) : Nat → St → Option Ann := fun id st => match id with
  | 0 => some ⟨Nat, fun n => [(14, .int .i64 (L natI n))], fun _ => [], [0, 3, 12, 13], [3], fun n => L (fun n : Nat => n ≤ 64) n, fun n => L (fun n : Nat => 64 - n) n⟩
  | _ => none
theorem small_s {s : List UInt8} (h : ilt 1000 (slen s) = false) : s.length ≤ 1000 := by
  rw [ilt_f, slen] at h
  omega
theorem digestWhole_ac (s : List UInt8) (hs : s.length ≤ maxLen) : ACalls Try.prog 5 [.str s] (.bool true) := by
  refine acalls_L (T := tt) (S := fun L => sumOf [tru 23, keys_s L, K_s L, whole_s L, pad_s L]) (lo := dwA) (lb := noA) 5 (fn := Try.f5) rfl rfl (by kernel_rfl) (by kernel_rfl) rfl tt_ok (sumOf_ok ⟨tru_good awake06_ac, keys_good, K_good, whole_good, pad_good, trivial⟩) (by kernel_rfl) ?_
  obtain ⟨n0, hn0⟩ : ∃ n : Nat, n = 0 := ⟨_, rfl⟩
  intro L P' Q' hL hP hQ
  (cbv; try simp only [sat_need, sat_must, sat_ite, sat_done, sat_yes, sat_ex, sat_all, sat_sup, sat_and, sat_fail, true_and, and_true])
  refine ⟨fun h => ?_, fun _ => ⟨fun _ => ?_, fun h1 => ⟨⟨n0, ?_⟩, fun n hn => ?_⟩⟩⟩
  · subst hL; cases h
  · subst hL; subst hQ; rw [fits_bool]
  · (cbv; try simp only [sat_need, sat_must, sat_ite, sat_done, sat_yes, sat_ex, sat_all, sat_sup, sat_and, sat_fail, true_and, and_true])
    subst hL; subst hQ
    exact ⟨fun _ _ _ _ => trivial, fun _ _ _ _ => trivial, by subst hn0; rfl, by subst hn0; exact Nat.zero_le _⟩
  obtain ⟨n', hn'⟩ : ∃ n' : Nat, n' = n + 1 := ⟨_, rfl⟩
  (cbv; try simp only [sat_need, sat_must, sat_ite, sat_done, sat_yes, sat_ex, sat_all, sat_sup, sat_and, sat_fail, true_and, and_true])
  refine ⟨fun h2 => ⟨?_, ?_, fun h3 => ?_, fun h3 => ⟨n', ?_⟩⟩, fun h2 => ⟨?_, ?_, ?_⟩⟩
  · subst hL; exact inR_nat (lt_of_ilt h2)
  · subst hL; exact inR_nat (lt_of_ilt h2)
  · subst hL
    exact absurd h3 (by
      simp only [std, ine, bne_self_eq_false]
      decide)
  · (cbv; try simp only [sat_need, sat_must, sat_ite, sat_done, sat_yes, sat_ex, sat_all, sat_sup, sat_and, sat_fail, true_and, and_true])
    subst hL; subst hQ
    have h64 : n < 64 := lt_of_ilt h2
    refine ⟨fun _ _ _ _ => trivial, fun _ _ _ _ => trivial, natI_up hn' (by omega), ?_, ?_⟩
    · show n' ≤ 64
      omega
    · show 64 - n' + 1 ≤ 64 - n
      omega
  · subst hL; exact show s.length ≤ 1000000 from Nat.le_trans (small_s h1) (by decide)
  · subst hL; exact show s.length ≤ 1000000 from Nat.le_trans (small_s h1) (by decide)
  · subst hL; subst hQ
    rw [fits_bool]
    simp [seq, L2, std]
theorem digestSums_ac (s : List UInt8) (hs : s.length ≤ maxLen) (n at' : Int) (hn : 0 ≤ n ∧ n ≤ 255) (ha : 0 ≤ at' ∧ at' ≤ 65535) : ACalls Try.prog 6 [.str s, .int .u8 n, .int .u16 at'] (.bool true) := by
  refine acalls_L (T := tt) (S := fun L => sumOf [tru 23, rep_s L, sum_s L, text_s L, reft_s L, print_s L, refp_s L]) (lo := noA) (lb := noA) 5 (fn := Try.f6) rfl rfl (by kernel_rfl) (by kernel_rfl) rfl tt_ok (sumOf_ok ⟨tru_good awake06_ac, rep_good, sum_good, text_good, reft_good, print_good, refp_good, trivial⟩) (by kernel_rfl) ?_
  (intro L P1 Q1 hL hP hQ; cbv; subst hL; simp only [L2, L3, std, sat_need, sat_must, sat_ite, sat_done, sat_yes, sat_ex, sat_all, sat_sup, sat_and, sat_fail]; subst hQ)
  refine ⟨trivial, fun h => (by cases h), fun _ => ⟨fun _ => (by rw [fits_bool]), fun h1 => ?_⟩⟩
  have hn2 : IntKind.i64.wrap n = n := by rw [w_i64]; omega
  have ha2 : IntKind.i64.wrap at' = at' := by rw [w_i64]; omega
  rw [ilt_f, slen] at h1
  have hr : (repZ [97] n).length = n.toNat := by
    rw [repZ]; simp
  rw [hn2, ha2]
  obtain ⟨t, ht⟩ : ∃ t, t = scat s (repZ [97] n) := ⟨_, rfl⟩
  have htl : t.length ≤ 2000 := by rw [ht, scat, List.length_append, hr]; omega
  rw [← ht]
  have hw : wadd .i64 (slen t) 1 = (t.length : Int) + 1 := by rw [wadd, w_i64, slen]; omega
  rw [hw]
  obtain ⟨k, hk⟩ : ∃ k, k = at'.tmod ((t.length : Int) + 1) := ⟨_, rfl⟩
  have hk2 : 0 ≤ k ∧ k ≤ t.length := by
    rw [hk, Int.tmod_eq_emod_of_nonneg ha.1]
    have h2 := Int.emod_nonneg at' (show (t.length : Int) + 1 ≠ 0 by omega)
    have h3 := Int.emod_lt_of_pos at' (show 0 < (t.length : Int) + 1 by omega)
    omega
  rw [← hk, sumX_one]
  have e3 : sumX (.lst 1 3 fun i _ => .str (nthS [List.take k.toNat t, [], List.drop k.toNat t] (Nat.add 0 i))) = prtZ t := by
    have e : joinZ (.lst 1 3 fun i _ => .str (nthS [List.take k.toNat t, [], List.drop k.toNat t] (Nat.add 0 i))) = t := by
      show List.take k.toNat t ++ ([] ++ (List.drop k.toNat t ++ [])) = t
      rw [List.append_nil, List.nil_append, List.take_append_drop]
    rw [sumX, e, prtZ]
  have j3 : joinOk (.lst 1 3 fun i _ => .str (nthS [List.take k.toNat t, [], List.drop k.toNat t] (Nat.add 0 i))) := by
    refine ⟨fun i _ => ⟨_, rfl⟩, by decide, ?_⟩
    show (List.take k.toNat t ++ ([] ++ (List.drop k.toNat t ++ []))).length ≤ 1000000
    rw [List.append_nil, List.nil_append, List.take_append_drop]
    omega
  have hin : inC k (slen t) = true := by rw [inC_t]; exact hk2
  have ht1 : t.length ≤ 1000000 := by omega
  have hsame : seq (prtZ t) (prtZ t) = true := by simp [seq]
  have hb : bytesOf 32 (fun i => (AV.int .u8 (byteAt (prtZ t) (0 + i))).toI) = prtZ t := by
    have := bytesOf_at (prtZ t)
    rw [prtZ_len] at this
    simp only [Nat.zero_add]
    exact this
  have no : ∀ {q : Prop}, seq (prtZ t) (prtZ t) = false → q := fun h => by rw [hsame] at h; cases h
  rw [e3, hb]
  refine ⟨⟨hn.1, by omega, by decide⟩, ?_, ?_, join_one t ht1, join_one t ht1, ht1, fun _ => ⟨hin, hin, j3, ht1, fun _ => ⟨trivial, ⟨show 0 + 32 ≤ 32 by decide, fun i _ => ⟨_, rfl⟩⟩, ht1, fun _ => ⟨ht1, ht1, ?_⟩, no⟩, no⟩, no⟩
  · rw [catOk, decide_eq_true_eq, hr]; omega
  · rw [ine]; simp; omega
  · rw [fits_bool]
    simp [ieq]
theorem digestSums_law (y0 : List UInt8) (ok0 : y0.length ≤ maxLen) (y1 : Int) (ok1 : (Lit.int .u8 y1).wf = true) (y2 : Int) (ok2 : (Lit.int .u16 y2).wf = true) : ACalls Try.prog 6 [.str y0, .int .u8 y1, .int .u16 y2] (.bool true) := by
  simp [Lit.wf] at ok1 ok2
  have a0 : IntKind.u8.min = 0 := rfl
  have a1 : IntKind.u8.max = 255 := rfl
  have a2 : IntKind.u16.min = 0 := rfl
  have a3 : IntKind.u16.max = 65535 := rfl
  exact digestSums_ac y0 ok0 y1 y2 (by omega) (by omega)
end Sy
end Go.Proofs.Ythlggigjnpldcaa
