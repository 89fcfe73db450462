/- Chapter 6 (digest): Keys, the words of nothing. -/
import Derived.Test.YthlggigjnpldcaaAgA
namespace Go.Proofs.Ythlggigjnpldcaa
namespace Sy
open Go Go.RowKit
set_option maxRecDepth 100000
set_option linter.unusedSimpArgs false
set_option linter.unusedVariables false

def keysL : List Int := [0x428a2f98, 0x71374491, 0xb5c0fbcf, 0xe9b5dba5, 0x3956c25b, 0x59f111f1, 0x923f82a4, 0xab1c5ed5,
  0xd807aa98, 0x12835b01, 0x243185be, 0x550c7dc3, 0x72be5d74, 0x80deb1fe, 0x9bdc06a7, 0xc19bf174,
  0xe49b69c1, 0xefbe4786, 0x0fc19dc6, 0x240ca1cc, 0x2de92c6f, 0x4a7484aa, 0x5cb0a9dc, 0x76f988da,
  0x983e5152, 0xa831c66d, 0xb00327c8, 0xbf597fc7, 0xc6e00bf3, 0xd5a79147, 0x06ca6351, 0x14292967,
  0x27b70a85, 0x2e1b2138, 0x4d2c6dfc, 0x53380d13, 0x650a7354, 0x766a0abb, 0x81c2c92e, 0x92722c85,
  0xa2bfe8a1, 0xa81a664b, 0xc24b8b70, 0xc76c51a3, 0xd192e819, 0xd6990624, 0xf40e3585, 0x106aa070,
  0x19a4c116, 0x1e376c08, 0x2748774c, 0x34b0bcb5, 0x391c0cb3, 0x4ed8aa4a, 0x5b9cca4f, 0x682e6ff3,
  0x748f82ee, 0x78a5636f, 0x84c87814, 0x8cc70208, 0x90befffa, 0xa4506ceb, 0xbef9a3f7, 0xc67178f2]
def firstL : List Int := [0x6a09e667, 0xbb67ae85, 0x3c6ef372, 0xa54ff53a, 0x510e527f, 0x9b05688c, 0x1f83d9ab, 0x5be0cd19]
def cntP : Nat → Nat
  | 0 => 0
  | n + 1 => if primeB n = true then cntP n + 1 else cntP n
def klist : Nat → List Int
  | 0 => List.replicate 64 0
  | n + 1 => if primeB n = true then (klist n).set (cntP n) (leastZ n true) else klist n
theorem klist_len : ∀ n, (klist n).length = 64
  | 0 => by rw [klist, List.length_replicate]
  | n + 1 => by
    rw [klist]
    split
    · rw [List.length_set, klist_len n]
    · exact klist_len n
theorem klist_is : klist 312 = keysL := by decide +kernel
theorem cnt_311 : cntP 311 = 63 ∧ cntP 312 = 64 := by decide +kernel
theorem first_is : firstL = [leastZ 2 false, leastZ 3 false, leastZ 5 false, leastZ 7 false, leastZ 11 false, leastZ 13 false, leastZ 17 false, leastZ 19 false] := by decide +kernel
theorem cnt_mono : ∀ {m n : Nat}, m ≤ n → cntP m ≤ cntP n := by
  intro m n h
  induction h with
  | refl => exact Nat.le_refl _
  | step h ih =>
    rename_i k
    rw [cntP]
    split <;> omega
def kInv (n : Nat) : Prop := 2 ≤ n ∧ n ≤ 311 ∧ cntP n ≤ 63
def cntN (n : Nat) : Int := cntP n
def keyA (L : Seal) : Nat → St → Option Ann := fun id st => match id with
  | 0 => some ⟨Nat, fun n => [(2, .int .u64 (L natI n)), (3, .int .i64 (L cntN n)), (1, .ref 1 0)], fun n => [(1, .row 51 1 64 (fun i _ => .int .u32 (L2 L nthI (L klist n) i)))], [0], [0], fun n => L kInv n, fun n => L (fun n : Nat => 312 - n) n⟩
  | _ => none
def keys_s (L : Seal) : Ent1 := (24, fun xs => match xs with | [] => some (True, .arr 64 (fun j => .int .u32 (L2 L nthI keysL j))) | _ => none)
theorem nthI_self {l : List Int} {k : Nat} {v : Int} (h : k < l.length) : nthI (l.set k v) k = v := by
  rw [nthI, List.getD_eq_getElem?_getD, List.getElem?_set_self h]; rfl
theorem nthI_ne {l : List Int} {k i : Nat} {v : Int} (h : k ≠ i) : nthI (l.set k v) i = nthI l i := by
  rw [nthI, nthI, List.getD_eq_getElem?_getD, List.getD_eq_getElem?_getD, List.getElem?_set_ne h]
theorem k_at2 : klist 2 = List.replicate 64 0 ∧ 0 = cntN 2 ∧ cntP 2 ≤ 63 := by decide +kernel
theorem k_step {n : Nat} (h : n ≤ 311) (hc : cntP (n + 1) < 64) : n + 1 ≤ 311 := by
  rcases Nat.lt_or_eq_of_le h with h | h
  · exact h
  · rw [h] at hc
    exact absurd (cnt_311.2 ▸ hc : (64 : Nat) < 64) (by decide)
theorem k_last {n : Nat} (h : n ≤ 311) (hc : 64 ≤ cntP (n + 1)) : klist (n + 1) = keysL := by
  rcases Nat.lt_or_eq_of_le h with h | h
  · have h2 := Nat.le_trans hc (cnt_mono h)
    rw [cnt_311.1] at h2
    exact absurd h2 (by decide)
  · rw [h]; exact klist_is
theorem k_yes {n : Nat} (h : primeB n = true) : cntP (n + 1) = cntP n + 1 ∧ klist (n + 1) = (klist n).set (cntP n) (leastZ n true) := by
  rw [cntP, klist, if_pos h, if_pos h]; exact ⟨rfl, rfl⟩
theorem k_no {n : Nat} (h : primeB n = false) : cntP (n + 1) = cntP n ∧ klist (n + 1) = klist n := by
  rw [cntP, klist, if_neg (by rw [h]; decide), if_neg (by rw [h]; decide)]; exact ⟨rfl, rfl⟩
theorem set_row {l : List Int} {k i : Nat} (v : Int) (hk : k < l.length) : over std k 0 1 [.int .u32 v] (fun i x => .int .u32 (nthI l i)) i 0 = .int .u32 (nthI (l.set k v) i) := by
  rw [over_get, if_pos ⟨Nat.le_refl _, by omega⟩]
  by_cases hi2 : i = k
  · subst hi2
    rw [beq_same, nthI_self hk]; rfl
  · rw [beq_no hi2, nthI_ne (fun h => hi2 h.symm)]; rfl
theorem k_set {n i : Nat} (h : primeB n = true) (hc : cntP n < 64) : over std (cntN n).toNat 0 1 [.int .u32 (leastZ n true)] (fun i x => .int .u32 (nthI (klist n) i)) i 0 = .int .u32 (nthI (klist (n + 1)) i) := by
  rw [(k_yes h).2]
  have e : (cntN n).toNat = cntP n := Int.toNat_natCast _
  rw [e]
  have hl : cntP n < (klist n).length := by rw [klist_len]; exact hc
  generalize leastZ n true = v
  generalize klist n = l at hl ⊢
  generalize cntP n = k at hl ⊢
  exact set_row v hl
theorem k_go {n n' : Nat} (hn : n' = n + 1) (hi : kInv n) (h1 : primeB n = true) (h2 : cntN n + 1 < 64) : (∀ i, over std (cntN n).toNat 0 1 [.int .u32 (leastZ n true)] (fun i x => .int .u32 (nthI (klist n) i)) i 0 = .int .u32 (nthI (klist n') i)) ∧ cntN n + 1 = cntN n' ∧ kInv n' ∧ 312 - n' < 312 - n := by
  subst hn
  obtain ⟨i1, i2, i3⟩ := hi
  obtain ⟨h3, -⟩ := k_yes h1
  have h2' : cntP n + 1 < 64 := by unfold cntN at h2; omega
  have h5 := k_step i2 (by rw [h3]; omega)
  refine ⟨fun i => k_set h1 (by omega), ?_, ⟨by omega, h5, by rw [h3]; omega⟩, by omega⟩
  unfold cntN
  rw [h3]; rfl
theorem k_end {n : Nat} (hi : kInv n) (h1 : primeB n = true) (h2 : ¬ cntN n + 1 < 64) (j : Nat) : over std (cntN n).toNat 0 1 [.int .u32 (leastZ n true)] (fun i x => .int .u32 (nthI (klist n) i)) j 0 = .int .u32 (nthI keysL j) := by
  obtain ⟨i1, i2, i3⟩ := hi
  obtain ⟨h3, -⟩ := k_yes h1
  have h2' : 64 ≤ cntP n + 1 := by unfold cntN at h2; omega
  rw [k_set h1 (by omega), k_last i2 (by rw [h3]; omega)]
theorem k_goN {n n' : Nat} (hn : n' = n + 1) (hi : kInv n) (h1 : primeB n = false) (h2 : cntN n < 64) : klist n = klist n' ∧ cntN n = cntN n' ∧ kInv n' ∧ 312 - n' < 312 - n := by
  subst hn
  obtain ⟨i1, i2, i3⟩ := hi
  obtain ⟨h3, h4⟩ := k_no h1
  have h5 := k_step i2 (by rw [h3]; omega)
  refine ⟨h4.symm, ?_, ⟨by omega, h5, by rw [h3]; omega⟩, by omega⟩
  unfold cntN
  rw [h3]
theorem k_rng {n : Nat} (hi : kInv n) : 2 ≤ n ∧ n ≤ 311 ∧ 0 ≤ cntN n ∧ cntN n ≤ 63 := by
  obtain ⟨i1, i2, i3⟩ := hi
  refine ⟨i1, i2, Int.natCast_nonneg _, ?_⟩
  unfold cntN; omega
theorem k_beg {n : Nat} (hn : n = 2) : (∀ i, i < 64 → nthI (klist n) i = 0) ∧ cntN n = 0 ∧ kInv n ∧ (n : Int) = 2 := by
  subst hn
  refine ⟨fun i hi => ?_, k_at2.2.1.symm, ⟨by decide, by decide, k_at2.2.2⟩, rfl⟩
  rw [k_at2.1, nthI, List.getD_eq_getElem?_getD, List.getElem?_replicate, if_pos hi]; rfl
theorem keys_good : Good Try.prog (keys_s std) := by
  intro xs p r h hp
  dsimp only [keys_s] at h ⊢
  split at h <;> cases h
  try simp only [L2, L3, std] at hp ⊢
  refine acalls_L (T := tt) (S := fun L => sumOf [prime_s L, least_s L]) (lo := noA) (lb := keyA) 5 (fn := Try.f24) rfl rfl (by kernel_rfl) (by kernel_rfl) rfl tt_ok (sumOf_ok ⟨prime_good, least_good, trivial⟩) (by kernel_rfl) ?_
  intro L P' Q' hL hP hQ
  obtain ⟨n0, hn0⟩ : ∃ n0 : Nat, n0 = 2 := ⟨_, rfl⟩
  (cbv; try simp only [sat_need, sat_must, sat_ite, sat_done, sat_yes, sat_ex, sat_all, sat_sup, sat_and, sat_fail, true_and, and_true])
  refine ⟨fun n hn => ?_, ⟨n0, ?_⟩⟩
  · obtain ⟨n', hn'⟩ : ∃ n' : Nat, n' = n + 1 := ⟨_, rfl⟩
    (cbv; try simp only [sat_need, sat_must, sat_ite, sat_done, sat_yes, sat_ex, sat_all, sat_sup, sat_and, sat_fail, true_and, and_true])
    refine ⟨?_, fun h1 => ⟨?_, fun h2 => ⟨n', ?_⟩, fun h2 => ?_⟩, fun h1 => ⟨fun h2 => ⟨n', ?_⟩, fun h2 => ?_⟩⟩
    all_goals (try (cbv; try simp only [sat_need, sat_must, sat_ite, sat_done, sat_yes, sat_ex, sat_all, sat_sup, sat_and, sat_fail, true_and, and_true]))
    all_goals (subst hL; subst hQ; simp only [L2, L3, std] at *; try simp only [sySet, reduceCtorEq, forall_const, Int.reduceToNat, Int.reduceAdd, Int.reduceSub, Int.cast_ofNat_Int, Int.toNat_natCast, Nat.le_eq, Nat.sub_eq, ne_eq, Decidable.not_not, implies_true, true_and, and_true, wadd, wsub, wmul, decide_eq_true_eq, decide_eq_false_iff_not, Nat.succ_eq_add_one, imp_false, not_false_eq_true, not_true_eq_false, false_imp_iff, true_imp_iff] at *)
    all_goals (obtain ⟨r1, r2, r3, r4⟩ := k_rng hn)
    · omega
    · omega
    · rw [show (cntN n + 1 + 9223372036854775808) % 18446744073709551616 - 9223372036854775808 = cntN n + 1 by omega] at h2 ⊢
      obtain ⟨e1, e2, e3, e4⟩ := k_go hn' hn h1 h2
      refine ⟨fun i j hi hj => ?_, e2, by omega, e3, by omega⟩
      have : j = 0 := by omega
      subst this
      exact e1 i
    · rw [show (cntN n + 1 + 9223372036854775808) % 18446744073709551616 - 9223372036854775808 = cntN n + 1 by omega] at h2
      intro j hj
      exact k_end hn h1 (by omega) j
    · obtain ⟨e1, e2, e3, e4⟩ := k_goN hn' hn h1 h2
      exact ⟨fun i j hi hj => by rw [e1], e2, by omega, e3, by omega⟩
    · exfalso; omega
  · (cbv; try simp only [sat_need, sat_must, sat_ite, sat_done, sat_yes, sat_ex, sat_all, sat_sup, sat_and, sat_fail, true_and, and_true])
    (subst hL; subst hQ; simp only [L2, L3, std] at *; try simp only [sySet, reduceCtorEq, forall_const, Int.reduceToNat, Int.reduceAdd, Int.reduceSub, Int.cast_ofNat_Int, Int.toNat_natCast, Nat.le_eq, Nat.sub_eq, ne_eq, Decidable.not_not, implies_true, true_and, and_true, wadd, wsub, wmul, decide_eq_true_eq, decide_eq_false_iff_not, Nat.succ_eq_add_one, imp_false, not_false_eq_true, not_true_eq_false, false_imp_iff, true_imp_iff] at *)
    obtain ⟨e1, e2, e3, e4⟩ := k_beg hn0
    refine ⟨fun i j hi hj => ?_, e2.symm, e4.symm, e3⟩
    have : j = 0 := by omega
    subst this
    rw [e1 i hi]; rfl
end Sy
end Go.Proofs.Ythlggigjnpldcaa
