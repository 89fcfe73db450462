/- Numbers in digits, and back: plain facts. -/
import Derived.Test.YtckbbcjbbmgmoaaDoorWdB
namespace Go.Proofs.YtckbbcjbbmgmoaaDoor
namespace Sy
open Go Go.RowKit
set_option maxRecDepth 100000
set_option linter.unusedSimpArgs false
set_option linter.unusedVariables false

theorem dig_c {n : Nat} (h : n < 10) : (UInt8.ofNat (48 + n)).toNat = 48 + n := by
  rw [UInt8.toNat_ofNat']; omega
/-- A number's digits. -/
theorem dec_is (u : Nat) : (Lib.decDigits u).all isD = true ∧ Lib.decDigits u ≠ [] ∧ decV 0 (Lib.decDigits u) = u ∧ (1 ≤ u → sidx (Lib.decDigits u) 0 ≠ 48) := by
  induction u using Nat.strongRecOn with
  | _ u ih =>
    by_cases h : u < 10
    · rw [Lib.decDigits_one h]
      have hc := dig_c h
      refine ⟨?_, by simp, ?_, fun h1 => ?_⟩
      · rw [List.all_cons, List.all_nil, Bool.and_true, isD_iff, hc]; omega
      · rw [decV_cons, decV_nil, hc]; omega
      · show ((UInt8.ofNat (48 + u)).toNat : Int) ≠ 48
        rw [hc]; omega
    · obtain ⟨a1, a2, a3, a4⟩ := ih (u / 10) (by omega)
      have hc := dig_c (show u % 10 < 10 by omega)
      rw [Lib.decDigits, dif_neg h]
      refine ⟨?_, by simp, ?_, fun _ => ?_⟩
      · rw [List.all_append, a1, List.all_cons, List.all_nil, Bool.and_true, Bool.true_and, isD_iff, hc]; omega
      · rw [decV_app, a3, hc]; omega
      · have := a4 (by omega)
        have h0 : 0 < (Lib.decDigits (u / 10)).length := List.length_pos_iff.2 a2
        rw [sidx, List.getD_eq_getElem?_getD] at this ⊢
        rw [List.getElem?_append_left (by simpa using h0)]
        exact this
theorem num_of_dig {n : Int} (h : u64In n) : numE (digZ n) = 0 ∧ numV (digZ n) = n := by
  obtain ⟨u, rfl⟩ := nat_of h.1
  have hu : u < 18446744073709551616 := u64_nat h.2
  obtain ⟨a1, a2, a3, a4⟩ := dec_is u
  have ho : numO (digZ (u : Int)) = true := by
    rw [digZ, Int.toNat_natCast, numO, a1]
    by_cases h0 : 1 ≤ u
    · simp [a2, a4 h0]
    · have : u = 0 := by omega
      subst this
      rw [Lib.decDigits_one (by decide)]; rfl
  have e : numE (digZ (u : Int)) = 0 := by
    rw [numE, if_pos ho, digZ, Int.toNat_natCast, a3, if_pos hu]
  refine ⟨e, ?_⟩
  rw [numV, if_pos e, digZ, Int.toNat_natCast, a3]
theorem dec_of : ∀ (n : Nat) (s : List UInt8), s.length = n → s.all isD = true → s ≠ [] → (sidx s 0 ≠ 48 ∨ s = [48]) → Lib.decDigits (decV 0 s) = s
  | 0, s, hl, _, h0, _ => absurd (List.eq_nil_of_length_eq_zero hl) h0
  | n + 1, s, hl, ha, h0, hz => by
    obtain ⟨t, c, rfl⟩ : ∃ t c, s = t ++ [c] := ⟨s.dropLast, s.getLast h0, (List.dropLast_concat_getLast h0).symm⟩
    rw [List.all_append, List.all_cons, List.all_nil, Bool.and_true, Bool.and_eq_true] at ha
    obtain ⟨ht, hc⟩ := ha
    rw [isD_iff] at hc
    rw [decV_app]
    have back : UInt8.ofNat (48 + (c.toNat - 48)) = c := by
      apply UInt8.toNat_inj.1
      rw [UInt8.toNat_ofNat']
      have := c.toNat_lt
      omega
    by_cases htn : t = []
    · subst htn
      rw [decV_nil, Nat.zero_mul, Nat.zero_add, Lib.decDigits_one (by omega), back]; rfl
    · have hlt : t.length = n := by simpa using hl
      obtain ⟨x, r, rfl⟩ := List.exists_cons_of_ne_nil htn
      have hx : sidx (x :: r) 0 ≠ 48 := by
        rcases hz with hz | hz
        · exact hz
        · have := congrArg List.length hz
          simp at this
      have h1 : 1 ≤ decV 0 (x :: r) := by
        rw [decV_cons]
        refine Nat.le_trans ?_ (decV_ge r _)
        rw [List.all_cons, Bool.and_eq_true, isD_iff] at ht
        have : x.toNat ≠ 48 := fun e => hx (by show ((x.toNat : Nat) : Int) = 48; omega)
        omega
      have ih := dec_of n (x :: r) hlt ht htn (.inl hx)
      generalize decV 0 (x :: r) = v at h1 ih ⊢
      rw [Lib.decDigits, dif_neg (by omega), show (v * 10 + (c.toNat - 48)) / 10 = v by omega, show (v * 10 + (c.toNat - 48)) % 10 = c.toNat - 48 by omega, ih, back]
theorem num_o {s : List UInt8} (h : numO s = true) : s.all isD = true ∧ s ≠ [] ∧ (sidx s 0 ≠ 48 ∨ s = [48]) := by
  simp only [numO, Bool.and_eq_true, Bool.not_eq_true', Bool.or_eq_true, beq_iff_eq, beq_eq_false_iff_ne, ne_eq] at h
  exact ⟨h.1.1, h.1.2, h.2⟩
theorem dig_of_num {s : List UInt8} (h : numE s = 0) : digZ (numV s) = s ∧ u64In (numV s) := by
  have ho : numO s = true := by
    cases hq : numO s with
    | true => rfl
    | false => rw [numE, hq, if_neg (by decide)] at h; exact absurd h (by decide)
  have hl : decV 0 s < 18446744073709551616 := by
    rw [numE, if_pos ho] at h
    split at h
    · assumption
    · exact absurd h (by decide)
  obtain ⟨h1, h2, h3⟩ := num_o ho
  rw [numV, if_pos h, digZ, Int.toNat_natCast, dec_of _ s rfl h1 h2 h3]
  exact ⟨rfl, by unfold u64In; omega⟩
theorem numV_in (s : List UInt8) : u64In (numV s) := by
  by_cases h : numE s = 0
  · exact (dig_of_num h).2
  · rw [numV, if_neg h]; exact ⟨by decide, by decide⟩
theorem dig_len {n : Int} (h : u64In n) : (digZ n).length ≤ 20 := by
  obtain ⟨u, rfl⟩ := nat_of h.1
  have hu : u < 18446744073709551616 := u64_nat h.2
  rw [digZ, Int.toNat_natCast, Lib.decDigits_length]
  by_cases h0 : u = 0
  · subst h0; rw [Lib.nDigits_small (by decide)]; decide
  · have := Lib.numDigits_eq u (by omega) hu
    split at this <;> omega
theorem small100 {s : List UInt8} (h : ilt 100 (slen s) = false) : upto 1000000 s := by
  rw [ilt_f, slen] at h
  show s.length ≤ 1000000
  omega
end Sy
end Go.Proofs.YtckbbcjbbmgmoaaDoor
