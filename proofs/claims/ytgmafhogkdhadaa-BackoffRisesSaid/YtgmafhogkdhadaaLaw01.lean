/- The laws of chapter 1: the walks. -/
import Derived.Test.YtgmafhogkdhadaaWord
namespace Go.Proofs.Ytgmafhogkdhadaa
open Go.RowKit

set_option maxRecDepth 100000 in
set_option maxHeartbeats 400000 in
theorem awake01 (w : World) : Calls Try.prog 16 #[] w fun e w' => e = .returned (.bool true) ∧ Below w.heap.size w w' := by
  have H1 := Lib.hid (short_is 300 [172, 2] (by omega) (by rw [shortL_big (by decide), shortL_small (by decide)]; rfl))
  have H2 := Lib.hid (put_is 258 2 [1, 2] (by omega) (by decide +kernel))
  go_enter Try.func16, Try.ntmps16
  go_wp2_with fail
  refine (H1.out _).mono ?_
  rintro e w1 ⟨rfl, hb1⟩
  go_wp2_with fail
  refine (H2.out _).mono ?_
  rintro e w2 ⟨rfl, hb2⟩
  go_wp2
  go_ret
  exact ⟨rfl, below_trans hb1 hb2⟩

set_option maxRecDepth 100000 in
set_option maxHeartbeats 400000 in
theorem law_sums (a b c : Nat) (w : World) (ha : a < 18446744073709551616) (hb : b < 18446744073709551616) (hc : c < 18446744073709551616) :
    Calls Try.prog 4 #[.int .u64 a, .int .u64 b, .int .u64 c] w fun e w' => e = .returned (.bool true) ∧ Below w.heap.size w w' := by
  obtain ⟨s, hs⟩ : ∃ s, s = min (a + b) 18446744073709551615 := ⟨_, rfl⟩
  obtain ⟨t, ht⟩ : ∃ t, t = min (s + c) 18446744073709551615 := ⟨_, rfl⟩
  obtain ⟨u, hu⟩ : ∃ u, u = min (b + c) 18446744073709551615 := ⟨_, rfl⟩
  have A1 := Lib.hid (add_is a b s ha hb (by omega))
  have A2 := Lib.hid (add_is b a s hb ha (by omega))
  have A3 := Lib.hid (add_is s c t (by omega) hc (by omega))
  have A4 := Lib.hid (add_is b c u hb hc (by omega))
  have A5 := Lib.hid (add_is a u t ha (by omega) (by omega))
  have S2 := Lib.hid (sub_is a a 0 ha ha (by omega))
  have S3 := Lib.hid (sub_is a 0 a ha (by omega) (by omega))
  have hsa : a ≤ s := by omega
  have hsb : b ≤ s := by omega
  have hsm : s < 18446744073709551616 := by omega
  by_cases h : a + b < 18446744073709551616
  · have S1 := Lib.hid (sub_is s b a (by omega) hb (by omega))
    clear hs ht hu
    go_enter Try.func4, Try.ntmps4
    go_wp2_with fail
    refine (awake01 w).mono ?_
    rintro e w1 ⟨rfl, hb1⟩
    go_wp2_with fail
    refine (A1.out _).mono ?_
    rintro e w' ⟨rfl, rfl⟩
    go_wp2_with fail
    refine (A2.out _).mono ?_
    rintro e w' ⟨rfl, rfl⟩
    go_wp2_with fail
    refine (A3.out _).mono ?_
    rintro e w' ⟨rfl, rfl⟩
    go_wp2_with fail
    refine (A4.out _).mono ?_
    rintro e w' ⟨rfl, rfl⟩
    go_wp2_with fail
    refine (A5.out _).mono ?_
    rintro e w' ⟨rfl, rfl⟩
    go_wp2_with fail
    refine (S1.out _).mono ?_
    rintro e w' ⟨rfl, rfl⟩
    go_wp2_with fail
    refine (S2.out _).mono ?_
    rintro e w' ⟨rfl, rfl⟩
    go_wp2_with fail
    refine (S3.out _).mono ?_
    rintro e w' ⟨rfl, rfl⟩
    go_wp2
    go_ret
    exact ⟨rfl, hb1⟩
  · clear hs ht hu
    go_enter Try.func4, Try.ntmps4
    go_wp2_with fail
    refine (awake01 w).mono ?_
    rintro e w1 ⟨rfl, hb1⟩
    go_wp2_with fail
    refine (A1.out _).mono ?_
    rintro e w' ⟨rfl, rfl⟩
    go_wp2_with fail
    refine (A2.out _).mono ?_
    rintro e w' ⟨rfl, rfl⟩
    go_wp2_with fail
    refine (A3.out _).mono ?_
    rintro e w' ⟨rfl, rfl⟩
    go_wp2_with fail
    refine (A4.out _).mono ?_
    rintro e w' ⟨rfl, rfl⟩
    go_wp2_with fail
    refine (A5.out _).mono ?_
    rintro e w' ⟨rfl, rfl⟩
    have hlt : IntKind.u64.wrap ((a : Int) + b) < a := by rw [IntKind.wrap_u64]; omega
    go_wp2_with fail
    refine (S2.out _).mono ?_
    rintro e w' ⟨rfl, rfl⟩
    go_wp2_with fail
    refine (S3.out _).mono ?_
    rintro e w' ⟨rfl, rfl⟩
    go_wp2
    go_ret
    exact ⟨rfl, hb1⟩


/-! ### WordOrder -/
theorem less_putL (n m c : Nat) : Op.bytesLess (putL n c) (putL m c) = decide (n % 256 ^ c < m % 256 ^ c) := by
  induction c with
  | zero => simp [putL, Op.bytesLess, Nat.mod_one]
  | succ c ih =>
    simp only [putL, Op.bytesLess, ih]
    have hq : 0 < 256 ^ c := Nat.pow_pos (by decide)
    rw [Nat.pow_succ, Nat.mod_mul, Nat.mod_mul]
    have hr := Nat.mod_lt n hq
    have hs := Nat.mod_lt m hq
    have hlt : (UInt8.ofNat (n / 256 ^ c) < UInt8.ofNat (m / 256 ^ c)) ↔ n / 256 ^ c % 256 < m / 256 ^ c % 256 := by
      rw [UInt8.lt_iff_toNat_lt, UInt8.toNat_ofNat', UInt8.toNat_ofNat']
    have heq : (UInt8.ofNat (n / 256 ^ c) = UInt8.ofNat (m / 256 ^ c)) ↔ n / 256 ^ c % 256 = m / 256 ^ c % 256 := by
      rw [← UInt8.toNat_inj, UInt8.toNat_ofNat', UInt8.toNat_ofNat']
    generalize n / 256 ^ c % 256 = x at *
    generalize m / 256 ^ c % 256 = y at *
    generalize n % 256 ^ c = r at *
    generalize m % 256 ^ c = t at *
    generalize 256 ^ c = Q at *
    have mono : ∀ x y : Nat, x < y → Q * x + Q ≤ Q * y := fun x y h => by
      rw [← Nat.mul_succ]; exact Nat.mul_le_mul_left _ h
    rcases Nat.lt_trichotomy x y with h | h | h
    · have := mono x y h
      simp [hlt, h]; omega
    · simp [hlt, heq, h]
    · have := mono y x h
      have h1 : ¬ x < y := by omega
      have h2 : ¬ x = y := by omega
      rw [decide_eq_false (show ¬ r + Q * x < t + Q * y by omega)]
      simp [hlt, heq, h1, h2]

theorem short_le : ∀ b a : Nat, a ≤ b → (shortL a).length ≤ (shortL b).length := by
  intro b
  induction b using Nat.strongRecOn with
  | _ b ih =>
    intro a h
    by_cases ha : a < 128
    · rw [shortL_small ha]
      by_cases hb : b < 128
      · rw [shortL_small hb]; simp
      · rw [shortL_big (by omega)]; simp
    · rw [shortL_big (n := a) (by omega), shortL_big (n := b) (by omega)]
      have := ih (b / 128) (by omega) (a / 128) (by omega)
      simpa using this
theorem short_ne (a : Nat) : shortL a ≠ [] := by
  by_cases ha : a < 128
  · rw [shortL_small ha]; simp
  · rw [shortL_big (by omega)]; simp
theorem short_inj : ∀ a b : Nat, shortL a = shortL b → a = b := by
  intro a
  induction a using Nat.strongRecOn with
  | _ a ih =>
    intro b h
    by_cases ha : a < 128
    · by_cases hb : b < 128
      · rw [shortL_small ha, shortL_small hb] at h
        simp only [List.cons.injEq, and_true] at h
        have := congrArg UInt8.toNat h
        rw [UInt8.toNat_ofNat', UInt8.toNat_ofNat'] at this
        omega
      · rw [shortL_small ha, shortL_big (by omega)] at h
        simp only [List.cons.injEq] at h
        exact absurd h.2.symm (short_ne _)
    · by_cases hb : b < 128
      · rw [shortL_small hb, shortL_big (by omega)] at h
        simp only [List.cons.injEq] at h
        exact absurd h.2 (short_ne _)
      · rw [shortL_big (n := a) (by omega), shortL_big (n := b) (by omega)] at h
        simp only [List.cons.injEq] at h
        have h1 := ih (a / 128) (by omega) (b / 128) h.2
        have := congrArg UInt8.toNat h.1
        rw [UInt8.toNat_ofNat', UInt8.toNat_ofNat'] at this
        omega

set_option maxRecDepth 100000 in
set_option maxHeartbeats 400000 in
theorem law_order (a b : Nat) (w : World) (ha : a < 18446744073709551616) (hb : b < 18446744073709551616) :
    Calls Try.prog 3 #[.int .u64 a, .int .u64 b] w fun e w' => e = .returned (.bool true) ∧ Below w.heap.size w w' := by
  obtain ⟨pa, hpa⟩ : ∃ pa, pa = putL a (cl8 8) := ⟨_, rfl⟩
  obtain ⟨pb, hpb⟩ : ∃ pb, pb = putL b (cl8 8) := ⟨_, rfl⟩
  obtain ⟨sa, hsa⟩ : ∃ sa, sa = shortL a := ⟨_, rfl⟩
  obtain ⟨sb, hsb⟩ : ∃ sb, sb = shortL b := ⟨_, rfl⟩
  obtain ⟨s, hs⟩ : ∃ s, s = min (a + b) 18446744073709551615 := ⟨_, rfl⟩
  have P1 := Lib.hid (put_is a 8 pa ha hpa)
  have P2 := Lib.hid (put_is b 8 pb hb hpb)
  have S1 := Lib.hid (short_is a sa ha hsa)
  have S2 := Lib.hid (short_is b sb hb hsb)
  have A1 := Lib.hid (add_is a b s ha hb hs)
  obtain ⟨d, hd⟩ : ∃ d, d = s - b := ⟨_, rfl⟩
  have A2 := Lib.hid (sub_is s b d (by omega) hb hd)
  have hless : Op.bytesLess pa pb = decide (a < b) := by
    rw [hpa, hpb, less_putL]
    have h8 : cl8 8 = 8 := by decide
    rw [h8, Nat.mod_eq_of_lt (Nat.lt_of_lt_of_le ha (by decide)), Nat.mod_eq_of_lt (Nat.lt_of_lt_of_le hb (by decide))]
  have hlen : a ≤ b → sa.length ≤ sb.length := by rw [hsa, hsb]; exact short_le b a
  have hinj : (sa == sb) = ((a : Int) == (b : Int)) := by
    rw [hsa, hsb, Bool.eq_iff_iff]
    simp only [beq_iff_eq]
    exact ⟨fun h => by rw [short_inj a b h], fun h => by rw [Int.ofNat_inj.1 h]⟩
  have hle : d ≤ a := by omega
  clear hpa hpb hsa hsb hs hd
  by_cases hab : a ≤ b
  · have hlen := hlen hab
    go_enter Try.func3, Try.ntmps3
    go_wp2_with fail
    refine (awake01 w).mono ?_
    rintro e w1 ⟨rfl, hb1⟩
    go_wp2_with fail
    refine (P1.out _).mono ?_
    rintro e w2 ⟨rfl, hb2⟩
    go_wp2_with fail
    refine (P2.out _).mono ?_
    rintro e w3 ⟨rfl, hb3⟩
    go_wp2_with fail
    refine (S1.out _).mono ?_
    rintro e w4 ⟨rfl, hb4⟩
    go_wp2_with fail
    refine (S2.out _).mono ?_
    rintro e w5 ⟨rfl, hb5⟩
    go_wp2_with fail
    refine (S1.out _).mono ?_
    rintro e w6 ⟨rfl, hb6⟩
    go_wp2_with fail
    refine (S2.out _).mono ?_
    rintro e w7 ⟨rfl, hb7⟩
    go_wp2_with fail
    refine (A1.out _).mono ?_
    rintro e w' ⟨rfl, rfl⟩
    go_wp2_with fail
    refine (A2.out _).mono ?_
    rintro e w' ⟨rfl, rfl⟩
    go_wp2
    go_ret
    exact ⟨rfl, (((((below_trans hb1 hb2).trans' hb3).trans' hb4).trans' hb5).trans' hb6).trans' hb7⟩
  · clear hlen
    go_enter Try.func3, Try.ntmps3
    go_wp2_with fail
    refine (awake01 w).mono ?_
    rintro e w1 ⟨rfl, hb1⟩
    go_wp2_with fail
    refine (P1.out _).mono ?_
    rintro e w2 ⟨rfl, hb2⟩
    go_wp2_with fail
    refine (P2.out _).mono ?_
    rintro e w3 ⟨rfl, hb3⟩
    go_wp2_with fail
    refine (S1.out _).mono ?_
    rintro e w6 ⟨rfl, hb6⟩
    go_wp2_with fail
    refine (S2.out _).mono ?_
    rintro e w7 ⟨rfl, hb7⟩
    go_wp2_with fail
    refine (A1.out _).mono ?_
    rintro e w' ⟨rfl, rfl⟩
    go_wp2_with fail
    refine (A2.out _).mono ?_
    rintro e w' ⟨rfl, rfl⟩
    go_wp2
    go_ret
    exact ⟨rfl, (((below_trans hb1 hb2).trans' hb3).trans' hb6).trans' hb7⟩


/-! ### WordBytes -/

set_option maxRecDepth 100000 in
set_option maxHeartbeats 800000 in
theorem bytes_e (n m : Nat) (k : Int) (w : World) (hn : n < 18446744073709551616) (hm : m < 18446744073709551616) (hk0 : -9223372036854775808 ≤ k) (hk1 : k ≤ 9223372036854775807) :
    Calls Try.prog 5 #[.int .u64 n, .int .u64 m, .int .i64 k, .string ⟨#[]⟩] w fun e w' => e = .returned (.bool true) ∧ Below w.heap.size w w' := by
  obtain ⟨p, hp⟩ : ∃ p, p = putL n (cl8 k) := ⟨_, rfl⟩
  have P1 := Lib.hid (put_is n k p hn hp)
  have P2 := Lib.hid (fun w => rput_any n k w hn hk0 hk1)
  rw [← hp] at P2
  have G1 := Lib.hid get_empty
  obtain ⟨s, hs⟩ : ∃ s, s = min (n + m) 18446744073709551615 := ⟨_, rfl⟩
  obtain ⟨d, hd⟩ : ∃ d, d = n - m := ⟨_, rfl⟩
  have A1 := Lib.hid (add_is n m s hn hm hs)
  have S1 := Lib.hid (sub_is n m d hn hm hd)
  clear hp
  by_cases h1 : n + m < 18446744073709551616 <;> by_cases h2 : m ≤ n
  · have e1 : ((s : Int) == (n : Int) + m) = true := by rw [beq_iff_eq]; omega
    have e2 : ((d : Int) == (n : Int) - m) = true := by rw [beq_iff_eq]; omega
    clear hs hd
    go_enter Try.func5, Try.ntmps5
    go_wp2_with fail
    refine (awake01 w).mono ?_
    rintro e w1 ⟨rfl, hb1⟩
    go_wp2_with fail
    refine (G1.out _).mono ?_
    rintro e w' ⟨rfl, rfl⟩
    go_wp2_with fail
    refine (P1.out _).mono ?_
    rintro e w2 ⟨rfl, hb2⟩
    go_wp2_with fail
    refine (P2.out _).mono ?_
    rintro e w3 ⟨rfl, hb3⟩
    go_wp2_with fail
    refine (A1.out _).mono ?_
    rintro e w' ⟨rfl, rfl⟩
    go_wp2_with fail
    refine (S1.out _).mono ?_
    rintro e w' ⟨rfl, rfl⟩
    go_wp2
    go_ret
    exact ⟨rfl, (hb1.trans' hb2).trans' hb3⟩
  · have e1 : ((s : Int) == (n : Int) + m) = true := by rw [beq_iff_eq]; omega
    have e2 : ((d : Int) == 0) = true := by rw [beq_iff_eq]; omega
    clear hs hd
    go_enter Try.func5, Try.ntmps5
    go_wp2_with fail
    refine (awake01 w).mono ?_
    rintro e w1 ⟨rfl, hb1⟩
    go_wp2_with fail
    refine (G1.out _).mono ?_
    rintro e w' ⟨rfl, rfl⟩
    go_wp2_with fail
    refine (P1.out _).mono ?_
    rintro e w2 ⟨rfl, hb2⟩
    go_wp2_with fail
    refine (P2.out _).mono ?_
    rintro e w3 ⟨rfl, hb3⟩
    go_wp2_with fail
    refine (A1.out _).mono ?_
    rintro e w' ⟨rfl, rfl⟩
    go_wp2_with fail
    refine (S1.out _).mono ?_
    rintro e w' ⟨rfl, rfl⟩
    go_wp2
    go_ret
    exact ⟨rfl, (hb1.trans' hb2).trans' hb3⟩
  · have e1 : ((s : Int) == 18446744073709551615) = true := by rw [beq_iff_eq]; omega
    have e2 : ((d : Int) == (n : Int) - m) = true := by rw [beq_iff_eq]; omega
    have e3 : IntKind.u64.wrap ((n : Int) + m) < n := by rw [IntKind.wrap_u64]; omega
    clear hs hd
    go_enter Try.func5, Try.ntmps5
    go_wp2_with fail
    refine (awake01 w).mono ?_
    rintro e w1 ⟨rfl, hb1⟩
    go_wp2_with fail
    refine (G1.out _).mono ?_
    rintro e w' ⟨rfl, rfl⟩
    go_wp2_with fail
    refine (P1.out _).mono ?_
    rintro e w2 ⟨rfl, hb2⟩
    go_wp2_with fail
    refine (P2.out _).mono ?_
    rintro e w3 ⟨rfl, hb3⟩
    go_wp2_with fail
    refine (A1.out _).mono ?_
    rintro e w' ⟨rfl, rfl⟩
    go_wp2_with fail
    refine (S1.out _).mono ?_
    rintro e w' ⟨rfl, rfl⟩
    go_wp2
    go_ret
    exact ⟨rfl, (hb1.trans' hb2).trans' hb3⟩
  · have e1 : ((s : Int) == 18446744073709551615) = true := by rw [beq_iff_eq]; omega
    have e2 : ((d : Int) == 0) = true := by rw [beq_iff_eq]; omega
    have e3 : IntKind.u64.wrap ((n : Int) + m) < n := by rw [IntKind.wrap_u64]; omega
    clear hs hd
    go_enter Try.func5, Try.ntmps5
    go_wp2_with fail
    refine (awake01 w).mono ?_
    rintro e w1 ⟨rfl, hb1⟩
    go_wp2_with fail
    refine (G1.out _).mono ?_
    rintro e w' ⟨rfl, rfl⟩
    go_wp2_with fail
    refine (P1.out _).mono ?_
    rintro e w2 ⟨rfl, hb2⟩
    go_wp2_with fail
    refine (P2.out _).mono ?_
    rintro e w3 ⟨rfl, hb3⟩
    go_wp2_with fail
    refine (A1.out _).mono ?_
    rintro e w' ⟨rfl, rfl⟩
    go_wp2_with fail
    refine (S1.out _).mono ?_
    rintro e w' ⟨rfl, rfl⟩
    go_wp2
    go_ret
    exact ⟨rfl, (hb1.trans' hb2).trans' hb3⟩

set_option maxRecDepth 100000 in
set_option maxHeartbeats 800000 in
theorem bytes_l (n m : Nat) (k : Int) (l : List UInt8) (w : World) (hn : n < 18446744073709551616) (hm : m < 18446744073709551616) (hk0 : -9223372036854775808 ≤ k) (hk1 : k ≤ 9223372036854775807) (hl8 : 8 < l.length) (hl : l.length ≤ 100) :
    Calls Try.prog 5 #[.int .u64 n, .int .u64 m, .int .i64 k, .string ⟨l.toArray⟩] w fun e w' => e = .returned (.bool true) ∧ Below w.heap.size w w' := by
  obtain ⟨p, hp⟩ : ∃ p, p = putL n (cl8 k) := ⟨_, rfl⟩
  have P1 := Lib.hid (put_is n k p hn hp)
  have P2 := Lib.hid (fun w => rput_any n k w hn hk0 hk1)
  rw [← hp] at P2
  have hne : (l == []) = false := by cases l <;> simp_all
  have hne' : l ≠ [] := by intro h; simp [h] at hl8
  have G1 := Lib.hid (fun w => get_long l w hl8 (by omega))
  obtain ⟨s, hs⟩ : ∃ s, s = min (n + m) 18446744073709551615 := ⟨_, rfl⟩
  obtain ⟨d, hd⟩ : ∃ d, d = n - m := ⟨_, rfl⟩
  have A1 := Lib.hid (add_is n m s hn hm hs)
  have S1 := Lib.hid (sub_is n m d hn hm hd)
  clear hp
  by_cases h1 : n + m < 18446744073709551616 <;> by_cases h2 : m ≤ n
  · have e1 : ((s : Int) == (n : Int) + m) = true := by rw [beq_iff_eq]; omega
    have e2 : ((d : Int) == (n : Int) - m) = true := by rw [beq_iff_eq]; omega
    clear hs hd
    go_enter Try.func5, Try.ntmps5
    go_wp2_with fail
    refine (awake01 w).mono ?_
    rintro e w1 ⟨rfl, hb1⟩
    go_wp2_with fail
    refine (G1.out _).mono ?_
    rintro e w' ⟨rfl, rfl⟩
    go_wp2_with fail
    refine (P1.out _).mono ?_
    rintro e w2 ⟨rfl, hb2⟩
    go_wp2_with fail
    refine (P2.out _).mono ?_
    rintro e w3 ⟨rfl, hb3⟩
    go_wp2_with fail
    refine (A1.out _).mono ?_
    rintro e w' ⟨rfl, rfl⟩
    go_wp2_with fail
    refine (S1.out _).mono ?_
    rintro e w' ⟨rfl, rfl⟩
    go_wp2
    go_ret
    exact ⟨rfl, (hb1.trans' hb2).trans' hb3⟩
  · have e1 : ((s : Int) == (n : Int) + m) = true := by rw [beq_iff_eq]; omega
    have e2 : ((d : Int) == 0) = true := by rw [beq_iff_eq]; omega
    clear hs hd
    go_enter Try.func5, Try.ntmps5
    go_wp2_with fail
    refine (awake01 w).mono ?_
    rintro e w1 ⟨rfl, hb1⟩
    go_wp2_with fail
    refine (G1.out _).mono ?_
    rintro e w' ⟨rfl, rfl⟩
    go_wp2_with fail
    refine (P1.out _).mono ?_
    rintro e w2 ⟨rfl, hb2⟩
    go_wp2_with fail
    refine (P2.out _).mono ?_
    rintro e w3 ⟨rfl, hb3⟩
    go_wp2_with fail
    refine (A1.out _).mono ?_
    rintro e w' ⟨rfl, rfl⟩
    go_wp2_with fail
    refine (S1.out _).mono ?_
    rintro e w' ⟨rfl, rfl⟩
    go_wp2
    go_ret
    exact ⟨rfl, (hb1.trans' hb2).trans' hb3⟩
  · have e1 : ((s : Int) == 18446744073709551615) = true := by rw [beq_iff_eq]; omega
    have e2 : ((d : Int) == (n : Int) - m) = true := by rw [beq_iff_eq]; omega
    have e3 : IntKind.u64.wrap ((n : Int) + m) < n := by rw [IntKind.wrap_u64]; omega
    clear hs hd
    go_enter Try.func5, Try.ntmps5
    go_wp2_with fail
    refine (awake01 w).mono ?_
    rintro e w1 ⟨rfl, hb1⟩
    go_wp2_with fail
    refine (G1.out _).mono ?_
    rintro e w' ⟨rfl, rfl⟩
    go_wp2_with fail
    refine (P1.out _).mono ?_
    rintro e w2 ⟨rfl, hb2⟩
    go_wp2_with fail
    refine (P2.out _).mono ?_
    rintro e w3 ⟨rfl, hb3⟩
    go_wp2_with fail
    refine (A1.out _).mono ?_
    rintro e w' ⟨rfl, rfl⟩
    go_wp2_with fail
    refine (S1.out _).mono ?_
    rintro e w' ⟨rfl, rfl⟩
    go_wp2
    go_ret
    exact ⟨rfl, (hb1.trans' hb2).trans' hb3⟩
  · have e1 : ((s : Int) == 18446744073709551615) = true := by rw [beq_iff_eq]; omega
    have e2 : ((d : Int) == 0) = true := by rw [beq_iff_eq]; omega
    have e3 : IntKind.u64.wrap ((n : Int) + m) < n := by rw [IntKind.wrap_u64]; omega
    clear hs hd
    go_enter Try.func5, Try.ntmps5
    go_wp2_with fail
    refine (awake01 w).mono ?_
    rintro e w1 ⟨rfl, hb1⟩
    go_wp2_with fail
    refine (G1.out _).mono ?_
    rintro e w' ⟨rfl, rfl⟩
    go_wp2_with fail
    refine (P1.out _).mono ?_
    rintro e w2 ⟨rfl, hb2⟩
    go_wp2_with fail
    refine (P2.out _).mono ?_
    rintro e w3 ⟨rfl, hb3⟩
    go_wp2_with fail
    refine (A1.out _).mono ?_
    rintro e w' ⟨rfl, rfl⟩
    go_wp2_with fail
    refine (S1.out _).mono ?_
    rintro e w' ⟨rfl, rfl⟩
    go_wp2
    go_ret
    exact ⟨rfl, (hb1.trans' hb2).trans' hb3⟩

set_option maxRecDepth 100000 in
set_option maxHeartbeats 800000 in
theorem bytes_m (n m : Nat) (k : Int) (l : List UInt8) (w : World) (hn : n < 18446744073709551616) (hm : m < 18446744073709551616) (hk0 : -9223372036854775808 ≤ k) (hk1 : k ≤ 9223372036854775807) (hl1 : 1 ≤ l.length) (hl8 : l.length ≤ 8) :
    Calls Try.prog 5 #[.int .u64 n, .int .u64 m, .int .i64 k, .string ⟨l.toArray⟩] w fun e w' => e = .returned (.bool true) ∧ Below w.heap.size w w' := by
  obtain ⟨p, hp⟩ : ∃ p, p = putL n (cl8 k) := ⟨_, rfl⟩
  have P1 := Lib.hid (put_is n k p hn hp)
  have P2 := Lib.hid (fun w => rput_any n k w hn hk0 hk1)
  rw [← hp] at P2
  have hne : (l == []) = false := by cases l <;> simp_all
  have hne' : l ≠ [] := by intro h; simp [h] at hl1
  have G1 := Lib.hid (fun w => get_any l w hl1 hl8)
  have R1 := Lib.hid (fun w => rget_any l w hl8)
  obtain ⟨g, hg⟩ : ∃ g, g = getL l := ⟨_, rfl⟩
  rw [← hg] at G1 R1
  clear hg
  obtain ⟨s, hs⟩ : ∃ s, s = min (n + m) 18446744073709551615 := ⟨_, rfl⟩
  obtain ⟨d, hd⟩ : ∃ d, d = n - m := ⟨_, rfl⟩
  have A1 := Lib.hid (add_is n m s hn hm hs)
  have S1 := Lib.hid (sub_is n m d hn hm hd)
  clear hp
  by_cases h1 : n + m < 18446744073709551616 <;> by_cases h2 : m ≤ n
  · have e1 : ((s : Int) == (n : Int) + m) = true := by rw [beq_iff_eq]; omega
    have e2 : ((d : Int) == (n : Int) - m) = true := by rw [beq_iff_eq]; omega
    clear hs hd
    go_enter Try.func5, Try.ntmps5
    go_wp2_with fail
    refine (awake01 w).mono ?_
    rintro e w1 ⟨rfl, hb1⟩
    go_wp2_with fail
    refine (G1.out _).mono ?_
    rintro e w' ⟨rfl, rfl⟩
    go_wp2_with fail
    refine (R1.out _).mono ?_
    rintro e w' ⟨rfl, rfl⟩
    go_wp2_with fail
    refine (P1.out _).mono ?_
    rintro e w2 ⟨rfl, hb2⟩
    go_wp2_with fail
    refine (P2.out _).mono ?_
    rintro e w3 ⟨rfl, hb3⟩
    go_wp2_with fail
    refine (A1.out _).mono ?_
    rintro e w' ⟨rfl, rfl⟩
    go_wp2_with fail
    refine (S1.out _).mono ?_
    rintro e w' ⟨rfl, rfl⟩
    go_wp2
    go_ret
    exact ⟨rfl, (hb1.trans' hb2).trans' hb3⟩
  · have e1 : ((s : Int) == (n : Int) + m) = true := by rw [beq_iff_eq]; omega
    have e2 : ((d : Int) == 0) = true := by rw [beq_iff_eq]; omega
    clear hs hd
    go_enter Try.func5, Try.ntmps5
    go_wp2_with fail
    refine (awake01 w).mono ?_
    rintro e w1 ⟨rfl, hb1⟩
    go_wp2_with fail
    refine (G1.out _).mono ?_
    rintro e w' ⟨rfl, rfl⟩
    go_wp2_with fail
    refine (R1.out _).mono ?_
    rintro e w' ⟨rfl, rfl⟩
    go_wp2_with fail
    refine (P1.out _).mono ?_
    rintro e w2 ⟨rfl, hb2⟩
    go_wp2_with fail
    refine (P2.out _).mono ?_
    rintro e w3 ⟨rfl, hb3⟩
    go_wp2_with fail
    refine (A1.out _).mono ?_
    rintro e w' ⟨rfl, rfl⟩
    go_wp2_with fail
    refine (S1.out _).mono ?_
    rintro e w' ⟨rfl, rfl⟩
    go_wp2
    go_ret
    exact ⟨rfl, (hb1.trans' hb2).trans' hb3⟩
  · have e1 : ((s : Int) == 18446744073709551615) = true := by rw [beq_iff_eq]; omega
    have e2 : ((d : Int) == (n : Int) - m) = true := by rw [beq_iff_eq]; omega
    have e3 : IntKind.u64.wrap ((n : Int) + m) < n := by rw [IntKind.wrap_u64]; omega
    clear hs hd
    go_enter Try.func5, Try.ntmps5
    go_wp2_with fail
    refine (awake01 w).mono ?_
    rintro e w1 ⟨rfl, hb1⟩
    go_wp2_with fail
    refine (G1.out _).mono ?_
    rintro e w' ⟨rfl, rfl⟩
    go_wp2_with fail
    refine (R1.out _).mono ?_
    rintro e w' ⟨rfl, rfl⟩
    go_wp2_with fail
    refine (P1.out _).mono ?_
    rintro e w2 ⟨rfl, hb2⟩
    go_wp2_with fail
    refine (P2.out _).mono ?_
    rintro e w3 ⟨rfl, hb3⟩
    go_wp2_with fail
    refine (A1.out _).mono ?_
    rintro e w' ⟨rfl, rfl⟩
    go_wp2_with fail
    refine (S1.out _).mono ?_
    rintro e w' ⟨rfl, rfl⟩
    go_wp2
    go_ret
    exact ⟨rfl, (hb1.trans' hb2).trans' hb3⟩
  · have e1 : ((s : Int) == 18446744073709551615) = true := by rw [beq_iff_eq]; omega
    have e2 : ((d : Int) == 0) = true := by rw [beq_iff_eq]; omega
    have e3 : IntKind.u64.wrap ((n : Int) + m) < n := by rw [IntKind.wrap_u64]; omega
    clear hs hd
    go_enter Try.func5, Try.ntmps5
    go_wp2_with fail
    refine (awake01 w).mono ?_
    rintro e w1 ⟨rfl, hb1⟩
    go_wp2_with fail
    refine (G1.out _).mono ?_
    rintro e w' ⟨rfl, rfl⟩
    go_wp2_with fail
    refine (R1.out _).mono ?_
    rintro e w' ⟨rfl, rfl⟩
    go_wp2_with fail
    refine (P1.out _).mono ?_
    rintro e w2 ⟨rfl, hb2⟩
    go_wp2_with fail
    refine (P2.out _).mono ?_
    rintro e w3 ⟨rfl, hb3⟩
    go_wp2_with fail
    refine (A1.out _).mono ?_
    rintro e w' ⟨rfl, rfl⟩
    go_wp2_with fail
    refine (S1.out _).mono ?_
    rintro e w' ⟨rfl, rfl⟩
    go_wp2
    go_ret
    exact ⟨rfl, (hb1.trans' hb2).trans' hb3⟩

set_option maxRecDepth 100000 in
set_option maxHeartbeats 400000 in
theorem law_bytes (n m : Nat) (k : Int) (l : List UInt8) (w : World) (hn : n < 18446744073709551616) (hm : m < 18446744073709551616) (hk0 : -9223372036854775808 ≤ k) (hk1 : k ≤ 9223372036854775807) (hl : l.length ≤ 9223372036854775807) :
    Calls Try.prog 5 #[.int .u64 n, .int .u64 m, .int .i64 k, .string ⟨l.toArray⟩] w fun e w' => e = .returned (.bool true) ∧ Below w.heap.size w w' := by
  by_cases h100 : l.length ≤ 100
  · by_cases h0 : 1 ≤ l.length
    · by_cases h8 : l.length ≤ 8
      · exact bytes_m n m k l w hn hm hk0 hk1 h0 h8
      · exact bytes_l n m k l w hn hm hk0 hk1 (by omega) h100
    · have : l = [] := by cases l <;> simp_all
      subst this
      exact bytes_e n m k w hn hm hk0 hk1
  · go_enter Try.func5, Try.ntmps5
    go_wp2_with fail
    refine (awake01 w).mono ?_
    rintro e w1 ⟨rfl, hb1⟩
    go_wp2_with fail
    go_ret
    exact ⟨rfl, hb1⟩

end Go.Proofs.Ytgmafhogkdhadaa
