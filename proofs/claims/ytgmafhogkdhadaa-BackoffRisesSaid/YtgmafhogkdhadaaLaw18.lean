/- The law of chapter 18: the walk. -/
import Derived.Test.YtgmafhogkdhadaaLaw01
import Derived.Test.YtgmafhogkdhadaaBackoff
import Derived.Test.YtgmafhogkdhadaaExt
namespace Go.Proofs.Ytgmafhogkdhadaa
open Go.RowKit

set_option maxRecDepth 100000 in
set_option maxHeartbeats 400000 in
theorem awake01'' (w : World) : Calls Try.prog 47 #[] w fun e w' => e = .returned (.bool true) ∧ Below w.heap.size w w' := by
  go_enter Try.func47, Try.ntmps47
  go_wp2_with fail
  refine (awake01 w).mono ?_
  rintro e w1 ⟨rfl, hb1⟩
  go_wp2
  go_ret
  exact ⟨rfl, hb1⟩

set_option maxRecDepth 100000 in
set_option maxHeartbeats 800000 in
theorem awake18 (w : World) : Calls Try.prog 33 #[] w fun e w' => e = .returned (.bool true) ∧ Below w.heap.size w w' := by
  have D0 := Lib.hid (delay_is 3 20 0 3 (by omega) (by omega) (by omega) (by omega) (by decide))
  have D2 := Lib.hid (delay_is 3 20 2 12 (by omega) (by omega) (by omega) (by omega) (by decide))
  have D3 := Lib.hid (delay_is 3 20 3 20 (by omega) (by omega) (by omega) (by omega) (by decide))
  have N0 := Lib.hid (next_is 3 20 0 1 (by omega) (by omega) (by decide))
  have N1 := Lib.hid (next_is 3 20 1 2 (by omega) (by omega) (by decide))
  have N2 := Lib.hid (next_is 3 20 2 3 (by omega) (by omega) (by decide))
  go_enter Try.func33, Try.ntmps33
  go_wp2_with fail
  refine (awake01'' _).mono ?_
  rintro e w1 ⟨rfl, hb1⟩
  have hB := (Blk.new w 51 #[.int .u64 3, .int .u64 20, .int .i64 0]).below hb1 (by simp)
  have hbb := Below.trans ((Below.refl _ _).alloc (Nat.le_refl _) (.cells #[.int .u64 3, .int .u64 20, .int .i64 0] 51)) (hb1.mono (by simp))
  clear hb1
  have c0 := hB.cell 0
  have c1 := hB.cell 1
  have c2 := hB.cell 2
  go_wp2_with fail
  refine (D0.out _).mono ?_
  rintro e w2 ⟨rfl, hb2⟩
  replace hB := hB.below hb2 hB.lt
  replace hbb := hbb.trans' hb2
  clear c0 c1 c2 hb2
  have c0 := hB.cell 0
  have c1 := hB.cell 1
  have c2 := hB.cell 2
  go_wp2_with fail
  refine (N0.out _).mono ?_
  rintro e w2 ⟨rfl, hb2⟩
  replace hB := hB.below hb2 hB.lt
  replace hbb := hbb.trans' hb2
  clear c0 c1 c2 hb2
  have c0 := hB.cell 0
  have c1 := hB.cell 1
  have c2 := hB.cell 2
  go_wp2_with fail
  refine (N1.out _).mono ?_
  rintro e w2 ⟨rfl, hb2⟩
  replace hB := hB.below hb2 hB.lt
  replace hbb := hbb.trans' hb2
  clear c0 c1 c2 hb2
  have c0 := hB.cell 0
  have c1 := hB.cell 1
  have c2 := hB.cell 2
  go_wp2_with fail
  refine (D2.out _).mono ?_
  rintro e w2 ⟨rfl, hb2⟩
  replace hB := hB.below hb2 hB.lt
  replace hbb := hbb.trans' hb2
  clear c0 c1 c2 hb2
  have c0 := hB.cell 0
  have c1 := hB.cell 1
  have c2 := hB.cell 2
  go_wp2_with fail
  refine (N0.out _).mono ?_
  rintro e w2 ⟨rfl, hb2⟩
  replace hB := hB.below hb2 hB.lt
  replace hbb := hbb.trans' hb2
  clear c0 c1 c2 hb2
  have c0 := hB.cell 0
  have c1 := hB.cell 1
  have c2 := hB.cell 2
  go_wp2_with fail
  refine (N1.out _).mono ?_
  rintro e w2 ⟨rfl, hb2⟩
  replace hB := hB.below hb2 hB.lt
  replace hbb := hbb.trans' hb2
  clear c0 c1 c2 hb2
  have c0 := hB.cell 0
  have c1 := hB.cell 1
  have c2 := hB.cell 2
  go_wp2_with fail
  refine (N2.out _).mono ?_
  rintro e w2 ⟨rfl, hb2⟩
  replace hB := hB.below hb2 hB.lt
  replace hbb := hbb.trans' hb2
  clear c0 c1 c2 hb2
  have c0 := hB.cell 0
  have c1 := hB.cell 1
  have c2 := hB.cell 2
  go_wp2_with fail
  refine (D3.out _).mono ?_
  rintro e w2 ⟨rfl, hb2⟩
  replace hB := hB.below hb2 hB.lt
  replace hbb := hbb.trans' hb2
  clear c0 c1 c2 hb2
  have c0 := hB.cell 0
  have c1 := hB.cell 1
  have c2 := hB.cell 2
  go_wp2
  go_ret
  exact ⟨rfl, hbb⟩


set_option maxRecDepth 100000 in
set_option maxHeartbeats 1600000 in
theorem rises_in (b c : Nat) (t : Int) (y : Nat) (w : World) (hb : b < 18446744073709551616) (hc : c < 18446744073709551616) (ht0 : -9223372036854775808 ≤ t) (ht1 : t ≤ 64) (hy : y < 18446744073709551616) :
    Calls Try.prog 11 #[.agg #[.int .u64 b, .int .u64 c, .int .i64 t], .int .u64 y] w fun e w' => e = .returned (.bool true) ∧ Below w.heap.size w w' := by
  obtain ⟨d, hd⟩ : ∃ d, d = delayL b c t := ⟨_, rfl⟩
  obtain ⟨u, hu⟩ : ∃ u, u = nextT t := ⟨_, rfl⟩
  obtain ⟨d2, hd2⟩ : ∃ d, d = delayL b c u := ⟨_, rfl⟩
  obtain ⟨d0, hd0⟩ : ∃ d, d = delayL b c 0 := ⟨_, rfl⟩
  obtain ⟨j, hj⟩ : ∃ j, j = d / 2 + y % (d - d / 2 + 1) := ⟨_, rfl⟩
  have hu64 : u ≤ 64 ∧ 0 ≤ u := by rw [hu]; unfold nextT; omega
  have D1 := Lib.hid (delay_is b c t d hb hc ht0 (by omega) hd)
  have D2 := Lib.hid (delay_is b c u d2 hb hc (by omega) (by omega) hd2)
  have D0 := Lib.hid (delay_is b c 0 d0 hb hc (by omega) (by omega) hd0)
  have N1 := Lib.hid (next_is b c t u ht0 ht1 hu)
  have R1 := Lib.hid (fun w => reset_any b c t w)
  have T1 := Lib.hid (fun w => total_1 b c t w hb hc ht0 ht1)
  have T0 := Lib.hid (fun w => total_0 b c t w)
  have J1 := Lib.hid (fun w => jitter_any b c t y w hb hc hy ht0 (by omega))
  unfold waitV at R1 T1 T0 J1
  rw [← hd] at T1 J1
  rw [← hj] at J1
  have hdd : d ≤ d2 := by
    rw [hd, hd2, hu]; unfold delayL nextT
    have h1 : (max t 0).toNat ≤ (max (min (max t 0 + 1) 64) 0).toNat := by omega
    have h2 : b * 2 ^ (max t 0).toNat ≤ b * 2 ^ (max (min (max t 0 + 1) 64) 0).toNat := Nat.mul_le_mul_left _ (Nat.pow_le_pow_right (by decide) h1)
    omega
  have hdc : d2 ≤ c := by rw [hd2]; unfold delayL; omega
  have hj1 : d / 2 ≤ j ∧ j ≤ d := by
    have := Nat.mod_lt y (show 0 < d - d / 2 + 1 by omega)
    rw [hj]; omega
  obtain ⟨hj1, hj2⟩ := hj1
  have hb0 : b ≤ c → ((d0 : Int) == (b : Int)) = true := fun h => by
    rw [beq_iff_eq, hd0]
    have : delayL b c 0 = b := by unfold delayL; simp; omega
    omega
  clear hd hu hd2 hd0 hj hu64
  go_enter Try.func11, Try.ntmps11
  go_wp2_with fail
  refine (awake18 _).mono ?_
  rintro e W ⟨rfl, hb1⟩
  have hB := (Blk.new w 51 #[.int .u64 b, .int .u64 c, .int .i64 t]).below hb1 (by simp)
  have hbb := Below.trans ((Below.refl _ _).alloc (Nat.le_refl _) (.cells #[.int .u64 b, .int .u64 c, .int .i64 t] 51)) (hb1.mono (by simp))
  have hlt := hB.lt
  clear hb1
  have c0 := hB.cell 0
  have c1 := hB.cell 1
  have c2 := hB.cell 2
  go_wp2_with fail
  refine wp_region_ext (by kernel_rfl) (by kernel_rfl) ?_
  repeat (go_big_quiet_step ((first | (with_reducible exact ext_call (D1.out _)) | (with_reducible exact ext_call (D2.out _)) | (with_reducible exact ext_call (N1.out _)))))
  refine wpQuiet_nil (ext_all fun wx hbx => ?_)
  replace hB := hB.below hbx hlt
  replace hbb := hbb.trans' hbx
  replace hlt := hB.lt
  clear c0 c1 c2 hbx
  have c0 := hB.cell 0
  have c1 := hB.cell 1
  have c2 := hB.cell 2
  go_wp2_with fail
  refine (J1.out _).mono ?_
  rintro e w2 ⟨rfl, hb2⟩
  replace hB := hB.below hb2 hB.lt
  replace hbb := hbb.trans' hb2
  clear c0 c1 c2 hb2
  have c0 := hB.cell 0
  have c1 := hB.cell 1
  have c2 := hB.cell 2
  replace hlt := hB.lt
  have hj3 : (d : Int) / 2 ≤ (j : Int) := by omega
  by_cases hbc : b ≤ c
  · have e0 := hb0 hbc
    have e1 : decide (c < b) = false := decide_eq_false (by omega)
    clear hb0
    go_wp2_with fail
    refine wp_region_ext (by kernel_rfl) (by kernel_rfl) ?_
    repeat (go_big_quiet_step ((first | (with_reducible exact ext_call (D0.out _)) | (with_reducible exact ext_call (R1.out _)) | (with_reducible exact ext_call (T1.out _)) | (with_reducible exact ext_call (T0.out _)))))
    refine wpQuiet_nil (ext_all fun wx hbx => ?_)
    go_wp2_with fail
    go_ret
    exact ⟨rfl, hbb.trans' hbx⟩
  · have e1 : decide (c < b) = true := decide_eq_true (by omega)
    clear hb0
    go_wp2_with fail
    refine wp_region_ext (by kernel_rfl) (by kernel_rfl) ?_
    repeat (go_big_quiet_step ((first | (with_reducible exact ext_call (D0.out _)) | (with_reducible exact ext_call (R1.out _)) | (with_reducible exact ext_call (T1.out _)) | (with_reducible exact ext_call (T0.out _)))))
    refine wpQuiet_nil (ext_all fun wx hbx => ?_)
    go_wp2_with fail
    go_ret
    exact ⟨rfl, hbb.trans' hbx⟩

set_option maxRecDepth 100000 in
set_option maxHeartbeats 800000 in
theorem law_rises (b c : Nat) (t : Int) (y : Nat) (w : World) (hb : b < 18446744073709551616) (hc : c < 18446744073709551616) (ht0 : -9223372036854775808 ≤ t) (_ht1 : t ≤ 9223372036854775807) (hy : y < 18446744073709551616) :
    Calls Try.prog 11 #[.agg #[.int .u64 b, .int .u64 c, .int .i64 t], .int .u64 y] w fun e w' => e = .returned (.bool true) ∧ Below w.heap.size w w' := by
  by_cases h : t ≤ 64
  · exact rises_in b c t y w hb hc ht0 h hy
  · go_enter Try.func11, Try.ntmps11
    go_wp2_with fail
    refine (awake18 _).mono ?_
    rintro e W ⟨rfl, hb1⟩
    have hB := (Blk.new w 51 #[.int .u64 b, .int .u64 c, .int .i64 t]).below hb1 (by simp)
    have hbb := Below.trans ((Below.refl _ _).alloc (Nat.le_refl _) (.cells #[.int .u64 b, .int .u64 c, .int .i64 t] 51)) (hb1.mono (by simp))
    clear hb1
    have c0 := hB.cell 0
    have c1 := hB.cell 1
    have c2 := hB.cell 2
    go_wp2_with fail
    go_ret
    exact ⟨rfl, hbb⟩

end Go.Proofs.Ytgmafhogkdhadaa
