/- What the functions of package backoff compute. -/
import Derived.Test.YtgmafhogkdhadaaWord
import Derived.Test.YtgmafhogkdhadaaShelf
import Derived.BigQuiet
namespace Go.Proofs.Ytgmafhogkdhadaa
open Go.RowKit

theorem bitLen_spec : ∀ x : Nat, x < 18446744073709551616 → x ≠ 0 → ∃ k, Lib.bitLen x = k + 1 ∧ 2 ^ k ≤ x ∧ x < 2 ^ (k + 1) := by
  intro x
  induction x using Nat.strongRecOn with
  | _ x ih =>
    intro h h0
    rw [Lib.bitLen_half x h0 h]
    by_cases h1 : x / 2 = 0
    · have hx : x = 1 := by omega
      subst hx
      exact ⟨0, by decide, by decide, by decide⟩
    · obtain ⟨k, e, lo, hi⟩ := ih (x / 2) (by omega) (by omega) h1
      refine ⟨k + 1, by omega, ?_, ?_⟩
      · rw [Nat.pow_succ]; omega
      · rw [Nat.pow_succ]; omega

def waitV (b c : Nat) (t : Int) : Value := .agg #[.int .u64 b, .int .u64 c, .int .i64 t]
def delayL (b c : Nat) (t : Int) : Nat := min (b * 2 ^ (max t 0).toNat) c

set_option maxRecDepth 100000 in
set_option maxHeartbeats 800000 in
theorem delay_any (b c : Nat) (t : Int) (w : World) (hb : b < 18446744073709551616) (hc : c < 18446744073709551616) (ht0 : -9223372036854775808 ≤ t) (ht1 : t ≤ 9223372036854775807) :
    Calls Try.prog 34 #[waitV b c t] w fun e w' => e = .returned (.int .u64 (delayL b c t)) ∧ Below w.heap.size w w' := by
  unfold waitV
  obtain ⟨n, hn⟩ : ∃ n : Nat, (n : Int) = max t 0 := ⟨(max t 0).toNat, by omega⟩
  have hd : delayL b c t = min (b * 2 ^ n) c := by rw [delayL, ← hn]; rfl
  by_cases hb0 : b = 0
  · have e1 : ((b : Int) == 0) = true := by rw [beq_iff_eq]; omega
    have hz : delayL b c t = 0 := by rw [hd, hb0]; omega
    have Hz := Lib.hid hz
    clear hd hn hz hb0
    go_enter Try.func34, Try.ntmps34
    go_wp2_with fail
    all_goals go_ret
    all_goals exact ⟨by rw [Hz.out]; rfl, (Below.refl _ _).alloc (Nat.le_refl _) _⟩
  · by_cases hc0 : c = 0
    · have e1 : ((b : Int) == 0) = false := by rw [beq_eq_false_iff_ne]; omega
      have e2 : ((c : Int) == 0) = true := by rw [beq_iff_eq]; omega
      have hz : delayL b c t = 0 := by rw [hd, hc0]; omega
      have Hz := Lib.hid hz
      clear hd hn hz hb0 hc0
      go_enter Try.func34, Try.ntmps34
      go_wp2_with fail
      all_goals go_ret
      all_goals exact ⟨by rw [Hz.out]; rfl, (Below.refl _ _).alloc (Nat.le_refl _) _⟩
    · have e1 : ((b : Int) == 0) = false := by rw [beq_eq_false_iff_ne]; omega
      have e2 : ((c : Int) == 0) = false := by rw [beq_eq_false_iff_ne]; omega
      obtain ⟨k, hk, hlo, hhi⟩ := bitLen_spec b hb hb0
      have L1 := Lib.hid (fun (w : World) => Try.bits_LeadingZeros64 (b : Int) w (by omega) (by omega))
      rw [Int.toNat_natCast, hk] at L1
      have hk64 : k < 64 := by
        refine Decidable.byContradiction fun h => ?_
        have : 2 ^ 64 ≤ 2 ^ k := Nat.pow_le_pow_right (by decide) (by omega)
        omega
      have e3 : (64 : Int) - ((k + 1 : Nat) : Int) = ((63 - k : Nat) : Int) := by omega
      rw [e3] at L1
      obtain ⟨z, hz⟩ : ∃ z, z = 63 - k := ⟨_, rfl⟩
      rw [← hz] at L1
      have hz64 : z ≤ 63 := by omega
      have Hn := Lib.hid hn
      by_cases hbig : z + 1 ≤ n
      · have hres : delayL b c t = c := by
          rw [hd]
          have h1 : 2 ^ k * 2 ^ (64 - k) ≤ b * 2 ^ n := Nat.mul_le_mul hlo (Nat.pow_le_pow_right (by decide) (by omega))
          rw [← Nat.pow_add, show k + (64 - k) = 64 by omega] at h1
          omega
        have Hres := Lib.hid hres
        clear hn hd hk hlo hhi hz e3 hres
        go_enter Try.func34, Try.ntmps34
        go_upto_region 1 with (fail)
        go_cut [3] (fun v wx => v = .int .i64 n ∧ w.alloc (.cells #[.int .u64 b, .int .u64 c, .int .i64 t] 51) = wx)
        case first =>
          go_wp2
          all_goals (go_meet; exact ⟨by rw [Hn.out]; first | done | go_num, rfl⟩)
        case rest =>
          obtain ⟨rfl, rfl⟩ := hcut
          go_wp2_with fail
          refine (L1.out _).mono ?_
          rintro e w2 ⟨rfl, rfl⟩
          go_wp2_with fail
          go_ret
          exact ⟨ret_int (by rw [Hres.out]), (Below.refl _ _).alloc (Nat.le_refl _) _⟩
      · obtain ⟨p, hp⟩ : ∃ p, p = b * 2 ^ n := ⟨_, rfl⟩
        have hpl : p < 18446744073709551616 := by
          have h1 : b * 2 ^ n < 2 ^ (k + 1) * 2 ^ n := Nat.mul_lt_mul_of_pos_right hhi (Nat.pow_pos (by decide))
          have h2 : 2 ^ (k + 1) * 2 ^ n ≤ 2 ^ 64 := by rw [← Nat.pow_add]; exact Nat.pow_le_pow_right (by decide) (by omega)
          omega
        have e4 : IntKind.u64.wrap ((b : Int) * 2 ^ n) = (p : Int) := by
          have : ((b * 2 ^ n : Nat) : Int) = (b : Int) * 2 ^ n := by simp
          rw [← this, ← hp, IntKind.wrap_u64]; omega
        have e5 : min (n : Int) 64 = n := by omega
        have hn63 : n ≤ 63 := by omega
        have hres : delayL b c t = min p c := by rw [hd, hp]
        have Hres := Lib.hid hres
        clear hn hd hk hlo hhi hz e3 hres hp
        go_enter Try.func34, Try.ntmps34
        go_upto_region 1 with (fail)
        go_cut [3] (fun v wx => v = .int .i64 n ∧ w.alloc (.cells #[.int .u64 b, .int .u64 c, .int .i64 t] 51) = wx)
        case first =>
          go_wp2
          all_goals (go_meet; exact ⟨by rw [Hn.out]; first | done | go_num, rfl⟩)
        case rest =>
          obtain ⟨rfl, rfl⟩ := hcut
          go_wp2_with fail
          refine (L1.out _).mono ?_
          rintro e w2 ⟨rfl, rfl⟩
          go_wp2_with fail
          go_quiet (fail)
          go_wp2_with fail
          go_ret
          exact ⟨ret_int (by rw [Hres.out]; omega), below_drewN ((Below.refl _ _).alloc (Nat.le_refl _) _) _⟩

def nextT (t : Int) : Int := min (max t 0 + 1) 64

set_option maxRecDepth 100000 in
set_option maxHeartbeats 800000 in
theorem next_any (b c : Nat) (t : Int) (w : World) (ht0 : -9223372036854775808 ≤ t) (ht1 : t ≤ 64) :
    Calls Try.prog 35 #[waitV b c t] w fun e w' => e = .returned (waitV b c (nextT t)) ∧ Below w.heap.size w w' := by
  unfold waitV
  go_enter Try.func35, Try.ntmps35
  go_wp2_with fail
  refine bodyPost_ret (v := .agg #[.int .u64 b, .int .u64 c, .int .i64 (min (max t 0 + 1) 64)]) (by simp [results, Try.results35, go_sem]) rfl ⟨rfl, ?_⟩
  exact ((Below.refl _ _).alloc (Nat.le_refl _) _).alloc (by simp) _

set_option maxRecDepth 100000 in
set_option maxHeartbeats 800000 in
theorem reset_any (b c : Nat) (t : Int) (w : World) :
    Calls Try.prog 37 #[waitV b c t] w fun e w' => e = .returned (waitV b c 0) ∧ Below w.heap.size w w' := by
  unfold waitV
  go_enter Try.func37, Try.ntmps37
  go_wp2_with fail
  refine bodyPost_ret (v := .agg #[.int .u64 b, .int .u64 c, .int .i64 0]) (by simp [results, Try.results37, go_sem]) rfl ⟨rfl, ?_⟩
  exact ((Below.refl _ _).alloc (Nat.le_refl _) _).alloc (by simp) _

theorem delayL_lt (b c : Nat) (t : Int) (hc : c < 18446744073709551616) : delayL b c t < 18446744073709551616 := by unfold delayL; omega

set_option maxRecDepth 100000 in
set_option maxHeartbeats 800000 in
theorem jitter_any (b c : Nat) (t : Int) (y : Nat) (w : World) (hb : b < 18446744073709551616) (hc : c < 18446744073709551616) (hy : y < 18446744073709551616) (ht0 : -9223372036854775808 ≤ t) (ht1 : t ≤ 9223372036854775807) :
    Calls Try.prog 36 #[waitV b c t, .int .u64 y] w fun e w' => e = .returned (.int .u64 ((delayL b c t / 2 + y % (delayL b c t - delayL b c t / 2 + 1) : Nat) : Int)) ∧ Below w.heap.size w w' := by
  obtain ⟨d, hd⟩ : ∃ d, d = delayL b c t := ⟨_, rfl⟩
  have hdl := delayL_lt b c t hc
  have D1 := Lib.hid (fun w => delay_any b c t w hb hc ht0 ht1)
  rw [← hd] at hdl D1 ⊢
  have hm : y % (d - d / 2 + 1) ≤ d - d / 2 := by have := Nat.mod_lt y (show 0 < d - d / 2 + 1 by omega); omega
  obtain ⟨q, hq⟩ : ∃ q, q = y % (d - d / 2 + 1) := ⟨_, rfl⟩
  have eq : (y : Int) % ((d : Int) - (d : Int) / 2 + 1) = (q : Int) := by
    rw [hq, Int.natCast_emod]; congr 1; omega
  rw [← hq] at hm ⊢
  clear hd hq
  unfold waitV at *
  go_enter Try.func36, Try.ntmps36
  go_wp2_with fail
  refine (D1.out _).mono ?_
  rintro e w1 ⟨rfl, hb1⟩
  go_wp2
  go_ret
  exact ⟨ret_int (by omega), Below.trans ((Below.refl _ _).alloc (Nat.le_refl _) _) (hb1.mono (by simp))⟩

set_option maxRecDepth 100000 in
set_option maxHeartbeats 800000 in
theorem total_0 (b c : Nat) (t : Int) (w : World) :
    Calls Try.prog 38 #[waitV b c t, .int .i64 0] w fun e w' => e = .returned (.int .u64 0) ∧ Below w.heap.size w w' := by
  unfold waitV
  go_enter Try.func38, Try.ntmps38
  go_wp2
  go_step3
  go_wp2
  go_step3
  go_wp2
  rw [Exit.noGoto_ret]
  go_ret
  exact ⟨rfl, (Below.refl _ _).alloc (Nat.le_refl _) _⟩

set_option maxRecDepth 100000 in
set_option maxHeartbeats 800000 in
theorem total_1 (b c : Nat) (t : Int) (w : World) (hb : b < 18446744073709551616) (hc : c < 18446744073709551616) (ht0 : -9223372036854775808 ≤ t) (ht1 : t ≤ 64) :
    Calls Try.prog 38 #[waitV b c t, .int .i64 1] w fun e w' => e = .returned (.int .u64 (delayL b c t)) ∧ Below w.heap.size w w' := by
  obtain ⟨d, hd⟩ : ∃ d, d = delayL b c t := ⟨_, rfl⟩
  have hdl := delayL_lt b c t hc
  have D1 := Lib.hid (fun w => delay_any b c t w hb hc ht0 (by omega))
  rw [← hd] at hdl D1 ⊢
  have N1 := Lib.hid (fun w => next_any b c t w ht0 ht1)
  have A1 := Lib.hid (add_is 0 d d (by omega) hdl (by omega))
  clear hd
  unfold waitV at *
  go_enter Try.func38, Try.ntmps38
  go_wp2
  refine wp_scope_again 0 (fun a' w' => Below w.heap.size w w' ∧ ∃ (i : Nat) (x : Nat) (u : Value) (t' : Int), i ≤ 1 ∧ Hid (i = 0 → x = 0 ∧ t' = t) ∧ Hid (i = 1 → x = d) ∧ Blk w' w.heap.size 51 #[.int .u64 b, .int .u64 c, .int .i64 t'] ∧
      ∃ u0 u3 u4 u7 u8 u9 u10 u11 u12 u13 u14 u15 u16 u17 u18 u19 : Value, a' = ⟨#[u0, .int .i64 1, .pointer (some ⟨w.heap.size, 0, none⟩), u3, u4, .int .u64 x, .int .i64 i, u7, u8, u9, u10, u11, u12, u13, u14, u15, u16, u17, u18, u19], []⟩) (fun a' _ => 1 - (intOf (a'.tmps.getD 6 undef)).toNat) rfl ?_ ?_
  · rintro a' wr ⟨hbw, i, x, u, t', hi, h0, h1, hB, u0, u3, u4, u7, u8, u9, u10, u11, u12, u13, u14, u15, u16, u17, u18, u19, rfl⟩
    rcases i with _ | i
    · obtain ⟨rfl, rfl⟩ := h0.out rfl
      have c0 := hB.cell 0
      have c1 := hB.cell 1
      have c2 := hB.cell 2
      have f0 := hB.frozen 0
      have f1 := hB.frozen 1
      have f2 := hB.frozen 2
      go_wp2_with fail
      refine (D1.out _).mono ?_
      rintro e w2 ⟨rfl, hb2⟩
      have hB2 := hB.below hb2 hB.lt
      clear c0 c1 c2 f0 f1 f2
      have c0 := hB2.cell 0
      have c1 := hB2.cell 1
      have c2 := hB2.cell 2
      have f0 := hB2.frozen 0
      have f1 := hB2.frozen 1
      have f2 := hB2.frozen 2
      go_wp2_with fail
      refine (A1.out _).mono ?_
      rintro e w_ ⟨rfl, rfl⟩
      go_wp2_with fail
      refine (N1.out _).mono ?_
      rintro e w3 ⟨rfl, hb3⟩
      have hB3 := hB2.below hb3 hB2.lt
      clear c0 c1 c2 f0 f1 f2
      have c0 := hB3.cell 0
      have c1 := hB3.cell 1
      have c2 := hB3.cell 2
      have f0 := hB3.frozen 0
      have f1 := hB3.frozen 1
      have f2 := hB3.frozen 2
      have hB4 := ((hB3.set_ 0 (.int .u64 b)).set_ 1 (.int .u64 c)).set_ 2 (.int .i64 (nextT t'))
      have hb4 := ((((hbw.trans (hb2.mono hbw.size)).trans (hb3.mono (Nat.le_trans hbw.size hb2.size))).setCell (p := ⟨w.heap.size, 0, none⟩) (Nat.le_refl _) (.int .u64 b)).setCell (p := ⟨w.heap.size, 1, none⟩) (Nat.le_refl _) (.int .u64 c)).setCell (p := ⟨w.heap.size, 2, none⟩) (Nat.le_refl _) (.int .i64 (nextT t'))
      have HB := Lib.hid hB4
      have Hb := Lib.hid hb4
      clear hB hB2 hB3 hB4 hbw hb2 hb3 hb4
      go_wp2
      go_step3
      exact ⟨rfl, ⟨Hb.out, 1, d, undef, nextT t', by omega, Lib.hid fun h => by omega, Lib.hid fun _ => rfl, HB.out, _, _, _, _, _, _, _, _, _, _, _, _, _, _, _, _, rfl⟩, by simp [intOf]⟩
    · obtain rfl : i = 0 := by omega
      obtain rfl := h1.out rfl
      go_wp2
      go_ret
      exact ⟨rfl, hbw⟩
  · intro hP
    go_wp2
    go_step3
    simp only [Exit.then]
    apply_assumption
    exact hP.out _ _ ⟨(Below.refl _ _).alloc (Nat.le_refl _) _, 0, 0, undef, t, by omega, Lib.hid fun _ => ⟨rfl, rfl⟩, Lib.hid fun h => by omega, Blk.new _ _ _, _, _, _, _, _, _, _, _, _, _, _, _, _, _, _, _, rfl⟩


theorem delay_is (b c : Nat) (t : Int) (r : Nat) (hb : b < 18446744073709551616) (hc : c < 18446744073709551616) (ht0 : -9223372036854775808 ≤ t) (ht1 : t ≤ 9223372036854775807) (hr : r = delayL b c t) (w : World) :
    Calls Try.prog 34 #[.agg #[.int .u64 b, .int .u64 c, .int .i64 t]] w fun e w' => e = .returned (.int .u64 r) ∧ Below w.heap.size w w' := by rw [hr]; exact delay_any b c t w hb hc ht0 ht1
theorem next_is (b c : Nat) (t r : Int) (ht0 : -9223372036854775808 ≤ t) (ht1 : t ≤ 64) (hr : r = nextT t) (w : World) :
    Calls Try.prog 35 #[.agg #[.int .u64 b, .int .u64 c, .int .i64 t]] w fun e w' => e = .returned (.agg #[.int .u64 b, .int .u64 c, .int .i64 r]) ∧ Below w.heap.size w w' := by rw [hr]; exact next_any b c t w ht0 ht1

end Go.Proofs.Ytgmafhogkdhadaa
