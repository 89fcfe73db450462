/- The laws of chapter 2: the walks. -/
import Derived.Test.YtgmafhogkdhadaaLaw01
import Derived.Test.YtgmafhogkdhadaaCrc
namespace Go.Proofs.Ytgmafhogkdhadaa
open Go.RowKit

set_option maxRecDepth 100000 in
set_option maxHeartbeats 400000 in
theorem awake01' (w : World) : Calls Try.prog 47 #[] w fun e w' => e = .returned (.bool true) ∧ Below w.heap.size w w' := by
  go_enter Try.func47, Try.ntmps47
  go_wp2_with fail
  refine (awake01 w).mono ?_
  rintro e w1 ⟨rfl, hb1⟩
  go_wp2
  go_ret
  exact ⟨rfl, hb1⟩

set_option maxRecDepth 100000 in
set_option maxHeartbeats 400000 in
theorem awake02 (w : World) : Calls Try.prog 24 #[] w fun e w' => e = .returned (.bool true) ∧ Below w.heap.size w w' := by
  have C1 := Lib.hid (crc_lit [[49, 50, 51, 52, 53], [54, 55, 56, 57]] #[.string ⟨#[49, 50, 51, 52, 53]⟩, .string ⟨#[54, 55, 56, 57]⟩] rfl 2 rfl (by simp) (by simp) 3808858755 (by decide +kernel))
  go_enter Try.func24, Try.ntmps24
  go_wp2_with fail
  refine (awake01' w).mono ?_
  rintro e w1 ⟨rfl, hb1⟩
  go_wp2_with fail
  refine (C1.out _ _ (by simp)).mono ?_
  rintro e w' ⟨rfl, rfl⟩
  go_wp2
  go_ret
  exact ⟨rfl, hb1.alloc hb1.size _⟩

theorem step_law (x : Nat) (h : x < 4294967296) : bits .xor .u32 ((x : Int) / 2) (2197175160 * ((x : Int) % 2)) = ((step1 x : Nat) : Int) := by
  unfold step1
  by_cases hodd : x % 2 = 1
  · rw [if_pos hodd]
    exact xor_u32_lit _ _ (by omega) (by omega) _ _ (by omega) (by omega)
  · rw [if_neg hodd]
    have := xor_u32_lit (x / 2) 0 (by omega) (by omega) ((x : Int) / 2) (2197175160 * ((x : Int) % 2)) (by omega) (by omega)
    rw [this, Nat.xor_zero]

set_option maxRecDepth 100000 in
set_option maxHeartbeats 800000 in
theorem law_sumsums (s t : List UInt8) (n c : Nat) (w : World) (hs : s.length ≤ 140737488351232) (ht : t.length ≤ 140737488351232) (hn : n < 4294967296) (hc : c < 256) :
    Calls Try.prog 6 #[.string ⟨s.toArray⟩, .string ⟨t.toArray⟩, .int .u32 n, .int .u8 c] w fun e w' => e = .returned (.bool true) ∧ Below w.heap.size w w' := by
  by_cases hlen : s.length + t.length ≤ 2000
  · obtain ⟨b, hb⟩ : ∃ b : UInt8, (c : Int) = b.toNat := ⟨UInt8.ofNat c, by rw [ofNat_toNat]; omega⟩
    rw [hb]
    clear hb hc
    obtain ⟨x0, hx0⟩ : ∃ x, x = n ^^^ b.toNat := ⟨_, rfl⟩
    have hq := xor_byte_u32 n b hn
    have hxl := xor_byte_lt b hn
    rw [← hx0] at hq hxl
    have Hx0 := Lib.hid hx0
    clear hx0
    obtain ⟨r, hr⟩ : ∃ r, r = crcL (s ++ t) := ⟨_, rfl⟩
    obtain ⟨q, hqq⟩ : ∃ q, q = quickL (s ++ t) := ⟨_, rfl⟩
    obtain ⟨z, hz⟩ : ∃ z, z = stepB n b := ⟨_, rfl⟩
    have C1 := Lib.hid (crc_lit [s, [], t] #[.string ⟨s.toArray⟩, .string ⟨#[]⟩, .string ⟨t.toArray⟩] rfl 3 rfl (by simp) (by simp; omega) r (by simp [hr]))
    have C2 := Lib.hid (fun w => rcrc_any (s ++ t) w (by simp; omega))
    have Q1 := Lib.hid (quick_lit [s, t] #[.string ⟨s.toArray⟩, .string ⟨t.toArray⟩] rfl 2 rfl (by simp) (by simp; omega) q (by simp [hqq]))
    have Q2 := Lib.hid (fun w => rquick_any (s ++ t) w (by simp; omega))
    have S1 := Lib.hid (fun w => step_any n b w hn)
    rw [← hr] at C2
    rw [← hqq] at Q2
    rw [← hz] at S1
    have Hz := Lib.hid hz
    clear hr hqq hz
    go_enter Try.func6, Try.ntmps6
    go_wp2_with fail
    refine (awake02 w).mono ?_
    rintro e w1 ⟨rfl, hb1⟩
    go_wp2_with fail
    go_loop [9, 22] (fun n i => ∃ k x : Nat, k ≤ 8 ∧ x < 4294967296 ∧ Hid (x = stepN k x0) ∧ i = .int .i64 k ∧ n = .int .u32 x) (fun _ i => 8 - (intOf i).toNat)
    case atStart => exact ⟨0, x0, by omega, hxl, Lib.hid rfl, rfl, rfl⟩
    case round =>
      obtain ⟨k, x, hk, hx, hX, rfl, rfl⟩ := hrel
      by_cases hlt : k < 8
      · have h1 := and1_u32 x hx
        have h2 := step_law x hx
        have h3 := step1_lt hx
        obtain ⟨y, hy⟩ : ∃ y, y = step1 x := ⟨_, rfl⟩
        rw [← hy] at h2 h3
        have Hy : Hid (y = stepN (k + 1) x0) := Lib.hid (by rw [stepN_succ, ← hX.out, hy])
        clear hy
        go_wp2_with fail
        go_round
        case rel => exact ⟨k + 1, y, by omega, h3, Hy, by go_num, by go_num⟩
        case measure => simp [intOf] <;> omega
      · have hxz : x = z := by rw [Hz.out, stepB, ← Hx0.out, hX.out]; congr 1; omega
        subst hxz
        go_wp2_with fail
        refine (C1.out _ _ (by simp)).mono ?_
        rintro e w' ⟨rfl, rfl⟩
        go_wp2_with fail
        refine (C2.out _).mono ?_
        rintro e w' ⟨rfl, rfl⟩
        go_wp2_with fail
        refine (Q1.out _ _ (by simp)).mono ?_
        rintro e w' ⟨rfl, rfl⟩
        go_wp2_with fail
        refine (Q2.out _).mono ?_
        rintro e w' ⟨rfl, rfl⟩
        go_wp2_with fail
        refine (S1.out _).mono ?_
        rintro e w' ⟨rfl, rfl⟩
        go_wp2
        go_ret
        exact ⟨rfl, (hb1.alloc hb1.size _).alloc (Nat.le_trans hb1.size (by simp)) _⟩
  · go_enter Try.func6, Try.ntmps6
    go_wp2_with fail
    refine (awake02 w).mono ?_
    rintro e w1 ⟨rfl, hb1⟩
    go_wp2_with fail
    all_goals go_ret
    all_goals exact ⟨rfl, hb1⟩


/-! ### SumMarks -/
set_option maxRecDepth 100000 in
set_option maxHeartbeats 800000 in
theorem marks_short (s t : List UInt8) (w : World) (hs : s.length ≤ 2000) (ht : t.length < 4) :
    Calls Try.prog 8 #[.string ⟨s.toArray⟩, .string ⟨t.toArray⟩] w fun e w' => e = .returned (.bool true) ∧ Below w.heap.size w w' := by
  obtain ⟨m, hm⟩ : ∃ m, m = markL s := ⟨_, rfl⟩
  have M1 := Lib.hid (fun w => mark_any s w (by omega))
  have R1 := Lib.hid (fun w => rmark_any s w (by omega))
  have K1 := Lib.hid (fun w => check_ok s w (by omega))
  rw [← hm] at M1 R1 K1
  clear hm
  have K2 := Lib.hid (fun w => check_short t w ht)
  by_cases hst : s.length < t.length
  · go_enter Try.func8, Try.ntmps8
    go_wp2_with fail
    refine (awake02 w).mono ?_
    rintro e w1 ⟨rfl, hb1⟩
    go_wp2_with fail
    refine (M1.out _).mono ?_
    rintro e w2 ⟨rfl, hb2⟩
    go_wp2_with fail
    refine (K1.out _).mono ?_
    rintro e w3 ⟨rfl, hb3⟩
    go_wp2_with fail
    refine (K2.out _).mono ?_
    rintro e w' ⟨rfl, rfl⟩
    go_wp2_with fail
    refine (R1.out _).mono ?_
    rintro e w5 ⟨rfl, hb5⟩
    go_wp2
    go_ret
    exact ⟨rfl, ((hb1.trans' hb2).trans' hb3).trans' hb5⟩
  · go_enter Try.func8, Try.ntmps8
    go_wp2_with fail
    refine (awake02 w).mono ?_
    rintro e w1 ⟨rfl, hb1⟩
    go_wp2_with fail
    refine (M1.out _).mono ?_
    rintro e w2 ⟨rfl, hb2⟩
    go_wp2_with fail
    refine (K1.out _).mono ?_
    rintro e w3 ⟨rfl, hb3⟩
    go_wp2_with fail
    refine (K2.out _).mono ?_
    rintro e w' ⟨rfl, rfl⟩
    go_wp2_with fail
    refine (R1.out _).mono ?_
    rintro e w5 ⟨rfl, hb5⟩
    go_wp2
    go_ret
    exact ⟨rfl, ((hb1.trans' hb2).trans' hb3).trans' hb5⟩

set_option maxRecDepth 100000 in
set_option maxHeartbeats 800000 in
theorem marks_ok (s t u : List UInt8) (w : World) (hs : s.length ≤ 2000) (ht : t.length ≤ 2000) (hu : t = markL u) :
    Calls Try.prog 8 #[.string ⟨s.toArray⟩, .string ⟨t.toArray⟩] w fun e w' => e = .returned (.bool true) ∧ Below w.heap.size w w' := by
  obtain ⟨m, hm⟩ : ∃ m, m = markL s := ⟨_, rfl⟩
  have M1 := Lib.hid (fun w => mark_any s w (by omega))
  have R1 := Lib.hid (fun w => rmark_any s w (by omega))
  have K1 := Lib.hid (fun w => check_ok s w (by omega))
  rw [← hm] at M1 R1 K1
  clear hm
  have hul := markL_length u
  rw [← hu] at hul
  have K2 := Lib.hid (fun w => check_ok u w (by omega))
  have R2 := Lib.hid (fun w => rmark_any u w (by omega))
  rw [← hu] at K2 R2
  obtain ⟨k, hk⟩ : ∃ k, k = t.length - 4 := ⟨_, rfl⟩
  have ht' : t.take k = u := by rw [hk, hu, markL_length]; simp [markL]
  have hl4 : ((t.length : Int) - 4) = k := by omega
  have h4 : 4 ≤ t.length := by omega
  clear hu hul hk
  by_cases hst : s.length < t.length
  · go_enter Try.func8, Try.ntmps8
    go_wp2_with fail
    refine (awake02 w).mono ?_
    rintro e w1 ⟨rfl, hb1⟩
    go_wp2_with fail
    refine (M1.out _).mono ?_
    rintro e w2 ⟨rfl, hb2⟩
    go_wp2_with fail
    refine (K1.out _).mono ?_
    rintro e w3 ⟨rfl, hb3⟩
    go_wp2_with fail
    refine (K2.out _).mono ?_
    rintro e w4 ⟨rfl, hb4⟩
    go_wp2_with fail
    refine (R1.out _).mono ?_
    rintro e w5 ⟨rfl, hb5⟩
    go_wp2_with fail
    refine (R2.out _).mono ?_
    rintro e w6 ⟨rfl, hb6⟩
    go_wp2
    go_ret
    exact ⟨rfl, ((((hb1.trans' hb2).trans' hb3).trans' hb4).trans' hb5).trans' hb6⟩
  · go_enter Try.func8, Try.ntmps8
    go_wp2_with fail
    refine (awake02 w).mono ?_
    rintro e w1 ⟨rfl, hb1⟩
    go_wp2_with fail
    refine (M1.out _).mono ?_
    rintro e w2 ⟨rfl, hb2⟩
    go_wp2_with fail
    refine (K1.out _).mono ?_
    rintro e w3 ⟨rfl, hb3⟩
    go_wp2_with fail
    refine (K2.out _).mono ?_
    rintro e w4 ⟨rfl, hb4⟩
    go_wp2_with fail
    refine (R1.out _).mono ?_
    rintro e w5 ⟨rfl, hb5⟩
    go_wp2_with fail
    refine (R2.out _).mono ?_
    rintro e w6 ⟨rfl, hb6⟩
    go_wp2
    go_ret
    exact ⟨rfl, ((((hb1.trans' hb2).trans' hb3).trans' hb4).trans' hb5).trans' hb6⟩

set_option maxRecDepth 100000 in
set_option maxHeartbeats 800000 in
theorem marks_bad (s t u : List UInt8) (w : World) (hs : s.length ≤ 2000) (ht : t.length ≤ 2000) (h4 : 4 ≤ t.length) (hu : u = t.take (t.length - 4)) (hne : markL u ≠ t) :
    Calls Try.prog 8 #[.string ⟨s.toArray⟩, .string ⟨t.toArray⟩] w fun e w' => e = .returned (.bool true) ∧ Below w.heap.size w w' := by
  obtain ⟨m, hm⟩ : ∃ m, m = markL s := ⟨_, rfl⟩
  have M1 := Lib.hid (fun w => mark_any s w (by omega))
  have R1 := Lib.hid (fun w => rmark_any s w (by omega))
  have K1 := Lib.hid (fun w => check_ok s w (by omega))
  rw [← hm] at M1 R1 K1
  clear hm
  have hul : u.length ≤ 2000 := by rw [hu, List.length_take]; omega
  have K2 := Lib.hid (fun w => check_bad t u w (by omega) h4 hu hne)
  have R2 := Lib.hid (fun w => rmark_any u w (by omega))
  obtain ⟨n, hn⟩ : ∃ n, n = markL u := ⟨_, rfl⟩
  rw [← hn] at R2 hne
  have hb : (n == t) = false := by rw [beq_eq_false_iff_ne]; exact hne
  obtain ⟨k, hk⟩ : ∃ k, k = t.length - 4 := ⟨_, rfl⟩
  have ht' : t.take k = u := by rw [hk, hu]
  have hl4 : ((t.length : Int) - 4) = k := by omega
  clear hu hul hk hn
  by_cases hst : s.length < t.length
  · go_enter Try.func8, Try.ntmps8
    go_wp2_with fail
    refine (awake02 w).mono ?_
    rintro e w1 ⟨rfl, hb1⟩
    go_wp2_with fail
    refine (M1.out _).mono ?_
    rintro e w2 ⟨rfl, hb2⟩
    go_wp2_with fail
    refine (K1.out _).mono ?_
    rintro e w3 ⟨rfl, hb3⟩
    go_wp2_with fail
    refine (K2.out _).mono ?_
    rintro e w4 ⟨rfl, hb4⟩
    go_wp2_with fail
    refine (R1.out _).mono ?_
    rintro e w5 ⟨rfl, hb5⟩
    go_wp2_with fail
    refine (R2.out _).mono ?_
    rintro e w6 ⟨rfl, hb6⟩
    go_wp2
    go_ret
    exact ⟨rfl, ((((hb1.trans' hb2).trans' hb3).trans' hb4).trans' hb5).trans' hb6⟩
  · go_enter Try.func8, Try.ntmps8
    go_wp2_with fail
    refine (awake02 w).mono ?_
    rintro e w1 ⟨rfl, hb1⟩
    go_wp2_with fail
    refine (M1.out _).mono ?_
    rintro e w2 ⟨rfl, hb2⟩
    go_wp2_with fail
    refine (K1.out _).mono ?_
    rintro e w3 ⟨rfl, hb3⟩
    go_wp2_with fail
    refine (K2.out _).mono ?_
    rintro e w4 ⟨rfl, hb4⟩
    go_wp2_with fail
    refine (R1.out _).mono ?_
    rintro e w5 ⟨rfl, hb5⟩
    go_wp2_with fail
    refine (R2.out _).mono ?_
    rintro e w6 ⟨rfl, hb6⟩
    go_wp2
    go_ret
    exact ⟨rfl, ((((hb1.trans' hb2).trans' hb3).trans' hb4).trans' hb5).trans' hb6⟩

set_option maxRecDepth 100000 in
set_option maxHeartbeats 800000 in
theorem law_marks (s t : List UInt8) (w : World) (hs : s.length ≤ 140737488351232) (ht : t.length ≤ 140737488351232) :
    Calls Try.prog 8 #[.string ⟨s.toArray⟩, .string ⟨t.toArray⟩] w fun e w' => e = .returned (.bool true) ∧ Below w.heap.size w w' := by
  by_cases h1 : s.length ≤ 2000
  · by_cases h2 : t.length ≤ 2000
    · by_cases h3 : t.length < 4
      · exact marks_short s t w h1 h3
      · by_cases h4 : markL (t.take (t.length - 4)) = t
        · exact marks_ok s t _ w h1 h2 h4.symm
        · exact marks_bad s t _ w h1 h2 (by omega) rfl h4
    · have hst : s.length < t.length := by omega
      go_enter Try.func8, Try.ntmps8
      go_wp2_with fail
      refine (awake02 w).mono ?_
      rintro e w1 ⟨rfl, hb1⟩
      go_wp2
      go_ret
      exact ⟨rfl, hb1⟩
  · by_cases hst : s.length < t.length
    · go_enter Try.func8, Try.ntmps8
      go_wp2_with fail
      refine (awake02 w).mono ?_
      rintro e w1 ⟨rfl, hb1⟩
      go_wp2
      go_ret
      exact ⟨rfl, hb1⟩
    · go_enter Try.func8, Try.ntmps8
      go_wp2_with fail
      refine (awake02 w).mono ?_
      rintro e w1 ⟨rfl, hb1⟩
      go_wp2
      go_ret
      exact ⟨rfl, hb1⟩

/-! ### SumRuns -/
set_option maxRecDepth 100000 in
set_option maxHeartbeats 800000 in
theorem law_runs (s : List UInt8) (a b : Nat) (w : World) (hs : s.length ≤ 140737488351232) (ha : a < 256) (hb : b < 256) :
    Calls Try.prog 10 #[.string ⟨s.toArray⟩, .int .u8 a, .int .u8 b] w fun e w' => e = .returned (.bool true) ∧ Below w.heap.size w w' := by
  by_cases h5 : s.length ≤ 500
  · obtain ⟨x, hx⟩ : ∃ x : UInt8, (x.toNat : Int) = a := ⟨UInt8.ofNat a, by rw [ofNat_toNat]; omega⟩
    obtain ⟨y, hy⟩ : ∃ y : UInt8, (y.toNat : Int) = b := ⟨UInt8.ofNat b, by rw [ofNat_toNat]; omega⟩
    rw [← hx, ← hy]
    have hxy : ((x.toNat : Int) == (y.toNat : Int)) = (x == y) := by
      rw [Bool.eq_iff_iff, beq_iff_eq, beq_iff_eq, Int.ofNat_inj, UInt8.toNat_inj]
    clear hx hy ha hb
    have hcx := conv_at (P := Try.prog) Try.underlying42 Try.underlying5 Try.underlying9 (x.toNat : Int) x rfl
    have hcy := conv_at (P := Try.prog) Try.underlying42 Try.underlying5 Try.underlying9 (y.toNat : Int) y rfl
    go_enter Try.func10, Try.ntmps10
    go_wp2_with fail
    refine (awake02 w).mono ?_
    rintro e w1 ⟨rfl, hb1⟩
    go_wp2_with fail
    go_cut [7, 8] (fun v7 v8 wx => v7 = .string ⟨(s ++ [x]).toArray⟩ ∧ v8 = .string ⟨(s ++ [y]).toArray⟩ ∧ Below w.heap.size w wx)
    case first =>
      go_region
      all_goals (go_wp2_with fail; go_meet; exact ⟨rfl, rfl, ((hb1.alloc hb1.size _).alloc (Nat.le_trans hb1.size (by simp)) _).drew⟩)
    case rest =>
      obtain ⟨rfl, rfl, hb2⟩ := hcut
      clear hcx hcy hb1
      obtain ⟨c0, hc0⟩ : ∃ c, c = crcL s := ⟨_, rfl⟩
      obtain ⟨c1, hc1⟩ : ∃ c, c = crcL (s ++ [x]) := ⟨_, rfl⟩
      obtain ⟨c2, hc2⟩ : ∃ c, c = crcL (s ++ [y]) := ⟨_, rfl⟩
      obtain ⟨q1, hq1⟩ : ∃ c, c = quickL (s ++ [x]) := ⟨_, rfl⟩
      obtain ⟨q2, hq2⟩ : ∃ c, c = quickL (s ++ [y]) := ⟨_, rfl⟩
      obtain ⟨r0, hr0⟩ : ∃ c, c = crcRun 4294967295 s := ⟨_, rfl⟩
      obtain ⟨r1, hr1⟩ : ∃ c, c = stepB r0 x := ⟨_, rfl⟩
      obtain ⟨m, hm⟩ : ∃ m, m = markL s := ⟨_, rfl⟩
      have hr0l : r0 < 4294967296 := by rw [hr0]; exact crcRun_lt _ (by omega)
      have hr1l : r1 < 4294967296 := by rw [hr1]; exact stepB_lt _ hr0l
      have e1 : crcRun 4294967295 (s ++ [x]) = r1 := by rw [hr1, hr0]; exact foldl_snoc stepB _ _ _
      have hc0v : c0 = 4294967295 - r0 := by rw [hc0, crcL, hr0]
      have hc1v : c1 = 4294967295 - r1 := by rw [hc1, crcL, e1]
      have n0 : bits .xor .u32 IntKind.u32.max (c0 : Int) = (r0 : Int) := by rw [not_u32 c0 (by omega)]; omega
      have n1 : bits .xor .u32 IntKind.u32.max (c1 : Int) = (r1 : Int) := by rw [not_u32 c1 (by omega)]; omega
      have hcc : ((c1 : Int) == (c2 : Int)) = (x == y) := by
        rw [Bool.eq_iff_iff, beq_iff_eq, beq_iff_eq, Int.ofNat_inj, hc1, hc2]
        exact ⟨fun h => crc_mid s [] x y h, fun h => by rw [h]⟩
      have hqq : ((q1 : Int) == (q2 : Int)) = (x == y) := by
        rw [Bool.eq_iff_iff, beq_iff_eq, beq_iff_eq, Int.ofNat_inj, hq1, hq2]
        exact ⟨fun h => quick_mid s [] x y h, fun h => by rw [h]⟩
      have hml : ((m.length : Int) == (s.length : Int) + 4) = true := by rw [beq_iff_eq, hm, markL_length]; omega
      have hmb : m.length ≤ 1000 := by rw [hm, markL_length]; omega
      have C0 := Lib.hid (crc_lit [s] #[.string ⟨s.toArray⟩] rfl 1 rfl (by simp) (by simp; omega) c0 (by simp [hc0]))
      have C1 := Lib.hid (crc_lit [s ++ [x]] #[.string ⟨(s ++ [x]).toArray⟩] rfl 1 rfl (by simp) (by simp; omega) c1 (by simp [hc1]))
      have C2 := Lib.hid (crc_lit [s ++ [y]] #[.string ⟨(s ++ [y]).toArray⟩] rfl 1 rfl (by simp) (by simp; omega) c2 (by simp [hc2]))
      have Q1 := Lib.hid (quick_lit [s ++ [x]] #[.string ⟨(s ++ [x]).toArray⟩] rfl 1 rfl (by simp) (by simp; omega) q1 (by simp [hq1]))
      have Q2 := Lib.hid (quick_lit [s ++ [y]] #[.string ⟨(s ++ [y]).toArray⟩] rfl 1 rfl (by simp) (by simp; omega) q2 (by simp [hq2]))
      have S1 := Lib.hid (fun w => step_any r0 x w hr0l)
      have M1 := Lib.hid (fun w => mark_any s w (by omega))
      rw [← hr1] at S1
      rw [← hm] at M1
      clear hc0 hc1 hc2 hq1 hq2 hr0 hr1 hm e1 hc0v hc1v
      go_wp2_with fail
      refine (C1.out _ _ (by simp)).mono ?_
      rintro e w_ ⟨rfl, rfl⟩
      go_wp2_with fail
      refine (C0.out _ _ (by simp)).mono ?_
      rintro e w_ ⟨rfl, rfl⟩
      go_wp2_with fail
      refine (S1.out _).mono ?_
      rintro e w_ ⟨rfl, rfl⟩
      go_wp2_with fail
      refine (Q1.out _ _ (by simp)).mono ?_
      rintro e w_ ⟨rfl, rfl⟩
      go_wp2_with fail
      refine (Q2.out _ _ (by simp)).mono ?_
      rintro e w_ ⟨rfl, rfl⟩
      go_wp2_with fail
      refine (C1.out _ _ (by simp)).mono ?_
      rintro e w_ ⟨rfl, rfl⟩
      go_wp2_with fail
      refine (C2.out _ _ (by simp)).mono ?_
      rintro e w_ ⟨rfl, rfl⟩
      go_wp2_with fail
      refine (M1.out _).mono ?_
      rintro e w9 ⟨rfl, hb9⟩
      go_wp2
      go_ret
      refine ⟨rfl, hb2.trans' (Below.trans' ?_ hb9)⟩
      repeat (first | exact Below.refl _ _ | refine Below.drew ?_ | (refine Below.alloc ?_ (by simp; try omega) _))
  · go_enter Try.func10, Try.ntmps10
    go_wp2_with fail
    refine (awake02 w).mono ?_
    rintro e w1 ⟨rfl, hb1⟩
    go_wp2
    go_ret
    exact ⟨rfl, hb1⟩


/-! ### SumTurned -/
theorem xor_u8 (c z : UInt8) : bits .xor .u8 (c.toNat : Int) (z.toNat : Int) = ((c ^^^ z).toNat : Int) := by
  rw [UInt8.toNat_xor]; exact u8_xor_nat _ _ c.toNat_lt z.toNat_lt
theorem set_split (l : List UInt8) (k : Nat) (h : k < l.length) (d : UInt8) : l.set k d = l.take k ++ d :: l.drop (k + 1) := by
  rw [List.set_eq_take_append_cons_drop, if_pos h]
theorem self_split (l : List UInt8) (k : Nat) (h : k < l.length) : l = l.take k ++ l[k] :: l.drop (k + 1) := by
  rw [List.getElem_cons_drop, List.take_append_drop]
theorem xor_ne (c z : UInt8) (h : z ≠ 0) : c ≠ c ^^^ z := fun e => h (by
  have : c ^^^ c = c ^^^ (c ^^^ z) := congrArg (c ^^^ ·) e
  rw [← UInt8.xor_assoc, UInt8.xor_self, UInt8.zero_xor] at this
  exact this.symm)
/-- A row of bytes, one of them turned. -/
theorem Row.setByte {w : World} {b : Nat} {t : TypeId} {l : List UInt8} (h : Row w b t l.length (fun j => bcell (l.getD j 0))) (k : Nat) (hk : k < l.length) (c : UInt8) :
    Row (w.setCell ⟨b, k, none⟩ (.int .u8 (c.toNat : Int))) b t (l.set k c).length (fun j => bcell ((l.set k c).getD j 0)) := by
  rw [List.length_set]
  refine (h.set k _).congr fun i hi => ?_
  show (if i = k then Value.int .u8 (c.toNat : Int) else bcell (l.getD i 0)) = bcell ((l.set k c).getD i 0)
  by_cases e : i = k
  · subst e; rw [if_pos rfl]; simp [bcell, hi]
  · rw [if_neg e, List.getD_eq_getElem?_getD, List.getD_eq_getElem?_getD, List.getElem?_set_ne (fun h => e h.symm)]
theorem conv_bytes {P : Program} {src dst e : TypeId} {w : World} {b : Nat} (l : List UInt8) (hs : P.underlying src = some (.slice e)) (he : P.underlying e = some (.int .u8)) (hd : P.underlying dst = some .string)
    (hr : Row w b e l.length (fun j => bcell (l.getD j 0))) (n cap : Nat) (hn : n = l.length) :
    (convert src dst (.slice (some ⟨b, 0, none⟩) n cap)).run P w = .ok (.string ⟨l.toArray⟩) w := by
  subst hn
  exact conv_Row l hs he hd hr rfl (fun i hi => by simp [hi])

set_option maxRecDepth 100000 in
set_option maxHeartbeats 800000 in
theorem turned_in (l : List UInt8) (a : Nat) (z : UInt8) (w : World) (h0 : 0 < l.length) (h5 : l.length ≤ 500) (hz : z ≠ 0) (ha : a < 65536) :
    Calls Try.prog 7 #[.string ⟨l.toArray⟩, .int .u16 a, .int .u8 z.toNat] w fun e w' => e = .returned (.bool true) ∧ Below w.heap.size w w' := by
  have hz0 : ((z.toNat : Int) == 0) = false := by
    rw [beq_eq_false_iff_ne]; intro h; exact hz (UInt8.toNat_inj.1 (by simpa using h))
  obtain ⟨k, hk⟩ : ∃ k, k = a % l.length := ⟨_, rfl⟩
  have hkl : k < l.length := by rw [hk]; exact Nat.mod_lt _ h0
  have hka : (a : Int) % (l.length : Int) = (k : Int) := by rw [hk]; omega
  have hl0 : ((l.length : Int) == 0) = false := by rw [beq_eq_false_iff_ne]; omega
  obtain ⟨c, hc⟩ : ∃ c, c = l[k] := ⟨_, rfl⟩
  have hx := xor_u8 c z
  obtain ⟨d, hd⟩ : ∃ d, d = c ^^^ z := ⟨_, rfl⟩
  rw [← hd] at hx
  obtain ⟨m, hm⟩ : ∃ m, m = l.set k d := ⟨_, rfl⟩
  obtain ⟨c1, hc1⟩ : ∃ c, c = crcL m := ⟨_, rfl⟩
  obtain ⟨c2, hc2⟩ : ∃ c, c = crcL l := ⟨_, rfl⟩
  obtain ⟨q1, hq1⟩ : ∃ c, c = quickL m := ⟨_, rfl⟩
  obtain ⟨q2, hq2⟩ : ∃ c, c = quickL l := ⟨_, rfl⟩
  have hdc : d ≠ c := by rw [hd]; exact fun h => xor_ne c z hz h.symm
  have hmd := set_split l k hkl d
  have hll := self_split l k hkl
  rw [← hc] at hll
  have ecc : ((c1 : Int) == (c2 : Int)) = false := by
    rw [beq_eq_false_iff_ne]; intro h
    refine hdc (crc_mid (l.take k) (l.drop (k + 1)) d c ?_)
    rw [← hmd, ← hll, ← hm, ← hc1, ← hc2]; exact Int.ofNat_inj.1 h
  have ecc' : ((c1 : Int) != (c2 : Int)) = true := by rw [bne, ecc]; rfl
  have eqq : ((q1 : Int) == (q2 : Int)) = false := by
    rw [beq_eq_false_iff_ne]; intro h
    refine hdc (quick_mid (l.take k) (l.drop (k + 1)) d c ?_)
    rw [← hmd, ← hll, ← hm, ← hq1, ← hq2]; exact Int.ofNat_inj.1 h
  have eqq' : ((q1 : Int) != (q2 : Int)) = true := by rw [bne, eqq]; rfl
  have hml : m.length = l.length := by rw [hm, List.length_set]
  have C1 := Lib.hid (crc_lit [m] #[.string ⟨m.toArray⟩] rfl 1 rfl (by simp) (by simp; omega) c1 (by simp [hc1]))
  have C2 := Lib.hid (crc_lit [l] #[.string ⟨l.toArray⟩] rfl 1 rfl (by simp) (by simp; omega) c2 (by simp [hc2]))
  have Q1 := Lib.hid (quick_lit [m] #[.string ⟨m.toArray⟩] rfl 1 rfl (by simp) (by simp; omega) q1 (by simp [hq1]))
  have Q2 := Lib.hid (quick_lit [l] #[.string ⟨l.toArray⟩] rfl 1 rfl (by simp) (by simp; omega) q2 (by simp [hq2]))
  have Hm := Lib.hid hm
  have Hml := Lib.hid hml
  have Hc := Lib.hid hc
  have hcv := fun w => run_bytes_of_string (P := Try.prog) w 9 42 5 ⟨l.toArray⟩ Try.underlying9 Try.underlying42 Try.underlying5
  clear hk hd hm hc1 hc2 hq1 hq2 hdc hmd hll hml hc hz
  go_enter Try.func7, Try.ntmps7
  go_wp2_with fail
  refine (awake02 w).mono ?_
  rintro e w1 ⟨rfl, hb1⟩
  go_upto_region 5 with (fail)
  go_cut [7] (fun v wx => ∃ g cap, v = .slice (some ⟨g, 0, none⟩) l.length cap ∧ Row wx g 5 l.length (fun j => bcell (l.getD j 0)) ∧ w.heap.size ≤ g ∧ Below w.heap.size w wx)
  case first =>
    go_wp2
    go_meet
    exact ⟨_, _, rfl, (Row.bytes w1 _ l _).drewN 1, hb1.size, ((hb1.alloc hb1.size _).drew)⟩
  case rest =>
    obtain ⟨g, cap, rfl, hrow, hg, hb2⟩ := hcut
    clear hcv hb1
    have hcell := hrow.cell hkl
    have hfr := hrow.frozen hkl
    have e1 : bcell (l.getD k 0) = .int .u8 (c.toNat : Int) := by rw [getD_get _ _ _ hkl, Hc.out]; rfl
    rw [e1] at hcell
    clear e1
    have hrow2 := hrow.setByte k hkl d
    rw [← Hm.out] at hrow2
    have hb3 := hb2.setCell (p := ⟨g, k, none⟩) hg (.int .u8 (d.toNat : Int))
    have Hrow2 := Lib.hid hrow2
    have Hb3 := Lib.hid hb3
    clear hrow hrow2 hb2 hb3
    go_upto_region 6 with (fail)
    go_outline
    go_cut [6] (fun v wx => v = .bool false ∧ Row wx g 5 m.length (fun j => bcell (m.getD j 0)) ∧ Below w.heap.size w wx)
    case first =>
      go_wp2
      go_meet
      exact ⟨rfl, Hrow2.out, Hb3.out⟩
    case rest =>
      obtain ⟨rfl, hrow3, hb4⟩ := hcut
      have cv0 := conv_bytes (P := Try.prog) m Try.underlying42 Try.underlying5 Try.underlying9 hrow3 l.length cap Hml.out.symm
      have cv2 := fun o1 o2 => conv_bytes (P := Try.prog) m Try.underlying42 Try.underlying5 Try.underlying9 ((hrow3.alloc o1).alloc o2) l.length cap Hml.out.symm
      clear hrow3
      go_wp2_with fail
      refine (C1.out _ _ (by simp)).mono ?_
      rintro e w_ ⟨rfl, rfl⟩
      go_wp2_with fail
      refine (C2.out _ _ (by simp)).mono ?_
      rintro e w_ ⟨rfl, rfl⟩
      go_wp2_with fail
      refine (Q1.out _ _ (by simp)).mono ?_
      rintro e w_ ⟨rfl, rfl⟩
      go_wp2_with fail
      refine (Q2.out _ _ (by simp)).mono ?_
      rintro e w_ ⟨rfl, rfl⟩
      go_wp2
      go_ret
      refine ⟨rfl, hb4.trans' ?_⟩
      repeat (first | exact Below.refl _ _ | refine Below.drew ?_ | (refine Below.alloc ?_ (by simp; try omega) _))

set_option maxRecDepth 100000 in
set_option maxHeartbeats 800000 in
theorem law_turned (l : List UInt8) (a b : Nat) (w : World) (hl : l.length ≤ 140737488351232) (ha : a < 65536) (hb : b < 256) :
    Calls Try.prog 7 #[.string ⟨l.toArray⟩, .int .u16 a, .int .u8 b] w fun e w' => e = .returned (.bool true) ∧ Below w.heap.size w w' := by
  by_cases h0 : 0 < l.length
  · by_cases h5 : l.length ≤ 500
    · by_cases hb0 : b = 0
      · subst hb0
        have hl0 : ((l.length : Int) == 0) = false := by rw [beq_eq_false_iff_ne]; omega
        go_enter Try.func7, Try.ntmps7
        go_wp2_with fail
        refine (awake02 w).mono ?_
        rintro e w1 ⟨rfl, hb1⟩
        go_wp2
        go_ret
        exact ⟨rfl, hb1⟩
      · obtain ⟨z, hz⟩ : ∃ z : UInt8, (z.toNat : Int) = b := ⟨UInt8.ofNat b, by rw [ofNat_toNat]; omega⟩
        rw [← hz]
        exact turned_in l a z w h0 h5 (fun e => hb0 (by rw [e] at hz; simp at hz; omega)) ha
    · have hl0 : ((l.length : Int) == 0) = false := by rw [beq_eq_false_iff_ne]; omega
      go_enter Try.func7, Try.ntmps7
      go_wp2_with fail
      refine (awake02 w).mono ?_
      rintro e w1 ⟨rfl, hb1⟩
      go_wp2
      go_ret
      exact ⟨rfl, hb1⟩
  · have hl0 : ((l.length : Int) == 0) = true := by rw [beq_iff_eq]; omega
    go_enter Try.func7, Try.ntmps7
    go_wp2_with fail
    refine (awake02 w).mono ?_
    rintro e w1 ⟨rfl, hb1⟩
    go_wp2
    go_ret
    exact ⟨rfl, hb1⟩

end Go.Proofs.Ytgmafhogkdhadaa
