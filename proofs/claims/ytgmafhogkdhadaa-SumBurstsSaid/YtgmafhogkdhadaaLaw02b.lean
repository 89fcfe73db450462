/- The law SumBursts: the walk. -/
import Derived.Test.YtgmafhogkdhadaaLaw02
import Derived.Deep.RegionWith
namespace Go.Proofs.Ytgmafhogkdhadaa
open Go.RowKit

theorem bitAt_set (l : List UInt8) (p : Nat) (x : UInt8) (hx : x.toNat = 2 ^ (p % 8)) (j : Nat) (hj : j ≠ p) : bitAt (l.set (p / 8) (l.getD (p / 8) 0 ^^^ x)) j = bitAt l j := by
  unfold bitAt
  by_cases h : j / 8 = p / 8
  · by_cases hl : p / 8 < l.length
    · rw [h, List.getD_eq_getElem?_getD, List.getElem?_set_self hl, Option.getD_some, UInt8.toNat_xor, Nat.testBit_xor, hx, Nat.testBit_two_pow]
      have : ¬ p % 8 = j % 8 := by omega
      simp [this]
    · rw [List.set_eq_of_length_le (by omega)]
  · rw [List.getD_eq_getElem?_getD, List.getElem?_set_ne (fun e => h e.symm), ← List.getD_eq_getElem?_getD]

set_option maxRecDepth 100000 in
set_option maxHeartbeats 800000 in
theorem bursts_in (s : List UInt8) (a y : Nat) (w : World) (h5 : s.length ≤ 500) (hy0 : 0 < y) (ha : a < 65536) (hy : y < 4294967296) :
    Calls Try.prog 9 #[.string ⟨s.toArray⟩, .int .u16 a, .int .u32 y] w fun e w' => e = .returned (.bool true) ∧ Below w.heap.size w w' := by
  have hy1 : ((y : Int) == 0) = false := by rw [beq_eq_false_iff_ne]; omega
  obtain ⟨m, hm⟩ : ∃ m, m = markL s := ⟨_, rfl⟩
  have M1 := Lib.hid (fun w => mark_any s w (by omega))
  rw [← hm] at M1
  have hml : m.length = s.length + 4 := by rw [hm, markL_length]
  obtain ⟨k, hk⟩ : ∃ k, k = a % (8 * m.length) := ⟨_, rfl⟩
  have hkl : k < 8 * m.length := by rw [hk]; exact Nat.mod_lt _ (by omega)
  have hka : (a : Int) % (8 * (m.length : Int)) = (k : Int) := by rw [hk, Int.natCast_emod, Int.natCast_mul]; rfl
  have hmb : m.length ≤ 504 := by omega
  have hm4 : 4 ≤ m.length := by omega
  have Hml := Lib.hid hml
  have Hm := Lib.hid hm
  have hcv := fun w => run_bytes_of_string (P := Try.prog) w 9 42 5 ⟨m.toArray⟩ Try.underlying9 Try.underlying42 Try.underlying5
  clear hk hm hml
  go_enter Try.func9, Try.ntmps9
  go_wp2_with fail
  refine (awake02 w).mono ?_
  rintro e w1 ⟨rfl, hb1⟩
  go_wp2_with fail
  refine (M1.out _).mono ?_
  rintro e w2 ⟨rfl, hb2⟩
  go_upto_region 6 with (fail)
  go_cut [8] (fun v wx => v = .int .i64 k ∧ wx = (w2.alloc (.cells (bytesRow ⟨m.toArray⟩ (grownCap w2 m.length 0 5)) 5 ((bytesRow ⟨m.toArray⟩ (grownCap w2 m.length 0 5)).size, (bytesRow ⟨m.toArray⟩ (grownCap w2 m.length 0 5)).size + 1))).drew)
  case first =>
    go_wp2
    go_meet
    exact ⟨by rw [hka], rfl⟩
  case rest =>
    obtain ⟨rfl, hwc⟩ := hcut
    have hrow : Row wc w2.heap.size 5 m.length (fun j => bcell (m.getD j 0)) := by rw [hwc]; exact (Row.bytes w2 _ m _).drewN 1
    have hbc : Below w.heap.size w wc := by rw [hwc]; exact ((hb1.trans' hb2).alloc (hb1.trans' hb2).size _).drew
    have hg : w.heap.size ≤ w2.heap.size := (hb1.trans' hb2).size
    clear hwc hb1 hb2 hcv
    obtain ⟨g, hgg⟩ : ∃ g, g = w2.heap.size := ⟨_, rfl⟩
    obtain ⟨cap, hcap⟩ : ∃ c, c = grownCap w2 m.length 0 5 := ⟨_, rfl⟩
    rw [← hgg] at hrow hg
    rw [← hgg, ← hcap]
    clear hgg hcap
    go_wp2_with fail
    go_loopw [30] (fun i wr => ∃ (j : Nat) (l : List UInt8), j ≤ 32 ∧ i = .int .i64 j ∧ Hid (l.length = m.length) ∧ Row wr g 5 m.length (fun t => bcell (l.getD t 0)) ∧ Below w.heap.size w wr ∧ Hid (∀ t, (t < k ∨ k + 32 ≤ t) → bitAt l t = bitAt m t)) (fun i _ => 32 - (intOf i).toNat)
    case atStart => exact ⟨0, m, by omega, rfl, Lib.hid rfl, hrow, hbc, Lib.hid fun _ _ => rfl⟩
    case round =>
      obtain ⟨j, l, hj, rfl, hll, hrow, hb, hbits⟩ := hrel
      by_cases hlt : j < 32
      · by_cases hbit : bits .and .u32 ((y : Int) / 2 ^ j) 1 = 1
        · have hbt : (bits .and .u32 ((y : Int) / 2 ^ j) 1 == 1) = true := by rw [beq_iff_eq]; exact hbit
          clear hbit
          by_cases hin : k + j < 8 * m.length
          · go_wp2_with fail
            obtain ⟨p, hp⟩ : ∃ p, p = k + j := ⟨_, rfl⟩
            obtain ⟨q, hq⟩ : ∃ q, q = p / 8 := ⟨_, rfl⟩
            obtain ⟨r, hr⟩ : ∃ r, r = p % 8 := ⟨_, rfl⟩
            have e1 : IntKind.i64.wrap ((k : Int) + (j : Int)) = (p : Int) := by rw [IntKind.wrap_i64]; omega
            have e2 : (p : Int).tdiv 8 = (q : Int) := by rw [Int.tdiv_eq_ediv_of_nonneg (by omega)]; omega
            have e3 : (p : Int).tmod 8 = (r : Int) := by rw [Int.tmod_eq_emod_of_nonneg (by omega)]; omega
            have e4 : IntKind.i64.wrap (q : Int) = (q : Int) := by rw [IntKind.wrap_i64]; omega
            have hqm : (q : Int) < (m.length : Int) := by omega
            have hqm' : q < m.length := by omega
            have hr8 : (r : Int) < 8 := by omega
            have hp8 : (p : Int) < 8 * (m.length : Int) := by omega
            have hc := hrow.cell hqm'
            have hf := hrow.frozen hqm'
            obtain ⟨c, hcc⟩ : ∃ c, c = l.getD q 0 := ⟨_, rfl⟩
            rw [← hcc] at hc
            unfold bcell at hc
            have Hp := Lib.hid hp
            have Hq := Lib.hid hq
            have Hr := Lib.hid hr
            have Hcc := Lib.hid hcc
            have Hrow := Lib.hid hrow
            have Hb := Lib.hid hb
            clear hp hq hr hcc hrow hb hqm'
            obtain ⟨x, hx⟩ : ∃ x : UInt8, x.toNat = 2 ^ r := ⟨UInt8.ofNat (2 ^ r), by
              rw [UInt8.toNat_ofNat', Nat.mod_eq_of_lt]
              exact Nat.pow_lt_pow_right (by decide) (by omega)⟩
            have hx2 : (2 : Int) ^ r % 256 = (x.toNat : Int) := by
              have h1 : ((2 ^ r : Nat) : Int) = (2 : Int) ^ r := by simp
              rw [← h1, hx]
              have := x.toNat_lt
              omega
            have hx3 := xor_u8 c x
            obtain ⟨d, hd⟩ : ∃ d, d = c ^^^ x := ⟨_, rfl⟩
            rw [← hd] at hx3
            have Hx := Lib.hid hx
            have Hd := Lib.hid hd
            clear hx hd
            go_region
            go_wp2
            go_roundw
            case rel =>
              have hq' : q < l.length := by rw [hll.out]; omega
              have hr1 : Row wr g 5 l.length (fun t => bcell (l.getD t 0)) := by rw [hll.out]; exact Hrow.out
              refine ⟨j + 1, l.set q d, by omega, by go_num, Lib.hid (by rw [List.length_set]; exact hll.out), ?_, (Hb.out.setCell (p := ⟨g, q, none⟩) hg _).drew, Lib.hid fun t ht => ?_⟩
              · have := (hr1.setByte q hq' d).drewN 1
                rw [List.length_set, hll.out] at this
                exact this
              · have h1 := bitAt_set l p x (by rw [Hx.out, Hr.out]) t (by have := Hp.out; omega)
                rw [← Hq.out, ← Hcc.out, ← Hd.out] at h1
                rw [h1]; exact hbits.out t ht
            case measure => simp [intOf] <;> omega
          · go_wp2
            go_roundw
            case rel => exact ⟨j + 1, l, by omega, by go_num, hll, hrow, hb, hbits⟩
            case measure => simp [intOf] <;> omega
        · have hbt : (bits .and .u32 ((y : Int) / 2 ^ j) 1 == 1) = false := by rw [beq_eq_false_iff_ne]; exact hbit
          clear hbit
          go_wp2
          go_roundw
          case rel => exact ⟨j + 1, l, by omega, by go_num, hll, hrow, hb, hbits⟩
          case measure => simp [intOf] <;> omega
      · have hr1 : Row wr g 5 l.length (fun t => bcell (l.getD t 0)) := by rw [hll.out]; exact hrow
        have hglt := hrow.lt
        have cv0 := conv_bytes (P := Try.prog) l Try.underlying42 Try.underlying5 Try.underlying9 hr1 m.length cap hll.out.symm
        have cvB : Hid (∀ w', Below wr.heap.size wr w' → (convert 42 9 (.slice (some ⟨g, 0, none⟩) m.length cap)).run Try.prog w' = .ok (.string ⟨l.toArray⟩) w') :=
          Lib.hid fun w' h => conv_bytes (P := Try.prog) l Try.underlying42 Try.underlying5 Try.underlying9 (hr1.below h hglt) m.length cap hll.out.symm
        have cv1 := cvB.out wr.drew (Below.refl _ _).drew
        clear hr1 hrow
        go_wp2_with fail
        go_cut [66] (fun v wx => v = .bool (l == m) ∧ Below wr.heap.size wr wx)
        case first =>
          go_region_with (go_at_call 30; refine (M1.out _).mono ?_; rintro e w' ⟨rfl, hb'⟩; have cv' := cvB.out w' (Below.trans (Below.refl _ _).drew hb'))
          all_goals (go_wp2_with fail; go_meet; exact ⟨rfl, Below.trans (Below.refl _ _).drew hb'⟩)
        case rest =>
          obtain ⟨rfl, hb3⟩ := hcut
          clear cv0 cv1
          have cv := cvB.out _ hb3
          by_cases hlm : l = m
          · subst hlm
            have hlm' : (l == l) = true := beq_self_eq_true l
            rw [hlm']
            clear hlm'
            go_wp2_with fail
            go_ret
            exact ⟨rfl, hb.trans' hb3⟩
          · have hlm' : (l == m) = false := by rw [beq_eq_false_iff_ne]; exact hlm
            have hbad : markL (l.take (l.length - 4)) ≠ l := fun e => hlm (burst_same m l k hll.out (by rw [Hm.out]; exact crcRun_mark s) (by rw [← e]; exact crcRun_mark _) hbits.out)
            have K1 := Lib.hid (fun w => check_bad l _ w (by rw [hll.out]; omega) (by rw [hll.out]; omega) rfl hbad)
            clear hbad
            rw [hlm']
            go_wp2_with fail
            refine (K1.out _).mono ?_
            rintro e w9 ⟨rfl, hb9⟩
            go_wp2
            go_ret
            exact ⟨rfl, (hb.trans' hb3).trans' hb9⟩

set_option maxRecDepth 100000 in
set_option maxHeartbeats 800000 in
theorem law_bursts (s : List UInt8) (a y : Nat) (w : World) (hl : s.length ≤ 140737488351232) (ha : a < 65536) (hy : y < 4294967296) :
    Calls Try.prog 9 #[.string ⟨s.toArray⟩, .int .u16 a, .int .u32 y] w fun e w' => e = .returned (.bool true) ∧ Below w.heap.size w w' := by
  by_cases h5 : s.length ≤ 500
  · by_cases hy0 : y = 0
    · subst hy0
      go_enter Try.func9, Try.ntmps9
      go_wp2_with fail
      refine (awake02 w).mono ?_
      rintro e w1 ⟨rfl, hb1⟩
      go_wp2
      go_ret
      exact ⟨rfl, hb1⟩
    · exact bursts_in s a y w h5 (by omega) ha hy
  · go_enter Try.func9, Try.ntmps9
    go_wp2_with fail
    refine (awake02 w).mono ?_
    rintro e w1 ⟨rfl, hb1⟩
    go_wp2
    go_ret
    exact ⟨rfl, hb1⟩

end Go.Proofs.Ytgmafhogkdhadaa
