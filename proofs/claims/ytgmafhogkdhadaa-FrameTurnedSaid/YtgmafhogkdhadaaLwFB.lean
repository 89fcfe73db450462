/- The law FrameTurned: a frame with some of its bits turned is no frame of its length. -/
import Derived.Test.YtgmafhogkdhadaaLwFA
import Derived.Test.YtgmafhogkdhadaaCrc
namespace Go.Proofs.Ytgmafhogkdhadaa
namespace Sy
open Go Go.RowKit
set_option maxRecDepth 100000
set_option linter.unusedSimpArgs false
set_option linter.unusedVariables false

theorem bitAt_set (l : List UInt8) (p : Nat) (x : UInt8) (hx : x.toNat = 2 ^ (p % 8)) (j : Nat) (hj : j ≠ p) : bitAt (l.set (p / 8) (l.getD (p / 8) 0 ^^^ x)) j = bitAt l j := by
  unfold bitAt
  by_cases h : j / 8 = p / 8
  · by_cases hl : p / 8 < l.length
    · rw [h, List.getD_eq_getElem?_getD, List.getElem?_set_self hl, Option.getD_some, UInt8.toNat_xor, Nat.testBit_xor, hx, Nat.testBit_two_pow]
      have : ¬ p % 8 = j % 8 := by omega
      simp [this]
    · rw [List.set_eq_of_length_le (by omega)]
  · rw [List.getD_eq_getElem?_getD, List.getElem?_set_ne (fun e => h e.symm), ← List.getD_eq_getElem?_getD]

def inWin (m : List UInt8) (k : Int) (x : Nat × List UInt8) : Prop := x.1 ≤ 32 ∧ x.2.length = m.length ∧ ∀ t, (t < k.toNat ∨ k.toNat + 32 ≤ t) → bitAt x.2 t = bitAt m t
def turnA (L : Seal) : Nat → St → Option Ann := fun id s => match id with
  | 0 => withStr s 7 fun m => withInt s 10 fun k => some ⟨Nat × List UInt8, fun x => [(37, .int .i64 (L natI x.1)), (9, .sl 30 1 0 (L lenN m))], fun x => [(30, .row 1 (L lenN m) (fun i _ => .int .u8 (L2 L byteAt x.2 i)))], [2, 7, 10], [],
      fun x => L3 L inWin m k x, fun x => L (fun x : Nat × List UInt8 => 32 - x.1) x⟩
  | _ => none
theorem lenT {k e : Int} {b : List UInt8} (m : List UInt8) (hE : byE k b = 0) (hm : byT k e b = m) : m.length = b.length + 20 := by
  rw [← hm, byT, if_pos hE, markL_length, headT_length]
theorem turn_step (m l l' : List UInt8) (kk : Int) (i : Nat) (h0 : 0 ≤ kk) (hi : i < 32) (hl : l' = l.set ((kk.toNat + i) / 8) (l.getD ((kk.toNat + i) / 8) 0 ^^^ UInt8.ofNat (2 ^ ((kk.toNat + i) % 8)))) (hx : inWin m kk (i, l)) : inWin m kk (i + 1, l') := by
  obtain ⟨h1, h2, h3⟩ := hx
  refine ⟨by show i + 1 ≤ 32; omega, by rw [hl]; simpa using h2, fun t ht => ?_⟩
  rw [← h3 t ht, hl]
  refine bitAt_set l (kk.toNat + i) _ ?_ t (by omega)
  rw [UInt8.toNat_ofNat', Nat.mod_eq_of_lt]
  exact Nat.pow_lt_pow_right (by decide) (by omega)
theorem kfact {k e a kk : Int} {b m : List UInt8} (ha : 0 ≤ a) (ha' : a < 65536) (hm : byT k e b = m) (hE : byE k b = 0) (hB : (b.length : Int) ≤ 500)
    (hk : ((a + 9223372036854775808) % 18446744073709551616 - 9223372036854775808).tmod ((8 * (m.length : Int) + 9223372036854775808) % 18446744073709551616 - 9223372036854775808) = kk) :
    m.length = b.length + 20 ∧ m.length ≤ 520 ∧ 0 ≤ kk ∧ kk < 8 * (m.length : Int) := by
  have hml := lenT m hE hm
  rw [show (a + 9223372036854775808) % 18446744073709551616 - 9223372036854775808 = a by omega, show (8 * (m.length : Int) + 9223372036854775808) % 18446744073709551616 - 9223372036854775808 = 8 * (m.length : Int) by omega, Int.tmod_eq_emod_of_nonneg (by omega)] at hk
  have := Int.emod_nonneg a (show (8 * (m.length : Int)) ≠ 0 by omega)
  have := Int.emod_lt_of_pos a (show 0 < (8 * (m.length : Int)) by omega)
  omega
theorem xor_u8 (c z : UInt8) : bits .xor .u8 (c.toNat : Int) (z.toNat : Int) = ((c ^^^ z).toNat : Int) := by
  rw [UInt8.toNat_xor]; exact u8_xor_nat _ _ c.toNat_lt z.toNat_lt
theorem bytesOf_at (l : List UInt8) : (bytesOf l.length fun i => (AV.int .u8 (byteAt l (0 + i))).toI) = l := by
  apply List.ext_getElem
  · simp [bytesOf]
  · intro i h1 h2
    simp [bytesOf, AV.toI, byteAt, h2]
/-- A text that Parse takes bears its sum. -/
theorem pa_marked (l : List UInt8) (h : paE l = 0) : crcRun 4294967295 l = stepN 32 4294967295 := by
  have hE : nxE l = 0 := by
    unfold paE at h
    split at h
    · cases h
    · exact h
  have hR : nxR l = [] := by
    refine Classical.byContradiction fun hR => ?_
    rw [paE, if_pos ⟨hE, hR⟩] at h; cases h
  obtain ⟨h1, h2⟩ := nx_len l hE
  have h0 := (nxN_bound l).1
  rw [nxR, if_pos hE] at hR
  have hl : l.length = (nxN l + 20).toNat := by
    have := congrArg List.length hR
    simp only [List.length_drop, List.length_nil] at this
    omega
  have hc : chkE l = 0 := by
    have nc : nxE l = if l.length < 20 then 3 else if l.take 3 ≠ [79, 70, 1] then 4 else if (l.getD 3 0).toNat = 0 then 10 else if 8192 < nxN l then 5 else if (l.length : Int) < nxN l + 20 then 3 else chkE (l.take (nxN l + 20).toNat) := rfl
    rw [nc] at hE
    repeat' split at hE
    all_goals first | cases hE; done | skip
    rw [← hl, List.take_length] at hE
    exact hE
  unfold chkE at hc
  split at hc
  · cases hc
  · split at hc
    · rename_i hm; rw [← hm]; exact crcRun_mark _
    · cases hc
theorem frameTurned_ac (k e : Int) (b : List UInt8) (a y : Int) (h0 : 0 ≤ e) (h1 : e < 18446744073709551616) (hb : b.length ≤ 9223372036854775807) (ha : 0 ≤ a) (ha' : a < 65536) (hy : 0 ≤ y) (hy' : y < 4294967296) :
    ACalls Try.prog 13 [.agg [.int .i64 k, .int .u64 e, .str b], .int .u16 a, .int .u32 y] (.bool true) := by
  refine acalls_L (T := tt) (S := fun L => sumOf [tru 39, by_s L, parse_s L]) (lo := turnA) (lb := noA) 5 (fn := Try.f13) rfl rfl (by kernel_rfl) (by kernel_rfl) rfl tt_ok
    (sumOf_ok ⟨tru_good awake08_ac, by_good, parse_good, trivial⟩) (by kernel_rfl) ?_
  intro L P' Q' hL hP hQ
  (cbv; try simp only [sat_need, sat_must, sat_ite, sat_done, sat_yes, sat_ex, sat_all, sat_sup, sat_and, sat_fail, true_and, and_true])
  generalize hm : L (L (L byT k) e) b = m
  generalize hk : L (L Int.tmod (L IntKind.i64.wrap a)) (L (L (wmul .i64) 8) (L natI (L lenN m))) = kk
  refine ⟨fun h => ?_, fun _ => ⟨?_, fun h => ?_, fun hE => ⟨fun h => ?_, fun hB => ⟨?_, ⟨(0, m), ?_⟩, fun x hx => ?_⟩⟩⟩⟩
  · (subst hL; subst hQ; simp only [L2, L3, std] at *; try simp only [ilt_t, ilt_f, ile_t, ile_f, ieq_t, ieq_f, ine_t, ine_f, seq_t, seq_f, inR_t, inS_t, inC_t, mkOk_t, roomOk_t, catOk_t, fits_bool, fits_int, fits_str, fits1_bool, fits1_int, fits1_str, fits_tup, fitsL_cons, fitsL_nil, slen_is, scat_is, ssub_is, sidx_is, natI_is, imin_is, imax_is, Bool.not_eq_true', Bool.not_eq_false', Bool.and_eq_true, Bool.and_eq_false_imp, Bool.or_eq_true, Bool.or_eq_false_iff, decide_eq_true_eq, decide_eq_false_iff_not, true_and, and_true, reduceCtorEq, imp_false, not_false_eq_true, not_true_eq_false, false_imp_iff, true_imp_iff, forall_const, implies_true, Bool.not_true, Bool.not_false, ne_eq, Decidable.not_not, wadd, wsub, wmul, w_i64, w_i32, w_u64, w_u32, w_u16, w_u8, Nat.succ_eq_add_one, Nat.le_eq, Nat.sub_eq, Int.cast_ofNat_Int, Int.toNat_natCast, Int.reduceToNat, Int.reduceAdd, Int.reduceSub, Int.zero_add, lenN_is, fits3_is, nadd0, fits1_agg0, fits1_aggi, fits1_aggs, fits1_aggb, fits_agg0, fits_aggi, fits_aggs, fits_aggb] at *)
  · (subst hL; subst hQ; simp only [L2, L3, std] at *; try simp only [ilt_t, ilt_f, ile_t, ile_f, ieq_t, ieq_f, ine_t, ine_f, seq_t, seq_f, inR_t, inS_t, inC_t, mkOk_t, roomOk_t, catOk_t, fits_bool, fits_int, fits_str, fits1_bool, fits1_int, fits1_str, fits_tup, fitsL_cons, fitsL_nil, slen_is, scat_is, ssub_is, sidx_is, natI_is, imin_is, imax_is, Bool.not_eq_true', Bool.not_eq_false', Bool.and_eq_true, Bool.and_eq_false_imp, Bool.or_eq_true, Bool.or_eq_false_iff, decide_eq_true_eq, decide_eq_false_iff_not, true_and, and_true, reduceCtorEq, imp_false, not_false_eq_true, not_true_eq_false, false_imp_iff, true_imp_iff, forall_const, implies_true, Bool.not_true, Bool.not_false, ne_eq, Decidable.not_not, wadd, wsub, wmul, w_i64, w_i32, w_u64, w_u32, w_u16, w_u8, Nat.succ_eq_add_one, Nat.le_eq, Nat.sub_eq, Int.cast_ofNat_Int, Int.toNat_natCast, Int.reduceToNat, Int.reduceAdd, Int.reduceSub, Int.zero_add, lenN_is, fits3_is, nadd0, fits1_agg0, fits1_aggi, fits1_aggs, fits1_aggb, fits_agg0, fits_aggi, fits_aggs, fits_aggb] at *)
    exact ⟨h0, h1, by omega⟩
  · (subst hL; subst hQ; simp only [L2, L3, std] at *; try simp only [ilt_t, ilt_f, ile_t, ile_f, ieq_t, ieq_f, ine_t, ine_f, seq_t, seq_f, inR_t, inS_t, inC_t, mkOk_t, roomOk_t, catOk_t, fits_bool, fits_int, fits_str, fits1_bool, fits1_int, fits1_str, fits_tup, fitsL_cons, fitsL_nil, slen_is, scat_is, ssub_is, sidx_is, natI_is, imin_is, imax_is, Bool.not_eq_true', Bool.not_eq_false', Bool.and_eq_true, Bool.and_eq_false_imp, Bool.or_eq_true, Bool.or_eq_false_iff, decide_eq_true_eq, decide_eq_false_iff_not, true_and, and_true, reduceCtorEq, imp_false, not_false_eq_true, not_true_eq_false, false_imp_iff, true_imp_iff, forall_const, implies_true, Bool.not_true, Bool.not_false, ne_eq, Decidable.not_not, wadd, wsub, wmul, w_i64, w_i32, w_u64, w_u32, w_u16, w_u8, Nat.succ_eq_add_one, Nat.le_eq, Nat.sub_eq, Int.cast_ofNat_Int, Int.toNat_natCast, Int.reduceToNat, Int.reduceAdd, Int.reduceSub, Int.zero_add, lenN_is, fits3_is, nadd0, fits1_agg0, fits1_aggi, fits1_aggs, fits1_aggb, fits_agg0, fits_aggi, fits_aggs, fits_aggb] at *)
  · (subst hL; subst hQ; simp only [L2, L3, std] at *; try simp only [ilt_t, ilt_f, ile_t, ile_f, ieq_t, ieq_f, ine_t, ine_f, seq_t, seq_f, inR_t, inS_t, inC_t, mkOk_t, roomOk_t, catOk_t, fits_bool, fits_int, fits_str, fits1_bool, fits1_int, fits1_str, fits_tup, fitsL_cons, fitsL_nil, slen_is, scat_is, ssub_is, sidx_is, natI_is, imin_is, imax_is, Bool.not_eq_true', Bool.not_eq_false', Bool.and_eq_true, Bool.and_eq_false_imp, Bool.or_eq_true, Bool.or_eq_false_iff, decide_eq_true_eq, decide_eq_false_iff_not, true_and, and_true, reduceCtorEq, imp_false, not_false_eq_true, not_true_eq_false, false_imp_iff, true_imp_iff, forall_const, implies_true, Bool.not_true, Bool.not_false, ne_eq, Decidable.not_not, wadd, wsub, wmul, w_i64, w_i32, w_u64, w_u32, w_u16, w_u8, Nat.succ_eq_add_one, Nat.le_eq, Nat.sub_eq, Int.cast_ofNat_Int, Int.toNat_natCast, Int.reduceToNat, Int.reduceAdd, Int.reduceSub, Int.zero_add, lenN_is, fits3_is, nadd0, fits1_agg0, fits1_aggi, fits1_aggs, fits1_aggb, fits_agg0, fits_aggi, fits_aggs, fits_aggb] at *)
  · (subst hL; subst hQ; simp only [L2, L3, std] at *; try simp only [ilt_t, ilt_f, ile_t, ile_f, ieq_t, ieq_f, ine_t, ine_f, seq_t, seq_f, inR_t, inS_t, inC_t, mkOk_t, roomOk_t, catOk_t, fits_bool, fits_int, fits_str, fits1_bool, fits1_int, fits1_str, fits_tup, fitsL_cons, fitsL_nil, slen_is, scat_is, ssub_is, sidx_is, natI_is, imin_is, imax_is, Bool.not_eq_true', Bool.not_eq_false', Bool.and_eq_true, Bool.and_eq_false_imp, Bool.or_eq_true, Bool.or_eq_false_iff, decide_eq_true_eq, decide_eq_false_iff_not, true_and, and_true, reduceCtorEq, imp_false, not_false_eq_true, not_true_eq_false, false_imp_iff, true_imp_iff, forall_const, implies_true, Bool.not_true, Bool.not_false, ne_eq, Decidable.not_not, wadd, wsub, wmul, w_i64, w_i32, w_u64, w_u32, w_u16, w_u8, Nat.succ_eq_add_one, Nat.le_eq, Nat.sub_eq, Int.cast_ofNat_Int, Int.toNat_natCast, Int.reduceToNat, Int.reduceAdd, Int.reduceSub, Int.zero_add, lenN_is, fits3_is, nadd0, fits1_agg0, fits1_aggi, fits1_aggs, fits1_aggb, fits_agg0, fits_aggi, fits_aggs, fits_aggb] at *)
    have := kfact ha ha' hm hE hB hk
    omega
  · (cbv; try simp only [sat_need, sat_must, sat_ite, sat_done, sat_yes, sat_ex, sat_all, sat_sup, sat_and, sat_fail, true_and, and_true])
    (subst hL; subst hQ; simp only [L2, L3, std] at *; try simp only [ilt_t, ilt_f, ile_t, ile_f, ieq_t, ieq_f, ine_t, ine_f, seq_t, seq_f, inR_t, inS_t, inC_t, mkOk_t, roomOk_t, catOk_t, fits_bool, fits_int, fits_str, fits1_bool, fits1_int, fits1_str, fits_tup, fitsL_cons, fitsL_nil, slen_is, scat_is, ssub_is, sidx_is, natI_is, imin_is, imax_is, Bool.not_eq_true', Bool.not_eq_false', Bool.and_eq_true, Bool.and_eq_false_imp, Bool.or_eq_true, Bool.or_eq_false_iff, decide_eq_true_eq, decide_eq_false_iff_not, true_and, and_true, reduceCtorEq, imp_false, not_false_eq_true, not_true_eq_false, false_imp_iff, true_imp_iff, forall_const, implies_true, Bool.not_true, Bool.not_false, ne_eq, Decidable.not_not, wadd, wsub, wmul, w_i64, w_i32, w_u64, w_u32, w_u16, w_u8, Nat.succ_eq_add_one, Nat.le_eq, Nat.sub_eq, Int.cast_ofNat_Int, Int.toNat_natCast, Int.reduceToNat, Int.reduceAdd, Int.reduceSub, Int.zero_add, lenN_is, fits3_is, nadd0, fits1_agg0, fits1_aggi, fits1_aggs, fits1_aggb, fits_agg0, fits_aggi, fits_aggs, fits_aggb] at *)
    exact ⟨by omega, rfl, fun _ _ => rfl⟩
  · obtain ⟨i, l⟩ := x
    cbv at hx
    (cbv; try simp only [sat_need, sat_must, sat_ite, sat_done, sat_yes, sat_ex, sat_all, sat_sup, sat_and, sat_fail, true_and, and_true])
    obtain ⟨l', hl'⟩ : ∃ l', l' = l.set ((kk.toNat + i) / 8) (l.getD ((kk.toNat + i) / 8) 0 ^^^ UInt8.ofNat (2 ^ ((kk.toNat + i) % 8))) := ⟨_, rfl⟩
    refine ⟨fun hi => ⟨?_, fun hb1 => ⟨fun hlt => ⟨?_, ?_, ?_, ?_, ?_, ⟨(i + 1, l'), ?_⟩⟩, fun hlt => ⟨(i + 1, l), ?_⟩⟩, fun hb1 => ⟨(i + 1, l), ?_⟩⟩, fun hi => ?_⟩
    · (subst hL; subst hQ; simp only [L2, L3, std] at *; try simp only [ilt_t, ilt_f, ile_t, ile_f, ieq_t, ieq_f, ine_t, ine_f, seq_t, seq_f, inR_t, inS_t, inC_t, mkOk_t, roomOk_t, catOk_t, fits_bool, fits_int, fits_str, fits1_bool, fits1_int, fits1_str, fits_tup, fitsL_cons, fitsL_nil, slen_is, scat_is, ssub_is, sidx_is, natI_is, imin_is, imax_is, Bool.not_eq_true', Bool.not_eq_false', Bool.and_eq_true, Bool.and_eq_false_imp, Bool.or_eq_true, Bool.or_eq_false_iff, decide_eq_true_eq, decide_eq_false_iff_not, true_and, and_true, reduceCtorEq, imp_false, not_false_eq_true, not_true_eq_false, false_imp_iff, true_imp_iff, forall_const, implies_true, Bool.not_true, Bool.not_false, ne_eq, Decidable.not_not, wadd, wsub, wmul, w_i64, w_i32, w_u64, w_u32, w_u16, w_u8, Nat.succ_eq_add_one, Nat.le_eq, Nat.sub_eq, Int.cast_ofNat_Int, Int.toNat_natCast, Int.reduceToNat, Int.reduceAdd, Int.reduceSub, Int.zero_add, lenN_is, fits3_is, nadd0, fits1_agg0, fits1_aggi, fits1_aggs, fits1_aggb, fits_agg0, fits_aggi, fits_aggs, fits_aggb] at *); omega
    · (subst hL; subst hQ; simp only [L2, L3, std] at *; try simp only [ilt_t, ilt_f, ile_t, ile_f, ieq_t, ieq_f, ine_t, ine_f, seq_t, seq_f, inR_t, inS_t, inC_t, mkOk_t, roomOk_t, catOk_t, fits_bool, fits_int, fits_str, fits1_bool, fits1_int, fits1_str, fits_tup, fitsL_cons, fitsL_nil, slen_is, scat_is, ssub_is, sidx_is, natI_is, imin_is, imax_is, Bool.not_eq_true', Bool.not_eq_false', Bool.and_eq_true, Bool.and_eq_false_imp, Bool.or_eq_true, Bool.or_eq_false_iff, decide_eq_true_eq, decide_eq_false_iff_not, true_and, and_true, reduceCtorEq, imp_false, not_false_eq_true, not_true_eq_false, false_imp_iff, true_imp_iff, forall_const, implies_true, Bool.not_true, Bool.not_false, ne_eq, Decidable.not_not, wadd, wsub, wmul, w_i64, w_i32, w_u64, w_u32, w_u16, w_u8, Nat.succ_eq_add_one, Nat.le_eq, Nat.sub_eq, Int.cast_ofNat_Int, Int.toNat_natCast, Int.reduceToNat, Int.reduceAdd, Int.reduceSub, Int.zero_add, lenN_is, fits3_is, nadd0, fits1_agg0, fits1_aggi, fits1_aggs, fits1_aggb, fits_agg0, fits_aggi, fits_aggs, fits_aggb] at *); omega
    · (subst hL; subst hQ; simp only [L2, L3, std] at *; try simp only [ilt_t, ilt_f, ile_t, ile_f, ieq_t, ieq_f, ine_t, ine_f, seq_t, seq_f, inR_t, inS_t, inC_t, mkOk_t, roomOk_t, catOk_t, fits_bool, fits_int, fits_str, fits1_bool, fits1_int, fits1_str, fits_tup, fitsL_cons, fitsL_nil, slen_is, scat_is, ssub_is, sidx_is, natI_is, imin_is, imax_is, Bool.not_eq_true', Bool.not_eq_false', Bool.and_eq_true, Bool.and_eq_false_imp, Bool.or_eq_true, Bool.or_eq_false_iff, decide_eq_true_eq, decide_eq_false_iff_not, true_and, and_true, reduceCtorEq, imp_false, not_false_eq_true, not_true_eq_false, false_imp_iff, true_imp_iff, forall_const, implies_true, Bool.not_true, Bool.not_false, ne_eq, Decidable.not_not, wadd, wsub, wmul, w_i64, w_i32, w_u64, w_u32, w_u16, w_u8, Nat.succ_eq_add_one, Nat.le_eq, Nat.sub_eq, Int.cast_ofNat_Int, Int.toNat_natCast, Int.reduceToNat, Int.reduceAdd, Int.reduceSub, Int.zero_add, lenN_is, fits3_is, nadd0, fits1_agg0, fits1_aggi, fits1_aggs, fits1_aggb, fits_agg0, fits_aggi, fits_aggs, fits_aggb] at *)
      obtain ⟨f1, f2, f3, f4⟩ := kfact ha ha' hm hE hB hk
      have e1 : (kk + (i : Int) + 9223372036854775808) % 18446744073709551616 - 9223372036854775808 = ((kk.toNat + i : Nat) : Int) := by omega
      have e0 : (8 * (m.length : Int) + 9223372036854775808) % 18446744073709551616 - 9223372036854775808 = 8 * (m.length : Int) := by omega
      rw [e1, e0] at hlt
      have e2 : wquo .i64 ((kk + (i : Int) + 9223372036854775808) % 18446744073709551616 - 9223372036854775808) 8 = (((kk.toNat + i) / 8 : Nat) : Int) := by
        rw [e1, wquo64, Int.tdiv_eq_ediv_of_nonneg (by omega), w_i64]; omega
      have e3 : ((kk + (i : Int) + 9223372036854775808) % 18446744073709551616 - 9223372036854775808).tmod 8 = (((kk.toNat + i) % 8 : Nat) : Int) := by
        rw [e1, Int.tmod_eq_emod_of_nonneg (by omega)]; omega
      exact ⟨e2 ▸ by omega, e2 ▸ by omega⟩
    · (subst hL; subst hQ; simp only [L2, L3, std] at *; try simp only [ilt_t, ilt_f, ile_t, ile_f, ieq_t, ieq_f, ine_t, ine_f, seq_t, seq_f, inR_t, inS_t, inC_t, mkOk_t, roomOk_t, catOk_t, fits_bool, fits_int, fits_str, fits1_bool, fits1_int, fits1_str, fits_tup, fitsL_cons, fitsL_nil, slen_is, scat_is, ssub_is, sidx_is, natI_is, imin_is, imax_is, Bool.not_eq_true', Bool.not_eq_false', Bool.and_eq_true, Bool.and_eq_false_imp, Bool.or_eq_true, Bool.or_eq_false_iff, decide_eq_true_eq, decide_eq_false_iff_not, true_and, and_true, reduceCtorEq, imp_false, not_false_eq_true, not_true_eq_false, false_imp_iff, true_imp_iff, forall_const, implies_true, Bool.not_true, Bool.not_false, ne_eq, Decidable.not_not, wadd, wsub, wmul, w_i64, w_i32, w_u64, w_u32, w_u16, w_u8, Nat.succ_eq_add_one, Nat.le_eq, Nat.sub_eq, Int.cast_ofNat_Int, Int.toNat_natCast, Int.reduceToNat, Int.reduceAdd, Int.reduceSub, Int.zero_add, lenN_is, fits3_is, nadd0, fits1_agg0, fits1_aggi, fits1_aggs, fits1_aggb, fits_agg0, fits_aggi, fits_aggs, fits_aggb] at *); omega
    · (subst hL; subst hQ; simp only [L2, L3, std] at *; try simp only [ilt_t, ilt_f, ile_t, ile_f, ieq_t, ieq_f, ine_t, ine_f, seq_t, seq_f, inR_t, inS_t, inC_t, mkOk_t, roomOk_t, catOk_t, fits_bool, fits_int, fits_str, fits1_bool, fits1_int, fits1_str, fits_tup, fitsL_cons, fitsL_nil, slen_is, scat_is, ssub_is, sidx_is, natI_is, imin_is, imax_is, Bool.not_eq_true', Bool.not_eq_false', Bool.and_eq_true, Bool.and_eq_false_imp, Bool.or_eq_true, Bool.or_eq_false_iff, decide_eq_true_eq, decide_eq_false_iff_not, true_and, and_true, reduceCtorEq, imp_false, not_false_eq_true, not_true_eq_false, false_imp_iff, true_imp_iff, forall_const, implies_true, Bool.not_true, Bool.not_false, ne_eq, Decidable.not_not, wadd, wsub, wmul, w_i64, w_i32, w_u64, w_u32, w_u16, w_u8, Nat.succ_eq_add_one, Nat.le_eq, Nat.sub_eq, Int.cast_ofNat_Int, Int.toNat_natCast, Int.reduceToNat, Int.reduceAdd, Int.reduceSub, Int.zero_add, lenN_is, fits3_is, nadd0, fits1_agg0, fits1_aggi, fits1_aggs, fits1_aggb, fits_agg0, fits_aggi, fits_aggs, fits_aggb] at *)
      obtain ⟨f1, f2, f3, f4⟩ := kfact ha ha' hm hE hB hk
      have e1 : (kk + (i : Int) + 9223372036854775808) % 18446744073709551616 - 9223372036854775808 = ((kk.toNat + i : Nat) : Int) := by omega
      have e0 : (8 * (m.length : Int) + 9223372036854775808) % 18446744073709551616 - 9223372036854775808 = 8 * (m.length : Int) := by omega
      rw [e1, e0] at hlt
      have e2 : wquo .i64 ((kk + (i : Int) + 9223372036854775808) % 18446744073709551616 - 9223372036854775808) 8 = (((kk.toNat + i) / 8 : Nat) : Int) := by
        rw [e1, wquo64, Int.tdiv_eq_ediv_of_nonneg (by omega), w_i64]; omega
      have e3 : ((kk + (i : Int) + 9223372036854775808) % 18446744073709551616 - 9223372036854775808).tmod 8 = (((kk.toNat + i) % 8 : Nat) : Int) := by
        rw [e1, Int.tmod_eq_emod_of_nonneg (by omega)]; omega
      rw [e3]; omega
    · (subst hL; subst hQ; simp only [L2, L3, std] at *; try simp only [ilt_t, ilt_f, ile_t, ile_f, ieq_t, ieq_f, ine_t, ine_f, seq_t, seq_f, inR_t, inS_t, inC_t, mkOk_t, roomOk_t, catOk_t, fits_bool, fits_int, fits_str, fits1_bool, fits1_int, fits1_str, fits_tup, fitsL_cons, fitsL_nil, slen_is, scat_is, ssub_is, sidx_is, natI_is, imin_is, imax_is, Bool.not_eq_true', Bool.not_eq_false', Bool.and_eq_true, Bool.and_eq_false_imp, Bool.or_eq_true, Bool.or_eq_false_iff, decide_eq_true_eq, decide_eq_false_iff_not, true_and, and_true, reduceCtorEq, imp_false, not_false_eq_true, not_true_eq_false, false_imp_iff, true_imp_iff, forall_const, implies_true, Bool.not_true, Bool.not_false, ne_eq, Decidable.not_not, wadd, wsub, wmul, w_i64, w_i32, w_u64, w_u32, w_u16, w_u8, Nat.succ_eq_add_one, Nat.le_eq, Nat.sub_eq, Int.cast_ofNat_Int, Int.toNat_natCast, Int.reduceToNat, Int.reduceAdd, Int.reduceSub, Int.zero_add, lenN_is, fits3_is, nadd0, fits1_agg0, fits1_aggi, fits1_aggs, fits1_aggb, fits_agg0, fits_aggi, fits_aggs, fits_aggb] at *)
      obtain ⟨f1, f2, f3, f4⟩ := kfact ha ha' hm hE hB hk
      have e1 : (kk + (i : Int) + 9223372036854775808) % 18446744073709551616 - 9223372036854775808 = ((kk.toNat + i : Nat) : Int) := by omega
      have e0 : (8 * (m.length : Int) + 9223372036854775808) % 18446744073709551616 - 9223372036854775808 = 8 * (m.length : Int) := by omega
      rw [e1, e0] at hlt
      have e2 : wquo .i64 ((kk + (i : Int) + 9223372036854775808) % 18446744073709551616 - 9223372036854775808) 8 = (((kk.toNat + i) / 8 : Nat) : Int) := by
        rw [e1, wquo64, Int.tdiv_eq_ediv_of_nonneg (by omega), w_i64]; omega
      have e3 : ((kk + (i : Int) + 9223372036854775808) % 18446744073709551616 - 9223372036854775808).tmod 8 = (((kk.toNat + i) % 8 : Nat) : Int) := by
        rw [e1, Int.tmod_eq_emod_of_nonneg (by omega)]; omega
      exact ⟨e2 ▸ by omega, e2 ▸ by omega⟩
    · (cbv; try simp only [sat_need, sat_must, sat_ite, sat_done, sat_yes, sat_ex, sat_all, sat_sup, sat_and, sat_fail, true_and, and_true])
      (subst hL; subst hQ; simp only [L2, L3, std] at *; try simp only [ilt_t, ilt_f, ile_t, ile_f, ieq_t, ieq_f, ine_t, ine_f, seq_t, seq_f, inR_t, inS_t, inC_t, mkOk_t, roomOk_t, catOk_t, fits_bool, fits_int, fits_str, fits1_bool, fits1_int, fits1_str, fits_tup, fitsL_cons, fitsL_nil, slen_is, scat_is, ssub_is, sidx_is, natI_is, imin_is, imax_is, Bool.not_eq_true', Bool.not_eq_false', Bool.and_eq_true, Bool.and_eq_false_imp, Bool.or_eq_true, Bool.or_eq_false_iff, decide_eq_true_eq, decide_eq_false_iff_not, true_and, and_true, reduceCtorEq, imp_false, not_false_eq_true, not_true_eq_false, false_imp_iff, true_imp_iff, forall_const, implies_true, Bool.not_true, Bool.not_false, ne_eq, Decidable.not_not, wadd, wsub, wmul, w_i64, w_i32, w_u64, w_u32, w_u16, w_u8, Nat.succ_eq_add_one, Nat.le_eq, Nat.sub_eq, Int.cast_ofNat_Int, Int.toNat_natCast, Int.reduceToNat, Int.reduceAdd, Int.reduceSub, Int.zero_add, lenN_is, fits3_is, nadd0, fits1_agg0, fits1_aggi, fits1_aggs, fits1_aggb, fits_agg0, fits_aggi, fits_aggs, fits_aggb] at *)
      obtain ⟨f1, f2, f3, f4⟩ := kfact ha ha' hm hE hB hk
      have e1 : (kk + (i : Int) + 9223372036854775808) % 18446744073709551616 - 9223372036854775808 = ((kk.toNat + i : Nat) : Int) := by omega
      have e0 : (8 * (m.length : Int) + 9223372036854775808) % 18446744073709551616 - 9223372036854775808 = 8 * (m.length : Int) := by omega
      rw [e1, e0] at hlt
      have e2 : wquo .i64 ((kk + (i : Int) + 9223372036854775808) % 18446744073709551616 - 9223372036854775808) 8 = (((kk.toNat + i) / 8 : Nat) : Int) := by
        rw [e1, wquo64, Int.tdiv_eq_ediv_of_nonneg (by omega), w_i64]; omega
      have e3 : ((kk + (i : Int) + 9223372036854775808) % 18446744073709551616 - 9223372036854775808).tmod 8 = (((kk.toNat + i) % 8 : Nat) : Int) := by
        rw [e1, Int.tmod_eq_emod_of_nonneg (by omega)]; omega
      refine ⟨fun t j ht hj => ?_, by omega, turn_step m l l' kk i f3 (by omega) hl' hx, by omega⟩
      rw [over1 _ _ _ _ _ _ hj, e2, e3]
      have hr8 : (kk.toNat + i) % 8 < 8 := Nat.mod_lt _ (by omega)
      obtain ⟨hx1, hx2, hx3⟩ := hx
      have hx2 : l.length = m.length := hx2
      have hq : (kk.toNat + i) / 8 < l.length := by omega
      generalize (kk.toNat + i) / 8 = q at *
      generalize (kk.toNat + i) % 8 = r at *
      have hx4 : (UInt8.ofNat (2 ^ r)).toNat = 2 ^ r := by
        rw [UInt8.toNat_ofNat', Nat.mod_eq_of_lt]
        exact Nat.pow_lt_pow_right (by decide) hr8
      have hs : wshl .u8 1 (r : Int) = ((UInt8.ofNat (2 ^ r)).toNat : Int) := by
        rw [wshl, hx4, w_u8, show IntKind.u8.bits = 8 from rfl, Int.toNat_natCast, Nat.min_eq_left (by omega), Int.one_mul]
        have h1 : ((2 ^ r : Nat) : Int) = (2 : Int) ^ r := by simp
        have h2 : 2 ^ r < 2 ^ 8 := Nat.pow_lt_pow_right (by decide) hr8
        rw [← h1]; omega
      rw [hs, Int.toNat_natCast]
      have hb8 : bxor .u8 (byteAt l q) ((UInt8.ofNat (2 ^ r)).toNat : Int) = ((l.getD q 0 ^^^ UInt8.ofNat (2 ^ r)).toNat : Int) := xor_u8 _ _
      rw [hb8, hl']
      refine congrArg (AV.int .u8) ?_
      by_cases e : t = q
      · subst e
        rw [if_pos rfl, byteAt, List.getD_eq_getElem?_getD (l := l.set _ _), List.getElem?_set_self hq]; rfl
      · rw [if_neg e, byteAt, byteAt, List.getD_eq_getElem?_getD (l := l.set _ _), List.getElem?_set_ne (fun h => e h.symm), ← List.getD_eq_getElem?_getD]
    · (cbv; try simp only [sat_need, sat_must, sat_ite, sat_done, sat_yes, sat_ex, sat_all, sat_sup, sat_and, sat_fail, true_and, and_true])
      (subst hL; subst hQ; simp only [L2, L3, std] at *; try simp only [ilt_t, ilt_f, ile_t, ile_f, ieq_t, ieq_f, ine_t, ine_f, seq_t, seq_f, inR_t, inS_t, inC_t, mkOk_t, roomOk_t, catOk_t, fits_bool, fits_int, fits_str, fits1_bool, fits1_int, fits1_str, fits_tup, fitsL_cons, fitsL_nil, slen_is, scat_is, ssub_is, sidx_is, natI_is, imin_is, imax_is, Bool.not_eq_true', Bool.not_eq_false', Bool.and_eq_true, Bool.and_eq_false_imp, Bool.or_eq_true, Bool.or_eq_false_iff, decide_eq_true_eq, decide_eq_false_iff_not, true_and, and_true, reduceCtorEq, imp_false, not_false_eq_true, not_true_eq_false, false_imp_iff, true_imp_iff, forall_const, implies_true, Bool.not_true, Bool.not_false, ne_eq, Decidable.not_not, wadd, wsub, wmul, w_i64, w_i32, w_u64, w_u32, w_u16, w_u8, Nat.succ_eq_add_one, Nat.le_eq, Nat.sub_eq, Int.cast_ofNat_Int, Int.toNat_natCast, Int.reduceToNat, Int.reduceAdd, Int.reduceSub, Int.zero_add, lenN_is, fits3_is, nadd0, fits1_agg0, fits1_aggi, fits1_aggs, fits1_aggb, fits_agg0, fits_aggi, fits_aggs, fits_aggb] at *)
      exact ⟨by omega, ⟨by omega, hx.2.1, hx.2.2⟩, by omega⟩
    · (cbv; try simp only [sat_need, sat_must, sat_ite, sat_done, sat_yes, sat_ex, sat_all, sat_sup, sat_and, sat_fail, true_and, and_true])
      (subst hL; subst hQ; simp only [L2, L3, std] at *; try simp only [ilt_t, ilt_f, ile_t, ile_f, ieq_t, ieq_f, ine_t, ine_f, seq_t, seq_f, inR_t, inS_t, inC_t, mkOk_t, roomOk_t, catOk_t, fits_bool, fits_int, fits_str, fits1_bool, fits1_int, fits1_str, fits_tup, fitsL_cons, fitsL_nil, slen_is, scat_is, ssub_is, sidx_is, natI_is, imin_is, imax_is, Bool.not_eq_true', Bool.not_eq_false', Bool.and_eq_true, Bool.and_eq_false_imp, Bool.or_eq_true, Bool.or_eq_false_iff, decide_eq_true_eq, decide_eq_false_iff_not, true_and, and_true, reduceCtorEq, imp_false, not_false_eq_true, not_true_eq_false, false_imp_iff, true_imp_iff, forall_const, implies_true, Bool.not_true, Bool.not_false, ne_eq, Decidable.not_not, wadd, wsub, wmul, w_i64, w_i32, w_u64, w_u32, w_u16, w_u8, Nat.succ_eq_add_one, Nat.le_eq, Nat.sub_eq, Int.cast_ofNat_Int, Int.toNat_natCast, Int.reduceToNat, Int.reduceAdd, Int.reduceSub, Int.zero_add, lenN_is, fits3_is, nadd0, fits1_agg0, fits1_aggi, fits1_aggs, fits1_aggb, fits_agg0, fits_aggi, fits_aggs, fits_aggb] at *)
      exact ⟨by omega, ⟨by omega, hx.2.1, hx.2.2⟩, by omega⟩
    · (subst hL; subst hQ; simp only [L2, L3, std] at *; try simp only [ilt_t, ilt_f, ile_t, ile_f, ieq_t, ieq_f, ine_t, ine_f, seq_t, seq_f, inR_t, inS_t, inC_t, mkOk_t, roomOk_t, catOk_t, fits_bool, fits_int, fits_str, fits1_bool, fits1_int, fits1_str, fits_tup, fitsL_cons, fitsL_nil, slen_is, scat_is, ssub_is, sidx_is, natI_is, imin_is, imax_is, Bool.not_eq_true', Bool.not_eq_false', Bool.and_eq_true, Bool.and_eq_false_imp, Bool.or_eq_true, Bool.or_eq_false_iff, decide_eq_true_eq, decide_eq_false_iff_not, true_and, and_true, reduceCtorEq, imp_false, not_false_eq_true, not_true_eq_false, false_imp_iff, true_imp_iff, forall_const, implies_true, Bool.not_true, Bool.not_false, ne_eq, Decidable.not_not, wadd, wsub, wmul, w_i64, w_i32, w_u64, w_u32, w_u16, w_u8, Nat.succ_eq_add_one, Nat.le_eq, Nat.sub_eq, Int.cast_ofNat_Int, Int.toNat_natCast, Int.reduceToNat, Int.reduceAdd, Int.reduceSub, Int.zero_add, lenN_is, fits3_is, nadd0, fits1_agg0, fits1_aggi, fits1_aggs, fits1_aggb, fits_agg0, fits_aggi, fits_aggs, fits_aggb] at *)
      obtain ⟨f1, f2, f3, f4⟩ := kfact ha ha' hm hE hB hk
      obtain ⟨hx1, hx2, hx3⟩ := hx
      have hx2 : l.length = m.length := hx2
      have el : (bytesOf m.length fun i => (AV.int .u8 (byteAt l (0 + i))).toI) = l := by
        rw [← hx2]; exact bytesOf_at l
      rw [el]
      refine ⟨⟨by omega, fun i _ => ⟨_, rfl⟩⟩, by show l.length ≤ 900000; omega, ⟨by omega, fun i _ => ⟨_, rfl⟩⟩, ?_⟩
      have F := frame_is k e b [] hE h0 h1
      rw [List.append_nil, hm] at F
      by_cases hlm : l = m
      · subst hlm
        have : paE l = 0 := by rw [paE, if_neg (fun h => h.2 F.R), F.E]
        simp [this, ieq, seq, beqB]
      · have : paE l ≠ 0 := by
          intro hp
          refine hlm (burst_same m l kk.toNat hx2 ?_ ?_ hx3)
          · rw [← hm, byT, if_pos hE]; exact crcRun_mark _
          · exact pa_marked l hp
        have e1 : ieq (paE l) 0 = false := by simpa [ieq] using this
        have e2 : seq l m = false := by simpa [seq] using hlm
        rw [e1, e2]; rfl
theorem walk_FrameTurned (k : Int) (e : Nat) (b : List UInt8) (a y : Nat) (w : World) (k0 : -9223372036854775808 ≤ k) (k1 : k ≤ 9223372036854775807) (h1 : e < 18446744073709551616) (hb : b.length ≤ 9223372036854775807) (ha : a < 65536) (hy : y < 4294967296) :
    Calls Try.prog 13 #[.agg #[.int .i64 k, .int .u64 e, .string ⟨b.toArray⟩], .int .u16 a, .int .u32 y] w fun e w' => e = .returned (.bool true) ∧ Below w.heap.size w w' :=
  law_of_ac (fn := Try.f13) rfl rfl (by kernel_rfl) (frameTurned_ac k e b a y (by omega) (by omega) hb (by omega) (by omega) (by omega) (by omega)) (fun _ => False) w (fun b h => h.elim)
    (rl_of (agg_r (rl_of (.int _ _) (rl_of (.int _ _) (rl_of (str_r _ _ _ _) rl_nil))) (by intro i v h; match i with | 0 => cases h; rfl | 1 => cases h; rfl | 2 => cases h; rfl | i + 3 => simp at h)) (rl_of (.int _ _) (rl_of (.int _ _) rl_nil)))
end Sy
end Go.Proofs.Ytgmafhogkdhadaa
