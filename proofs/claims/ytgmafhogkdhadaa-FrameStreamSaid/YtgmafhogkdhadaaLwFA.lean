/- The law FrameBytes: any frame as bytes, and back. -/
import Derived.Test.YtgmafhogkdhadaaAcG
namespace Go.Proofs.Ytgmafhogkdhadaa
namespace Sy
open Go Go.RowKit
set_option maxRecDepth 100000
set_option linter.unusedSimpArgs false
set_option linter.unusedVariables false

theorem awake08_ac : ACalls Try.prog 39 [] (.bool true) := by
  refine acalls_L (T := tt) (S := fun L => sumOf [by_s L, tru 50, size_s L]) (lo := noA) (lb := noA) 5 (fn := Try.f39) rfl rfl (by kernel_rfl) (by kernel_rfl) rfl tt_ok (sumOf_ok ⟨by_good, tru_good Awake02_ac, size_good, trivial⟩) (by kernel_rfl) ?_
  (intro L P1 Q1 hL hP hQ; cbv; subst hL; simp only [L2, L3, std, sat_need, sat_must, sat_ite, sat_done, sat_yes, sat_ex, sat_all, sat_sup, sat_and, sat_fail]; subst hQ)
  (simp only [ilt_t, ilt_f, ile_t, ile_f, ieq_t, ieq_f, ine_t, ine_f, seq_t, seq_f, inR_t, inS_t, inC_t, mkOk_t, roomOk_t, catOk_t, fits_bool, fits_int, fits_str, fits1_bool, fits1_int, fits1_str, fits_tup, fitsL_cons, fitsL_nil, slen_is, scat_is, ssub_is, sidx_is, natI_is, imin_is, imax_is, Bool.not_eq_true', Bool.not_eq_false', Bool.and_eq_true, Bool.and_eq_false_imp, Bool.or_eq_true, Bool.or_eq_false_iff, decide_eq_true_eq, decide_eq_false_iff_not, true_and, and_true, reduceCtorEq, imp_false, not_false_eq_true, not_true_eq_false, false_imp_iff, true_imp_iff, forall_const, implies_true, Bool.not_true, Bool.not_false, ne_eq, Decidable.not_not, wadd, wsub, wmul, w_i64, w_i32, w_u64, w_u32, w_u16, w_u8, Nat.succ_eq_add_one, Nat.le_eq, Nat.sub_eq, Int.cast_ofNat_Int, Int.toNat_natCast, Int.reduceToNat, Int.reduceAdd, Int.reduceSub, Int.zero_add, lenN_is, fits3_is, nadd0, fits1_agg0, fits1_aggi, fits1_aggs, fits1_aggb, fits_agg0, fits_aggi, fits_aggs, fits_aggb, fits1_lst, fits_lst, fits1_nils, fits_nils, fits1_aggl, fits1_aggn])
  have e : byE 1 [] = 0 := rfl
  have t : byT 1 0 [] = markL (headT 1 0 []) := rfl
  rw [t, markL_length, headT_length]
  simp [byOk, e]
/-- Of any text: what Next and Parse, and the document's Next, say of it. -/
theorem tail (s : List UInt8) : (¬nxE s = 0 → (nxR s = [] → (paE s = nxE s → paK s = 0 ∧ paP s = 0 ∧ paB s = []) ∧ paE s = nxE s) ∧ nxR s = []) ∧
    (nxE s = 0 → (rnL s < ↑s.length → (0 ≤ rnL s ∧ rnL s ≤ ↑s.length) ∧ (nxR s = List.drop (rnL s).toNat s → (paE s = 4 → paK s = 0 ∧ paP s = 0 ∧ paB s = []) ∧ paE s = 4) ∧ nxR s = List.drop (rnL s).toNat s) ∧
      (↑s.length ≤ rnL s → (nxR s = [] → (paE s = 0 → paK s = nxK s ∧ paP s = nxP s ∧ paB s = nxB s) ∧ paE s = 0) ∧ nxR s = [])) := by
  refine ⟨fun h => ?_, fun h => ?_⟩
  · obtain ⟨e1, e2, e3, e4⟩ := nx_bad s h
    have pe : paE s = nxE s := if_neg (fun x => h x.1)
    refine ⟨fun _ => ⟨fun _ => ?_, pe⟩, e4⟩
    rw [paK, paP, paB, if_neg (by rw [pe]; exact h), if_neg (by rw [pe]; exact h), if_neg (by rw [pe]; exact h)]
    exact ⟨rfl, rfl, rfl⟩
  · obtain ⟨hl, _⟩ := nx_len s h
    have hN := (nxN_bound s).1
    have hL : rnL s = nxN s + 20 := if_pos h
    have hR : nxR s = s.drop (rnL s).toNat := by rw [nxR, if_pos h, hL]
    refine ⟨fun hlt => ⟨by omega, fun _ => ?_, hR⟩, fun hge => ?_⟩
    · have hne : nxR s ≠ [] := by
        intro e
        have := congrArg List.length (hR.symm.trans e)
        simp only [List.length_drop, List.length_nil] at this
        omega
      have pe : paE s = 4 := if_pos ⟨h, hne⟩
      refine ⟨fun _ => ?_, pe⟩
      rw [paK, paP, paB, if_neg (by rw [pe]; decide), if_neg (by rw [pe]; decide), if_neg (by rw [pe]; decide)]
      exact ⟨rfl, rfl, rfl⟩
    · have he : nxR s = [] := by rw [hR]; exact List.drop_eq_nil_of_le (by omega)
      have pe : paE s = 0 := by rw [paE, if_neg (fun x => x.2 he), h]
      refine ⟨fun _ => ⟨fun _ => ?_, pe⟩, he⟩
      rw [paK, paP, paB, if_pos pe, if_pos pe, if_pos pe]
      exact ⟨rfl, rfl, rfl⟩
theorem frameBytes_ac (k e : Int) (b s : List UInt8) (h0 : 0 ≤ e) (h1 : e < 18446744073709551616) (hb : b.length ≤ 9223372036854775807) (hs : s.length ≤ 9223372036854775807) :
    ACalls Try.prog 12 [.agg [.int .i64 k, .int .u64 e, .str b], .str s] (.bool true) := by
  refine acalls_L (T := tt) (S := fun L => sumOf [tru 39, by_s L, rby_s L, next_s L, parse_s L, rnext_s L, size_s L]) (lo := noA) (lb := noA) 5 (fn := Try.f12) rfl rfl (by kernel_rfl) (by kernel_rfl) rfl tt_ok
    (sumOf_ok ⟨tru_good awake08_ac, by_good, rby_good, next_good, parse_good, rnext_good, size_good, trivial⟩) (by kernel_rfl) ?_
  (intro L P1 Q1 hL hP hQ; cbv; subst hL; simp only [L2, L3, std, sat_need, sat_must, sat_ite, sat_done, sat_yes, sat_ex, sat_all, sat_sup, sat_and, sat_fail]; subst hQ)
  (simp only [ilt_t, ilt_f, ile_t, ile_f, ieq_t, ieq_f, ine_t, ine_f, seq_t, seq_f, inR_t, inS_t, inC_t, mkOk_t, roomOk_t, catOk_t, fits_bool, fits_int, fits_str, fits1_bool, fits1_int, fits1_str, fits_tup, fitsL_cons, fitsL_nil, slen_is, scat_is, ssub_is, sidx_is, natI_is, imin_is, imax_is, Bool.not_eq_true', Bool.not_eq_false', Bool.and_eq_true, Bool.and_eq_false_imp, Bool.or_eq_true, Bool.or_eq_false_iff, decide_eq_true_eq, decide_eq_false_iff_not, true_and, and_true, reduceCtorEq, imp_false, not_false_eq_true, not_true_eq_false, false_imp_iff, true_imp_iff, forall_const, implies_true, Bool.not_true, Bool.not_false, ne_eq, Decidable.not_not, wadd, wsub, wmul, w_i64, w_i32, w_u64, w_u32, w_u16, w_u8, Nat.succ_eq_add_one, Nat.le_eq, Nat.sub_eq, Int.cast_ofNat_Int, Int.toNat_natCast, Int.reduceToNat, Int.reduceAdd, Int.reduceSub, Int.zero_add, lenN_is, fits3_is, nadd0, fits1_agg0, fits1_aggi, fits1_aggs, fits1_aggb, fits_agg0, fits_aggi, fits_aggs, fits_aggb, fits1_lst, fits_lst, fits1_nils, fits_nils, fits1_aggl, fits1_aggn])
  refine fun hm => ⟨⟨h0, h1, by omega⟩, ⟨h0, h1, by omega⟩, fun hE => ?_, fun hE => ⟨by unfold upto; omega, by unfold upto; omega, by unfold upto; omega, tail s⟩⟩
  have F := frame_is k e b s hE h0 h1
  have G := frame_is k e b [] hE h0 h1
  rw [List.append_nil] at G
  have hl := G.len
  have hB := (byE_ok hE).2.2
  simp only [List.length_nil, Nat.add_zero] at hl
  have pe : paE (byT k e b) = 0 := by rw [paE, if_neg (fun h => h.2 G.R), G.E]
  refine ⟨by omega, by unfold upto; simp only [List.length_append]; omega, by unfold upto; omega, F.E, fun _ => ⟨fun h => h F.K F.P F.B, fun _ => ⟨F.R, fun _ => ⟨pe, fun _ => ⟨fun h => h (by rw [paK, if_pos pe, G.K]) (by rw [paP, if_pos pe, G.P]) (by rw [paB, if_pos pe, G.B]), fun _ => ⟨by omega, by omega, fun _ => ⟨by unfold upto; omega, by unfold upto; omega, by unfold upto; omega, tail s⟩⟩⟩⟩⟩⟩⟩
theorem walk_FrameBytes (k : Int) (e : Nat) (b s : List UInt8) (w : World) (k0 : -9223372036854775808 ≤ k) (k1 : k ≤ 9223372036854775807) (h1 : e < 18446744073709551616) (hb : b.length ≤ 9223372036854775807) (hs : s.length ≤ 140737488351232) :
    Calls Try.prog 12 #[.agg #[.int .i64 k, .int .u64 e, .string ⟨b.toArray⟩], .string ⟨s.toArray⟩] w fun e w' => e = .returned (.bool true) ∧ Below w.heap.size w w' :=
  law_of_ac (fn := Try.f12) rfl rfl (by kernel_rfl) (frameBytes_ac k e b s (by omega) (by omega) hb (by omega)) (fun _ => False) w (fun b h => h.elim)
    (rl_of (agg_r (rl_of (.int _ _) (rl_of (.int _ _) (rl_of (str_r _ _ _ _) rl_nil))) (by intro i v h; match i with | 0 => cases h; rfl | 1 => cases h; rfl | 2 => cases h; rfl | i + 3 => simp at h)) (rl_of (str_r _ _ _ _) rl_nil))
end Sy
end Go.Proofs.Ytgmafhogkdhadaa
