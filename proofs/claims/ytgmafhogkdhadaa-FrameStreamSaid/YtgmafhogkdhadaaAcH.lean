/- Chapter 8 (frame): All. -/
import Derived.Test.YtgmafhogkdhadaaAcG
import Derived.Test.YtgmafhogkdhadaaOpn
namespace Go.Proofs.Ytgmafhogkdhadaa
namespace Sy
open Go Go.RowKit
set_option maxRecDepth 100000
set_option linter.unusedSimpArgs false
set_option linter.unusedVariables false

structure Fr where
  k : Int
  e : Int
  b : List UInt8
def frAt (L : Seal) (f : Fr) : Nat → AV
  | 0 => .int .i64 (L Fr.k f)
  | 1 => .int .u64 (L Fr.e f)
  | _ => .str (L Fr.b f)
def nthF (l : List Fr) (i : Nat) : Fr := l.getD i ⟨0, 0, []⟩
def lenF (l : List Fr) : Nat := l.length
def nxF (s : List UInt8) : Fr := ⟨nxK s, nxP s, nxB s⟩
def restN (s : List UInt8) : Nat → List UInt8
  | 0 => s
  | i + 1 => nxR (restN s i)
def allC : Nat → List UInt8 → List Fr
  | 0, _ => []
  | n + 1, s => if nxE s = 0 then nxF s :: allC n (nxR s) else []
/-- All frames of a text. -/
def allF (s : List UInt8) : List Fr := allC (s.length + 1) s
def allR (s : List UInt8) : List UInt8 := restN s (allF s).length

theorem nxR_len (s : List UInt8) (h : nxE s = 0) : (nxR s).length + 20 ≤ s.length := by
  obtain ⟨h1, h2⟩ := nx_len s h
  have := (nxN_bound s).1
  rw [nxR, if_pos h, List.length_drop]; omega
theorem restN_succ (s : List UInt8) : ∀ i, restN s (i + 1) = restN (nxR s) i
  | 0 => rfl
  | i + 1 => by rw [restN, restN_succ s i]; rfl
theorem allC_at : ∀ (n : Nat) (s : List UInt8), s.length < n → (∀ i, i < (allC n s).length → (allC n s).getD i ⟨0, 0, []⟩ = nxF (restN s i) ∧ nxE (restN s i) = 0) ∧ nxE (restN s (allC n s).length) ≠ 0
  | 0, s, h => by omega
  | n + 1, s, h => by
    unfold allC
    by_cases hE : nxE s = 0
    · rw [if_pos hE]
      have := nxR_len s hE
      obtain ⟨h1, h2⟩ := allC_at n (nxR s) (by omega)
      refine ⟨fun i hi => ?_, ?_⟩
      · cases i with
        | zero => exact ⟨rfl, hE⟩
        | succ i =>
          rw [restN_succ]
          simp only [List.length_cons] at hi
          have := h1 i (by omega)
          exact ⟨by rw [← this.1]; rfl, this.2⟩
      · rw [List.length_cons, restN_succ]; exact h2
    · rw [if_neg hE]; exact ⟨fun i hi => by simp at hi, hE⟩
theorem allF_at (s : List UInt8) : (∀ i, i < (allF s).length → nthF (allF s) i = nxF (restN s i) ∧ nxE (restN s i) = 0) ∧ nxE (restN s (allF s).length) ≠ 0 := allC_at _ s (by omega)
theorem restN_len (s : List UInt8) : ∀ i, i ≤ (allF s).length → (restN s i).length + 20 * i ≤ s.length
  | 0, _ => by simp [restN]
  | i + 1, h => by
    have h1 := restN_len s i (by omega)
    have h2 := nxR_len _ ((allF_at s).1 i (by omega)).2
    rw [restN]; omega
theorem allF_len (s : List UInt8) : 20 * (allF s).length ≤ s.length := by
  have := restN_len s _ (Nat.le_refl _); omega

theorem allC_fuel : ∀ (n m : Nat) (s : List UInt8), s.length < n → s.length < m → allC n s = allC m s
  | 0, _, s, h, _ => by omega
  | _, 0, s, _, h => by omega
  | n + 1, m + 1, s, h, h' => by
    unfold allC
    by_cases hE : nxE s = 0
    · have := nxR_len s hE
      rw [if_pos hE, if_pos hE, allC_fuel n m (nxR s) (by omega) (by omega)]
    · rw [if_neg hE, if_neg hE]
theorem allF_cons (s : List UInt8) (h : nxE s = 0) : allF s = nxF s :: allF (nxR s) := by
  have := nxR_len s h
  rw [allF, allC, if_pos h, allF, allC_fuel s.length ((nxR s).length + 1) (nxR s) (by omega) (by omega)]
theorem allF_none (s : List UInt8) (h : nxE s ≠ 0) : allF s = [] := by rw [allF, allC, if_neg h]
/-- A frame's text ahead of others. -/
theorem allF_frame (f : Fr) (r : List UInt8) (hE : byE f.k f.b = 0) (h0 : 0 ≤ f.e) (h1 : f.e < 18446744073709551616) : allF (byT f.k f.e f.b ++ r) = f :: allF r := by
  have F := frame_is f.k f.e f.b r hE h0 h1
  rw [allF_cons _ F.E, F.R, nxF, F.K, F.P, F.B]
theorem restN_frame (f : Fr) (r : List UInt8) (hE : byE f.k f.b = 0) (h0 : 0 ≤ f.e) (h1 : f.e < 18446744073709551616) (i : Nat) : restN (byT f.k f.e f.b ++ r) (i + 1) = restN r i := by
  rw [restN_succ, (frame_is f.k f.e f.b r hE h0 h1).R]
def offN (s : List UInt8) (i : Nat) : Int := (s.length : Int) - ((restN s i).length : Int)
theorem restN_off (s : List UInt8) : ∀ i, i ≤ (allF s).length → 0 ≤ offN s i ∧ offN s i ≤ (s.length : Int) ∧ s.drop (offN s i).toNat = restN s i
  | 0, _ => by simp [offN, restN]
  | i + 1, h => by
    obtain ⟨h1, h2, h3⟩ := restN_off s i (by omega)
    have hE := ((allF_at s).1 i (by omega)).2
    have hl := nx_len _ hE
    have h0 := (nxN_bound (restN s i)).1
    have e : restN s (i + 1) = (restN s i).drop (nxN (restN s i) + 20).toNat := by rw [restN, nxR, if_pos hE]
    have el : ((restN s (i + 1)).length : Int) = (restN s i).length - (nxN (restN s i) + 20) := by rw [e, List.length_drop]; omega
    have eo : offN s (i + 1) = offN s i + (nxN (restN s i) + 20) := by unfold offN; omega
    refine ⟨by omega, by unfold offN; omega, ?_⟩
    rw [eo, show (offN s i + (nxN (restN s i) + 20)).toNat = (offN s i).toNat + (nxN (restN s i) + 20).toNat by omega, ← List.drop_drop, h3, e]
theorem offN_succ (s : List UInt8) (i : Nat) (h : i < (allF s).length) : offN s (i + 1) = offN s i + rnL (restN s i) := by
  have hE := ((allF_at s).1 i h).2
  have hl := nx_len _ hE
  have h0 := (nxN_bound (restN s i)).1
  have e : restN s (i + 1) = (restN s i).drop (nxN (restN s i) + 20).toNat := by rw [restN, nxR, if_pos hE]
  have el : ((restN s (i + 1)).length : Int) = (restN s i).length - (nxN (restN s i) + 20) := by rw [e, List.length_drop]; omega
  rw [rnL, if_pos hE]
  unfold offN; omega

def allA (L : Seal) (s0 : List UInt8) : Nat → St → Option Ann := fun id s => match id with
  | 0 => some ⟨Nat, fun i => [(0, .str (L2 L restN s0 i)), (4, .sl 900 3 0 i)], fun i => [(900, .row 3 i (fun i j => frAt L (L2 L nthF (L allF s0) i) j))], [], [],
      fun i => L2 L (fun s i => i ≤ (allF s).length) s0 i, fun i => L2 L (fun s i => (allF s).length - i) s0 i⟩
  | _ => none
def all_s (L : Seal) : Ent1 := (46, fun xs => match xs with | [.str s] => some (L2 L upto 900000 s, .tup [.lst 3 (L lenF (L allF s)) (fun i j => frAt L (L2 L nthF (L allF s) i) j), .str (L allR s)]) | _ => none)
theorem all_good : Good Try.prog (all_s std) := by
  intro xs p r h hp
  dsimp only [all_s] at h ⊢
  split at h <;> cases h
  try simp only [L2, L3, std] at hp ⊢
  rename_i s
  refine acalls_L (T := tt) (S := fun L => sumOf [next_s L]) (lo := noA) (lb := fun L => allA L s) 5 (fn := Try.f46) rfl rfl (by kernel_rfl) (by kernel_rfl) rfl tt_ok (sumOf_ok ⟨next_good, trivial⟩) (by kernel_rfl) ?_
  intro L P' Q' hL hP hQ
  (cbv; try simp only [sat_need, sat_must, sat_ite, sat_done, sat_yes, sat_ex, sat_all, sat_sup, sat_and, sat_fail, true_and, and_true])
  refine ⟨fun i hi => ?_, ⟨0, ?_⟩⟩
  · cbv at hi
    (cbv; try simp only [sat_need, sat_must, sat_ite, sat_done, sat_yes, sat_ex, sat_all, sat_sup, sat_and, sat_fail, true_and, and_true])
    refine ⟨?_, fun hE => ⟨?_, ⟨i + 1, ?_⟩⟩, fun hE => ?_⟩
    · (subst hL; subst hQ; simp only [L2, L3, std] at *; try simp only [ilt_t, ilt_f, ile_t, ile_f, ieq_t, ieq_f, ine_t, ine_f, seq_t, seq_f, inR_t, inS_t, inC_t, mkOk_t, roomOk_t, catOk_t, fits_bool, fits_int, fits_str, fits1_bool, fits1_int, fits1_str, fits_tup, fitsL_cons, fitsL_nil, slen_is, scat_is, ssub_is, sidx_is, natI_is, imin_is, imax_is, Bool.not_eq_true', Bool.not_eq_false', Bool.and_eq_true, Bool.and_eq_false_imp, Bool.or_eq_true, Bool.or_eq_false_iff, decide_eq_true_eq, decide_eq_false_iff_not, true_and, and_true, reduceCtorEq, imp_false, not_false_eq_true, not_true_eq_false, false_imp_iff, true_imp_iff, forall_const, implies_true, Bool.not_true, Bool.not_false, ne_eq, Decidable.not_not, wadd, wsub, wmul, w_i64, w_i32, w_u64, w_u32, w_u16, w_u8, Nat.succ_eq_add_one, Nat.le_eq, Nat.sub_eq, Int.cast_ofNat_Int, Int.toNat_natCast, Int.reduceToNat, Int.reduceAdd, Int.reduceSub, Int.zero_add, lenN_is, fits3_is, nadd0, fits1_agg0, fits1_aggi, fits1_aggs, fits1_aggb, fits_agg0, fits_aggi, fits_aggs, fits_aggb, fits1_lst, fits_lst, fits1_nils, fits_nils, fits1_aggl, fits1_aggn] at *)
      have := restN_len s i hi
      have : s.length ≤ 900000 := hp
      show (restN s i).length ≤ 900000
      omega
    · (subst hL; subst hQ; simp only [L2, L3, std] at *; try simp only [ilt_t, ilt_f, ile_t, ile_f, ieq_t, ieq_f, ine_t, ine_f, seq_t, seq_f, inR_t, inS_t, inC_t, mkOk_t, roomOk_t, catOk_t, fits_bool, fits_int, fits_str, fits1_bool, fits1_int, fits1_str, fits_tup, fitsL_cons, fitsL_nil, slen_is, scat_is, ssub_is, sidx_is, natI_is, imin_is, imax_is, Bool.not_eq_true', Bool.not_eq_false', Bool.and_eq_true, Bool.and_eq_false_imp, Bool.or_eq_true, Bool.or_eq_false_iff, decide_eq_true_eq, decide_eq_false_iff_not, true_and, and_true, reduceCtorEq, imp_false, not_false_eq_true, not_true_eq_false, false_imp_iff, true_imp_iff, forall_const, implies_true, Bool.not_true, Bool.not_false, ne_eq, Decidable.not_not, wadd, wsub, wmul, w_i64, w_i32, w_u64, w_u32, w_u16, w_u8, Nat.succ_eq_add_one, Nat.le_eq, Nat.sub_eq, Int.cast_ofNat_Int, Int.toNat_natCast, Int.reduceToNat, Int.reduceAdd, Int.reduceSub, Int.zero_add, lenN_is, fits3_is, nadd0, fits1_agg0, fits1_aggi, fits1_aggs, fits1_aggb, fits_agg0, fits_aggi, fits_aggs, fits_aggb, fits1_lst, fits_lst, fits1_nils, fits_nils, fits1_aggl, fits1_aggn] at *)
      have := allF_len s
      have : s.length ≤ 900000 := hp
      omega
    · (cbv; try simp only [sat_need, sat_must, sat_ite, sat_done, sat_yes, sat_ex, sat_all, sat_sup, sat_and, sat_fail, true_and, and_true])
      (subst hL; subst hQ; simp only [L2, L3, std] at *; try simp only [ilt_t, ilt_f, ile_t, ile_f, ieq_t, ieq_f, ine_t, ine_f, seq_t, seq_f, inR_t, inS_t, inC_t, mkOk_t, roomOk_t, catOk_t, fits_bool, fits_int, fits_str, fits1_bool, fits1_int, fits1_str, fits_tup, fitsL_cons, fitsL_nil, slen_is, scat_is, ssub_is, sidx_is, natI_is, imin_is, imax_is, Bool.not_eq_true', Bool.not_eq_false', Bool.and_eq_true, Bool.and_eq_false_imp, Bool.or_eq_true, Bool.or_eq_false_iff, decide_eq_true_eq, decide_eq_false_iff_not, true_and, and_true, reduceCtorEq, imp_false, not_false_eq_true, not_true_eq_false, false_imp_iff, true_imp_iff, forall_const, implies_true, Bool.not_true, Bool.not_false, ne_eq, Decidable.not_not, wadd, wsub, wmul, w_i64, w_i32, w_u64, w_u32, w_u16, w_u8, Nat.succ_eq_add_one, Nat.le_eq, Nat.sub_eq, Int.cast_ofNat_Int, Int.toNat_natCast, Int.reduceToNat, Int.reduceAdd, Int.reduceSub, Int.zero_add, lenN_is, fits3_is, nadd0, fits1_agg0, fits1_aggi, fits1_aggs, fits1_aggb, fits_agg0, fits_aggi, fits_aggs, fits_aggb, fits1_lst, fits_lst, fits1_nils, fits_nils, fits1_aggl, fits1_aggn] at *)
      obtain ⟨h1, h2⟩ := allF_at s
      have hlt : i < (allF s).length := by
        refine Nat.lt_of_le_of_ne hi fun e => ?_
        rw [e] at hE; exact h2 hE
      refine ⟨fun k j hk hj => ?_, rfl, by omega, (by omega : (allF s).length - (i + 1) + 1 ≤ (allF s).length - i)⟩
      by_cases hki : k < i
      · rw [blt_t hki, show k - i = 0 by omega]
        match j, hj with
        | 0, _ => rfl
        | 1, _ => rfl
        | 2, _ => rfl
      · have : k = i := by omega
        subst this
        rw [blt_f (by omega), show k - k = 0 by omega, (h1 k hlt).1]
        match j, hj with
        | 0, _ => rfl
        | 1, _ => rfl
        | 2, _ => rfl
    · (subst hL; subst hQ; simp only [L2, L3, std] at *; try simp only [ilt_t, ilt_f, ile_t, ile_f, ieq_t, ieq_f, ine_t, ine_f, seq_t, seq_f, inR_t, inS_t, inC_t, mkOk_t, roomOk_t, catOk_t, fits_bool, fits_int, fits_str, fits1_bool, fits1_int, fits1_str, fits_tup, fitsL_cons, fitsL_nil, slen_is, scat_is, ssub_is, sidx_is, natI_is, imin_is, imax_is, Bool.not_eq_true', Bool.not_eq_false', Bool.and_eq_true, Bool.and_eq_false_imp, Bool.or_eq_true, Bool.or_eq_false_iff, decide_eq_true_eq, decide_eq_false_iff_not, true_and, and_true, reduceCtorEq, imp_false, not_false_eq_true, not_true_eq_false, false_imp_iff, true_imp_iff, forall_const, implies_true, Bool.not_true, Bool.not_false, ne_eq, Decidable.not_not, wadd, wsub, wmul, w_i64, w_i32, w_u64, w_u32, w_u16, w_u8, Nat.succ_eq_add_one, Nat.le_eq, Nat.sub_eq, Int.cast_ofNat_Int, Int.toNat_natCast, Int.reduceToNat, Int.reduceAdd, Int.reduceSub, Int.zero_add, lenN_is, fits3_is, nadd0, fits1_agg0, fits1_aggi, fits1_aggs, fits1_aggb, fits_agg0, fits_aggi, fits_aggs, fits_aggb, fits1_lst, fits_lst, fits1_nils, fits_nils, fits1_aggl, fits1_aggn] at *)
      obtain ⟨h1, h2⟩ := allF_at s
      have he : i = (allF s).length := by
        refine Classical.byContradiction fun e => ?_
        exact hE (h1 i (by omega)).2
      rw [he]
      exact ⟨rfl, rfl⟩
  · (cbv; try simp only [sat_need, sat_must, sat_ite, sat_done, sat_yes, sat_ex, sat_all, sat_sup, sat_and, sat_fail, true_and, and_true])
    (subst hL; subst hQ; simp only [L2, L3, std] at *; try simp only [ilt_t, ilt_f, ile_t, ile_f, ieq_t, ieq_f, ine_t, ine_f, seq_t, seq_f, inR_t, inS_t, inC_t, mkOk_t, roomOk_t, catOk_t, fits_bool, fits_int, fits_str, fits1_bool, fits1_int, fits1_str, fits_tup, fitsL_cons, fitsL_nil, slen_is, scat_is, ssub_is, sidx_is, natI_is, imin_is, imax_is, Bool.not_eq_true', Bool.not_eq_false', Bool.and_eq_true, Bool.and_eq_false_imp, Bool.or_eq_true, Bool.or_eq_false_iff, decide_eq_true_eq, decide_eq_false_iff_not, true_and, and_true, reduceCtorEq, imp_false, not_false_eq_true, not_true_eq_false, false_imp_iff, true_imp_iff, forall_const, implies_true, Bool.not_true, Bool.not_false, ne_eq, Decidable.not_not, wadd, wsub, wmul, w_i64, w_i32, w_u64, w_u32, w_u16, w_u8, Nat.succ_eq_add_one, Nat.le_eq, Nat.sub_eq, Int.cast_ofNat_Int, Int.toNat_natCast, Int.reduceToNat, Int.reduceAdd, Int.reduceSub, Int.zero_add, lenN_is, fits3_is, nadd0, fits1_agg0, fits1_aggi, fits1_aggs, fits1_aggb, fits_agg0, fits_aggi, fits_aggs, fits_aggb, fits1_lst, fits_lst, fits1_nils, fits_nils, fits1_aggl, fits1_aggn] at *)
    exact ⟨rfl, Nat.zero_le _⟩

/-! ### Frames as arguments -/
def FrOk (f : Fr) : Prop := 0 ≤ f.e ∧ f.e < 18446744073709551616 ∧ f.b.length ≤ 9223372036854775807
theorem opens_Fr {H : Type} {enc : TypeId × Value → H} {W : World} : Opens enc Try.prog W 58 Fr 3 (frAt std) FrOk :=
  (opens_struct Try.underlying58 (by kernel_rfl) (opensF_cons rfl (opens_int Try.underlying3 (by kernel_rfl)) (opensF_cons rfl (opens_int Try.underlying22 (by kernel_rfl)) (opensF_cons rfl (opens_str Try.underlying9 (by kernel_rfl)) (opensF_nil _))))).map
    (fun y => ⟨y.1, y.2.1, y.2.2.1⟩) (fun y j hj => by match j, hj with | 0, _ => rfl | 1, _ => rfl | 2, _ => rfl)
    (fun y h => by
      have := bounds_u64 h.2.1
      exact ⟨this.1, by show y.2.1 < _; omega, h.2.2.1⟩)
theorem opens_Frs {H : Type} {enc : TypeId × Value → H} {W : World} : Opens enc Try.prog W 72 (List Fr) 1 (fun l _ => .lst 3 l.length (avL (frAt std) l)) (fun l => l.length ≤ maxLen ∧ ∀ y ∈ l, FrOk y) :=
  opens_slice Try.underlying72 (by kernel_rfl) opens_Fr (by omega)
theorem avF (l : List Fr) (i j : Nat) (h : i < l.length) : avL (frAt std) l i j = frAt std (nthF l i) j := by
  rw [avL, nthF, List.getD_eq_getElem?_getD, List.getElem?_eq_getElem h]; rfl
end Sy
end Go.Proofs.Ytgmafhogkdhadaa
