/- The law FrameStream: frames, one behind the other, are read as they were; cut anywhere, those that are whole are. -/
import Derived.Test.YtgmafhogkdhadaaLwFC
namespace Go.Proofs.Ytgmafhogkdhadaa
namespace Sy
open Go Go.RowKit
set_option maxRecDepth 100000
set_option linter.unusedSimpArgs false
set_option linter.unusedVariables false

def textL : List Fr → List UInt8
  | [] => []
  | f :: l => byT f.k f.e f.b ++ textL l
def textP (l : List Fr) (i : Nat) : List UInt8 := textL (l.take i)
def endN (l : List Fr) (j : Nat) : Int := ((textP l (j + 1)).length : Int)
def cntN (l : List Fr) (k : Int) : Nat → Int
  | 0 => 0
  | j + 1 => if endN l j ≤ k then cntN l k j + 1 else cntN l k j
def Fine (f : Fr) : Prop := byE f.k f.b = 0 ∧ f.b.length ≤ 500 ∧ 0 ≤ f.e ∧ f.e < 18446744073709551616
def fineTo (l : List Fr) (i : Nat) : Prop := ∀ j, j < i → Fine (nthF l j)
theorem textL_app : ∀ (a b : List Fr), textL (a ++ b) = textL a ++ textL b
  | [], b => rfl
  | f :: a, b => by
    show byT f.k f.e f.b ++ textL (a ++ b) = (byT f.k f.e f.b ++ textL a) ++ textL b
    rw [textL_app a b, List.append_assoc]
theorem textP_succ (l : List Fr) (i : Nat) (h : i < l.length) : textP l (i + 1) = textP l i ++ byT (nthF l i).k (nthF l i).e (nthF l i).b := by
  unfold textP
  rw [List.take_succ_eq_append_getElem h, textL_app]
  show _ ++ (byT _ _ _ ++ []) = _
  rw [List.append_nil, nthF, List.getD_eq_getElem?_getD, List.getElem?_eq_getElem h]; rfl
theorem fine_all {l : List Fr} (h : fineTo l l.length) : ∀ f ∈ l, Fine f := by
  intro f hf
  obtain ⟨i, hi, rfl⟩ := List.getElem_of_mem hf
  have := h i hi
  rw [nthF, List.getD_eq_getElem?_getD, List.getElem?_eq_getElem hi] at this
  exact this
theorem byT_long {f : Fr} (h : Fine f) : (byT f.k f.e f.b).length = f.b.length + 20 := by rw [byT, if_pos h.1, markL_length, headT_length]
theorem textL_len : ∀ (l : List Fr), (∀ f ∈ l, Fine f) → (textL l).length ≤ 520 * l.length
  | [], _ => by simp [textL]
  | f :: l, h => by
    have h1 := textL_len l (fun g hg => h g (by simp [hg]))
    have h2 := h f (by simp)
    have h3 := byT_long h2
    have := h2.2.1
    rw [textL, List.length_append, List.length_cons]; omega
theorem nxE_nil : nxE [] ≠ 0 := by decide
/-- Less than a frame's text is no frame. -/
theorem nxE_cut {f : Fr} (h : Fine f) (r : List UInt8) (k : Nat) (hk : k < f.b.length + 20) : nxE ((byT f.k f.e f.b ++ r).take k) ≠ 0 := by
  intro hE
  have F := frame_is f.k f.e f.b r h.1 h.2.2.1 h.2.2.2
  have hl := (nx_len _ hE).1
  have h0 := (nxN_bound ((byT f.k f.e f.b ++ r).take k)).1
  have hle : ((byT f.k f.e f.b ++ r).take k).length ≤ k := by rw [List.length_take]; omega
  have e : nxN ((byT f.k f.e f.b ++ r).take k) = nxN (byT f.k f.e f.b ++ r) := by
    unfold nxN
    rw [List.take_take, show min 16 k = 16 by omega]
  rw [e, F.N] at hl
  omega
/-- What is read of a row of frames that is cut. -/
theorem cut_is : ∀ (l : List Fr) (k : Nat), (∀ f ∈ l, Fine f) → ∃ m, m ≤ l.length ∧ allF ((textL l).take k) = l.take m ∧ ∀ j, j < l.length → ((textL (l.take (j + 1))).length ≤ k ↔ j < m)
  | [], k, _ => ⟨0, Nat.le_refl _, by rw [textL, List.take_nil, allF_none _ nxE_nil]; rfl, fun j hj => by simp at hj⟩
  | f :: l, k, h => by
    have hf := h f (by simp)
    have hb := byT_long hf
    by_cases hk : f.b.length + 20 ≤ k
    · obtain ⟨m, m1, m2, m3⟩ := cut_is l (k - (f.b.length + 20)) (fun g hg => h g (by simp [hg]))
      refine ⟨m + 1, by simp; omega, ?_, fun j hj => ?_⟩
      · rw [textL, List.take_append, List.take_of_length_le (by omega), hb, allF_frame f _ hf.1 hf.2.2.1 hf.2.2.2, m2]; rfl
      · rw [List.take_succ_cons, textL, List.length_append, hb]
        cases j with
        | zero => simp [textL]; omega
        | succ j =>
          have := m3 j (by simp at hj; omega)
          constructor
          · intro h1
            have := this.1 (by omega)
            omega
          · intro h1
            have := this.2 (by omega)
            omega
    · refine ⟨0, Nat.zero_le _, ?_, fun j hj => ?_⟩
      · rw [textL, allF_none _ (nxE_cut hf _ k (by omega))]; rfl
      · rw [List.take_succ_cons, textL, List.length_append, hb]; omega
theorem cntN_is (l : List Fr) (k : Int) (m : Nat) (hm : ∀ j, j < l.length → (endN l j ≤ k ↔ j < m)) : ∀ i, i ≤ l.length → cntN l k i = (min i m : Nat)
  | 0, _ => by simp [cntN]
  | i + 1, h => by
    have h1 := cntN_is l k m hm i (by omega)
    have h2 := hm i (by omega)
    unfold cntN
    by_cases e : endN l i ≤ k
    · have := h2.1 e
      rw [if_pos e, h1]; omega
    · have : ¬ i < m := fun x => e (h2.2 x)
      rw [if_neg e, h1]; omega
theorem allF_all (l : List Fr) (h : ∀ f ∈ l, Fine f) : allF (textL l) = l ∧ allR (textL l) = [] := by
  have key : ∀ (l : List Fr), (∀ f ∈ l, Fine f) → allF (textL l) = l ∧ restN (textL l) l.length = [] := by
    intro l
    induction l with
    | nil => intro _; exact ⟨allF_none _ nxE_nil, rfl⟩
    | cons f l ih =>
      intro h
      have hf := h f (by simp)
      obtain ⟨h1, h2⟩ := ih (fun g hg => h g (by simp [hg]))
      refine ⟨by rw [textL, allF_frame f _ hf.1 hf.2.2.1 hf.2.2.2, h1], ?_⟩
      rw [List.length_cons, textL, restN_frame f _ hf.1 hf.2.2.1 hf.2.2.2, h2]
  obtain ⟨h1, h2⟩ := key l h
  exact ⟨h1, by rw [allR, h1, h2]⟩

theorem textP_len {l : List Fr} {i : Nat} (h : fineTo l i) (hi : i ≤ l.length) : (textP l i).length ≤ 520 * i := by
  have := textL_len (l.take i) (fun f hf => by
    obtain ⟨j, hj, rfl⟩ := List.getElem_of_mem hf
    rw [List.length_take] at hj
    have := h j (by omega)
    rw [nthF, List.getD_eq_getElem?_getD, List.getElem?_eq_getElem (by omega)] at this
    rw [List.getElem_take]
    exact this)
  rw [List.length_take, show min i l.length = i by omega] at this
  exact this
theorem str_done {l : List Fr} {i : Nat} {T : List UInt8} (hi : i ≤ l.length ∧ fineTo l i) (hge : ((lenF l : Nat) : Int) ≤ (i : Int)) (hT : textP l i = T) : i = l.length ∧ T = textL l ∧ (∀ f ∈ l, Fine f) ∧ T.length ≤ 520 * l.length := by
  have : lenF l = l.length := rfl
  have e : i = l.length := by omega
  subst e
  have hf := fine_all hi.2
  have : T = textL l := by rw [← hT, textP, List.take_length]
  exact ⟨rfl, this, hf, by rw [this]; exact textL_len l hf⟩
theorem cutK_ok (a : Int) (n : Nat) (ha : 0 ≤ a) (ha' : a < 65536) (hn : n ≤ 900000) :
    0 ≤ ((a + 9223372036854775808) % 18446744073709551616 - 9223372036854775808).tmod (((n : Int) + 1 + 9223372036854775808) % 18446744073709551616 - 9223372036854775808) ∧
    ((a + 9223372036854775808) % 18446744073709551616 - 9223372036854775808).tmod (((n : Int) + 1 + 9223372036854775808) % 18446744073709551616 - 9223372036854775808) ≤ (n : Int) := by
  rw [show (a + 9223372036854775808) % 18446744073709551616 - 9223372036854775808 = a by omega, show ((n : Int) + 1 + 9223372036854775808) % 18446744073709551616 - 9223372036854775808 = (n : Int) + 1 by omega,
    Int.tmod_eq_emod_of_nonneg ha]
  have h1 := Int.emod_nonneg a (show (n : Int) + 1 ≠ 0 by omega)
  have h2 := Int.emod_lt_of_pos a (show (0 : Int) < (n : Int) + 1 by omega)
  omega
theorem cntN_le (l : List Fr) (k : Int) : ∀ j : Nat, 0 ≤ cntN l k j ∧ cntN l k j ≤ (j : Int)
  | 0 => by simp [cntN]
  | j + 1 => by
    have := cntN_le l k j
    unfold cntN
    split <;> omega
theorem nthF_take (l : List Fr) {q m : Nat} (h : q < m) : nthF (l.take m) q = nthF l q := by
  rw [nthF, nthF, List.getD_eq_getElem?_getD, List.getD_eq_getElem?_getD, List.getElem?_take_of_lt h]
theorem str_cut {l : List Fr} {i j : Nat} {T : List UInt8} {a k : Int} (hi : i ≤ l.length ∧ fineTo l i) (hge : ((lenF l : Nat) : Int) ≤ (i : Int)) (hT : textP l i = T) (hj : j ≤ l.length) (hge2 : (i : Int) ≤ (j : Int))
    (hk : ((a + 9223372036854775808) % 18446744073709551616 - 9223372036854775808).tmod (((T.length : Int) + 1 + 9223372036854775808) % 18446744073709551616 - 9223372036854775808) = k) (ha : 0 ≤ a) (ha' : a < 65536) (h8 : ((lenF l : Nat) : Int) ≤ 8) {C : List Fr} (hC : allF (T.take k.toNat) = C) :
    ∃ m, m ≤ lenF l ∧ C = l.take m ∧ cntN l k j = (m : Int) ∧ lenF C = m ∧ allF T = l := by
  have e0 : lenF l = l.length := rfl
  obtain ⟨d1, d2, d3, d4⟩ := str_done hi hge hT
  obtain ⟨k1, k2⟩ := cutK_ok a T.length ha ha' (by omega)
  rw [hk] at k1 k2
  obtain ⟨m, m1, m2, m3⟩ := cut_is l k.toNat d3
  have e1 : C = l.take m := by rw [← hC, d2]; exact m2
  refine ⟨m, m1, e1, ?_, by rw [e1, lenF, List.length_take]; omega, by rw [d2]; exact (allF_all l d3).1⟩
  have := cntN_is l k m (fun j hj => by
    rw [← m3 j hj]
    show ((textL (l.take (j + 1))).length : Int) ≤ k ↔ _
    omega) j hj
  rw [this, show j = l.length by omega]
  omega
def strA (L : Seal) (l : List Fr) : Nat → St → Option Ann := fun id s => match id with
  | 0 => some ⟨Nat, fun i => [(27, .int .i64 (L natI i)), (5, .str (L2 L textP l i)), (6, .sl 900 1 0 i)], fun i => [(900, .row 1 i (fun j _ => .int .i64 (L2 L endN l j)))], [0, 1, 25, 26], [],
      fun i => L2 L (fun l i => i ≤ l.length ∧ fineTo l i) l i, fun i => L2 L (fun (l : List Fr) (i : Nat) => l.length - i) l i⟩
  | 2 => withInt s 13 fun k => some ⟨Nat, fun j => [(82, .int .i64 (L natI j)), (16, .int .i64 (L3 L cntN l k j))], fun i => [], [0, 11, 14, 13, 80, 81], [900],
      fun i => L2 L (fun (l : List Fr) (i : Nat) => i ≤ l.length) l i, fun i => L2 L (fun (l : List Fr) (i : Nat) => l.length - i) l i⟩
  | 4 => withLst s 92 fun n _ => some ⟨Nat, fun j => [(94, .int .i64 (L natI j))], fun i => [], [0, 11, 14, 16, 92, 93], [],
      fun i => L2 L Nat.le i n, fun i => L2 L Nat.sub n i⟩
  | _ => none
theorem frameStream_ac (l : List Fr) (a : Int) (hl : l.length ≤ 9223372036854775807) (hF : ∀ f ∈ l, FrOk f) (ha : 0 ≤ a) (ha' : a < 65536) :
    ACalls Try.prog 15 [.lst 3 l.length (fun i j => frAt std (nthF l i) j), .int .u16 a] (.bool true) := by
  refine acalls_L' (T := tt) (S := fun L => sumOf [tru 39, by_s L, all_s L]) (lo := fun L => strA L l) (lb := noA) 5 (fn := Try.f15) (xs := fun L => [.lst 3 (L lenF l) (fun i j => frAt L (L2 L nthF l i) j), .int .u16 a]) rfl rfl (by kernel_rfl) (by kernel_rfl) rfl tt_ok
    (sumOf_ok ⟨tru_good awake08_ac, by_good, all_good, trivial⟩) (by kernel_rfl) ?_
  intro L P' Q' hL hP hQ
  (cbv; try simp only [sat_need, sat_must, sat_ite, sat_done, sat_yes, sat_ex, sat_all, sat_sup, sat_and, sat_fail, true_and, and_true])
  refine ⟨fun h => ?_, fun h => ⟨fun h1 => ?_, fun h1 => ⟨⟨0, ?_⟩, fun i hi => ?_⟩⟩⟩
  · (subst hL; subst hQ; simp only [L2, L3, std] at *; try simp only [ilt_t, ilt_f, ile_t, ile_f, ieq_t, ieq_f, ine_t, ine_f, seq_t, seq_f, inR_t, inS_t, inC_t, mkOk_t, roomOk_t, catOk_t, fits_bool, fits_int, fits_str, fits1_bool, fits1_int, fits1_str, fits_tup, fitsL_cons, fitsL_nil, slen_is, scat_is, ssub_is, sidx_is, natI_is, imin_is, imax_is, Bool.not_eq_true', Bool.not_eq_false', Bool.and_eq_true, Bool.and_eq_false_imp, Bool.or_eq_true, Bool.or_eq_false_iff, decide_eq_true_eq, decide_eq_false_iff_not, true_and, and_true, reduceCtorEq, imp_false, not_false_eq_true, not_true_eq_false, false_imp_iff, true_imp_iff, forall_const, implies_true, Bool.not_true, Bool.not_false, ne_eq, Decidable.not_not, wadd, wsub, wmul, w_i64, w_i32, w_u64, w_u32, w_u16, w_u8, Nat.succ_eq_add_one, Nat.le_eq, Nat.sub_eq, Int.cast_ofNat_Int, Int.toNat_natCast, Int.reduceToNat, Int.reduceAdd, Int.reduceSub, Int.zero_add, lenN_is, fits3_is, nadd0, fits1_agg0, fits1_aggi, fits1_aggs, fits1_aggb, fits_agg0, fits_aggi, fits_aggs, fits_aggb, fits1_lst, fits_lst, fits1_nils, fits_nils, fits1_aggl, fits1_aggn] at *)
  · (subst hL; subst hQ; simp only [L2, L3, std] at *; try simp only [ilt_t, ilt_f, ile_t, ile_f, ieq_t, ieq_f, ine_t, ine_f, seq_t, seq_f, inR_t, inS_t, inC_t, mkOk_t, roomOk_t, catOk_t, fits_bool, fits_int, fits_str, fits1_bool, fits1_int, fits1_str, fits_tup, fitsL_cons, fitsL_nil, slen_is, scat_is, ssub_is, sidx_is, natI_is, imin_is, imax_is, Bool.not_eq_true', Bool.not_eq_false', Bool.and_eq_true, Bool.and_eq_false_imp, Bool.or_eq_true, Bool.or_eq_false_iff, decide_eq_true_eq, decide_eq_false_iff_not, true_and, and_true, reduceCtorEq, imp_false, not_false_eq_true, not_true_eq_false, false_imp_iff, true_imp_iff, forall_const, implies_true, Bool.not_true, Bool.not_false, ne_eq, Decidable.not_not, wadd, wsub, wmul, w_i64, w_i32, w_u64, w_u32, w_u16, w_u8, Nat.succ_eq_add_one, Nat.le_eq, Nat.sub_eq, Int.cast_ofNat_Int, Int.toNat_natCast, Int.reduceToNat, Int.reduceAdd, Int.reduceSub, Int.zero_add, lenN_is, fits3_is, nadd0, fits1_agg0, fits1_aggi, fits1_aggs, fits1_aggb, fits_agg0, fits_aggi, fits_aggs, fits_aggb, fits1_lst, fits_lst, fits1_nils, fits_nils, fits1_aggl, fits1_aggn] at *)
  · (cbv; try simp only [sat_need, sat_must, sat_ite, sat_done, sat_yes, sat_ex, sat_all, sat_sup, sat_and, sat_fail, true_and, and_true])
    (subst hL; subst hQ; simp only [L2, L3, std] at *; try simp only [ilt_t, ilt_f, ile_t, ile_f, ieq_t, ieq_f, ine_t, ine_f, seq_t, seq_f, inR_t, inS_t, inC_t, mkOk_t, roomOk_t, catOk_t, fits_bool, fits_int, fits_str, fits1_bool, fits1_int, fits1_str, fits_tup, fitsL_cons, fitsL_nil, slen_is, scat_is, ssub_is, sidx_is, natI_is, imin_is, imax_is, Bool.not_eq_true', Bool.not_eq_false', Bool.and_eq_true, Bool.and_eq_false_imp, Bool.or_eq_true, Bool.or_eq_false_iff, decide_eq_true_eq, decide_eq_false_iff_not, true_and, and_true, reduceCtorEq, imp_false, not_false_eq_true, not_true_eq_false, false_imp_iff, true_imp_iff, forall_const, implies_true, Bool.not_true, Bool.not_false, ne_eq, Decidable.not_not, wadd, wsub, wmul, w_i64, w_i32, w_u64, w_u32, w_u16, w_u8, Nat.succ_eq_add_one, Nat.le_eq, Nat.sub_eq, Int.cast_ofNat_Int, Int.toNat_natCast, Int.reduceToNat, Int.reduceAdd, Int.reduceSub, Int.zero_add, lenN_is, fits3_is, nadd0, fits1_agg0, fits1_aggi, fits1_aggs, fits1_aggb, fits_agg0, fits_aggi, fits_aggs, fits_aggb, fits1_lst, fits_lst, fits1_nils, fits_nils, fits1_aggl, fits1_aggn] at *)
    exact ⟨rfl, Nat.zero_le _, fun j hj => by omega⟩
  · cbv at hi
    (cbv; try simp only [sat_need, sat_must, sat_ite, sat_done, sat_yes, sat_ex, sat_all, sat_sup, sat_and, sat_fail, true_and, and_true])
    refine ⟨fun hlt => ⟨?_, ?_, fun hE => ?_, fun hE => ⟨fun hb => ?_, fun hb => ⟨?_, ?_, ⟨i + 1, ?_⟩⟩⟩⟩, fun hge => ?_⟩
    · (subst hL; subst hQ; simp only [L2, L3, std] at *; try simp only [ilt_t, ilt_f, ile_t, ile_f, ieq_t, ieq_f, ine_t, ine_f, seq_t, seq_f, inR_t, inS_t, inC_t, mkOk_t, roomOk_t, catOk_t, fits_bool, fits_int, fits_str, fits1_bool, fits1_int, fits1_str, fits_tup, fitsL_cons, fitsL_nil, slen_is, scat_is, ssub_is, sidx_is, natI_is, imin_is, imax_is, Bool.not_eq_true', Bool.not_eq_false', Bool.and_eq_true, Bool.and_eq_false_imp, Bool.or_eq_true, Bool.or_eq_false_iff, decide_eq_true_eq, decide_eq_false_iff_not, true_and, and_true, reduceCtorEq, imp_false, not_false_eq_true, not_true_eq_false, false_imp_iff, true_imp_iff, forall_const, implies_true, Bool.not_true, Bool.not_false, ne_eq, Decidable.not_not, wadd, wsub, wmul, w_i64, w_i32, w_u64, w_u32, w_u16, w_u8, Nat.succ_eq_add_one, Nat.le_eq, Nat.sub_eq, Int.cast_ofNat_Int, Int.toNat_natCast, Int.reduceToNat, Int.reduceAdd, Int.reduceSub, Int.zero_add, lenN_is, fits3_is, nadd0, fits1_agg0, fits1_aggi, fits1_aggs, fits1_aggb, fits_agg0, fits_aggi, fits_aggs, fits_aggb, fits1_lst, fits_lst, fits1_nils, fits_nils, fits1_aggl, fits1_aggn] at *)
      omega
    · (subst hL; subst hQ; simp only [L2, L3, std] at *; try simp only [ilt_t, ilt_f, ile_t, ile_f, ieq_t, ieq_f, ine_t, ine_f, seq_t, seq_f, inR_t, inS_t, inC_t, mkOk_t, roomOk_t, catOk_t, fits_bool, fits_int, fits_str, fits1_bool, fits1_int, fits1_str, fits_tup, fitsL_cons, fitsL_nil, slen_is, scat_is, ssub_is, sidx_is, natI_is, imin_is, imax_is, Bool.not_eq_true', Bool.not_eq_false', Bool.and_eq_true, Bool.and_eq_false_imp, Bool.or_eq_true, Bool.or_eq_false_iff, decide_eq_true_eq, decide_eq_false_iff_not, true_and, and_true, reduceCtorEq, imp_false, not_false_eq_true, not_true_eq_false, false_imp_iff, true_imp_iff, forall_const, implies_true, Bool.not_true, Bool.not_false, ne_eq, Decidable.not_not, wadd, wsub, wmul, w_i64, w_i32, w_u64, w_u32, w_u16, w_u8, Nat.succ_eq_add_one, Nat.le_eq, Nat.sub_eq, Int.cast_ofNat_Int, Int.toNat_natCast, Int.reduceToNat, Int.reduceAdd, Int.reduceSub, Int.zero_add, lenN_is, fits3_is, nadd0, fits1_agg0, fits1_aggi, fits1_aggs, fits1_aggb, fits_agg0, fits_aggi, fits_aggs, fits_aggb, fits1_lst, fits_lst, fits1_nils, fits_nils, fits1_aggl, fits1_aggn] at *)
      obtain ⟨f1, f2, f3⟩ := nthF_ok hF i (by have : lenF l = l.length := rfl; omega)
      exact ⟨f1, f2, by omega⟩
    · (subst hL; subst hQ; simp only [L2, L3, std] at *; try simp only [ilt_t, ilt_f, ile_t, ile_f, ieq_t, ieq_f, ine_t, ine_f, seq_t, seq_f, inR_t, inS_t, inC_t, mkOk_t, roomOk_t, catOk_t, fits_bool, fits_int, fits_str, fits1_bool, fits1_int, fits1_str, fits_tup, fitsL_cons, fitsL_nil, slen_is, scat_is, ssub_is, sidx_is, natI_is, imin_is, imax_is, Bool.not_eq_true', Bool.not_eq_false', Bool.and_eq_true, Bool.and_eq_false_imp, Bool.or_eq_true, Bool.or_eq_false_iff, decide_eq_true_eq, decide_eq_false_iff_not, true_and, and_true, reduceCtorEq, imp_false, not_false_eq_true, not_true_eq_false, false_imp_iff, true_imp_iff, forall_const, implies_true, Bool.not_true, Bool.not_false, ne_eq, Decidable.not_not, wadd, wsub, wmul, w_i64, w_i32, w_u64, w_u32, w_u16, w_u8, Nat.succ_eq_add_one, Nat.le_eq, Nat.sub_eq, Int.cast_ofNat_Int, Int.toNat_natCast, Int.reduceToNat, Int.reduceAdd, Int.reduceSub, Int.zero_add, lenN_is, fits3_is, nadd0, fits1_agg0, fits1_aggi, fits1_aggs, fits1_aggb, fits_agg0, fits_aggi, fits_aggs, fits_aggb, fits1_lst, fits_lst, fits1_nils, fits_nils, fits1_aggl, fits1_aggn] at *)
    · (subst hL; subst hQ; simp only [L2, L3, std] at *; try simp only [ilt_t, ilt_f, ile_t, ile_f, ieq_t, ieq_f, ine_t, ine_f, seq_t, seq_f, inR_t, inS_t, inC_t, mkOk_t, roomOk_t, catOk_t, fits_bool, fits_int, fits_str, fits1_bool, fits1_int, fits1_str, fits_tup, fitsL_cons, fitsL_nil, slen_is, scat_is, ssub_is, sidx_is, natI_is, imin_is, imax_is, Bool.not_eq_true', Bool.not_eq_false', Bool.and_eq_true, Bool.and_eq_false_imp, Bool.or_eq_true, Bool.or_eq_false_iff, decide_eq_true_eq, decide_eq_false_iff_not, true_and, and_true, reduceCtorEq, imp_false, not_false_eq_true, not_true_eq_false, false_imp_iff, true_imp_iff, forall_const, implies_true, Bool.not_true, Bool.not_false, ne_eq, Decidable.not_not, wadd, wsub, wmul, w_i64, w_i32, w_u64, w_u32, w_u16, w_u8, Nat.succ_eq_add_one, Nat.le_eq, Nat.sub_eq, Int.cast_ofNat_Int, Int.toNat_natCast, Int.reduceToNat, Int.reduceAdd, Int.reduceSub, Int.zero_add, lenN_is, fits3_is, nadd0, fits1_agg0, fits1_aggi, fits1_aggs, fits1_aggb, fits_agg0, fits_aggi, fits_aggs, fits_aggb, fits1_lst, fits_lst, fits1_nils, fits_nils, fits1_aggl, fits1_aggn] at *)
    · (subst hL; subst hQ; simp only [L2, L3, std] at *; try simp only [ilt_t, ilt_f, ile_t, ile_f, ieq_t, ieq_f, ine_t, ine_f, seq_t, seq_f, inR_t, inS_t, inC_t, mkOk_t, roomOk_t, catOk_t, fits_bool, fits_int, fits_str, fits1_bool, fits1_int, fits1_str, fits_tup, fitsL_cons, fitsL_nil, slen_is, scat_is, ssub_is, sidx_is, natI_is, imin_is, imax_is, Bool.not_eq_true', Bool.not_eq_false', Bool.and_eq_true, Bool.and_eq_false_imp, Bool.or_eq_true, Bool.or_eq_false_iff, decide_eq_true_eq, decide_eq_false_iff_not, true_and, and_true, reduceCtorEq, imp_false, not_false_eq_true, not_true_eq_false, false_imp_iff, true_imp_iff, forall_const, implies_true, Bool.not_true, Bool.not_false, ne_eq, Decidable.not_not, wadd, wsub, wmul, w_i64, w_i32, w_u64, w_u32, w_u16, w_u8, Nat.succ_eq_add_one, Nat.le_eq, Nat.sub_eq, Int.cast_ofNat_Int, Int.toNat_natCast, Int.reduceToNat, Int.reduceAdd, Int.reduceSub, Int.zero_add, lenN_is, fits3_is, nadd0, fits1_agg0, fits1_aggi, fits1_aggs, fits1_aggb, fits_agg0, fits_aggi, fits_aggs, fits_aggb, fits1_lst, fits_lst, fits1_nils, fits_nils, fits1_aggl, fits1_aggn] at *)
      have h3 := textP_len (i := i) hi.2 hi.1
      have h4 := byT_len (nthF l i).k (nthF l i).e (nthF l i).b
      have : lenF l = l.length := rfl
      omega
    · (subst hL; subst hQ; simp only [L2, L3, std] at *; try simp only [ilt_t, ilt_f, ile_t, ile_f, ieq_t, ieq_f, ine_t, ine_f, seq_t, seq_f, inR_t, inS_t, inC_t, mkOk_t, roomOk_t, catOk_t, fits_bool, fits_int, fits_str, fits1_bool, fits1_int, fits1_str, fits_tup, fitsL_cons, fitsL_nil, slen_is, scat_is, ssub_is, sidx_is, natI_is, imin_is, imax_is, Bool.not_eq_true', Bool.not_eq_false', Bool.and_eq_true, Bool.and_eq_false_imp, Bool.or_eq_true, Bool.or_eq_false_iff, decide_eq_true_eq, decide_eq_false_iff_not, true_and, and_true, reduceCtorEq, imp_false, not_false_eq_true, not_true_eq_false, false_imp_iff, true_imp_iff, forall_const, implies_true, Bool.not_true, Bool.not_false, ne_eq, Decidable.not_not, wadd, wsub, wmul, w_i64, w_i32, w_u64, w_u32, w_u16, w_u8, Nat.succ_eq_add_one, Nat.le_eq, Nat.sub_eq, Int.cast_ofNat_Int, Int.toNat_natCast, Int.reduceToNat, Int.reduceAdd, Int.reduceSub, Int.zero_add, lenN_is, fits3_is, nadd0, fits1_agg0, fits1_aggi, fits1_aggs, fits1_aggb, fits_agg0, fits_aggi, fits_aggs, fits_aggb, fits1_lst, fits_lst, fits1_nils, fits_nils, fits1_aggl, fits1_aggn] at *)
      have : lenF l = l.length := rfl
      omega
    · (cbv; try simp only [sat_need, sat_must, sat_ite, sat_done, sat_yes, sat_ex, sat_all, sat_sup, sat_and, sat_fail, true_and, and_true])
      (subst hL; subst hQ; simp only [L2, L3, std] at *; try simp only [ilt_t, ilt_f, ile_t, ile_f, ieq_t, ieq_f, ine_t, ine_f, seq_t, seq_f, inR_t, inS_t, inC_t, mkOk_t, roomOk_t, catOk_t, fits_bool, fits_int, fits_str, fits1_bool, fits1_int, fits1_str, fits_tup, fitsL_cons, fitsL_nil, slen_is, scat_is, ssub_is, sidx_is, natI_is, imin_is, imax_is, Bool.not_eq_true', Bool.not_eq_false', Bool.and_eq_true, Bool.and_eq_false_imp, Bool.or_eq_true, Bool.or_eq_false_iff, decide_eq_true_eq, decide_eq_false_iff_not, true_and, and_true, reduceCtorEq, imp_false, not_false_eq_true, not_true_eq_false, false_imp_iff, true_imp_iff, forall_const, implies_true, Bool.not_true, Bool.not_false, ne_eq, Decidable.not_not, wadd, wsub, wmul, w_i64, w_i32, w_u64, w_u32, w_u16, w_u8, Nat.succ_eq_add_one, Nat.le_eq, Nat.sub_eq, Int.cast_ofNat_Int, Int.toNat_natCast, Int.reduceToNat, Int.reduceAdd, Int.reduceSub, Int.zero_add, lenN_is, fits3_is, nadd0, fits1_agg0, fits1_aggi, fits1_aggs, fits1_aggb, fits_agg0, fits_aggi, fits_aggs, fits_aggb, fits1_lst, fits_lst, fits1_nils, fits_nils, fits1_aggl, fits1_aggn] at *)
      have : lenF l = l.length := rfl
      refine ⟨fun q j hq hj => ?_, (textP_succ l i (by omega)).symm, by omega, ⟨by omega, fun j hj => ?_⟩, by omega⟩
      · by_cases hqi : q < i
        · rw [blt_t hqi]; rfl
        · have : q = i := by omega
          subst this
          rw [blt_f (by omega), show q - q = 0 by omega]
          show AV.int _ _ = _
          rw [endN, textP_succ l q (by omega)]; rfl
      · by_cases e : j = i
        · subst e
          obtain ⟨f1, f2, f3⟩ := nthF_ok hF j (by omega)
          exact ⟨hE, by omega, f1, f2⟩
        · exact hi.2 j (by omega)
    · (cbv; try simp only [sat_need, sat_must, sat_ite, sat_done, sat_yes, sat_ex, sat_all, sat_sup, sat_and, sat_fail, true_and, and_true])
      generalize hT : L (L textP l) i = T
      refine ⟨?_, fun hn => ?_, fun hn => ⟨fun hr => ?_, fun hr => ⟨?_, ?_, ?_, ⟨0, ?_⟩, fun j hj => ?_⟩⟩⟩
      · (subst hL; subst hQ; simp only [L2, L3, std] at *; try simp only [ilt_t, ilt_f, ile_t, ile_f, ieq_t, ieq_f, ine_t, ine_f, seq_t, seq_f, inR_t, inS_t, inC_t, mkOk_t, roomOk_t, catOk_t, fits_bool, fits_int, fits_str, fits1_bool, fits1_int, fits1_str, fits_tup, fitsL_cons, fitsL_nil, slen_is, scat_is, ssub_is, sidx_is, natI_is, imin_is, imax_is, Bool.not_eq_true', Bool.not_eq_false', Bool.and_eq_true, Bool.and_eq_false_imp, Bool.or_eq_true, Bool.or_eq_false_iff, decide_eq_true_eq, decide_eq_false_iff_not, true_and, and_true, reduceCtorEq, imp_false, not_false_eq_true, not_true_eq_false, false_imp_iff, true_imp_iff, forall_const, implies_true, Bool.not_true, Bool.not_false, ne_eq, Decidable.not_not, wadd, wsub, wmul, w_i64, w_i32, w_u64, w_u32, w_u16, w_u8, Nat.succ_eq_add_one, Nat.le_eq, Nat.sub_eq, Int.cast_ofNat_Int, Int.toNat_natCast, Int.reduceToNat, Int.reduceAdd, Int.reduceSub, Int.zero_add, lenN_is, fits3_is, nadd0, fits1_agg0, fits1_aggi, fits1_aggs, fits1_aggb, fits_agg0, fits_aggi, fits_aggs, fits_aggb, fits1_lst, fits_lst, fits1_nils, fits_nils, fits1_aggl, fits1_aggn] at *)
        obtain ⟨d1, d2, d3, d4⟩ := str_done hi hge hT
        have : lenF l = l.length := rfl
        show T.length ≤ 900000
        omega
      · (subst hL; subst hQ; simp only [L2, L3, std] at *; try simp only [ilt_t, ilt_f, ile_t, ile_f, ieq_t, ieq_f, ine_t, ine_f, seq_t, seq_f, inR_t, inS_t, inC_t, mkOk_t, roomOk_t, catOk_t, fits_bool, fits_int, fits_str, fits1_bool, fits1_int, fits1_str, fits_tup, fitsL_cons, fitsL_nil, slen_is, scat_is, ssub_is, sidx_is, natI_is, imin_is, imax_is, Bool.not_eq_true', Bool.not_eq_false', Bool.and_eq_true, Bool.and_eq_false_imp, Bool.or_eq_true, Bool.or_eq_false_iff, decide_eq_true_eq, decide_eq_false_iff_not, true_and, and_true, reduceCtorEq, imp_false, not_false_eq_true, not_true_eq_false, false_imp_iff, true_imp_iff, forall_const, implies_true, Bool.not_true, Bool.not_false, ne_eq, Decidable.not_not, wadd, wsub, wmul, w_i64, w_i32, w_u64, w_u32, w_u16, w_u8, Nat.succ_eq_add_one, Nat.le_eq, Nat.sub_eq, Int.cast_ofNat_Int, Int.toNat_natCast, Int.reduceToNat, Int.reduceAdd, Int.reduceSub, Int.zero_add, lenN_is, fits3_is, nadd0, fits1_agg0, fits1_aggi, fits1_aggs, fits1_aggb, fits_agg0, fits_aggi, fits_aggs, fits_aggb, fits1_lst, fits_lst, fits1_nils, fits_nils, fits1_aggl, fits1_aggn] at *)
        obtain ⟨d1, d2, d3, d4⟩ := str_done hi hge hT
        rw [d2, (allF_all l d3).1] at hn
        exact hn rfl
      · (subst hL; subst hQ; simp only [L2, L3, std] at *; try simp only [ilt_t, ilt_f, ile_t, ile_f, ieq_t, ieq_f, ine_t, ine_f, seq_t, seq_f, inR_t, inS_t, inC_t, mkOk_t, roomOk_t, catOk_t, fits_bool, fits_int, fits_str, fits1_bool, fits1_int, fits1_str, fits_tup, fitsL_cons, fitsL_nil, slen_is, scat_is, ssub_is, sidx_is, natI_is, imin_is, imax_is, Bool.not_eq_true', Bool.not_eq_false', Bool.and_eq_true, Bool.and_eq_false_imp, Bool.or_eq_true, Bool.or_eq_false_iff, decide_eq_true_eq, decide_eq_false_iff_not, true_and, and_true, reduceCtorEq, imp_false, not_false_eq_true, not_true_eq_false, false_imp_iff, true_imp_iff, forall_const, implies_true, Bool.not_true, Bool.not_false, ne_eq, Decidable.not_not, wadd, wsub, wmul, w_i64, w_i32, w_u64, w_u32, w_u16, w_u8, Nat.succ_eq_add_one, Nat.le_eq, Nat.sub_eq, Int.cast_ofNat_Int, Int.toNat_natCast, Int.reduceToNat, Int.reduceAdd, Int.reduceSub, Int.zero_add, lenN_is, fits3_is, nadd0, fits1_agg0, fits1_aggi, fits1_aggs, fits1_aggb, fits_agg0, fits_aggi, fits_aggs, fits_aggb, fits1_lst, fits_lst, fits1_nils, fits_nils, fits1_aggl, fits1_aggn] at *)
        obtain ⟨d1, d2, d3, d4⟩ := str_done hi hge hT
        rw [d2, (allF_all l d3).2] at hr
        exact hr rfl
      · (subst hL; subst hQ; simp only [L2, L3, std] at *; try simp only [ilt_t, ilt_f, ile_t, ile_f, ieq_t, ieq_f, ine_t, ine_f, seq_t, seq_f, inR_t, inS_t, inC_t, mkOk_t, roomOk_t, catOk_t, fits_bool, fits_int, fits_str, fits1_bool, fits1_int, fits1_str, fits_tup, fitsL_cons, fitsL_nil, slen_is, scat_is, ssub_is, sidx_is, natI_is, imin_is, imax_is, Bool.not_eq_true', Bool.not_eq_false', Bool.and_eq_true, Bool.and_eq_false_imp, Bool.or_eq_true, Bool.or_eq_false_iff, decide_eq_true_eq, decide_eq_false_iff_not, true_and, and_true, reduceCtorEq, imp_false, not_false_eq_true, not_true_eq_false, false_imp_iff, true_imp_iff, forall_const, implies_true, Bool.not_true, Bool.not_false, ne_eq, Decidable.not_not, wadd, wsub, wmul, w_i64, w_i32, w_u64, w_u32, w_u16, w_u8, Nat.succ_eq_add_one, Nat.le_eq, Nat.sub_eq, Int.cast_ofNat_Int, Int.toNat_natCast, Int.reduceToNat, Int.reduceAdd, Int.reduceSub, Int.zero_add, lenN_is, fits3_is, nadd0, fits1_agg0, fits1_aggi, fits1_aggs, fits1_aggb, fits_agg0, fits_aggi, fits_aggs, fits_aggb, fits1_lst, fits_lst, fits1_nils, fits_nils, fits1_aggl, fits1_aggn] at *)
        obtain ⟨d1, d2, d3, d4⟩ := str_done hi hge hT
        have : lenF l = l.length := rfl
        omega
      · (subst hL; subst hQ; simp only [L2, L3, std] at *; try simp only [ilt_t, ilt_f, ile_t, ile_f, ieq_t, ieq_f, ine_t, ine_f, seq_t, seq_f, inR_t, inS_t, inC_t, mkOk_t, roomOk_t, catOk_t, fits_bool, fits_int, fits_str, fits1_bool, fits1_int, fits1_str, fits_tup, fitsL_cons, fitsL_nil, slen_is, scat_is, ssub_is, sidx_is, natI_is, imin_is, imax_is, Bool.not_eq_true', Bool.not_eq_false', Bool.and_eq_true, Bool.and_eq_false_imp, Bool.or_eq_true, Bool.or_eq_false_iff, decide_eq_true_eq, decide_eq_false_iff_not, true_and, and_true, reduceCtorEq, imp_false, not_false_eq_true, not_true_eq_false, false_imp_iff, true_imp_iff, forall_const, implies_true, Bool.not_true, Bool.not_false, ne_eq, Decidable.not_not, wadd, wsub, wmul, w_i64, w_i32, w_u64, w_u32, w_u16, w_u8, Nat.succ_eq_add_one, Nat.le_eq, Nat.sub_eq, Int.cast_ofNat_Int, Int.toNat_natCast, Int.reduceToNat, Int.reduceAdd, Int.reduceSub, Int.zero_add, lenN_is, fits3_is, nadd0, fits1_agg0, fits1_aggi, fits1_aggs, fits1_aggb, fits_agg0, fits_aggi, fits_aggs, fits_aggb, fits1_lst, fits_lst, fits1_nils, fits_nils, fits1_aggl, fits1_aggn] at *)
        obtain ⟨d1, d2, d3, d4⟩ := str_done hi hge hT
        have : lenF l = l.length := rfl
        exact cutK_ok a T.length ha ha' (by omega)
      · (subst hL; subst hQ; simp only [L2, L3, std] at *; try simp only [ilt_t, ilt_f, ile_t, ile_f, ieq_t, ieq_f, ine_t, ine_f, seq_t, seq_f, inR_t, inS_t, inC_t, mkOk_t, roomOk_t, catOk_t, fits_bool, fits_int, fits_str, fits1_bool, fits1_int, fits1_str, fits_tup, fitsL_cons, fitsL_nil, slen_is, scat_is, ssub_is, sidx_is, natI_is, imin_is, imax_is, Bool.not_eq_true', Bool.not_eq_false', Bool.and_eq_true, Bool.and_eq_false_imp, Bool.or_eq_true, Bool.or_eq_false_iff, decide_eq_true_eq, decide_eq_false_iff_not, true_and, and_true, reduceCtorEq, imp_false, not_false_eq_true, not_true_eq_false, false_imp_iff, true_imp_iff, forall_const, implies_true, Bool.not_true, Bool.not_false, ne_eq, Decidable.not_not, wadd, wsub, wmul, w_i64, w_i32, w_u64, w_u32, w_u16, w_u8, Nat.succ_eq_add_one, Nat.le_eq, Nat.sub_eq, Int.cast_ofNat_Int, Int.toNat_natCast, Int.reduceToNat, Int.reduceAdd, Int.reduceSub, Int.zero_add, lenN_is, fits3_is, nadd0, fits1_agg0, fits1_aggi, fits1_aggs, fits1_aggb, fits_agg0, fits_aggi, fits_aggs, fits_aggb, fits1_lst, fits_lst, fits1_nils, fits_nils, fits1_aggl, fits1_aggn] at *)
        obtain ⟨d1, d2, d3, d4⟩ := str_done hi hge hT
        have : lenF l = l.length := rfl
        show (List.take _ T).length ≤ 900000
        rw [List.length_take]
        omega
      · (cbv; try simp only [sat_need, sat_must, sat_ite, sat_done, sat_yes, sat_ex, sat_all, sat_sup, sat_and, sat_fail, true_and, and_true])
        (subst hL; subst hQ; simp only [L2, L3, std] at *; try simp only [ilt_t, ilt_f, ile_t, ile_f, ieq_t, ieq_f, ine_t, ine_f, seq_t, seq_f, inR_t, inS_t, inC_t, mkOk_t, roomOk_t, catOk_t, fits_bool, fits_int, fits_str, fits1_bool, fits1_int, fits1_str, fits_tup, fitsL_cons, fitsL_nil, slen_is, scat_is, ssub_is, sidx_is, natI_is, imin_is, imax_is, Bool.not_eq_true', Bool.not_eq_false', Bool.and_eq_true, Bool.and_eq_false_imp, Bool.or_eq_true, Bool.or_eq_false_iff, decide_eq_true_eq, decide_eq_false_iff_not, true_and, and_true, reduceCtorEq, imp_false, not_false_eq_true, not_true_eq_false, false_imp_iff, true_imp_iff, forall_const, implies_true, Bool.not_true, Bool.not_false, ne_eq, Decidable.not_not, wadd, wsub, wmul, w_i64, w_i32, w_u64, w_u32, w_u16, w_u8, Nat.succ_eq_add_one, Nat.le_eq, Nat.sub_eq, Int.cast_ofNat_Int, Int.toNat_natCast, Int.reduceToNat, Int.reduceAdd, Int.reduceSub, Int.zero_add, lenN_is, fits3_is, nadd0, fits1_agg0, fits1_aggi, fits1_aggs, fits1_aggb, fits_agg0, fits_aggi, fits_aggs, fits_aggb, fits1_lst, fits_lst, fits1_nils, fits_nils, fits1_aggl, fits1_aggn] at *)
        exact ⟨rfl, Nat.zero_le _⟩
      · cbv at hj
        (cbv; try simp only [sat_need, sat_must, sat_ite, sat_done, sat_yes, sat_ex, sat_all, sat_sup, sat_and, sat_fail, true_and, and_true])
        generalize hk : L (L Int.tmod (L IntKind.i64.wrap a)) (L (L (wadd .i64) (L slen T)) 1) = k
        refine ⟨fun hlt => ⟨?_, fun he => ⟨j + 1, ?_⟩, fun he => ⟨j + 1, ?_⟩⟩, fun hge2 => ⟨⟨0, ?_⟩, fun q hq => ?_⟩⟩
        · (subst hL; subst hQ; simp only [L2, L3, std] at *; try simp only [ilt_t, ilt_f, ile_t, ile_f, ieq_t, ieq_f, ine_t, ine_f, seq_t, seq_f, inR_t, inS_t, inC_t, mkOk_t, roomOk_t, catOk_t, fits_bool, fits_int, fits_str, fits1_bool, fits1_int, fits1_str, fits_tup, fitsL_cons, fitsL_nil, slen_is, scat_is, ssub_is, sidx_is, natI_is, imin_is, imax_is, Bool.not_eq_true', Bool.not_eq_false', Bool.and_eq_true, Bool.and_eq_false_imp, Bool.or_eq_true, Bool.or_eq_false_iff, decide_eq_true_eq, decide_eq_false_iff_not, true_and, and_true, reduceCtorEq, imp_false, not_false_eq_true, not_true_eq_false, false_imp_iff, true_imp_iff, forall_const, implies_true, Bool.not_true, Bool.not_false, ne_eq, Decidable.not_not, wadd, wsub, wmul, w_i64, w_i32, w_u64, w_u32, w_u16, w_u8, Nat.succ_eq_add_one, Nat.le_eq, Nat.sub_eq, Int.cast_ofNat_Int, Int.toNat_natCast, Int.reduceToNat, Int.reduceAdd, Int.reduceSub, Int.zero_add, lenN_is, fits3_is, nadd0, fits1_agg0, fits1_aggi, fits1_aggs, fits1_aggb, fits_agg0, fits_aggi, fits_aggs, fits_aggb, fits1_lst, fits_lst, fits1_nils, fits_nils, fits1_aggl, fits1_aggn] at *)
          omega
        · (cbv; try simp only [sat_need, sat_must, sat_ite, sat_done, sat_yes, sat_ex, sat_all, sat_sup, sat_and, sat_fail, true_and, and_true])
          (subst hL; subst hQ; simp only [L2, L3, std] at *; try simp only [ilt_t, ilt_f, ile_t, ile_f, ieq_t, ieq_f, ine_t, ine_f, seq_t, seq_f, inR_t, inS_t, inC_t, mkOk_t, roomOk_t, catOk_t, fits_bool, fits_int, fits_str, fits1_bool, fits1_int, fits1_str, fits_tup, fitsL_cons, fitsL_nil, slen_is, scat_is, ssub_is, sidx_is, natI_is, imin_is, imax_is, Bool.not_eq_true', Bool.not_eq_false', Bool.and_eq_true, Bool.and_eq_false_imp, Bool.or_eq_true, Bool.or_eq_false_iff, decide_eq_true_eq, decide_eq_false_iff_not, true_and, and_true, reduceCtorEq, imp_false, not_false_eq_true, not_true_eq_false, false_imp_iff, true_imp_iff, forall_const, implies_true, Bool.not_true, Bool.not_false, ne_eq, Decidable.not_not, wadd, wsub, wmul, w_i64, w_i32, w_u64, w_u32, w_u16, w_u8, Nat.succ_eq_add_one, Nat.le_eq, Nat.sub_eq, Int.cast_ofNat_Int, Int.toNat_natCast, Int.reduceToNat, Int.reduceAdd, Int.reduceSub, Int.zero_add, lenN_is, fits3_is, nadd0, fits1_agg0, fits1_aggi, fits1_aggs, fits1_aggb, fits_agg0, fits_aggi, fits_aggs, fits_aggb, fits1_lst, fits_lst, fits1_nils, fits_nils, fits1_aggl, fits1_aggn] at *)
          obtain ⟨d1, d2, d3, d4⟩ := str_done hi hge hT
          have : lenF l = l.length := rfl
          have := cntN_le l k j
          exact ⟨by rw [cntN, if_pos he]; omega, by omega, by omega, by omega⟩
        · (cbv; try simp only [sat_need, sat_must, sat_ite, sat_done, sat_yes, sat_ex, sat_all, sat_sup, sat_and, sat_fail, true_and, and_true])
          (subst hL; subst hQ; simp only [L2, L3, std] at *; try simp only [ilt_t, ilt_f, ile_t, ile_f, ieq_t, ieq_f, ine_t, ine_f, seq_t, seq_f, inR_t, inS_t, inC_t, mkOk_t, roomOk_t, catOk_t, fits_bool, fits_int, fits_str, fits1_bool, fits1_int, fits1_str, fits_tup, fitsL_cons, fitsL_nil, slen_is, scat_is, ssub_is, sidx_is, natI_is, imin_is, imax_is, Bool.not_eq_true', Bool.not_eq_false', Bool.and_eq_true, Bool.and_eq_false_imp, Bool.or_eq_true, Bool.or_eq_false_iff, decide_eq_true_eq, decide_eq_false_iff_not, true_and, and_true, reduceCtorEq, imp_false, not_false_eq_true, not_true_eq_false, false_imp_iff, true_imp_iff, forall_const, implies_true, Bool.not_true, Bool.not_false, ne_eq, Decidable.not_not, wadd, wsub, wmul, w_i64, w_i32, w_u64, w_u32, w_u16, w_u8, Nat.succ_eq_add_one, Nat.le_eq, Nat.sub_eq, Int.cast_ofNat_Int, Int.toNat_natCast, Int.reduceToNat, Int.reduceAdd, Int.reduceSub, Int.zero_add, lenN_is, fits3_is, nadd0, fits1_agg0, fits1_aggi, fits1_aggs, fits1_aggb, fits_agg0, fits_aggi, fits_aggs, fits_aggb, fits1_lst, fits_lst, fits1_nils, fits_nils, fits1_aggl, fits1_aggn] at *)
          obtain ⟨d1, d2, d3, d4⟩ := str_done hi hge hT
          have : lenF l = l.length := rfl
          exact ⟨by rw [cntN, if_neg (by omega)], by omega, by omega, by omega⟩
        · (cbv; try simp only [sat_need, sat_must, sat_ite, sat_done, sat_yes, sat_ex, sat_all, sat_sup, sat_and, sat_fail, true_and, and_true])
          (subst hL; subst hQ; simp only [L2, L3, std] at *; try simp only [ilt_t, ilt_f, ile_t, ile_f, ieq_t, ieq_f, ine_t, ine_f, seq_t, seq_f, inR_t, inS_t, inC_t, mkOk_t, roomOk_t, catOk_t, fits_bool, fits_int, fits_str, fits1_bool, fits1_int, fits1_str, fits_tup, fitsL_cons, fitsL_nil, slen_is, scat_is, ssub_is, sidx_is, natI_is, imin_is, imax_is, Bool.not_eq_true', Bool.not_eq_false', Bool.and_eq_true, Bool.and_eq_false_imp, Bool.or_eq_true, Bool.or_eq_false_iff, decide_eq_true_eq, decide_eq_false_iff_not, true_and, and_true, reduceCtorEq, imp_false, not_false_eq_true, not_true_eq_false, false_imp_iff, true_imp_iff, forall_const, implies_true, Bool.not_true, Bool.not_false, ne_eq, Decidable.not_not, wadd, wsub, wmul, w_i64, w_i32, w_u64, w_u32, w_u16, w_u8, Nat.succ_eq_add_one, Nat.le_eq, Nat.sub_eq, Int.cast_ofNat_Int, Int.toNat_natCast, Int.reduceToNat, Int.reduceAdd, Int.reduceSub, Int.zero_add, lenN_is, fits3_is, nadd0, fits1_agg0, fits1_aggi, fits1_aggs, fits1_aggb, fits_agg0, fits_aggi, fits_aggs, fits_aggb, fits1_lst, fits_lst, fits1_nils, fits_nils, fits1_aggl, fits1_aggn] at *)
          exact Nat.zero_le _
        · cbv at hq
          (cbv; try simp only [sat_need, sat_must, sat_ite, sat_done, sat_yes, sat_ex, sat_all, sat_sup, sat_and, sat_fail, true_and, and_true])
          generalize hC : L allF (L (L (fun (s : List UInt8) (b : Int) => List.take b.toNat s) T) k) = C at hq ⊢
          refine ⟨fun hlt => ⟨?_, ?_, fun hne => ?_, fun _ => ⟨?_, ?_, fun hne => ?_, fun _ => ⟨q + 1, ?_⟩⟩⟩, fun hge3 => ?_⟩
          · (subst hL; subst hQ; simp only [L2, L3, std] at *; try simp only [ilt_t, ilt_f, ile_t, ile_f, ieq_t, ieq_f, ine_t, ine_f, seq_t, seq_f, inR_t, inS_t, inC_t, mkOk_t, roomOk_t, catOk_t, fits_bool, fits_int, fits_str, fits1_bool, fits1_int, fits1_str, fits_tup, fitsL_cons, fitsL_nil, slen_is, scat_is, ssub_is, sidx_is, natI_is, imin_is, imax_is, Bool.not_eq_true', Bool.not_eq_false', Bool.and_eq_true, Bool.and_eq_false_imp, Bool.or_eq_true, Bool.or_eq_false_iff, decide_eq_true_eq, decide_eq_false_iff_not, true_and, and_true, reduceCtorEq, imp_false, not_false_eq_true, not_true_eq_false, false_imp_iff, true_imp_iff, forall_const, implies_true, Bool.not_true, Bool.not_false, ne_eq, Decidable.not_not, wadd, wsub, wmul, w_i64, w_i32, w_u64, w_u32, w_u16, w_u8, Nat.succ_eq_add_one, Nat.le_eq, Nat.sub_eq, Int.cast_ofNat_Int, Int.toNat_natCast, Int.reduceToNat, Int.reduceAdd, Int.reduceSub, Int.zero_add, lenN_is, fits3_is, nadd0, fits1_agg0, fits1_aggi, fits1_aggs, fits1_aggb, fits_agg0, fits_aggi, fits_aggs, fits_aggb, fits1_lst, fits_lst, fits1_nils, fits_nils, fits1_aggl, fits1_aggn] at *)
            omega
          · (subst hL; subst hQ; simp only [L2, L3, std] at *; try simp only [ilt_t, ilt_f, ile_t, ile_f, ieq_t, ieq_f, ine_t, ine_f, seq_t, seq_f, inR_t, inS_t, inC_t, mkOk_t, roomOk_t, catOk_t, fits_bool, fits_int, fits_str, fits1_bool, fits1_int, fits1_str, fits_tup, fitsL_cons, fitsL_nil, slen_is, scat_is, ssub_is, sidx_is, natI_is, imin_is, imax_is, Bool.not_eq_true', Bool.not_eq_false', Bool.and_eq_true, Bool.and_eq_false_imp, Bool.or_eq_true, Bool.or_eq_false_iff, decide_eq_true_eq, decide_eq_false_iff_not, true_and, and_true, reduceCtorEq, imp_false, not_false_eq_true, not_true_eq_false, false_imp_iff, true_imp_iff, forall_const, implies_true, Bool.not_true, Bool.not_false, ne_eq, Decidable.not_not, wadd, wsub, wmul, w_i64, w_i32, w_u64, w_u32, w_u16, w_u8, Nat.succ_eq_add_one, Nat.le_eq, Nat.sub_eq, Int.cast_ofNat_Int, Int.toNat_natCast, Int.reduceToNat, Int.reduceAdd, Int.reduceSub, Int.zero_add, lenN_is, fits3_is, nadd0, fits1_agg0, fits1_aggi, fits1_aggs, fits1_aggb, fits_agg0, fits_aggi, fits_aggs, fits_aggb, fits1_lst, fits_lst, fits1_nils, fits_nils, fits1_aggl, fits1_aggn] at *)
            obtain ⟨m, m1, m2, m3, m4, m5⟩ := str_cut hi hge hT hj hge2 hk ha ha' h1 hC
            omega
          · (subst hL; subst hQ; simp only [L2, L3, std] at *; try simp only [ilt_t, ilt_f, ile_t, ile_f, ieq_t, ieq_f, ine_t, ine_f, seq_t, seq_f, inR_t, inS_t, inC_t, mkOk_t, roomOk_t, catOk_t, fits_bool, fits_int, fits_str, fits1_bool, fits1_int, fits1_str, fits_tup, fitsL_cons, fitsL_nil, slen_is, scat_is, ssub_is, sidx_is, natI_is, imin_is, imax_is, Bool.not_eq_true', Bool.not_eq_false', Bool.and_eq_true, Bool.and_eq_false_imp, Bool.or_eq_true, Bool.or_eq_false_iff, decide_eq_true_eq, decide_eq_false_iff_not, true_and, and_true, reduceCtorEq, imp_false, not_false_eq_true, not_true_eq_false, false_imp_iff, true_imp_iff, forall_const, implies_true, Bool.not_true, Bool.not_false, ne_eq, Decidable.not_not, wadd, wsub, wmul, w_i64, w_i32, w_u64, w_u32, w_u16, w_u8, Nat.succ_eq_add_one, Nat.le_eq, Nat.sub_eq, Int.cast_ofNat_Int, Int.toNat_natCast, Int.reduceToNat, Int.reduceAdd, Int.reduceSub, Int.zero_add, lenN_is, fits3_is, nadd0, fits1_agg0, fits1_aggi, fits1_aggs, fits1_aggb, fits_agg0, fits_aggi, fits_aggs, fits_aggb, fits1_lst, fits_lst, fits1_nils, fits_nils, fits1_aggl, fits1_aggn] at *)
            obtain ⟨m, m1, m2, m3, m4, m5⟩ := str_cut hi hge hT hj hge2 hk ha ha' h1 hC
            rw [m2, nthF_take l (show q < m by omega)] at hne
            simp at hne
          · (subst hL; subst hQ; simp only [L2, L3, std] at *; try simp only [ilt_t, ilt_f, ile_t, ile_f, ieq_t, ieq_f, ine_t, ine_f, seq_t, seq_f, inR_t, inS_t, inC_t, mkOk_t, roomOk_t, catOk_t, fits_bool, fits_int, fits_str, fits1_bool, fits1_int, fits1_str, fits_tup, fitsL_cons, fitsL_nil, slen_is, scat_is, ssub_is, sidx_is, natI_is, imin_is, imax_is, Bool.not_eq_true', Bool.not_eq_false', Bool.and_eq_true, Bool.and_eq_false_imp, Bool.or_eq_true, Bool.or_eq_false_iff, decide_eq_true_eq, decide_eq_false_iff_not, true_and, and_true, reduceCtorEq, imp_false, not_false_eq_true, not_true_eq_false, false_imp_iff, true_imp_iff, forall_const, implies_true, Bool.not_true, Bool.not_false, ne_eq, Decidable.not_not, wadd, wsub, wmul, w_i64, w_i32, w_u64, w_u32, w_u16, w_u8, Nat.succ_eq_add_one, Nat.le_eq, Nat.sub_eq, Int.cast_ofNat_Int, Int.toNat_natCast, Int.reduceToNat, Int.reduceAdd, Int.reduceSub, Int.zero_add, lenN_is, fits3_is, nadd0, fits1_agg0, fits1_aggi, fits1_aggs, fits1_aggb, fits_agg0, fits_aggi, fits_aggs, fits_aggb, fits1_lst, fits_lst, fits1_nils, fits_nils, fits1_aggl, fits1_aggn] at *)
            obtain ⟨m, m1, m2, m3, m4, m5⟩ := str_cut hi hge hT hj hge2 hk ha ha' h1 hC
            rw [m5]
            omega
          · (subst hL; subst hQ; simp only [L2, L3, std] at *; try simp only [ilt_t, ilt_f, ile_t, ile_f, ieq_t, ieq_f, ine_t, ine_f, seq_t, seq_f, inR_t, inS_t, inC_t, mkOk_t, roomOk_t, catOk_t, fits_bool, fits_int, fits_str, fits1_bool, fits1_int, fits1_str, fits_tup, fitsL_cons, fitsL_nil, slen_is, scat_is, ssub_is, sidx_is, natI_is, imin_is, imax_is, Bool.not_eq_true', Bool.not_eq_false', Bool.and_eq_true, Bool.and_eq_false_imp, Bool.or_eq_true, Bool.or_eq_false_iff, decide_eq_true_eq, decide_eq_false_iff_not, true_and, and_true, reduceCtorEq, imp_false, not_false_eq_true, not_true_eq_false, false_imp_iff, true_imp_iff, forall_const, implies_true, Bool.not_true, Bool.not_false, ne_eq, Decidable.not_not, wadd, wsub, wmul, w_i64, w_i32, w_u64, w_u32, w_u16, w_u8, Nat.succ_eq_add_one, Nat.le_eq, Nat.sub_eq, Int.cast_ofNat_Int, Int.toNat_natCast, Int.reduceToNat, Int.reduceAdd, Int.reduceSub, Int.zero_add, lenN_is, fits3_is, nadd0, fits1_agg0, fits1_aggi, fits1_aggs, fits1_aggb, fits_agg0, fits_aggi, fits_aggs, fits_aggb, fits1_lst, fits_lst, fits1_nils, fits_nils, fits1_aggl, fits1_aggn] at *)
            obtain ⟨m, m1, m2, m3, m4, m5⟩ := str_cut hi hge hT hj hge2 hk ha ha' h1 hC
            omega
          · (subst hL; subst hQ; simp only [L2, L3, std] at *; try simp only [ilt_t, ilt_f, ile_t, ile_f, ieq_t, ieq_f, ine_t, ine_f, seq_t, seq_f, inR_t, inS_t, inC_t, mkOk_t, roomOk_t, catOk_t, fits_bool, fits_int, fits_str, fits1_bool, fits1_int, fits1_str, fits_tup, fitsL_cons, fitsL_nil, slen_is, scat_is, ssub_is, sidx_is, natI_is, imin_is, imax_is, Bool.not_eq_true', Bool.not_eq_false', Bool.and_eq_true, Bool.and_eq_false_imp, Bool.or_eq_true, Bool.or_eq_false_iff, decide_eq_true_eq, decide_eq_false_iff_not, true_and, and_true, reduceCtorEq, imp_false, not_false_eq_true, not_true_eq_false, false_imp_iff, true_imp_iff, forall_const, implies_true, Bool.not_true, Bool.not_false, ne_eq, Decidable.not_not, wadd, wsub, wmul, w_i64, w_i32, w_u64, w_u32, w_u16, w_u8, Nat.succ_eq_add_one, Nat.le_eq, Nat.sub_eq, Int.cast_ofNat_Int, Int.toNat_natCast, Int.reduceToNat, Int.reduceAdd, Int.reduceSub, Int.zero_add, lenN_is, fits3_is, nadd0, fits1_agg0, fits1_aggi, fits1_aggs, fits1_aggb, fits_agg0, fits_aggi, fits_aggs, fits_aggb, fits1_lst, fits_lst, fits1_nils, fits_nils, fits1_aggl, fits1_aggn] at *)
            obtain ⟨m, m1, m2, m3, m4, m5⟩ := str_cut hi hge hT hj hge2 hk ha ha' h1 hC
            rw [m5] at hne
            simp at hne
          · (cbv; try simp only [sat_need, sat_must, sat_ite, sat_done, sat_yes, sat_ex, sat_all, sat_sup, sat_and, sat_fail, true_and, and_true])
            (subst hL; subst hQ; simp only [L2, L3, std] at *; try simp only [ilt_t, ilt_f, ile_t, ile_f, ieq_t, ieq_f, ine_t, ine_f, seq_t, seq_f, inR_t, inS_t, inC_t, mkOk_t, roomOk_t, catOk_t, fits_bool, fits_int, fits_str, fits1_bool, fits1_int, fits1_str, fits_tup, fitsL_cons, fitsL_nil, slen_is, scat_is, ssub_is, sidx_is, natI_is, imin_is, imax_is, Bool.not_eq_true', Bool.not_eq_false', Bool.and_eq_true, Bool.and_eq_false_imp, Bool.or_eq_true, Bool.or_eq_false_iff, decide_eq_true_eq, decide_eq_false_iff_not, true_and, and_true, reduceCtorEq, imp_false, not_false_eq_true, not_true_eq_false, false_imp_iff, true_imp_iff, forall_const, implies_true, Bool.not_true, Bool.not_false, ne_eq, Decidable.not_not, wadd, wsub, wmul, w_i64, w_i32, w_u64, w_u32, w_u16, w_u8, Nat.succ_eq_add_one, Nat.le_eq, Nat.sub_eq, Int.cast_ofNat_Int, Int.toNat_natCast, Int.reduceToNat, Int.reduceAdd, Int.reduceSub, Int.zero_add, lenN_is, fits3_is, nadd0, fits1_agg0, fits1_aggi, fits1_aggs, fits1_aggb, fits_agg0, fits_aggi, fits_aggs, fits_aggb, fits1_lst, fits_lst, fits1_nils, fits_nils, fits1_aggl, fits1_aggn] at *)
            obtain ⟨m, m1, m2, m3, m4, m5⟩ := str_cut hi hge hT hj hge2 hk ha ha' h1 hC
            exact ⟨by omega, by omega, by omega⟩
          · (subst hL; subst hQ; simp only [L2, L3, std] at *; try simp only [ilt_t, ilt_f, ile_t, ile_f, ieq_t, ieq_f, ine_t, ine_f, seq_t, seq_f, inR_t, inS_t, inC_t, mkOk_t, roomOk_t, catOk_t, fits_bool, fits_int, fits_str, fits1_bool, fits1_int, fits1_str, fits_tup, fitsL_cons, fitsL_nil, slen_is, scat_is, ssub_is, sidx_is, natI_is, imin_is, imax_is, Bool.not_eq_true', Bool.not_eq_false', Bool.and_eq_true, Bool.and_eq_false_imp, Bool.or_eq_true, Bool.or_eq_false_iff, decide_eq_true_eq, decide_eq_false_iff_not, true_and, and_true, reduceCtorEq, imp_false, not_false_eq_true, not_true_eq_false, false_imp_iff, true_imp_iff, forall_const, implies_true, Bool.not_true, Bool.not_false, ne_eq, Decidable.not_not, wadd, wsub, wmul, w_i64, w_i32, w_u64, w_u32, w_u16, w_u8, Nat.succ_eq_add_one, Nat.le_eq, Nat.sub_eq, Int.cast_ofNat_Int, Int.toNat_natCast, Int.reduceToNat, Int.reduceAdd, Int.reduceSub, Int.zero_add, lenN_is, fits3_is, nadd0, fits1_agg0, fits1_aggi, fits1_aggs, fits1_aggb, fits_agg0, fits_aggi, fits_aggs, fits_aggb, fits1_lst, fits_lst, fits1_nils, fits_nils, fits1_aggl, fits1_aggn] at *)
            obtain ⟨m, m1, m2, m3, m4, m5⟩ := str_cut hi hge hT hj hge2 hk ha ha' h1 hC
            rw [m4, m3]
theorem law_FrameStream (l : List Fr) (hl : l.length ≤ maxLen ∧ ∀ f ∈ l, FrOk f) (a : Int) (ha : (Lit.int .u16 a).wf = true) : ACalls Try.prog 15 [.lst 3 l.length (avL (frAt std) l), .int .u16 a] (.bool true) :=
  ac_args (fun h D vs r => rl_lst (fun i j hi hj => avF l i j hi) r) (frameStream_ac l a hl.1 hl.2 (by have := bounds_u16 ha; omega) (by have := bounds_u16 ha; omega))
end Sy
end Go.Proofs.Ytgmafhogkdhadaa
