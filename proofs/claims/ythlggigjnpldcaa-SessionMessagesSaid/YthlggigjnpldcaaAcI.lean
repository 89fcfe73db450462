/- Chapter 7 (codec): bare, the same; the document's. -/
import Derived.Test.YthlggigjnpldcaaAcE
namespace Go.Proofs.Ythlggigjnpldcaa
namespace Sy
open Go Go.RowKit
set_option maxRecDepth 100000
set_option linter.unusedSimpArgs false
set_option linter.unusedVariables false

/-! ### The document's Deep -/
def rdeepA (L : Seal) (l : List CV) : Nat → St → Option Ann := fun id s => match id with
  | 0 => some ⟨Nat, fun i => [(13, .int .i64 (L natI i)), (3, .int .i64 (L2 L deepTo l i))], fun i => [], [11, 12], [],
      fun i => L2 L (fun (l : List CV) i => i ≤ l.length) l i, fun i => L2 L (fun (l : List CV) (i : Nat) => l.length - i) l i⟩
  | _ => none
def rdeep_s (N : Nat) (L : Seal) : Ent1 := (16, fun xs => match xs with
  | [.agg [.int .i64 k, .int .u64 n, .str s, x]] => some (L okL x ∧ L2 L szOk N (mkV L k n s x), .int .i64 (L deepV (mkV L k n s x)))
  | _ => none)
theorem rdeep_good : ∀ N, Good Try.prog (rdeep_s N std) := by
  intro N
  induction N with
  | zero =>
    intro xs p r h hp
    unfold rdeep_s at h
    simp only at h
    split at h
    · rename_i k n s x
      cases h
      have h1 : sizeC (mkV std k n s x) ≤ 0 := hp.2.1
      have := sizeC_pos (mkV std k n s x)
      omega
    · cases h
  | succ N ih =>
    intro xs p r h hp
    unfold rdeep_s at h
    simp only at h
    split at h
    rotate_left
    · cases h
    rename_i k n s x
    cases h
    obtain ⟨ho, hz⟩ := hp
    refine ac_v ho ?_
    rw [show mkV std k n s x = .mk k n s (rdL x) from rfl] at hz ⊢
    generalize rdL x = l at hz ⊢
    have hz : szOk (N + 1) (.mk k n s l) := hz
    refine acalls_L' (T := tt) (S := fun L => sumOf [rdeep_s N L]) (lo := fun L => rdeepA L l) (lb := noA) 5 (fn := Try.f16) (xs := fun L => [.agg [.int .i64 k, .int .u64 n, .str s, cvL L l]]) rfl rfl (by kernel_rfl) (by kernel_rfl) rfl tt_ok
      (sumOf_ok ⟨ih, trivial⟩) (by kernel_rfl) ?_
    intro L P' Q' hL hP hQ
    (cbv; try simp only [sat_need, sat_must, sat_ite, sat_done, sat_yes, sat_ex, sat_all, sat_sup, sat_and, sat_fail, true_and, and_true])
    refine ⟨fun h => ?_, fun h => ⟨⟨0, ?_⟩, fun i hi => ?_⟩⟩
    · (subst hL; subst hQ; simp only [L2, L3, std] at *; try simp only [sySet, reduceCtorEq, forall_const, Int.reduceToNat, Int.reduceAdd, Int.reduceSub, Int.cast_ofNat_Int, Int.toNat_natCast, Nat.le_eq, Nat.sub_eq, ne_eq, Decidable.not_not, implies_true, true_and, and_true, wadd, wsub, wmul, decide_eq_true_eq, decide_eq_false_iff_not, Nat.succ_eq_add_one, imp_false, not_false_eq_true, not_true_eq_false, false_imp_iff, true_imp_iff] at *)
      rw [deepV, if_neg h]
    · (cbv; try simp only [sat_need, sat_must, sat_ite, sat_done, sat_yes, sat_ex, sat_all, sat_sup, sat_and, sat_fail, true_and, and_true])
      (subst hL; subst hQ; simp only [L2, L3, std] at *; try simp only [sySet, reduceCtorEq, forall_const, Int.reduceToNat, Int.reduceAdd, Int.reduceSub, Int.cast_ofNat_Int, Int.toNat_natCast, Nat.le_eq, Nat.sub_eq, ne_eq, Decidable.not_not, implies_true, true_and, and_true, wadd, wsub, wmul, decide_eq_true_eq, decide_eq_false_iff_not, Nat.succ_eq_add_one, imp_false, not_false_eq_true, not_true_eq_false, false_imp_iff, true_imp_iff] at *)
      exact ⟨by rw [deepTo, List.take_zero, deepLs], Nat.zero_le _⟩
    · cbv at hi
      (cbv; try simp only [sat_need, sat_must, sat_ite, sat_done, sat_yes, sat_ex, sat_all, sat_sup, sat_and, sat_fail, true_and, and_true])
      refine ⟨fun hlt => ⟨?_, ⟨?_, ?_⟩, fun hgt => ⟨i + 1, ?_⟩, fun hgt => ⟨i + 1, ?_⟩⟩, fun hge => ?_⟩
      · (subst hL; subst hQ; simp only [L2, L3, std] at *; try simp only [sySet, reduceCtorEq, forall_const, Int.reduceToNat, Int.reduceAdd, Int.reduceSub, Int.cast_ofNat_Int, Int.toNat_natCast, Nat.le_eq, Nat.sub_eq, ne_eq, Decidable.not_not, implies_true, true_and, and_true, wadd, wsub, wmul, decide_eq_true_eq, decide_eq_false_iff_not, Nat.succ_eq_add_one, imp_false, not_false_eq_true, not_true_eq_false, false_imp_iff, true_imp_iff] at *)
        omega
      · (subst hL; subst hQ; simp only [L2, L3, std] at *; try simp only [sySet, reduceCtorEq, forall_const, Int.reduceToNat, Int.reduceAdd, Int.reduceSub, Int.cast_ofNat_Int, Int.toNat_natCast, Nat.le_eq, Nat.sub_eq, ne_eq, Decidable.not_not, implies_true, true_and, and_true, wadd, wsub, wmul, decide_eq_true_eq, decide_eq_false_iff_not, Nat.succ_eq_add_one, imp_false, not_false_eq_true, not_true_eq_false, false_imp_iff, true_imp_iff] at *)
        exact (rd_in _).2
      · (subst hL; subst hQ; simp only [L2, L3, std] at *; try simp only [sySet, reduceCtorEq, forall_const, Int.reduceToNat, Int.reduceAdd, Int.reduceSub, Int.cast_ofNat_Int, Int.toNat_natCast, Nat.le_eq, Nat.sub_eq, ne_eq, Decidable.not_not, implies_true, true_and, and_true, wadd, wsub, wmul, decide_eq_true_eq, decide_eq_false_iff_not, Nat.succ_eq_add_one, imp_false, not_false_eq_true, not_true_eq_false, false_imp_iff, true_imp_iff] at *)
        rw [mk_parts]
        rw [sizeC_mk_ok] at hz
        exact nth_sz hz.1 (by have : lenL l = l.length := rfl; omega)
      · (cbv; try simp only [sat_need, sat_must, sat_ite, sat_done, sat_yes, sat_ex, sat_all, sat_sup, sat_and, sat_fail, true_and, and_true])
        (subst hL; subst hQ; simp only [L2, L3, std] at *; try simp only [sySet, reduceCtorEq, forall_const, Int.reduceToNat, Int.reduceAdd, Int.reduceSub, Int.cast_ofNat_Int, Int.toNat_natCast, Nat.le_eq, Nat.sub_eq, ne_eq, Decidable.not_not, implies_true, true_and, and_true, wadd, wsub, wmul, decide_eq_true_eq, decide_eq_false_iff_not, Nat.succ_eq_add_one, imp_false, not_false_eq_true, not_true_eq_false, false_imp_iff, true_imp_iff] at *)
        have : lenL l = l.length := rfl
        have := len_sz l
        have h1 := hz.1
        have h2 := hz.2
        rw [sizeC_mk] at h1
        rw [mkV_parts] at hgt ⊢
        exact ⟨by rw [deepTo_succ (by omega)]; omega, by omega, by omega, by omega⟩
      · (cbv; try simp only [sat_need, sat_must, sat_ite, sat_done, sat_yes, sat_ex, sat_all, sat_sup, sat_and, sat_fail, true_and, and_true])
        (subst hL; subst hQ; simp only [L2, L3, std] at *; try simp only [sySet, reduceCtorEq, forall_const, Int.reduceToNat, Int.reduceAdd, Int.reduceSub, Int.cast_ofNat_Int, Int.toNat_natCast, Nat.le_eq, Nat.sub_eq, ne_eq, Decidable.not_not, implies_true, true_and, and_true, wadd, wsub, wmul, decide_eq_true_eq, decide_eq_false_iff_not, Nat.succ_eq_add_one, imp_false, not_false_eq_true, not_true_eq_false, false_imp_iff, true_imp_iff] at *)
        have : lenL l = l.length := rfl
        have := len_sz l
        have h1 := hz.1
        have h2 := hz.2
        rw [sizeC_mk] at h1
        rw [mkV_parts] at hgt
        exact ⟨by rw [deepTo_succ (by omega)]; omega, by omega, by omega, by omega⟩
      · (subst hL; subst hQ; simp only [L2, L3, std] at *; try simp only [sySet, reduceCtorEq, forall_const, Int.reduceToNat, Int.reduceAdd, Int.reduceSub, Int.cast_ofNat_Int, Int.toNat_natCast, Nat.le_eq, Nat.sub_eq, ne_eq, Decidable.not_not, implies_true, true_and, and_true, wadd, wsub, wmul, decide_eq_true_eq, decide_eq_false_iff_not, Nat.succ_eq_add_one, imp_false, not_false_eq_true, not_true_eq_false, false_imp_iff, true_imp_iff] at *)
        have : lenL l = l.length := rfl
        have hil : i = l.length := by omega
        have h3 := deepTo_le l i
        have h1 := hz.1
        have h2 := hz.2
        rw [sizeC_mk] at h1
        rw [deepV, if_pos h, hil, deepTo, List.take_length]
        rw [hil, deepTo, List.take_length] at h3
        omega

/-! ### bare -/
theorem bareLs_all : ∀ l : List CV, bareLs l = true ↔ ∀ i, i < l.length → bareV (nthV l i) = true
  | [] => by rw [bareLs]; simp
  | v :: l => by
    rw [bareLs, Bool.and_eq_true, bareLs_all l]
    refine ⟨fun ⟨h1, h2⟩ i hi => ?_, fun h => ⟨h 0 (by simp), fun i hi => h (i + 1) (by simpa using hi)⟩⟩
    cases i with
    | zero => exact h1
    | succ i => exact h2 i (by simpa using hi)
/-- The first that isn't bare. -/
def idxB (l : List CV) : Int := if bareLs l = true then -1 else (l.findIdx fun v => !bareV v : Nat)
def bareTo (l : List CV) (i : Nat) : Prop := i ≤ l.length ∧ ∀ j, j < i → bareV (nthV l j) = true
theorem idxB_at {l : List CV} {i : Nat} (hi : i < l.length) (h : ∀ j, j < i → bareV (nthV l j) = true) (hn : bareV (nthV l i) = false) : idxB l = (i : Int) := by
  have hb : ¬ bareLs l = true := by
    rw [bareLs_all]
    intro h2
    have := h2 i hi
    rw [hn] at this; cases this
  rw [idxB, if_neg hb]
  congr 1
  rw [List.findIdx_eq hi]
  have get : ∀ (j : Nat) (hj : j < l.length), l[j] = nthV l j := by
    intro j hj
    rw [nthV, List.getD_eq_getElem?_getD, List.getElem?_eq_getElem hj]; rfl
  refine ⟨by rw [get i hi, hn]; rfl, fun j hj => ?_⟩
  have hj' := h j hj
  rw [get j (by omega), hj']; rfl
theorem idxB_neg {l : List CV} (h : ∀ j, j < l.length → bareV (nthV l j) = true) : idxB l = -1 := by rw [idxB, if_pos ((bareLs_all l).2 h)]
theorem idxB_ge (l : List CV) : (0 ≤ idxB l) = (bareLs l = false) := by
  unfold idxB
  split
  · rename_i h; rw [h]; simp
  · rename_i h; simp at h; rw [h]; simp
def b1_s (N : Nat) (L : Seal) : Ent1 := (82, fun xs => match xs with
  | [.agg [.int .i64 k, .int .u64 n, .str s, x]] => some (L okL x ∧ L2 L szOk N (mkV L k n s x), .bool (L not (L bareV (mkV L k n s x))))
  | _ => none)
def if_s (N : Nat) (L : Seal) : Ent1 := (103, fun xs => match xs with
  | [x, .fn 82 [] []] => some (L okL x ∧ L2 L szOks N (L rdL x), .int .i64 (L idxB (L rdL x)))
  | _ => none)
def cf_s (N : Nat) (L : Seal) : Ent1 := (81, fun xs => match xs with
  | [x, .fn 82 [] []] => some (L okL x ∧ L2 L szOks N (L rdL x), .bool (L not (L bareLs (L rdL x))))
  | _ => none)
def bare_s (N : Nat) (L : Seal) : Ent1 := (47, fun xs => match xs with
  | [.agg [.int .i64 k, .int .u64 n, .str s, x]] => some (L okL x ∧ L2 L szOk N (mkV L k n s x), .bool (L bareV (mkV L k n s x)))
  | _ => none)
theorem lenL0 (l : List CV) : ieq ((lenL l : Nat) : Int) 0 = l.isEmpty := by
  cases l with
  | nil => rfl
  | cons v l =>
    simp [lenL, ieq]
    omega
theorem ile_f' (a b : Int) : (ile a b = false) = ¬ a ≤ b := by simp [ile]
theorem b1_of {N : Nat} (ih : Good Try.prog (bare_s N std)) : Good Try.prog (b1_s N std) := by
  intro xs p r h hp
  unfold b1_s at h
  simp only at h
  split at h
  rotate_left
  · cases h
  rename_i k n s x
  cases h
  obtain ⟨ho, hz⟩ := hp
  refine ac_v ho ?_
  rw [show mkV std k n s x = .mk k n s (rdL x) from rfl] at hz ⊢
  generalize rdL x = l at hz ⊢
  have hz : szOk N (.mk k n s l) := hz
  refine acalls_L' (xs := fun L => [.agg [.int .i64 k, .int .u64 n, .str s, cvL L l]]) (T := tt) (S := fun L => sumOf [bare_s N L]) (lo := noA) (lb := noA) 5 (fn := Try.f82) rfl rfl (by kernel_rfl) (by kernel_rfl) rfl tt_ok (sumOf_ok ⟨ih, trivial⟩) (by kernel_rfl) ?_
  intro L P' Q' hL hP hQ
  (cbv; try simp only [sat_need, sat_must, sat_ite, sat_done, sat_yes, sat_ex, sat_all, sat_sup, sat_and, sat_fail, true_and, and_true])
  (subst hL; subst hQ; simp only [L2, L3, std] at *; try simp only [sySet, reduceCtorEq, forall_const, Int.reduceToNat, Int.reduceAdd, Int.reduceSub, Int.cast_ofNat_Int, Int.toNat_natCast, Nat.le_eq, Nat.sub_eq, ne_eq, Decidable.not_not, implies_true, true_and, and_true, wadd, wsub, wmul, decide_eq_true_eq, decide_eq_false_iff_not, Nat.succ_eq_add_one, imp_false, not_false_eq_true, not_true_eq_false, false_imp_iff, true_imp_iff] at *)
  rw [rdl, mkl]
  exact ⟨⟨okl l, hz⟩, rfl⟩
def ifA (L : Seal) (l : List CV) : Nat → St → Option Ann := fun id s => match id with
  | 0 => some ⟨Nat, fun i => [(8, .int .i64 (L natI i))], fun i => [], [0, 1, 6, 7], [],
      fun i => L2 L bareTo l i, fun i => L2 L (fun (l : List CV) (i : Nat) => l.length - i) l i⟩
  | _ => none
theorem if_of {N : Nat} (ih : Good Try.prog (b1_s N std)) : Good Try.prog (if_s N std) := by
  intro xs p r h hp
  unfold if_s at h
  simp only at h
  split at h
  rotate_left
  · cases h
  rename_i x
  cases h
  obtain ⟨ho, hz⟩ := hp
  refine ac_l ho ?_
  have hz : szOks N (rdL x) := hz
  show ACalls _ _ _ (.int .i64 (idxB (rdL x)))
  generalize rdL x = l at hz ⊢
  refine acalls_L' (T := tt) (S := fun L => sumOf [b1_s N L]) (lo := fun L => ifA L l) (lb := noA) 5 (fn := Try.f103) (xs := fun L => [cvL L l, .fn 82 [] []]) rfl rfl (by kernel_rfl) (by kernel_rfl) rfl tt_ok
    (sumOf_ok ⟨ih, trivial⟩) (by kernel_rfl) ?_
  intro L P' Q' hL hP hQ
  (cbv; try simp only [sat_need, sat_must, sat_ite, sat_done, sat_yes, sat_ex, sat_all, sat_sup, sat_and, sat_fail, true_and, and_true])
  refine ⟨⟨0, ?_⟩, fun i hi => ?_⟩
  · (cbv; try simp only [sat_need, sat_must, sat_ite, sat_done, sat_yes, sat_ex, sat_all, sat_sup, sat_and, sat_fail, true_and, and_true])
    (subst hL; subst hQ; simp only [L2, L3, std] at *; try simp only [sySet, reduceCtorEq, forall_const, Int.reduceToNat, Int.reduceAdd, Int.reduceSub, Int.cast_ofNat_Int, Int.toNat_natCast, Nat.le_eq, Nat.sub_eq, ne_eq, Decidable.not_not, implies_true, true_and, and_true, wadd, wsub, wmul, decide_eq_true_eq, decide_eq_false_iff_not, Nat.succ_eq_add_one, imp_false, not_false_eq_true, not_true_eq_false, false_imp_iff, true_imp_iff] at *)
    exact ⟨Nat.zero_le _, fun j hj => by omega⟩
  · cbv at hi
    (cbv; try simp only [sat_need, sat_must, sat_ite, sat_done, sat_yes, sat_ex, sat_all, sat_sup, sat_and, sat_fail, true_and, and_true])
    refine ⟨fun hlt => ⟨?_, ⟨?_, ?_⟩, fun hb => ?_, fun hb => ⟨i + 1, ?_⟩⟩, fun hge => ?_⟩
    · (subst hL; subst hQ; simp only [L2, L3, std] at *; try simp only [sySet, reduceCtorEq, forall_const, Int.reduceToNat, Int.reduceAdd, Int.reduceSub, Int.cast_ofNat_Int, Int.toNat_natCast, Nat.le_eq, Nat.sub_eq, ne_eq, Decidable.not_not, implies_true, true_and, and_true, wadd, wsub, wmul, decide_eq_true_eq, decide_eq_false_iff_not, Nat.succ_eq_add_one, imp_false, not_false_eq_true, not_true_eq_false, false_imp_iff, true_imp_iff] at *)
      omega
    · (subst hL; subst hQ; simp only [L2, L3, std] at *; try simp only [sySet, reduceCtorEq, forall_const, Int.reduceToNat, Int.reduceAdd, Int.reduceSub, Int.cast_ofNat_Int, Int.toNat_natCast, Nat.le_eq, Nat.sub_eq, ne_eq, Decidable.not_not, implies_true, true_and, and_true, wadd, wsub, wmul, decide_eq_true_eq, decide_eq_false_iff_not, Nat.succ_eq_add_one, imp_false, not_false_eq_true, not_true_eq_false, false_imp_iff, true_imp_iff] at *)
      exact (rd_in _).2
    · (subst hL; subst hQ; simp only [L2, L3, std] at *; try simp only [sySet, reduceCtorEq, forall_const, Int.reduceToNat, Int.reduceAdd, Int.reduceSub, Int.cast_ofNat_Int, Int.toNat_natCast, Nat.le_eq, Nat.sub_eq, ne_eq, Decidable.not_not, implies_true, true_and, and_true, wadd, wsub, wmul, decide_eq_true_eq, decide_eq_false_iff_not, Nat.succ_eq_add_one, imp_false, not_false_eq_true, not_true_eq_false, false_imp_iff, true_imp_iff] at *)
      rw [mk_parts]
      exact nth_sz hz (by have : lenL l = l.length := rfl; omega)
    · (subst hL; subst hQ; simp only [L2, L3, std] at *; try simp only [sySet, reduceCtorEq, forall_const, Int.reduceToNat, Int.reduceAdd, Int.reduceSub, Int.cast_ofNat_Int, Int.toNat_natCast, Nat.le_eq, Nat.sub_eq, ne_eq, Decidable.not_not, implies_true, true_and, and_true, wadd, wsub, wmul, decide_eq_true_eq, decide_eq_false_iff_not, Nat.succ_eq_add_one, imp_false, not_false_eq_true, not_true_eq_false, false_imp_iff, true_imp_iff] at *)
      rw [mkV_parts] at hb
      exact (idxB_at (by have : lenL l = l.length := rfl; omega) hi.2 hb).symm
    · (cbv; try simp only [sat_need, sat_must, sat_ite, sat_done, sat_yes, sat_ex, sat_all, sat_sup, sat_and, sat_fail, true_and, and_true])
      (subst hL; subst hQ; simp only [L2, L3, std] at *; try simp only [sySet, reduceCtorEq, forall_const, Int.reduceToNat, Int.reduceAdd, Int.reduceSub, Int.cast_ofNat_Int, Int.toNat_natCast, Nat.le_eq, Nat.sub_eq, ne_eq, Decidable.not_not, implies_true, true_and, and_true, wadd, wsub, wmul, decide_eq_true_eq, decide_eq_false_iff_not, Nat.succ_eq_add_one, imp_false, not_false_eq_true, not_true_eq_false, false_imp_iff, true_imp_iff] at *)
      rw [mkV_parts] at hb
      have : lenL l = l.length := rfl
      have := len_sz l
      have h1 := hz.1
      have h2 := hz.2
      refine ⟨by omega, ⟨by omega, fun j hj => ?_⟩, by omega⟩
      by_cases e : j = i
      · rw [e]; exact hb
      · exact hi.2 j (by omega)
    · (subst hL; subst hQ; simp only [L2, L3, std] at *; try simp only [sySet, reduceCtorEq, forall_const, Int.reduceToNat, Int.reduceAdd, Int.reduceSub, Int.cast_ofNat_Int, Int.toNat_natCast, Nat.le_eq, Nat.sub_eq, ne_eq, Decidable.not_not, implies_true, true_and, and_true, wadd, wsub, wmul, decide_eq_true_eq, decide_eq_false_iff_not, Nat.succ_eq_add_one, imp_false, not_false_eq_true, not_true_eq_false, false_imp_iff, true_imp_iff] at *)
      have : lenL l = l.length := rfl
      exact (idxB_neg fun j hj => hi.2 j (by omega)).symm
theorem cf_of {N : Nat} (ih : Good Try.prog (if_s N std)) : Good Try.prog (cf_s N std) := by
  intro xs p r h hp
  unfold cf_s at h
  simp only at h
  split at h
  rotate_left
  · cases h
  rename_i x
  cases h
  obtain ⟨ho, hz⟩ := hp
  refine ac_l ho ?_
  have hz : szOks N (rdL x) := hz
  show ACalls _ _ _ (.bool (not (bareLs (rdL x))))
  generalize rdL x = l at hz ⊢
  refine acalls_L' (xs := fun L => [cvL L l, .fn 82 [] []]) (T := tt) (S := fun L => sumOf [if_s N L]) (lo := noA) (lb := noA) 5 (fn := Try.f81) rfl rfl (by kernel_rfl) (by kernel_rfl) rfl tt_ok (sumOf_ok ⟨ih, trivial⟩) (by kernel_rfl) ?_
  intro L P' Q' hL hP hQ
  (cbv; try simp only [sat_need, sat_must, sat_ite, sat_done, sat_yes, sat_ex, sat_all, sat_sup, sat_and, sat_fail, true_and, and_true])
  (subst hL; subst hQ; simp only [L2, L3, std] at *; try simp only [sySet, reduceCtorEq, forall_const, Int.reduceToNat, Int.reduceAdd, Int.reduceSub, Int.cast_ofNat_Int, Int.toNat_natCast, Nat.le_eq, Nat.sub_eq, ne_eq, Decidable.not_not, implies_true, true_and, and_true, wadd, wsub, wmul, decide_eq_true_eq, decide_eq_false_iff_not, Nat.succ_eq_add_one, imp_false, not_false_eq_true, not_true_eq_false, false_imp_iff, true_imp_iff] at *)
  rw [rdl]
  refine ⟨⟨okl l, hz⟩, ?_⟩
  have := idxB_ge l
  cases hb : bareLs l with
  | true =>
    rw [hb] at this
    simp only [Bool.true_eq_false, eq_iff_iff, iff_false] at this
    have h : ile 0 (idxB l) = false := by rw [ile_f']; exact this
    rw [h]; rfl
  | false =>
    rw [hb] at this
    simp only [eq_iff_iff, iff_true] at this
    simpa [ile] using this
theorem bare_good : ∀ N, Good Try.prog (bare_s N std) := by
  intro N
  induction N with
  | zero =>
    intro xs p r h hp
    unfold bare_s at h
    simp only at h
    split at h
    · rename_i k n s x
      cases h
      have h1 : sizeC (mkV std k n s x) ≤ 0 := hp.2.1
      have := sizeC_pos (mkV std k n s x)
      omega
    · cases h
  | succ N ih =>
    intro xs p r h hp
    unfold bare_s at h
    simp only at h
    split at h
    rotate_left
    · cases h
    rename_i k n s x
    cases h
    obtain ⟨ho, hz⟩ := hp
    refine ac_v ho ?_
    rw [show mkV std k n s x = .mk k n s (rdL x) from rfl] at hz ⊢
    generalize rdL x = l at hz ⊢
    have hz : szOk (N + 1) (.mk k n s l) := hz
    refine acalls_L' (T := tt) (S := fun L => sumOf [cf_s N L]) (lo := noA) (lb := noA) 5 (fn := Try.f47) (xs := fun L => [.agg [.int .i64 k, .int .u64 n, .str s, cvL L l]]) rfl rfl (by kernel_rfl) (by kernel_rfl) rfl tt_ok
      (sumOf_ok ⟨cf_of (if_of (b1_of ih)), trivial⟩) (by kernel_rfl) ?_
    intro L P' Q' hL hP hQ
    (cbv; try simp only [sat_need, sat_must, sat_ite, sat_done, sat_yes, sat_ex, sat_all, sat_sup, sat_and, sat_fail, true_and, and_true])
    (subst hL; subst hQ; simp only [L2, L3, std] at *; try simp only [sySet, reduceCtorEq, forall_const, Int.reduceToNat, Int.reduceAdd, Int.reduceSub, Int.cast_ofNat_Int, Int.toNat_natCast, Nat.le_eq, Nat.sub_eq, ne_eq, Decidable.not_not, implies_true, true_and, and_true, wadd, wsub, wmul, decide_eq_true_eq, decide_eq_false_iff_not, Nat.succ_eq_add_one, imp_false, not_false_eq_true, not_true_eq_false, false_imp_iff, true_imp_iff] at *)
    simp only [rdl, lenL0]
    rw [sizeC_mk_ok] at hz
    rw [bareV]
    by_cases h1 : k = 1
    · simp [h1]
      exact ⟨fun a _ => a, fun a b => absurd b a⟩
    · by_cases h2 : k = 2
      · simp [h2]
        exact ⟨fun a _ => a, fun a b => absurd b a⟩
      · by_cases h3 : k = 3
        · simp [h3]
          refine ⟨fun h4 => ⟨fun h5 => ⟨⟨okl l, hz.1⟩, by simp [h4, h5]⟩, fun h5 => by simp [h5]⟩, fun h4 => by simp [h4]⟩
        · simp [h1, h2, h3]
end Sy
end Go.Proofs.Ythlggigjnpldcaa
