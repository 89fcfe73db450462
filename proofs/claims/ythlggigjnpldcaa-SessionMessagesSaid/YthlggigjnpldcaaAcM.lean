/- Chapter 7 (codec): values made, put; the chapter's example. -/
import Derived.Test.YthlggigjnpldcaaAcK
namespace Go.Proofs.Ythlggigjnpldcaa
namespace Sy
open Go Go.RowKit
set_option maxRecDepth 100000
set_option linter.unusedSimpArgs false
set_option linter.unusedVariables false

/-- A slice, by whether it is nil, has no element, has some. -/
theorem ac_nilsplit {P : Program} {f : FuncId} {sz n : Nat} {get : Nat → Nat → AV} {r : AV} (h0 : n = 0 → ACalls P f [.nils] r) (h1 : n = 0 → ACalls P f [.emp] r) (h2 : 0 < n → ACalls P f [.lst sz n get] r) : ACalls P f [.lst sz n get] r := by
  by_cases e : n = 0
  · subst e
    intro D w vs hD hx
    obtain ⟨v, hv⟩ : ∃ v, vs.toList = [v] := List.length_eq_one_iff.1 (by simpa using hx.1.symm)
    have : vs = #[v] := by rw [← Array.toArray_toList (xs := vs), hv]
    subst this
    have hr := hx.2 0 _ _ rfl rfl
    have one : ∀ y, R w.heap D noMu y v → RL w.heap D noMu [y] #[v] := fun y r => ⟨rfl, fun i x u hx hu => by
      match i with
      | 0 => cases hx; cases hu; exact r
      | i + 1 => simp at hx⟩
    cases hr with
    | lst0 _ _ a cap hn =>
      cases a with
      | none =>
        obtain rfl := hn rfl
        exact h0 rfl D w _ hD (one _ .nils)
      | some a => exact h1 rfl D w _ hD (one _ (.emp a cap))
    | lst _ _ _ b o cap vs' hD' hc hv' h1' hr' => exact h1 rfl D w _ hD (one _ (.emp _ cap))
  · exact h2 (by omega)

def numV (n : Int) : CV := .mk 1 n [] []
def txtV (s : List UInt8) : CV := .mk 2 0 s []
def rowV (l : List CV) : CV := .mk 3 0 [] l
def num_s (L : Seal) : Ent1 := (45, fun xs => match xs with | [.int .u64 n] => some (True, cvA L (L numV n)) | _ => none)
def txt_s (L : Seal) : Ent1 := (22, fun xs => match xs with | [.str s] => some (True, cvA L (L txtV s)) | _ => none)
theorem num_good : Good Try.prog (num_s std) := by
  intro xs p r h hp
  unfold num_s at h
  simp only at h
  split at h
  rotate_left
  · cases h
  rename_i n
  cases h
  refine acalls_L (T := tt) (S := noS) (lo := noA) (lb := noA) 5 (fn := Try.f45) rfl rfl (by kernel_rfl) (by kernel_rfl) rfl tt_ok (noS_ok _) (by kernel_rfl) ?_
  (intro L P1 Q1 hL hP hQ; cbv; subst hL; simp only [L2, L3, std, sat_need, sat_must, sat_ite, sat_done, sat_yes, sat_ex, sat_all, sat_sup, sat_and, sat_fail]; subst hQ)
  show fits (.agg [.int .i64 1, .int .u64 n, .str [], .lst 4 0 (cvIn (numV n))]) _
  simp [fits_aggi, fits1_aggi, fits1_aggs, fits1_aggn, fits1_agg0]
theorem txt_good : Good Try.prog (txt_s std) := by
  intro xs p r h hp
  unfold txt_s at h
  simp only at h
  split at h
  rotate_left
  · cases h
  rename_i n
  cases h
  refine acalls_L (T := tt) (S := noS) (lo := noA) (lb := noA) 5 (fn := Try.f22) rfl rfl (by kernel_rfl) (by kernel_rfl) rfl tt_ok (noS_ok _) (by kernel_rfl) ?_
  (intro L P1 Q1 hL hP hQ; cbv; subst hL; simp only [L2, L3, std, sat_need, sat_must, sat_ite, sat_done, sat_yes, sat_ex, sat_all, sat_sup, sat_and, sat_fail]; subst hQ)
  show fits (.agg [.int .i64 2, .int .u64 0, .str n, .lst 4 0 (cvIn (txtV n))]) _
  simp [fits_aggi, fits1_aggi, fits1_aggs, fits1_aggn, fits1_agg0]
def lenOk (l : List CV) : Prop := l.length ≤ 1000000
def clone_s (L : Seal) : Ent1 := (55, fun xs => match xs with
  | [x] => some (L okL x ∧ L lenOk (L rdL x), .lst 4 (L lenL (L rdL x)) (L cvGet (L rdL x)))
  | _ => none)
theorem clone_good : Good Try.prog (clone_s std) := by
  intro xs p r h hp
  unfold clone_s at h
  simp only at h
  split at h
  rotate_left
  · cases h
  rename_i x
  cases h
  obtain ⟨ho, hz⟩ := hp
  refine ac_l ho ?_
  have hz : lenOk (rdL x) := hz
  show ACalls _ _ [cvL std (rdL x)] (.lst 4 (lenL (rdL x)) (cvGet (rdL x)))
  generalize rdL x = l at hz ⊢
  refine ac_nilsplit (fun h => ?_) (fun h => ?_) (fun h => ?_)
  · refine acalls_L (T := tt) (S := noS) (lo := noA) (lb := noA) 5 (fn := Try.f55) rfl rfl (by kernel_rfl) (by kernel_rfl) rfl tt_ok (noS_ok _) (by kernel_rfl) ?_
    intro L P' Q' hL hP hQ
    (cbv; try simp only [sat_need, sat_must, sat_ite, sat_done, sat_yes, sat_ex, sat_all, sat_sup, sat_and, sat_fail, true_and, and_true])
    (subst hL; subst hQ; simp only [L2, L3, std] at *; try simp only [sySet, reduceCtorEq, forall_const, Int.reduceToNat, Int.reduceAdd, Int.reduceSub, Int.cast_ofNat_Int, Int.toNat_natCast, Nat.le_eq, Nat.sub_eq, ne_eq, Decidable.not_not, implies_true, true_and, and_true, wadd, wsub, wmul, decide_eq_true_eq, decide_eq_false_iff_not, Nat.succ_eq_add_one, imp_false, not_false_eq_true, not_true_eq_false, false_imp_iff, true_imp_iff] at *)
    exact h.symm
  · refine acalls_L (T := tt) (S := noS) (lo := noA) (lb := noA) 5 (fn := Try.f55) rfl rfl (by kernel_rfl) (by kernel_rfl) rfl tt_ok (noS_ok _) (by kernel_rfl) ?_
    intro L P' Q' hL hP hQ
    (cbv; try simp only [sat_need, sat_must, sat_ite, sat_done, sat_yes, sat_ex, sat_all, sat_sup, sat_and, sat_fail, true_and, and_true])
    (subst hL; subst hQ; simp only [L2, L3, std] at *; try simp only [sySet, reduceCtorEq, forall_const, Int.reduceToNat, Int.reduceAdd, Int.reduceSub, Int.cast_ofNat_Int, Int.toNat_natCast, Nat.le_eq, Nat.sub_eq, ne_eq, Decidable.not_not, implies_true, true_and, and_true, wadd, wsub, wmul, decide_eq_true_eq, decide_eq_false_iff_not, Nat.succ_eq_add_one, imp_false, not_false_eq_true, not_true_eq_false, false_imp_iff, true_imp_iff] at *)
    exact ⟨by omega, h.symm, fun i j hi => by omega⟩
  · refine acalls_L' (T := tt) (S := noS) (lo := fun _ => noA std) (lb := noA) 5 (fn := Try.f55) (xs := fun L => [cvL L l]) rfl rfl (by kernel_rfl) (by kernel_rfl) rfl tt_ok (noS_ok _) (by kernel_rfl) ?_
    intro L P' Q' hL hP hQ
    (cbv; try simp only [sat_need, sat_must, sat_ite, sat_done, sat_yes, sat_ex, sat_all, sat_sup, sat_and, sat_fail, true_and, and_true])
    (subst hL; subst hQ; simp only [L2, L3, std] at *; try simp only [sySet, reduceCtorEq, forall_const, Int.reduceToNat, Int.reduceAdd, Int.reduceSub, Int.cast_ofNat_Int, Int.toNat_natCast, Nat.le_eq, Nat.sub_eq, ne_eq, Decidable.not_not, implies_true, true_and, and_true, wadd, wsub, wmul, decide_eq_true_eq, decide_eq_false_iff_not, Nat.succ_eq_add_one, imp_false, not_false_eq_true, not_true_eq_false, false_imp_iff, true_imp_iff] at *)
    have h1 : lenL l ≤ 1000000 := hz
    exact ⟨blt_t h, by omega, fun i j hi hj => by rw [cv1_std _ _ hj, cvGet_nth _ _ _ hi]⟩
def list_s (L : Seal) : Ent1 := (21, fun xs => match xs with
  | [x] => some (L okL x ∧ L lenOk (L rdL x), cvA L (L rowV (L rdL x)))
  | _ => none)
theorem list_good : Good Try.prog (list_s std) := by
  intro xs p r h hp
  unfold list_s at h
  simp only at h
  split at h
  rotate_left
  · cases h
  rename_i x
  cases h
  obtain ⟨ho, hz⟩ := hp
  refine ac_l ho ?_
  have hz : lenOk (rdL x) := hz
  show ACalls _ _ [cvL std (rdL x)] (cvA std (rowV (rdL x)))
  generalize rdL x = l at hz ⊢
  refine acalls_L' (T := tt) (S := fun L => sumOf [clone_s L]) (lo := fun _ => noA std) (lb := noA) 5 (fn := Try.f21) (xs := fun L => [cvL L l]) rfl rfl (by kernel_rfl) (by kernel_rfl) rfl tt_ok (sumOf_ok ⟨clone_good, trivial⟩) (by kernel_rfl) ?_
  intro L P' Q' hL hP hQ
  (cbv; try simp only [sat_need, sat_must, sat_ite, sat_done, sat_yes, sat_ex, sat_all, sat_sup, sat_and, sat_fail, true_and, and_true])
  (subst hL; subst hQ; simp only [L2, L3, std] at *; try simp only [sySet, reduceCtorEq, forall_const, Int.reduceToNat, Int.reduceAdd, Int.reduceSub, Int.cast_ofNat_Int, Int.toNat_natCast, Nat.le_eq, Nat.sub_eq, ne_eq, Decidable.not_not, implies_true, true_and, and_true, wadd, wsub, wmul, decide_eq_true_eq, decide_eq_false_iff_not, Nat.succ_eq_add_one, imp_false, not_false_eq_true, not_true_eq_false, false_imp_iff, true_imp_iff] at *)
  rw [rdl]
  refine ⟨⟨okl l, hz⟩, ?_⟩
  show fits (.agg [.int .i64 3, .int .u64 0, .str [], .lst 4 (lenL l) (cvGet l)]) _
  simp [fits_aggi, fits1_aggi, fits1_aggs, fits1_aggl, fits1_agg0]

/-! ### Put -/
def putE (v : CV) : Int := if bareV v = true then (if deepV v > 6 then 8 else if (textV v).length > 8192 then 5 else 0) else 10
def putT (v : CV) : List UInt8 := if putE v = 0 then textV v else []
def cput_s (N : Nat) (L : Seal) : Ent1 := (12, fun xs => match xs with
  | [.agg [.int .i64 k, .int .u64 n, .str s, x]] => some (L okL x ∧ L2 L szOk N (mkV L k n s x) ∧ L txOk (mkV L k n s x), .tup [.str (L putT (mkV L k n s x)), .int .i64 (L putE (mkV L k n s x))])
  | _ => none)
def rput2_s (N : Nat) (L : Seal) : Ent1 := (13, fun xs => match xs with
  | [.agg [.int .i64 k, .int .u64 n, .str s, x]] => some (L okL x ∧ L2 L szOk N (mkV L k n s x) ∧ L txOk (mkV L k n s x), .tup [.str (L putT (mkV L k n s x)), .int .i64 (L putE (mkV L k n s x))])
  | _ => none)
theorem cput2_good (N : Nat) : Good Try.prog (cput_s N std) := by
  intro xs p r h hp
  unfold cput_s at h
  simp only at h
  split at h
  rotate_left
  · cases h
  rename_i k n s x
  cases h
  obtain ⟨ho, hz, hw⟩ := hp
  refine ac_v ho ?_
  rw [show mkV std k n s x = .mk k n s (rdL x) from rfl] at hz hw ⊢
  generalize rdL x = l at hz hw ⊢
  have hz : szOk N (.mk k n s l) := hz
  have hw : txOk (.mk k n s l) := hw
  refine acalls_L' (T := tt) (S := fun L => sumOfM [bare_s N L, deep_s N L] [put_m N L, bl_m L, bs_m L]) (lo := fun _ => noA std) (lb := noA) 5 (fn := Try.f12) (xs := fun L => [.agg [.int .i64 k, .int .u64 n, .str s, cvL L l]]) rfl rfl (by kernel_rfl) (by kernel_rfl) rfl tt_ok
    (sumOfM_ok ⟨bare_good N, deep_good N, trivial⟩ ⟨cput_good N, bl_good, bs_good, trivial⟩) (by kernel_rfl) ?_
  intro L P' Q' hL hP hQ
  have hB : ∀ b : List UInt8, L (L bytesOf (L lenN b)) (fun i => (AV.int .u8 (L2 L byteAt b i)).toI) = b := by subst hL; exact bytesOf_at
  (cbv; try simp only [sat_need, sat_must, sat_ite, sat_done, sat_yes, sat_ex, sat_all, sat_sup, sat_and, sat_fail, true_and, and_true])
  simp only [hB]
  (subst hL; subst hQ; simp only [L2, L3, std] at *; try simp only [sySet, reduceCtorEq, forall_const, Int.reduceToNat, Int.reduceAdd, Int.reduceSub, Int.cast_ofNat_Int, Int.toNat_natCast, Nat.le_eq, Nat.sub_eq, ne_eq, Decidable.not_not, implies_true, true_and, and_true, wadd, wsub, wmul, decide_eq_true_eq, decide_eq_false_iff_not, Nat.succ_eq_add_one, imp_false, not_false_eq_true, not_true_eq_false, false_imp_iff, true_imp_iff] at *)
  simp only [rdl, mkl]
  refine ⟨⟨okl l, hz⟩, fun h1 => ?_, fun h1 => ⟨⟨okl l, hz⟩, fun h2 => ?_, fun h2 => ⟨⟨okl l, hz, hw⟩, fun h3 => ?_, fun h3 => ⟨⟨?_, hw.2⟩, ?_⟩⟩⟩⟩
  · simp [putT, putE, h1]
  · simp [putT, putE, h1, h2]
  · have h4 : ¬ 6 < deepV (.mk k n s l) := by omega
    have h5 : 8192 < (textV (.mk k n s l)).length := by omega
    simp [putT, putE, h1, h4, h5]
  · rw [textV_mk]; simp [byteK]
  · have h4 : ¬ 6 < deepV (.mk k n s l) := by omega
    have h5 : ¬ 8192 < (textV (.mk k n s l)).length := by omega
    simp [putT, putE, h1, h4, h5]
theorem rput2_good (N : Nat) : Good Try.prog (rput2_s N std) := by
  intro xs p r h hp
  unfold rput2_s at h
  simp only at h
  split at h
  rotate_left
  · cases h
  rename_i k n s x
  cases h
  obtain ⟨ho, hz, hw⟩ := hp
  refine ac_v ho ?_
  rw [show mkV std k n s x = .mk k n s (rdL x) from rfl] at hz hw ⊢
  generalize rdL x = l at hz hw ⊢
  have hz : szOk N (.mk k n s l) := hz
  have hw : txOk (.mk k n s l) := hw
  refine acalls_L' (T := tt) (S := fun L => sumOf [rbare_s N L, rdeep_s N L, rtext_s N L]) (lo := fun _ => noA std) (lb := noA) 5 (fn := Try.f13) (xs := fun L => [.agg [.int .i64 k, .int .u64 n, .str s, cvL L l]]) rfl rfl (by kernel_rfl) (by kernel_rfl) rfl tt_ok
    (sumOf_ok ⟨rbare_good N, rdeep_good N, rtext_good N, trivial⟩) (by kernel_rfl) ?_
  intro L P' Q' hL hP hQ
  (cbv; try simp only [sat_need, sat_must, sat_ite, sat_done, sat_yes, sat_ex, sat_all, sat_sup, sat_and, sat_fail, true_and, and_true])
  (subst hL; subst hQ; simp only [L2, L3, std] at *; try simp only [sySet, reduceCtorEq, forall_const, Int.reduceToNat, Int.reduceAdd, Int.reduceSub, Int.cast_ofNat_Int, Int.toNat_natCast, Nat.le_eq, Nat.sub_eq, ne_eq, Decidable.not_not, implies_true, true_and, and_true, wadd, wsub, wmul, decide_eq_true_eq, decide_eq_false_iff_not, Nat.succ_eq_add_one, imp_false, not_false_eq_true, not_true_eq_false, false_imp_iff, true_imp_iff] at *)
  simp only [rdl, mkl]
  refine ⟨⟨okl l, hz⟩, fun h1 => ?_, fun h1 => ⟨⟨okl l, hz⟩, fun h2 => ?_, fun h2 => ⟨⟨okl l, hz, hw⟩, fun h3 => ?_, fun h3 => ?_⟩⟩⟩
  · simp [putT, putE, h1]
  · simp [putT, putE, h1, h2]
  · have h4 : ¬ 6 < deepV (.mk k n s l) := by omega
    have h5 : 8192 < (textV (.mk k n s l)).length := by omega
    simp [putT, putE, h1, h4, h5]
  · have h4 : ¬ 6 < deepV (.mk k n s l) := by omega
    have h5 : ¬ 8192 < (textV (.mk k n s l)).length := by omega
    simp [putT, putE, h1, h4, h5]

/-! ### The chapter's example -/
theorem one1 (v : CV) : rdL (.lst 4 1 fun i j => lget .dead [.int .i64 v.kd, .int .u64 v.nn, .str v.tx, .lst 4 (lenV v) (cvIn v)] (i * 4 + j)) = [v] := by
  show [CV.mk v.kd v.nn v.tx (rdL (.lst 4 (lenV v) (cvIn v)))] = [v]
  rw [mk_parts]
theorem one1_ok (v : CV) : okL (.lst 4 1 fun i j => lget .dead [.int .i64 v.kd, .int .u64 v.nn, .str v.tx, .lst 4 (lenV v) (cvIn v)] (i * 4 + j)) := by
  refine ⟨rfl, fun i hi => ?_⟩
  have : i = 0 := by omega
  subst this
  exact ⟨⟨_, rfl⟩, ⟨_, rfl⟩, ⟨_, rfl⟩, (rd_in v).2⟩
theorem short1 : shortZ 1 = [1] := by rw [shortZ, show (1 : Int).toNat = 1 from rfl, shortL_small (by decide)]; rfl
theorem short5 : shortZ 5 = [5] := by rw [shortZ, show (5 : Int).toNat = 5 from rfl, shortL_small (by decide)]; rfl
theorem ex_text : textV (rowV [numV 5]) = [3, 1, 1, 5] := by
  rw [rowV, numV, textV_mk, if_neg (by decide), if_neg (by decide), textLs, textV_mk, if_pos rfl, textLs, short5]
  show _ ++ (shortZ 1 ++ _) = _
  rw [short1]; rfl
theorem ex_bare : bareV (rowV [numV 5]) = true := by rw [rowV, numV, bareV, bareLs, bareV, bareLs]; rfl
theorem ex_deep : deepV (rowV [numV 5]) = 1 := by rw [rowV, numV, deepV, deepLs, deepV, deepLs]; rfl
theorem ex_size : sizeC (rowV [numV 5]) = 2 := by rw [rowV, numV, sizeC_mk, sizeCs_cons, sizeCs_nil, sizeC_mk, sizeCs_nil]
theorem ex_putE : putE (rowV [numV 5]) = 0 := by rw [putE, ex_bare, ex_deep, ex_text]; rfl
theorem ex_putT : putT (rowV [numV 5]) = [3, 1, 1, 5] := by rw [putT, ex_putE, ex_text]; rfl
theorem ex_tx : txOk (rowV [numV 5]) := by
  refine ⟨?_, by rw [ex_text]; decide⟩
  simp only [rowV, numV, wfV, wfLs, shortOk]
  decide
theorem awake07_ac : ACalls Try.prog 10 [] (.bool true) := by
  refine acalls_L (T := tt) (S := fun L => sumOf [num_s L, list_s L, cput_s 100 L, tru 46]) (lo := noA) (lb := noA) 5 (fn := Try.f10) rfl rfl (by kernel_rfl) (by kernel_rfl) rfl tt_ok (sumOf_ok ⟨num_good, list_good, cput2_good 100, tru_good Awake01_ac, trivial⟩) (by kernel_rfl) ?_
  intro L P' Q' hL hP hQ
  (cbv; try simp only [sat_need, sat_must, sat_ite, sat_done, sat_yes, sat_ex, sat_all, sat_sup, sat_and, sat_fail, true_and, and_true])
  (subst hL; subst hQ; simp only [L2, L3, std] at *; try simp only [sySet, reduceCtorEq, forall_const, Int.reduceToNat, Int.reduceAdd, Int.reduceSub, Int.cast_ofNat_Int, Int.toNat_natCast, Nat.le_eq, Nat.sub_eq, ne_eq, Decidable.not_not, implies_true, true_and, and_true, wadd, wsub, wmul, decide_eq_true_eq, decide_eq_false_iff_not, Nat.succ_eq_add_one, imp_false, not_false_eq_true, not_true_eq_false, false_imp_iff, true_imp_iff] at *)
  simp only [one1, mk_parts, mkV_parts, ex_putE, ex_putT]
  exact ⟨⟨one1_ok _, by show (1 : Nat) ≤ 1000000; omega⟩, ⟨(rd_in _).2, ⟨by rw [ex_size]; omega, by omega⟩, ex_tx⟩, fun _ => trivial, trivial⟩
theorem Awake07_ac : ACalls Try.prog 67 [] (.bool true) := by
  refine acalls_L (T := tt) (S := fun L => sumOf [tru 10]) (lo := noA) (lb := noA) 5 (fn := Try.f67) rfl rfl (by kernel_rfl) (by kernel_rfl) rfl tt_ok (sumOf_ok ⟨tru_good awake07_ac, trivial⟩) (by kernel_rfl) ?_
  (intro L P1 Q1 hL hP hQ; cbv; subst hL; simp only [L2, L3, std, sat_need, sat_must, sat_ite, sat_done, sat_yes, sat_ex, sat_all, sat_sup, sat_and, sat_fail]; subst hQ)
  (simp only [sySet, reduceCtorEq, forall_const, Int.reduceToNat, Int.reduceAdd, Int.reduceSub, Int.cast_ofNat_Int, Int.toNat_natCast, Nat.le_eq, Nat.sub_eq, ne_eq, Decidable.not_not, implies_true, true_and, and_true, wadd, wsub, wmul, decide_eq_true_eq, decide_eq_false_iff_not, Nat.succ_eq_add_one, imp_false, not_false_eq_true, not_true_eq_false, false_imp_iff, true_imp_iff])
/-- One more value in a row. -/
theorem cv_push (g : Nat → CV) {i q j : Nat} (hq : q < i + 1) (hj : j < 4) :
    sel1 std (nblt q i) (cv1 std (g q) j) (lget .dead [.int .i64 (g i).kd, .int .u64 (g i).nn, .str (g i).tx, .lst 4 (lenV (g i)) (cvIn (g i))] ((q - i) * 4 + j)) = cv1 std (g q) j := by
  by_cases h : q < i
  · rw [blt_t h, show q - i = 0 by omega, Nat.zero_mul, Nat.zero_add]
    match j, hj with
    | 0, _ => rfl
    | 1, _ => rfl
    | 2, _ => rfl
    | 3, _ => rfl
  · have : q = i := by omega
    subst this
    rw [blt_f (by omega), show q - q = 0 by omega, Nat.zero_mul, Nat.zero_add]
    match j, hj with
    | 0, _ => rfl
    | 1, _ => rfl
    | 2, _ => rfl
    | 3, _ => rfl
/-! ### To -/
def toA (L : Seal) (k n : Int) (s : List UInt8) (l : List CV) : Nat → St → Option Ann := fun id st => match id with
  | 0 => some ⟨Nat, fun i => [(16, .int .i64 (L natI i)), (3, .ref 3 0), (2, .ref 2 0)], fun i => [(3, .box 37 [.int .i64 k, .int .u64 n, .str s, .sl 900 4 0 i]), (900, .row 37 4 i (fun i j => cv1 L (L2 L nthV l i) j)), (2, .box 37 [.dead, .dead, .dead, .dead])], [14, 15], [],
      fun i => L2 L (fun (l : List CV) i => i ≤ l.length) l i, fun i => L2 L (fun (l : List CV) (i : Nat) => l.length - i) l i⟩
  | _ => none
def to_s (N : Nat) (L : Seal) : Ent1 := (14, fun xs => match xs with
  | [.agg [.int .i64 k, .int .u64 n, .str s, x]] => some (L okL x ∧ L2 L szOk N (mkV L k n s x), cvA L (mkV L k n s x))
  | _ => none)
theorem to_good : ∀ N, Good Try.prog (to_s N std) := by
  intro N
  induction N with
  | zero =>
    intro xs p r h hp
    unfold to_s at h
    simp only at h
    split at h
    · rename_i k n s x
      cases h
      have h1 : sizeC (mkV std k n s x) ≤ 0 := hp.2.1
      have := sizeC_pos (mkV std k n s x)
      omega
    · cases h
  | succ N ih =>
    intro xs p r h hp
    unfold to_s at h
    simp only at h
    split at h
    rotate_left
    · cases h
    rename_i k n s x
    cases h
    obtain ⟨ho, hz⟩ := hp
    refine ac_v ho ?_
    rw [show mkV std k n s x = .mk k n s (rdL x) from rfl] at hz ⊢
    generalize rdL x = l at hz ⊢
    have hz : szOk (N + 1) (.mk k n s l) := hz
    refine acalls_L' (T := tt) (S := fun L => sumOf [to_s N L]) (lo := fun L => toA L k n s l) (lb := noA) 5 (fn := Try.f14) (xs := fun L => [.agg [.int .i64 k, .int .u64 n, .str s, cvL L l]]) rfl rfl (by kernel_rfl) (by kernel_rfl) rfl tt_ok
      (sumOf_ok ⟨ih, trivial⟩) (by kernel_rfl) ?_
    intro L P' Q' hL hP hQ
    (cbv; try simp only [sat_need, sat_must, sat_ite, sat_done, sat_yes, sat_ex, sat_all, sat_sup, sat_and, sat_fail, true_and, and_true])
    refine ⟨⟨0, ?_⟩, fun i hi => ?_⟩
    · (cbv; try simp only [sat_need, sat_must, sat_ite, sat_done, sat_yes, sat_ex, sat_all, sat_sup, sat_and, sat_fail, true_and, and_true])
      (subst hL; subst hQ; simp only [L2, L3, std] at *; try simp only [sySet, reduceCtorEq, forall_const, Int.reduceToNat, Int.reduceAdd, Int.reduceSub, Int.cast_ofNat_Int, Int.toNat_natCast, Nat.le_eq, Nat.sub_eq, ne_eq, Decidable.not_not, implies_true, true_and, and_true, wadd, wsub, wmul, decide_eq_true_eq, decide_eq_false_iff_not, Nat.succ_eq_add_one, imp_false, not_false_eq_true, not_true_eq_false, false_imp_iff, true_imp_iff] at *)
      exact Nat.zero_le _
    · cbv at hi
      (cbv; try simp only [sat_need, sat_must, sat_ite, sat_done, sat_yes, sat_ex, sat_all, sat_sup, sat_and, sat_fail, true_and, and_true])
      refine ⟨fun hlt => ⟨?_, ⟨?_, ?_⟩, ?_, ⟨i + 1, ?_⟩⟩, fun hge => ?_⟩
      · (subst hL; subst hQ; simp only [L2, L3, std] at *; try simp only [sySet, reduceCtorEq, forall_const, Int.reduceToNat, Int.reduceAdd, Int.reduceSub, Int.cast_ofNat_Int, Int.toNat_natCast, Nat.le_eq, Nat.sub_eq, ne_eq, Decidable.not_not, implies_true, true_and, and_true, wadd, wsub, wmul, decide_eq_true_eq, decide_eq_false_iff_not, Nat.succ_eq_add_one, imp_false, not_false_eq_true, not_true_eq_false, false_imp_iff, true_imp_iff] at *)
        omega
      · (subst hL; subst hQ; simp only [L2, L3, std] at *; try simp only [sySet, reduceCtorEq, forall_const, Int.reduceToNat, Int.reduceAdd, Int.reduceSub, Int.cast_ofNat_Int, Int.toNat_natCast, Nat.le_eq, Nat.sub_eq, ne_eq, Decidable.not_not, implies_true, true_and, and_true, wadd, wsub, wmul, decide_eq_true_eq, decide_eq_false_iff_not, Nat.succ_eq_add_one, imp_false, not_false_eq_true, not_true_eq_false, false_imp_iff, true_imp_iff] at *)
        exact (rd_in _).2
      · (subst hL; subst hQ; simp only [L2, L3, std] at *; try simp only [sySet, reduceCtorEq, forall_const, Int.reduceToNat, Int.reduceAdd, Int.reduceSub, Int.cast_ofNat_Int, Int.toNat_natCast, Nat.le_eq, Nat.sub_eq, ne_eq, Decidable.not_not, implies_true, true_and, and_true, wadd, wsub, wmul, decide_eq_true_eq, decide_eq_false_iff_not, Nat.succ_eq_add_one, imp_false, not_false_eq_true, not_true_eq_false, false_imp_iff, true_imp_iff] at *)
        rw [mk_parts]
        rw [sizeC_mk_ok] at hz
        exact nth_sz hz.1 (by have : lenL l = l.length := rfl; omega)
      · (subst hL; subst hQ; simp only [L2, L3, std] at *; try simp only [sySet, reduceCtorEq, forall_const, Int.reduceToNat, Int.reduceAdd, Int.reduceSub, Int.cast_ofNat_Int, Int.toNat_natCast, Nat.le_eq, Nat.sub_eq, ne_eq, Decidable.not_not, implies_true, true_and, and_true, wadd, wsub, wmul, decide_eq_true_eq, decide_eq_false_iff_not, Nat.succ_eq_add_one, imp_false, not_false_eq_true, not_true_eq_false, false_imp_iff, true_imp_iff] at *)
        have : lenL l = l.length := rfl
        have := len_sz l
        rw [sizeC_mk_ok] at hz
        have h4 := hz.1.1
        have h5 := hz.1.2
        omega
      · (cbv; try simp only [sat_need, sat_must, sat_ite, sat_done, sat_yes, sat_ex, sat_all, sat_sup, sat_and, sat_fail, true_and, and_true])
        (subst hL; subst hQ; simp only [L2, L3, std] at *; try simp only [sySet, reduceCtorEq, forall_const, Int.reduceToNat, Int.reduceAdd, Int.reduceSub, Int.cast_ofNat_Int, Int.toNat_natCast, Nat.le_eq, Nat.sub_eq, ne_eq, Decidable.not_not, implies_true, true_and, and_true, wadd, wsub, wmul, decide_eq_true_eq, decide_eq_false_iff_not, Nat.succ_eq_add_one, imp_false, not_false_eq_true, not_true_eq_false, false_imp_iff, true_imp_iff] at *)
        simp only [mk_parts]
        have : lenL l = l.length := rfl
        have := len_sz l
        rw [sizeC_mk_ok] at hz
        have h4 := hz.1.1
        have h5 := hz.1.2
        exact ⟨fun q j hq hj => cv_push (nthV l) hq hj, by omega, by omega, by omega⟩
      · (subst hL; subst hQ; simp only [L2, L3, std] at *; try simp only [sySet, reduceCtorEq, forall_const, Int.reduceToNat, Int.reduceAdd, Int.reduceSub, Int.cast_ofNat_Int, Int.toNat_natCast, Nat.le_eq, Nat.sub_eq, ne_eq, Decidable.not_not, implies_true, true_and, and_true, wadd, wsub, wmul, decide_eq_true_eq, decide_eq_false_iff_not, Nat.succ_eq_add_one, imp_false, not_false_eq_true, not_true_eq_false, false_imp_iff, true_imp_iff] at *)
        have : lenL l = l.length := rfl
        have hil : i = l.length := by omega
        show fits (.agg [.int .i64 k, .int .u64 n, .str s, .lst 4 l.length (cvGet l)]) _
        simp only [fits_aggi, fits1_aggi, fits1_aggs, fits1_aggl, fits1_agg0, true_and, and_true]
        refine ⟨hil, fun q j hq hj => ?_⟩
        rw [cvGet_nth _ _ _ hq]
        exact cv1_std _ j hj
end Sy
end Go.Proofs.Ythlggigjnpldcaa
