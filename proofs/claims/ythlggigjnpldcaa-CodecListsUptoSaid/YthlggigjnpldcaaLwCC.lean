/- The law CodecLists. -/
import Derived.Test.YthlggigjnpldcaaLwCB
namespace Go.Proofs.Ythlggigjnpldcaa
namespace Sy
open Go Go.RowKit
set_option maxRecDepth 100000
set_option linter.unusedSimpArgs false
set_option linter.unusedVariables false

theorem made_any {l : List Nd} (hs : smallD l) (ho : ∀ d ∈ l, NdOk d) : szOk 2001 (madeV l) ∧ txOk (madeV l) := by
  by_cases h : madeO l = true
  · exact made_ok hs ho h
  · have e : madeV l = .mk 0 0 [] [] := by unfold madeV; rw [if_neg h]
    rw [e]
    refine ⟨⟨by rw [sizeC_mk, sizeCs_nil]; decide, by decide⟩, ?_, ?_⟩
    · rw [wfV]; exact ⟨⟨by decide, by decide⟩, by decide, by rw [wfLs]; trivial⟩
    · rw [textV_mk, textLs]
      have h1 := shortZ_len (n := ((List.length ([] : List CV) : Nat) : Int)) ⟨by decide, by decide⟩
      have h2 : (byteK 0).length = 1 := rfl
      rw [if_neg (by decide), if_neg (by decide), List.length_append, List.length_append]
      have h3 : (List.length ([] : List UInt8)) = 0 := rfl
      omega
theorem two1 (v w : CV) : rdL (.lst 4 2 fun i j => lget .dead [.int .i64 v.kd, .int .u64 v.nn, .str v.tx, .lst 4 (lenV v) (cvIn v), .int .i64 w.kd, .int .u64 w.nn, .str w.tx, .lst 4 (lenV w) (cvIn w)] (i * 4 + j)) = [v, w] := by
  show [CV.mk v.kd v.nn v.tx (rdL (.lst 4 (lenV v) (cvIn v))), CV.mk w.kd w.nn w.tx (rdL (.lst 4 (lenV w) (cvIn w)))] = [v, w]
  rw [mk_parts, mk_parts]
theorem two1_ok (v w : CV) : okL (.lst 4 2 fun i j => lget .dead [.int .i64 v.kd, .int .u64 v.nn, .str v.tx, .lst 4 (lenV v) (cvIn v), .int .i64 w.kd, .int .u64 w.nn, .str w.tx, .lst 4 (lenV w) (cvIn w)] (i * 4 + j)) := by
  refine ⟨rfl, fun i hi => ?_⟩
  match i, hi with
  | 0, _ => exact ⟨⟨_, rfl⟩, ⟨_, rfl⟩, ⟨_, rfl⟩, (rd_in v).2⟩
  | 1, _ => exact ⟨⟨_, rfl⟩, ⟨_, rfl⟩, ⟨_, rfl⟩, (rd_in w).2⟩
theorem short2 : shortZ 2 = [2] := by rw [shortZ, show (2 : Int).toNat = 2 from rfl, shortL_small (by decide)]; rfl
theorem row2_text (v w : CV) : textV (rowV [v, w]) = [3, 2] ++ textV v ++ textV w := by
  rw [rowV, textV_mk, if_neg (by decide), if_neg (by decide), textLs, textLs, textLs]
  show _ ++ (shortZ 2 ++ _) = _
  rw [short2]
  simp [byteK]
theorem row2_ok {v w : CV} (hv : szOk 2001 v ∧ txOk v) (hw : szOk 2001 w ∧ txOk w) (h1 : putE v = 0) (h2 : putE w = 0) (hl : (textV v).length + (textV w).length + 2 ≤ 8192) (hd : max (deepV v) (deepV w) < 6) :
    putE (rowV [v, w]) = 0 ∧ putT (rowV [v, w]) = [3, 2] ++ textV v ++ textV w ∧ szOk 5000 (rowV [v, w]) ∧ txOk (rowV [v, w]) := by
  obtain ⟨p1, p2, p3, p4⟩ := put_ok h1
  obtain ⟨q1, q2, q3, q4⟩ := put_ok h2
  have ht := row2_text v w
  have hlen : (textV (rowV [v, w])).length = 2 + (textV v).length + (textV w).length := by rw [ht]; simp; omega
  have hb : bareV (rowV [v, w]) = true := by
    rw [rowV, bareV, bareLs, bareLs, bareLs, p1, q1]; rfl
  have hdd : deepV (rowV [v, w]) ≤ 6 := by
    rw [rowV, deepV, if_pos rfl, deepLs, deepLs, deepLs]
    have := (deep_nn w).1
    omega
  have he : putE (rowV [v, w]) = 0 := by
    unfold putE
    rw [if_pos hb, if_neg (by omega), if_neg (by omega)]
  refine ⟨he, by rw [← ht]; unfold putT; rw [if_pos he], ?_, ?_, by omega⟩
  · refine ⟨?_, by decide⟩
    have a1 := hv.1.1
    have a2 := hw.1.1
    rw [rowV, sizeC_mk, sizeCs_cons, sizeCs_cons, sizeCs_nil]
    omega
  · rw [rowV, wfV, wfLs, wfLs, wfLs]
    exact ⟨⟨by decide, by decide⟩, by decide, hv.2.1, hw.2.1, trivial⟩
theorem up5 {v : CV} (h : szOk 2001 v) : szOk 5000 v := ⟨by have := h.1; omega, by decide⟩
theorem codecLists_ac (l m : List Nd) (hl : smallD l) (hm : smallD m) (ol : ∀ d ∈ l, NdOk d) (om : ∀ d ∈ m, NdOk d) : ACalls Try.prog 4 [.lst 4 (lenD l) (fun i j => ndAt std (nthD l i) j), .lst 4 (lenD m) (fun i j => ndAt std (nthD m i) j)] (.bool true) := by
  refine acalls_L' (T := tt) (S := fun L => sumOf [tru 10, made_s L, cput_s 5000 L, deep_s 5000 L, same_s 5000 L, cget_s L, next_s L, list_s L, txt_s L]) (lo := noA) (lb := noA) 5 (fn := Try.f4) (xs := fun L => [.lst 4 (L lenD l) (fun i j => ndAt L (L2 L nthD l i) j), .lst 4 (L lenD m) (fun i j => ndAt L (L2 L nthD m i) j)]) rfl rfl (by kernel_rfl) (by kernel_rfl) rfl tt_ok
    (sumOf_ok ⟨tru_good awake07_ac, made_good, cput2_good _, deep_good _, same_good _, cget_good, next_good, list_good, txt_good, trivial⟩) (by kernel_rfl) ?_
  intro L P' Q' hL hP hQ
  (cbv; try simp only [sat_need, sat_must, sat_ite, sat_done, sat_yes, sat_ex, sat_all, sat_sup, sat_and, sat_fail, true_and, and_true])
  have hv := made_any hl ol
  have hw := made_any hm om
  (subst hL; subst hQ; simp only [L2, L3, std] at *; try simp only [sySet, reduceCtorEq, forall_const, Int.reduceToNat, Int.reduceAdd, Int.reduceSub, Int.cast_ofNat_Int, Int.toNat_natCast, Nat.le_eq, Nat.sub_eq, ne_eq, Decidable.not_not, implies_true, true_and, and_true, wadd, wsub, wmul, decide_eq_true_eq, decide_eq_false_iff_not, Nat.succ_eq_add_one, imp_false, not_false_eq_true, not_true_eq_false, false_imp_iff, true_imp_iff] at *)
  have e1 := rdN_of l
  have e2 := rdN_of m
  simp only [e1.1, e1.2, e2.1, e2.2, hl, hm, true_and, and_true, mk_parts, mkV_parts, (rd_in (madeV l)).2, (rd_in (madeV m)).2, (rd_in (getV _)).2]
  clear e1 e2
  generalize madeV l = v at *
  generalize madeO l = b at *
  generalize madeV m = w at *
  generalize madeO m = b' at *
  simp only [two1, two1_ok, mk_parts, mkV_parts, true_and]
  have z1 := up5 hv.1
  have z2 := up5 hw.1
  refine ⟨⟨z1, hv.2⟩, ⟨z2, hw.2⟩, fun _ _ h1 h2 hlen => ⟨z1, z2, fun hd => ?_⟩⟩
  obtain ⟨p1, p2, p3, p4⟩ := put_ok h1
  obtain ⟨q1, q2, q3, q4⟩ := put_ok h2
  rw [p4, q4] at hlen
  have hl : (textV v).length + (textV w).length + 2 ≤ 8192 := by omega
  obtain ⟨r1, r2, r3, r4⟩ := row2_ok hv hw h1 h2 hl hd
  have n1 := next_of hv.2.1 p1 p2 (s := textV w) (by omega)
  obtain ⟨g1, g2⟩ := get_of hw.2.1 q1 q2 q3
  have s1 := same_refl v
  have s2 := same_refl w
  have s3 := same_refl (rowV [v, w])
  rw [p4, q4]
  simp only [n1, r1, r2, g1, g2, s1, s2, s3, z1, z2, r3, r4, (rd_in v).2, (rd_in w).2, two1, two1_ok, mk_parts, mkV_parts, true_and, and_true, and_self, true_imp_iff, forall_const, Bool.true_eq_false, not_false_eq_true]
  have hlk : lenOk [v, w] := by show (2 : Nat) ≤ 1000000; omega
  refine ⟨hlk, (rd_in _).2, by omega, by simp; omega, by simp; omega, hlk, hlk, (rd_in _).2, ⟨(rd_in _).2, trivial, ?_⟩, same_refl _⟩
  refine ⟨?_, by decide⟩
  rw [txtV, sizeC_mk, sizeCs_nil]
  decide
theorem law_CodecLists (l : List Nd) (hl : (l.length ≤ maxLen ∧ ∀ y ∈ l, NdOk y) ∧ bkL ndBk l + 1 ≤ 1048576) (m : List Nd) (hm : (m.length ≤ maxLen ∧ ∀ y ∈ m, NdOk y) ∧ bkL ndBk m + 1 ≤ 1048576) :
    ACalls Try.prog 4 [.lst 4 l.length (avL (ndAt std) l), .lst 4 m.length (avL (ndAt std) m)] (.bool true) :=
  ac_args (fun h D vs r => rl_lst2 (fun i j hi hj => avN m i j hi) (rl_lst (fun i j hi hj => avN l i j hi) r)) (codecLists_ac l m (small_of hl.2) (small_of hm.2) hl.1.2 hm.1.2)
end Sy
end Go.Proofs.Ythlggigjnpldcaa
