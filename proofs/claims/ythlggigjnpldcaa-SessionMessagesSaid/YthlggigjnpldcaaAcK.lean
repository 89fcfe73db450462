/- Chapter 7 (codec): writings. -/
import Derived.Test.YthlggigjnpldcaaAcJ
namespace Go.Proofs.Ythlggigjnpldcaa
namespace Sy
open Go Go.RowKit
set_option maxRecDepth 100000
set_option linter.unusedSimpArgs false
set_option linter.unusedVariables false

theorem shortL_len : ∀ (k n : Nat), n < 128 ^ (k + 1) → (shortL n).length ≤ k + 1
  | 0, n, h => by rw [shortL_small (by omega)]; simp
  | k + 1, n, h => by
    by_cases h1 : n < 128
    · rw [shortL_small h1]; simp
    · rw [shortL_big (by omega), List.length_cons]
      have := shortL_len k (n / 128) (by rw [Nat.div_lt_iff_lt_mul (by omega)]; rw [Nat.pow_succ] at h; exact h)
      omega
theorem shortZ_len {n : Int} (h : shortOk n) : (shortZ n).length ≤ 10 := shortL_len 9 n.toNat (by
  have := h.2
  have := h.1
  rw [show (128 : Nat) ^ (9 + 1) = 1180591620717411303424 from by decide]
  omega)
theorem bytes1 (a : Int) : bytesOf 1 (fun i => (AV.int .u8 (nthI [a] (0 + i))).toI) = [UInt8.ofNat a.toNat] := rfl
def shInv (n x : Int) (p : List UInt8) : Prop := shortOk x ∧ p ++ shortZ x = shortZ n
def rshA (L : Seal) (n : Int) : Nat → St → Option Ann := fun id s => match id with
  | 0 => some ⟨Int × List UInt8, fun x => [(0, .int .u64 x.1), (3, .str x.2)], fun i => [], [], [],
      fun x => L3 L shInv n x.1 x.2, fun x => L Int.toNat x.1⟩
  | _ => none
def rshort_s (L : Seal) : Ent1 := (85, fun xs => match xs with | [.int .u64 n] => some (L shortOk n, .str (L shortZ n)) | _ => none)
theorem shortZ_big {x : Int} (h : shortOk x) (hx : 127 < x) : shortZ x = UInt8.ofNat (x % 128 + 128).toNat :: shortZ (x / 128) := by
  have := h.1
  unfold shortZ
  rw [shortL_big (by omega)]
  congr 1
  · congr 1; omega
  · congr 1; omega
theorem shortZ_small {x : Int} (h : shortOk x) (hx : x ≤ 127) : shortZ x = [UInt8.ofNat x.toNat] := by
  have := h.1
  unfold shortZ
  exact shortL_small (by omega)
theorem rshort_good : Good Try.prog (rshort_s std) := by
  intro xs p r h hp
  unfold rshort_s at h
  simp only at h
  split at h
  rotate_left
  · cases h
  rename_i n
  cases h
  have hn : shortOk n := hp
  have hl := shortZ_len hn
  refine acalls_L (T := tt) (S := noS) (lo := fun L => rshA L n) (lb := noA) 5 (fn := Try.f85) rfl rfl (by kernel_rfl) (by kernel_rfl) rfl tt_ok (noS_ok _) (by kernel_rfl) ?_
  intro L P' Q' hL hP hQ
  (cbv; try simp only [sat_need, sat_must, sat_ite, sat_done, sat_yes, sat_ex, sat_all, sat_sup, sat_and, sat_fail, true_and, and_true])
  refine ⟨⟨(n, []), ?_⟩, fun x hx => ?_⟩
  · (cbv; try simp only [sat_need, sat_must, sat_ite, sat_done, sat_yes, sat_ex, sat_all, sat_sup, sat_and, sat_fail, true_and, and_true])
    (subst hL; subst hQ; simp only [L2, L3, std] at *; try simp only [sySet, reduceCtorEq, forall_const, Int.reduceToNat, Int.reduceAdd, Int.reduceSub, Int.cast_ofNat_Int, Int.toNat_natCast, Nat.le_eq, Nat.sub_eq, ne_eq, Decidable.not_not, implies_true, true_and, and_true, wadd, wsub, wmul, decide_eq_true_eq, decide_eq_false_iff_not, Nat.succ_eq_add_one, imp_false, not_false_eq_true, not_true_eq_false, false_imp_iff, true_imp_iff] at *)
    exact ⟨hn, rfl⟩
  · cbv at hx
    obtain ⟨x, pre⟩ := x
    (cbv; try simp only [sat_need, sat_must, sat_ite, sat_done, sat_yes, sat_ex, sat_all, sat_sup, sat_and, sat_fail, true_and, and_true])
    obtain ⟨x', hx'⟩ : ∃ x', x' = x / 128 := ⟨_, rfl⟩
    obtain ⟨p', hp'⟩ : ∃ p', p' = pre ++ [UInt8.ofNat (x % 128 + 128).toNat] := ⟨_, rfl⟩
    refine ⟨fun h => ⟨?_, ?_, ?_, ?_, ⟨(x', p'), ?_⟩⟩, fun h => ⟨?_, ?_, ?_⟩⟩
    · (subst hL; subst hQ; simp only [L2, L3, std] at *; try simp only [sySet, reduceCtorEq, forall_const, Int.reduceToNat, Int.reduceAdd, Int.reduceSub, Int.cast_ofNat_Int, Int.toNat_natCast, Nat.le_eq, Nat.sub_eq, ne_eq, Decidable.not_not, implies_true, true_and, and_true, wadd, wsub, wmul, decide_eq_true_eq, decide_eq_false_iff_not, Nat.succ_eq_add_one, imp_false, not_false_eq_true, not_true_eq_false, false_imp_iff, true_imp_iff] at *)
      omega
    · (subst hL; subst hQ; simp only [L2, L3, std] at *; try simp only [sySet, reduceCtorEq, forall_const, Int.reduceToNat, Int.reduceAdd, Int.reduceSub, Int.cast_ofNat_Int, Int.toNat_natCast, Nat.le_eq, Nat.sub_eq, ne_eq, Decidable.not_not, implies_true, true_and, and_true, wadd, wsub, wmul, decide_eq_true_eq, decide_eq_false_iff_not, Nat.succ_eq_add_one, imp_false, not_false_eq_true, not_true_eq_false, false_imp_iff, true_imp_iff] at *)
      exact ⟨Nat.le_refl _, fun i hi => ⟨_, rfl⟩⟩
    · (subst hL; subst hQ; simp only [L2, L3, std] at *; try simp only [sySet, reduceCtorEq, forall_const, Int.reduceToNat, Int.reduceAdd, Int.reduceSub, Int.cast_ofNat_Int, Int.toNat_natCast, Nat.le_eq, Nat.sub_eq, ne_eq, Decidable.not_not, implies_true, true_and, and_true, wadd, wsub, wmul, decide_eq_true_eq, decide_eq_false_iff_not, Nat.succ_eq_add_one, imp_false, not_false_eq_true, not_true_eq_false, false_imp_iff, true_imp_iff] at *)
      rw [bytes1]
      have := congrArg List.length hx.2
      rw [List.length_append] at this
      simp; omega
    · (subst hL; subst hQ; simp only [L2, L3, std] at *; try simp only [sySet, reduceCtorEq, forall_const, Int.reduceToNat, Int.reduceAdd, Int.reduceSub, Int.cast_ofNat_Int, Int.toNat_natCast, Nat.le_eq, Nat.sub_eq, ne_eq, Decidable.not_not, implies_true, true_and, and_true, wadd, wsub, wmul, decide_eq_true_eq, decide_eq_false_iff_not, Nat.succ_eq_add_one, imp_false, not_false_eq_true, not_true_eq_false, false_imp_iff, true_imp_iff] at *)
      omega
    · (cbv; try simp only [sat_need, sat_must, sat_ite, sat_done, sat_yes, sat_ex, sat_all, sat_sup, sat_and, sat_fail, true_and, and_true])
      (subst hL; subst hQ; simp only [L2, L3, std] at *; try simp only [sySet, reduceCtorEq, forall_const, Int.reduceToNat, Int.reduceAdd, Int.reduceSub, Int.cast_ofNat_Int, Int.toNat_natCast, Nat.le_eq, Nat.sub_eq, ne_eq, Decidable.not_not, implies_true, true_and, and_true, wadd, wsub, wmul, decide_eq_true_eq, decide_eq_false_iff_not, Nat.succ_eq_add_one, imp_false, not_false_eq_true, not_true_eq_false, false_imp_iff, true_imp_iff] at *)
      rw [bytes1]
      have h0 := hx.1.1
      have h1 := hx.1.2
      have e1 : x.tmod 128 = x % 128 := Int.tmod_eq_emod_of_nonneg h0
      have e2 : x.tdiv 128 = x / 128 := Int.tdiv_eq_ediv_of_nonneg h0
      have e3 := hx.2
      rw [shortZ_big hx.1 h] at e3
      refine ⟨?_, ?_, ⟨⟨by omega, by omega⟩, ?_⟩, by omega⟩
      · have e4 : (x % 128 + 128) % 18446744073709551616 % 256 = x % 128 + 128 := by omega
        rw [hp', e1, e4]
      · rw [wquo64, w_u64, e2, hx']
        exact Int.emod_eq_of_lt (by omega) (by omega)
      · rw [hp', hx', List.append_assoc]; exact e3
    · (subst hL; subst hQ; simp only [L2, L3, std] at *; try simp only [sySet, reduceCtorEq, forall_const, Int.reduceToNat, Int.reduceAdd, Int.reduceSub, Int.cast_ofNat_Int, Int.toNat_natCast, Nat.le_eq, Nat.sub_eq, ne_eq, Decidable.not_not, implies_true, true_and, and_true, wadd, wsub, wmul, decide_eq_true_eq, decide_eq_false_iff_not, Nat.succ_eq_add_one, imp_false, not_false_eq_true, not_true_eq_false, false_imp_iff, true_imp_iff] at *)
      exact ⟨Nat.le_refl _, fun i hi => ⟨_, rfl⟩⟩
    · (subst hL; subst hQ; simp only [L2, L3, std] at *; try simp only [sySet, reduceCtorEq, forall_const, Int.reduceToNat, Int.reduceAdd, Int.reduceSub, Int.cast_ofNat_Int, Int.toNat_natCast, Nat.le_eq, Nat.sub_eq, ne_eq, Decidable.not_not, implies_true, true_and, and_true, wadd, wsub, wmul, decide_eq_true_eq, decide_eq_false_iff_not, Nat.succ_eq_add_one, imp_false, not_false_eq_true, not_true_eq_false, false_imp_iff, true_imp_iff] at *)
      rw [bytes1]
      have := congrArg List.length hx.2
      rw [List.length_append] at this
      have := (shortZ_small hx.1 h)
      simp; omega
    · (subst hL; subst hQ; simp only [L2, L3, std] at *; try simp only [sySet, reduceCtorEq, forall_const, Int.reduceToNat, Int.reduceAdd, Int.reduceSub, Int.cast_ofNat_Int, Int.toNat_natCast, Nat.le_eq, Nat.sub_eq, ne_eq, Decidable.not_not, implies_true, true_and, and_true, wadd, wsub, wmul, decide_eq_true_eq, decide_eq_false_iff_not, Nat.succ_eq_add_one, imp_false, not_false_eq_true, not_true_eq_false, false_imp_iff, true_imp_iff] at *)
      rw [bytes1, ← hx.2, shortZ_small hx.1 h]
      have h0 := hx.1.1
      congr 3; omega

/-! ### Text -/
mutual
def wfV : CV → Prop
  | .mk _ n s l => shortOk n ∧ s.length ≤ 9223372036854775807 ∧ wfLs l
def wfLs : List CV → Prop
  | [] => True
  | v :: l => wfV v ∧ wfLs l
end
theorem wf_nth : ∀ {l : List CV} {i : Nat}, wfLs l → i < l.length → wfV (nthV l i)
  | [], i, _, h => by simp at h
  | v :: l, 0, w, _ => by rw [wfLs] at w; exact w.1
  | v :: l, i + 1, w, h => by rw [wfLs] at w; exact wf_nth (l := l) w.2 (by simpa using h)
theorem textTo_len (l : List CV) : ∀ i, (textTo l i).length ≤ (textLs l).length := by
  intro i
  have := textLs_app (l.take i) (l.drop i)
  rw [List.take_append_drop] at this
  rw [this, List.length_append, textTo]; omega
theorem textV_mk (k n : Int) (s : List UInt8) (l : List CV) : textV (.mk k n s l) = byteK k ++ if k = 1 then shortZ n else if k = 2 then shortZ s.length ++ s else shortZ l.length ++ textLs l := by rw [textV]
def txOk (v : CV) : Prop := wfV v ∧ (textV v).length ≤ 90000000
theorem wf_mk {k n : Int} {s : List UInt8} {l : List CV} : txOk (.mk k n s l) = ((shortOk n ∧ s.length ≤ 9223372036854775807 ∧ wfLs l) ∧ (textV (.mk k n s l)).length ≤ 90000000) := by
  unfold txOk; rw [wfV]
theorem u64_small {x : Int} (h : 0 ≤ x) (h1 : x < 18446744073709551616) : x % 18446744073709551616 = x := Int.emod_eq_of_lt h h1
theorem u64_len {k n : Int} {s : List UInt8} {l : List CV} (h : wfV (.mk k n s l)) : (s.length : Int) % 18446744073709551616 = s.length := by
  rw [wfV] at h
  exact u64_small (by omega) (by omega)
theorem cvs_short {N : Nat} {k n : Int} {s : List UInt8} {l : List CV} (h : szOk (N + 1) (.mk k n s l)) : shortOk ((l.length : Nat) : Int) := by
  rw [sizeC_mk_ok] at h
  have := len_sz l
  have h1 := h.1.1
  have h2 := h.1.2
  exact ⟨by omega, by omega⟩
theorem u64_cvs {N : Nat} {k n : Int} {s : List UInt8} {l : List CV} (h : szOk (N + 1) (.mk k n s l)) : ((lenL l : Nat) : Int) % 18446744073709551616 = ((l.length : Nat) : Int) := by
  have := cvs_short h
  exact u64_small this.1 this.2
theorem tx_nth {k n : Int} {s : List UInt8} {l : List CV} (h : txOk (.mk k n s l)) (h1 : k ≠ 1) (h2 : k ≠ 2) {i : Nat} (hi : i < l.length) : txOk (nthV l i) := by
  rw [wf_mk] at h
  refine ⟨wf_nth h.1.2.2 hi, ?_⟩
  have h3 := h.2
  have h4 := textTo_succ hi
  have h5 := textTo_len l (i + 1)
  rw [h4, List.length_append] at h5
  rw [textV_mk, if_neg h1, if_neg h2] at h3
  simp only [List.length_append] at h3
  omega
def rtextX (k : Int) (l : List CV) (i : Nat) : List UInt8 := byteK k ++ shortZ l.length ++ textTo l i
def rtextA (L : Seal) (k : Int) (l : List CV) : Nat → St → Option Ann := fun id s => match id with
  | 0 => some ⟨Nat, fun i => [(42, .int .i64 (L natI i)), (3, .str (L3 L rtextX k l i))], fun i => [], [40, 41], [],
      fun i => L2 L (fun (l : List CV) i => i ≤ l.length) l i, fun i => L2 L (fun (l : List CV) (i : Nat) => l.length - i) l i⟩
  | _ => none
def rtext_s (N : Nat) (L : Seal) : Ent1 := (52, fun xs => match xs with
  | [.agg [.int .i64 k, .int .u64 n, .str s, x]] => some (L okL x ∧ L2 L szOk N (mkV L k n s x) ∧ L txOk (mkV L k n s x), .str (L textV (mkV L k n s x)))
  | _ => none)
theorem rtext_good : ∀ N, Good Try.prog (rtext_s N std) := by
  intro N
  induction N with
  | zero =>
    intro xs p r h hp
    unfold rtext_s at h
    simp only at h
    split at h
    · rename_i k n s x
      cases h
      have h1 : sizeC (mkV std k n s x) ≤ 0 := hp.2.1.1
      have := sizeC_pos (mkV std k n s x)
      omega
    · cases h
  | succ N ih =>
    intro xs p r h hp
    unfold rtext_s at h
    simp only at h
    split at h
    rotate_left
    · cases h
    rename_i k n s x
    cases h
    obtain ⟨ho, hz, hw⟩ := hp
    refine ac_v ho ?_
    rw [show mkV std k n s x = .mk k n s (rdL x) from rfl] at hz hw ⊢
    generalize rdL x = l at hz hw ⊢
    have hz : szOk (N + 1) (.mk k n s l) := hz
    have hw : txOk (.mk k n s l) := hw
    refine acalls_L' (T := tt) (S := fun L => sumOf [rshort_s L, rtext_s N L]) (lo := fun L => rtextA L k l) (lb := noA) 5 (fn := Try.f52) (xs := fun L => [.agg [.int .i64 k, .int .u64 n, .str s, cvL L l]]) rfl rfl (by kernel_rfl) (by kernel_rfl) rfl tt_ok
      (sumOf_ok ⟨rshort_good, ih, trivial⟩) (by kernel_rfl) ?_
    intro L P' Q' hL hP hQ
    (cbv; try simp only [sat_need, sat_must, sat_ite, sat_done, sat_yes, sat_ex, sat_all, sat_sup, sat_and, sat_fail, true_and, and_true])
    refine ⟨?_, fun h1 => ⟨?_, ?_, ?_⟩, fun h1 => ⟨fun h2 => ⟨?_, ?_, ?_, ?_⟩, fun h2 => ⟨?_, ?_, ⟨0, ?_⟩, fun i hi => ?_⟩⟩⟩
    · (subst hL; subst hQ; simp only [L2, L3, std] at *; try simp only [sySet, reduceCtorEq, forall_const, Int.reduceToNat, Int.reduceAdd, Int.reduceSub, Int.cast_ofNat_Int, Int.toNat_natCast, Nat.le_eq, Nat.sub_eq, ne_eq, Decidable.not_not, implies_true, true_and, and_true, wadd, wsub, wmul, decide_eq_true_eq, decide_eq_false_iff_not, Nat.succ_eq_add_one, imp_false, not_false_eq_true, not_true_eq_false, false_imp_iff, true_imp_iff] at *)
      exact ⟨Nat.le_refl _, fun i hi => ⟨_, rfl⟩⟩
    · (subst hL; subst hQ; simp only [L2, L3, std] at *; try simp only [sySet, reduceCtorEq, forall_const, Int.reduceToNat, Int.reduceAdd, Int.reduceSub, Int.cast_ofNat_Int, Int.toNat_natCast, Nat.le_eq, Nat.sub_eq, ne_eq, Decidable.not_not, implies_true, true_and, and_true, wadd, wsub, wmul, decide_eq_true_eq, decide_eq_false_iff_not, Nat.succ_eq_add_one, imp_false, not_false_eq_true, not_true_eq_false, false_imp_iff, true_imp_iff] at *)
      rw [wf_mk] at hw
      exact hw.1.1
    · (subst hL; subst hQ; simp only [L2, L3, std] at *; try simp only [sySet, reduceCtorEq, forall_const, Int.reduceToNat, Int.reduceAdd, Int.reduceSub, Int.cast_ofNat_Int, Int.toNat_natCast, Nat.le_eq, Nat.sub_eq, ne_eq, Decidable.not_not, implies_true, true_and, and_true, wadd, wsub, wmul, decide_eq_true_eq, decide_eq_false_iff_not, Nat.succ_eq_add_one, imp_false, not_false_eq_true, not_true_eq_false, false_imp_iff, true_imp_iff] at *)
      rw [bytes1]
      rw [wf_mk] at hw
      have := shortZ_len hw.1.1
      simp; omega
    · (subst hL; subst hQ; simp only [L2, L3, std] at *; try simp only [sySet, reduceCtorEq, forall_const, Int.reduceToNat, Int.reduceAdd, Int.reduceSub, Int.cast_ofNat_Int, Int.toNat_natCast, Nat.le_eq, Nat.sub_eq, ne_eq, Decidable.not_not, implies_true, true_and, and_true, wadd, wsub, wmul, decide_eq_true_eq, decide_eq_false_iff_not, Nat.succ_eq_add_one, imp_false, not_false_eq_true, not_true_eq_false, false_imp_iff, true_imp_iff] at *)
      rw [textV_mk, if_pos h1, bytes1]; rfl
    · (subst hL; subst hQ; simp only [L2, L3, std] at *; try simp only [sySet, reduceCtorEq, forall_const, Int.reduceToNat, Int.reduceAdd, Int.reduceSub, Int.cast_ofNat_Int, Int.toNat_natCast, Nat.le_eq, Nat.sub_eq, ne_eq, Decidable.not_not, implies_true, true_and, and_true, wadd, wsub, wmul, decide_eq_true_eq, decide_eq_false_iff_not, Nat.succ_eq_add_one, imp_false, not_false_eq_true, not_true_eq_false, false_imp_iff, true_imp_iff] at *)
      rw [wf_mk] at hw
      rw [u64_small (by omega) (by omega)]
      exact ⟨by omega, by omega⟩
    · (subst hL; subst hQ; simp only [L2, L3, std] at *; try simp only [sySet, reduceCtorEq, forall_const, Int.reduceToNat, Int.reduceAdd, Int.reduceSub, Int.cast_ofNat_Int, Int.toNat_natCast, Nat.le_eq, Nat.sub_eq, ne_eq, Decidable.not_not, implies_true, true_and, and_true, wadd, wsub, wmul, decide_eq_true_eq, decide_eq_false_iff_not, Nat.succ_eq_add_one, imp_false, not_false_eq_true, not_true_eq_false, false_imp_iff, true_imp_iff] at *)
      rw [wf_mk] at hw
      rw [u64_small (by omega) (by omega), bytes1]
      have := shortZ_len (n := (s.length : Int)) ⟨by omega, by omega⟩
      simp; omega
    · (subst hL; subst hQ; simp only [L2, L3, std] at *; try simp only [sySet, reduceCtorEq, forall_const, Int.reduceToNat, Int.reduceAdd, Int.reduceSub, Int.cast_ofNat_Int, Int.toNat_natCast, Nat.le_eq, Nat.sub_eq, ne_eq, Decidable.not_not, implies_true, true_and, and_true, wadd, wsub, wmul, decide_eq_true_eq, decide_eq_false_iff_not, Nat.succ_eq_add_one, imp_false, not_false_eq_true, not_true_eq_false, false_imp_iff, true_imp_iff] at *)
      rw [u64_len hw.1, bytes1]
      have h3 := hw.2
      rw [textV_mk, if_neg h1, if_pos h2] at h3
      simp at h3 ⊢
      omega
    · (subst hL; subst hQ; simp only [L2, L3, std] at *; try simp only [sySet, reduceCtorEq, forall_const, Int.reduceToNat, Int.reduceAdd, Int.reduceSub, Int.cast_ofNat_Int, Int.toNat_natCast, Nat.le_eq, Nat.sub_eq, ne_eq, Decidable.not_not, implies_true, true_and, and_true, wadd, wsub, wmul, decide_eq_true_eq, decide_eq_false_iff_not, Nat.succ_eq_add_one, imp_false, not_false_eq_true, not_true_eq_false, false_imp_iff, true_imp_iff] at *)
      rw [u64_len hw.1, bytes1, textV_mk, if_neg h1, if_pos h2]
      show ([_] ++ _) ++ _ = _
      rw [List.append_assoc]; rfl
    · (subst hL; subst hQ; simp only [L2, L3, std] at *; try simp only [sySet, reduceCtorEq, forall_const, Int.reduceToNat, Int.reduceAdd, Int.reduceSub, Int.cast_ofNat_Int, Int.toNat_natCast, Nat.le_eq, Nat.sub_eq, ne_eq, Decidable.not_not, implies_true, true_and, and_true, wadd, wsub, wmul, decide_eq_true_eq, decide_eq_false_iff_not, Nat.succ_eq_add_one, imp_false, not_false_eq_true, not_true_eq_false, false_imp_iff, true_imp_iff] at *)
      rw [u64_cvs hz]
      exact cvs_short hz
    · (subst hL; subst hQ; simp only [L2, L3, std] at *; try simp only [sySet, reduceCtorEq, forall_const, Int.reduceToNat, Int.reduceAdd, Int.reduceSub, Int.cast_ofNat_Int, Int.toNat_natCast, Nat.le_eq, Nat.sub_eq, ne_eq, Decidable.not_not, implies_true, true_and, and_true, wadd, wsub, wmul, decide_eq_true_eq, decide_eq_false_iff_not, Nat.succ_eq_add_one, imp_false, not_false_eq_true, not_true_eq_false, false_imp_iff, true_imp_iff] at *)
      rw [u64_cvs hz, bytes1]
      have := shortZ_len (cvs_short hz)
      simp; omega
    · (cbv; try simp only [sat_need, sat_must, sat_ite, sat_done, sat_yes, sat_ex, sat_all, sat_sup, sat_and, sat_fail, true_and, and_true])
      (subst hL; subst hQ; simp only [L2, L3, std] at *; try simp only [sySet, reduceCtorEq, forall_const, Int.reduceToNat, Int.reduceAdd, Int.reduceSub, Int.cast_ofNat_Int, Int.toNat_natCast, Nat.le_eq, Nat.sub_eq, ne_eq, Decidable.not_not, implies_true, true_and, and_true, wadd, wsub, wmul, decide_eq_true_eq, decide_eq_false_iff_not, Nat.succ_eq_add_one, imp_false, not_false_eq_true, not_true_eq_false, false_imp_iff, true_imp_iff] at *)
      rw [u64_cvs hz, bytes1]
      exact ⟨by rw [rtextX, textTo, List.take_zero, textLs, List.append_nil]; rfl, Nat.zero_le _⟩
    · cbv at hi
      (cbv; try simp only [sat_need, sat_must, sat_ite, sat_done, sat_yes, sat_ex, sat_all, sat_sup, sat_and, sat_fail, true_and, and_true])
      refine ⟨fun hlt => ⟨?_, ⟨?_, ?_, ?_⟩, ?_, ⟨i + 1, ?_⟩⟩, fun hge => ?_⟩
      · (subst hL; subst hQ; simp only [L2, L3, std] at *; try simp only [sySet, reduceCtorEq, forall_const, Int.reduceToNat, Int.reduceAdd, Int.reduceSub, Int.cast_ofNat_Int, Int.toNat_natCast, Nat.le_eq, Nat.sub_eq, ne_eq, Decidable.not_not, implies_true, true_and, and_true, wadd, wsub, wmul, decide_eq_true_eq, decide_eq_false_iff_not, Nat.succ_eq_add_one, imp_false, not_false_eq_true, not_true_eq_false, false_imp_iff, true_imp_iff] at *)
        omega
      · (subst hL; subst hQ; simp only [L2, L3, std] at *; try simp only [sySet, reduceCtorEq, forall_const, Int.reduceToNat, Int.reduceAdd, Int.reduceSub, Int.cast_ofNat_Int, Int.toNat_natCast, Nat.le_eq, Nat.sub_eq, ne_eq, Decidable.not_not, implies_true, true_and, and_true, wadd, wsub, wmul, decide_eq_true_eq, decide_eq_false_iff_not, Nat.succ_eq_add_one, imp_false, not_false_eq_true, not_true_eq_false, false_imp_iff, true_imp_iff] at *)
        exact (rd_in _).2
      · (subst hL; subst hQ; simp only [L2, L3, std] at *; try simp only [sySet, reduceCtorEq, forall_const, Int.reduceToNat, Int.reduceAdd, Int.reduceSub, Int.cast_ofNat_Int, Int.toNat_natCast, Nat.le_eq, Nat.sub_eq, ne_eq, Decidable.not_not, implies_true, true_and, and_true, wadd, wsub, wmul, decide_eq_true_eq, decide_eq_false_iff_not, Nat.succ_eq_add_one, imp_false, not_false_eq_true, not_true_eq_false, false_imp_iff, true_imp_iff] at *)
        rw [mk_parts]
        rw [sizeC_mk_ok] at hz
        exact nth_sz hz.1 (by have : lenL l = l.length := rfl; omega)
      · (subst hL; subst hQ; simp only [L2, L3, std] at *; try simp only [sySet, reduceCtorEq, forall_const, Int.reduceToNat, Int.reduceAdd, Int.reduceSub, Int.cast_ofNat_Int, Int.toNat_natCast, Nat.le_eq, Nat.sub_eq, ne_eq, Decidable.not_not, implies_true, true_and, and_true, wadd, wsub, wmul, decide_eq_true_eq, decide_eq_false_iff_not, Nat.succ_eq_add_one, imp_false, not_false_eq_true, not_true_eq_false, false_imp_iff, true_imp_iff] at *)
        rw [mkV_parts]
        exact tx_nth hw (by omega) (by omega) (by have : lenL l = l.length := rfl; omega)
      · (subst hL; subst hQ; simp only [L2, L3, std] at *; try simp only [sySet, reduceCtorEq, forall_const, Int.reduceToNat, Int.reduceAdd, Int.reduceSub, Int.cast_ofNat_Int, Int.toNat_natCast, Nat.le_eq, Nat.sub_eq, ne_eq, Decidable.not_not, implies_true, true_and, and_true, wadd, wsub, wmul, decide_eq_true_eq, decide_eq_false_iff_not, Nat.succ_eq_add_one, imp_false, not_false_eq_true, not_true_eq_false, false_imp_iff, true_imp_iff] at *)
        rw [mkV_parts]
        have h3 := hw.2
        have h4 := textTo_succ (l := l) (i := i) (by have : lenL l = l.length := rfl; omega)
        have h5 := textTo_len l (i + 1)
        rw [h4, List.length_append] at h5
        rw [textV_mk, if_neg h1, if_neg h2] at h3
        simp only [List.length_append, rtextX] at h3 ⊢
        omega
      · (cbv; try simp only [sat_need, sat_must, sat_ite, sat_done, sat_yes, sat_ex, sat_all, sat_sup, sat_and, sat_fail, true_and, and_true])
        (subst hL; subst hQ; simp only [L2, L3, std] at *; try simp only [sySet, reduceCtorEq, forall_const, Int.reduceToNat, Int.reduceAdd, Int.reduceSub, Int.cast_ofNat_Int, Int.toNat_natCast, Nat.le_eq, Nat.sub_eq, ne_eq, Decidable.not_not, implies_true, true_and, and_true, wadd, wsub, wmul, decide_eq_true_eq, decide_eq_false_iff_not, Nat.succ_eq_add_one, imp_false, not_false_eq_true, not_true_eq_false, false_imp_iff, true_imp_iff] at *)
        have : lenL l = l.length := rfl
        have := len_sz l
        rw [sizeC_mk_ok] at hz
        have h4 := hz.1.1
        have h5 := hz.1.2
        rw [mkV_parts]
        exact ⟨by rw [rtextX, rtextX, textTo_succ (by omega)]; simp only [List.append_assoc], by omega, by omega, by omega⟩
      · (subst hL; subst hQ; simp only [L2, L3, std] at *; try simp only [sySet, reduceCtorEq, forall_const, Int.reduceToNat, Int.reduceAdd, Int.reduceSub, Int.cast_ofNat_Int, Int.toNat_natCast, Nat.le_eq, Nat.sub_eq, ne_eq, Decidable.not_not, implies_true, true_and, and_true, wadd, wsub, wmul, decide_eq_true_eq, decide_eq_false_iff_not, Nat.succ_eq_add_one, imp_false, not_false_eq_true, not_true_eq_false, false_imp_iff, true_imp_iff] at *)
        have : lenL l = l.length := rfl
        have hil : i = l.length := by omega
        rw [textV_mk, if_neg h1, if_neg h2, rtextX, hil, textTo, List.take_length, List.append_assoc]

/-! ### put -/
def putX (b : List UInt8) (k : Int) (l : List CV) (i : Nat) : List UInt8 := b ++ byteK k ++ shortZ l.length ++ textTo l i
def putA (L : Seal) (b : List UInt8) (k : Int) (l : List CV) : Nat → St → Option Ann := fun id s => match id with
  | 1 => some ⟨Nat, fun i => [(23, .int .i64 (L natI i))], fun i => [(500000, .box 103 [.ref 500000 0, .sl 901 1 0 (L lenN (L (L3 L putX b k l) i))]), (901, .row 5 1 (L lenN (L (L3 L putX b k l) i)) (fun j _ => .int .u8 (L2 L byteAt (L (L3 L putX b k l) i) j)))], [0, 21, 22], [],
      fun i => L2 L (fun (l : List CV) i => i ≤ l.length) l i, fun i => L2 L (fun (l : List CV) (i : Nat) => l.length - i) l i⟩
  | _ => none
def put_m (N : Nat) (L : Seal) : EntM := (48, fun raw ob => match raw with
  | [.ref id 0, .agg [.int .i64 k, .int .u64 n, .str s, x]] => match bldOf L ob id with
    | some none => some ⟨[.ref 500000 0, .agg [.int .i64 k, .int .u64 n, .str s, x]], bld0, L okL x ∧ L2 L szOk N (mkV L k n s x) ∧ L txOk (mkV L k n s x), .tup [], bldN L (L textV (mkV L k n s x))⟩
    | some (some l) => some ⟨[.ref 500000 0, .agg [.int .i64 k, .int .u64 n, .str s, x]], bld L l, L okL x ∧ L2 L szOk N (mkV L k n s x) ∧ L txOk (mkV L k n s x) ∧ L2 L roomB l (L textV (mkV L k n s x)), .tup [], bldN L (L2 L bytesAdd l (L textV (mkV L k n s x)))⟩
    | none => none
  | _ => none)
theorem room_1 {b : List UInt8} {k n : Int} {s : List UInt8} {l : List CV} (h : roomB b (textV (.mk k n s l))) : roomB b (byte1 (k % 256)) := by
  rw [textV_mk] at h
  unfold roomB at h ⊢
  have : (byteK k).length = 1 := rfl
  have : (byte1 (k % 256)).length = 1 := rfl
  rw [List.length_append] at h
  omega
theorem room_3 {b q : List UInt8} {k : Int} (h : roomB b (byteK k ++ q)) : roomB (bytesAdd b (byte1 (k % 256))) q := by
  unfold roomB bytesAdd at *
  have : (byteK k).length = 1 := rfl
  have : (byte1 (k % 256)).length = 1 := rfl
  rw [List.length_append] at h ⊢
  omega
theorem room_4 {b q r : List UInt8} {k : Int} (h : roomB b (byteK k ++ (q ++ r))) : roomB (bytesAdd b (byte1 (k % 256))) q := by
  unfold roomB bytesAdd at *
  have : (byteK k).length = 1 := rfl
  have : (byte1 (k % 256)).length = 1 := rfl
  rw [List.length_append, List.length_append] at h
  rw [List.length_append]
  omega
theorem same_b {x y : List UInt8} (h : x = y) : (lenN x = lenN y ∧ ∀ i j : Nat, i < lenN y → j < 1 → AV.int .u8 (byteAt x i) = AV.int .u8 (byteAt y i)) ∧ lenN x = lenN y := by
  subst h; exact ⟨⟨rfl, fun _ _ _ _ => rfl⟩, rfl⟩
theorem same_3 {b q t : List UInt8} {k : Int} (h : t = byteK k ++ q) : (lenN (bytesAdd (bytesAdd b (byte1 (k % 256))) q) = lenN (bytesAdd b t) ∧ ∀ i j : Nat, i < lenN (bytesAdd b t) → j < 1 → AV.int .u8 (byteAt (bytesAdd (bytesAdd b (byte1 (k % 256))) q) i) = AV.int .u8 (byteAt (bytesAdd b t) i)) ∧ lenN (bytesAdd (bytesAdd b (byte1 (k % 256))) q) = lenN (bytesAdd b t) :=
  same_b (by rw [h]; unfold bytesAdd; rw [List.append_assoc]; rfl)
theorem same_0 {q t : List UInt8} {k : Int} (h : t = byteK k ++ q) : (lenN (bytesAdd (byte1 (k % 256)) q) = lenN t ∧ ∀ i j : Nat, i < lenN t → j < 1 → AV.int .u8 (byteAt (bytesAdd (byte1 (k % 256)) q) i) = AV.int .u8 (byteAt t i)) ∧ lenN (bytesAdd (byte1 (k % 256)) q) = lenN t :=
  same_b (by rw [h]; rfl)
theorem put_old {N : Nat} (ih : GoodM Try.prog (put_m N std)) (b : List UInt8) (k n : Int) (s : List UInt8) (l : List CV) (hz : szOk (N + 1) (.mk k n s l)) (hw : txOk (.mk k n s l)) (hb : roomB b (textV (.mk k n s l))) :
    MCalls Try.prog 48 [.ref 500000 0, .agg [.int .i64 k, .int .u64 n, .str s, cvL std l]] (bld std b) (.tup []) (bldN std (bytesAdd b (textV (.mk k n s l)))) := by
  refine mcalls_L (T := tt) (S := fun L => sumOfM [short_s L] [wb_m L, ws_m L, put_m N L]) (lo := fun L => putA L b k l) (lb := noA) 5 (fn := Try.f48) (xs := fun L => [.ref 500000 0, .agg [.int .i64 k, .int .u64 n, .str s, cvL L l]]) (rts := fun _ => []) (O := fun L => bld L b) (O1 := fun L => bldN L (L2 L bytesAdd b (L textV (.mk k n s l))))
    rfl rfl (by kernel_rfl) (by kernel_rfl) (by kernel_rfl) tt_ok (sumOfM_ok ⟨short_good, trivial⟩ ⟨wb_good, ws_good, ih, trivial⟩) (by kernel_rfl) ?_
  intro L P' Q' hL hP hQ
  have hB : ∀ b : List UInt8, L (L bytesOf (L lenN b)) (fun i => (AV.int .u8 (L2 L byteAt b i)).toI) = b := by subst hL; exact bytesOf_at
  (cbv; try simp only [sat_need, sat_must, sat_ite, sat_done, sat_yes, sat_ex, sat_all, sat_sup, sat_and, sat_fail, true_and, and_true])
  simp only [hB]
  refine ⟨⟨trivial, fun _ _ _ _ => trivial⟩, trivial, ⟨?_, ?_⟩, fun h1 => ⟨?_, ⟨trivial, fun _ _ _ _ => trivial⟩, trivial, ?_, ?_⟩, fun h1 => ⟨fun h2 => ⟨?_, ?_, ⟨trivial, fun _ _ _ _ => trivial⟩, trivial, ?_, ?_⟩, fun h2 => ⟨?_, ⟨trivial, fun _ _ _ _ => trivial⟩, trivial, ?_, ⟨0, ?_⟩, fun i hi => ?_⟩⟩⟩
  · (subst hL; subst hQ; simp only [L2, L3, std] at *; try simp only [sySet, reduceCtorEq, forall_const, Int.reduceToNat, Int.reduceAdd, Int.reduceSub, Int.cast_ofNat_Int, Int.toNat_natCast, Nat.le_eq, Nat.sub_eq, ne_eq, Decidable.not_not, implies_true, true_and, and_true, wadd, wsub, wmul, decide_eq_true_eq, decide_eq_false_iff_not, Nat.succ_eq_add_one, imp_false, not_false_eq_true, not_true_eq_false, false_imp_iff, true_imp_iff] at *)
    exact ⟨Int.emod_nonneg _ (by omega), Int.emod_lt_of_pos _ (by omega)⟩
  · (subst hL; subst hQ; simp only [L2, L3, std] at *; try simp only [sySet, reduceCtorEq, forall_const, Int.reduceToNat, Int.reduceAdd, Int.reduceSub, Int.cast_ofNat_Int, Int.toNat_natCast, Nat.le_eq, Nat.sub_eq, ne_eq, Decidable.not_not, implies_true, true_and, and_true, wadd, wsub, wmul, decide_eq_true_eq, decide_eq_false_iff_not, Nat.succ_eq_add_one, imp_false, not_false_eq_true, not_true_eq_false, false_imp_iff, true_imp_iff] at *)
    exact room_1 hb
  · (subst hL; subst hQ; simp only [L2, L3, std] at *; try simp only [sySet, reduceCtorEq, forall_const, Int.reduceToNat, Int.reduceAdd, Int.reduceSub, Int.cast_ofNat_Int, Int.toNat_natCast, Nat.le_eq, Nat.sub_eq, ne_eq, Decidable.not_not, implies_true, true_and, and_true, wadd, wsub, wmul, decide_eq_true_eq, decide_eq_false_iff_not, Nat.succ_eq_add_one, imp_false, not_false_eq_true, not_true_eq_false, false_imp_iff, true_imp_iff] at *)
    rw [wf_mk] at hw
    exact hw.1.1
  · (subst hL; subst hQ; simp only [L2, L3, std] at *; try simp only [sySet, reduceCtorEq, forall_const, Int.reduceToNat, Int.reduceAdd, Int.reduceSub, Int.cast_ofNat_Int, Int.toNat_natCast, Nat.le_eq, Nat.sub_eq, ne_eq, Decidable.not_not, implies_true, true_and, and_true, wadd, wsub, wmul, decide_eq_true_eq, decide_eq_false_iff_not, Nat.succ_eq_add_one, imp_false, not_false_eq_true, not_true_eq_false, false_imp_iff, true_imp_iff] at *)
    rw [textV_mk, if_pos h1] at hb
    exact room_3 hb
  · (subst hL; subst hQ; simp only [L2, L3, std] at *; try simp only [sySet, reduceCtorEq, forall_const, Int.reduceToNat, Int.reduceAdd, Int.reduceSub, Int.cast_ofNat_Int, Int.toNat_natCast, Nat.le_eq, Nat.sub_eq, ne_eq, Decidable.not_not, implies_true, true_and, and_true, wadd, wsub, wmul, decide_eq_true_eq, decide_eq_false_iff_not, Nat.succ_eq_add_one, imp_false, not_false_eq_true, not_true_eq_false, false_imp_iff, true_imp_iff] at *)
    exact same_3 (by rw [textV_mk, if_pos h1])
  · (subst hL; subst hQ; simp only [L2, L3, std] at *; try simp only [sySet, reduceCtorEq, forall_const, Int.reduceToNat, Int.reduceAdd, Int.reduceSub, Int.cast_ofNat_Int, Int.toNat_natCast, Nat.le_eq, Nat.sub_eq, ne_eq, Decidable.not_not, implies_true, true_and, and_true, wadd, wsub, wmul, decide_eq_true_eq, decide_eq_false_iff_not, Nat.succ_eq_add_one, imp_false, not_false_eq_true, not_true_eq_false, false_imp_iff, true_imp_iff] at *)
    rw [wf_mk] at hw
    rw [u64_small (by omega) (by omega)]
    exact ⟨by omega, by omega⟩
  · (subst hL; subst hQ; simp only [L2, L3, std] at *; try simp only [sySet, reduceCtorEq, forall_const, Int.reduceToNat, Int.reduceAdd, Int.reduceSub, Int.cast_ofNat_Int, Int.toNat_natCast, Nat.le_eq, Nat.sub_eq, ne_eq, Decidable.not_not, implies_true, true_and, and_true, wadd, wsub, wmul, decide_eq_true_eq, decide_eq_false_iff_not, Nat.succ_eq_add_one, imp_false, not_false_eq_true, not_true_eq_false, false_imp_iff, true_imp_iff] at *)
    rw [u64_len hw.1]
    have h3 := hw.2
    rw [textV_mk, if_neg h1, if_pos h2] at h3
    simp at h3 ⊢
    omega
  · (subst hL; subst hQ; simp only [L2, L3, std] at *; try simp only [sySet, reduceCtorEq, forall_const, Int.reduceToNat, Int.reduceAdd, Int.reduceSub, Int.cast_ofNat_Int, Int.toNat_natCast, Nat.le_eq, Nat.sub_eq, ne_eq, Decidable.not_not, implies_true, true_and, and_true, wadd, wsub, wmul, decide_eq_true_eq, decide_eq_false_iff_not, Nat.succ_eq_add_one, imp_false, not_false_eq_true, not_true_eq_false, false_imp_iff, true_imp_iff] at *)
    rw [u64_len hw.1]
    rw [textV_mk, if_neg h1, if_pos h2] at hb
    exact room_3 hb
  · (subst hL; subst hQ; simp only [L2, L3, std] at *; try simp only [sySet, reduceCtorEq, forall_const, Int.reduceToNat, Int.reduceAdd, Int.reduceSub, Int.cast_ofNat_Int, Int.toNat_natCast, Nat.le_eq, Nat.sub_eq, ne_eq, Decidable.not_not, implies_true, true_and, and_true, wadd, wsub, wmul, decide_eq_true_eq, decide_eq_false_iff_not, Nat.succ_eq_add_one, imp_false, not_false_eq_true, not_true_eq_false, false_imp_iff, true_imp_iff] at *)
    rw [u64_len hw.1]
    exact same_3 (by rw [textV_mk, if_neg h1, if_pos h2])
  · (subst hL; subst hQ; simp only [L2, L3, std] at *; try simp only [sySet, reduceCtorEq, forall_const, Int.reduceToNat, Int.reduceAdd, Int.reduceSub, Int.cast_ofNat_Int, Int.toNat_natCast, Nat.le_eq, Nat.sub_eq, ne_eq, Decidable.not_not, implies_true, true_and, and_true, wadd, wsub, wmul, decide_eq_true_eq, decide_eq_false_iff_not, Nat.succ_eq_add_one, imp_false, not_false_eq_true, not_true_eq_false, false_imp_iff, true_imp_iff] at *)
    rw [u64_cvs hz]
    exact cvs_short hz
  · (subst hL; subst hQ; simp only [L2, L3, std] at *; try simp only [sySet, reduceCtorEq, forall_const, Int.reduceToNat, Int.reduceAdd, Int.reduceSub, Int.cast_ofNat_Int, Int.toNat_natCast, Nat.le_eq, Nat.sub_eq, ne_eq, Decidable.not_not, implies_true, true_and, and_true, wadd, wsub, wmul, decide_eq_true_eq, decide_eq_false_iff_not, Nat.succ_eq_add_one, imp_false, not_false_eq_true, not_true_eq_false, false_imp_iff, true_imp_iff] at *)
    rw [u64_cvs hz]
    rw [textV_mk, if_neg h1, if_neg h2] at hb
    exact room_4 hb
  · (cbv; try simp only [sat_need, sat_must, sat_ite, sat_done, sat_yes, sat_ex, sat_all, sat_sup, sat_and, sat_fail, true_and, and_true])
    (subst hL; subst hQ; simp only [L2, L3, std] at *; try simp only [sySet, reduceCtorEq, forall_const, Int.reduceToNat, Int.reduceAdd, Int.reduceSub, Int.cast_ofNat_Int, Int.toNat_natCast, Nat.le_eq, Nat.sub_eq, ne_eq, Decidable.not_not, implies_true, true_and, and_true, wadd, wsub, wmul, decide_eq_true_eq, decide_eq_false_iff_not, Nat.succ_eq_add_one, imp_false, not_false_eq_true, not_true_eq_false, false_imp_iff, true_imp_iff] at *)
    rw [u64_cvs hz]
    have e : bytesAdd (bytesAdd b (byte1 (k % 256))) (shortZ ((l.length : Nat) : Int)) = putX b k l 0 := by
      rw [putX, textTo, List.take_zero, textLs, List.append_nil]; rfl
    rw [e]
    exact ⟨⟨rfl, fun _ _ _ _ => rfl⟩, rfl, Nat.zero_le _⟩
  · cbv at hi
    (cbv; try simp only [sat_need, sat_must, sat_ite, sat_done, sat_yes, sat_ex, sat_all, sat_sup, sat_and, sat_fail, true_and, and_true])
    simp only [hB]
    refine ⟨fun hlt => ⟨?_, ⟨trivial, fun _ _ _ _ => trivial⟩, trivial, fun _ _ _ _ => trivial, ⟨?_, ?_, ?_, ?_⟩, ⟨i + 1, ?_⟩⟩, fun hge => ?_⟩
    · (subst hL; subst hQ; simp only [L2, L3, std] at *; try simp only [sySet, reduceCtorEq, forall_const, Int.reduceToNat, Int.reduceAdd, Int.reduceSub, Int.cast_ofNat_Int, Int.toNat_natCast, Nat.le_eq, Nat.sub_eq, ne_eq, Decidable.not_not, implies_true, true_and, and_true, wadd, wsub, wmul, decide_eq_true_eq, decide_eq_false_iff_not, Nat.succ_eq_add_one, imp_false, not_false_eq_true, not_true_eq_false, false_imp_iff, true_imp_iff] at *)
      omega
    · (subst hL; subst hQ; simp only [L2, L3, std] at *; try simp only [sySet, reduceCtorEq, forall_const, Int.reduceToNat, Int.reduceAdd, Int.reduceSub, Int.cast_ofNat_Int, Int.toNat_natCast, Nat.le_eq, Nat.sub_eq, ne_eq, Decidable.not_not, implies_true, true_and, and_true, wadd, wsub, wmul, decide_eq_true_eq, decide_eq_false_iff_not, Nat.succ_eq_add_one, imp_false, not_false_eq_true, not_true_eq_false, false_imp_iff, true_imp_iff] at *)
      exact (rd_in _).2
    · (subst hL; subst hQ; simp only [L2, L3, std] at *; try simp only [sySet, reduceCtorEq, forall_const, Int.reduceToNat, Int.reduceAdd, Int.reduceSub, Int.cast_ofNat_Int, Int.toNat_natCast, Nat.le_eq, Nat.sub_eq, ne_eq, Decidable.not_not, implies_true, true_and, and_true, wadd, wsub, wmul, decide_eq_true_eq, decide_eq_false_iff_not, Nat.succ_eq_add_one, imp_false, not_false_eq_true, not_true_eq_false, false_imp_iff, true_imp_iff] at *)
      rw [mk_parts]
      rw [sizeC_mk_ok] at hz
      exact nth_sz hz.1 (by have : lenL l = l.length := rfl; omega)
    · (subst hL; subst hQ; simp only [L2, L3, std] at *; try simp only [sySet, reduceCtorEq, forall_const, Int.reduceToNat, Int.reduceAdd, Int.reduceSub, Int.cast_ofNat_Int, Int.toNat_natCast, Nat.le_eq, Nat.sub_eq, ne_eq, Decidable.not_not, implies_true, true_and, and_true, wadd, wsub, wmul, decide_eq_true_eq, decide_eq_false_iff_not, Nat.succ_eq_add_one, imp_false, not_false_eq_true, not_true_eq_false, false_imp_iff, true_imp_iff] at *)
      rw [mkV_parts]
      exact tx_nth hw (by omega) (by omega) (by have : lenL l = l.length := rfl; omega)
    · (subst hL; subst hQ; simp only [L2, L3, std] at *; try simp only [sySet, reduceCtorEq, forall_const, Int.reduceToNat, Int.reduceAdd, Int.reduceSub, Int.cast_ofNat_Int, Int.toNat_natCast, Nat.le_eq, Nat.sub_eq, ne_eq, Decidable.not_not, implies_true, true_and, and_true, wadd, wsub, wmul, decide_eq_true_eq, decide_eq_false_iff_not, Nat.succ_eq_add_one, imp_false, not_false_eq_true, not_true_eq_false, false_imp_iff, true_imp_iff] at *)
      rw [mkV_parts]
      have h4 := textTo_succ (l := l) (i := i) (by have : lenL l = l.length := rfl; omega)
      have h5 := textTo_len l (i + 1)
      rw [h4, List.length_append] at h5
      rw [textV_mk, if_neg h1, if_neg h2] at hb
      unfold roomB at hb ⊢
      simp only [List.length_append, putX] at hb ⊢
      omega
    · (cbv; try simp only [sat_need, sat_must, sat_ite, sat_done, sat_yes, sat_ex, sat_all, sat_sup, sat_and, sat_fail, true_and, and_true])
      (subst hL; subst hQ; simp only [L2, L3, std] at *; try simp only [sySet, reduceCtorEq, forall_const, Int.reduceToNat, Int.reduceAdd, Int.reduceSub, Int.cast_ofNat_Int, Int.toNat_natCast, Nat.le_eq, Nat.sub_eq, ne_eq, Decidable.not_not, implies_true, true_and, and_true, wadd, wsub, wmul, decide_eq_true_eq, decide_eq_false_iff_not, Nat.succ_eq_add_one, imp_false, not_false_eq_true, not_true_eq_false, false_imp_iff, true_imp_iff] at *)
      have : lenL l = l.length := rfl
      have := len_sz l
      rw [sizeC_mk_ok] at hz
      have h4 := hz.1.1
      have h5 := hz.1.2
      rw [mkV_parts]
      have e : bytesAdd (putX b k l i) (textV (nthV l i)) = putX b k l (i + 1) := by
        rw [putX, putX, textTo_succ (by omega)]; unfold bytesAdd; simp only [List.append_assoc]
      rw [e]
      exact ⟨⟨rfl, fun _ _ _ _ => rfl⟩, rfl, by omega, by omega, by omega⟩
    · (subst hL; subst hQ; simp only [L2, L3, std] at *; try simp only [sySet, reduceCtorEq, forall_const, Int.reduceToNat, Int.reduceAdd, Int.reduceSub, Int.cast_ofNat_Int, Int.toNat_natCast, Nat.le_eq, Nat.sub_eq, ne_eq, Decidable.not_not, implies_true, true_and, and_true, wadd, wsub, wmul, decide_eq_true_eq, decide_eq_false_iff_not, Nat.succ_eq_add_one, imp_false, not_false_eq_true, not_true_eq_false, false_imp_iff, true_imp_iff] at *)
      have : lenL l = l.length := rfl
      have hil : i = l.length := by omega
      exact same_b (by rw [textV_mk, if_neg h1, if_neg h2, putX, hil, textTo, List.take_length]; unfold bytesAdd; simp only [List.append_assoc])
theorem put_new {N : Nat} (ih : GoodM Try.prog (put_m N std)) (k n : Int) (s : List UInt8) (l : List CV) (hz : szOk (N + 1) (.mk k n s l)) (hw : txOk (.mk k n s l)) :
    MCalls Try.prog 48 [.ref 500000 0, .agg [.int .i64 k, .int .u64 n, .str s, cvL std l]] bld0 (.tup []) (bldN std (textV (.mk k n s l))) := by
  refine mcalls_L (T := tt) (S := fun L => sumOfM [short_s L] [wb_m L, ws_m L, put_m N L]) (lo := fun L => putA L [] k l) (lb := noA) 5 (fn := Try.f48) (xs := fun L => [.ref 500000 0, .agg [.int .i64 k, .int .u64 n, .str s, cvL L l]]) (rts := fun _ => []) (O := fun L => bld0) (O1 := fun L => bldN L (L textV (.mk k n s l)))
    rfl rfl (by kernel_rfl) (by kernel_rfl) (by kernel_rfl) tt_ok (sumOfM_ok ⟨short_good, trivial⟩ ⟨wb_good, ws_good, ih, trivial⟩) (by kernel_rfl) ?_
  intro L P' Q' hL hP hQ
  have hb : roomB [] (textV (.mk k n s l)) := by have := hw.2; unfold roomB; simp; omega
  have hB : ∀ b : List UInt8, L (L bytesOf (L lenN b)) (fun i => (AV.int .u8 (L2 L byteAt b i)).toI) = b := by subst hL; exact bytesOf_at
  (cbv; try simp only [sat_need, sat_must, sat_ite, sat_done, sat_yes, sat_ex, sat_all, sat_sup, sat_and, sat_fail, true_and, and_true])
  simp only [hB]
  refine ⟨?_, fun h1 => ⟨?_, ⟨trivial, fun _ _ _ _ => trivial⟩, trivial, ?_, ?_⟩, fun h1 => ⟨fun h2 => ⟨?_, ?_, ⟨trivial, fun _ _ _ _ => trivial⟩, trivial, ?_, ?_⟩, fun h2 => ⟨?_, ⟨trivial, fun _ _ _ _ => trivial⟩, trivial, ?_, ⟨0, ?_⟩, fun i hi => ?_⟩⟩⟩
  · (subst hL; subst hQ; simp only [L2, L3, std] at *; try simp only [sySet, reduceCtorEq, forall_const, Int.reduceToNat, Int.reduceAdd, Int.reduceSub, Int.cast_ofNat_Int, Int.toNat_natCast, Nat.le_eq, Nat.sub_eq, ne_eq, Decidable.not_not, implies_true, true_and, and_true, wadd, wsub, wmul, decide_eq_true_eq, decide_eq_false_iff_not, Nat.succ_eq_add_one, imp_false, not_false_eq_true, not_true_eq_false, false_imp_iff, true_imp_iff] at *)
    exact ⟨Int.emod_nonneg _ (by omega), Int.emod_lt_of_pos _ (by omega)⟩
  · (subst hL; subst hQ; simp only [L2, L3, std] at *; try simp only [sySet, reduceCtorEq, forall_const, Int.reduceToNat, Int.reduceAdd, Int.reduceSub, Int.cast_ofNat_Int, Int.toNat_natCast, Nat.le_eq, Nat.sub_eq, ne_eq, Decidable.not_not, implies_true, true_and, and_true, wadd, wsub, wmul, decide_eq_true_eq, decide_eq_false_iff_not, Nat.succ_eq_add_one, imp_false, not_false_eq_true, not_true_eq_false, false_imp_iff, true_imp_iff] at *)
    rw [wf_mk] at hw
    exact hw.1.1
  · (subst hL; subst hQ; simp only [L2, L3, std] at *; try simp only [sySet, reduceCtorEq, forall_const, Int.reduceToNat, Int.reduceAdd, Int.reduceSub, Int.cast_ofNat_Int, Int.toNat_natCast, Nat.le_eq, Nat.sub_eq, ne_eq, Decidable.not_not, implies_true, true_and, and_true, wadd, wsub, wmul, decide_eq_true_eq, decide_eq_false_iff_not, Nat.succ_eq_add_one, imp_false, not_false_eq_true, not_true_eq_false, false_imp_iff, true_imp_iff] at *)
    rw [textV_mk, if_pos h1] at hb
    exact room_3 hb
  · (subst hL; subst hQ; simp only [L2, L3, std] at *; try simp only [sySet, reduceCtorEq, forall_const, Int.reduceToNat, Int.reduceAdd, Int.reduceSub, Int.cast_ofNat_Int, Int.toNat_natCast, Nat.le_eq, Nat.sub_eq, ne_eq, Decidable.not_not, implies_true, true_and, and_true, wadd, wsub, wmul, decide_eq_true_eq, decide_eq_false_iff_not, Nat.succ_eq_add_one, imp_false, not_false_eq_true, not_true_eq_false, false_imp_iff, true_imp_iff] at *)
    exact same_0 (by rw [textV_mk, if_pos h1])
  · (subst hL; subst hQ; simp only [L2, L3, std] at *; try simp only [sySet, reduceCtorEq, forall_const, Int.reduceToNat, Int.reduceAdd, Int.reduceSub, Int.cast_ofNat_Int, Int.toNat_natCast, Nat.le_eq, Nat.sub_eq, ne_eq, Decidable.not_not, implies_true, true_and, and_true, wadd, wsub, wmul, decide_eq_true_eq, decide_eq_false_iff_not, Nat.succ_eq_add_one, imp_false, not_false_eq_true, not_true_eq_false, false_imp_iff, true_imp_iff] at *)
    rw [wf_mk] at hw
    rw [u64_small (by omega) (by omega)]
    exact ⟨by omega, by omega⟩
  · (subst hL; subst hQ; simp only [L2, L3, std] at *; try simp only [sySet, reduceCtorEq, forall_const, Int.reduceToNat, Int.reduceAdd, Int.reduceSub, Int.cast_ofNat_Int, Int.toNat_natCast, Nat.le_eq, Nat.sub_eq, ne_eq, Decidable.not_not, implies_true, true_and, and_true, wadd, wsub, wmul, decide_eq_true_eq, decide_eq_false_iff_not, Nat.succ_eq_add_one, imp_false, not_false_eq_true, not_true_eq_false, false_imp_iff, true_imp_iff] at *)
    rw [u64_len hw.1]
    have h3 := hw.2
    rw [textV_mk, if_neg h1, if_pos h2] at h3
    simp at h3 ⊢
    omega
  · (subst hL; subst hQ; simp only [L2, L3, std] at *; try simp only [sySet, reduceCtorEq, forall_const, Int.reduceToNat, Int.reduceAdd, Int.reduceSub, Int.cast_ofNat_Int, Int.toNat_natCast, Nat.le_eq, Nat.sub_eq, ne_eq, Decidable.not_not, implies_true, true_and, and_true, wadd, wsub, wmul, decide_eq_true_eq, decide_eq_false_iff_not, Nat.succ_eq_add_one, imp_false, not_false_eq_true, not_true_eq_false, false_imp_iff, true_imp_iff] at *)
    rw [u64_len hw.1]
    rw [textV_mk, if_neg h1, if_pos h2] at hb
    exact room_3 hb
  · (subst hL; subst hQ; simp only [L2, L3, std] at *; try simp only [sySet, reduceCtorEq, forall_const, Int.reduceToNat, Int.reduceAdd, Int.reduceSub, Int.cast_ofNat_Int, Int.toNat_natCast, Nat.le_eq, Nat.sub_eq, ne_eq, Decidable.not_not, implies_true, true_and, and_true, wadd, wsub, wmul, decide_eq_true_eq, decide_eq_false_iff_not, Nat.succ_eq_add_one, imp_false, not_false_eq_true, not_true_eq_false, false_imp_iff, true_imp_iff] at *)
    rw [u64_len hw.1]
    exact same_0 (by rw [textV_mk, if_neg h1, if_pos h2])
  · (subst hL; subst hQ; simp only [L2, L3, std] at *; try simp only [sySet, reduceCtorEq, forall_const, Int.reduceToNat, Int.reduceAdd, Int.reduceSub, Int.cast_ofNat_Int, Int.toNat_natCast, Nat.le_eq, Nat.sub_eq, ne_eq, Decidable.not_not, implies_true, true_and, and_true, wadd, wsub, wmul, decide_eq_true_eq, decide_eq_false_iff_not, Nat.succ_eq_add_one, imp_false, not_false_eq_true, not_true_eq_false, false_imp_iff, true_imp_iff] at *)
    rw [u64_cvs hz]
    exact cvs_short hz
  · (subst hL; subst hQ; simp only [L2, L3, std] at *; try simp only [sySet, reduceCtorEq, forall_const, Int.reduceToNat, Int.reduceAdd, Int.reduceSub, Int.cast_ofNat_Int, Int.toNat_natCast, Nat.le_eq, Nat.sub_eq, ne_eq, Decidable.not_not, implies_true, true_and, and_true, wadd, wsub, wmul, decide_eq_true_eq, decide_eq_false_iff_not, Nat.succ_eq_add_one, imp_false, not_false_eq_true, not_true_eq_false, false_imp_iff, true_imp_iff] at *)
    rw [u64_cvs hz]
    rw [textV_mk, if_neg h1, if_neg h2] at hb
    exact room_4 hb
  · (cbv; try simp only [sat_need, sat_must, sat_ite, sat_done, sat_yes, sat_ex, sat_all, sat_sup, sat_and, sat_fail, true_and, and_true])
    (subst hL; subst hQ; simp only [L2, L3, std] at *; try simp only [sySet, reduceCtorEq, forall_const, Int.reduceToNat, Int.reduceAdd, Int.reduceSub, Int.cast_ofNat_Int, Int.toNat_natCast, Nat.le_eq, Nat.sub_eq, ne_eq, Decidable.not_not, implies_true, true_and, and_true, wadd, wsub, wmul, decide_eq_true_eq, decide_eq_false_iff_not, Nat.succ_eq_add_one, imp_false, not_false_eq_true, not_true_eq_false, false_imp_iff, true_imp_iff] at *)
    rw [u64_cvs hz]
    have e : bytesAdd (byte1 (k % 256)) (shortZ ((l.length : Nat) : Int)) = putX [] k l 0 := by
      rw [putX, textTo, List.take_zero, textLs, List.append_nil]; rfl
    rw [e]
    exact ⟨⟨rfl, fun _ _ _ _ => rfl⟩, rfl, Nat.zero_le _⟩
  · cbv at hi
    (cbv; try simp only [sat_need, sat_must, sat_ite, sat_done, sat_yes, sat_ex, sat_all, sat_sup, sat_and, sat_fail, true_and, and_true])
    simp only [hB]
    refine ⟨fun hlt => ⟨?_, ⟨trivial, fun _ _ _ _ => trivial⟩, trivial, fun _ _ _ _ => trivial, ⟨?_, ?_, ?_, ?_⟩, ⟨i + 1, ?_⟩⟩, fun hge => ?_⟩
    · (subst hL; subst hQ; simp only [L2, L3, std] at *; try simp only [sySet, reduceCtorEq, forall_const, Int.reduceToNat, Int.reduceAdd, Int.reduceSub, Int.cast_ofNat_Int, Int.toNat_natCast, Nat.le_eq, Nat.sub_eq, ne_eq, Decidable.not_not, implies_true, true_and, and_true, wadd, wsub, wmul, decide_eq_true_eq, decide_eq_false_iff_not, Nat.succ_eq_add_one, imp_false, not_false_eq_true, not_true_eq_false, false_imp_iff, true_imp_iff] at *)
      omega
    · (subst hL; subst hQ; simp only [L2, L3, std] at *; try simp only [sySet, reduceCtorEq, forall_const, Int.reduceToNat, Int.reduceAdd, Int.reduceSub, Int.cast_ofNat_Int, Int.toNat_natCast, Nat.le_eq, Nat.sub_eq, ne_eq, Decidable.not_not, implies_true, true_and, and_true, wadd, wsub, wmul, decide_eq_true_eq, decide_eq_false_iff_not, Nat.succ_eq_add_one, imp_false, not_false_eq_true, not_true_eq_false, false_imp_iff, true_imp_iff] at *)
      exact (rd_in _).2
    · (subst hL; subst hQ; simp only [L2, L3, std] at *; try simp only [sySet, reduceCtorEq, forall_const, Int.reduceToNat, Int.reduceAdd, Int.reduceSub, Int.cast_ofNat_Int, Int.toNat_natCast, Nat.le_eq, Nat.sub_eq, ne_eq, Decidable.not_not, implies_true, true_and, and_true, wadd, wsub, wmul, decide_eq_true_eq, decide_eq_false_iff_not, Nat.succ_eq_add_one, imp_false, not_false_eq_true, not_true_eq_false, false_imp_iff, true_imp_iff] at *)
      rw [mk_parts]
      rw [sizeC_mk_ok] at hz
      exact nth_sz hz.1 (by have : lenL l = l.length := rfl; omega)
    · (subst hL; subst hQ; simp only [L2, L3, std] at *; try simp only [sySet, reduceCtorEq, forall_const, Int.reduceToNat, Int.reduceAdd, Int.reduceSub, Int.cast_ofNat_Int, Int.toNat_natCast, Nat.le_eq, Nat.sub_eq, ne_eq, Decidable.not_not, implies_true, true_and, and_true, wadd, wsub, wmul, decide_eq_true_eq, decide_eq_false_iff_not, Nat.succ_eq_add_one, imp_false, not_false_eq_true, not_true_eq_false, false_imp_iff, true_imp_iff] at *)
      rw [mkV_parts]
      exact tx_nth hw (by omega) (by omega) (by have : lenL l = l.length := rfl; omega)
    · (subst hL; subst hQ; simp only [L2, L3, std] at *; try simp only [sySet, reduceCtorEq, forall_const, Int.reduceToNat, Int.reduceAdd, Int.reduceSub, Int.cast_ofNat_Int, Int.toNat_natCast, Nat.le_eq, Nat.sub_eq, ne_eq, Decidable.not_not, implies_true, true_and, and_true, wadd, wsub, wmul, decide_eq_true_eq, decide_eq_false_iff_not, Nat.succ_eq_add_one, imp_false, not_false_eq_true, not_true_eq_false, false_imp_iff, true_imp_iff] at *)
      rw [mkV_parts]
      have h4 := textTo_succ (l := l) (i := i) (by have : lenL l = l.length := rfl; omega)
      have h5 := textTo_len l (i + 1)
      rw [h4, List.length_append] at h5
      rw [textV_mk, if_neg h1, if_neg h2] at hb
      unfold roomB at hb ⊢
      simp only [List.length_append, putX] at hb ⊢
      omega
    · (cbv; try simp only [sat_need, sat_must, sat_ite, sat_done, sat_yes, sat_ex, sat_all, sat_sup, sat_and, sat_fail, true_and, and_true])
      (subst hL; subst hQ; simp only [L2, L3, std] at *; try simp only [sySet, reduceCtorEq, forall_const, Int.reduceToNat, Int.reduceAdd, Int.reduceSub, Int.cast_ofNat_Int, Int.toNat_natCast, Nat.le_eq, Nat.sub_eq, ne_eq, Decidable.not_not, implies_true, true_and, and_true, wadd, wsub, wmul, decide_eq_true_eq, decide_eq_false_iff_not, Nat.succ_eq_add_one, imp_false, not_false_eq_true, not_true_eq_false, false_imp_iff, true_imp_iff] at *)
      have : lenL l = l.length := rfl
      have := len_sz l
      rw [sizeC_mk_ok] at hz
      have h4 := hz.1.1
      have h5 := hz.1.2
      rw [mkV_parts]
      have e : bytesAdd (putX [] k l i) (textV (nthV l i)) = putX [] k l (i + 1) := by
        rw [putX, putX, textTo_succ (by omega)]; unfold bytesAdd; simp only [List.append_assoc]
      rw [e]
      exact ⟨⟨rfl, fun _ _ _ _ => rfl⟩, rfl, by omega, by omega, by omega⟩
    · (subst hL; subst hQ; simp only [L2, L3, std] at *; try simp only [sySet, reduceCtorEq, forall_const, Int.reduceToNat, Int.reduceAdd, Int.reduceSub, Int.cast_ofNat_Int, Int.toNat_natCast, Nat.le_eq, Nat.sub_eq, ne_eq, Decidable.not_not, implies_true, true_and, and_true, wadd, wsub, wmul, decide_eq_true_eq, decide_eq_false_iff_not, Nat.succ_eq_add_one, imp_false, not_false_eq_true, not_true_eq_false, false_imp_iff, true_imp_iff] at *)
      have : lenL l = l.length := rfl
      have hil : i = l.length := by omega
      exact same_b (by rw [textV_mk, if_neg h1, if_neg h2, putX, hil, textTo, List.take_length, List.nil_append, List.append_assoc])
theorem mc_args {P : Program} {f : FuncId} {xs ys : List AV} {O O1 : List (Nat × Ob)} {r : AV} (e : ∀ h D μ vs, RL h D μ xs vs → RL h D μ ys vs) (hm : MCalls P f ys O r O1) : MCalls P f xs O r O1 :=
  fun D w μ vs hD hx => hm D w μ vs hD (e _ _ _ _ hx)
theorem cput_good : ∀ N, GoodM Try.prog (put_m N std) := by
  intro N
  induction N with
  | zero =>
    intro raw ob T hT hp
    unfold put_m at hT
    simp only at hT
    split at hT
    · rename_i k n s x
      split at hT <;> cases hT
      · have h1 : sizeC (mkV std k n s x) ≤ 0 := hp.2.1.1
        have := sizeC_pos (mkV std k n s x)
        omega
      · have h1 : sizeC (mkV std k n s x) ≤ 0 := hp.2.1.1
        have := sizeC_pos (mkV std k n s x)
        omega
    · cases hT
  | succ N ih =>
    intro raw ob T hT hp
    unfold put_m at hT
    simp only at hT
    split at hT
    rotate_left
    · cases hT
    rename_i k n s x
    split at hT <;> cases hT
    · refine mc_args (fun h D μ vs hr => rl_2 (fun v => val_R hp.1) hr) ?_
      exact put_new ih k n s (rdL x) hp.2.1 hp.2.2
    · refine mc_args (fun h D μ vs hr => rl_2 (fun v => val_R hp.1) hr) ?_
      exact put_old ih _ k n s (rdL x) hp.2.1 hp.2.2.1 hp.2.2.2
end Sy
end Go.Proofs.Ythlggigjnpldcaa
