/- The law CodecPuts. -/
import Derived.Test.YthlggigjnpldcaaAcT
namespace Go.Proofs.Ythlggigjnpldcaa
namespace Sy
open Go Go.RowKit
set_option maxRecDepth 100000
set_option linter.unusedSimpArgs false
set_option linter.unusedVariables false

theorem put_ok {v : CV} (h : putE v = 0) : bareV v = true ∧ deepV v ≤ 6 ∧ (textV v).length ≤ 8192 ∧ putT v = textV v := by
  have ht : putT v = textV v := by unfold putT; rw [if_pos h]
  unfold putE at h
  split at h
  · rename_i h1
    split at h
    · cases h
    · rename_i h2
      split at h
      · cases h
      · rename_i h3
        exact ⟨h1, by omega, by omega, ht⟩
  · cases h
theorem codecPuts_ac (l m : List Nd) (hl : smallD l) (hm : smallD m) (ol : ∀ d ∈ l, NdOk d) (om : ∀ d ∈ m, NdOk d) : ACalls Try.prog 3 [.lst 4 (lenD l) (fun i j => ndAt std (nthD l i) j), .lst 4 (lenD m) (fun i j => ndAt std (nthD m i) j)] (.bool true) := by
  refine acalls_L' (T := tt) (S := fun L => sumOf [tru 10, made_s L, cput_s 2001 L, rput2_s 2001 L, to_s 2001 L, deep_s 2001 L, rdeep_s 2001 L, same_s 2001 L, rsame_s 2001 L, cget_s L, next_s L]) (lo := noA) (lb := noA) 5 (fn := Try.f3) (xs := fun L => [.lst 4 (L lenD l) (fun i j => ndAt L (L2 L nthD l i) j), .lst 4 (L lenD m) (fun i j => ndAt L (L2 L nthD m i) j)]) rfl rfl (by kernel_rfl) (by kernel_rfl) rfl tt_ok
    (sumOf_ok ⟨tru_good awake07_ac, made_good, cput2_good _, rput2_good _, to_good _, deep_good _, rdeep_good _, same_good _, rsame_good _, cget_good, next_good, trivial⟩) (by kernel_rfl) ?_
  intro L P' Q' hL hP hQ
  (cbv; try simp only [sat_need, sat_must, sat_ite, sat_done, sat_yes, sat_ex, sat_all, sat_sup, sat_and, sat_fail, true_and, and_true])
  have hvl := fun h => made_ok hl ol h
  have hvm := fun h => made_ok hm om h
  (subst hL; subst hQ; simp only [L2, L3, std] at *; try simp only [sySet, reduceCtorEq, forall_const, Int.reduceToNat, Int.reduceAdd, Int.reduceSub, Int.cast_ofNat_Int, Int.toNat_natCast, Nat.le_eq, Nat.sub_eq, ne_eq, Decidable.not_not, implies_true, true_and, and_true, wadd, wsub, wmul, decide_eq_true_eq, decide_eq_false_iff_not, Nat.succ_eq_add_one, imp_false, not_false_eq_true, not_true_eq_false, false_imp_iff, true_imp_iff] at *)
  have e1 := rdN_of l
  have e2 := rdN_of m
  simp only [e1.1, e1.2, e2.1, e2.2, hl, hm, true_and, and_true, mk_parts, mkV_parts, (rd_in (madeV l)).2, (rd_in (madeV m)).2, (rd_in (getV _)).2]
  clear e1 e2
  generalize madeV l = v at *
  generalize madeO l = b at *
  generalize madeV m = w at *
  generalize madeO m = b' at *
  intro hb hb'
  obtain ⟨z1, z2⟩ := hvl hb
  obtain ⟨z3, _⟩ := hvm hb'
  have r1 := same_refl v
  have r2 : beqB (sameV v w) (sameV v w) = true := by simp [beqB]
  simp only [z1, z2, z3, r1, r2, and_self, true_and, and_true, true_imp_iff, forall_const, Bool.true_eq_false, not_false_eq_true]
  intro hp
  obtain ⟨p1, p2, p3, p4⟩ := put_ok hp
  obtain ⟨g1, g2⟩ := get_of z2.1 p1 p2 p3
  rw [p4]
  simp only [g1, g2, z1, r1, true_and, and_true, true_imp_iff, forall_const, Bool.true_eq_false, not_false_eq_true]
  have hw : ((textV v).length + 3 + 9223372036854775808 : Int) % 18446744073709551616 - 9223372036854775808 = (textV v).length + 3 := by omega
  simp only [hw]
  have hl3 : (textV v ++ [97, 98, 99]).length = (textV v).length + 3 := by simp
  refine ⟨by simp; omega, ?_⟩
  by_cases h3 : 8192 < ((textV v).length : Int) + 3
  · have hn : (nxtTop (textV v ++ [97, 98, 99])).e = 5 := by rw [nm_0 _ (by rw [hl3]; omega)]; rfl
    exact ⟨fun _ h => absurd hn h, fun h => absurd h3 (by omega)⟩
  · have hn := next_of z2.1 p1 p2 (s := [97, 98, 99]) (by simp; omega)
    rw [hn]
    simp [(rd_in v).2, z1, r1]
    omega
end Sy
end Go.Proofs.Ythlggigjnpldcaa
