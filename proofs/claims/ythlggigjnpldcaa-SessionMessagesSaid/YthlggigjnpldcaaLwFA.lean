/- The law FrameBytes: any frame as bytes, and back. -/
import Derived.Test.YthlggigjnpldcaaAcG
namespace Go.Proofs.Ythlggigjnpldcaa
namespace Sy
open Go Go.RowKit
set_option maxRecDepth 100000
set_option linter.unusedSimpArgs false
set_option linter.unusedVariables false

theorem awake08_ac : ACalls Try.prog 94 [] (.bool true) := by
  refine acalls_L (T := tt) (S := fun L => sumOf [by_s L, tru 107, size_s L]) (lo := noA) (lb := noA) 5 (fn := Try.f94) rfl rfl (by kernel_rfl) (by kernel_rfl) rfl tt_ok (sumOf_ok ⟨by_good, tru_good Awake02_ac, size_good, trivial⟩) (by kernel_rfl) ?_
  (intro L P1 Q1 hL hP hQ; cbv; subst hL; simp only [L2, L3, std, sat_need, sat_must, sat_ite, sat_done, sat_yes, sat_ex, sat_all, sat_sup, sat_and, sat_fail]; subst hQ)
  (simp only [sySet, reduceCtorEq, forall_const, Int.reduceToNat, Int.reduceAdd, Int.reduceSub, Int.cast_ofNat_Int, Int.toNat_natCast, Nat.le_eq, Nat.sub_eq, ne_eq, Decidable.not_not, implies_true, true_and, and_true, wadd, wsub, wmul, decide_eq_true_eq, decide_eq_false_iff_not, Nat.succ_eq_add_one, imp_false, not_false_eq_true, not_true_eq_false, false_imp_iff, true_imp_iff])
  have e : byE 1 [] = 0 := rfl
  have t : byT 1 0 [] = markL (headT 1 0 []) := rfl
  rw [t, markL_length, headT_length]
  simp [byOk, e]
/-- Of any text: what Next and Parse, and the document's Next, say of it. -/
theorem tail (s : List UInt8) : (¬nxE s = 0 → (nxR s = [] → (paE s = nxE s → paK s = 0 ∧ paP s = 0 ∧ paB s = []) ∧ paE s = nxE s) ∧ nxR s = []) ∧
    (nxE s = 0 → (rnL s < ↑s.length → (0 ≤ rnL s ∧ rnL s ≤ ↑s.length) ∧ (nxR s = List.drop (rnL s).toNat s → (paE s = 4 → paK s = 0 ∧ paP s = 0 ∧ paB s = []) ∧ paE s = 4) ∧ nxR s = List.drop (rnL s).toNat s) ∧
      (↑s.length ≤ rnL s → (nxR s = [] → (paE s = 0 → paK s = nxK s ∧ paP s = nxP s ∧ paB s = nxB s) ∧ paE s = 0) ∧ nxR s = [])) := by
  refine ⟨fun h => ?_, fun h => ?_⟩
  · obtain ⟨e1, e2, e3, e4⟩ := nx_bad s h
    have pe : paE s = nxE s := if_neg (fun x => h x.1)
    refine ⟨fun _ => ⟨fun _ => ?_, pe⟩, e4⟩
    rw [paK, paP, paB, if_neg (by rw [pe]; exact h), if_neg (by rw [pe]; exact h), if_neg (by rw [pe]; exact h)]
    exact ⟨rfl, rfl, rfl⟩
  · obtain ⟨hl, _⟩ := nx_len s h
    have hN := (nxN_bound s).1
    have hL : rnL s = nxN s + 20 := if_pos h
    have hR : nxR s = s.drop (rnL s).toNat := by rw [nxR, if_pos h, hL]
    refine ⟨fun hlt => ⟨by omega, fun _ => ?_, hR⟩, fun hge => ?_⟩
    · have hne : nxR s ≠ [] := by
        intro e
        have := congrArg List.length (hR.symm.trans e)
        simp only [List.length_drop, List.length_nil] at this
        omega
      have pe : paE s = 4 := if_pos ⟨h, hne⟩
      refine ⟨fun _ => ?_, pe⟩
      rw [paK, paP, paB, if_neg (by rw [pe]; decide), if_neg (by rw [pe]; decide), if_neg (by rw [pe]; decide)]
      exact ⟨rfl, rfl, rfl⟩
    · have he : nxR s = [] := by rw [hR]; exact List.drop_eq_nil_of_le (by omega)
      have pe : paE s = 0 := by rw [paE, if_neg (fun x => x.2 he), h]
      refine ⟨fun _ => ⟨fun _ => ?_, pe⟩, he⟩
      rw [paK, paP, paB, if_pos pe, if_pos pe, if_pos pe]
      exact ⟨rfl, rfl, rfl⟩
end Sy
end Go.Proofs.Ythlggigjnpldcaa
