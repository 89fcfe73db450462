/- Chapter 7 (codec): Get. -/
import Derived.Test.YthlggigjnpldcaaAcR
namespace Go.Proofs.Ythlggigjnpldcaa
namespace Sy
open Go Go.RowKit
set_option maxRecDepth 100000
set_option linter.unusedSimpArgs false
set_option linter.unusedVariables false

def getE (s : List UInt8) : Int := if (nxtTop s).e = 0 ∧ ¬ (nxtTop s).r = [] then 4 else (nxtTop s).e
def getV (s : List UInt8) : CV := if getE s = 0 then (nxtTop s).v else .mk 0 0 [] []
def cget_s (L : Seal) : Ent1 := (19, fun xs => match xs with | [.str s] => some (True, .tup [cvA L (L getV s), .int .i64 (L getE s)]) | _ => none)
theorem cget_bad {s : List UInt8} {e : Int} (h : getE s = e) (he : ¬ e = 0) : fits1 (cvA std (getV s)) (.agg [.int .i64 0, .int .u64 0, .str [], .nils]) ∧ e = getE s := by
  have e0 : getV s = .mk 0 0 [] [] := by unfold getV; rw [if_neg (by rw [h]; exact he)]
  rw [e0]
  refine ⟨?_, h.symm⟩
  show fits1 (.agg [.int .i64 0, .int .u64 0, .str [], .lst 4 0 (cvIn (.mk 0 0 [] []))]) _
  simp [fits1_aggi, fits1_aggs, fits1_aggn, fits1_agg0]
theorem cget_yes {s : List UInt8} {v : CV} (hv : (nxtTop s).v = v) (h : getE s = 0) : fits1 (cvA std (getV s)) (.agg [.int .i64 v.kd, .int .u64 v.nn, .str v.tx, .lst 4 (lenV v) (cvIn v)]) ∧ 0 = getE s := by
  have e0 : getV s = v := by unfold getV; rw [if_pos h, hv]
  rw [e0]
  refine ⟨?_, h.symm⟩
  show fits1 (.agg [.int .i64 v.kd, .int .u64 v.nn, .str v.tx, .lst 4 (lenV v) (cvIn v)]) _
  simp [fits1_aggi, fits1_aggs, fits1_aggl, fits1_agg0]
theorem cget_good : Good Try.prog (cget_s std) := by
  intro xs p r h hp
  dsimp only [cget_s] at h ⊢
  split at h <;> cases h
  try simp only [L2, L3, std] at hp ⊢
  rename_i s
  refine acalls_L (T := tt) (S := fun L => sumOf [next_s L]) (lo := noA) (lb := noA) 5 (fn := Try.f19) rfl rfl (by kernel_rfl) (by kernel_rfl) rfl tt_ok (sumOf_ok ⟨next_good, trivial⟩) (by kernel_rfl) ?_
  (intro L P1 Q1 hL hP hQ; cbv; subst hL; simp only [L2, L3, std, sat_need, sat_must, sat_ite, sat_done, sat_yes, sat_ex, sat_all, sat_sup, sat_and, sat_fail]; subst hQ)
  (simp only [sySet, reduceCtorEq, forall_const, Int.reduceToNat, Int.reduceAdd, Int.reduceSub, Int.cast_ofNat_Int, Int.toNat_natCast, Nat.le_eq, Nat.sub_eq, ne_eq, Decidable.not_not, implies_true, true_and, and_true, wadd, wsub, wmul, decide_eq_true_eq, decide_eq_false_iff_not, Nat.succ_eq_add_one, imp_false, not_false_eq_true, not_true_eq_false, false_imp_iff, true_imp_iff])
  refine ⟨fun h1 => ⟨fun h2 => ⟨fun _ => ?_, fun h => absurd h (by decide)⟩, fun h2 => ⟨fun h => absurd h1 h, fun _ => ?_⟩⟩, fun h1 => ⟨fun _ => ?_, fun h => absurd h h1⟩⟩
  · exact cget_bad (by unfold getE; rw [if_pos ⟨h1, h2⟩]) (by decide)
  · exact cget_yes rfl (by unfold getE; rw [if_neg (fun h => h.2 h2)]; exact h1)
  · exact cget_bad (by unfold getE; rw [if_neg (fun h => h1 h.1)]) h1
theorem get_of {v : CV} (hw : wfV v) (hb : bareV v = true) (hd : deepV v ≤ 6) (hl : (textV v).length ≤ 8192) : getV (textV v) = v ∧ getE (textV v) = 0 := by
  have h := next_of hw hb hd (s := []) (by simpa using hl)
  rw [List.append_nil] at h
  have e : getE (textV v) = 0 := by unfold getE; rw [h]; rfl
  exact ⟨by unfold getV; rw [if_pos e, h], e⟩
end Sy
end Go.Proofs.Ythlggigjnpldcaa
