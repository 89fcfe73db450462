/- Chapter 19 (session): a message read. -/
import Derived.Test.YthlggigjnpldcaaAcV
namespace Go.Proofs.Ythlggigjnpldcaa
namespace Sy
open Go Go.RowKit
set_option maxRecDepth 100000
set_option linter.unusedSimpArgs false
set_option linter.unusedVariables false

/-- The values that a text's body has. -/
def rsL (s : List UInt8) : List CV := (getV (paB s)).ls
def rsN (s : List UInt8) : Int := numsZ (paK s)
/-- How many of the values are numbers, that are asked. -/
def rsM (s : List UInt8) : Nat := (rsN s).toNat
def numTo (l : List CV) (i : Nat) : Prop := i ≤ l.length ∧ ∀ j, j < i → (nthV l j).kd = 1
/-- Is a text a message? -/
def rsOk (s : List UInt8) : Prop := paE s = 0 ∧ rsN s ≠ 0 ∧ getE (paB s) = 0 ∧ (getV (paB s)).kd = 3 ∧ (paK s = 2 → ((rsL s).length : Int) = rsN s + 1 ∧ (nthV (rsL s) (rsM s)).kd = 2) ∧ (paK s ≠ 2 → ((rsL s).length : Int) = rsN s) ∧ numTo (rsL s) (rsM s)
open Classical in
noncomputable def rsE (s : List UInt8) : Int := if rsOk s then 0 else 4
noncomputable def rsK (s : List UInt8) : Int := if rsE s = 0 then paK s else 0
noncomputable def rsP (s : List UInt8) : Int := if rsE s = 0 then paP s else 0
def nnsV (l : List CV) : List Int := l.map CV.nn
noncomputable def rsI (s : List UInt8) : List Int := if rsE s = 0 then nnsV ((rsL s).take (rsM s)) else []
noncomputable def rsB (s : List UInt8) : List UInt8 := if rsE s = 0 ∧ paK s = 2 then (nthV (rsL s) (rsM s)).tx else []
/-- Get, with what it hands back told element by element. -/
def cvB (L : Seal) (v : CV) : AV := .agg [.int .i64 (L CV.kd v), .int .u64 (L CV.nn v), .str (L CV.tx v), .lst 4 (L lenV v) (fun i j => cv1 L (L2 L nthV (L CV.ls v) i) j)]
def cgetB_s (L : Seal) : Ent1 := (19, fun xs => match xs with | [.str s] => some (True, .tup [cvB L (L getV s), .int .i64 (L getE s)]) | _ => none)
theorem cgetB_bad {s : List UInt8} {e : Int} (h : getE s = e) (he : ¬ e = 0) : fits1 (cvB std (getV s)) (.agg [.int .i64 0, .int .u64 0, .str [], .nils]) ∧ e = getE s := by
  have e0 : getV s = .mk 0 0 [] [] := by unfold getV; rw [if_neg (by rw [h]; exact he)]
  rw [e0]
  refine ⟨?_, h.symm⟩
  show fits1 (.agg [.int .i64 0, .int .u64 0, .str [], .lst 4 0 _]) _
  simp [fits1_aggi, fits1_aggs, fits1_aggn, fits1_agg0]
theorem cgetB_yes {s : List UInt8} {v : CV} (hv : (nxtTop s).v = v) (h : getE s = 0) : fits1 (cvB std (getV s)) (.agg [.int .i64 v.kd, .int .u64 v.nn, .str v.tx, .lst 4 (lenV v) (cvIn v)]) ∧ 0 = getE s := by
  have e0 : getV s = v := by unfold getV; rw [if_pos h, hv]
  rw [e0]
  refine ⟨?_, h.symm⟩
  show fits1 (.agg [.int .i64 v.kd, .int .u64 v.nn, .str v.tx, .lst 4 (lenV v) (fun i j => cv1 std (nthV v.ls i) j)]) _
  simp only [fits1_aggi, fits1_aggs, fits1_aggl, fits1_agg0, true_and, and_true]
  exact fun i j hi hj => by rw [cv1_std _ _ hj]; exact cvGet_nth _ _ _ hi
theorem cgetB_good : Good Try.prog (cgetB_s std) := by
  intro xs p r h hp
  dsimp only [cgetB_s] at h ⊢
  split at h <;> cases h
  try simp only [L2, L3, std] at hp ⊢
  rename_i s
  refine acalls_L (T := tt) (S := fun L => sumOf [next_s L]) (lo := noA) (lb := noA) 5 (fn := Try.f19) rfl rfl (by kernel_rfl) (by kernel_rfl) rfl tt_ok (sumOf_ok ⟨next_good, trivial⟩) (by kernel_rfl) ?_
  (intro L P1 Q1 hL hP hQ; cbv; subst hL; simp only [L2, L3, std, sat_need, sat_must, sat_ite, sat_done, sat_yes, sat_ex, sat_all, sat_sup, sat_and, sat_fail]; subst hQ)
  (simp only [sySet, reduceCtorEq, forall_const, Int.reduceToNat, Int.reduceAdd, Int.reduceSub, Int.cast_ofNat_Int, Int.toNat_natCast, Nat.le_eq, Nat.sub_eq, ne_eq, Decidable.not_not, implies_true, true_and, and_true, wadd, wsub, wmul, decide_eq_true_eq, decide_eq_false_iff_not, Nat.succ_eq_add_one, imp_false, not_false_eq_true, not_true_eq_false, false_imp_iff, true_imp_iff])
  refine ⟨fun h1 => ⟨fun h2 => ⟨fun _ => ?_, fun h => absurd h (by decide)⟩, fun h2 => ⟨fun h => absurd h1 h, fun _ => ?_⟩⟩, fun h1 => ⟨fun _ => ?_, fun h => absurd h h1⟩⟩
  · exact cgetB_bad (by unfold getE; rw [if_pos ⟨h1, h2⟩]) (by decide)
  · exact cgetB_yes rfl (by unfold getE; rw [if_neg (fun h => h.2 h2)]; exact h1)
  · exact cgetB_bad (by unfold getE; rw [if_neg (fun h => h1 h.1)]) h1
noncomputable def rs_s (L : Seal) : Ent1 := (37, fun xs => match xs with
  | [.str s] => some (L2 L upto 900000 s, .tup [.int .i64 (L rsK s), .int .u64 (L rsP s), lstI L (L rsI s), .str (L rsB s), .int .i64 (L rsE s)])
  | _ => none)
def nnAt (l : List CV) (i : Nat) : Int := (nthV l i).nn
def rsA (L : Seal) (s : List UInt8) : Nat → St → Option Ann := fun id st => match id with
  | 0 => some ⟨Nat, fun i => [(79, .int .i64 (L natI i)), (7, .sl 901 1 0 i)], fun i => [(901, .row 24 1 i (fun i _ => .int .u64 (L2 L nnAt (L rsL s) i)))], [9, 10, 77, 78], [10],
      fun i => L2 L (fun (s : List UInt8) i => numTo (rsL s) i ∧ i ≤ rsM s) s i, fun i => L2 L (fun (s : List UInt8) (i : Nat) => rsM s - i) s i⟩
  | _ => none
theorem nums_le (k : Int) : 0 ≤ numsZ k ∧ numsZ k ≤ 3 := by
  unfold numsZ
  split
  · omega
  · split
    · omega
    · split <;> omega
theorem rs_yes {s : List UInt8} {i : Nat} (h : rsOk s) (hi : i = rsM s) : paK s = rsK s ∧ paP s = rsP s ∧ fits1 (lstI std (rsI s)) (.lst 1 i fun i x => .int .u64 (nnAt (rsL s) i)) ∧ (if paK s = 2 then (nthV (rsL s) (rsM s)).tx else []) = rsB s ∧ 0 = rsE s := by
  have e : rsE s = 0 := if_pos h
  have hl : (rsI s).length = rsM s := by
    rw [rsI, if_pos e, nnsV, List.length_map, List.length_take]
    have := h.2.2.2.2.2.2.1
    omega
  refine ⟨by rw [rsK, if_pos e], by rw [rsP, if_pos e], ?_, ?_, e.symm⟩
  · show fits1 (.lst 1 (rsI s).length fun i _ => .int .u64 (nthI (rsI s) i)) _
    rw [fits1_lst]
    refine ⟨by omega, fun q j hq hj => ?_⟩
    rw [rsI, if_pos e, nnsV, nthI, List.getD_eq_getElem?_getD, List.getElem?_map, List.getElem?_take_of_lt (by omega), nnAt, nthV, List.getD_eq_getElem?_getD]
    have := h.2.2.2.2.2.2.1
    rw [List.getElem?_eq_getElem (by omega)]; rfl
  · rw [rsB]
    by_cases hk : paK s = 2
    · rw [if_pos hk, if_pos ⟨e, hk⟩]
    · rw [if_neg hk, if_neg (fun h => hk h.2)]
theorem rs_good : Good Try.prog (rs_s std) := by
  intro xs p r h hp
  dsimp only [rs_s] at h ⊢
  split at h <;> cases h
  try simp only [L2, L3, std] at hp ⊢
  rename_i s
  refine acalls_L (T := tt) (S := fun L => sumOf [parse_s L, nums_s L, cgetB_s L]) (lo := fun L => rsA L s) (lb := noA) 5 (fn := Try.f37) rfl rfl (by kernel_rfl) (by kernel_rfl) rfl tt_ok (sumOf_ok ⟨parse_good, nums_good, cgetB_good, trivial⟩) (by kernel_rfl) ?_
  intro L P' Q' hL hP hQ
  have bad : ¬ rsOk s → fits (.tup [.int .i64 (rsK s), .int .u64 (rsP s), lstI std (rsI s), .str (rsB s), .int .i64 (rsE s)]) (.tup [.int .i64 0, .int .u64 0, .nils, .str [], .int .i64 4]) := by
    intro h
    have e : rsE s = 4 := if_neg h
    simp only [rsK, rsP, rsI, rsB, e]
    show fits (.tup [.int .i64 0, .int .u64 0, .lst 1 0 _, .str [], .int .i64 4]) _
    simp only [sySet]
    trivial
  have yes : rsOk s → rsE s = 0 := fun h => if_pos h
  have nb := nums_le (paK s)
  have eN : numsZ (paK s) = rsN s := rfl
  have eL : (getV (paB s)).ls = rsL s := rfl
  have eM : (rsN s).toNat = rsM s := rfl
  have eV : lenV (getV (paB s)) = (rsL s).length := rfl
  (cbv; try simp only [sat_need, sat_must, sat_ite, sat_done, sat_yes, sat_ex, sat_all, sat_sup, sat_and, sat_fail, true_and, and_true])
  refine ⟨?_, fun h1 => ?_, fun h1 => ⟨fun h2 => ?_, fun h2 => ⟨fun h3 => ?_, fun h3 => ⟨fun h4 => ?_, fun h4 => ⟨fun h5 => ⟨fun h6 => ?_, fun h6 => ⟨?_, fun h7 => ?_, fun h7 => ⟨?_, ?_, fun h8 => ?_, fun h8 => ⟨⟨0, ?_⟩, fun i hi => ?_⟩⟩⟩⟩, fun h5 => ⟨fun h6 => ?_, fun h6 => ⟨⟨0, ?_⟩, fun i hi => ?_⟩⟩⟩⟩⟩⟩⟩
  · subst hL; exact hp
  · (subst hL; subst hQ; simp only [L2, L3, std] at *; try simp only [sySet, reduceCtorEq, forall_const, Int.reduceToNat, Int.reduceAdd, Int.reduceSub, Int.cast_ofNat_Int, Int.toNat_natCast, Nat.le_eq, Nat.sub_eq, ne_eq, Decidable.not_not, implies_true, true_and, and_true, wadd, wsub, wmul, decide_eq_true_eq, decide_eq_false_iff_not, Nat.succ_eq_add_one, imp_false, not_false_eq_true, not_true_eq_false, false_imp_iff, true_imp_iff] at *); exact bad fun h => h1 h.1
  · (subst hL; subst hQ; simp only [L2, L3, std] at *; try simp only [sySet, reduceCtorEq, forall_const, Int.reduceToNat, Int.reduceAdd, Int.reduceSub, Int.cast_ofNat_Int, Int.toNat_natCast, Nat.le_eq, Nat.sub_eq, ne_eq, Decidable.not_not, implies_true, true_and, and_true, wadd, wsub, wmul, decide_eq_true_eq, decide_eq_false_iff_not, Nat.succ_eq_add_one, imp_false, not_false_eq_true, not_true_eq_false, false_imp_iff, true_imp_iff] at *); exact bad fun h => h.2.1 h2
  · (subst hL; subst hQ; simp only [L2, L3, std] at *; try simp only [sySet, reduceCtorEq, forall_const, Int.reduceToNat, Int.reduceAdd, Int.reduceSub, Int.cast_ofNat_Int, Int.toNat_natCast, Nat.le_eq, Nat.sub_eq, ne_eq, Decidable.not_not, implies_true, true_and, and_true, wadd, wsub, wmul, decide_eq_true_eq, decide_eq_false_iff_not, Nat.succ_eq_add_one, imp_false, not_false_eq_true, not_true_eq_false, false_imp_iff, true_imp_iff] at *); exact bad fun h => h3 h.2.2.1
  · (subst hL; subst hQ; simp only [L2, L3, std] at *; try simp only [sySet, reduceCtorEq, forall_const, Int.reduceToNat, Int.reduceAdd, Int.reduceSub, Int.cast_ofNat_Int, Int.toNat_natCast, Nat.le_eq, Nat.sub_eq, ne_eq, Decidable.not_not, implies_true, true_and, and_true, wadd, wsub, wmul, decide_eq_true_eq, decide_eq_false_iff_not, Nat.succ_eq_add_one, imp_false, not_false_eq_true, not_true_eq_false, false_imp_iff, true_imp_iff] at *); exact bad fun h => h4 h.2.2.2.1
  · (subst hL; subst hQ; simp only [L2, L3, std] at *; try simp only [sySet, reduceCtorEq, forall_const, Int.reduceToNat, Int.reduceAdd, Int.reduceSub, Int.cast_ofNat_Int, Int.toNat_natCast, Nat.le_eq, Nat.sub_eq, ne_eq, Decidable.not_not, implies_true, true_and, and_true, wadd, wsub, wmul, decide_eq_true_eq, decide_eq_false_iff_not, Nat.succ_eq_add_one, imp_false, not_false_eq_true, not_true_eq_false, false_imp_iff, true_imp_iff] at *)
    exact bad fun h => by
      have := (h.2.2.2.2.1 h5).1
      omega
  · (subst hL; subst hQ; simp only [L2, L3, std] at *; try simp only [sySet, reduceCtorEq, forall_const, Int.reduceToNat, Int.reduceAdd, Int.reduceSub, Int.cast_ofNat_Int, Int.toNat_natCast, Nat.le_eq, Nat.sub_eq, ne_eq, Decidable.not_not, implies_true, true_and, and_true, wadd, wsub, wmul, decide_eq_true_eq, decide_eq_false_iff_not, Nat.succ_eq_add_one, imp_false, not_false_eq_true, not_true_eq_false, false_imp_iff, true_imp_iff] at *)
    omega
  · (subst hL; subst hQ; simp only [L2, L3, std] at *; try simp only [sySet, reduceCtorEq, forall_const, Int.reduceToNat, Int.reduceAdd, Int.reduceSub, Int.cast_ofNat_Int, Int.toNat_natCast, Nat.le_eq, Nat.sub_eq, ne_eq, Decidable.not_not, implies_true, true_and, and_true, wadd, wsub, wmul, decide_eq_true_eq, decide_eq_false_iff_not, Nat.succ_eq_add_one, imp_false, not_false_eq_true, not_true_eq_false, false_imp_iff, true_imp_iff] at *); exact bad fun h => h7 (h.2.2.2.2.1 h5).2
  · (subst hL; subst hQ; simp only [L2, L3, std] at *; try simp only [sySet, reduceCtorEq, forall_const, Int.reduceToNat, Int.reduceAdd, Int.reduceSub, Int.cast_ofNat_Int, Int.toNat_natCast, Nat.le_eq, Nat.sub_eq, ne_eq, Decidable.not_not, implies_true, true_and, and_true, wadd, wsub, wmul, decide_eq_true_eq, decide_eq_false_iff_not, Nat.succ_eq_add_one, imp_false, not_false_eq_true, not_true_eq_false, false_imp_iff, true_imp_iff] at *)
    omega
  · (subst hL; subst hQ; simp only [L2, L3, std] at *; try simp only [sySet, reduceCtorEq, forall_const, Int.reduceToNat, Int.reduceAdd, Int.reduceSub, Int.cast_ofNat_Int, Int.toNat_natCast, Nat.le_eq, Nat.sub_eq, ne_eq, Decidable.not_not, implies_true, true_and, and_true, wadd, wsub, wmul, decide_eq_true_eq, decide_eq_false_iff_not, Nat.succ_eq_add_one, imp_false, not_false_eq_true, not_true_eq_false, false_imp_iff, true_imp_iff] at *)
    omega
  · (subst hL; subst hQ; simp only [L2, L3, std] at *; try simp only [sySet, reduceCtorEq, forall_const, Int.reduceToNat, Int.reduceAdd, Int.reduceSub, Int.cast_ofNat_Int, Int.toNat_natCast, Nat.le_eq, Nat.sub_eq, ne_eq, Decidable.not_not, implies_true, true_and, and_true, wadd, wsub, wmul, decide_eq_true_eq, decide_eq_false_iff_not, Nat.succ_eq_add_one, imp_false, not_false_eq_true, not_true_eq_false, false_imp_iff, true_imp_iff] at *)
    omega
  · (cbv; try simp only [sat_need, sat_must, sat_ite, sat_done, sat_yes, sat_ex, sat_all, sat_sup, sat_and, sat_fail, true_and, and_true])
    (subst hL; subst hQ; simp only [L2, L3, std] at *; try simp only [sySet, reduceCtorEq, forall_const, Int.reduceToNat, Int.reduceAdd, Int.reduceSub, Int.cast_ofNat_Int, Int.toNat_natCast, Nat.le_eq, Nat.sub_eq, ne_eq, Decidable.not_not, implies_true, true_and, and_true, wadd, wsub, wmul, decide_eq_true_eq, decide_eq_false_iff_not, Nat.succ_eq_add_one, imp_false, not_false_eq_true, not_true_eq_false, false_imp_iff, true_imp_iff] at *)
    exact ⟨⟨Nat.zero_le _, fun j hj => by omega⟩, Nat.zero_le _⟩
  · cbv at hi
    (cbv; try simp only [sat_need, sat_must, sat_ite, sat_done, sat_yes, sat_ex, sat_all, sat_sup, sat_and, sat_fail, true_and, and_true])
    refine ⟨fun hlt => ⟨?_, fun h9 => ?_, fun h9 => ⟨?_, ⟨i + 1, ?_⟩⟩⟩, fun hge => ?_⟩
    · (subst hL; subst hQ; simp only [L2, L3, std] at *; try simp only [sySet, reduceCtorEq, forall_const, Int.reduceToNat, Int.reduceAdd, Int.reduceSub, Int.cast_ofNat_Int, Int.toNat_natCast, Nat.le_eq, Nat.sub_eq, ne_eq, Decidable.not_not, implies_true, true_and, and_true, wadd, wsub, wmul, decide_eq_true_eq, decide_eq_false_iff_not, Nat.succ_eq_add_one, imp_false, not_false_eq_true, not_true_eq_false, false_imp_iff, true_imp_iff] at *)
      omega
    · (subst hL; subst hQ; simp only [L2, L3, std] at *; try simp only [sySet, reduceCtorEq, forall_const, Int.reduceToNat, Int.reduceAdd, Int.reduceSub, Int.cast_ofNat_Int, Int.toNat_natCast, Nat.le_eq, Nat.sub_eq, ne_eq, Decidable.not_not, implies_true, true_and, and_true, wadd, wsub, wmul, decide_eq_true_eq, decide_eq_false_iff_not, Nat.succ_eq_add_one, imp_false, not_false_eq_true, not_true_eq_false, false_imp_iff, true_imp_iff] at *)
      exact bad fun h => h9 (h.2.2.2.2.2.2.2 i (by omega))
    · (subst hL; subst hQ; simp only [L2, L3, std] at *; try simp only [sySet, reduceCtorEq, forall_const, Int.reduceToNat, Int.reduceAdd, Int.reduceSub, Int.cast_ofNat_Int, Int.toNat_natCast, Nat.le_eq, Nat.sub_eq, ne_eq, Decidable.not_not, implies_true, true_and, and_true, wadd, wsub, wmul, decide_eq_true_eq, decide_eq_false_iff_not, Nat.succ_eq_add_one, imp_false, not_false_eq_true, not_true_eq_false, false_imp_iff, true_imp_iff] at *)
      omega
    · (cbv; try simp only [sat_need, sat_must, sat_ite, sat_done, sat_yes, sat_ex, sat_all, sat_sup, sat_and, sat_fail, true_and, and_true])
      (subst hL; subst hQ; simp only [L2, L3, std] at *; try simp only [sySet, reduceCtorEq, forall_const, Int.reduceToNat, Int.reduceAdd, Int.reduceSub, Int.cast_ofNat_Int, Int.toNat_natCast, Nat.le_eq, Nat.sub_eq, ne_eq, Decidable.not_not, implies_true, true_and, and_true, wadd, wsub, wmul, decide_eq_true_eq, decide_eq_false_iff_not, Nat.succ_eq_add_one, imp_false, not_false_eq_true, not_true_eq_false, false_imp_iff, true_imp_iff] at *)
      have hl : i + 1 ≤ (rsL s).length := by omega
      refine ⟨fun q j hq hj => ?_, by omega, ⟨⟨hl, fun j hj => ?_⟩, by omega⟩, by omega⟩
      · by_cases h : q < i
        · rw [blt_t h, show q - i = 0 by omega]; rfl
        · have : q = i := by omega
          subst this
          rw [blt_f (by omega), show q - q = 0 by omega]; rfl
      · by_cases h : j < i
        · exact hi.1.2 j h
        · have : j = i := by omega
          subst this
          exact h9
    · (subst hL; subst hQ; simp only [L2, L3, std] at *; try simp only [sySet, reduceCtorEq, forall_const, Int.reduceToNat, Int.reduceAdd, Int.reduceSub, Int.cast_ofNat_Int, Int.toNat_natCast, Nat.le_eq, Nat.sub_eq, ne_eq, Decidable.not_not, implies_true, true_and, and_true, wadd, wsub, wmul, decide_eq_true_eq, decide_eq_false_iff_not, Nat.succ_eq_add_one, imp_false, not_false_eq_true, not_true_eq_false, false_imp_iff, true_imp_iff] at *)
      have hM : i = rsM s := by omega
      have hok : rsOk s := ⟨h1, h2, h3, h4, fun _ => ⟨by omega, h7⟩, fun h => absurd h5 h, by rw [← hM]; exact hi.1⟩
      have := rs_yes hok hM
      obtain ⟨y1, y2, y3, y4, y5⟩ := this
      refine ⟨y1, y2, y3, ?_, y5⟩
      rw [← y4, if_pos h5]
      try rfl
  · (subst hL; subst hQ; simp only [L2, L3, std] at *; try simp only [sySet, reduceCtorEq, forall_const, Int.reduceToNat, Int.reduceAdd, Int.reduceSub, Int.cast_ofNat_Int, Int.toNat_natCast, Nat.le_eq, Nat.sub_eq, ne_eq, Decidable.not_not, implies_true, true_and, and_true, wadd, wsub, wmul, decide_eq_true_eq, decide_eq_false_iff_not, Nat.succ_eq_add_one, imp_false, not_false_eq_true, not_true_eq_false, false_imp_iff, true_imp_iff] at *); exact bad fun h => h6 (h.2.2.2.2.2.1 h5)
  · (cbv; try simp only [sat_need, sat_must, sat_ite, sat_done, sat_yes, sat_ex, sat_all, sat_sup, sat_and, sat_fail, true_and, and_true])
    (subst hL; subst hQ; simp only [L2, L3, std] at *; try simp only [sySet, reduceCtorEq, forall_const, Int.reduceToNat, Int.reduceAdd, Int.reduceSub, Int.cast_ofNat_Int, Int.toNat_natCast, Nat.le_eq, Nat.sub_eq, ne_eq, Decidable.not_not, implies_true, true_and, and_true, wadd, wsub, wmul, decide_eq_true_eq, decide_eq_false_iff_not, Nat.succ_eq_add_one, imp_false, not_false_eq_true, not_true_eq_false, false_imp_iff, true_imp_iff] at *)
    exact ⟨⟨Nat.zero_le _, fun j hj => by omega⟩, Nat.zero_le _⟩
  · cbv at hi
    (cbv; try simp only [sat_need, sat_must, sat_ite, sat_done, sat_yes, sat_ex, sat_all, sat_sup, sat_and, sat_fail, true_and, and_true])
    refine ⟨fun hlt => ⟨?_, fun h9 => ?_, fun h9 => ⟨?_, ⟨i + 1, ?_⟩⟩⟩, fun hge => ?_⟩
    · (subst hL; subst hQ; simp only [L2, L3, std] at *; try simp only [sySet, reduceCtorEq, forall_const, Int.reduceToNat, Int.reduceAdd, Int.reduceSub, Int.cast_ofNat_Int, Int.toNat_natCast, Nat.le_eq, Nat.sub_eq, ne_eq, Decidable.not_not, implies_true, true_and, and_true, wadd, wsub, wmul, decide_eq_true_eq, decide_eq_false_iff_not, Nat.succ_eq_add_one, imp_false, not_false_eq_true, not_true_eq_false, false_imp_iff, true_imp_iff] at *)
      omega
    · (subst hL; subst hQ; simp only [L2, L3, std] at *; try simp only [sySet, reduceCtorEq, forall_const, Int.reduceToNat, Int.reduceAdd, Int.reduceSub, Int.cast_ofNat_Int, Int.toNat_natCast, Nat.le_eq, Nat.sub_eq, ne_eq, Decidable.not_not, implies_true, true_and, and_true, wadd, wsub, wmul, decide_eq_true_eq, decide_eq_false_iff_not, Nat.succ_eq_add_one, imp_false, not_false_eq_true, not_true_eq_false, false_imp_iff, true_imp_iff] at *)
      exact bad fun h => h9 (h.2.2.2.2.2.2.2 i (by omega))
    · (subst hL; subst hQ; simp only [L2, L3, std] at *; try simp only [sySet, reduceCtorEq, forall_const, Int.reduceToNat, Int.reduceAdd, Int.reduceSub, Int.cast_ofNat_Int, Int.toNat_natCast, Nat.le_eq, Nat.sub_eq, ne_eq, Decidable.not_not, implies_true, true_and, and_true, wadd, wsub, wmul, decide_eq_true_eq, decide_eq_false_iff_not, Nat.succ_eq_add_one, imp_false, not_false_eq_true, not_true_eq_false, false_imp_iff, true_imp_iff] at *)
      omega
    · (cbv; try simp only [sat_need, sat_must, sat_ite, sat_done, sat_yes, sat_ex, sat_all, sat_sup, sat_and, sat_fail, true_and, and_true])
      (subst hL; subst hQ; simp only [L2, L3, std] at *; try simp only [sySet, reduceCtorEq, forall_const, Int.reduceToNat, Int.reduceAdd, Int.reduceSub, Int.cast_ofNat_Int, Int.toNat_natCast, Nat.le_eq, Nat.sub_eq, ne_eq, Decidable.not_not, implies_true, true_and, and_true, wadd, wsub, wmul, decide_eq_true_eq, decide_eq_false_iff_not, Nat.succ_eq_add_one, imp_false, not_false_eq_true, not_true_eq_false, false_imp_iff, true_imp_iff] at *)
      have hl : i + 1 ≤ (rsL s).length := by omega
      refine ⟨fun q j hq hj => ?_, by omega, ⟨⟨hl, fun j hj => ?_⟩, by omega⟩, by omega⟩
      · by_cases h : q < i
        · rw [blt_t h, show q - i = 0 by omega]; rfl
        · have : q = i := by omega
          subst this
          rw [blt_f (by omega), show q - q = 0 by omega]; rfl
      · by_cases h : j < i
        · exact hi.1.2 j h
        · have : j = i := by omega
          subst this
          exact h9
    · (subst hL; subst hQ; simp only [L2, L3, std] at *; try simp only [sySet, reduceCtorEq, forall_const, Int.reduceToNat, Int.reduceAdd, Int.reduceSub, Int.cast_ofNat_Int, Int.toNat_natCast, Nat.le_eq, Nat.sub_eq, ne_eq, Decidable.not_not, implies_true, true_and, and_true, wadd, wsub, wmul, decide_eq_true_eq, decide_eq_false_iff_not, Nat.succ_eq_add_one, imp_false, not_false_eq_true, not_true_eq_false, false_imp_iff, true_imp_iff] at *)
      have hM : i = rsM s := by omega
      have hok : rsOk s := ⟨h1, h2, h3, h4, fun h => absurd h h5, fun _ => by omega, by rw [← hM]; exact hi.1⟩
      have := rs_yes hok hM
      obtain ⟨y1, y2, y3, y4, y5⟩ := this
      refine ⟨y1, y2, y3, ?_, y5⟩
      rw [← y4, if_neg h5]
      try rfl
end Sy
end Go.Proofs.Ythlggigjnpldcaa
