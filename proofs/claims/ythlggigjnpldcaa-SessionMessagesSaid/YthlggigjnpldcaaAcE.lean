/- Chapter 7 (codec): how deep, bare, the same. -/
import Derived.Test.YthlggigjnpldcaaAcD
namespace Go.Proofs.Ythlggigjnpldcaa
namespace Sy
open Go Go.RowKit
set_option maxRecDepth 100000
set_option linter.unusedSimpArgs false
set_option linter.unusedVariables false

def mkV (L : Seal) (k n : Int) (s : List UInt8) (x : AV) : CV := L (L (L (L CV.mk k) n) s) (L rdL x)
def szOk (N : Nat) (v : CV) : Prop := sizeC v ≤ N ∧ N ≤ 1000000
def szOks (N : Nat) (l : List CV) : Prop := sizeCs l ≤ N ∧ N ≤ 1000000
theorem len_sz : ∀ l : List CV, l.length ≤ sizeCs l
  | [] => by simp
  | v :: l => by
    have := len_sz l
    have := sizeC_pos v
    rw [sizeCs_cons, List.length_cons]; omega
theorem nth_sz {N : Nat} {l : List CV} {i : Nat} (h : szOks N l) (hi : i < l.length) : szOk N (nthV l i) := by
  have := sizeC_nth l i hi
  exact ⟨by have := h.1; omega, h.2⟩
theorem sizeC_mk_ok {N : Nat} {k n : Int} {s : List UInt8} {l : List CV} : szOk (N + 1) (.mk k n s l) = (szOks N l ∧ N + 1 ≤ 1000000) := by
  unfold szOk szOks
  rw [sizeC_mk]
  exact propext ⟨fun h => ⟨⟨by omega, by omega⟩, by omega⟩, fun h => ⟨by have := h.1.1; omega, h.2⟩⟩
theorem mk_parts (v : CV) : CV.mk v.kd v.nn v.tx (rdL (.lst 4 (lenV v) (cvIn v))) = v := by rw [(rd_in v).1]; exact CV.eta v
theorem mkV_parts (v : CV) : mkV std v.kd v.nn v.tx (.lst 4 (lenV v) (cvIn v)) = v := mk_parts v
theorem rdl (l : List CV) : rdL (.lst 4 (lenL l) fun i => cv1 std (nthV l i)) = l := (rd_list l).1
theorem okl (l : List CV) : okL (.lst 4 (lenL l) fun i => cv1 std (nthV l i)) := (rd_list l).2
theorem mkl (k n : Int) (s : List UInt8) (l : List CV) : mkV std k n s (.lst 4 (lenL l) fun i => cv1 std (nthV l i)) = .mk k n s l := by
  show CV.mk k n s (rdL _) = _
  rw [rdl]
/-- A value's list is told as its values are. -/
theorem val_R {h : Array Obj} {D : Nat → Prop} {μ : Mu} {a b c x : AV} {v : Value} (ho : okL x) (r : R h D μ (.agg [a, b, c, x]) v) : R h D μ (.agg [a, b, c, cvL std (rdL x)]) v := by
  obtain ⟨us, rfl, o1, s1, hr⟩ := r.inv_agg
  refine .agg _ _ (by rw [← s1]; rfl) o1 fun i y v hy hv => ?_
  match i, hy with
  | 0, hy => cases hy; exact hr 0 _ v rfl hv
  | 1, hy => cases hy; exact hr 1 _ v rfl hv
  | 2, hy => cases hy; exact hr 2 _ v rfl hv
  | 3, hy => cases hy; exact cvL_R (okL_R x ho (hr 3 _ v rfl hv))
  | i + 4, hy => simp at hy
theorem rl_1 {h : Array Obj} {D : Nat → Prop} {μ : Mu} {x y : AV} {r : List AV} {vs : Array Value} (e : ∀ v, R h D μ x v → R h D μ y v) (hr : RL h D μ (x :: r) vs) : RL h D μ (y :: r) vs := by
  refine ⟨by rw [← hr.1]; rfl, fun i z v hz hv => ?_⟩
  cases i with
  | zero => cases hz; exact e v (hr.2 0 x v rfl hv)
  | succ i => exact hr.2 (i + 1) z v hz hv
theorem rl_2 {h : Array Obj} {D : Nat → Prop} {μ : Mu} {a x y : AV} {r : List AV} {vs : Array Value} (e : ∀ v, R h D μ x v → R h D μ y v) (hr : RL h D μ (a :: x :: r) vs) : RL h D μ (a :: y :: r) vs := by
  refine ⟨by rw [← hr.1]; rfl, fun i z v hz hv => ?_⟩
  match i, hz with
  | 0, hz => exact hr.2 0 z v hz hv
  | 1, hz => cases hz; exact e v (hr.2 1 x v rfl hv)
  | i + 2, hz => exact hr.2 (i + 2) z v hz hv
theorem ac_args' {P : Program} {f : FuncId} {xs ys : List AV} {r : AV} (h : ∀ h D vs, RL h D noMu xs vs → RL h D noMu ys vs) (ha : ACalls P f ys r) : ACalls P f xs r := fun D w vs hD hx => ha D w vs hD (h _ _ _ hx)
theorem ac_v {P : Program} {f : FuncId} {a b c x r : AV} (ho : okL x) (h : ACalls P f [.agg [a, b, c, cvL std (rdL x)]] r) : ACalls P f [.agg [a, b, c, x]] r :=
  ac_args' (fun h D vs hr => rl_1 (fun v => val_R ho) hr) h
theorem ac_vv {P : Program} {f : FuncId} {a b c x a' b' c' x' r : AV} (ho : okL x) (ho' : okL x') (h : ACalls P f [.agg [a, b, c, cvL std (rdL x)], .agg [a', b', c', cvL std (rdL x')]] r) : ACalls P f [.agg [a, b, c, x], .agg [a', b', c', x']] r :=
  ac_args' (fun h D vs hr => rl_1 (fun v => val_R ho) (rl_2 (fun v => val_R ho') hr)) h
theorem list_R {h : Array Obj} {D : Nat → Prop} {μ : Mu} {x : AV} {v : Value} (ho : okL x) (r : R h D μ x v) : R h D μ (cvL std (rdL x)) v := cvL_R (okL_R x ho r)
theorem ac_l {P : Program} {f : FuncId} {x r : AV} {q : List AV} (ho : okL x) (h : ACalls P f (cvL std (rdL x) :: q) r) : ACalls P f (x :: q) r :=
  ac_args' (fun h D vs hr => rl_1 (fun v => list_R ho) hr) h
theorem ac_ll {P : Program} {f : FuncId} {x y r : AV} {q : List AV} (ho : okL x) (ho' : okL y) (h : ACalls P f (cvL std (rdL x) :: cvL std (rdL y) :: q) r) : ACalls P f (x :: y :: q) r :=
  ac_args' (fun h D vs hr => rl_1 (fun v => list_R ho) (rl_2 (fun v => list_R ho') hr)) h

/-! ### Deep -/
def deepA (L : Seal) (l : List CV) : Nat → St → Option Ann := fun id s => match id with
  | 0 => some ⟨Nat, fun i => [(12, .int .i64 (L natI i)), (3, .int .i64 (L2 L deepTo l i))], fun i => [], [10, 11], [],
      fun i => L2 L (fun (l : List CV) i => i ≤ l.length) l i, fun i => L2 L (fun (l : List CV) (i : Nat) => l.length - i) l i⟩
  | _ => none
def deep_s (N : Nat) (L : Seal) : Ent1 := (15, fun xs => match xs with
  | [.agg [.int .i64 k, .int .u64 n, .str s, x]] => some (L okL x ∧ L2 L szOk N (mkV L k n s x), .int .i64 (L deepV (mkV L k n s x)))
  | _ => none)
theorem deep_le : ∀ v, 0 ≤ deepV v ∧ deepV v ≤ (sizeC v : Int) := by
  refine cv_all fun k n s l ih => ?_
  have : ∀ m : List CV, (∀ v ∈ m, 0 ≤ deepV v ∧ deepV v ≤ (sizeC v : Int)) → 0 ≤ deepLs m ∧ deepLs m ≤ (sizeCs m : Int) := by
    intro m
    induction m with
    | nil => intro _; rw [deepLs, sizeCs_nil]; omega
    | cons v m ih =>
      intro h
      have h1 := h v (by simp)
      have h2 := ih fun w hw => h w (by simp [hw])
      rw [deepLs, sizeCs_cons]; omega
  have := this l ih
  rw [deepV, sizeC_mk]
  split <;> omega
theorem deepTo_le (l : List CV) (i : Nat) : 0 ≤ deepTo l i ∧ deepTo l i ≤ (sizeCs l : Int) := by
  have h1 : ∀ m : List CV, 0 ≤ deepLs m ∧ deepLs m ≤ (sizeCs m : Int) := by
    intro m
    induction m with
    | nil => rw [deepLs, sizeCs_nil]; omega
    | cons v m ih => have := deep_le v; rw [deepLs, sizeCs_cons]; omega
  have h2 := h1 (l.take i)
  have h3 : ∀ (m : List CV) (i : Nat), sizeCs (m.take i) ≤ sizeCs m := by
    intro m
    induction m with
    | nil => intro i; simp
    | cons v m ih =>
      intro i
      cases i with
      | zero => rw [List.take_zero, sizeCs_nil]; omega
      | succ i => have := ih i; rw [List.take_succ_cons, sizeCs_cons, sizeCs_cons]; omega
  have := h3 l i
  exact ⟨h2.1, by unfold deepTo; omega⟩
theorem deep_good : ∀ N, Good Try.prog (deep_s N std) := by
  intro N
  induction N with
  | zero =>
    intro xs p r h hp
    unfold deep_s at h
    simp only at h
    split at h
    · rename_i k n s x
      cases h
      have h1 : sizeC (mkV std k n s x) ≤ 0 := hp.2.1
      have := sizeC_pos (mkV std k n s x)
      omega
    · cases h
  | succ N ih =>
    intro xs p r h hp
    unfold deep_s at h
    simp only at h
    split at h
    · rename_i k n s x
      cases h
      obtain ⟨ho, hz⟩ := hp
      refine ac_v ho ?_
      show ACalls _ _ _ (.int .i64 (deepV (.mk k n s (rdL x))))
      have hz : szOk (N + 1) (.mk k n s (rdL x)) := hz
      generalize rdL x = l at hz ⊢
      refine acalls_L' (T := tt) (S := fun L => sumOf [deep_s N L]) (lo := fun L => deepA L l) (lb := noA) 5 (fn := Try.f15) (xs := fun L => [.agg [.int .i64 k, .int .u64 n, .str s, cvL L l]]) rfl rfl (by kernel_rfl) (by kernel_rfl) rfl tt_ok
        (sumOf_ok ⟨ih, trivial⟩) (by kernel_rfl) ?_
      intro L P' Q' hL hP hQ
      (cbv; try simp only [sat_need, sat_must, sat_ite, sat_done, sat_yes, sat_ex, sat_all, sat_sup, sat_and, sat_fail, true_and, and_true])
      refine ⟨fun h => ?_, fun h => ⟨⟨0, ?_⟩, fun i hi => ?_⟩⟩
      · (subst hL; subst hQ; simp only [L2, L3, std] at *; try simp only [sySet, reduceCtorEq, forall_const, Int.reduceToNat, Int.reduceAdd, Int.reduceSub, Int.cast_ofNat_Int, Int.toNat_natCast, Nat.le_eq, Nat.sub_eq, ne_eq, Decidable.not_not, implies_true, true_and, and_true, wadd, wsub, wmul, decide_eq_true_eq, decide_eq_false_iff_not, Nat.succ_eq_add_one, imp_false, not_false_eq_true, not_true_eq_false, false_imp_iff, true_imp_iff] at *)
        rw [deepV, if_neg h]
      · (cbv; try simp only [sat_need, sat_must, sat_ite, sat_done, sat_yes, sat_ex, sat_all, sat_sup, sat_and, sat_fail, true_and, and_true])
        (subst hL; subst hQ; simp only [L2, L3, std] at *; try simp only [sySet, reduceCtorEq, forall_const, Int.reduceToNat, Int.reduceAdd, Int.reduceSub, Int.cast_ofNat_Int, Int.toNat_natCast, Nat.le_eq, Nat.sub_eq, ne_eq, Decidable.not_not, implies_true, true_and, and_true, wadd, wsub, wmul, decide_eq_true_eq, decide_eq_false_iff_not, Nat.succ_eq_add_one, imp_false, not_false_eq_true, not_true_eq_false, false_imp_iff, true_imp_iff] at *)
        exact ⟨by rw [deepTo, List.take_zero, deepLs], Nat.zero_le _⟩
      · cbv at hi
        (cbv; try simp only [sat_need, sat_must, sat_ite, sat_done, sat_yes, sat_ex, sat_all, sat_sup, sat_and, sat_fail, true_and, and_true])
        refine ⟨fun hlt => ⟨?_, ⟨?_, ?_⟩, ⟨i + 1, ?_⟩⟩, fun hge => ?_⟩
        · (subst hL; subst hQ; simp only [L2, L3, std] at *; try simp only [sySet, reduceCtorEq, forall_const, Int.reduceToNat, Int.reduceAdd, Int.reduceSub, Int.cast_ofNat_Int, Int.toNat_natCast, Nat.le_eq, Nat.sub_eq, ne_eq, Decidable.not_not, implies_true, true_and, and_true, wadd, wsub, wmul, decide_eq_true_eq, decide_eq_false_iff_not, Nat.succ_eq_add_one, imp_false, not_false_eq_true, not_true_eq_false, false_imp_iff, true_imp_iff] at *)
          omega
        · (subst hL; subst hQ; simp only [L2, L3, std] at *; try simp only [sySet, reduceCtorEq, forall_const, Int.reduceToNat, Int.reduceAdd, Int.reduceSub, Int.cast_ofNat_Int, Int.toNat_natCast, Nat.le_eq, Nat.sub_eq, ne_eq, Decidable.not_not, implies_true, true_and, and_true, wadd, wsub, wmul, decide_eq_true_eq, decide_eq_false_iff_not, Nat.succ_eq_add_one, imp_false, not_false_eq_true, not_true_eq_false, false_imp_iff, true_imp_iff] at *)
          exact (rd_in _).2
        · (subst hL; subst hQ; simp only [L2, L3, std] at *; try simp only [sySet, reduceCtorEq, forall_const, Int.reduceToNat, Int.reduceAdd, Int.reduceSub, Int.cast_ofNat_Int, Int.toNat_natCast, Nat.le_eq, Nat.sub_eq, ne_eq, Decidable.not_not, implies_true, true_and, and_true, wadd, wsub, wmul, decide_eq_true_eq, decide_eq_false_iff_not, Nat.succ_eq_add_one, imp_false, not_false_eq_true, not_true_eq_false, false_imp_iff, true_imp_iff] at *)
          rw [mk_parts]
          rw [sizeC_mk_ok] at hz
          exact nth_sz hz.1 (by have : lenL l = l.length := rfl; omega)
        · (cbv; try simp only [sat_need, sat_must, sat_ite, sat_done, sat_yes, sat_ex, sat_all, sat_sup, sat_and, sat_fail, true_and, and_true])
          (subst hL; subst hQ; simp only [L2, L3, std] at *; try simp only [sySet, reduceCtorEq, forall_const, Int.reduceToNat, Int.reduceAdd, Int.reduceSub, Int.cast_ofNat_Int, Int.toNat_natCast, Nat.le_eq, Nat.sub_eq, ne_eq, Decidable.not_not, implies_true, true_and, and_true, wadd, wsub, wmul, decide_eq_true_eq, decide_eq_false_iff_not, Nat.succ_eq_add_one, imp_false, not_false_eq_true, not_true_eq_false, false_imp_iff, true_imp_iff] at *)
          have : lenL l = l.length := rfl
          have := len_sz l
          have h1 := hz.1
          have h2 := hz.2
          rw [sizeC_mk] at h1
          rw [mkV_parts]
          exact ⟨by rw [deepTo_succ (by omega)], by omega, by omega, by omega⟩
        · (subst hL; subst hQ; simp only [L2, L3, std] at *; try simp only [sySet, reduceCtorEq, forall_const, Int.reduceToNat, Int.reduceAdd, Int.reduceSub, Int.cast_ofNat_Int, Int.toNat_natCast, Nat.le_eq, Nat.sub_eq, ne_eq, Decidable.not_not, implies_true, true_and, and_true, wadd, wsub, wmul, decide_eq_true_eq, decide_eq_false_iff_not, Nat.succ_eq_add_one, imp_false, not_false_eq_true, not_true_eq_false, false_imp_iff, true_imp_iff] at *)
          have : lenL l = l.length := rfl
          have hil : i = l.length := by omega
          have h3 := deepTo_le l i
          have h1 := hz.1
          have h2 := hz.2
          rw [sizeC_mk] at h1
          rw [deepV, if_pos h, hil, deepTo, List.take_length]
          rw [hil, deepTo, List.take_length] at h3
          omega
    · cases h
end Sy
end Go.Proofs.Ythlggigjnpldcaa
