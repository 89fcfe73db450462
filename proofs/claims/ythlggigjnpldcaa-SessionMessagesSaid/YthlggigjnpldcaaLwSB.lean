/- The law SessionMessages: any message of any numbers; what any text is. -/
import Derived.Test.YthlggigjnpldcaaAdX
import Derived.Test.YthlggigjnpldcaaOpn
namespace Go.Proofs.Ythlggigjnpldcaa
namespace Sy
open Go Go.RowKit
set_option maxRecDepth 100000
set_option linter.unusedSimpArgs false
set_option linter.unusedVariables false

def eqI (l m : List Int) : Bool := decide (l = m)
def eqTo (l m : List Int) (i : Nat) : Prop := l.length = m.length ∧ i ≤ l.length ∧ ∀ j, j < i → nthI l j = nthI m j
def lenK (l : List Int) : Prop := l.length ≤ 1000000
def eqIA (L : Seal) (l m : List Int) : Nat → St → Option Ann := fun id st => match id with
  | 0 => some ⟨Nat, fun i => [(13, .int .i64 (L natI i))], fun _ => [], [0, 1, 12], [], fun i => L3 L eqTo l m i, fun i => L2 L (fun (l : List Int) (i : Nat) => l.length - i) l i⟩
  | _ => none
def eqI_s (L : Seal) : Ent1 := (39, fun xs => match xs with
  | [x, y] => some (L okI x ∧ L okI y ∧ L lenK (L rdI x), .bool (L2 L eqI (L rdI x) (L rdI y)))
  | _ => none)
theorem eqI_t {l m : List Int} (h : eqTo l m l.length) : eqI l m = true := by
  have : l = m := by
    apply List.ext_getElem h.1
    intro i h1 h2
    have := h.2.2 i h1
    rw [nthI, nthI, List.getD_eq_getElem?_getD, List.getD_eq_getElem?_getD, List.getElem?_eq_getElem h1, List.getElem?_eq_getElem h2] at this
    exact this
  simp [eqI, this]
theorem eqI_good : Good Try.prog (eqI_s std) := by
  intro xs p r h hp
  dsimp only [eqI_s] at h ⊢
  split at h <;> cases h
  try simp only [L2, L3, std] at hp ⊢
  rename_i x y
  obtain ⟨ox, oy, oz⟩ := hp
  have oz : lenK (rdI x) := oz
  refine ac_args' (fun h D vs hr => rl_1 (fun v => okI_R ox) (rl_2 (fun v => okI_R oy) hr)) ?_
  show ACalls _ _ [lstI std (rdI x), lstI std (rdI y)] (.bool (eqI (rdI x) (rdI y)))
  generalize rdI x = l at oz ⊢
  generalize rdI y = m
  refine acalls_L' (T := tt) (S := noS) (lo := fun L => eqIA L l m) (lb := noA) 5 (fn := Try.f39) (xs := fun L => [lstI L l, lstI L m]) rfl rfl (by kernel_rfl) (by kernel_rfl) rfl tt_ok (noS_ok _) (by kernel_rfl) ?_
  intro L P' Q' hL hP hQ
  (cbv; try simp only [sat_need, sat_must, sat_ite, sat_done, sat_yes, sat_ex, sat_all, sat_sup, sat_and, sat_fail, true_and, and_true])
  refine ⟨fun h1 => ?_, fun h1 => ⟨⟨0, ?_⟩, fun i hi => ?_⟩⟩
  · (subst hL; subst hQ; simp only [L2, L3, std] at *; try simp only [sySet, reduceCtorEq, forall_const, Int.reduceToNat, Int.reduceAdd, Int.reduceSub, Int.cast_ofNat_Int, Int.toNat_natCast, Nat.le_eq, Nat.sub_eq, ne_eq, Decidable.not_not, implies_true, true_and, and_true, wadd, wsub, wmul, decide_eq_true_eq, decide_eq_false_iff_not, Nat.succ_eq_add_one, imp_false, not_false_eq_true, not_true_eq_false, false_imp_iff, true_imp_iff] at *)
    symm
    rw [eqI, decide_eq_false_iff_not]
    intro h
    exact h1 (by rw [h])
  · (cbv; try simp only [sat_need, sat_must, sat_ite, sat_done, sat_yes, sat_ex, sat_all, sat_sup, sat_and, sat_fail, true_and, and_true])
    (subst hL; subst hQ; simp only [L2, L3, std] at *; try simp only [sySet, reduceCtorEq, forall_const, Int.reduceToNat, Int.reduceAdd, Int.reduceSub, Int.cast_ofNat_Int, Int.toNat_natCast, Nat.le_eq, Nat.sub_eq, ne_eq, Decidable.not_not, implies_true, true_and, and_true, wadd, wsub, wmul, decide_eq_true_eq, decide_eq_false_iff_not, Nat.succ_eq_add_one, imp_false, not_false_eq_true, not_true_eq_false, false_imp_iff, true_imp_iff] at *)
    have a : lenI l = l.length := rfl
    have b : lenI m = m.length := rfl
    exact ⟨by omega, Nat.zero_le _, fun j hj => by omega⟩
  · cbv at hi
    (cbv; try simp only [sat_need, sat_must, sat_ite, sat_done, sat_yes, sat_ex, sat_all, sat_sup, sat_and, sat_fail, true_and, and_true])
    refine ⟨fun h2 => ⟨?_, ?_, fun h3 => ?_, fun h3 => ⟨i + 1, ?_⟩⟩, fun h2 => ?_⟩
    · (subst hL; subst hQ; simp only [L2, L3, std] at *; try simp only [sySet, reduceCtorEq, forall_const, Int.reduceToNat, Int.reduceAdd, Int.reduceSub, Int.cast_ofNat_Int, Int.toNat_natCast, Nat.le_eq, Nat.sub_eq, ne_eq, Decidable.not_not, implies_true, true_and, and_true, wadd, wsub, wmul, decide_eq_true_eq, decide_eq_false_iff_not, Nat.succ_eq_add_one, imp_false, not_false_eq_true, not_true_eq_false, false_imp_iff, true_imp_iff] at *)
      omega
    · (subst hL; subst hQ; simp only [L2, L3, std] at *; try simp only [sySet, reduceCtorEq, forall_const, Int.reduceToNat, Int.reduceAdd, Int.reduceSub, Int.cast_ofNat_Int, Int.toNat_natCast, Nat.le_eq, Nat.sub_eq, ne_eq, Decidable.not_not, implies_true, true_and, and_true, wadd, wsub, wmul, decide_eq_true_eq, decide_eq_false_iff_not, Nat.succ_eq_add_one, imp_false, not_false_eq_true, not_true_eq_false, false_imp_iff, true_imp_iff] at *)
      have a : lenI l = l.length := rfl
      have b : lenI m = m.length := rfl
      have := hi.1
      omega
    · (subst hL; subst hQ; simp only [L2, L3, std] at *; try simp only [sySet, reduceCtorEq, forall_const, Int.reduceToNat, Int.reduceAdd, Int.reduceSub, Int.cast_ofNat_Int, Int.toNat_natCast, Nat.le_eq, Nat.sub_eq, ne_eq, Decidable.not_not, implies_true, true_and, and_true, wadd, wsub, wmul, decide_eq_true_eq, decide_eq_false_iff_not, Nat.succ_eq_add_one, imp_false, not_false_eq_true, not_true_eq_false, false_imp_iff, true_imp_iff] at *)
      symm
      rw [eqI, decide_eq_false_iff_not]
      intro h
      exact h3 (by rw [h])
    · (cbv; try simp only [sat_need, sat_must, sat_ite, sat_done, sat_yes, sat_ex, sat_all, sat_sup, sat_and, sat_fail, true_and, and_true])
      (subst hL; subst hQ; simp only [L2, L3, std] at *; try simp only [sySet, reduceCtorEq, forall_const, Int.reduceToNat, Int.reduceAdd, Int.reduceSub, Int.cast_ofNat_Int, Int.toNat_natCast, Nat.le_eq, Nat.sub_eq, ne_eq, Decidable.not_not, implies_true, true_and, and_true, wadd, wsub, wmul, decide_eq_true_eq, decide_eq_false_iff_not, Nat.succ_eq_add_one, imp_false, not_false_eq_true, not_true_eq_false, false_imp_iff, true_imp_iff] at *)
      have a : lenI l = l.length := rfl
      obtain ⟨i1, i2, i3⟩ := hi
      have oz : l.length ≤ 1000000 := oz
      refine ⟨by omega, ⟨i1, by omega, fun j hj => ?_⟩, by omega⟩
      by_cases h : j < i
      · exact i3 j h
      · have : j = i := by omega
        subst this
        exact h3
    · (subst hL; subst hQ; simp only [L2, L3, std] at *; try simp only [sySet, reduceCtorEq, forall_const, Int.reduceToNat, Int.reduceAdd, Int.reduceSub, Int.cast_ofNat_Int, Int.toNat_natCast, Nat.le_eq, Nat.sub_eq, ne_eq, Decidable.not_not, implies_true, true_and, and_true, wadd, wsub, wmul, decide_eq_true_eq, decide_eq_false_iff_not, Nat.succ_eq_add_one, imp_false, not_false_eq_true, not_true_eq_false, false_imp_iff, true_imp_iff] at *)
      have a : lenI l = l.length := rfl
      have : i = l.length := by have := hi.2.1; omega
      subst this
      exact (eqI_t hi).symm
theorem msgT_len (k e : Int) (b : List UInt8) (l : List Int) (h0 : 0 ≤ e) (h1 : e < 18446744073709551616) : (msgT k e b l).length ≤ 8300 := by
  unfold msgT
  split
  · by_cases hb : byE k (putT (msgV k b l)) = 0
    · have G := frame_is k e _ [] hb h0 h1
      have hl := G.len
      rw [List.append_nil, List.length_nil] at hl
      have := (byE_ok hb).2.2
      omega
    · rw [byT, if_neg hb]; simp
  · simp
theorem rs_k (s : List UInt8) : (rsE s = 0 ∧ ¬ rsK s = 0) ∨ (rsE s = 4 ∧ rsK s = 0) := by
  by_cases h : rsE s = 0
  · refine .inl ⟨h, ?_⟩
    rw [rsK, if_pos h]
    intro hk
    have := (rs_ok h).2.1
    rw [rsN, hk] at this
    exact this rfl
  · exact .inr ⟨rs_4 h, if_neg h⟩
def smA (L : Seal) : Nat → St → Option Ann := fun id st => match id with
  | 0 => some ⟨Nat, fun i => [(52, .int .i64 (L natI i))], fun _ => [], [50, 51], [50], fun i => L (fun i : Nat => i ≤ 2) i, fun i => L (fun (i : Nat) => 2 - i) i⟩
  | _ => none
theorem messages_ac (k e : Int) (b : List UInt8) (l : List Int) (t : List UInt8) (he : u64Ok e) (hs : ∀ x ∈ l, u64Ok x) (hb : b.length ≤ 9223372036854775807) (ht : t.length ≤ 9223372036854775807) :
    ACalls Try.prog 7 [.int .i64 k, .int .u64 e, .str b, lstI std l, .str t] (.bool true) := by
  refine acalls_L' (T := tt) (S := fun L => sumOf [tru 34, msg_s L, rmsg_s L, rs_s L, rrs_s L, eqI_s L]) (lo := smA) (lb := noA) 5 (fn := Try.f7) (xs := fun L => [.int .i64 k, .int .u64 e, .str b, lstI L l, .str t]) rfl rfl (by kernel_rfl) (by kernel_rfl) rfl tt_ok
    (sumOf_ok ⟨tru_good awake19_ac, msg_good, rmsg_good, rs_good, rrs_good, eqI_good, trivial⟩) (by kernel_rfl) ?_
  intro L P' Q' hL hP hQ
  have rl : rdI (.lst 1 (lenI l) fun i x => .int .u64 (nthI l i)) = l := rdI_map l _ fun i hi => rfl
  (cbv; try simp only [sat_need, sat_must, sat_ite, sat_done, sat_yes, sat_ex, sat_all, sat_sup, sat_and, sat_fail, true_and, and_true])
  refine ⟨fun h1 => ?_, fun h1 => ⟨fun h2 => ?_, fun h2 => ⟨fun h3 => ?_, fun h3 => ⟨⟨?_, ?_⟩, ⟨?_, ?_⟩, fun h4 => ?_, fun h4 => ⟨⟨0, ?_⟩, fun i hi => ?_⟩⟩⟩⟩⟩
  · (subst hL; subst hQ; simp only [L2, L3, std] at *; try simp only [sySet, reduceCtorEq, forall_const, Int.reduceToNat, Int.reduceAdd, Int.reduceSub, Int.cast_ofNat_Int, Int.toNat_natCast, Nat.le_eq, Nat.sub_eq, ne_eq, Decidable.not_not, implies_true, true_and, and_true, wadd, wsub, wmul, decide_eq_true_eq, decide_eq_false_iff_not, Nat.succ_eq_add_one, imp_false, not_false_eq_true, not_true_eq_false, false_imp_iff, true_imp_iff] at *)
  · (subst hL; subst hQ; simp only [L2, L3, std] at *; try simp only [sySet, reduceCtorEq, forall_const, Int.reduceToNat, Int.reduceAdd, Int.reduceSub, Int.cast_ofNat_Int, Int.toNat_natCast, Nat.le_eq, Nat.sub_eq, ne_eq, Decidable.not_not, implies_true, true_and, and_true, wadd, wsub, wmul, decide_eq_true_eq, decide_eq_false_iff_not, Nat.succ_eq_add_one, imp_false, not_false_eq_true, not_true_eq_false, false_imp_iff, true_imp_iff] at *)
  · (subst hL; subst hQ; simp only [L2, L3, std] at *; try simp only [sySet, reduceCtorEq, forall_const, Int.reduceToNat, Int.reduceAdd, Int.reduceSub, Int.cast_ofNat_Int, Int.toNat_natCast, Nat.le_eq, Nat.sub_eq, ne_eq, Decidable.not_not, implies_true, true_and, and_true, wadd, wsub, wmul, decide_eq_true_eq, decide_eq_false_iff_not, Nat.succ_eq_add_one, imp_false, not_false_eq_true, not_true_eq_false, false_imp_iff, true_imp_iff] at *)
  · (subst hL; subst hQ; simp only [L2, L3, std] at *; try simp only [sySet, reduceCtorEq, forall_const, Int.reduceToNat, Int.reduceAdd, Int.reduceSub, Int.cast_ofNat_Int, Int.toNat_natCast, Nat.le_eq, Nat.sub_eq, ne_eq, Decidable.not_not, implies_true, true_and, and_true, wadd, wsub, wmul, decide_eq_true_eq, decide_eq_false_iff_not, Nat.succ_eq_add_one, imp_false, not_false_eq_true, not_true_eq_false, false_imp_iff, true_imp_iff] at *)
    exact okl1 _ _
  · (subst hL; subst hQ; simp only [L2, L3, std] at *; try simp only [sySet, reduceCtorEq, forall_const, Int.reduceToNat, Int.reduceAdd, Int.reduceSub, Int.cast_ofNat_Int, Int.toNat_natCast, Nat.le_eq, Nat.sub_eq, ne_eq, Decidable.not_not, implies_true, true_and, and_true, wadd, wsub, wmul, decide_eq_true_eq, decide_eq_false_iff_not, Nat.succ_eq_add_one, imp_false, not_false_eq_true, not_true_eq_false, false_imp_iff, true_imp_iff] at *)
    rw [rl]
    have : lenI l = l.length := rfl
    exact ⟨he, by omega, by omega, hs⟩
  · (subst hL; subst hQ; simp only [L2, L3, std] at *; try simp only [sySet, reduceCtorEq, forall_const, Int.reduceToNat, Int.reduceAdd, Int.reduceSub, Int.cast_ofNat_Int, Int.toNat_natCast, Nat.le_eq, Nat.sub_eq, ne_eq, Decidable.not_not, implies_true, true_and, and_true, wadd, wsub, wmul, decide_eq_true_eq, decide_eq_false_iff_not, Nat.succ_eq_add_one, imp_false, not_false_eq_true, not_true_eq_false, false_imp_iff, true_imp_iff] at *)
    exact okl1 _ _
  · (subst hL; subst hQ; simp only [L2, L3, std] at *; try simp only [sySet, reduceCtorEq, forall_const, Int.reduceToNat, Int.reduceAdd, Int.reduceSub, Int.cast_ofNat_Int, Int.toNat_natCast, Nat.le_eq, Nat.sub_eq, ne_eq, Decidable.not_not, implies_true, true_and, and_true, wadd, wsub, wmul, decide_eq_true_eq, decide_eq_false_iff_not, Nat.succ_eq_add_one, imp_false, not_false_eq_true, not_true_eq_false, false_imp_iff, true_imp_iff] at *)
    rw [rl]
    have : lenI l = l.length := rfl
    exact ⟨he, by omega, by omega, hs⟩
  · (subst hL; subst hQ; simp only [L2, L3, std] at *; try simp only [sySet, reduceCtorEq, forall_const, Int.reduceToNat, Int.reduceAdd, Int.reduceSub, Int.cast_ofNat_Int, Int.toNat_natCast, Nat.le_eq, Nat.sub_eq, ne_eq, Decidable.not_not, implies_true, true_and, and_true, wadd, wsub, wmul, decide_eq_true_eq, decide_eq_false_iff_not, Nat.succ_eq_add_one, imp_false, not_false_eq_true, not_true_eq_false, false_imp_iff, true_imp_iff] at *)
  · (cbv; try simp only [sat_need, sat_must, sat_ite, sat_done, sat_yes, sat_ex, sat_all, sat_sup, sat_and, sat_fail, true_and, and_true])
    (subst hL; subst hQ; simp only [L2, L3, std] at *; try simp only [sySet, reduceCtorEq, forall_const, Int.reduceToNat, Int.reduceAdd, Int.reduceSub, Int.cast_ofNat_Int, Int.toNat_natCast, Nat.le_eq, Nat.sub_eq, ne_eq, Decidable.not_not, implies_true, true_and, and_true, wadd, wsub, wmul, decide_eq_true_eq, decide_eq_false_iff_not, Nat.succ_eq_add_one, imp_false, not_false_eq_true, not_true_eq_false, false_imp_iff, true_imp_iff] at *)
    omega
  · cbv at hi
    (cbv; try simp only [sat_need, sat_must, sat_ite, sat_done, sat_yes, sat_ex, sat_all, sat_sup, sat_and, sat_fail, true_and, and_true])
    have hu0 : i < 2 → (nthS [msgT k e b l, t] i).length ≤ 9000 := by
      intro h
      have h3' : ¬ 9000 < max (b.length : Int) (t.length : Int) := by
        subst hL
        intro h9
        have h3 : (decide ((9000 : Int) < max (b.length : Int) (t.length : Int))) = false := h3
        rw [decide_eq_true h9] at h3
        cases h3
      have : i = 0 ∨ i = 1 := by omega
      rcases this with rfl | rfl
      · have := msgT_len k e b l he.1 he.2
        show (msgT k e b l).length ≤ 9000
        omega
      · show t.length ≤ 9000
        omega
    have hu1 : (L (L nthS [L (L3 L msgT k e b) (L rdI (AV.lst 1 (L lenI l) fun i x => AV.int .u64 (L2 L nthI l i))), t]) (L (L Nat.add 0) (L Int.toNat (L natI i)))) = nthS [msgT k e b l, t] i := by
      subst hL
      show nthS [msgT k e b (rdI (.lst 1 (lenI l) fun i x => .int .u64 (nthI l i))), t] (0 + ((i : Int).toNat)) = _
      rw [rl, Int.toNat_natCast, Nat.zero_add]
    generalize (L (L nthS [L (L3 L msgT k e b) (L rdI (AV.lst 1 (L lenI l) fun i x => AV.int .u64 (L2 L nthI l i))), t]) (L (L Nat.add 0) (L Int.toNat (L natI i)))) = u at hu1 ⊢
    rw [← hu1] at hu0
    clear hu1 h4 h3 h2
    have ek := rs_k u
    have eh : rdI (.lst 1 (lenI (rsI u)) fun i x => .int .u64 (nthI (rsI u) i)) = rsI u := rdI_map (rsI u) _ fun i hi => rfl
    have el : eqI (rsI u) (rsI u) = true := by simp [eqI]
    refine ⟨fun h5 => ?_, fun h5 => ?_⟩
    · have h5' : i < 2 := by
        subst hL
        have h5 : decide ((i : Int) < ((2 : Nat) : Int)) = true := h5
        have := of_decide_eq_true h5
        omega
      clear h5
      have hu0 := hu0 h5'
      have hh : True := trivial
      repeat' (first | apply And.intro | intro hh | refine Exists.intro (i + 1) ?_)
      all_goals (try (cbv; try simp only [sat_need, sat_must, sat_ite, sat_done, sat_yes, sat_ex, sat_all, sat_sup, sat_and, sat_fail, true_and, and_true]))
      all_goals (subst hL; subst hQ; simp only [L2, L3, std] at *; try simp only [sySet, reduceCtorEq, forall_const, Int.reduceToNat, Int.reduceAdd, Int.reduceSub, Int.cast_ofNat_Int, Int.toNat_natCast, Nat.le_eq, Nat.sub_eq, ne_eq, Decidable.not_not, implies_true, true_and, and_true, wadd, wsub, wmul, decide_eq_true_eq, decide_eq_false_iff_not, Nat.succ_eq_add_one, imp_false, not_false_eq_true, not_true_eq_false, false_imp_iff, true_imp_iff] at *)
      all_goals (try simp only [eh, el] at hh ⊢)
      · omega
      · unfold upto; omega
      · unfold upto; omega
      · exact okl1 _ _
      · exact okl1 _ _
      · show (rsI u).length ≤ 1000000
        have := nums_le (paK u)
        by_cases h : rsE u = 0
        · rw [rsI_len h, rsM, rsN]; omega
        · rw [rsI, if_neg h]; simp
      · cases hh
      · rcases ek with ⟨a, b⟩ | ⟨a, b⟩
        · rw [a] at hh
          have e : ine (rsK u) 0 = true := by simp [ine, b]
          rw [e] at hh; cases hh
        · rw [a, b] at hh; cases hh
      · rcases ek with ⟨a, b⟩ | ⟨a, b⟩
        · exact b (by assumption)
        · exact hh a
      · omega
      · omega
    · (subst hL; subst hQ; simp only [L2, L3, std] at *; try simp only [sySet, reduceCtorEq, forall_const, Int.reduceToNat, Int.reduceAdd, Int.reduceSub, Int.cast_ofNat_Int, Int.toNat_natCast, Nat.le_eq, Nat.sub_eq, ne_eq, Decidable.not_not, implies_true, true_and, and_true, wadd, wsub, wmul, decide_eq_true_eq, decide_eq_false_iff_not, Nat.succ_eq_add_one, imp_false, not_false_eq_true, not_true_eq_false, false_imp_iff, true_imp_iff] at *)
theorem sessionMessages_ac (y0 : Int) (ok0 : (Lit.int .i64 y0).wf = true) (y1 : Int) (ok1 : (Lit.int .u64 y1).wf = true) (y2 : List UInt8) (ok2 : y2.length ≤ maxLen) (y3 : List Int) (ok3 : y3.length ≤ maxLen ∧ ∀ y ∈ y3, (Lit.int .u64 y).wf = true) (y4 : List UInt8) (ok4 : y4.length ≤ maxLen) :
    ACalls Try.prog 7 [.int .i64 y0, .int .u64 y1, .str y2, .lst 1 y3.length (avL (fun n _ => .int .u64 n) y3), .str y4] (.bool true) := by
  have wf : ∀ n, (Lit.int .u64 n).wf = true → u64Ok n := by
    intro n h
    have := bounds_u64 h
    exact ⟨by omega, by omega⟩
  refine ac_args' (ys := [.int .i64 y0, .int .u64 y1, .str y2, lstI std y3, .str y4]) (fun h D vs hr => rl_4 (fun v r => ?_) hr) (messages_ac y0 y1 y2 y3 y4 (wf _ ok1) (fun x hx => wf _ (ok3.2 x hx)) (by unfold maxLen at ok2; omega) (by unfold maxLen at ok4; omega))
  refine lst_same r fun i j hi hj => ?_
  unfold avL
  rw [List.getElem?_eq_getElem hi]
  show AV.int .u64 y3[i] = .int .u64 (nthI y3 i)
  rw [nthI, List.getD_eq_getElem?_getD, List.getElem?_eq_getElem hi]; rfl
end Sy
end Go.Proofs.Ythlggigjnpldcaa
