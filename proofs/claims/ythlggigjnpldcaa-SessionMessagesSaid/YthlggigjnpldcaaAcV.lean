/- Chapter 19 (session): how many numbers a kind has; a message's writing. -/
import Derived.Test.YthlggigjnpldcaaAcU
import Derived.Test.YthlggigjnpldcaaAcS
namespace Go.Proofs.Ythlggigjnpldcaa
namespace Sy
open Go Go.RowKit
set_option maxRecDepth 100000
set_option linter.unusedSimpArgs false
set_option linter.unusedVariables false

/-! ### A slice of numbers -/
def lenI (l : List Int) : Nat := l.length
def rdI : AV → List Int
  | .lst _ n get => (List.range n).map fun i => (get i 0).toI
  | _ => []
def okI : AV → Prop
  | .lst sz n get => sz = 1 ∧ ∀ i, i < n → ∃ x, get i 0 = .int .u64 x
  | .nils => True
  | _ => False
def lstI (L : Seal) (l : List Int) : AV := .lst 1 (L lenI l) (fun i _ => .int .u64 (L2 L nthI l i))
theorem nthI_map (n i : Nat) (f : Nat → Int) (h : i < n) : nthI ((List.range n).map f) i = f i := by
  rw [nthI, List.getD_eq_getElem?_getD, List.getElem?_map, List.getElem?_range h]; rfl
theorem rdI_map (l : List Int) (g : Nat → Nat → AV) (h : ∀ i, i < l.length → g i 0 = .int .u64 (nthI l i)) : rdI (.lst 1 l.length g) = l := by
  unfold rdI
  apply List.ext_getElem
  · simp
  · intro i h1 h2
    simp only [List.getElem_map, List.getElem_range]
    rw [h i h2, nthI, List.getD_eq_getElem?_getD, List.getElem?_eq_getElem h2]; rfl
theorem okI_R {h : Array Obj} {D : Nat → Prop} {μ : Mu} {x : AV} {v : Value} (ho : okI x) (r : R h D μ x v) : R h D μ (lstI std (rdI x)) v := by
  match x, ho with
  | .nils, _ => cases r; exact .lst0 _ _ none 0 (fun _ => rfl)
  | .lst sz n get, ho =>
    obtain ⟨rfl, ho⟩ := ho
    have e : lstI std (rdI (.lst 1 n get)) = .lst 1 n (fun i _ => .int .u64 (nthI (rdI (.lst 1 n get)) i)) := by
      show AV.lst 1 (lenI (rdI (.lst 1 n get))) _ = _
      rw [show lenI (rdI (.lst 1 n get)) = n by simp [rdI, lenI]]; rfl
    rw [e]
    refine lst_same r fun i j hi hj => ?_
    have : j = 0 := by omega
    subst this
    obtain ⟨x, hx⟩ := ho i hi
    rw [hx, rdI, nthI_map _ _ _ hi, hx]; rfl
theorem rl_4 {h : Array Obj} {D : Nat → Prop} {μ : Mu} {a b c x y : AV} {r : List AV} {vs : Array Value} (e : ∀ v, R h D μ x v → R h D μ y v) (hr : RL h D μ (a :: b :: c :: x :: r) vs) : RL h D μ (a :: b :: c :: y :: r) vs := by
  refine ⟨by rw [← hr.1]; rfl, fun i z v hz hv => ?_⟩
  match i, hz with
  | 0, hz => exact hr.2 0 z v hz hv
  | 1, hz => exact hr.2 1 z v hz hv
  | 2, hz => exact hr.2 2 z v hz hv
  | 3, hz => cases hz; exact e v (hr.2 3 x v rfl hv)
  | i + 4, hz => exact hr.2 (i + 4) z v hz hv
theorem ac_li {P : Program} {f : FuncId} {a b c x r : AV} (ho : okI x) (h : ACalls P f [a, b, c, lstI std (rdI x)] r) : ACalls P f [a, b, c, x] r :=
  ac_args' (fun h D vs hr => rl_4 (fun v => okI_R ho) hr) h

theorem rd_cells {n : Nat} {get : Nat → Nat → AV} {l : List CV} (hn : n = l.length) (h : ∀ i j, i < n → j < 4 → get i j = cvCell (nthV l i) j) : rdL (.lst 4 n get) = l ∧ okL (.lst 4 n get) := by
  constructor
  · apply List.ext_getElem
    · rw [rd_len, hn]
    · intro i h1 h2
      have hi : i < n := by omega
      have e : ∀ m : List CV, ∀ hm : i < m.length, m[i] = nthV m i := fun m hm => by rw [nthV, List.getD_eq_getElem?_getD, List.getElem?_eq_getElem hm]; rfl
      rw [e _ h1, e _ h2, rd_nth hi, h i 0 hi (by omega), h i 1 hi (by omega), h i 2 hi (by omega), h i 3 hi (by omega), cvCell_0, cvCell_1, cvCell_2, cvCell_3]
      show CV.mk _ _ _ (rdL (.lst 4 (lenV (nthV l i)) (cvIn (nthV l i)))) = _
      exact mk_parts _
  · refine ⟨rfl, fun i hi => ?_⟩
    rw [h i 0 hi (by omega), h i 1 hi (by omega), h i 2 hi (by omega), h i 3 hi (by omega), cvCell_0, cvCell_1, cvCell_2, cvCell_3]
    exact ⟨⟨_, rfl⟩, ⟨_, rfl⟩, ⟨_, rfl⟩, (rd_in (nthV l i)).2⟩

/-! ### numbers -/
def numsZ (k : Int) : Int := if k = 1 then 1 else if k = 2 ∨ k = 3 then 2 else if k = 4 then 3 else 0
def nums_s (L : Seal) : Ent1 := (73, fun xs => match xs with | [.int .i64 k] => some (True, .int .i64 (L numsZ k)) | _ => none)
theorem nums_good : Good Try.prog (nums_s std) := by
  intro xs p r h hp
  dsimp only [nums_s] at h ⊢
  split at h <;> cases h
  try simp only [L2, L3, std] at hp ⊢
  rename_i k
  refine acalls_L (T := tt) (S := noS) (lo := noA) (lb := noA) 5 (fn := Try.f73) rfl rfl (by kernel_rfl) (by kernel_rfl) rfl tt_ok (noS_ok _) (by kernel_rfl) ?_
  (intro L P1 Q1 hL hP hQ; cbv; subst hL; simp only [L2, L3, std, sat_need, sat_must, sat_ite, sat_done, sat_yes, sat_ex, sat_all, sat_sup, sat_and, sat_fail]; subst hQ)
  (simp only [sySet, reduceCtorEq, forall_const, Int.reduceToNat, Int.reduceAdd, Int.reduceSub, Int.cast_ofNat_Int, Int.toNat_natCast, Nat.le_eq, Nat.sub_eq, ne_eq, Decidable.not_not, implies_true, true_and, and_true, wadd, wsub, wmul, decide_eq_true_eq, decide_eq_false_iff_not, Nat.succ_eq_add_one, imp_false, not_false_eq_true, not_true_eq_false, false_imp_iff, true_imp_iff])
  refine ⟨fun h => by simp [numsZ, h], fun h1 => ⟨fun h => by simp [numsZ, h], fun h2 => ⟨fun h => by simp [numsZ, h], fun h3 => ⟨fun h => by simp [numsZ, h], fun h4 => by simp [numsZ, h1, h2, h3, h4]⟩⟩⟩⟩

/-! ### Message -/
def numVs (l : List Int) : List CV := l.map numV
def itemsV (k : Int) (b : List UInt8) (l : List Int) : List CV := if k = 2 then numVs l ++ [txtV b] else numVs l
def msgV (k : Int) (b : List UInt8) (l : List Int) : CV := rowV (itemsV k b l)
def msgT (k e : Int) (b : List UInt8) (l : List Int) : List UInt8 := if putE (msgV k b l) = 0 then byT k e (putT (msgV k b l)) else []
def msgOk (e : Int) (b : List UInt8) (l : List Int) : Prop := u64Ok e ∧ b.length ≤ 1000000 ∧ l.length ≤ 1000 ∧ ∀ x ∈ l, shortOk x
theorem nthV_app_l {a b : List CV} {i : Nat} (h : i < a.length) : nthV (a ++ b) i = nthV a i := by
  rw [nthV, nthV, List.getD_eq_getElem?_getD, List.getD_eq_getElem?_getD, List.getElem?_append_left h]
theorem nthV_app_r (a : List CV) (v : CV) : nthV (a ++ [v]) a.length = v := by
  rw [nthV, List.getD_eq_getElem?_getD, List.getElem?_append_right (Nat.le_refl _)]; simp
theorem push_cells {l : List CV} {v : CV} {i : Nat} (hi : i = l.length) :
    rdL (.lst 4 (i.add 1) fun q j => sel1 std (nblt q i) (cv1 std (nthV l q) j) (lget .dead [.int .i64 v.kd, .int .u64 v.nn, .str v.tx, .lst 4 (lenV v) (cvIn v)] ((q - i) * 4 + j))) = l ++ [v] ∧
    okL (.lst 4 (i.add 1) fun q j => sel1 std (nblt q i) (cv1 std (nthV l q) j) (lget .dead [.int .i64 v.kd, .int .u64 v.nn, .str v.tx, .lst 4 (lenV v) (cvIn v)] ((q - i) * 4 + j))) := by
  subst hi
  refine rd_cells (by simp) fun q j hq hj => ?_
  have hq : q < l.length + 1 := hq
  by_cases h : q < l.length
  · rw [nthV_app_l h, ← cv1_std _ _ hj, blt_t h, show q - l.length = 0 by omega, Nat.zero_mul, Nat.zero_add]
    match j, hj with
    | 0, _ => rfl
    | 1, _ => rfl
    | 2, _ => rfl
    | 3, _ => rfl
  · have : q = l.length := by omega
    subst this
    rw [nthV_app_r, ← cv1_std _ _ hj, blt_f (by omega), show l.length - l.length = 0 by omega, Nat.zero_mul, Nat.zero_add]
    match j, hj with
    | 0, _ => rfl
    | 1, _ => rfl
    | 2, _ => rfl
    | 3, _ => rfl
theorem numVs_len (l : List Int) : (numVs l).length = l.length := List.length_map _
theorem numVs_size (l : List Int) : sizeCs (numVs l) = l.length := by
  induction l with
  | nil => rw [numVs, List.map_nil, sizeCs_nil]; rfl
  | cons x l ih => rw [numVs, List.map_cons, sizeCs_cons, show l.map numV = numVs l from rfl, ih, numV, sizeC_mk, sizeCs_nil, List.length_cons]; omega
theorem sizeCs_app (a b : List CV) : sizeCs (a ++ b) = sizeCs a + sizeCs b := by
  induction a with
  | nil => rw [List.nil_append, sizeCs_nil]; omega
  | cons x l ih => rw [List.cons_append, sizeCs_cons, sizeCs_cons, ih]; omega
theorem wfLs_app (a b : List CV) : wfLs (a ++ b) ↔ wfLs a ∧ wfLs b := by
  induction a with
  | nil => rw [List.nil_append, wfLs]; simp
  | cons x l ih => rw [List.cons_append, wfLs, wfLs, ih]; exact ⟨fun h => ⟨⟨h.1, h.2.1⟩, h.2.2⟩, fun h => ⟨h.1.1, h.1.2, h.2⟩⟩
theorem numVs_wf {l : List Int} (h : ∀ x ∈ l, shortOk x) : wfLs (numVs l) ∧ (textLs (numVs l)).length ≤ 11 * l.length := by
  induction l with
  | nil => rw [numVs, List.map_nil, textLs, wfLs]; exact ⟨trivial, Nat.zero_le _⟩
  | cons x l ih =>
    obtain ⟨a, b⟩ := ih (fun y hy => h y (List.mem_cons_of_mem _ hy))
    have hx := h x List.mem_cons_self
    have := shortZ_len hx
    rw [numVs, List.map_cons, textLs, wfLs, show l.map numV = numVs l from rfl, numV, wfV, textV_mk, if_pos rfl, wfLs]
    refine ⟨⟨⟨hx, Nat.zero_le _, trivial⟩, a⟩, ?_⟩
    simp only [List.length_append, List.length_cons, byteK, List.length_nil]
    omega
theorem msgV_ok {e k : Int} {b : List UInt8} {l : List Int} (h : msgOk e b l) : szOk 2000 (msgV k b l) ∧ txOk (msgV k b l) ∧ lenOk (itemsV k b l) := by
  obtain ⟨h0, h1, h2, h3⟩ := h
  obtain ⟨w, t⟩ := numVs_wf h3
  have sb : shortOk (b.length : Nat) := ⟨by omega, by omega⟩
  have sz : shortOk 0 := ⟨by omega, by omega⟩
  have tl := shortZ_len sb
  have il : (itemsV k b l).length ≤ l.length + 1 := by
    unfold itemsV
    split <;> simp [numVs_len]
  have sl : shortOk ((itemsV k b l).length : Nat) := ⟨by omega, by omega⟩
  have tl2 := shortZ_len sl
  have ws : wfLs (itemsV k b l) ∧ (textLs (itemsV k b l)).length ≤ 11 * l.length + b.length + 11 ∧ sizeCs (itemsV k b l) ≤ l.length + 1 := by
    unfold itemsV
    split
    · rw [wfLs_app, textLs_app, sizeCs_app, numVs_size, sizeCs_cons, sizeCs_nil, List.length_append, wfLs, wfLs, textLs, textLs, txtV, wfV, textV_mk, if_neg (by decide), if_pos rfl, sizeC_mk, sizeCs_nil, wfLs]
      refine ⟨⟨w, ⟨sz, by omega, trivial⟩, trivial⟩, ?_, by omega⟩
      simp only [List.length_append, List.length_cons, byteK, List.length_nil]
      omega
    · rw [numVs_size]
      exact ⟨w, by omega, by omega⟩
  refine ⟨?_, ?_, ?_⟩
  · unfold szOk msgV rowV
    rw [sizeC_mk]; omega
  · unfold txOk msgV rowV
    rw [wfV, textV_mk, if_neg (by decide), if_neg (by decide)]
    refine ⟨⟨sz, Nat.zero_le _, ws.1⟩, ?_⟩
    simp only [List.length_append, List.length_cons, byteK, List.length_nil]
    omega
  · unfold lenOk; omega
theorem msg_end {e k : Int} {b : List UInt8} {l : List Int} (h : msgOk e b l) (x : Nat → Nat → AV) (n : Nat) (hr : rdL (.lst 4 n x) = itemsV k b l) (ho : okL (.lst 4 n x)) :
    (okL (.lst 4 n x) ∧ lenOk (rdL (.lst 4 n x))) ∧
    (okL (.lst 4 (lenV (rowV (rdL (.lst 4 n x)))) (cvIn (rowV (rdL (.lst 4 n x))))) ∧ szOk 2000 (mkV std (rowV (rdL (.lst 4 n x))).kd (rowV (rdL (.lst 4 n x))).nn (rowV (rdL (.lst 4 n x))).tx (.lst 4 (lenV (rowV (rdL (.lst 4 n x)))) (cvIn (rowV (rdL (.lst 4 n x)))))) ∧
      txOk (mkV std (rowV (rdL (.lst 4 n x))).kd (rowV (rdL (.lst 4 n x))).nn (rowV (rdL (.lst 4 n x))).tx (.lst 4 (lenV (rowV (rdL (.lst 4 n x)))) (cvIn (rowV (rdL (.lst 4 n x))))))) ∧
    (¬ putE (mkV std (rowV (rdL (.lst 4 n x))).kd (rowV (rdL (.lst 4 n x))).nn (rowV (rdL (.lst 4 n x))).tx (.lst 4 (lenV (rowV (rdL (.lst 4 n x)))) (cvIn (rowV (rdL (.lst 4 n x)))))) = 0 → [] = msgT k e b l) ∧
    (putE (mkV std (rowV (rdL (.lst 4 n x))).kd (rowV (rdL (.lst 4 n x))).nn (rowV (rdL (.lst 4 n x))).tx (.lst 4 (lenV (rowV (rdL (.lst 4 n x)))) (cvIn (rowV (rdL (.lst 4 n x)))))) = 0 →
      byOk e (putT (mkV std (rowV (rdL (.lst 4 n x))).kd (rowV (rdL (.lst 4 n x))).nn (rowV (rdL (.lst 4 n x))).tx (.lst 4 (lenV (rowV (rdL (.lst 4 n x)))) (cvIn (rowV (rdL (.lst 4 n x))))))) ∧
      byT k e (putT (mkV std (rowV (rdL (.lst 4 n x))).kd (rowV (rdL (.lst 4 n x))).nn (rowV (rdL (.lst 4 n x))).tx (.lst 4 (lenV (rowV (rdL (.lst 4 n x)))) (cvIn (rowV (rdL (.lst 4 n x))))))) = msgT k e b l) := by
  rw [hr, mkV_parts, show rowV (itemsV k b l) = msgV k b l from rfl]
  obtain ⟨m1, m2, m3⟩ := msgV_ok (k := k) h
  refine ⟨⟨ho, m3⟩, ⟨(rd_in _).2, m1, m2⟩, fun hE => by rw [msgT, if_neg hE], fun hE => ⟨⟨h.1.1, h.1.2, ?_⟩, by rw [msgT, if_pos hE]⟩⟩
  have := m2.2
  rw [putT, if_pos hE]
  omega
def msgA (L : Seal) (l : List Int) : Nat → St → Option Ann := fun id st => match id with
  | 0 => some ⟨Nat, fun i => [(18, .int .i64 (L natI i)), (9, .sl 900 4 0 i)], fun i => [(900, .row 27 4 i (fun i j => cv1 L (L2 L nthV (L numVs l) i) j))], [0, 1, 2, 16, 17], [],
      fun i => L2 L (fun (l : List Int) i => i ≤ l.length) l i, fun i => L2 L (fun (l : List Int) (i : Nat) => l.length - i) l i⟩
  | _ => none
def msg_s (L : Seal) : Ent1 := (35, fun xs => match xs with
  | [.int .i64 k, .int .u64 e, .str b, x] => some (L okI x ∧ L3 L msgOk e b (L rdI x), .str (L (L3 L msgT k e b) (L rdI x)))
  | _ => none)
theorem msg_good : Good Try.prog (msg_s std) := by
  intro xs p r h hp
  dsimp only [msg_s] at h ⊢
  split at h <;> cases h
  try simp only [L2, L3, std] at hp ⊢
  rename_i k e b x
  obtain ⟨ho, hz⟩ := hp
  refine ac_li ho ?_
  have hz : msgOk e b (rdI x) := hz
  show ACalls _ _ [.int .i64 k, .int .u64 e, .str b, lstI std (rdI x)] (.str (msgT k e b (rdI x)))
  generalize rdI x = l at hz ⊢
  refine acalls_L' (T := tt) (S := fun L => sumOf [num_s L, txt_s L, list_s L, cput_s 2000 L, by_s L]) (lo := fun L => msgA L l) (lb := noA) 5 (fn := Try.f35) (xs := fun L => [.int .i64 k, .int .u64 e, .str b, lstI L l]) rfl rfl (by kernel_rfl) (by kernel_rfl) rfl tt_ok
    (sumOf_ok ⟨num_good, txt_good, list_good, cput2_good _, by_good, trivial⟩) (by kernel_rfl) ?_
  intro L P' Q' hL hP hQ
  (cbv; try simp only [sat_need, sat_must, sat_ite, sat_done, sat_yes, sat_ex, sat_all, sat_sup, sat_and, sat_fail, true_and, and_true])
  refine ⟨⟨0, ?_⟩, fun i hi => ?_⟩
  · (cbv; try simp only [sat_need, sat_must, sat_ite, sat_done, sat_yes, sat_ex, sat_all, sat_sup, sat_and, sat_fail, true_and, and_true])
    (subst hL; subst hQ; simp only [L2, L3, std] at *; try simp only [sySet, reduceCtorEq, forall_const, Int.reduceToNat, Int.reduceAdd, Int.reduceSub, Int.cast_ofNat_Int, Int.toNat_natCast, Nat.le_eq, Nat.sub_eq, ne_eq, Decidable.not_not, implies_true, true_and, and_true, wadd, wsub, wmul, decide_eq_true_eq, decide_eq_false_iff_not, Nat.succ_eq_add_one, imp_false, not_false_eq_true, not_true_eq_false, false_imp_iff, true_imp_iff] at *)
    exact Nat.zero_le _
  · cbv at hi
    (cbv; try simp only [sat_need, sat_must, sat_ite, sat_done, sat_yes, sat_ex, sat_all, sat_sup, sat_and, sat_fail, true_and, and_true])
    refine ⟨fun hlt => ⟨?_, ?_, ⟨i + 1, ?_⟩⟩, fun hge => ⟨fun h2 => ?_, fun h2 => ?_⟩⟩
    · (subst hL; subst hQ; simp only [L2, L3, std] at *; try simp only [sySet, reduceCtorEq, forall_const, Int.reduceToNat, Int.reduceAdd, Int.reduceSub, Int.cast_ofNat_Int, Int.toNat_natCast, Nat.le_eq, Nat.sub_eq, ne_eq, Decidable.not_not, implies_true, true_and, and_true, wadd, wsub, wmul, decide_eq_true_eq, decide_eq_false_iff_not, Nat.succ_eq_add_one, imp_false, not_false_eq_true, not_true_eq_false, false_imp_iff, true_imp_iff] at *)
      omega
    · (subst hL; subst hQ; simp only [L2, L3, std] at *; try simp only [sySet, reduceCtorEq, forall_const, Int.reduceToNat, Int.reduceAdd, Int.reduceSub, Int.cast_ofNat_Int, Int.toNat_natCast, Nat.le_eq, Nat.sub_eq, ne_eq, Decidable.not_not, implies_true, true_and, and_true, wadd, wsub, wmul, decide_eq_true_eq, decide_eq_false_iff_not, Nat.succ_eq_add_one, imp_false, not_false_eq_true, not_true_eq_false, false_imp_iff, true_imp_iff] at *)
      have : lenI l = l.length := rfl
      have := hz.2.2.1
      omega
    · (cbv; try simp only [sat_need, sat_must, sat_ite, sat_done, sat_yes, sat_ex, sat_all, sat_sup, sat_and, sat_fail, true_and, and_true])
      (subst hL; subst hQ; simp only [L2, L3, std] at *; try simp only [sySet, reduceCtorEq, forall_const, Int.reduceToNat, Int.reduceAdd, Int.reduceSub, Int.cast_ofNat_Int, Int.toNat_natCast, Nat.le_eq, Nat.sub_eq, ne_eq, Decidable.not_not, implies_true, true_and, and_true, wadd, wsub, wmul, decide_eq_true_eq, decide_eq_false_iff_not, Nat.succ_eq_add_one, imp_false, not_false_eq_true, not_true_eq_false, false_imp_iff, true_imp_iff] at *)
      have : lenI l = l.length := rfl
      have := hz.2.2.1
      have e1 : numV (nthI l i) = nthV (numVs l) i := by
        rw [nthV, numVs, List.getD_eq_getElem?_getD, List.getElem?_map, nthI, List.getD_eq_getElem?_getD, List.getElem?_eq_getElem (by omega)]; rfl
      rw [e1]
      exact ⟨fun q j hq hj => cv_push (nthV (numVs l)) hq hj, by omega, by omega, by omega⟩
    · (subst hL; subst hQ; simp only [L2, L3, std] at *; try simp only [sySet, reduceCtorEq, forall_const, Int.reduceToNat, Int.reduceAdd, Int.reduceSub, Int.cast_ofNat_Int, Int.toNat_natCast, Nat.le_eq, Nat.sub_eq, ne_eq, Decidable.not_not, implies_true, true_and, and_true, wadd, wsub, wmul, decide_eq_true_eq, decide_eq_false_iff_not, Nat.succ_eq_add_one, imp_false, not_false_eq_true, not_true_eq_false, false_imp_iff, true_imp_iff] at *)
      have : lenI l = l.length := rfl
      have := hz.2.2.1
      subst h2
      obtain ⟨e1, e2⟩ := push_cells (l := numVs l) (v := txtV b) (i := i) (by rw [numVs_len]; omega)
      refine ⟨by omega, msg_end hz _ _ ?_ e2⟩
      rw [e1, itemsV, if_pos rfl]
    · (subst hL; subst hQ; simp only [L2, L3, std] at *; try simp only [sySet, reduceCtorEq, forall_const, Int.reduceToNat, Int.reduceAdd, Int.reduceSub, Int.cast_ofNat_Int, Int.toNat_natCast, Nat.le_eq, Nat.sub_eq, ne_eq, Decidable.not_not, implies_true, true_and, and_true, wadd, wsub, wmul, decide_eq_true_eq, decide_eq_false_iff_not, Nat.succ_eq_add_one, imp_false, not_false_eq_true, not_true_eq_false, false_imp_iff, true_imp_iff] at *)
      have : lenI l = l.length := rfl
      obtain ⟨e1, e2⟩ := rd_cells (n := i) (get := fun q j => cv1 std (nthV (numVs l) q) j) (l := numVs l) (by rw [numVs_len]; omega) (fun q j hq hj => cv1_std _ j hj)
      refine msg_end hz _ _ ?_ e2
      rw [e1, itemsV, if_neg h2]
end Sy
end Go.Proofs.Ythlggigjnpldcaa
