/- Chapter 7 (codec), its law: values made of nodes. -/
import Derived.Test.YthlggigjnpldcaaAcM
namespace Go.Proofs.Ythlggigjnpldcaa
namespace Sy
open Go Go.RowKit
set_option maxRecDepth 100000
set_option linter.unusedSimpArgs false
set_option linter.unusedVariables false

structure Nd where
  k : Int
  n : Int
  s : List UInt8
  b : List UInt8
def ndAt (L : Seal) (x : Nd) : Nat → AV
  | 0 => .int .i64 (L Nd.k x)
  | 1 => .int .u64 (L Nd.n x)
  | 2 => .str (L Nd.s x)
  | _ => .lst 1 (L lenN (L Nd.b x)) (fun q _ => .int .u8 (L2 L byteAt (L Nd.b x) q))
def nthD (l : List Nd) (i : Nat) : Nd := l.getD i ⟨0, 0, [], []⟩
def lenD (l : List Nd) : Nat := l.length
/-- What is looked back at: of nodes ahead, by their places from the last one on back. -/
def backs {α : Type} (all : List α) : List UInt8 → List α
  | [] => []
  | x :: b => if h : x.toNat < all.length then all[all.length - 1 - x.toNat] :: backs all b else backs all b
def sumI : List Int → Int
  | [] => 0
  | x :: l => x + sumI l
def valN (all : List CV) (d : Nd) : CV := .mk d.k d.n d.s (backs all d.b)
def sizN (all : List Int) (d : Nd) : Int := 1 + ((d.s.length / 8 : Nat) : Int) + sumI (backs all d.b)
def valsN (l : List Nd) : Nat → List CV
  | 0 => []
  | i + 1 => valsN l i ++ [valN (valsN l i) (nthD l i)]
def sizsN (l : List Nd) : Nat → List Int
  | 0 => []
  | i + 1 => sizsN l i ++ [sizN (sizsN l i) (nthD l i)]
theorem valsN_len (l : List Nd) : ∀ i, (valsN l i).length = i
  | 0 => rfl
  | i + 1 => by rw [valsN, List.length_append, valsN_len l i]; rfl
theorem sizsN_len (l : List Nd) : ∀ i, (sizsN l i).length = i
  | 0 => rfl
  | i + 1 => by rw [sizsN, List.length_append, sizsN_len l i]; rfl
def valD (l : List Nd) (i : Nat) : CV := valN (valsN l i) (nthD l i)
def sizD (l : List Nd) (i : Nat) : Int := sizN (sizsN l i) (nthD l i)
theorem valsN_at (l : List Nd) : ∀ i q, q < i → nthV (valsN l i) q = valD l q
  | 0, q, h => by omega
  | i + 1, q, h => by
    rw [valsN, nthV, List.getD_eq_getElem?_getD]
    by_cases e : q < i
    · rw [List.getElem?_append_left (by rw [valsN_len]; exact e)]
      have := valsN_at l i q e
      rw [nthV, List.getD_eq_getElem?_getD] at this
      exact this
    · have : q = i := by omega
      subst this
      rw [List.getElem?_append_right (by rw [valsN_len]; omega), valsN_len]
      simp [valD]
theorem sizsN_at (l : List Nd) : ∀ i q, q < i → nthI (sizsN l i) q = sizD l q
  | 0, q, h => by omega
  | i + 1, q, h => by
    rw [sizsN, nthI, List.getD_eq_getElem?_getD]
    by_cases e : q < i
    · rw [List.getElem?_append_left (by rw [sizsN_len]; exact e)]
      have := sizsN_at l i q e
      rw [nthI, List.getD_eq_getElem?_getD] at this
      exact this
    · have : q = i := by omega
      subst this
      rw [List.getElem?_append_right (by rw [sizsN_len]; omega), sizsN_len]
      simp [sizD]
theorem backs_app {α : Type} (all : List α) : ∀ a b : List UInt8, backs all (a ++ b) = backs all a ++ backs all b
  | [], b => rfl
  | x :: a, b => by
    rw [List.cons_append, backs, backs]
    split <;> rw [backs_app all a b] <;> rfl
theorem sumI_app : ∀ a b : List Int, sumI (a ++ b) = sumI a + sumI b
  | [], b => by simp [sumI]
  | x :: a, b => by rw [List.cons_append, sumI, sumI_app a b, sumI]; omega
/-- What is in the list behind q looks. -/
def pushQ (l : List Nd) (i q : Nat) : List CV := backs (valsN l i) ((nthD l i).b.take q)
def cntQ (l : List Nd) (i q : Nat) : Nat := (pushQ l i q).length
def szQ (l : List Nd) (i q : Nat) : Int := 1 + (((nthD l i).s.length / 8 : Nat) : Int) + sumI (backs (sizsN l i) ((nthD l i).b.take q))
def fineD (l : List Nd) (i : Nat) : Prop := sizD l i ≤ 2000 ∧ (nthD l i).s.length ≤ 9000 ∧ (nthD l i).b.length ≤ 20 ∧ l.length ≤ 40
def fineTo (l : List Nd) (i : Nat) : Prop := ∀ j, j < i → fineD l j
def atQ (l : List Nd) (i q : Nat) : Int := (i : Int) - 1 - byteAt (nthD l i).b q
theorem push_yes {l : List Nd} {i q : Nat} (hq : q < (nthD l i).b.length) (h : 0 ≤ atQ l i q) : pushQ l i (q + 1) = pushQ l i q ++ [valD l (atQ l i q).toNat] ∧ szQ l i (q + 1) = szQ l i q + sizD l (atQ l i q).toNat ∧ (atQ l i q).toNat < i := by
  have hb : byteAt (nthD l i).b q = ((nthD l i).b[q]).toNat := by simp [byteAt, hq]
  unfold atQ at h ⊢
  rw [hb] at h ⊢
  have hlt : ((nthD l i).b[q]).toNat < i := by omega
  have e : ((i : Int) - 1 - (((nthD l i).b[q]).toNat : Int)).toNat = i - 1 - ((nthD l i).b[q]).toNat := by omega
  rw [e]
  refine ⟨?_, ?_, by omega⟩
  · unfold pushQ
    rw [List.take_succ_eq_append_getElem hq, backs_app]
    congr 1
    rw [backs, dif_pos (by rw [valsN_len]; exact hlt), backs]
    congr 1
    have := valsN_at l i (i - 1 - ((nthD l i).b[q]).toNat) (by omega)
    rw [nthV, List.getD_eq_getElem?_getD, List.getElem?_eq_getElem (by rw [valsN_len]; omega)] at this
    rw [← this]
    simp only [valsN_len, Option.getD_some]
  · unfold szQ
    rw [List.take_succ_eq_append_getElem hq, backs_app, sumI_app]
    rw [show backs (sizsN l i) [(nthD l i).b[q]] = [sizD l (i - 1 - ((nthD l i).b[q]).toNat)] from ?_]
    · simp only [sumI]; omega
    · rw [backs, dif_pos (by rw [sizsN_len]; exact hlt), backs]
      congr 1
      have := sizsN_at l i (i - 1 - ((nthD l i).b[q]).toNat) (by omega)
      rw [nthI, List.getD_eq_getElem?_getD, List.getElem?_eq_getElem (by rw [sizsN_len]; omega)] at this
      rw [← this]
      simp only [sizsN_len, Option.getD_some]
theorem push_no {l : List Nd} {i q : Nat} (hq : q < (nthD l i).b.length) (h : atQ l i q < 0) : pushQ l i (q + 1) = pushQ l i q ∧ szQ l i (q + 1) = szQ l i q := by
  have hb : byteAt (nthD l i).b q = ((nthD l i).b[q]).toNat := by simp [byteAt, hq]
  unfold atQ at h
  rw [hb] at h
  have hge : ¬ ((nthD l i).b[q]).toNat < i := by omega
  refine ⟨?_, ?_⟩
  · unfold pushQ
    rw [List.take_succ_eq_append_getElem hq, backs_app, backs, dif_neg (by rw [valsN_len]; exact hge), backs, List.append_nil]
  · unfold szQ
    rw [List.take_succ_eq_append_getElem hq, backs_app, backs, dif_neg (by rw [sizsN_len]; exact hge), backs, List.append_nil]
theorem cntQ_le (l : List Nd) (i : Nat) : ∀ q, q ≤ (nthD l i).b.length → cntQ l i q ≤ q
  | 0, _ => by simp [cntQ, pushQ, backs]
  | q + 1, h => by
    have := cntQ_le l i q (by omega)
    unfold cntQ at *
    by_cases e : 0 ≤ atQ l i q
    · rw [(push_yes (by omega) e).1, List.length_append]; simp; omega
    · rw [(push_no (by omega) (by omega)).1]; omega
theorem sizD_pos : ∀ (l : List Nd) (i : Nat), 1 ≤ sizD l i := by
  intro l i
  induction i using Nat.strongRecOn with
  | _ i ih =>
    have : ∀ q, q ≤ (nthD l i).b.length → 1 ≤ szQ l i q := by
      intro q
      induction q with
      | zero => intro _; simp [szQ, backs, sumI]; omega
      | succ q ihq =>
        intro hq
        have h1 := ihq (by omega)
        by_cases e : 0 ≤ atQ l i q
        · have h2 := push_yes (by omega) e
          have := ih _ h2.2.2
          omega
        · rw [(push_no (by omega) (by omega)).2]; exact h1
    have := this _ (Nat.le_refl _)
    unfold szQ at this
    rw [List.take_length] at this
    exact this
theorem szQ_mono (l : List Nd) (i : Nat) : ∀ q, q ≤ (nthD l i).b.length → 1 ≤ szQ l i q ∧ (fineTo l i → szQ l i q ≤ 1 + (((nthD l i).s.length / 8 : Nat) : Int) + 2000 * (q : Int))
  | 0, _ => by simp [szQ, backs, sumI]; omega
  | q + 1, h => by
    have := szQ_mono l i q (by omega)
    by_cases e : 0 ≤ atQ l i q
    · have h2 := push_yes (by omega) e
      have h3 := sizD_pos l (atQ l i q).toNat
      refine ⟨by omega, fun hf => ?_⟩
      have h4 := (hf _ h2.2.2).1
      have := this.2 hf
      rw [h2.2.1]; omega
    · rw [(push_no (by omega) (by omega)).2]
      exact ⟨this.1, fun hf => by have := this.2 hf; omega⟩
instance (l : List Nd) (i : Nat) : Decidable (fineD l i) := by unfold fineD; exact inferInstance
instance (l : List Nd) (i : Nat) : Decidable (fineTo l i) := by unfold fineTo; exact Nat.decidableBallLT i fun j _ => fineD l j
def madeO (l : List Nd) : Bool := decide (0 < l.length) && decide (fineTo l l.length)
def madeV (l : List Nd) : CV := if madeO l = true then valD l (l.length - 1) else .mk 0 0 [] []
/-- What is read is of a size. -/
def smallD (l : List Nd) : Prop := l.length ≤ 1048576 ∧ ∀ i, (nthD l i).s.length ≤ 1048576 ∧ (nthD l i).b.length ≤ 1048576
def outA (L : Seal) (l : List Nd) : Option Ann := some ⟨Nat, fun i => [(15, .int .i64 (L natI i)), (4, .sl 900 4 0 i), (5, .sl 902 1 0 i)],
    fun i => [(900, .row 27 4 i (fun q j => cv1 L (L2 L valD l q) j)), (902, .row 3 1 i (fun q _ => .int .i64 (L2 L sizD l q)))], [0, 2, 13, 14], [2],
      fun i => L2 L (fun (l : List Nd) (i : Nat) => i ≤ l.length ∧ fineTo l i) l i, fun i => L2 L (fun (l : List Nd) (i : Nat) => l.length - i) l i⟩
def innA (L : Seal) (l : List Nd) (i : Nat) : Option Ann := some ⟨Nat, fun q => [(35, .int .i64 (L natI q)), (9, .int .i64 (L3 L szQ l i q)), (8, .ref 8 0)],
    fun q => [(8, .box 27 [.int .i64 (L Nd.k (L2 L nthD l i)), .int .u64 (L Nd.n (L2 L nthD l i)), .str (L Nd.s (L2 L nthD l i)), .sl 901 4 0 (L3 L cntQ l i q)]), (901, .row 27 4 (L3 L cntQ l i q) (fun p j => L2 L cvGet (L3 L pushQ l i q) p j))],
      [0, 2, 4, 5, 6, 7, 13, 14, 15, 33, 34], [2, 7, 900, 902],
      fun q => L3 L (fun (l : List Nd) (i q : Nat) => q ≤ (nthD l i).b.length) l i q, fun q => L3 L (fun (l : List Nd) (i q : Nat) => (nthD l i).b.length - q) l i q⟩
def madeA (L : Seal) (l : List Nd) : Nat → St → Option Ann := fun id s => match id with
  | 0 => outA L l
  | 2 => match aget s.slots 4 with
    | some (.sl _ _ _ i) => innA L l i
    | _ => none
  | _ => none
theorem fineTo_no {l : List Nd} {i : Nat} (hi : i < l.length) (h : ¬ fineD l i) : madeO l = false := by
  unfold madeO
  have : ¬ fineTo l l.length := fun hf => h (hf i hi)
  simp [this]
theorem made_no {l : List Nd} (h : madeO l = false) : fits1 (cvA std (madeV l)) (.agg [.int .i64 0, .int .u64 0, .str [], .nils]) ∧ false = madeO l := by
  have e : madeV l = .mk 0 0 [] [] := by unfold madeV; rw [h]; rfl
  rw [e]
  refine ⟨?_, h.symm⟩
  show fits1 (.agg [.int .i64 0, .int .u64 0, .str [], .lst 4 0 (cvIn (.mk 0 0 [] []))]) _
  simp [fits1_aggi, fits1_aggs, fits1_aggn, fits1_agg0]
theorem made_yes {l : List Nd} (h0 : 0 < l.length) (h : fineTo l l.length) {v : CV} (hv : v = valD l (l.length - 1)) : fits1 (cvA std (madeV l)) (.agg [.int .i64 v.kd, .int .u64 v.nn, .str v.tx, .lst 4 (lenV v) (cvIn v)]) ∧ true = madeO l := by
  have e0 : madeO l = true := by unfold madeO; simp [h0, h]
  have e : madeV l = v := by unfold madeV; rw [e0, hv]; rfl
  rw [e]
  refine ⟨?_, e0.symm⟩
  show fits1 (.agg [.int .i64 v.kd, .int .u64 v.nn, .str v.tx, .lst 4 (lenV v) (cvIn v)]) _
  simp [fits1_aggi, fits1_aggs, fits1_aggl, fits1_agg0]
theorem wquo8 (n : Nat) (h : n ≤ 1048576) : wquo .i64 (n : Int) 8 = ((n / 8 : Nat) : Int) := by
  rw [wquo64, w_i64, Int.tdiv_eq_ediv_of_nonneg (by omega)]; omega
theorem atQ_is {l : List Nd} {i : Nat} (q : Nat) (hi : i ≤ 1048576) : ((i : Int) - 1 + 9223372036854775808) % 18446744073709551616 - 9223372036854775808 - ((byteAt (nthD l i).b q + 9223372036854775808) % 18446744073709551616 - 9223372036854775808) = atQ l i q ∧ -256 ≤ atQ l i q ∧ atQ l i q < i := by
  have h1 : 0 ≤ byteAt (nthD l i).b q := by simp [byteAt]
  have h2 : byteAt (nthD l i).b q < 256 := by
    have := UInt8.toNat_lt ((nthD l i).b.getD q 0)
    show ((((nthD l i).b.getD q 0).toNat : Nat) : Int) < 256
    omega
  unfold atQ
  exact ⟨by omega, by omega, by omega⟩
theorem atQ_w {l : List Nd} {i : Nat} (q : Nat) (hi : i ≤ 1048576) : ((i : Int) - 1 + 9223372036854775808) % 18446744073709551616 - 9223372036854775808 - ((byteAt (nthD l i).b q + 9223372036854775808) % 18446744073709551616 - 9223372036854775808) = atQ l i q ∧ (((i : Int) - 1 + 9223372036854775808) % 18446744073709551616 - 9223372036854775808 - ((byteAt (nthD l i).b q + 9223372036854775808) % 18446744073709551616 - 9223372036854775808) + 9223372036854775808) % 18446744073709551616 - 9223372036854775808 = atQ l i q := by
  have h := atQ_is (l := l) q hi
  exact ⟨h.1, by rw [h.1]; omega⟩
theorem cv_push2 (a : List CV) (v : CV) {p j : Nat} (hp : p < a.length + 1) (hj : j < 4) :
    sel1 std (nblt p a.length) (cv1 std (nthV a p) j) (lget .dead [.int .i64 v.kd, .int .u64 v.nn, .str v.tx, .lst 4 (lenV v) (cvIn v)] ((p - a.length) * 4 + j)) = cv1 std (nthV (a ++ [v]) p) j := by
  by_cases h : p < a.length
  · have e : nthV (a ++ [v]) p = nthV a p := by
      rw [nthV, nthV, List.getD_eq_getElem?_getD, List.getD_eq_getElem?_getD, List.getElem?_append_left h]
    rw [blt_t h, e, show p - a.length = 0 by omega, Nat.zero_mul, Nat.zero_add]
    match j, hj with
    | 0, _ => rfl
    | 1, _ => rfl
    | 2, _ => rfl
    | 3, _ => rfl
  · have e : nthV (a ++ [v]) p = v := by
      have : p = a.length := by omega
      subst this
      rw [nthV, List.getD_eq_getElem?_getD, List.getElem?_append_right (Nat.le_refl _)]
      simp
    rw [blt_f h, e, show p - a.length = 0 by omega, Nat.zero_mul, Nat.zero_add]
    match j, hj with
    | 0, _ => rfl
    | 1, _ => rfl
    | 2, _ => rfl
    | 3, _ => rfl
theorem cvGet_far : ∀ (a : List CV) (p j : Nat), a.length ≤ p → cvGet a p j = dflC j
  | [], p, j, _ => by rw [cvGet]
  | v :: a, 0, j, h => by simp at h
  | v :: a, p + 1, j, h => by rw [cvGet]; exact cvGet_far a p j (by simpa using h)
theorem cv_push3 (a : List CV) (v : CV) {p j : Nat} (hp : p < a.length + 1) (hj : j < 4) :
    sel1 std (nblt p a.length) (cvGet a p j) (lget .dead [.int .i64 v.kd, .int .u64 v.nn, .str v.tx, .lst 4 (lenV v) (cvIn v)] ((p - a.length) * 4 + j)) = cvGet (a ++ [v]) p j := by
  rw [cvGet_nth (a ++ [v]) p j (by simpa using hp), ← cv1_std _ j hj, ← cv_push2 a v hp hj]
  by_cases h : p < a.length
  · rw [cvGet_nth a p j h, ← cv1_std _ j hj]
  · rw [blt_f h, cvGet_far a p j (by omega)]
    have : p - a.length = 0 := by omega
    rw [this, Nat.zero_mul, Nat.zero_add]
    match j, hj with
    | 0, _ => rfl
    | 1, _ => rfl
    | 2, _ => rfl
    | 3, _ => rfl
theorem szQ_all {l : List Nd} {i q : Nat} (hq : q ≤ (nthD l i).b.length) (hge : ((nthD l i).b.length : Int) ≤ (q : Int)) : szQ l i q = sizD l i ∧ pushQ l i q = (valD l i).ls := by
  have : q = (nthD l i).b.length := by omega
  subst this
  unfold szQ pushQ
  rw [List.take_length]
  exact ⟨rfl, rfl⟩
theorem made_ac (l : List Nd) (hs : smallD l) : ACalls Try.prog 11 [.lst 4 l.length (fun i j => ndAt std (nthD l i) j)] (.tup [cvA std (madeV l), .bool (madeO l)]) := by
  refine acalls_L' (T := tt) (S := noS) (lo := fun L => madeA L l) (lb := noA) 5 (fn := Try.f11) (xs := fun L => [.lst 4 (L lenD l) (fun i j => ndAt L (L2 L nthD l i) j)]) rfl rfl (by kernel_rfl) (by kernel_rfl) rfl tt_ok (noS_ok _) (by kernel_rfl) ?_
  intro L P' Q' hL hP hQ
  (cbv; try simp only [sat_need, sat_must, sat_ite, sat_done, sat_yes, sat_ex, sat_all, sat_sup, sat_and, sat_fail, true_and, and_true])
  refine ⟨⟨0, ?_⟩, fun i hi => ?_⟩
  · (cbv; try simp only [sat_need, sat_must, sat_ite, sat_done, sat_yes, sat_ex, sat_all, sat_sup, sat_and, sat_fail, true_and, and_true])
    (subst hL; subst hQ; simp only [L2, L3, std] at *; try simp only [sySet, reduceCtorEq, forall_const, Int.reduceToNat, Int.reduceAdd, Int.reduceSub, Int.cast_ofNat_Int, Int.toNat_natCast, Nat.le_eq, Nat.sub_eq, ne_eq, Decidable.not_not, implies_true, true_and, and_true, wadd, wsub, wmul, decide_eq_true_eq, decide_eq_false_iff_not, Nat.succ_eq_add_one, imp_false, not_false_eq_true, not_true_eq_false, false_imp_iff, true_imp_iff] at *)
    exact ⟨Nat.zero_le _, fun j hj => by omega⟩
  · cbv at hi
    (cbv; try simp only [sat_need, sat_must, sat_ite, sat_done, sat_yes, sat_ex, sat_all, sat_sup, sat_and, sat_fail, true_and, and_true])
    refine ⟨fun hlt => ⟨?_, ?_, ⟨0, ?_⟩, fun q hq => ?_⟩, fun hge => ?_⟩
    · (subst hL; subst hQ; simp only [L2, L3, std] at *; try simp only [sySet, reduceCtorEq, forall_const, Int.reduceToNat, Int.reduceAdd, Int.reduceSub, Int.cast_ofNat_Int, Int.toNat_natCast, Nat.le_eq, Nat.sub_eq, ne_eq, Decidable.not_not, implies_true, true_and, and_true, wadd, wsub, wmul, decide_eq_true_eq, decide_eq_false_iff_not, Nat.succ_eq_add_one, imp_false, not_false_eq_true, not_true_eq_false, false_imp_iff, true_imp_iff] at *)
      omega
    · (subst hL; subst hQ; simp only [L2, L3, std] at *; try simp only [sySet, reduceCtorEq, forall_const, Int.reduceToNat, Int.reduceAdd, Int.reduceSub, Int.cast_ofNat_Int, Int.toNat_natCast, Nat.le_eq, Nat.sub_eq, ne_eq, Decidable.not_not, implies_true, true_and, and_true, wadd, wsub, wmul, decide_eq_true_eq, decide_eq_false_iff_not, Nat.succ_eq_add_one, imp_false, not_false_eq_true, not_true_eq_false, false_imp_iff, true_imp_iff] at *)
      decide
    · (cbv; try simp only [sat_need, sat_must, sat_ite, sat_done, sat_yes, sat_ex, sat_all, sat_sup, sat_and, sat_fail, true_and, and_true])
      (subst hL; subst hQ; simp only [L2, L3, std] at *; try simp only [sySet, reduceCtorEq, forall_const, Int.reduceToNat, Int.reduceAdd, Int.reduceSub, Int.cast_ofNat_Int, Int.toNat_natCast, Nat.le_eq, Nat.sub_eq, ne_eq, Decidable.not_not, implies_true, true_and, and_true, wadd, wsub, wmul, decide_eq_true_eq, decide_eq_false_iff_not, Nat.succ_eq_add_one, imp_false, not_false_eq_true, not_true_eq_false, false_imp_iff, true_imp_iff] at *)
      rw [wquo8 _ (hs.2 i).1]
      have h1 := (hs.2 i).1
      refine ⟨rfl, rfl, ?_, Nat.zero_le _⟩
      simp only [szQ, List.take_zero, backs, sumI]
      omega
    · cbv at hq
      (cbv; try simp only [sat_need, sat_must, sat_ite, sat_done, sat_yes, sat_ex, sat_all, sat_sup, sat_and, sat_fail, true_and, and_true])
      refine ⟨fun hlq => ⟨?_, fun hat => ⟨?_, ?_, ?_, ⟨q + 1, ?_⟩⟩, fun hat => ⟨q + 1, ?_⟩⟩, fun hgq => ⟨fun h1 => ?_, fun h1 => ⟨fun h2 => ?_, fun h2 => ⟨fun h3 => ?_, fun h3 => ⟨fun h4 => ?_, fun h4 => ?_⟩⟩⟩⟩⟩
      · (subst hL; subst hQ; simp only [L2, L3, std] at *; try simp only [sySet, reduceCtorEq, forall_const, Int.reduceToNat, Int.reduceAdd, Int.reduceSub, Int.cast_ofNat_Int, Int.toNat_natCast, Nat.le_eq, Nat.sub_eq, ne_eq, Decidable.not_not, implies_true, true_and, and_true, wadd, wsub, wmul, decide_eq_true_eq, decide_eq_false_iff_not, Nat.succ_eq_add_one, imp_false, not_false_eq_true, not_true_eq_false, false_imp_iff, true_imp_iff] at *)
        omega
      · (subst hL; subst hQ; simp only [L2, L3, std] at *; try simp only [sySet, reduceCtorEq, forall_const, Int.reduceToNat, Int.reduceAdd, Int.reduceSub, Int.cast_ofNat_Int, Int.toNat_natCast, Nat.le_eq, Nat.sub_eq, ne_eq, Decidable.not_not, implies_true, true_and, and_true, wadd, wsub, wmul, decide_eq_true_eq, decide_eq_false_iff_not, Nat.succ_eq_add_one, imp_false, not_false_eq_true, not_true_eq_false, false_imp_iff, true_imp_iff] at *)
        rw [(atQ_w q (by have := hs.1; omega)).2] at hat ⊢
        have hx := atQ_is (l := l) (i := i) q (by have := hs.1; omega)
        exact ⟨hat, hx.2.2⟩
      · (subst hL; subst hQ; simp only [L2, L3, std] at *; try simp only [sySet, reduceCtorEq, forall_const, Int.reduceToNat, Int.reduceAdd, Int.reduceSub, Int.cast_ofNat_Int, Int.toNat_natCast, Nat.le_eq, Nat.sub_eq, ne_eq, Decidable.not_not, implies_true, true_and, and_true, wadd, wsub, wmul, decide_eq_true_eq, decide_eq_false_iff_not, Nat.succ_eq_add_one, imp_false, not_false_eq_true, not_true_eq_false, false_imp_iff, true_imp_iff] at *)
        have := cntQ_le l i q hq
        have := (hs.2 i).2
        omega
      · (subst hL; subst hQ; simp only [L2, L3, std] at *; try simp only [sySet, reduceCtorEq, forall_const, Int.reduceToNat, Int.reduceAdd, Int.reduceSub, Int.cast_ofNat_Int, Int.toNat_natCast, Nat.le_eq, Nat.sub_eq, ne_eq, Decidable.not_not, implies_true, true_and, and_true, wadd, wsub, wmul, decide_eq_true_eq, decide_eq_false_iff_not, Nat.succ_eq_add_one, imp_false, not_false_eq_true, not_true_eq_false, false_imp_iff, true_imp_iff] at *)
        rw [(atQ_w q (by have := hs.1; omega)).2] at hat ⊢
        have hx := atQ_is (l := l) (i := i) q (by have := hs.1; omega)
        exact ⟨hat, hx.2.2⟩
      · (cbv; try simp only [sat_need, sat_must, sat_ite, sat_done, sat_yes, sat_ex, sat_all, sat_sup, sat_and, sat_fail, true_and, and_true])
        (subst hL; subst hQ; simp only [L2, L3, std] at *; try simp only [sySet, reduceCtorEq, forall_const, Int.reduceToNat, Int.reduceAdd, Int.reduceSub, Int.cast_ofNat_Int, Int.toNat_natCast, Nat.le_eq, Nat.sub_eq, ne_eq, Decidable.not_not, implies_true, true_and, and_true, wadd, wsub, wmul, decide_eq_true_eq, decide_eq_false_iff_not, Nat.succ_eq_add_one, imp_false, not_false_eq_true, not_true_eq_false, false_imp_iff, true_imp_iff] at *)
        rw [(atQ_w q (by have := hs.1; omega)).2] at hat
        simp only [(atQ_w q (show i ≤ 1048576 by have := hs.1; omega)).2]
        have hlq' : q < (nthD l i).b.length := by omega
        obtain ⟨y1, y2, y3⟩ := push_yes hlq' hat
        have hc : cntQ l i (q + 1) = cntQ l i q + 1 := by unfold cntQ; rw [y1, List.length_append]; rfl
        have hm := (szQ_mono l i (q + 1) (by omega)).2 hi.2
        have hm0 := (szQ_mono l i (q + 1) (by omega)).1
        have hb1 := (hs.2 i).1
        have hb2 := (hs.2 i).2
        refine ⟨⟨hc.symm, fun p j hp hj => ?_⟩, hc.symm, by rw [← y2]; omega, by omega, by omega, by omega⟩
        rw [y1]
        exact cv_push3 (pushQ l i q) _ (by rw [hc] at hp; exact hp) hj
      · (cbv; try simp only [sat_need, sat_must, sat_ite, sat_done, sat_yes, sat_ex, sat_all, sat_sup, sat_and, sat_fail, true_and, and_true])
        (subst hL; subst hQ; simp only [L2, L3, std] at *; try simp only [sySet, reduceCtorEq, forall_const, Int.reduceToNat, Int.reduceAdd, Int.reduceSub, Int.cast_ofNat_Int, Int.toNat_natCast, Nat.le_eq, Nat.sub_eq, ne_eq, Decidable.not_not, implies_true, true_and, and_true, wadd, wsub, wmul, decide_eq_true_eq, decide_eq_false_iff_not, Nat.succ_eq_add_one, imp_false, not_false_eq_true, not_true_eq_false, false_imp_iff, true_imp_iff] at *)
        rw [(atQ_w q (by have := hs.1; omega)).2] at hat
        have hlq' : q < (nthD l i).b.length := by omega
        obtain ⟨y1, y2⟩ := push_no hlq' hat
        have hc : cntQ l i (q + 1) = cntQ l i q := by unfold cntQ; rw [y1]
        have hb2 := (hs.2 i).2
        exact ⟨⟨hc.symm, fun p j hp hj => by rw [y1]⟩, hc.symm, y2.symm, by omega, by omega, by omega⟩
      · (subst hL; subst hQ; simp only [L2, L3, std] at *; try simp only [sySet, reduceCtorEq, forall_const, Int.reduceToNat, Int.reduceAdd, Int.reduceSub, Int.cast_ofNat_Int, Int.toNat_natCast, Nat.le_eq, Nat.sub_eq, ne_eq, Decidable.not_not, implies_true, true_and, and_true, wadd, wsub, wmul, decide_eq_true_eq, decide_eq_false_iff_not, Nat.succ_eq_add_one, imp_false, not_false_eq_true, not_true_eq_false, false_imp_iff, true_imp_iff] at *)
        rw [(szQ_all hq hgq).1] at h1
        exact made_no (fineTo_no (i := i) (by have : lenD l = l.length := rfl; omega) (fun h => by have := h.1; omega))
      · (subst hL; subst hQ; simp only [L2, L3, std] at *; try simp only [sySet, reduceCtorEq, forall_const, Int.reduceToNat, Int.reduceAdd, Int.reduceSub, Int.cast_ofNat_Int, Int.toNat_natCast, Nat.le_eq, Nat.sub_eq, ne_eq, Decidable.not_not, implies_true, true_and, and_true, wadd, wsub, wmul, decide_eq_true_eq, decide_eq_false_iff_not, Nat.succ_eq_add_one, imp_false, not_false_eq_true, not_true_eq_false, false_imp_iff, true_imp_iff] at *)
        exact made_no (fineTo_no (i := i) (by have : lenD l = l.length := rfl; omega) (fun h => by have := h.2.1; omega))
      · (subst hL; subst hQ; simp only [L2, L3, std] at *; try simp only [sySet, reduceCtorEq, forall_const, Int.reduceToNat, Int.reduceAdd, Int.reduceSub, Int.cast_ofNat_Int, Int.toNat_natCast, Nat.le_eq, Nat.sub_eq, ne_eq, Decidable.not_not, implies_true, true_and, and_true, wadd, wsub, wmul, decide_eq_true_eq, decide_eq_false_iff_not, Nat.succ_eq_add_one, imp_false, not_false_eq_true, not_true_eq_false, false_imp_iff, true_imp_iff] at *)
        exact made_no (fineTo_no (i := i) (by have : lenD l = l.length := rfl; omega) (fun h => by have := h.2.2.1; omega))
      · (subst hL; subst hQ; simp only [L2, L3, std] at *; try simp only [sySet, reduceCtorEq, forall_const, Int.reduceToNat, Int.reduceAdd, Int.reduceSub, Int.cast_ofNat_Int, Int.toNat_natCast, Nat.le_eq, Nat.sub_eq, ne_eq, Decidable.not_not, implies_true, true_and, and_true, wadd, wsub, wmul, decide_eq_true_eq, decide_eq_false_iff_not, Nat.succ_eq_add_one, imp_false, not_false_eq_true, not_true_eq_false, false_imp_iff, true_imp_iff] at *)
        exact made_no (fineTo_no (i := i) (by have : lenD l = l.length := rfl; omega) (fun h => by have := h.2.2.2; have : lenD l = l.length := rfl; omega))
      · (cbv; try simp only [sat_need, sat_must, sat_ite, sat_done, sat_yes, sat_ex, sat_all, sat_sup, sat_and, sat_fail, true_and, and_true])
        refine ⟨?_, ?_, i + 1, ?_⟩
        · (subst hL; subst hQ; simp only [L2, L3, std] at *; try simp only [sySet, reduceCtorEq, forall_const, Int.reduceToNat, Int.reduceAdd, Int.reduceSub, Int.cast_ofNat_Int, Int.toNat_natCast, Nat.le_eq, Nat.sub_eq, ne_eq, Decidable.not_not, implies_true, true_and, and_true, wadd, wsub, wmul, decide_eq_true_eq, decide_eq_false_iff_not, Nat.succ_eq_add_one, imp_false, not_false_eq_true, not_true_eq_false, false_imp_iff, true_imp_iff] at *)
          have := hs.1
          omega
        · (subst hL; subst hQ; simp only [L2, L3, std] at *; try simp only [sySet, reduceCtorEq, forall_const, Int.reduceToNat, Int.reduceAdd, Int.reduceSub, Int.cast_ofNat_Int, Int.toNat_natCast, Nat.le_eq, Nat.sub_eq, ne_eq, Decidable.not_not, implies_true, true_and, and_true, wadd, wsub, wmul, decide_eq_true_eq, decide_eq_false_iff_not, Nat.succ_eq_add_one, imp_false, not_false_eq_true, not_true_eq_false, false_imp_iff, true_imp_iff] at *)
          have := hs.1
          omega
        · (cbv; try simp only [sat_need, sat_must, sat_ite, sat_done, sat_yes, sat_ex, sat_all, sat_sup, sat_and, sat_fail, true_and, and_true])
          (subst hL; subst hQ; simp only [L2, L3, std] at *; try simp only [sySet, reduceCtorEq, forall_const, Int.reduceToNat, Int.reduceAdd, Int.reduceSub, Int.cast_ofNat_Int, Int.toNat_natCast, Nat.le_eq, Nat.sub_eq, ne_eq, Decidable.not_not, implies_true, true_and, and_true, wadd, wsub, wmul, decide_eq_true_eq, decide_eq_false_iff_not, Nat.succ_eq_add_one, imp_false, not_false_eq_true, not_true_eq_false, false_imp_iff, true_imp_iff] at *)
          have hL2 : lenD l = l.length := rfl
          have hs1 := hs.1
          obtain ⟨y1, y2⟩ := szQ_all hq hgq
          have hc : cntQ l i q = (valD l i).ls.length := by unfold cntQ; rw [y2]
          have hfine : fineTo l (i + 1) := by
            intro j hj
            rcases Nat.lt_or_ge j i with h | h
            · exact hi.2 j h
            · have : j = i := by omega
              subst this
              exact ⟨by rw [← y1]; exact h1, by omega, by omega, by omega⟩
          refine ⟨fun p j hp hj => ?_, fun p j hp hj => ?_, by omega, ⟨by omega, hfine⟩, by omega⟩
          · by_cases h : p < i
            · rw [blt_t h]; rfl
            · have : p = i := by omega
              subst this
              rw [blt_f h, Nat.sub_self]
              show AV.int .i64 (szQ l p q) = _
              rw [y1]
          · rw [y2, hc]
            by_cases h : p < i
            · rw [blt_t h, show p - i = 0 by omega, Nat.zero_mul, Nat.zero_add]
              match j, hj with
              | 0, _ => rfl
              | 1, _ => rfl
              | 2, _ => rfl
              | 3, _ => rfl
            · have : p = i := by omega
              subst this
              rw [blt_f h, Nat.sub_self, Nat.zero_mul, Nat.zero_add]
              match j, hj with
              | 0, _ => rfl
              | 1, _ => rfl
              | 2, _ => rfl
              | 3, _ => rfl
    · (cbv; try simp only [sat_need, sat_must, sat_ite, sat_done, sat_yes, sat_ex, sat_all, sat_sup, sat_and, sat_fail, true_and, and_true])
      refine ⟨fun h0 => ?_, fun h0 => ⟨?_, ?_⟩⟩
      · (subst hL; subst hQ; simp only [L2, L3, std] at *; try simp only [sySet, reduceCtorEq, forall_const, Int.reduceToNat, Int.reduceAdd, Int.reduceSub, Int.cast_ofNat_Int, Int.toNat_natCast, Nat.le_eq, Nat.sub_eq, ne_eq, Decidable.not_not, implies_true, true_and, and_true, wadd, wsub, wmul, decide_eq_true_eq, decide_eq_false_iff_not, Nat.succ_eq_add_one, imp_false, not_false_eq_true, not_true_eq_false, false_imp_iff, true_imp_iff] at *)
        exact made_no (by unfold madeO; have : ¬ 0 < l.length := by { have : lenD l = l.length := rfl; omega }; simp [this])
      · (subst hL; subst hQ; simp only [L2, L3, std] at *; try simp only [sySet, reduceCtorEq, forall_const, Int.reduceToNat, Int.reduceAdd, Int.reduceSub, Int.cast_ofNat_Int, Int.toNat_natCast, Nat.le_eq, Nat.sub_eq, ne_eq, Decidable.not_not, implies_true, true_and, and_true, wadd, wsub, wmul, decide_eq_true_eq, decide_eq_false_iff_not, Nat.succ_eq_add_one, imp_false, not_false_eq_true, not_true_eq_false, false_imp_iff, true_imp_iff] at *)
        have : lenD l = l.length := rfl
        have := hs.1
        omega
      · (subst hL; subst hQ; simp only [L2, L3, std] at *; try simp only [sySet, reduceCtorEq, forall_const, Int.reduceToNat, Int.reduceAdd, Int.reduceSub, Int.cast_ofNat_Int, Int.toNat_natCast, Nat.le_eq, Nat.sub_eq, ne_eq, Decidable.not_not, implies_true, true_and, and_true, wadd, wsub, wmul, decide_eq_true_eq, decide_eq_false_iff_not, Nat.succ_eq_add_one, imp_false, not_false_eq_true, not_true_eq_false, false_imp_iff, true_imp_iff] at *)
        have : lenD l = l.length := rfl
        have h1 := hs.1
        have hil : i = l.length := by omega
        subst hil
        refine made_yes (by omega) hi.2 ?_
        congr 1; omega
end Sy
end Go.Proofs.Ythlggigjnpldcaa
