/- Chapter 7 (codec), its law: Made told; what is made is of a size. -/
import Derived.Test.YthlggigjnpldcaaAcS
import Derived.Test.YthlggigjnpldcaaOpn
namespace Go.Proofs.Ythlggigjnpldcaa
namespace Sy
open Go Go.RowKit
set_option maxRecDepth 100000
set_option linter.unusedSimpArgs false
set_option linter.unusedVariables false

/-! ### Nodes as they are told -/
def rdB : AV → List UInt8
  | .lst _ n g => (List.range n).map fun q => UInt8.ofNat (g q 0).toI.toNat
  | _ => []
def rdS : AV → List UInt8
  | .str s => s
  | _ => []
def rdN : AV → List Nd
  | .lst _ n g => (List.range n).map fun i => ⟨(g i 0).toI, (g i 1).toI, rdS (g i 2), rdB (g i 3)⟩
  | _ => []
def okB : AV → Prop
  | .lst sz n g => sz = 1 ∧ ∀ q, q < n → ∃ x, g q 0 = .int .u8 x ∧ 0 ≤ x ∧ x < 256
  | _ => False
def okN : AV → Prop
  | .lst sz n g => sz = 4 ∧ ∀ i, i < n → (∃ x, g i 0 = .int .i64 x) ∧ (∃ x, g i 1 = .int .u64 x) ∧ (∃ x, g i 2 = .str x) ∧ okB (g i 3)
  | _ => False
theorem lst_R {h : Array Obj} {D : Nat → Prop} {μ : Mu} {sz n : Nat} {g g' : Nat → Nat → AV} {v : Value} (r : R h D μ (.lst sz n g) v) (e : ∀ i j u, i < n → j < sz → R h D noMu (g i j) u → R h D noMu (g' i j) u) : R h D μ (.lst sz n g') v := by
  cases r with
  | lst0 _ _ a cap hn => exact .lst0 _ _ _ _ hn
  | lst _ _ _ b o cap vs hD hc hv h1 hr => exact .lst _ _ _ b o cap vs hD hc hv h1 (fun i j hi hj => e i j _ hi hj (hr i j hi hj))
theorem byte_of {x : Int} (h0 : 0 ≤ x) (h1 : x < 256) : ((UInt8.ofNat x.toNat).toNat : Int) = x := by
  simp; omega
theorem okB_R {h : Array Obj} {D : Nat → Prop} {x : AV} {v : Value} (ho : okB x) (r : R h D noMu x v) : R h D noMu (.lst 1 (lenN (rdB x)) (fun q _ => .int .u8 (byteAt (rdB x) q))) v := by
  cases x with
  | lst sz n g =>
    obtain ⟨rfl, ho⟩ := ho
    have hl : (rdB (.lst 1 n g)).length = n := by simp [rdB]
    rw [show lenN (rdB (.lst 1 n g)) = n from hl]
    refine lst_R r fun i j u hi hj hr => ?_
    obtain rfl : j = 0 := by omega
    obtain ⟨x, e, h0, h1⟩ := ho i hi
    have : byteAt (rdB (.lst 1 n g)) i = x := by
      unfold byteAt
      rw [List.getD_eq_getElem?_getD, rdB, List.getElem?_map, List.getElem?_range hi]
      show (((UInt8.ofNat (g i 0).toI.toNat).toNat : Nat) : Int) = x
      rw [e]
      exact byte_of h0 h1
    rw [this, ← e]
    exact hr
  | _ => exact ho.elim
theorem rdN_at {sz n : Nat} {g : Nat → Nat → AV} {i : Nat} (h : i < n) : nthD (rdN (.lst sz n g)) i = ⟨(g i 0).toI, (g i 1).toI, rdS (g i 2), rdB (g i 3)⟩ := by
  rw [nthD, List.getD_eq_getElem?_getD, rdN, List.getElem?_map, List.getElem?_range h]; rfl
theorem okN_R {h : Array Obj} {D : Nat → Prop} {x : AV} {v : Value} (ho : okN x) (r : R h D noMu x v) : R h D noMu (.lst 4 (rdN x).length (fun i j => ndAt std (nthD (rdN x) i) j)) v := by
  cases x with
  | lst sz n g =>
    obtain ⟨rfl, ho⟩ := ho
    have hl : (rdN (.lst 4 n g)).length = n := by simp [rdN]
    rw [hl]
    refine lst_R r fun i j u hi hj hr => ?_
    obtain ⟨⟨x0, e0⟩, ⟨x1, e1⟩, ⟨x2, e2⟩, o3⟩ := ho i hi
    rw [rdN_at hi]
    match j, hj with
    | 0, _ => rw [e0] at hr ⊢; exact hr
    | 1, _ => rw [e1] at hr ⊢; exact hr
    | 2, _ => rw [e2] at hr ⊢; exact hr
    | 3, _ => exact okB_R o3 hr
  | _ => exact ho.elim
def made_s (L : Seal) : Ent1 := (11, fun xs => match xs with | [x] => some (L okN x ∧ L smallD (L rdN x), .tup [cvA L (L madeV (L rdN x)), .bool (L madeO (L rdN x))]) | _ => none)
theorem made_good : Good Try.prog (made_s std) := by
  intro xs p r h hp
  dsimp only [made_s] at h ⊢
  split at h <;> cases h
  try simp only [L2, L3, std] at hp ⊢
  rename_i x
  exact ac_args' (fun h D vs hr => rl_1 (fun v => okN_R hp.1) hr) (made_ac (rdN x) hp.2)
/-- A node as the law's argument has it. -/
theorem byteAt_lt (b : List UInt8) (q : Nat) : 0 ≤ byteAt b q ∧ byteAt b q < 256 := by
  have := UInt8.toNat_lt (b.getD q 0)
  unfold byteAt
  omega
theorem rdB_of (b : List UInt8) : rdB (.lst 1 (lenN b) (fun q _ => .int .u8 (byteAt b q))) = b := by
  apply List.ext_getElem?
  intro i
  rw [rdB, List.getElem?_map]
  by_cases h : i < b.length
  · rw [List.getElem?_range (show i < lenN b from h), List.getElem?_eq_getElem h]
    show some (UInt8.ofNat (byteAt b i).toNat) = _
    unfold byteAt
    rw [List.getD_eq_getElem?_getD, List.getElem?_eq_getElem h]
    simp
  · rw [List.getElem?_eq_none (by simp [lenN]; omega), List.getElem?_eq_none (by omega)]
    rfl
theorem rdN_of (l : List Nd) : rdN (.lst 4 (lenD l) (fun i j => ndAt std (nthD l i) j)) = l ∧ okN (.lst 4 (lenD l) (fun i j => ndAt std (nthD l i) j)) := by
  refine ⟨?_, rfl, fun i hi => ⟨⟨_, rfl⟩, ⟨_, rfl⟩, ⟨_, rfl⟩, rfl, fun q hq => ⟨_, rfl, byteAt_lt _ _⟩⟩⟩
  apply List.ext_getElem?
  intro i
  rw [rdN, List.getElem?_map]
  by_cases h : i < l.length
  · rw [List.getElem?_range (show i < lenD l from h), List.getElem?_eq_getElem h]
    show some (Nd.mk (nthD l i).k (nthD l i).n (nthD l i).s (rdB (.lst 1 (lenN (nthD l i).b) (fun q _ => .int .u8 (byteAt (nthD l i).b q))))) = _
    rw [rdB_of, nthD, List.getD_eq_getElem?_getD, List.getElem?_eq_getElem h]
    rfl
  · rw [List.getElem?_eq_none (by simp [lenD]; omega), List.getElem?_eq_none (by omega)]
    rfl

/-! ### Sizes -/
def NdOk (d : Nd) : Prop := 0 ≤ d.n ∧ d.n < 18446744073709551616 ∧ d.s.length ≤ 9223372036854775807
def siz2 (v : CV) (n : Int) : Prop := (sizeC v : Int) ≤ n ∧ ((textV v).length : Int) ≤ 18 * n ∧ wfV v
def siz3 (l : List CV) (n : Int) : Prop := (sizeCs l : Int) ≤ n ∧ ((textLs l).length : Int) ≤ 18 * n ∧ wfLs l
theorem backs_siz (l : List Nd) (i : Nat) (ih : ∀ j, j < i → siz2 (valD l j) (sizD l j)) : ∀ b : List UInt8, siz3 (backs (valsN l i) b) (sumI (backs (sizsN l i) b))
  | [] => ⟨by rw [backs, backs, sizeCs_nil]; simp [sumI], by rw [backs, backs, textLs]; simp [sumI], by rw [backs, wfLs]; trivial⟩
  | x :: b => by
    have h := backs_siz l i ih b
    rw [backs, backs]
    by_cases hx : x.toNat < i
    · rw [dif_pos (by rw [valsN_len]; exact hx), dif_pos (by rw [sizsN_len]; exact hx)]
      have e1 := valsN_at l i (i - 1 - x.toNat) (by omega)
      have e2 := sizsN_at l i (i - 1 - x.toNat) (by omega)
      rw [nthV, List.getD_eq_getElem?_getD, List.getElem?_eq_getElem (by rw [valsN_len]; omega)] at e1
      rw [nthI, List.getD_eq_getElem?_getD, List.getElem?_eq_getElem (by rw [sizsN_len]; omega)] at e2
      simp only [Option.getD_some] at e1 e2
      obtain ⟨h1, h2, h3⟩ := h
      obtain ⟨k1, k2, k3⟩ := ih (i - 1 - x.toNat) (by omega)
      simp only [valsN_len, sizsN_len, e1, e2]
      refine ⟨?_, ?_, ?_⟩
      · rw [sizeCs_cons, sumI]; omega
      · rw [textLs, List.length_append, sumI]; omega
      · rw [wfLs]; exact ⟨k3, h3⟩
    · rw [dif_neg (by rw [valsN_len]; exact hx), dif_neg (by rw [sizsN_len]; exact hx)]
      exact h
theorem backs_len {α : Type} (all : List α) : ∀ b : List UInt8, (backs all b).length ≤ b.length
  | [] => by simp [backs]
  | x :: b => by
    have := backs_len all b
    rw [backs]
    split
    · simp; omega
    · simp; omega
theorem val_siz (l : List Nd) (hs : smallD l) (ho : ∀ d ∈ l, NdOk d) : ∀ i, siz2 (valD l i) (sizD l i) := by
  intro i
  induction i using Nat.strongRecOn with
  | _ i ih =>
    have hb := backs_siz l i ih (nthD l i).b
    have hbl := backs_len (valsN l i) (nthD l i).b
    have hsm := hs.2 i
    have hd : NdOk (nthD l i) := by
      rw [nthD, List.getD_eq_getElem?_getD]
      cases e : l[i]? with
      | none => exact ⟨by decide, by decide, by decide⟩
      | some d => exact ho d (List.mem_of_getElem? e)
    obtain ⟨h1, h2, h3⟩ := hb
    unfold valD sizD valN sizN
    generalize (nthD l i).k = k at *
    generalize backs (valsN l i) (nthD l i).b = L at *
    generalize sumI (backs (sizsN l i) (nthD l i).b) = S at *
    have q1 := shortZ_len (n := (nthD l i).n) ⟨hd.1, hd.2.1⟩
    have q2 := shortZ_len (n := ((nthD l i).s.length : Int)) ⟨by omega, by omega⟩
    have q3 := shortZ_len (n := (L.length : Int)) ⟨by omega, by omega⟩
    refine ⟨?_, ?_, ?_⟩
    · rw [sizeC_mk]; omega
    · rw [textV_mk, List.length_append]
      have : (byteK k).length = 1 := rfl
      split
      · omega
      · split
        · rw [List.length_append]; omega
        · rw [List.length_append]; omega
    · rw [wfV]; exact ⟨⟨hd.1, hd.2.1⟩, hd.2.2, h3⟩
theorem made_ok {l : List Nd} (hs : smallD l) (ho : ∀ d ∈ l, NdOk d) (h : madeO l = true) : szOk 2001 (madeV l) ∧ txOk (madeV l) := by
  have e : madeV l = valD l (l.length - 1) := by unfold madeV; rw [if_pos h]
  unfold madeO at h
  rw [Bool.and_eq_true, decide_eq_true_eq, decide_eq_true_eq] at h
  have hf := (h.2 (l.length - 1) (by omega)).1
  obtain ⟨h1, h2, h3⟩ := val_siz l hs ho (l.length - 1)
  rw [e]
  exact ⟨⟨by omega, by decide⟩, h3, by omega⟩
theorem same_refl : ∀ v : CV, sameV v v = true := by
  refine cv_all fun k n s l ih => ?_
  have : ∀ m : List CV, (∀ v ∈ m, sameV v v = true) → sameLs m m = true := by
    intro m hm
    induction m with
    | nil => rw [sameLs]; rfl
    | cons v m ihm => rw [sameLs, hm v (by simp), ihm fun w hw => hm w (by simp [hw])]; rfl
  rw [sameV]
  simp [CV.kd, CV.nn, CV.tx, CV.ls, this l ih]
end Sy
end Go.Proofs.Ythlggigjnpldcaa
