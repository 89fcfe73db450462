/- Chapter 7 (codec): values, in plain Lean, and as the executor sees them. -/
import Derived.Test.YthlggigjnpldcaaAcC
namespace Go.Proofs.Ythlggigjnpldcaa
namespace Sy
open Go Go.RowKit
set_option maxRecDepth 100000
set_option linter.unusedSimpArgs false
set_option linter.unusedVariables false

inductive CV where
  | mk (k n : Int) (s : List UInt8) (l : List CV)
namespace CV
def kd : CV → Int
  | mk k _ _ _ => k
def nn : CV → Int
  | mk _ n _ _ => n
def tx : CV → List UInt8
  | mk _ _ s _ => s
def ls : CV → List CV
  | mk _ _ _ l => l
theorem eta (v : CV) : mk v.kd v.nn v.tx v.ls = v := by cases v; rfl
end CV
def nthV (l : List CV) (i : Nat) : CV := l.getD i (.mk 0 0 [] [])
def lenL (l : List CV) : Nat := l.length
def lenV (v : CV) : Nat := v.ls.length
def sizeC : CV → Nat
  | .mk _ _ _ l => sizeCs l + 1
where sizeCs : List CV → Nat
  | [] => 0
  | v :: l => sizeC v + sizeCs l
abbrev sizeCs := sizeC.sizeCs
theorem sizeCs_nil : sizeCs [] = 0 := by simp [sizeC.sizeCs]
theorem sizeCs_cons (v : CV) (l : List CV) : sizeCs (v :: l) = sizeC v + sizeCs l := by simp [sizeC.sizeCs]
theorem sizeC_mk (k n : Int) (s : List UInt8) (l : List CV) : sizeC (.mk k n s l) = sizeCs l + 1 := by rw [sizeC]
theorem sizeC_pos (v : CV) : 0 < sizeC v := by cases v; rw [sizeC_mk]; omega
theorem sizeC_nth : ∀ (l : List CV) (i : Nat), i < l.length → sizeC (nthV l i) ≤ sizeCs l
  | [], i, h => by simp at h
  | v :: l, 0, h => by rw [sizeCs_cons]; show sizeC v ≤ _; omega
  | v :: l, i + 1, h => by
    have := sizeC_nth l i (by simpa using h)
    rw [sizeCs_cons]
    show sizeC (nthV l i) ≤ _
    omega
theorem nthV_mem {l : List CV} {i : Nat} (h : i < l.length) : nthV l i ∈ l := by
  rw [nthV, List.getD_eq_getElem?_getD, List.getElem?_eq_getElem h]; exact List.getElem_mem h
/-- A fact of all values, by their parts. -/
theorem cv_ind {p : CV → Prop} (h : ∀ k n s l, (∀ v ∈ l, p v) → p (.mk k n s l)) : ∀ (m : Nat) (v : CV), sizeC v ≤ m → p v
  | 0, v, hv => by have := sizeC_pos v; omega
  | m + 1, .mk k n s l, hv => h k n s l fun w hw => by
    rw [sizeC_mk] at hv
    obtain ⟨i, hi, rfl⟩ := List.getElem_of_mem hw
    have := sizeC_nth l i hi
    have e : nthV l i = l[i] := by rw [nthV, List.getD_eq_getElem?_getD, List.getElem?_eq_getElem hi]; rfl
    rw [e] at this
    exact cv_ind h m _ (by omega)
theorem cv_all {p : CV → Prop} (h : ∀ k n s l, (∀ v ∈ l, p v) → p (.mk k n s l)) (v : CV) : p v := cv_ind h _ v (Nat.le_refl _)

/-! ### values as the executor sees them -/
def dflC : Nat → AV
  | 0 => .int .i64 0
  | 1 => .int .u64 0
  | 2 => .str []
  | _ => .lst 4 0 (fun _ _ => .dead)
mutual
def cvCell : CV → Nat → AV
  | .mk k n s l, j => match j with
    | 0 => .int .i64 k
    | 1 => .int .u64 n
    | 2 => .str s
    | _ => .lst 4 l.length (cvGet l)
def cvGet : List CV → Nat → Nat → AV
  | [], _, j => dflC j
  | v :: l, i, j => match i with
    | 0 => cvCell v j
    | i + 1 => cvGet l i j
end
theorem cvCell_0 (v : CV) : cvCell v 0 = .int .i64 v.kd := by cases v; rw [cvCell]; rfl
theorem cvCell_1 (v : CV) : cvCell v 1 = .int .u64 v.nn := by cases v; rw [cvCell]; rfl
theorem cvCell_2 (v : CV) : cvCell v 2 = .str v.tx := by cases v; rw [cvCell]; rfl
theorem cvCell_3 (v : CV) : cvCell v 3 = .lst 4 v.ls.length (cvGet v.ls) := by cases v; rw [cvCell] <;> first | rfl | (intro h; cases h)
theorem cvGet_nth : ∀ (l : List CV) (i j : Nat), i < l.length → cvGet l i j = cvCell (nthV l i) j
  | [], i, j, h => by simp at h
  | v :: l, 0, j, h => by rw [cvGet]; rfl
  | v :: l, i + 1, j, h => by rw [cvGet]; exact cvGet_nth l i j (by simpa using h)
/-- A value's cells. -/
def cvIn (v : CV) : Nat → Nat → AV := cvGet v.ls
def cv1 (L : Seal) (v : CV) : Nat → AV
  | 0 => .int .i64 (L CV.kd v)
  | 1 => .int .u64 (L CV.nn v)
  | 2 => .str (L CV.tx v)
  | _ => .lst 4 (L lenV v) (L cvIn v)
theorem cv1_std (v : CV) (j : Nat) (h : j < 4) : cv1 std v j = cvCell v j := by
  match j, h with
  | 0, _ => rw [cvCell_0]; rfl
  | 1, _ => rw [cvCell_1]; rfl
  | 2, _ => rw [cvCell_2]; rfl
  | 3, _ => rw [cvCell_3]; rfl
def cvL (L : Seal) (l : List CV) : AV := .lst 4 (L lenL l) (fun i j => cv1 L (L2 L nthV l i) j)
def cvA (L : Seal) (v : CV) : AV := .agg [.int .i64 (L CV.kd v), .int .u64 (L CV.nn v), .str (L CV.tx v), .lst 4 (L lenV v) (L cvIn v)]
/-- What a cell of values holds. -/
def rdL : AV → List CV
  | .lst _ n get => (List.range n).map fun i => .mk (get i 0).toI (get i 1).toI (match get i 2 with | .str s => s | _ => []) (rdL (get i 3))
  | _ => []
def okL : AV → Prop
  | .lst sz n get => sz = 4 ∧ ∀ i, i < n → (∃ x, get i 0 = .int .i64 x) ∧ (∃ x, get i 1 = .int .u64 x) ∧ (∃ x, get i 2 = .str x) ∧ okL (get i 3)
  | .nils => True
  | _ => False
theorem rd_len (sz n : Nat) (get : Nat → Nat → AV) : (rdL (.lst sz n get)).length = n := by simp [rdL]
theorem rd_nth {sz n : Nat} {get : Nat → Nat → AV} {i : Nat} (h : i < n) : nthV (rdL (.lst sz n get)) i = .mk (get i 0).toI (get i 1).toI (match get i 2 with | .str s => s | _ => []) (rdL (get i 3)) := by
  rw [nthV, List.getD_eq_getElem?_getD, rdL]
  simp [h]
theorem cv_ext {a b : List CV} (h : a.length = b.length) (k : ∀ i, i < a.length → nthV a i = nthV b i) : a = b := by
  apply List.ext_getElem h
  intro i h1 h2
  have := k i h1
  rw [nthV, nthV, List.getD_eq_getElem?_getD, List.getD_eq_getElem?_getD, List.getElem?_eq_getElem h1, List.getElem?_eq_getElem h2] at this
  exact this
theorem rd_cell : ∀ v : CV, rdL (cvCell v 3) = v.ls ∧ okL (cvCell v 3) := by
  refine cv_all fun k n s l ih => ?_
  rw [cvCell_3]
  show rdL (.lst 4 l.length (cvGet l)) = l ∧ okL (.lst 4 l.length (cvGet l))
  refine ⟨cv_ext (rd_len _ _ _) fun i hi => ?_, rfl, fun i hi => ?_⟩
  · rw [rd_len] at hi
    rw [rd_nth hi, cvGet_nth _ _ _ hi, cvGet_nth _ _ _ hi, cvGet_nth _ _ _ hi, cvGet_nth _ _ _ hi, cvCell_0, cvCell_1, cvCell_2, (ih _ (nthV_mem hi)).1]
    exact CV.eta _
  · rw [cvGet_nth _ _ _ hi, cvGet_nth _ _ _ hi, cvGet_nth _ _ _ hi, cvGet_nth _ _ _ hi, cvCell_0, cvCell_1, cvCell_2]
    exact ⟨⟨_, rfl⟩, ⟨_, rfl⟩, ⟨_, rfl⟩, (ih _ (nthV_mem hi)).2⟩
theorem rd_in (v : CV) : rdL (.lst 4 (lenV v) (cvIn v)) = v.ls ∧ okL (.lst 4 (lenV v) (cvIn v)) := by
  have := rd_cell v
  rw [cvCell_3] at this
  exact this
theorem rd_list (l : List CV) : rdL (cvL std l) = l ∧ okL (cvL std l) := by
  refine ⟨cv_ext (rd_len _ _ _) fun i hi => ?_, rfl, fun i hi => ⟨⟨_, rfl⟩, ⟨_, rfl⟩, ⟨_, rfl⟩, (rd_in _).2⟩⟩
  have hi : i < l.length := by rw [show (rdL (cvL std l)).length = lenL l from rd_len _ _ _] at hi; exact hi
  show nthV (rdL (.lst 4 (lenL l) _)) i = _
  rw [rd_nth (show i < lenL l from hi)]
  show CV.mk (nthV l i).kd (nthV l i).nn (nthV l i).tx (rdL (.lst 4 (lenV (nthV l i)) (cvIn (nthV l i)))) = _
  rw [(rd_in _).1, CV.eta]
/-- What is known of values is known of them as they are told. -/
theorem okL_R {h : Array Obj} {D : Nat → Prop} : ∀ (x : AV) {μ : Mu} {v : Value}, okL x → R h D μ x v → R h D μ (.lst 4 (rdL x).length (cvGet (rdL x))) v := by
  intro x μ v ho r
  induction r with
  | nils => exact .lst0 _ _ _ _ (fun _ => rfl)
  | lst0 sz get a cap hn => exact .lst0 _ _ _ _ hn
  | lst sz n get b o cap vs hD hc hv h1 hr ih =>
    obtain ⟨rfl, ho⟩ := ho
    rw [rd_len]
    refine .lst _ _ _ b o cap vs hD hc hv h1 (fun i j hi hj => ?_)
    rw [cvGet_nth _ _ _ (by rw [rd_len]; exact hi), rd_nth hi]
    obtain ⟨⟨x0, e0⟩, ⟨x1, e1⟩, ⟨x2, e2⟩, o3⟩ := ho i hi
    have hj' := hr i j hi hj
    match j, hj with
    | 0, _ => rw [cvCell_0]; rw [e0] at hj' ⊢; exact hj'
    | 1, _ => rw [cvCell_1]; rw [e1] at hj' ⊢; exact hj'
    | 2, _ => rw [cvCell_2]; rw [e2] at hj' ⊢; exact hj'
    | 3, _ => rw [cvCell_3]; exact ih i 3 hi (by omega) o3
  | _ => exact ho.elim
theorem cvL_R {h : Array Obj} {D : Nat → Prop} {μ : Mu} {l : List CV} {v : Value} (r : R h D μ (.lst 4 l.length (cvGet l)) v) : R h D μ (cvL std l) v :=
  lst_same r fun i j hi hj => by
    rw [cvGet_nth _ _ _ hi]
    exact (cv1_std _ j hj).symm

/-! ### What functions say of values -/
mutual
def deepV : CV → Int
  | .mk k _ _ l => if k = 3 then deepLs l + 1 else 0
def deepLs : List CV → Int
  | [] => 0
  | v :: l => max (deepV v) (deepLs l)
end
theorem deepLs_app : ∀ a b : List CV, deepLs (a ++ b) = max (deepLs a) (deepLs b)
  | [], b => by
    rw [List.nil_append, deepLs]
    have : ∀ b : List CV, 0 ≤ deepLs b := by
      intro b
      induction b with
      | nil => rw [deepLs]; omega
      | cons v l ih => rw [deepLs]; omega
    have := this b
    omega
  | v :: a, b => by rw [List.cons_append, deepLs, deepLs_app a b, deepLs]; omega
theorem take_nth {l : List CV} {i : Nat} (h : i < l.length) : l.take (i + 1) = l.take i ++ [nthV l i] := by
  rw [List.take_succ_eq_append_getElem h, nthV, List.getD_eq_getElem?_getD, List.getElem?_eq_getElem h]; rfl
def deepTo (l : List CV) (i : Nat) : Int := deepLs (l.take i)
theorem deepTo_succ {l : List CV} {i : Nat} (h : i < l.length) : deepTo l (i + 1) = max (deepTo l i) (deepV (nthV l i)) := by
  unfold deepTo
  rw [take_nth h, deepLs_app, deepLs, deepLs]
  have : 0 ≤ deepV (nthV l i) ∨ True := .inr trivial
  have h0 : ∀ b : List CV, 0 ≤ deepLs b := by
    intro b
    induction b with
    | nil => rw [deepLs]; omega
    | cons v l ih => rw [deepLs]; omega
  have := h0 (l.take i)
  omega
mutual
def bareV : CV → Bool
  | .mk k n s l => if k = 1 then decide (s = []) && l.isEmpty else if k = 2 then decide (n = 0) && l.isEmpty else if k = 3 then decide (n = 0) && decide (s = []) && bareLs l else false
def bareLs : List CV → Bool
  | [] => true
  | v :: l => bareV v && bareLs l
end
mutual
def sameV : CV → CV → Bool
  | .mk k n s l, w => decide (k = w.kd) && decide (n = w.nn) && decide (s = w.tx) && sameLs l w.ls
def sameLs : List CV → List CV → Bool
  | [], m => m.isEmpty
  | v :: l, m => match m with
    | [] => false
    | w :: m => sameV v w && sameLs l m
end
def byteK (k : Int) : List UInt8 := [UInt8.ofNat (k % 256).toNat]
mutual
def textV : CV → List UInt8
  | .mk k n s l => byteK k ++ if k = 1 then shortZ n else if k = 2 then shortZ s.length ++ s else shortZ l.length ++ textLs l
def textLs : List CV → List UInt8
  | [] => []
  | v :: l => textV v ++ textLs l
end
theorem textLs_app : ∀ a b : List CV, textLs (a ++ b) = textLs a ++ textLs b
  | [], b => by rw [textLs]; rfl
  | v :: a, b => by rw [List.cons_append, textLs, textLs_app a b, textLs, List.append_assoc]
def textTo (l : List CV) (i : Nat) : List UInt8 := textLs (l.take i)
theorem textTo_succ {l : List CV} {i : Nat} (h : i < l.length) : textTo l (i + 1) = textTo l i ++ textV (nthV l i) := by
  unfold textTo
  rw [take_nth h, textLs_app, textLs, textLs, List.append_nil]
end Sy
end Go.Proofs.Ythlggigjnpldcaa
