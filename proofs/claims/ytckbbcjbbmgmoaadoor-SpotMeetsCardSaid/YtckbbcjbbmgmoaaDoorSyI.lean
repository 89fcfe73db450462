/- The symbolic executor: built values, new blocks. -/
import Derived.Test.YtckbbcjbbmgmoaaDoorSyH
import Derived.Laws.Tables
namespace Go.Proofs.YtckbbcjbbmgmoaaDoor
namespace Sy
open Go Go.RowKit
set_option linter.unusedSimpArgs false
set_option linter.unusedVariables false

def seqset (C : Array Value) : Nat → List Value → Array Value
  | _, [] => C
  | n, x :: xs => seqset (C.setIfInBounds n x) (n + 1) xs
theorem fold_seqset (off : Nat) : ∀ (l : List Value) (k : Nat) (C : Array Value), (l.zipIdx k).foldl (fun cs (p : Value × Nat) => cs.setIfInBounds (off + p.2) p.1) C = seqset C (off + k) l
  | [], k, C => rfl
  | x :: xs, k, C => by
    simp only [List.zipIdx_cons, List.foldl_cons, seqset]
    rw [fold_seqset off xs (k + 1)]
    rfl
theorem fold_seqset' (off : Nat) (X C : Array Value) : X.zipIdx.foldl (fun cs (c, j) => cs.setIfInBounds (off + j) c) C = seqset C off X.toList := by
  have := fold_seqset off X.toList 0 C
  rw [Nat.add_zero] at this
  rw [← this, ← Array.foldl_toList]
  congr 1
  simp
theorem seqset_size : ∀ (l : List Value) (n : Nat) (C : Array Value), (seqset C n l).size = C.size
  | [], n, C => rfl
  | x :: xs, n, C => by simp [seqset, seqset_size xs]

section
variable {h : Array Obj} {D : Nat → Prop} {μ : Mu}
theorem RL.set {xs : List AV} {C : Array Value} (r : RL h D μ xs C) {x : AV} {v : Value} (rx : R h D μ x v) (n : Nat) : RL h D μ (lset x xs n) (C.setIfInBounds n v) := by
  refine ⟨by rw [lset_eq]; simpa using r.1, fun i y u hy hu => ?_⟩
  rw [lset_eq, List.getElem?_set] at hy
  rw [Array.getElem?_setIfInBounds] at hu
  by_cases e : n = i
  · rw [if_pos e] at hy hu
    split at hy
    · split at hu
      · cases hy; cases hu; exact rx
      · cases hu
    · cases hy
  · rw [if_neg e] at hy hu
    exact r.2 i y u hy hu
theorem ones.set {C : Array Value} (r : ones C) {v : Value} (h1 : one v) (n : Nat) : ones (C.setIfInBounds n v) := by
  intro i u hu
  rw [Array.getElem?_setIfInBounds] at hu
  split at hu
  · split at hu
    · cases hu; exact h1
    · cases hu
  · exact r i u hu
/-- The same of lists of values. -/
def RLL (h : Array Obj) (D : Nat → Prop) (μ : Mu) : List AV → List Value → Prop
  | [], [] => True
  | x :: xs, v :: vs => (R h D μ x v ∧ one v) ∧ RLL h D μ xs vs
  | _, _ => False
theorem RLL.len : ∀ {xs : List AV} {vs : List Value}, RLL h D μ xs vs → xs.length = vs.length
  | [], [], _ => rfl
  | _ :: _, _ :: _, r => by simp [RLL.len r.2]
theorem RLL.of : ∀ {xs : List AV} {vs : List Value}, xs.length = vs.length → (∀ (i : Nat) x v, xs[i]? = some x → vs[i]? = some v → R h D μ x v) → (∀ v ∈ vs, one v) → RLL h D μ xs vs
  | [], [], _, _, _ => trivial
  | x :: xs, v :: vs, e, r, h1 => ⟨⟨r 0 x v rfl rfl, h1 v (by simp)⟩, RLL.of (by simpa using e) (fun i y u hy hu => r (i + 1) y u (by simpa using hy) (by simpa using hu)) (fun u hu => h1 u (by simp [hu]))⟩
theorem RLL.get : ∀ {xs : List AV} {vs : List Value}, RLL h D μ xs vs → ∀ (i : Nat) x v, xs[i]? = some x → vs[i]? = some v → R h D μ x v ∧ one v
  | x :: xs, v :: vs, r, 0, y, u, hy, hu => by simp at hy hu; subst hy; subst hu; exact r.1
  | x :: xs, v :: vs, r, i + 1, y, u, hy, hu => RLL.get r.2 i y u (by simpa using hy) (by simpa using hu)
theorem write_RL : ∀ {ys : List AV} {vs : List Value} {xs : List AV} {C : Array Value} (n : Nat), RL h D μ xs C → ones C → RLL h D μ ys vs → RL h D μ (lwrite xs n ys) (seqset C n vs) ∧ ones (seqset C n vs)
  | [], [], xs, C, n, r, h1, _ => ⟨r, h1⟩
  | y :: ys, v :: vs, xs, C, n, r, h1, hr => write_RL (n + 1) (r.set hr.1.1 n) (h1.set hr.1.2 n) hr.2
/-- A value's cells. -/
theorem cells_RLL {x : AV} {v : Value} (r : R h D μ x v) (hs : solidV x = true) : RLL h D μ x.cells v.cells.toList := by
  cases r with
  | agg cs vs e h1 hr => exact RLL.of (xs := cs) (vs := vs.toList) (by simpa using e) (fun i y u hy hu => hr i y u hy (by simpa using hu)) (fun u hu => by
      obtain ⟨i, hi⟩ := List.getElem?_of_mem hu
      exact h1 i u (by simpa using hi))
  | arr n get vs e h1 hr =>
    have k1 : (ltab get 0 n).length = vs.toList.length := by rw [ltab_len, e]; simp
    have k2 : ∀ (i : Nat) x v, (ltab get 0 n)[i]? = some x → vs.toList[i]? = some v → R h D μ x v := by
      intro i y u hy hu
      rw [ltab_get] at hy
      split at hy
      · cases hy
        rw [Nat.zero_add]
        exact (hr i u (by simpa using hu)).free
      · cases hy
    have k3 : ∀ v ∈ vs.toList, one v := by
      intro u hu
      obtain ⟨i, hi⟩ := List.getElem?_of_mem hu
      exact h1 i u (by simpa using hi)
    exact RLL.of k1 k2 k3
  | dead => cases hs
  | tup => cases hs
  | _ => exact ⟨⟨by first | exact R.bool _ | exact R.int _ _ | exact R.str _ _ ‹_› | exact R.nilp | exact R.nilm | exact R.nilf | exact R.nils | exact R.nili | exact R.ifn | exact R.ifs _ _ | exact R.emp _ _ | exact R.emz _ | exact R.lst0 _ _ _ _ ‹_› | (constructor <;> assumption), rfl⟩, trivial⟩

def Parts (h : Array Obj) (D : Nat → Prop) (μ : Mu) (a : Act) : List (Nat × Operand) → List AV → Prop
  | [], [] => True
  | p :: ps, v :: vs => R h D μ v (a.eval p.2) ∧ Parts h D μ a ps vs
  | _, _ => False
theorem fill_run {a : Act} {pl : Nat → Option (Nat × Nat)} : ∀ (ps : List (Nat × Operand)) (vals : List AV) (cells : List AV) (C : Array Value) (cs : List AV), fillA pl cells ps vals = some cs → solidVs vals = true → Parts h D μ a ps vals →
    RL h D μ cells C → ones C → ∃ C', Instr.fill pl C (ps.map fun p => (p.1, a.eval p.2)) = some C' ∧ RL h D μ cs C' ∧ ones C'
  | [], [], cells, C, cs, e, _, _, r, h1 => by
    cases e
    exact ⟨C, rfl, r, h1⟩
  | [], _ :: _, _, _, _, e, _, _, _, _ => by cases e
  | (i, p) :: ps, [], _, _, _, e, _, _, _, _ => by cases e
  | (i, p) :: ps, v :: vs, cells, C, cs, e, hs, hp, r, h1 => by
    simp only [fillA] at e
    split at e
    · rename_i off size hpl
      split at e
      · rename_i hsz
        have hsz := beq_eq hsz
        split at e
        · rename_i hle
          have hle := ble_le hle
          simp only [solidVs] at hs
          split at hs
          · rename_i hv
            have rc := cells_RLL hp.1 hv
            have hlen := rc.len
            rw [llen_eq] at hsz hle
            obtain ⟨w1, w2⟩ := write_RL off r h1 rc
            obtain ⟨C', f1, f2, f3⟩ := fill_run ps vs _ _ cs e hs hp.2 w1 w2
            refine ⟨C', ?_, f2, f3⟩
            simp only [List.map_cons, Instr.fill, hpl]
            have hcs : (a.eval p).cells.size = size := by rw [← hsz, hlen]; simp
            have : ¬ ((a.eval p).cells.size ≠ size ∨ off + (a.eval p).cells.size > C.size) := by
              rw [← r.1]; omega
            simp only [Bool.or_eq_true, decide_eq_true_eq, this, if_false]
            rw [fold_seqset']
            exact f1
          · cases hs
        · cases e
      · cases e
    · cases e
end

section
variable {P : Program} {T : TT} {base : Nat} {M : Two} {W : World} {nt : Nat} {f : Nat → Option AV} {g : Nat → Option Ob} {c : Nat → Bool} {a : Act} {w : World} {D : Nat → Prop} {μ : Mu} {o : Oper}
theorem nth_eq {α : Type} : ∀ (l : List α) (i : Nat), nth l i = l[i]?
  | [], i => rfl
  | x :: xs, 0 => rfl
  | x :: xs, i + 1 => by simp [nth, nth_eq xs i]
theorem places_ok (hT : TsOk P T) : ∀ (F : List Field) (fs pl : List (Nat × Nat)), F.map (fun f => (f.offset, f.type)) = fs → placesOf T fs = some pl →
    F.mapM (fun f => (P.info? f.type).map fun i => (f.offset, i.size)) = some pl
  | [], _, pl, rfl, e => by cases e; rfl
  | fd :: F, _, pl, rfl, e => by
    simp only [List.map_cons, placesOf] at e
    split at e
    · rename_i s hs
      split at e
      · rename_i l hl
        cases e
        have ih := places_ok hT F _ l rfl hl
        unfold TT.sizeOf at hs
        split at hs
        · rename_i ti hti
          cases hs
          obtain ⟨i, z, h1, h2, _⟩ := (hT _ ti hti).info
          simp [List.mapM_cons, h1, h2, ih]
        · cases hs
      · cases e
    · cases e
theorem parts_of {ps : List (Nat × Operand)} : ∀ {vals : List AV}, Ops w.heap D μ a (ps.map Prod.snd) vals → Parts w.heap D μ a ps vals := by
  induction ps with
  | nil => intro vals hv; cases vals with
    | nil => exact trivial
    | cons _ _ => exact hv.elim
  | cons p ps ih => intro vals hv; cases vals with
    | nil => exact hv.elim
    | cons v vs => exact ⟨hv.1, ih hv.2⟩

variable (h : Sim base M W nt f g c a w D μ) (hd : ∀ d, o.dst = some d → d < nt)
include h hd
theorem says_build (hT : TsOk P T) {t : TypeId} {ps : Array (Nat × Operand)} (e : o.op = .build t ps) {vals : List AV} (hv : Ops w.heap D μ a (ps.toList.map Prod.snd) vals) :
    Says P base M W nt f g c o a w (cBuild T t ps.toList vals) := by
  have run : ∀ u, (Instr.build t (ps.map fun (i, x) => (i, a.eval x))).run P w = .ok u w → (execOp a.eval o).run P w = .ok (.value u) w := by
    intro u hu; unfold execOp; rw [e]; simp [hu]
  unfold cBuild
  split
  · rename_i i hi
    have ok := hT t i hi
    obtain ⟨ii, z, i1, i2, i3, i4, i5, i6⟩ := ok.info
    have okk := ok.k
    split
    · rename_i fs hk
      rw [hk] at okk
      obtain ⟨F, hF, hfs⟩ := okk
      split
      · rename_i pl hpl
        split
        · rename_i cs hcs
          cases hs : solidVs vals with
          | false => rw [hs] at hcs; cases hcs
          | true =>
            rw [hs] at hcs
            obtain ⟨C', f1, f2, f3⟩ := fill_run (h := w.heap) (D := D) (μ := μ) ps.toList vals i.zero z.cells cs hcs hs (parts_of hv) (i6 _ _ _) i4
            refine adv_value h hd (run (.agg C') (run_build w t _ C' ?_)) (.agg _ _ f2.1 f3 f2.2)
            unfold Program.built
            simp only [i1, hF, i3, places_ok hT F.toList fs pl hfs hpl]
            have e2 : (fun x => pl.toArray[x]?) = nth pl := by funext x; rw [nth_eq]; simp
            rw [e2]
            simpa using f1
        · trivial
      · trivial
    · rename_i n e' esz hk
      rw [hk] at okk
      obtain ⟨ok1, ok2⟩ := okk
      obtain ⟨ei, hei, hes⟩ := Option.map_eq_some_iff.1 ok2
      split
      · rename_i cs hcs
        cases hs : solidVs vals with
        | false => rw [hs] at hcs; cases hcs
        | true =>
          rw [hs] at hcs
          obtain ⟨C', f1, f2, f3⟩ := fill_run (h := w.heap) (D := D) (μ := μ) ps.toList vals i.zero z.cells cs hcs hs (parts_of hv) (i6 _ _ _) i4
          refine adv_value h hd (run (.agg C') (run_build w t _ C' ?_)) (.agg _ _ f2.1 f3 f2.2)
          unfold Program.built
          simp only [i1, ok1, i3, hei, hes]
          simpa using f1
      · trivial
    · trivial
  · trivial
end

end Sy
end Go.Proofs.YtckbbcjbbmgmoaaDoor
