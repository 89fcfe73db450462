/- The symbolic executor: new blocks, calls. -/
import Derived.Test.YtckbbcjbbmgmoaaDoorSyJ
namespace Go.Proofs.YtckbbcjbbmgmoaaDoor
namespace Sy
open Go Go.RowKit
set_option linter.unusedSimpArgs false
set_option linter.unusedVariables false

theorem noFr_zero (n : Nat) : noFr n (0, 0) := fun o _ => by omega
theorem lrepeat_len (z : List AV) : ∀ n, (lrepeat z n).length = n * z.length
  | 0 => by simp [lrepeat]
  | n + 1 => by rw [lrepeat, lapp_eq, List.length_append, lrepeat_len z n, Nat.add_mul]; omega
theorem lrepeat_get (z : List AV) : ∀ n i j, i < n → j < z.length → (lrepeat z n)[i * z.length + j]? = z[j]?
  | n + 1, 0, j, _, hj => by rw [lrepeat, lapp_eq]; simp [List.getElem?_append_left hj]
  | n + 1, i + 1, j, hi, hj => by
    rw [lrepeat, lapp_eq, List.getElem?_append_right (by rw [Nat.add_mul]; omega)]
    rw [show (i + 1) * z.length + j - z.length = i * z.length + j by rw [Nat.add_mul]; omega]
    exact lrepeat_get z n i j (by omega) hj

theorem sameAV_eq {x y : AV} (h : sameAV x y = true) : x = y := by
  unfold sameAV at h
  split at h
  · rw [of_decide_eq_true h]
  · split at h
    · rename_i hk; rw [of_decide_eq_true hk, of_decide_eq_true h]
    · cases h
  · rw [of_decide_eq_true h]
  all_goals first | rfl | cases h
theorem sameAVs_eq : ∀ {xs ys : List AV}, sameAVs xs ys = true → xs = ys
  | [], [], _ => rfl
  | x :: xs, y :: ys, h => by
    simp only [sameAVs] at h
    split at h
    · rename_i h1
      rw [sameAV_eq h1, sameAVs_eq h]
    · cases h
section
variable {P : Program} {T : TT} {base : Nat} {M : Two} {W : World} {nt : Nat} {f : Nat → Option AV} {g : Nat → Option Ob} {c : Nat → Bool} {a : Act} {w : World} {D : Nat → Prop} {μ : Mu} {o : Oper}

theorem cond_some {b : Bool} {x : Option Nat} {d : Nat} (e : cond b x none = some d) : b = true ∧ x = some d := by cases b <;> simp_all

variable (h : Sim base M W nt f g c a w D μ) (hd : ∀ d, o.dst = some d → d < nt)
include h hd

theorem adv_new {d : Nat} (hdst : o.dst = some d) (hnew : g d = none) (cs : Array Value) (t : TypeId) (ob : Ob) (m : Nat) (hne : ob ≠ .gone) (hok : ObOk (w.alloc (.cells cs t)).heap D μ ob (some (w.heap.size, cs.size, m)))
    {v : AV} {u : Value} (run : (execOp a.eval o).run P w = .ok (.value u) (w.alloc (.cells cs t))) (r : ∀ D' μ', μ' d = some (some (w.heap.size, cs.size, m)) → R (w.alloc (.cells cs t)).heap D' μ' v u) :
    Adv P base M W nt f g c o a w v [(d, ob)] [] := fun K Q hK => by
  unfold Oper.wp
  rw [run]
  have h1 := h.new (hd _ hdst) hnew ob cs t m hne hok
  exact hK _ _ ⟨_, _, h1.put hd (r _ _ (by simp))⟩

omit hd in
/-- A block laid of cells that are known. -/
theorem box_ok {xs : List AV} {C : Array Value} {t : TypeId} (h1 : ones C) (r : RL w.heap D μ xs C) : ObOk (w.alloc (.cells C t)).heap D μ (.box t xs) (some (w.heap.size, C.size, 0)) := by
  refine ⟨C, t, (0, 0), heap_alloc_new _ _, rfl, ⟨noFr_zero _, rfl⟩, h1, r.1, fun i x v hx hv => (r.2 i x v hx hv).mono (fun b hb => Below.heap_alloc _ _ _ (h.dlt b hb)) (fun _ h => h) (fun _ _ h => h)⟩
omit hd in
theorem row_ok {sz n : Nat} {get : Nat → Nat → AV} {C : Array Value} {t : TypeId} (hsz : n * sz ≤ C.size) (r : ∀ i j, i < n → j < sz → ∃ v, C[i * sz + j]? = some v ∧ one v ∧ R w.heap D noMu (get i j) v) :
    ObOk (w.alloc (.cells C t)).heap D μ (.row t sz n get) (some (w.heap.size, C.size, n)) := by
  refine ⟨rfl, C, t, (0, 0), heap_alloc_new _ _, rfl, ⟨noFr_zero _, rfl⟩, hsz, fun i j hi hj => ?_⟩
  obtain ⟨v, v1, v2, v3⟩ := r i j hi hj
  exact ⟨v, v1, v2, v3.mono (fun b hb => Below.heap_alloc _ _ _ (h.dlt b hb)) (fun _ h => h) (fun _ _ h => h)⟩

theorem says_alloc (hT : TsOk P T) {t : TypeId} (e : o.op = .alloc t) : Says P base M W nt f g c o a w (cAlloc T o.dst t (newOf g o.op o.dst)) := by
  unfold cAlloc
  split
  · rename_i d hc
    obtain ⟨hn, hdst⟩ := cond_some hc
    have hnew : g d = none := by
      simp only [newOf, e, creates, hdst] at hn
      cases hg : g d with
      | none => rfl
      | some _ => rw [hg] at hn; cases hn
    split
    · rename_i i hi
      have ok := hT t i hi
      obtain ⟨z, z1, z2, z3, z4⟩ := ok.zeroV
      have run : (execOp a.eval o).run P w = .ok (.value (.pointer (some ⟨w.heap.size, 0, none⟩))) (w.alloc (.cells z.cells t)) := by
        unfold execOp
        rw [e]
        simp [Instr.alloc, z1, newVar, newRow]
      have okk := ok.k
      split
      · rename_i n e' esz hk
        rw [hk] at okk
        split
        · rename_i ei hei
          split
          · rename_i hz hsz hfr
            have hz := sameAVs_eq hz
            have hsz := beq_eq hsz
            rw [llen_eq] at hsz
            have r := z4 w.heap D μ
            have hl : i.zero.length = n * esz := by rw [hz, lrepeat_len, hsz]
            refine adv_new h hd hdst hnew z.cells t _ n (by simp) (row_ok h (by rw [← r.1, hl]; omega) (fun i' j hi' hj => ?_)) run (fun D' μ' hm => .ref _ _ _ _ _ hm)
            have hx : i.zero[i' * esz + j]? = some (lget .dead ei.zero j) := by
              rw [hz, ← hsz, lrepeat_get _ _ _ _ hi' (by omega)]
              exact lget_get _ _ _ (by omega)
            have hlt : i' * esz + j < z.cells.size := by rw [← r.1]; exact (List.getElem?_eq_some_iff.1 hx).1
            exact ⟨_, getD_some hlt, z2 _ _ (getD_some hlt), free1_R (r.2 _ _ _ hx (getD_some hlt)) (freeL_get hfr _ _ (lget_get _ _ _ (by omega)))⟩
          · trivial
        · trivial
      · exact adv_new h hd hdst hnew z.cells t (.box t i.zero) 0 (by simp) (box_ok h z2 (z4 _ _ _)) run (fun D' μ' hm => .ref _ _ _ _ _ hm)
    · trivial
  · trivial

theorem says_box (hT : TsOk P T) {t : TypeId} {x : Operand} (e : o.op = .box t x) {vals : List AV} (hv : Ops w.heap D μ a [x] vals) : Says P base M W nt f g c o a w (cBox T std o.dst t (newOf g o.op o.dst) vals) := by
  match vals, hv with
  | [v], ⟨hv, _⟩ =>
    unfold cBox
    simp only
    split
    · rename_i d hc
      obtain ⟨hn, hdst⟩ := cond_some hc
      have hnew : g d = none := by
        simp only [newOf, e, creates, hdst] at hn
        cases hg : g d with
        | none => rfl
        | some _ => rw [hg] at hn; cases hn
      split
      · rename_i i hi
        split
        · rename_i hsz hs
          have hsz := beq_eq hsz
          rw [llen_eq] at hsz
          have rc := cells_RLL hv hs
          have hlen := rc.len
          have run : (execOp a.eval o).run P w = .ok (.value (.pointer (some ⟨w.heap.size, 0, none⟩))) (w.alloc (.cells (a.eval x).cells t)) := by
            unfold execOp
            rw [e]
            simp [Instr.box, newVar, newRow]
          have h1 : ones (a.eval x).cells := fun j u hu => by
            have hlt : j < v.cells.length := by rw [hlen]; have := (Array.getElem?_eq_some_iff.1 hu).1; simpa using this
            exact (rc.get j v.cells[j] u (by simp [hlt]) (by simpa using hu)).2
          have hr : RL w.heap D μ v.cells (a.eval x).cells := ⟨by rw [hlen]; simp, fun j y u hy hu => (rc.get j y u hy (by simpa using hu)).1⟩
          split
          · rename_i n e' esz hk
            split
            · rename_i hfr hne
              have hne := beq_eq hne
              refine adv_new h hd hdst hnew _ t _ n (by simp) (row_ok h (by rw [← hr.1]; omega) (fun i' j hi' hj => ?_)) run (fun D' μ' hm => .ref _ _ _ _ _ hm)
              have hx := rowOf_get (cs := v.cells) (sz := esz) (n := n) (by omega) hi' hj
              have hlt : i' * esz + j < (a.eval x).cells.size := by rw [← hr.1]; exact (List.getElem?_eq_some_iff.1 hx).1
              exact ⟨_, getD_some hlt, h1 _ _ (getD_some hlt), free1_R (hr.2 _ _ _ hx (getD_some hlt)) (freeL_get hfr _ _ hx)⟩
            · trivial
          · exact adv_new h hd hdst hnew _ t (.box t v.cells) 0 (by simp) (box_ok h h1 hr) run (fun D' μ' hm => .ref _ _ _ _ _ hm)
        · trivial
      · trivial
    · trivial
end

end Sy
end Go.Proofs.YtckbbcjbbmgmoaaDoor
