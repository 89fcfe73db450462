/- The symbolic executor: calls; any operation. -/
import Derived.Test.YtckbbcjbbmgmoaaDoorSyMd
import Derived.Test.YtckbbcjbbmgmoaaDoorSyMp
namespace Go.Proofs.YtckbbcjbbmgmoaaDoor
namespace Sy
open Go Go.RowKit
set_option linter.unusedSimpArgs false
set_option linter.unusedVariables false

section
variable {P : Program} {T : TT} {base : Nat} {M : Two} {W : World} {nt : Nat} {f : Nat → Option AV} {g : Nat → Option Ob} {c : Nat → Bool} {a : Act} {w : World} {D : Nat → Prop} {μ : Mu} {o : Oper}
variable (h : Sim base M W nt f g c a w D μ) (hd : ∀ d, o.dst = some d → d < nt)
include h hd

omit h hd in
theorem ops_list {l : List Operand} : ∀ {vals : List AV}, Ops w.heap D μ a l vals → vals.length = l.length ∧ ∀ (i : Nat) x y, vals[i]? = some x → l[i]? = some y → R w.heap D μ x (a.eval y) := by
  induction l with
  | nil => intro vals hv; cases vals with
    | nil => exact ⟨rfl, fun i x y h => by simp at h⟩
    | cons _ _ => exact hv.elim
  | cons z l ih => intro vals hv; cases vals with
    | nil => exact hv.elim
    | cons v vs =>
      obtain ⟨h1, h2⟩ := ih hv.2
      refine ⟨by simp [h1], fun i x y hx hy => ?_⟩
      cases i with
      | zero => simp at hx hy; subst hx; subst hy; exact hv.1
      | succ i => exact h2 i x y (by simpa using hx) (by simpa using hy)

theorem says_call {fo : Operand} {xs : Array Operand} {ts : Array TypeId} (e : o.op = .call { callee := .value fo, args := xs, argTypes := ts }) {vals : List AV} (hv : Ops w.heap D μ a (fo :: xs.toList) vals)
    {ob : Nat → Option Ob} (hob : ∀ id z, ob id = some z → g id = some z) : Says P base M W nt f g c o a w (cCall std ob vals) := by
  unfold cCall
  split
  · rename_i k first caps zs
    obtain ⟨hf, hv⟩ := hv
    split
    · rename_i ys hys
      intro r hr K Q hK
      obtain ⟨l1, l2, l3⟩ := immVs_ok h hob hys (ids := idsVs (lapp first (lapp zs caps))) (fun _ h => h)
      have h' := h.freeze _ l2
      obtain ⟨o1, o2⟩ := ops_list hv
      obtain ⟨vs, us, hfv, e1, e2, r1, r2⟩ : ∃ vs us, a.eval fo = .func (.func k) vs us ∧ first.length = vs.size ∧ caps.length = us.size ∧ (∀ (i : Nat) x v, first[i]? = some x → vs[i]? = some v → R w.heap D μ x v) ∧ (∀ (i : Nat) x v, caps[i]? = some x → us[i]? = some v → R w.heap D μ x v) := by
        generalize a.eval fo = u at hf
        cases hf with
        | fn _ _ _ vs us e1 e2 h1 h2 => exact ⟨vs, us, rfl, e1, e2, h1, h2⟩
      have hl : zs.length = xs.size := by rw [o1]; simp
      have hRL : RL w.heap (DF D μ (idsVs (lapp first (lapp zs caps)))) noMu ys ((vs ++ xs.map a.eval) ++ us) := by
        refine ⟨by rw [l1, lapp_eq, lapp_eq]; simp [e1, e2, hl], fun i x' v hx' hv' => ?_⟩
        have hlt : i < (lapp first (lapp zs caps)).length := by rw [← l1]; exact (List.getElem?_eq_some_iff.1 hx').1
        refine l3 i _ x' v (List.getElem?_eq_getElem hlt) hx' ?_
        obtain ⟨x, hx⟩ : ∃ x, (lapp first (lapp zs caps))[i]? = some x := ⟨_, List.getElem?_eq_getElem hlt⟩
        have hx2 : (lapp first (lapp zs caps))[i]'hlt = x := (List.getElem?_eq_some_iff.1 hx).2
        rw [hx2]
        rw [lapp_eq, lapp_eq] at hx
        rw [Array.append_assoc] at hv'
        by_cases i1 : i < first.length
        · rw [List.getElem?_append_left i1] at hx
          rw [Array.getElem?_append_left (by omega)] at hv'
          exact r1 i x v hx hv'
        · rw [List.getElem?_append_right (by omega)] at hx
          rw [Array.getElem?_append_right (by omega)] at hv'
          rw [e1] at hx
          by_cases i2 : i - vs.size < zs.length
          · rw [List.getElem?_append_left i2] at hx
            rw [Array.getElem?_append_left (by simp; omega)] at hv'
            have i3 : i - vs.size < xs.size := by omega
            simp [i3] at hv'
            subst hv'
            exact o2 _ x _ hx (by simp [i3])
          · rw [List.getElem?_append_right (by omega)] at hx
            rw [Array.getElem?_append_right (by simp; omega)] at hv'
            simp only [Array.size_map, ← hl] at hv'
            exact r2 _ x v hx hv'
      have hcall := hr _ w _ h'.dlt hRL h'.gok
      have fin : ∀ v D' w', Below w.heap.size w w' → (∀ b, DF D μ (idsVs (lapp first (lapp zs caps))) b → D' b) → (∀ b, D' b → DF D μ (idsVs (lapp first (lapp zs caps))) b ∨ (w.heap.size ≤ b ∧ b < w'.heap.size)) → R w'.heap D' noMu r v → K (a.put o.dst v) w' := by
        intro v D' w' hb hD hD' hrv
        have hs := h'.world hb.os hb.tape hb.output hb.size hb.block hD hD'
        exact hK _ _ ⟨_, _, hs.put hd hrv.free⟩
      unfold Oper.wp
      have hrun : (execOp a.eval o).run P w = (callFunc k ((vs ++ xs.map a.eval) ++ us)).run P w := by
        unfold execOp
        rw [e]
        simp [resolve, hfv, Deferred.ofValue, invoke]
      rw [hrun]
      unfold CallTo at hcall
      split at hcall
      · rename_i f' args' w' hcf
        rw [hcf, Oper.upon_enter]
        refine hcall.mono fun en w'' hen => ?_
        obtain ⟨v, D', rfl, p1, p2, p3, p4⟩ := hen
        exact fin v D' w'' p1 p2 p3 p4
      · rename_i v w' hcf
        rw [hcf, Oper.upon_value]
        obtain ⟨v', D', hv', p1, p2, p3, p4⟩ := hcall
        cases hv'
        exact fin v D' w' p1 p2 p3 p4
      · exact hcall.elim
    · trivial
  · trivial

/-- Any operation does what the executor says. -/
theorem says (hT : TsOk P T) (hpl : ∀ x ∈ opnds o.op, ∀ v, x = .const v → plainC v = true) {kn : List (Nat × Bool)} (hk : ∀ t b, aget kn t = some b → f t = some (.bool b)) : Says P base M W nt f g c o a w (stepV T std f g c kn o) := by
  have hv : ∀ l : List Operand, (∀ x ∈ l, ∀ v, x = .const v → plainC v = true) → Ops w.heap D μ a l (lmap (evf f kn) l) := by
    intro l
    induction l with
    | nil => intro _; trivial
    | cons x l ih => intro hp; exact ⟨evf_R h hk x (fun v hv => hp x (by simp) v hv), ih (fun y hy => hp y (by simp [hy]))⟩
  have hv := hv _ hpl
  unfold stepV
  generalize lmap (evf f kn) (opnds o.op) = vals at hv ⊢
  have hob : ∀ ids id z, look g ids id = some z → g id = some z := by
    intro ids id z hz
    unfold look at hz
    split at hz
    · exact hz
    · cases hz
  have hice : ∀ id, iceOf c o.op vals id = false → c id = false := by
    intro id hz
    unfold iceOf at hz
    split at hz
    · split at hz
      · exact hz
      · cases hz
    · cases hz
  unfold core
  split
  · rename_i x e; rw [e] at hv; exact says_move h hd (.inl e) hv
  · rename_i x e; rw [e] at hv; exact says_move h hd (.inr e) hv
  · rename_i b x y e; rw [e] at hv; exact says_pick h hd e hv
  · rename_i op t x y t' e; rw [e] at hv; exact says_binC h hd hT e hv
  · rename_i op t x e; rw [e] at hv; exact says_un h hd e hv
  · rename_i s t x e
    have hv' := hv; rw [e] at hv'
    split
    · rename_i ht; exact says_bytes h hd hT e ht hv'
    · exact says_conv h hd hT e hv' (hob _)
  · rename_i t e; exact says_alloc h hd hT e
  · rename_i t x e
    have hv' := hv; rw [e] at hv'; exact says_box h hd hT e hv'
  · rename_i t ps e
    have hv' := hv; rw [e] at hv'; simp only [opnds, lmap_map] at hv'; exact says_build h hd hT e hv'
  · rename_i t n ps e
    have hv' := hv; rw [e] at hv'; simp only [opnds, lmap_map] at hv'; exact says_slit h hd hT e hv' (hob _)
  · rename_i t x e
    have hv' := hv; rw [e] at hv'; exact says_load h hd hT e hv' (hob _)
  · rename_i t x y e
    have hv' := hv; rw [e] at hv'; exact says_store h hd hT e hv' (hob _) hice
  · rename_i t x k e
    have hv' := hv; rw [e] at hv'; exact says_faddr h hd hT e hv'
  · rename_i t x k e
    have hv' := hv; rw [e] at hv'; exact says_field h hd hT e hv'
  · rename_i t x y e
    have hv' := hv; rw [e] at hv'; exact says_iaddr h hd hT e hv' (hob _)
  · rename_i t x y e
    have hv' := hv; rw [e] at hv'; exact says_index h hd hT e hv'
  · rename_i t x l r m e
    have hv' := hv; rw [e] at hv'; simp only [opnds, lapp_eq] at hv'; exact says_slice h hd hT e hv' (hob _)
  · rename_i x i e
    have hv' := hv; rw [e] at hv'; exact says_extract h hd e hv'
  · rename_i fn xs ys e
    have hv' := hv; rw [e] at hv'; simp only [opnds, lapp_eq] at hv'; exact says_func h hd e hv'
  · rename_i x e
    have hv' := hv; rw [e] at hv'; exact says_nil h hd e hv'
  · rename_i t x e
    have hv' := hv; rw [e] at hv'; exact says_arr h hd hT e hv' (hob _)
  · rename_i t x y e
    have hv' := hv; rw [e] at hv'; exact says_mslice h hd hT e hv'
  · rename_i t e; exact says_make h hd hT e
  · rename_i t x y ok e
    have hv' := hv; rw [e] at hv'; exact says_look h hd hT e hv' (hob _)
  · rename_i t x y v e
    have hv' := hv; rw [e] at hv'; exact says_mup h hd hT e hv' (hob _) hice
  · rename_i cl e
    obtain ⟨callee, args, ts⟩ := cl
    have hv' := hv
    rw [e] at hv'
    cases callee with
    | value fo => exact says_call h hd e hv' (hob _)
    | invoke r m => trivial
    | builtin b =>
      simp only [opnds] at hv'
      cases b with
      | len =>
        simp only
        split
        · rename_i t r hts
          match args, hv' with
          | ⟨[x]⟩, hv' => exact says_len h hd hT hts e hv' (hob _)
          | ⟨[]⟩, hv' => match vals, hv' with | [], _ => trivial
          | ⟨x :: y :: l⟩, hv' => match vals, hv' with | u :: v :: vs, _ => trivial
        · trivial
      | unsafeSliceData =>
        match args, hv' with
        | ⟨[x]⟩, hv' => exact says_sdata h hd e hv'
        | ⟨[]⟩, hv' => match vals, hv' with | [], _ => trivial
        | ⟨x :: y :: l⟩, hv' => match vals, hv' with | u :: v :: vs, _ => (show Says _ _ _ _ _ _ _ _ _ _ _ (cSData _ _); unfold cSData; split; (rename_i he; simp at he); trivial)
      | unsafeString =>
        simp only
        split
        · rename_i t t2 hts
          match args, hv' with
          | ⟨[x, y]⟩, hv' => exact says_ustr h hd hT hts e hv' (hob _) hice
          | ⟨[]⟩, hv' => match vals, hv' with | [], _ => trivial
          | ⟨[x]⟩, hv' => match vals, hv' with | [u], _ => (show Says _ _ _ _ _ _ _ _ _ _ _ (cUStr _ _ _ _ _ _); unfold cUStr; split; (rename_i he; simp at he); trivial)
          | ⟨x :: y :: z :: l⟩, hv' => match vals, hv' with | u :: v :: q :: vs, _ => (show Says _ _ _ _ _ _ _ _ _ _ _ (cUStr _ _ _ _ _ _); unfold cUStr; split; (rename_i he; simp at he); trivial)
        · trivial
      | min =>
        match args, hv' with
        | ⟨[x, y]⟩, hv' => exact says_min h hd e hv'
        | ⟨[]⟩, hv' => match vals, hv' with | [], _ => trivial
        | ⟨[x]⟩, hv' => match vals, hv' with | [u], _ => cases u <;> trivial
        | ⟨x :: y :: z :: l⟩, hv' => match vals, hv' with | u :: v :: q :: vs, _ => (show Says _ _ _ _ _ _ _ _ _ _ _ (cMin _ _); unfold cMin; split; (rename_i he; simp at he); trivial)
      | max =>
        match args, hv' with
        | ⟨[x, y]⟩, hv' => exact says_max h hd e hv'
        | ⟨[]⟩, hv' => match vals, hv' with | [], _ => trivial
        | ⟨[x]⟩, hv' => match vals, hv' with | [u], _ => cases u <;> trivial
        | ⟨x :: y :: z :: l⟩, hv' => match vals, hv' with | u :: v :: q :: vs, _ => (show Says _ _ _ _ _ _ _ _ _ _ _ (cMax _ _); unfold cMax; split; (rename_i he; simp at he); trivial)
      | append =>
        simp only
        split
        · rename_i t t' hts
          match args, hv' with
          | ⟨[x, y]⟩, hv' => exact says_append h hd hT hts e hv' (hob _) hice
          | ⟨[]⟩, hv' => match vals, hv' with | [], _ => trivial
          | ⟨[x]⟩, hv' => match vals, hv' with | [u], _ => trivial
          | ⟨x :: y :: z :: l⟩, hv' => match vals, hv' with | u :: v :: q :: vs, _ => trivial
        · trivial
      | copy =>
        simp only
        split
        · rename_i t t' hts
          match args, hv' with
          | ⟨[x, y]⟩, hv' => exact says_copy h hd hT hts e hv' (hob _) hice
          | ⟨[]⟩, hv' => match vals, hv' with | [], _ => trivial
          | ⟨[x]⟩, hv' => match vals, hv' with | [u], _ => (show Says _ _ _ _ _ _ _ _ _ _ _ (cCopy _ _ _ _ _ _ _); unfold cCopy; split; (rename_i he; simp at he); trivial)
          | ⟨x :: y :: z :: l⟩, hv' => match vals, hv' with | u :: v :: q :: vs, _ => (show Says _ _ _ _ _ _ _ _ _ _ _ (cCopy _ _ _ _ _ _ _); unfold cCopy; split; (rename_i he; simp at he); trivial)
        · trivial
      | delete =>
        simp only
        split
        · rename_i t t' hts
          match args, hv' with
          | ⟨[x, y]⟩, hv' => exact says_mdel h hd hT hts e hv' (hob _) hice
          | ⟨[]⟩, hv' => match vals, hv' with | [], _ => trivial
          | ⟨[x]⟩, hv' => match vals, hv' with | [u], _ => (show Says _ _ _ _ _ _ _ _ _ _ _ (cMdel _ _ _ _ _ _); unfold cMdel; split; (rename_i he; simp at he); trivial)
          | ⟨x :: y :: z :: l⟩, hv' => match vals, hv' with | u :: v :: q :: vs, _ => (show Says _ _ _ _ _ _ _ _ _ _ _ (cMdel _ _ _ _ _ _); unfold cMdel; split; (rename_i he; simp at he); trivial)
        · trivial
      | _ => trivial
  · trivial
end

end Sy
end Go.Proofs.YtckbbcjbbmgmoaaDoor
