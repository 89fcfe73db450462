/- The symbolic executor: functions. -/
import Derived.Test.YtckbbcjbbmgmoaaDoorSyR
namespace Go.Proofs.YtckbbcjbbmgmoaaDoor
namespace Sy
open Go Go.RowKit
set_option linter.unusedSimpArgs false
set_option linter.unusedVariables false
set_option linter.unusedSectionVars false

/-! ### what a run's value is of a value that was told -/
def andL : List Prop → Prop
  | [] => True
  | p :: r => p ∧ andL r
def fits1 (r v : AV) : Prop := match meetA ⟨[], []⟩ r v with
  | some ⟨ps, []⟩ => andL ps
  | _ => False
def fitsL : List AV → List AV → Prop
  | [], [] => True
  | x :: xs, y :: ys => fits1 x y ∧ fitsL xs ys
  | _, _ => False
/-- The value v is r. -/
def fits (r v : AV) : Prop := match r, v with
  | .tup rs, .tup vs => fitsL rs vs
  | r, v => fits1 r v
theorem andL_mem : ∀ {l : List Prop}, andL l → ∀ p, p ∈ l → p
  | [], _, p, h => by cases h
  | q :: l, ⟨h1, h2⟩, p, h => by
    rcases List.mem_cons.1 h with rfl | h
    · exact h1
    · exact andL_mem h2 p h
theorem muOf_no (μ : Mu) : muOf μ [] = noMu := rfl
theorem fits1_R {h : Array Obj} {D : Nat → Prop} {r v : AV} {x : Value} (f : fits1 r v) (hr : R h D noMu v x) : R h D noMu r x := by
  unfold fits1 at f
  split at f
  · rename_i ps e
    have := (meetA_ok (h := h) (D := D) (μ := noMu) e).2 [] x ⟨fun _ _ h => h, andL_mem f⟩ hr
    rwa [muOf_no] at this
  · exact f.elim
theorem fitsL_R {h : Array Obj} {D : Nat → Prop} : ∀ {rs vs : List AV}, fitsL rs vs → rs.length = vs.length ∧ ∀ (i : Nat) r v x, rs[i]? = some r → vs[i]? = some v → R h D noMu v x → R h D noMu r x
  | [], [], _ => ⟨rfl, fun i r v x h => by simp at h⟩
  | r :: rs, v :: vs, ⟨f1, f2⟩ => by
    obtain ⟨l1, h1⟩ := fitsL_R (h := h) (D := D) f2
    refine ⟨by simp [l1], fun i r' v' x hr hv hx => ?_⟩
    cases i with
    | zero => simp at hr hv; subst hr; subst hv; exact fits1_R f1 hx
    | succ i => exact h1 i r' v' x (by simpa using hr) (by simpa using hv) hx
  | [], _ :: _, f => f.elim
  | _ :: _, [], f => f.elim
theorem fits_R {h : Array Obj} {D : Nat → Prop} {r v : AV} {x : Value} (f : fits r v) (hr : R h D noMu v x) : R h D noMu r x := by
  unfold fits at f
  split at f
  · rename_i rs vs
    obtain ⟨us, rfl, l1, h1⟩ := hr.inv_tup
    obtain ⟨l2, h2⟩ := fitsL_R (h := h) (D := D) f
    refine .tup _ _ (by rw [l2, l1]) fun i r x hr hx => ?_
    obtain ⟨v, hv⟩ : ∃ v, vs[i]? = some v := ⟨_, List.getElem?_eq_getElem (by rw [← l2]; exact (List.getElem?_eq_some_iff.1 hr).1)⟩
    exact h2 i r v x hr hv (h1 i v x hv hx)
  · exact fits1_R f hr

/-! ### the results -/
theorem bind_pure' {α : Type} (x : Sem α) : x.bind .pure = x := by
  induction x <;> simp only [Sem.bind] <;> (try (congr 1; try funext _)) <;> (first | rfl | (rename_i ih; exact ih _) | (rename_i ih; exact ih) | (rename_i ih _; exact ih _))
theorem bind_assoc' {α β γ : Type} (x : Sem α) (f : α → Sem β) (g : β → Sem γ) : (x.bind f).bind g = x.bind fun a => (f a).bind g := by
  induction x <;> simp only [Sem.bind] <;> (try (congr 1; try funext _)) <;> (first | rfl | (rename_i ih; exact ih _) | (rename_i ih; exact ih) | (rename_i ih _; exact ih _))
instance : LawfulMonad Sem := LawfulMonad.mk' Sem (fun x => bind_pure' x) (fun _ _ => rfl) (fun x f g => bind_assoc' x f g)
theorem mapM_run {α : Type} {P : Program} {w : World} {k : α → Sem Value} : ∀ {zs : List α} {us : Nat → Value}, (∀ (i : Nat) x, zs[i]? = some x → (k x).run P w = .ok (us i) w) →
    (zs.mapM k).run P w = .ok ((List.range zs.length).map us) w
  | [], us, h => by simp
  | z :: zs, us, h => by
    have ih := mapM_run (zs := zs) (us := fun i => us (i + 1)) (fun i x hx => h (i + 1) x (by simpa using hx))
    rw [List.mapM_cons, Sem.run_bind, h 0 z rfl]
    simp only [Result.andThen_ok, Sem.run_bind, ih, Sem.run_pure]
    rw [List.length_cons, List.range_succ_eq_map]
    simp [Function.comp_def]

section
variable {P : Program} {T : TT} {base : Nat} {M : Two} {W : World} {nt : Nat} {s : St} {a : Act} {w : World} {D : Nat → Prop} {μ : Mu}
def resOp (tmps : Array Value) : ResultVar → Sem Value
  | .tmp t => pure (tmps.getD t undef)
  | .cell a t => do loadVar t (← asAddr (tmps.getD a undef))
theorem res_go (h : Sim base M W nt (aget s.slots) (aget s.objs) (lhas s.ice) a w D μ) (hT : TsOk P T) {x : ResultVar} {v : AV} (e : resV T s x = some v) : ∃ u, (resOp a.tmps x).run P w = .ok u w ∧ R w.heap D μ v u := by
  have ev : ∀ t, R w.heap D μ (evf (aget s.slots) [] (.tmp t)) (a.tmps.getD t undef) := fun t => evf_R h (fun t b ht => by simp [aget] at ht) (.tmp t) (fun v hv => by cases hv)
  cases x with
  | tmp t =>
    simp only [resV, Option.some.injEq] at e
    subst e
    exact ⟨_, rfl, ev t⟩
  | cell p t =>
    simp only [resV] at e
    have hl := load_val h hT (t := t) (ev p) (ob := aget s.objs) (fun _ _ h => h)
    split at e
    · rename_i v' os ice hc
      rw [hc] at hl
      cases e
      obtain ⟨_, _, y, hy, r⟩ := hl
      refine ⟨y, ?_, r⟩
      simp only [resOp]
      generalize a.tmps.getD p undef = u at *
      unfold Instr.loadAt Instr.sureAddr at hy
      unfold asAddr
      split at hy
      · rename_i q; simpa using hy
      · simp [stuck] at hy
    · cases e
theorem ress_go (h : Sim base M W nt (aget s.slots) (aget s.objs) (lhas s.ice) a w D μ) (hT : TsOk P T) : ∀ {rs : List ResultVar} {vs : List AV}, resVs T s rs = some vs →
    vs.length = rs.length ∧ ∃ us : Nat → Value, (∀ (i : Nat) x, rs[i]? = some x → (resOp a.tmps x).run P w = .ok (us i) w) ∧ ∀ (i : Nat) v, vs[i]? = some v → R w.heap D μ v (us i)
  | [], vs, e => by cases e; exact ⟨rfl, fun _ => undef, fun i x hx => by simp at hx, fun i x hx => by simp at hx⟩
  | x :: rs, vs, e => by
    unfold resVs at e
    split at e
    · rename_i v hv
      split at e
      · rename_i l hl
        cases e
        obtain ⟨u, hu, r⟩ := res_go h hT hv
        obtain ⟨l1, us, h1, h2⟩ := ress_go h hT hl
        refine ⟨by simp [l1], fun i => match i with | 0 => u | i + 1 => us i, fun i x' hx => ?_, fun i v' hv' => ?_⟩
        · cases i with
          | zero => simp at hx; subst hx; exact hu
          | succ i => exact h1 i x' (by simpa using hx)
        · cases i with
          | zero => simp at hv'; subst hv'; exact r
          | succ i => exact h2 i v' (by simpa using hv')
      · cases e
    · cases e
theorem results_run {fn : Func} {tmps : Array Value} {us : Nat → Value} (h : ∀ (i : Nat) x, fn.results.toList[i]? = some x → (resOp tmps x).run P w = .ok (us i) w) :
    (results fn tmps).run P w = .ok (if fn.results.size = 1 then us 0 else .tuple ((List.range fn.results.size).map us).toArray) w := by
  have h1 : (fn.results.mapM (resOp tmps)).run P w = .ok ((List.range fn.results.size).map us).toArray w := by
    have e : fn.results = fn.results.toList.toArray := by simp
    rw [e, List.mapM_toArray, map_eq_pure_bind, Sem.run_bind, mapM_run h]
    simp
  have h2 : results fn tmps = (do
      let vs ← fn.results.mapM (resOp tmps)
      pure (if h : vs.size = 1 then vs[0] else .tuple vs)) := by
    unfold results
    congr 1
  rw [h2, Sem.run_bind, h1]
  simp only [Result.andThen_ok, Sem.run_pure]
  congr 1
  by_cases e : fn.results.size = 1
  · rw [if_pos e, dif_pos (by simp [e])]
    try simp
  · rw [if_neg e, dif_neg (by simp [e])]
end

theorem aget_number {α : Type} : ∀ (xs : List α) (i t : Nat), aget (number i xs) t = if i ≤ t then xs[t - i]? else none
  | [], i, t => by simp [number, aget]
  | x :: xs, i, t => by
    unfold number aget
    cases e : nbeq i t with
    | true => have := beq_eq e; subst this; simp
    | false =>
      have hne : i ≠ t := by rintro rfl; rw [beq_same] at e; cases e
      simp only
      rw [aget_number xs (i + 1) t]
      by_cases h : i ≤ t
      · rw [if_pos (by omega), if_pos h]
        obtain ⟨k, hk⟩ : ∃ k, t - i = k + 1 := ⟨t - i - 1, by omega⟩
        rw [hk, show t - (i + 1) = k by omega]
        simp
      · rw [if_neg (by omega), if_neg h]

theorem callFunc_run {P : Program} {f : FuncId} {fn : Func} {args : Array Value} {w : World} (hf : P.funcs[f]? = some fn) (hn : (fn.name == "runtime.NumGoroutine") = false) {c : Code} (hb : fn.body = some c) :
    (callFunc f args).run P w = .ok (.enter f args) w := by
  have hn' : ¬ fn.name = "runtime.NumGoroutine" := by simpa using hn
  unfold callFunc
  simp [program, Sem.run, hf, hn', hb]

/-- **A function**: if the executor's run of it ends in r wherever it ends, the function answers r. -/
theorem acalls_of {P : Program} {T : TT} {S : Sums} {lo lb : Nat → St → Option Ann} {n : Nat} {f : FuncId} {fn : Func} {c : Code} {xs : List AV} {r : AV} (hf : P.funcs[f]? = some fn) (hb : fn.body = some c) (hn : (fn.name == "runtime.NumGoroutine") = false)
    (hc : codeOk fn.ntmps c = true) (hx : (nble xs.length fn.ntmps && nble fn.ntmps 500000) = true) (hT : TsOk P T) (hS : SumsOk P S) (hm : P.follows .mixedOrders = true) (h : Sat P (fits r) (runF T std S lo lb n fn xs)) : ACalls P f xs r := by
  intro D w vs hD hxs hg
  rw [Bool.and_eq_true] at hx
  have hnb := ble_le hx.2
  have hx := ble_le hx.1
  unfold CallTo
  rw [callFunc_run hf hn hb]
  simp only
  refine calls_of_wp hf hb ?_
  unfold runF at h
  rw [hb] at h
  refine code_go (base := w.heap.size) (M := ⟨fun _ => False, D, fun _ => none⟩) (W := w) hT hS hm hc ⟨⟨D, noMu, ?_⟩, fun t b ht => by simp [aget] at ht⟩ h (fun e s a w' hs h' => ?_)
  · refine { os := rfl, tape := rfl, output := rfl, size := Nat.le_refl _, bs := Nat.le_refl _, old := fun _ _ _ => rfl, defers := rfl, tmps := ?_, slots := fun t v hv => ?_, dlt := hD, low := fun b hb _ => .inl hb, dom := fun id => by simp [aget], obs := fun id o x ho => (by simp [aget] at ho), inj := fun id id' b z z' o o' h => (by cases h), own := fun id b z h => (by cases h), kd := fun id b z o h => (by cases h), icy := fun id h => by (simp [lhas] at h), ntb := hnb, pin := fun id y _ h => (by cases h), gl := ⟨hg, GOk_size hg, fun _ h => h.elim⟩ }
    · rw [hxs.1] at hx
      simp; omega
    · rw [aget_number, if_pos (by omega), Nat.sub_zero] at hv
      have hlt : t < vs.size := by rw [← hxs.1]; exact (List.getElem?_eq_some_iff.1 hv).1
      have h1 : vs[t]? = some vs[t] := by simp [hlt]
      have h2 : (vs ++ Array.replicate (fn.ntmps - vs.size) undef).getD t undef = vs[t] := by
        rw [Array.getD_eq_getD_getElem?, Array.getElem?_append_left hlt, h1]; rfl
      rw [h2]
      exact hxs.2 t v vs[t] hv h1
  · obtain ⟨⟨D1, μ, S1⟩, _⟩ := hs
    have key : Sat P (fits r) (endT T std fn.results.toList s) → a.defers = [] ∧ ∃ v, (results fn a.tmps).run P w' = .ok v w' ∧ ∃ v' D', Ending.returned v = .returned v' ∧ Below w.heap.size w w' ∧ (∀ b, D b → D' b) ∧ (∀ b, D' b → D b ∨ (w.heap.size ≤ b ∧ b < w'.heap.size)) ∧ R w'.heap D' noMu r v' := by
      intro h'
      unfold endT at h'
      split at h'
      · rename_i vs1 hvs
        obtain ⟨l1, us, h1, h2⟩ := ress_go S1 hT hvs
        have hres := results_run (P := P) (w := w') (fn := fn) (tmps := a.tmps) h1
        have hB : Below w.heap.size w w' := ⟨S1.os, S1.tape, S1.output, S1.size, fun b hb => S1.old b hb (fun h => h)⟩
        -- the blocks that the results may lead to
        have hD' : ∀ b, (D b ∨ DF D1 μ (idsVs vs1) b) → D b ∨ (w.heap.size ≤ b ∧ b < w'.heap.size) := by
          rintro b (hb | hb | ⟨id, z, m, _, hm⟩)
          · exact .inl hb
          · by_cases hlt : b < w.heap.size
            · rcases S1.low b hb hlt with h | h
              · exact .inl h
              · exact h.elim
            · exact .inr ⟨by omega, S1.dlt b hb⟩
          · rcases S1.own id b _ hm with ⟨q1, q2 | q2⟩
            · exact .inr ⟨q2, q1⟩
            · exact q2.elim
        have imm : ∀ vs2, immVs std (aget s.objs) vs1 = some vs2 → vs2.length = vs1.length ∧ ∀ (i : Nat) v, vs2[i]? = some v → R w'.heap (fun b => D b ∨ DF D1 μ (idsVs vs1) b) noMu v (us i) := by
          intro vs2 e2
          obtain ⟨i1, _, i3⟩ := immVs_ok S1 (ob := aget s.objs) (fun _ _ h => h) e2 (ids := idsVs vs1) (fun _ h => h)
          refine ⟨i1, fun i v hv => ?_⟩
          obtain ⟨v1, hv1⟩ : ∃ v1, vs1[i]? = some v1 := ⟨_, List.getElem?_eq_getElem (by rw [← i1]; exact (List.getElem?_eq_some_iff.1 hv).1)⟩
          exact (i3 i v1 v (us i) hv1 hv (h2 i v1 hv1)).mono (fun _ _ => rfl) (fun b hb => .inr hb) (fun _ _ h => by cases h)
        refine ⟨S1.defers, _, hres, _, fun b => D b ∨ DF D1 μ (idsVs vs1) b, rfl, hB, fun b hb => .inl hb, hD', ?_⟩
        split at h'
        · rename_i v1 e2
          cases h' with
          | done h' =>
            obtain ⟨i1, i2⟩ := imm _ e2
            have hsz : fn.results.size = 1 := by rw [← Array.length_toList, ← l1, ← i1]; rfl
            rw [if_pos hsz]
            exact fits_R h' (i2 0 v1 rfl)
        · rename_i vs2 hne e2
          cases h' with
          | done h' =>
            obtain ⟨i1, i2⟩ := imm _ e2
            have hl : vs2.length = fn.results.size := by rw [i1, l1, Array.length_toList]
            have hsz : ¬ fn.results.size = 1 := by
              rw [← hl]
              intro h1
              obtain ⟨v, hv⟩ := List.length_eq_one_iff.1 h1
              exact hne v hv
            rw [if_neg hsz]
            refine fits_R h' (.tup _ _ (by simp [hl]) fun i v x hv hx => ?_)
            have hlt : i < fn.results.size := by rw [← hl]; exact (List.getElem?_eq_some_iff.1 hv).1
            simp [hlt] at hx
            subst hx
            exact i2 i v hv
        · cases h'
      · cases h'
    cases e with
    | normal => exact key h'
    | ret => exact key h'
    | exit id => cases h'
    | goto l => cases h'
end Sy
end Go.Proofs.YtckbbcjbbmgmoaaDoor
