/- The symbolic executor: slices that are made, stores. -/
import Derived.Test.YtckbbcjbbmgmoaaDoorSyK
import Derived.Laws.MakeOwn
namespace Go.Proofs.YtckbbcjbbmgmoaaDoor
namespace Sy
open Go Go.RowKit
set_option linter.unusedSimpArgs false
set_option linter.unusedVariables false

/-- Stores into cells of a block none of which is frozen. -/
theorem stores_run (P : Program) (b o : Nat) (t : TypeId) (fr : Nat × Nat) : ∀ (vs : List Value) (i : Nat) (C : Array Value) (w : World), w.heap[b]? = some (.cells C t fr) → noFr C.size fr → o + i + vs.length ≤ C.size → (∀ v ∈ vs, one v) →
    (storeCells ⟨b, o, none⟩ vs i).run P w = .ok () (w.setRow b (seqset C (o + i) vs))
  | [], i, C, w, hg, _, _, _ => by
    simp only [storeCells, seqset]
    rw [setRow_self w b C t fr hg]
    rfl
  | v :: rest, i, C, w, hg, hf, hl, h1 => by
    have hi : o + i < C.size := by simp at hl; omega
    have hcell : w.cell? ⟨b, o + i, none⟩ = some C[o + i] := by simp [World.cell?, hg, hi]
    have hfro : w.frozen? ⟨b, o + i, none⟩ = false := by
      have := hf (o + i) hi
      simp only [World.frozen?, hg]
      simp only [Bool.and_eq_false_iff, decide_eq_false_iff_not]
      omega
    have hst : (store ((⟨b, o, none⟩ : Addr).add i) v).run P w = .ok () (w.setRow b (C.setIfInBounds (o + i) v)) := by
      rw [add_none, run_store P w _ v _ (h1 v (by simp)), hcell]
      simp [hfro, setCell_eq_setRow w b (o + i) C t fr v hg]
    have ih := stores_run P b o t fr rest (i + 1) (C.setIfInBounds (o + i) v) (w.setRow b (C.setIfInBounds (o + i) v)) (setRow_heap w b C _ t _ hg) (by simpa using hf) (by simp at hl ⊢; omega) (fun x hx => h1 x (by simp [hx]))
    simp only [storeCells, Sem.run_bind, hst, Result.andThen_ok, ih, setRow_setRow]
    rfl
theorem setRow_other (w : World) (b k : Nat) (C : Array Value) (hk : k ≠ b) : (w.setRow b C).heap[k]? = w.heap[k]? := by
  simp only [World.setRow, Array.getElem?_modify]
  rw [if_neg (fun e => hk e.symm)]
theorem setRow_size (w : World) (b : Nat) (C : Array Value) : (w.setRow b C).heap.size = w.heap.size := by simp [World.setRow]

theorem lwrite_len {α : Type} : ∀ (ys xs : List α) (n : Nat), (lwrite xs n ys).length = xs.length
  | [], xs, n => rfl
  | y :: ys, xs, n => by rw [lwrite, lwrite_len ys, lset_eq, List.length_set]
theorem seqset_get : ∀ (l : List Value) (n : Nat) (C : Array Value) (k : Nat), k < C.size → (seqset C n l)[k]? = if n ≤ k ∧ k < n + l.length then l[k - n]? else C[k]?
  | [], n, C, k, hk => by
    rw [if_neg (by simp only [List.length_nil]; omega), seqset]
  | x :: xs, n, C, k, hk => by
    rw [seqset, seqset_get xs (n + 1) _ k (by simpa using hk)]
    by_cases h1 : n = k
    · subst h1
      rw [if_neg (by omega), if_pos ⟨by omega, by simp⟩, Array.getElem?_setIfInBounds, if_pos rfl, if_pos hk]
      simp
    · by_cases h2 : n + 1 ≤ k ∧ k < n + 1 + xs.length
      · rw [if_pos h2, if_pos ⟨by omega, by simp; omega⟩]
        obtain ⟨q, hq⟩ : ∃ q, k - n = q + 1 := ⟨k - n - 1, by omega⟩
        rw [hq, show k - (n + 1) = q by omega]
        rfl
      · rw [if_neg h2, if_neg (by simp; omega), Array.getElem?_setIfInBounds, if_neg h1]
theorem lwrite_get {α : Type} : ∀ (l C : List α) (n k : Nat), k < C.length → (lwrite C n l)[k]? = if n ≤ k ∧ k < n + l.length then l[k - n]? else C[k]?
  | [], C, n, k, hk => by
    rw [if_neg (by simp only [List.length_nil]; omega), lwrite]
  | x :: xs, C, n, k, hk => by
    rw [lwrite, lset_eq, lwrite_get xs _ (n + 1) k (by simpa using hk)]
    by_cases h1 : n = k
    · subst h1
      rw [if_neg (by omega), if_pos ⟨by omega, by simp⟩, List.getElem?_set, if_pos rfl, if_pos hk]
      simp
    · by_cases h2 : n + 1 ≤ k ∧ k < n + 1 + xs.length
      · rw [if_pos h2, if_pos ⟨by omega, by simp; omega⟩]
        obtain ⟨q, hq⟩ : ∃ q, k - n = q + 1 := ⟨k - n - 1, by omega⟩
        rw [hq, show k - (n + 1) = q by omega]
        rfl
      · rw [if_neg h2, if_neg (by simp; omega), List.getElem?_set, if_neg h1]
theorem fillA_len {pl : Nat → Option (Nat × Nat)} : ∀ (ps : List (Nat × Operand)) (vals : List AV) (cells : List AV) (cs : List AV), fillA pl cells ps vals = some cs → cs.length = cells.length
  | [], [], cells, cs, e => by cases e; rfl
  | [], _ :: _, _, _, e => by cases e
  | (i, p) :: ps, [], _, _, e => by cases e
  | (i, p) :: ps, v :: vs, cells, cs, e => by
    simp only [fillA] at e
    split at e
    · split at e
      · split at e
        · rw [fillA_len ps vs _ cs e, lwrite_len]
        · cases e
      · cases e
    · cases e
theorem sel1_true {h : Array Obj} {D : Nat → Prop} {μ : Mu} {x : AV} {v : Value} (r : R h D μ x v) : ∀ y, R h D μ (sel1 std true x y) v := by
  induction r with
  | bool b => intro y; cases y <;> first | exact .bool _ | exact .dead _
  | int k n => intro y; cases y <;> first | exact .dead _ | skip
               rename_i k' m
               simp only [sel1]
               split
               · exact .int _ _
               · exact .dead _
  | str l s e => intro y; cases y <;> first | exact .str _ _ e | exact .dead _
  | nilp => intro y; cases y <;> first | exact .nilp | exact .dead _
  | nilm => intro y; cases y <;> first | exact .nilm | exact .dead _
  | nilf => intro y; cases y <;> first | exact .nilf | exact .dead _
  | nils => intro y; cases y <;> first | exact .nils | exact .lst0 _ _ _ _ (fun _ => rfl) | exact .dead _
  | nili => intro y; cases y <;> first | exact .nili | exact .dead _
  | ifn => intro y; cases y <;> first | exact .ifn | exact .dead _
  | ifs t p => intro y; cases y <;> first | exact .ifs _ _ | exact .dead _
  | emp a cap => intro y; cases y <;> exact .dead _
  | emz a => intro y; cases y <;> exact .dead _
  | lst0 sz get a cap hn => intro y; cases y <;> first | exact .lst0 _ _ _ _ hn | exact .dead _ | skip
                            simp only [sel1]
                            split
                            · exact .lst0 _ _ _ _ hn
                            · exact .dead _
  | lst sz n get b o cap vs hD hc hv h1 hr ih =>
    intro y
    cases y with
    | nils => exact .lst _ _ _ b o cap vs hD hc hv h1 hr
    | lst sz' n' get' =>
      simp only [sel1]
      split
      · exact .lst _ _ _ b o cap vs hD hc hv h1 hr
      · exact .dead _
    | _ => exact .dead _
  | _ => intro y; cases y <;> exact .dead _
theorem sel1_false {h : Array Obj} {D : Nat → Prop} {μ : Mu} {y : AV} {v : Value} (r : R h D μ y v) : ∀ x, R h D μ (sel1 std false x y) v := by
  induction r with
  | bool b => intro x; cases x <;> first | exact .bool _ | exact .dead _
  | int k n => intro x; cases x <;> first | exact .dead _ | skip
               rename_i k' m
               simp only [sel1]
               split
               · rename_i hk
                 rw [of_decide_eq_true hk]
                 exact .int _ _
               · exact .dead _
  | str l s e => intro x; cases x <;> first | exact .str _ _ e | exact .dead _
  | nilp => intro x; cases x <;> first | exact .nilp | exact .dead _
  | nilm => intro x; cases x <;> first | exact .nilm | exact .dead _
  | nilf => intro x; cases x <;> first | exact .nilf | exact .dead _
  | nils => intro x; cases x <;> first | exact .nils | exact .lst0 _ _ _ _ (fun _ => rfl) | exact .dead _
  | nili => intro x; cases x <;> first | exact .nili | exact .dead _
  | ifn => intro x; cases x <;> first | exact .ifn | exact .dead _
  | ifs t p => intro x; cases x <;> first | exact .ifs _ _ | exact .dead _
  | emp a cap => intro x; cases x <;> exact .dead _
  | emz a => intro x; cases x <;> exact .dead _
  | lst0 sz get a cap hn => intro x; cases x <;> first | exact .lst0 _ _ _ _ hn | exact .dead _ | skip
                            simp only [sel1]
                            split
                            · exact .lst0 _ _ _ _ hn
                            · exact .dead _
  | lst sz n get b o cap vs hD hc hv h1 hr ih =>
    intro x
    cases x with
    | nils => exact .lst _ _ _ b o cap vs hD hc hv h1 hr
    | lst sz' n' get' =>
      simp only [sel1]
      split
      · rename_i hk
        obtain rfl := of_decide_eq_true hk
        exact .lst _ _ _ b o cap vs hD hc hv h1 hr
      · exact .dead _
    | _ => exact .dead _
  | _ => intro x; cases x <;> exact .dead _

theorem over_get {e off n e' j : Nat} {cs : List AV} {get : Nat → Nat → AV} : over std e off n cs get e' j = if off ≤ j ∧ j < off + n then sel1 std (nbeq e' e) (lget .dead cs (j - off)) (get e' j) else get e' j := by
  unfold over
  split
  · rename_i h1
    have h1 := ble_le h1
    split
    · rename_i h2
      rw [if_pos ⟨h1, blt_lt h2⟩]
      rfl
    · rename_i h2
      rw [if_neg]
      rintro ⟨_, h3⟩
      rw [show nblt j (off + n) = true by rw [nblt_eq]; exact h3] at h2
      cases h2
  · rename_i h1
    rw [if_neg]
    rintro ⟨h3, _⟩
    rw [show nble off j = true by rw [nble_eq]; exact h3] at h1
    cases h1
section
variable {P : Program} {T : TT} {base : Nat} {M : Two} {W : World} {nt : Nat} {f : Nat → Option AV} {g : Nat → Option Ob} {c : Nat → Bool} {a : Act} {w : World} {D : Nat → Prop} {μ : Mu} {o : Oper}

/-- A block of the call's own is written. -/
theorem Sim.turn (h : Sim base M W nt f g c a w D μ) {id b z m : Nat} {ob ob' : Ob} {w' : World} (hμ : μ id = some (some (b, z, m))) (hg : g id = some ob) (hne : ob ≠ .gone) (hne' : ob' ≠ .gone)
    (hc : c id = false) (hos : w'.os = w.os) (htape : w'.tape = w.tape) (hout : w'.output = w.output) (hsz : w'.heap.size = w.heap.size) (hother : ∀ k, k ≠ b → w'.heap[k]? = w.heap[k]?)
    (hok : (∀ k, D k → w'.heap[k]? = w.heap[k]?) → ObOk w'.heap D μ ob' (some (b, z, m))) :
    Sim base M W nt f (gput g [(id, ob')]) c a w' D μ := by
  have hnD : ¬ D b := (h.kd id b (z, m) ob hμ hg hne).2 hc
  have hDk : ∀ k, D k → w'.heap[k]? = w.heap[k]? := fun k hk => hother k (by rintro rfl; exact hnD hk)
  have hgp : ∀ i, gput g [(id, ob')] i = if i = id then some ob' else g i := by
    intro i
    by_cases e : i = id
    · subst e; simp [gput, aget, beq_same]
    · simp [gput, aget, beq_no (fun x => e x.symm : ¬ id = i), e]
  exact {
    os := hos.trans h.os, tape := htape.trans h.tape, output := hout.trans h.output
    size := by rw [hsz]; exact h.size
    bs := by rw [hsz]; exact h.bs
    old := fun k h1 h2 => by
      rw [hother k (by
        rintro rfl
        rcases (h.own id k _ hμ).2 with h3 | h3
        · omega
        · exact h2 h3)]
      exact h.old k h1 h2
    defers := h.defers, tmps := h.tmps
    slots := fun s v hv => (h.slots s v hv).mono hDk (fun _ h => h) (fun _ _ h => h)
    dlt := fun k hk => by rw [hsz]; exact h.dlt k hk
    low := h.low
    dom := fun i => by
      rw [hgp]
      by_cases e : i = id
      · subst e; simp [hμ]
      · simp only [if_neg e]; exact h.dom i
    obs := fun i o' x h1 h2 => by
      rw [hgp] at h1
      by_cases e : i = id
      · subst e
        rw [if_pos rfl] at h1; cases h1
        rw [hμ] at h2; cases h2
        exact hok hDk
      · rw [if_neg e] at h1
        refine (h.obs i o' x h1 h2).mono hDk (fun _ h => h) (fun _ _ h => h) (fun b' z' hx hne2 => hother b' ?_)
        rintro rfl
        subst hx
        exact e (h.inj i id b' z' (z, m) o' ob h2 hμ h1 hg hne2 hne)
    inj := fun i i' b1 z1 z2 o1 o2 h1 h2 h3 h4 h5 h6 => by
      rw [hgp] at h3 h4
      have k3 : ∃ o, g i = some o ∧ o ≠ .gone := by
        by_cases e : i = id
        · subst e; exact ⟨ob, hg, hne⟩
        · rw [if_neg e] at h3; exact ⟨o1, h3, h5⟩
      have k4 : ∃ o, g i' = some o ∧ o ≠ .gone := by
        by_cases e : i' = id
        · subst e; exact ⟨ob, hg, hne⟩
        · rw [if_neg e] at h4; exact ⟨o2, h4, h6⟩
      obtain ⟨p, p1, p2⟩ := k3
      obtain ⟨q, q1, q2⟩ := k4
      exact h.inj i i' b1 z1 z2 p q h1 h2 p1 q1 p2 q2
    own := fun i b1 z1 h1 => by rw [hsz]; exact h.own i b1 z1 h1
    kd := fun i b1 z1 o1 h1 h2 h3 => by
      rw [hgp] at h2
      by_cases e : i = id
      · subst e; exact h.kd i b1 z1 ob h1 hg hne
      · rw [if_neg e] at h2; exact h.kd i b1 z1 o1 h1 h2 h3
    ntb := h.ntb
    pin := h.pin
    gl := h.gl
    icy := fun i hi => by
      rw [hgp]
      by_cases e : i = id
      · rw [if_pos e]; simp
      · rw [if_neg e]; exact h.icy i hi }
theorem Sim.write (h : Sim base M W nt f g c a w D μ) {id b z m : Nat} {ob ob' : Ob} {C C' : Array Value} {t : TypeId} {fr : Nat × Nat} (hμ : μ id = some (some (b, z, m))) (hg : g id = some ob) (hne : ob ≠ .gone) (hne' : ob' ≠ .gone)
    (hc : c id = false) (hb : w.heap[b]? = some (.cells C t fr)) (hok : (∀ k, D k → (w.setRow b C').heap[k]? = w.heap[k]?) → ObOk (w.setRow b C').heap D μ ob' (some (b, z, m))) :
    Sim base M W nt f (gput g [(id, ob')]) c a (w.setRow b C') D μ :=
  h.turn hμ hg hne hne' hc rfl rfl rfl (setRow_size w b C') (fun k hk => setRow_other w b k C' hk) hok

variable (h : Sim base M W nt f g c a w D μ) (hd : ∀ d, o.dst = some d → d < nt)
include h hd

theorem says_slit (hT : TsOk P T) {t n : Nat} {ps : Array (Nat × Operand)} (e : o.op = .buildSlice t n ps) {vals : List AV} (hv : Ops w.heap D μ a (ps.toList.map Prod.snd) vals) {ob : Nat → Option Ob} (hob : ∀ id z, ob id = some z → g id = some z) :
    Says P base M W nt f g c o a w (cSlit T std o.dst t n ps.toList vals ob (newOf g o.op o.dst)) := by
  unfold cSlit
  split
  · rename_i d hc
    obtain ⟨hn, hdst⟩ := cond_some hc
    have hnew : g d = none := by
      simp only [newOf, e, creates, hdst] at hn
      cases hg : g d with
      | none => rfl
      | some _ => rw [hg] at hn; cases hn
    split
    · rename_i i hi
      split
      · rename_i e' esz eb hk
        have ok := (hT t i hi).k
        rw [hk] at ok
        obtain ⟨ok1, ok2⟩ := ok
        obtain ⟨ei', hei', hes⟩ := Option.map_eq_some_iff.1 ok2
        simp only [Prod.mk.injEq] at hes
        split
        · rename_i ei hei
          have oke := hT e' ei hei
          obtain ⟨ii, z, i1, i2, i3, i4, i5, i6⟩ := oke.info
          rw [hei'] at i1
          cases i1
          split
          · rename_i vals' hvals
            cases hle : nble (n * esz) 16777216 with
            | false => rw [hle] at hvals; cases hvals
            | true =>
              rw [hle] at hvals
              have hle := ble_le hle
              split
              · rename_i cs hcs
                cases hs : solidVs vals' with
                | false => rw [hs] at hcs; cases hcs
                | true =>
                  rw [hs] at hcs
                  obtain ⟨l1, l2, l3⟩ := immVs_ok h hob hvals (ids := idsVs vals) (fun _ h => h)
                  have h' := h.freeze (idsVs vals) l2
                  have hp : ∀ (qs : List (Nat × Operand)) (xs xs' : List AV), Ops w.heap D μ a (qs.map Prod.snd) xs → xs'.length = xs.length → (∀ (i : Nat) x x' v, xs[i]? = some x → xs'[i]? = some x' → R w.heap D μ x v → R w.heap (DF D μ (idsVs vals)) noMu x' v) →
                      Parts w.heap (DF D μ (idsVs vals)) noMu a qs xs' := by
                    intro qs
                    induction qs with
                    | nil => intro xs xs' hv hl hr; cases xs with
                      | nil => cases xs' with
                        | nil => exact trivial
                        | cons _ _ => simp at hl
                      | cons _ _ => exact hv.elim
                    | cons q qs ih => intro xs xs' hv hl hr; cases xs with
                      | nil => exact hv.elim
                      | cons x xs => cases xs' with
                        | nil => simp at hl
                        | cons x' xs' => exact ⟨hr 0 x x' _ rfl rfl hv.1, ih xs xs' hv.2 (by simpa using hl) (fun i y y' v hy hy' r => hr (i + 1) y y' v (by simpa using hy) (by simpa using hy') r)⟩
                  have hsz : z.cells.size = esz := by rw [i5, ← i2, hes.1]
                  have hzl : ei.zero.length = esz := by rw [(i6 w.heap D μ).1, hsz]
                  obtain ⟨C0, hC0⟩ : ∃ C0, C0 = (Array.range (n * esz)).map (fun q => z.cells[q % z.cells.size]!) := ⟨_, rfl⟩
                  have hC0s : C0.size = n * esz := by rw [hC0]; simp
                  have hget : ∀ q, q < n * esz → C0[q]? = some (z.cells.getD (q % esz) undef) ∧ q % esz < z.cells.size ∧ (lrepeat ei.zero n)[q]? = ei.zero[q % esz]? := by
                    intro q hq
                    have h0 : 0 < esz := by
                      rcases Nat.eq_zero_or_pos esz with h0 | h0
                      · rw [h0] at hq; omega
                      · exact h0
                    have h1 := Nat.mod_lt q h0
                    refine ⟨?_, by omega, ?_⟩
                    · rw [hC0]
                      have h2 : q % esz < z.cells.size := by omega
                      simp [hq, hsz, h2]
                      rw [getElem!_pos z.cells _ h2]
                      simp [h2]
                    · have := lrepeat_get ei.zero n (q / esz) (q % esz) (Nat.div_lt_of_lt_mul (by rw [Nat.mul_comm]; exact hq)) (by omega)
                      rw [hzl] at this
                      rw [← this]
                      congr 1
                      rw [Nat.mul_comm]; exact (Nat.div_add_mod q esz).symm
                  have r0 : RL w.heap (DF D μ (idsVs vals)) noMu (lrepeat ei.zero n) C0 := by
                    refine ⟨by rw [lrepeat_len, hzl, hC0s], fun q x v hx hv => ?_⟩
                    have hq : q < n * esz := by rw [← hC0s]; exact (Array.getElem?_eq_some_iff.1 hv).1
                    obtain ⟨g1, g2, g3⟩ := hget q hq
                    rw [g1] at hv
                    cases hv
                    rw [g3] at hx
                    exact (i6 _ _ _).2 _ x _ hx (getD_some g2)
                  have o0 : ones C0 := by
                    intro q v hv
                    have hq : q < n * esz := by rw [← hC0s]; exact (Array.getElem?_eq_some_iff.1 hv).1
                    obtain ⟨g1, g2, _⟩ := hget q hq
                    rw [g1] at hv
                    cases hv
                    exact i4 _ _ (getD_some g2)
                  obtain ⟨C', f1, f2, f3⟩ := fill_run (h := w.heap) (D := DF D μ (idsVs vals)) (μ := noMu) ps.toList vals' _ C0 cs hcs hs (hp _ _ _ hv l1 l3) r0 o0
                  have hCs : cs.length = n * esz := by
                    rw [fillA_len ps.toList vals' _ cs hcs, lrepeat_len, hzl]
                  have run : (execOp a.eval o).run P w = .ok (.value (.slice (some ⟨w.heap.size, 0, none⟩) n n)) (w.alloc (.cells C' e')) := by
                    unfold execOp
                    rw [e]
                    have hso : ∀ w', (sizeOf e').run P w' = .ok esz w' := fun w' => by simp [sizeOf, typeInfo, program, Sem.run, hei', hes.1]
                    have hzv : ∀ w', (zeroValue e').run P w' = .ok z w' := fun w' => by simp [zeroValue, typeInfo, program, Sem.run, hei', i3]
                    have hf := f1
                    have hlim : ¬ (n * esz > 2 ^ 24) := by omega
                    by_cases h0 : n * esz = 0
                    · have hC00 : C0 = #[] := by apply Array.eq_empty_of_size_eq_zero; omega
                      have h00 : Array.map (fun _ => (default : Value)) (Array.range 0) = C0 := by rw [hC00]; simp
                      simp [Instr.buildSlice, run_underlying ok1, hso, h0, h00, hf, newRow]
                    · rw [hC0] at hf
                      simp only [Instr.buildSlice, Sem.run_bind, run_underlying ok1, Result.andThen_ok, hso, hlim, if_false, h0, hzv]
                      simp [hf, newRow, hzv]
                  have key := adv_new h' hd hdst hnew C' e' (.row e' esz n (rowOf std cs esz)) n (by simp) (row_ok h' (by rw [← f2.1, hCs]; exact Nat.le_refl _) (fun i' j hi' hj => by
                      have hx := rowOf_get (cs := cs) (sz := esz) (n := n) (by omega) hi' hj
                      have hlt : i' * esz + j < C'.size := by rw [← f2.1]; exact (List.getElem?_eq_some_iff.1 hx).1
                      exact ⟨_, getD_some hlt, f3 _ _ (getD_some hlt), f2.2 _ _ _ hx (getD_some hlt)⟩))
                    (v := slitV n d esz) run (fun D' μ' hm => by
                      unfold slitV
                      split
                      · exact .emz _
                      · have := R.sl (h := (w.alloc (.cells C' e')).heap) (D := D') d esz 0 n w.heap.size C'.size n n hm (Nat.le_refl _) (by rw [← f2.1, hCs]; simp) (by omega)
                        simpa using this)
                  exact key
              · trivial
          · trivial
        · trivial
      · trivial
    · trivial
  · trivial

theorem says_bytes (hT : TsOk P T) {s t : TypeId} {x : Operand} (e : o.op = .convert s t x) (ht : toBytes T t = true) {vals : List AV} (hv : Ops w.heap D μ a [x] vals) :
    Says P base M W nt f g c o a w (cBytes T std o.dst s t (newOf g o.op o.dst) vals) := by
  match vals, hv with
  | [v], ⟨hx, _⟩ =>
    unfold cBytes
    split
    · rename_i l he
      simp only [List.cons.injEq, and_true] at he
      subst he
      split
      · rename_i d hc
        obtain ⟨hn, hdst⟩ := cond_some hc
        have hnew : g d = none := by
          simp only [newOf, e, creates, hdst] at hn
          cases hg : g d with
          | none => rfl
          | some _ => rw [hg] at hn; cases hn
        split
        · rename_i hs
          have hs' : P.underlying s = some .string := by
            unfold isStr at hs
            split at hs
            · rename_i i hi
              have := (hT s i hi).k
              split at hs
              · rename_i hk; rw [hk] at this; exact this
              · cases hs
            · cases hs
          obtain ⟨el, ht1, ht2, ht3⟩ : ∃ el, P.underlying t = some (.slice el) ∧ P.underlying el = some (.int .u8) ∧ elemT T t = el := by
            unfold toBytes at ht
            split at ht
            · rename_i i hi
              have := (hT t i hi).k
              split at ht
              · rename_i hk; rw [hk] at this; exact ⟨_, this.1, isU8_ok hT ht, by simp [elemT, hi, hk]⟩
              · cases ht
            · cases ht
          obtain ⟨r, hr, hl⟩ := hx.inv_str
          have hrun := run_bytes_of_string (P := P) w s t el r hs' ht1 ht2
          have run : ∀ u w', (convert s t (a.eval x)).run P w = .ok u w' → (execOp a.eval o).run P w = .ok (.value u) w' := by
            intro u w' hu; unfold execOp; rw [e]; simp [hu]
          have run := run _ _ (hr ▸ hrun)
          have hge := grownCap_ge w r.size 0 el
          have hrl : r.size = l.length := by rw [← hl]; exact (Array.length_toList (xs := r.data)).symm
          generalize hC : bytesRow r (grownCap w r.size 0 el) = C at run
          have hds : r.data.size = r.size := rfl
          have hCs : C.size = grownCap w r.size 0 el := by rw [← hC]; simp only [bytesRow, Array.size_append, Array.size_map, Array.size_replicate, hds]; omega
          rw [ht3]
          intro K Q hK
          unfold Oper.wp
          rw [run]
          have hnew' := h.drew.new (fr := (C.size, C.size + 1)) (hd _ hdst) hnew (.row el 1 l.length (fun i _ => .int .u8 (byteAt l i))) C el l.length (by simp) (by
            refine ⟨rfl, C, el, _, heap_alloc_new _ _, rfl, ⟨?_, rfl⟩, by omega, fun i j hi hj => ?_⟩
            · intro o' ho hx; simp only at hx; omega
            · have hj0 : j = 0 := by omega
              subst hj0
              refine ⟨_, ?_, ?_, .int .u8 (byteAt l i)⟩
              · rw [← hC]
                have : i < r.data.size := by rw [show r.data.size = r.size from rfl, hrl]; exact hi
                simp only [bytesRow]
                rw [Array.getElem?_append_left (by simpa using this)]
                simp only [Nat.mul_one, Nat.add_zero]
                rw [Array.getElem?_map, Array.getElem?_eq_getElem this]
                simp only [Option.map_some, byteAt, ← hl]
                simp
                rw [Array.getElem?_eq_getElem this]
                rfl
              · rfl)
          refine hK _ _ ⟨_, _, hnew'.put hd (v := .sl d 1 0 l.length) ?_⟩
          have := R.sl (h := (w.drew.alloc (.cells C el (C.size, C.size + 1))).heap) (D := D) (μ := fun id => if id = d then some (some (w.drew.heap.size, C.size, l.length)) else μ id) d 1 0 l.length w.heap.size C.size l.length (grownCap w r.size 0 el) (by simp) (by omega) (by omega) (by omega)
          simpa [hrl] using this
        · trivial
      · trivial
    · trivial

theorem says_mslice (hT : TsOk P T) {t : Nat} {x y : Operand} (e : o.op = .makeSlice t x y) {vals : List AV} (hv : Ops w.heap D μ a [x, y] vals) :
    Says P base M W nt f g c o a w (cMslice T std o.dst t (newOf g o.op o.dst) vals) := by
  match vals, hv with
  | [v, v'], ⟨hx, hy, _⟩ =>
    unfold cMslice
    split
    · rename_i k n k' cp he
      simp only [List.cons.injEq, and_true] at he
      obtain ⟨rfl, rfl⟩ := he
      split
      · rename_i d hc
        obtain ⟨hn, hdst⟩ := cond_some hc
        have hnew : g d = none := by
          simp only [newOf, e, creates, hdst] at hn
          cases hg : g d with
          | none => rfl
          | some _ => rw [hg] at hn; cases hn
        split
        · rename_i sz ag ze e' esz eb eqf p1 p2 p3 hi
          obtain ⟨ok1, ok2⟩ := (hT t _ hi).k
          obtain ⟨ei', hei', hes⟩ := Option.map_eq_some_iff.1 ok2
          simp only [Prod.mk.injEq] at hes
          split
          · rename_i ei hei
            obtain ⟨ii, z, i1, i2, i3, i4, i5, i6⟩ := (hT e' ei hei).info
            rw [hei'] at i1
            cases i1
            split
            · rename_i hfr
              intro hb
              have hb' : ((0 ≤ n ∧ n ≤ cp) ∧ (eb : Int) * cp ≤ 140737488355328) ∧ cp ≤ 9223372036854775807 := by simpa [L3, std, mkOk] using hb
              obtain ⟨⟨⟨b1, b2⟩, b3⟩, b4⟩ := hb'
              have hr := run_make (P := P) w t e' ei' z ok1 hei' i3 k k' n cp b1 b2 (by rw [hes.2]; omega) b4
              have hsz : z.cells.size = esz := by rw [i5, ← i2, hes.1]
              have hzl : ei.zero.length = esz := by rw [(i6 w.heap D μ).1, hsz]
              have run : (execOp a.eval o).run P w = .ok (.value (.slice (some ⟨w.heap.size, 0, none⟩) n.toNat cp.toNat)) (w.alloc (.cells (madeCells z.cells (cp.toNat * ei'.size)) e')) := by
                unfold execOp
                rw [e]
                simp [hx.inv_int, hy.inv_int, hr]
              have hms : (madeCells z.cells (cp.toNat * ei'.size)).size = cp.toNat * esz := by simp [madeCells, hes.1]
              have hle : n.toNat * esz ≤ cp.toNat * esz := Nat.mul_le_mul_right _ (by omega)
              refine adv_new h hd hdst hnew _ e' _ n.toNat (by simp) (row_ok h (by rw [hms]; exact hle) (fun i' j hi' hj => ?_)) run (fun D' μ' hm => ?_)
              · have hq : i' * esz + j < cp.toNat * esz := by
                  have h1 : (i' + 1) * esz ≤ n.toNat * esz := Nat.mul_le_mul_right _ hi'
                  rw [Nat.add_mul] at h1
                  omega
                have hmod : (i' * esz + j) % esz = j := by rw [Nat.mul_comm, Nat.mul_add_mod, Nat.mod_eq_of_lt hj]
                have h2 : j < z.cells.size := by omega
                refine ⟨z.cells.getD j undef, ?_, i4 _ _ (getD_some h2), free1_R ((i6 w.heap D μ).2 j _ _ (lget_get .dead ei.zero j (by omega)) (getD_some h2)) (freeL_get hfr _ _ (lget_get _ _ _ (by omega)))⟩
                simp [madeCells, hes.1, hq, hsz, hmod]
                rw [getElem!_pos z.cells _ h2]
                simp [h2]
              · have := R.sl (h := (w.alloc (.cells (madeCells z.cells (cp.toNat * ei'.size)) e')).heap) (D := D') d esz 0 n.toNat w.heap.size _ n.toNat cp.toNat hm (by omega) (by rw [hms]; simp) (by omega)
                simpa [std] using this
            · trivial
          · trivial
        · trivial
      · trivial
    · trivial

theorem says_store (hT : TsOk P T) {t : Nat} {x y : Operand} (e : o.op = .store t x y) {vals : List AV} (hv : Ops w.heap D μ a [x, y] vals) {ob : Nat → Option Ob} (hob : ∀ id z, ob id = some z → g id = some z) {ice : Nat → Bool} (hice : ∀ id, ice id = false → c id = false) :
    Says P base M W nt f g c o a w (cStore T std t ob ice vals) := by
  match vals, hv with
  | [p, v], ⟨hp, hv, _⟩ =>
    unfold cStore
    simp only
    split
    · rename_i i hi
      have ok := hT t i hi
      split
      · rename_i hsz
        have hsz := beq_eq hsz
        rw [llen_eq] at hsz
        -- a store of solid cells at an offset of the block
        have goD : solidV v = true → ∀ (D' : Nat → Prop) (ids : List Nat), Sim base M W nt f g (cput c ids) a w D' μ → ∀ (id b z m off : Nat) (ob0 ob' : Ob) (C : Array Value) (t' : TypeId) (fr : Nat × Nat), a.eval x = .pointer (some ⟨b, off, none⟩) → μ id = some (some (b, z, m)) → g id = some ob0 → ob0 ≠ .gone → ob' ≠ .gone → cput c ids id = false →
            w.heap[b]? = some (.cells C t' fr) → noFr C.size fr → off + i.sz ≤ C.size →
            (RLL w.heap D μ v.cells (a.eval y).cells.toList → (∀ k, D' k → (w.setRow b (seqset C off (a.eval y).cells.toList)).heap[k]? = w.heap[k]?) → ObOk (w.setRow b (seqset C off (a.eval y).cells.toList)).heap D' μ ob' (some (b, z, m))) →
            Adv P base M W nt f g c o a w .dead [(id, ob')] ids := by
          intro hs D' ids h' id b z m off ob0 ob' C t' fr hx hμ hg hne hne' hc hb hf hfit hok
          have rc := cells_RLL hv hs
          have hlen := rc.len
          have hst := stores_run P b off t' fr (a.eval y).cells.toList 0 C w hb hf (by rw [← hlen]; omega) (fun u hu => by
            obtain ⟨j, hj⟩ := List.getElem?_of_mem hu
            have hlt : j < v.cells.length := by rw [hlen]; exact (List.getElem?_eq_some_iff.1 hj).1
            exact (rc.get j v.cells[j] u (by simp [hlt]) hj).2)
          have run : (execOp a.eval o).run P w = .ok .skip (w.setRow b (seqset C off (a.eval y).cells.toList)) := by
            unfold execOp
            rw [e]
            have hs2 : ¬ ((a.eval y).cells.size ≠ i.sz) := by
              have : (a.eval y).cells.toList.length = i.sz := by rw [← hlen, hsz]
              simpa using this
            simp only [Nat.add_zero] at hst
            simp [hx, Instr.storeAt, Instr.sureAddr, storeVar, ok.sizeOf]
            rw [if_pos (by simpa using hs2)]
            simp [hst]
          intro K Q hK
          unfold Oper.wp
          rw [run]
          have h1 := h'.write (C' := seqset C off (a.eval y).cells.toList) hμ hg hne hne' hc hb (hok rc)
          exact hK _ _ ⟨_, _, h1.put hd (.dead _)⟩
        have go : solidV v = true → ∀ (id b z m off : Nat) (ob0 ob' : Ob) (C : Array Value) (t' : TypeId) (fr : Nat × Nat), a.eval x = .pointer (some ⟨b, off, none⟩) → μ id = some (some (b, z, m)) → g id = some ob0 → ob0 ≠ .gone → ob' ≠ .gone → c id = false →
            w.heap[b]? = some (.cells C t' fr) → noFr C.size fr → off + i.sz ≤ C.size →
            (RLL w.heap D μ v.cells (a.eval y).cells.toList → (∀ k, D k → (w.setRow b (seqset C off (a.eval y).cells.toList)).heap[k]? = w.heap[k]?) → ObOk (w.setRow b (seqset C off (a.eval y).cells.toList)).heap D μ ob' (some (b, z, m))) →
            Adv P base M W nt f g c o a w .dead [(id, ob')] [] := fun hs id b z m off ob0 ob' C t' fr hx hμ hg hne hne' hc => goD hs D [] (by rw [cput_nil]; exact h) id b z m off ob0 ob' C t' fr hx hμ hg hne hne' (by rw [cput_nil]; exact hc)
        cases hs : solidV v with
        | false => trivial
        | true =>
          simp only [cond_true]
          split
          · rename_i id off
            split
            · rename_i hic
              have hic := hice _ hic
              split
              · rename_i cs hg
                have hg := hob _ _ hg
                split
                · rename_i hle
                  have hle := ble_le hle
                  rw [llen_eq] at hle
                  generalize hu : a.eval x = u at *
                  cases hp with
                  | ref _ _ b z m hμ =>
                    obtain ⟨C, t', fr, hh, hcs, hf, h1, e1, hr⟩ := h.obs id _ _ hg hμ
                    refine go hs id b z m off _ _ C t' fr rfl hμ hg (by simp) (by simp) hic hh (by rw [hcs]; exact hf.1) (by omega) (fun rc hD => ?_)
                    obtain ⟨w1, w2⟩ := write_RL off ⟨e1, hr⟩ h1 rc
                    exact ⟨_, t', fr, setRow_heap w b C _ t' fr hh, by rw [seqset_size, hcs], hf, w2, w1.1, fun j x' v' hx' hv' => (w1.2 j x' v' hx' hv').mono hD (fun _ h => h) (fun _ _ h => h)⟩
                · trivial
              · rename_i ty sz n get hg
                have hg := hob _ _ hg
                split
                · rename_i hz hfr
                  have hz := beq_eq hz
                  generalize hu : a.eval x = u at *
                  cases hp with
                  | ref _ _ b z m hμ =>
                    obtain ⟨hm, C, t', fr, hh, hcs, hf, hle, hrow⟩ := h.obs id _ _ hg hμ
                    have key : ∀ get2 : Nat → Nat → AV, (∀ i' j, i' < n → j < sz → v.cells[i' * sz + j]? = some (get2 i' j)) → Adv P base M W nt f g c o a w .dead [(id, .row ty sz n get2)] [] := by
                      intro get2 hget
                      refine go hs id b z m 0 _ _ C t' fr rfl hμ hg (by simp) (by simp) hic hh (by rw [hcs]; exact hf.1) (by omega) (fun rc hD => ?_)
                      refine ⟨hm, _, t', fr, setRow_heap w b C _ t' fr hh, by rw [seqset_size, hcs], hf, hle, fun i' j hi' hj => ?_⟩
                      have hx' := hget i' j hi' hj
                      have hlt := (List.getElem?_eq_some_iff.1 hx').1
                      have hlen := rc.len
                      have hval : ((a.eval y).cells.toList)[i' * sz + j]? = some ((a.eval y).cells.toList[i' * sz + j]'(by omega)) := by simp
                      obtain ⟨q1, q2⟩ := rc.get _ _ _ hx' hval
                      refine ⟨_, ?_, q2, (free1_R q1 (freeL_get hfr _ _ hx')).mono hD (fun _ h => h) (fun _ _ h => h)⟩
                      rw [seqset_get _ _ _ _ (by omega), if_pos ⟨Nat.zero_le _, by omega⟩, Nat.sub_zero, hval]
                    split
                    · rename_i k get' hs1 _
                      have hs1 := beq_eq hs1
                      subst hs1
                      refine key _ (fun i' j hi' hj => ?_)
                      have hk : (AV.arr k get').cells.length = k := ltab_len _ _ _
                      have h0 : j = 0 := by omega
                      subst h0
                      show (ltab get' 0 k)[i' * 1 + 0]? = some (get' i')
                      rw [ltab_get, if_pos (by omega), Nat.zero_add, Nat.mul_one, Nat.add_zero]
                    · exact key _ (fun i' j hi' hj => rowOf_get (by omega) hi' hj)
                · trivial
              · rename_i cs hg
                have hg := hob _ _ hg
                split
                · rename_i hle
                  have hle := ble_le hle
                  rw [llen_eq] at hle
                  generalize hu : a.eval x = u at *
                  cases hp with
                  | ref _ _ b z m hμ =>
                    obtain ⟨C, t', fr, hh, hcs, hf, hlz, hr⟩ := h.obs id _ _ hg hμ
                    refine go hs id b z m off _ _ C t' fr rfl hμ hg (by simp) (by simp) hic hh (by rw [hcs]; exact hf.1) (by omega) (fun rc hD => ?_)
                    have hlen := rc.len
                    refine ⟨_, t', fr, setRow_heap w b C _ t' fr hh, by rw [seqset_size, hcs], hf, by rw [lwrite_len]; exact hlz, fun j x' hx' => ?_⟩
                    have hj : j < cs.length := by rw [← lwrite_len v.cells cs off]; exact (List.getElem?_eq_some_iff.1 hx').1
                    obtain ⟨v0, v1, v2, v3⟩ := hr j cs[j] (by simp [hj])
                    have hjC := (Array.getElem?_eq_some_iff.1 v1).1
                    rw [lwrite_get v.cells cs off j hj] at hx'
                    rw [seqset_get _ _ _ _ hjC]
                    by_cases hin : off ≤ j ∧ j < off + v.cells.length
                    · rw [if_pos hin] at hx'
                      rw [if_pos (by omega)]
                      have hval : ((a.eval y).cells.toList)[j - off]? = some ((a.eval y).cells.toList[j - off]'(by omega)) := by simp
                      obtain ⟨q1, q2⟩ := rc.get _ _ _ hx' hval
                      exact ⟨_, hval, q2, q1.mono hD (fun _ h => h) (fun _ _ h => h)⟩
                    · rw [if_neg hin] at hx'
                      rw [if_neg (by omega)]
                      rw [show cs[j]? = some cs[j] by simp [hj]] at hx'
                      cases hx'
                      exact ⟨v0, v1, v2, v3.mono hD (fun _ h => h) (fun _ _ h => h)⟩
                · trivial
              · trivial
            · trivial
          · rename_i id sz q off
            split
            · rename_i hic
              have hic := hice _ hic
              split
              · rename_i sz' n get hg
                have hg := hob _ _ hg
                split
                · rename_i hsz'
                  obtain rfl := beq_eq hsz'
                  split
                  · rename_i hle
                    have hle := ble_le hle
                    split
                    rotate_left
                    · trivial
                    rename_i cs' himm
                    split
                    rotate_left
                    · trivial
                    rename_i hnot
                    obtain ⟨l1, l2, l3⟩ := immL_ok h hob himm (ids := idsL v.cells) (fun _ h => h)
                    have h' := h.freeze (idsL v.cells) l2
                    have hic' : cput c (idsL v.cells) id = false := by simp [cput, hnot, hic]
                    generalize hu : a.eval x = u at *
                    cases hp with
                    | eref _ _ _ _ b z m hμ hq =>
                      obtain ⟨hm, C, t', fr, hh, hcs, hf, hle', hrow⟩ := h'.obs id _ _ hg hμ
                      have hqn : (q + 1) * sz ≤ n * sz := Nat.mul_le_mul_right _ (by omega)
                      rw [Nat.add_mul] at hqn
                      refine goD hs _ _ h' id b z m (q * sz + off) _ _ C t' fr rfl hμ hg (by simp) (by simp) hic' hh (by rw [hcs]; exact hf.1) (by omega) (fun rc hD => ?_)
                      refine ⟨hm, _, t', fr, setRow_heap w b C _ t' fr hh, by rw [seqset_size, hcs], hf, hle', fun i' j hi' hj => ?_⟩
                      have hlen := rc.len
                      obtain ⟨y0, y1, y2, y3⟩ := hrow i' j hi' hj
                      have hin : i' * sz + j < C.size := (Array.getElem?_eq_some_iff.1 y1).1
                      rw [over_get]
                      by_cases hjr : off ≤ j ∧ j < off + i.sz
                      · rw [if_pos hjr]
                        by_cases hqi : i' = q
                        · subst hqi
                          have hcell : v.cells[j - off]? = some (lget .dead v.cells (j - off)) := lget_get _ _ _ (by omega)
                          have hcell' : cs'[j - off]? = some (lget .dead cs' (j - off)) := lget_get _ _ _ (by omega)
                          have hval : ((a.eval y).cells.toList)[j - off]? = some ((a.eval y).cells.toList[j - off]'(by omega)) := by simp
                          obtain ⟨q1, q2⟩ := rc.get _ _ _ hcell hval
                          have q3 := l3 _ _ _ _ hcell hcell' q1
                          refine ⟨_, ?_, q2, ?_⟩
                          · rw [seqset_get _ _ _ _ hin, if_pos ⟨by omega, by omega⟩]
                            rw [show i' * sz + j - (i' * sz + off) = j - off by omega]
                            exact hval
                          · rw [beq_same]
                            exact sel1_true (q3.mono hD (fun _ h => h) (fun _ _ h => h)) _
                        · refine ⟨y0, ?_, y2, ?_⟩
                          · rw [seqset_get _ _ _ _ hin, if_neg]
                            · exact y1
                            · rintro ⟨p1, p2⟩
                              have hlenz : (a.eval y).cells.toList.length = i.sz := by omega
                              rcases Nat.lt_or_gt_of_ne hqi with hlt | hgt
                              · have h3 : (i' + 1) * sz ≤ q * sz := Nat.mul_le_mul_right _ hlt
                                rw [Nat.add_mul] at h3
                                omega
                              · have h3 : (q + 1) * sz ≤ i' * sz := Nat.mul_le_mul_right _ hgt
                                rw [Nat.add_mul] at h3
                                omega
                          · rw [beq_no hqi]
                            exact sel1_false (y3.mono hD (fun _ h => h) (fun _ _ h => h)) _
                      · rw [if_neg hjr]
                        refine ⟨y0, ?_, y2, y3.mono hD (fun _ h => h) (fun _ _ h => h)⟩
                        rw [seqset_get _ _ _ _ hin, if_neg]
                        · exact y1
                        · rintro ⟨p1, p2⟩
                          have hlenz : (a.eval y).cells.toList.length = i.sz := by omega
                          by_cases hqi : i' = q
                          · subst hqi; omega
                          · rcases Nat.lt_or_gt_of_ne hqi with hlt | hgt
                            · have h3 : (i' + 1) * sz ≤ q * sz := Nat.mul_le_mul_right _ hlt
                              rw [Nat.add_mul] at h3
                              omega
                            · have h3 : (q + 1) * sz ≤ i' * sz := Nat.mul_le_mul_right _ hgt
                              rw [Nat.add_mul] at h3
                              omega
                  · trivial
                · trivial
              · trivial
            · trivial
          · rename_i id off n q
            split
            · rename_i hic
              have hic := hice _ hic
              split
              · rename_i ty cs hg
                have hg := hob _ _ hg
                split
                · rename_i x0 hcells hle
                  have hle := ble_le hle
                  rw [llen_eq] at hle
                  have hs1 : i.sz = 1 := by rw [← hsz, hcells]; rfl
                  generalize hu : a.eval x = u at *
                  cases hp with
                  | bidx _ _ _ _ b z m hμ hq =>
                    obtain ⟨C, t', fr, hh, hcs, hf, h1, e1, hr⟩ := h.obs id _ _ hg hμ
                    refine go hs id b z m (off + q) _ _ C t' fr rfl hμ hg (by simp) (by simp) hic hh (by rw [hcs]; exact hf.1) (by omega) (fun rc hD => ?_)
                    have hlen := rc.len
                    have hone : (a.eval y).cells.toList.length = 1 := by omega
                    rw [hcells] at rc
                    have hval : (a.eval y).cells.toList[0]? = some ((a.eval y).cells.toList[0]'(by omega)) := by simp
                    obtain ⟨q1, q2⟩ := rc.get 0 _ _ rfl hval
                    have hset : ∀ (l : List AV) (k j : Nat), (setN std q x0 k l)[j]? = l[j]?.map fun z => sel1 std (nbeq q (k + j)) x0 z := by
                      intro l
                      induction l with
                      | nil => intro k j; simp [setN]
                      | cons z l ih =>
                        intro k j
                        cases j with
                        | zero => simp [setN, L2, std]
                        | succ j => simp [setN, ih, Nat.add_comm, Nat.add_left_comm]
                    have hsl : ∀ (l : List AV) (k : Nat), (setN std q x0 k l).length = l.length := by
                      intro l
                      induction l with
                      | nil => intro k; rfl
                      | cons z l ih => intro k; simp [setN, ih]
                    refine ⟨_, t', fr, setRow_heap w b C _ t' fr hh, by rw [seqset_size, hcs], hf, fun j v hv => ?_, by rw [lwrite_len, seqset_size]; exact e1, fun j x' v' hx' hv' => ?_⟩
                    · have hjC : j < C.size := by have := (Array.getElem?_eq_some_iff.1 hv).1; rwa [seqset_size] at this
                      rw [seqset_get _ _ _ _ hjC] at hv
                      split at hv
                      · have : j - (off + q) = 0 := by omega
                        rw [this, hval] at hv
                        cases hv; exact q2
                      · exact h1 j v hv
                    · have hjC : j < C.size := by have := (Array.getElem?_eq_some_iff.1 hv').1; rwa [seqset_size] at this
                      rw [seqset_get _ _ _ _ hjC] at hv'
                      have hj : j < cs.length := by omega
                      rw [lwrite_get _ _ _ _ hj, hsl, ltake_eq, ldrop_eq, List.length_take, List.length_drop, Nat.min_eq_left (by omega)] at hx'
                      by_cases hin : off ≤ j ∧ j < off + n
                      · rw [if_pos hin, hset, List.getElem?_take, if_pos (by omega), List.getElem?_drop, show off + (j - off) = j by omega, List.getElem?_eq_getElem hj, Option.map_some, Nat.zero_add] at hx'
                        cases hx'
                        by_cases hjq : j = off + q
                        · rw [if_pos (by omega)] at hv'
                          rw [show j - (off + q) = 0 by omega, hval] at hv'
                          cases hv'
                          rw [show j - off = q by omega, beq_same]
                          exact (sel1_true q1 _).mono hD (fun _ h => h) (fun _ _ h => h)
                        · rw [if_neg (by omega)] at hv'
                          rw [beq_no (by omega : ¬ q = j - off)]
                          exact (sel1_false (hr j cs[j] v' (by simp [hj]) hv') _).mono hD (fun _ h => h) (fun _ _ h => h)
                      · rw [if_neg hin] at hx'
                        rw [if_neg (by omega)] at hv'
                        exact (hr j x' v' hx' hv').mono hD (fun _ h => h) (fun _ _ h => h)
                · trivial
              · trivial
            · trivial
          · trivial
      · trivial
    · trivial
end

end Sy
end Go.Proofs.YtckbbcjbbmgmoaaDoor
