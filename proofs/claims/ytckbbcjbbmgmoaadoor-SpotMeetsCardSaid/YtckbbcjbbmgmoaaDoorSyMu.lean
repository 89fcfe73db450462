/- The symbolic executor: bytes of the call's own made a text without a copy. -/
import Derived.Test.YtckbbcjbbmgmoaaDoorSyM
namespace Go.Proofs.YtckbbcjbbmgmoaaDoor
namespace Sy
open Go Go.RowKit
set_option linter.unusedSimpArgs false
set_option linter.unusedVariables false
set_option linter.unusedSectionVars false

section
variable {P : Program} {T : TT} {base : Nat} {M : Two} {W : World} {nt : Nat} {f : Nat → Option AV} {g : Nat → Option Ob} {c : Nat → Bool} {a : Act} {w : World} {D : Nat → Prop} {μ : Mu} {o : Oper}

/-- A block is gone; whatever becomes of it. -/
theorem Sim.trash (h : Sim base M W nt f g c a w D μ) {id b : Nat} {z : Nat × Nat} {ob : Ob} (hμ : μ id = some (some (b, z))) (hg : g id = some ob) (hne : ob ≠ .gone) (hc : c id = false) {w' : World}
    (hos : w'.os = w.os) (htape : w'.tape = w.tape) (hout : w'.output = w.output) (hsz : w'.heap.size = w.heap.size) (hb : ∀ k, k ≠ b → w'.heap[k]? = w.heap[k]?) : Sim base M W nt f (gput g [(id, .gone)]) c a w' D μ := by
  have hnD : ¬ D b := (h.kd id b z ob hμ hg hne).2 hc
  have hbase := (h.own id b z hμ).2
  have hD : ∀ k, D k → w'.heap[k]? = w.heap[k]? := fun k hk => hb k (by rintro rfl; exact hnD hk)
  have hgp : ∀ i, gput g [(id, .gone)] i = if i = id then some .gone else g i := by
    intro i
    by_cases e : i = id
    · subst e; simp [gput, aget, beq_same]
    · simp [gput, aget, beq_no (fun x => e x.symm : ¬ id = i), e]
  have h' := h.gone hg
  exact {
    os := hos.trans h.os, tape := htape.trans h.tape, output := hout.trans h.output
    size := by rw [hsz]; exact h.size
    bs := by rw [hsz]; exact h.bs
    old := fun k h1 h2 => by
      rw [hb k (by
        rintro rfl
        rcases hbase with h3 | h3
        · omega
        · exact h2 h3)]
      exact h.old k h1 h2
    defers := h.defers, tmps := h.tmps
    slots := fun s v hv => (h.slots s v hv).mono hD (fun _ h => h) (fun _ _ h => h)
    dlt := fun k hk => by rw [hsz]; exact h.dlt k hk
    low := h.low
    dom := h'.dom
    obs := fun i o' x h1 h2 => by
      by_cases e : i = id
      · rw [hgp, if_pos e] at h1; cases h1
        cases x <;> exact trivial
      · have h1' := h1
        rw [hgp, if_neg e] at h1
        refine (h.obs i o' x h1 h2).mono hD (fun _ h => h) (fun _ _ h => h) (fun b' z' hx hne2 => hb b' ?_)
        rintro rfl
        subst hx
        exact e (h.inj i id b' z' z o' ob h2 hμ h1 hg hne2 hne)
    inj := h'.inj
    own := fun i b1 z1 h1 => by rw [hsz]; exact h.own i b1 z1 h1
    kd := h'.kd
    icy := h'.icy
    ntb := h.ntb
    pin := h.pin
    gl := h.gl }
theorem freeze_size (w : World) (p : Addr) (n : Nat) : (w.freeze p n).heap.size = w.heap.size := by
  unfold World.freeze; split <;> simp
theorem freeze_other (w : World) (p : Addr) (n : Nat) {k : Nat} (hk : k ≠ p.block) : (w.freeze p n).heap[k]? = w.heap[k]? := by
  unfold World.freeze
  split
  · rfl
  · simp only [Array.getElem?_modify]
    rw [if_neg (fun e => hk e.symm)]
theorem freeze_rest (w : World) (p : Addr) (n : Nat) : (w.freeze p n).os = w.os ∧ (w.freeze p n).tape = w.tape ∧ (w.freeze p n).output = w.output := by
  unfold World.freeze; split <;> exact ⟨rfl, rfl, rfl⟩

variable (h : Sim base M W nt f g c a w D μ) (hd : ∀ d, o.dst = some d → d < nt)
include h hd
theorem says_sdata {x : Operand} {ts : Array TypeId} (e : o.op = .call { callee := .builtin .unsafeSliceData, args := #[x], argTypes := ts }) {vals : List AV} (hv : Ops w.heap D μ a [x] vals) : Says P base M W nt f g c o a w (cSData std vals) := by
  unfold cSData
  split
  · rename_i id n
    obtain ⟨hx, _⟩ := hv
    intro hb
    have hn : 0 < n := blt_lt hb
    have run : ∀ u, (Builtin.unsafeSliceData_ ts o.type #[a.eval x]).run P w = .ok u w → (execOp a.eval o).run P w = .ok (.value u) w := by
      intro u hu
      unfold execOp
      rw [e]
      simp [resolve, invoke, builtin, hu]
    generalize a.eval x = u at hx run
    cases hx with
    | slv => omega
    | sl0 => omega
    | sl _ _ _ _ b z m cap hm hnc hz ho =>
      have := R.eref (h := w.heap) (D := D) (μ := μ) id 1 0 0 b z m hm (by omega)
      rw [show 0 * 1 + 0 = 0 * 1 by omega] at this
      exact adv_value h hd (run _ (Lib.run_unsafeSliceData_row w ts o.type _ n cap (by omega))) this
  · trivial
theorem says_ustr (hT : TsOk P T) {x y : Operand} {t t2 : Nat} {ts : Array TypeId} (hts : ts.toList = [t, t2]) (e : o.op = .call { callee := .builtin .unsafeString, args := #[x, y], argTypes := ts }) {vals : List AV} (hv : Ops w.heap D μ a [x, y] vals)
    {ob : Nat → Option Ob} (hob : ∀ id z, ob id = some z → g id = some z) {ice : Nat → Bool} (hice : ∀ id, ice id = false → c id = false) : Says P base M W nt f g c o a w (cUStr T std t ob ice vals) := by
  obtain rfl : ts = #[t, t2] := by apply Array.ext'; simpa using hts
  unfold cUStr
  split
  · rename_i id n
    obtain ⟨hx, hy, _⟩ := hv
    split
    · rename_i ty m get pi hic hg hpi
      have hg := hob _ _ hg
      have hic := hice _ hic
      split
      · rename_i el hpt
        split
        · rename_i hty hu8
          obtain rfl := beq_eq hty
          rintro ⟨h0, hm, h63, hby⟩
          have hp := (hT t pi hpi).ptf _ hpt
          have hu := isU8_ok hT hu8
          obtain ⟨ei, hei⟩ : ∃ ei, T.find ty = some ei := by
            unfold isU8 at hu8
            split at hu8
            · rename_i i hi; exact ⟨i, hi⟩
            · cases hu8
          have hag : ei.isAgg = false := by rw [(hT ty ei hei).agg, hu]
          have hc : P.cellsOf ty = 1 := by
            obtain ⟨j, zv, hj, hj2, _⟩ := (hT ty ei hei).info
            rw [Program.cellsOf, hj]; simpa [(hT ty ei hei).single hag] using hj2
          have hyv := hy.inv_int
          have run : ∀ u w', (Builtin.unsafeString_ #[t, t2] o.type #[a.eval x, a.eval y]).run P w = .ok u w' → (execOp a.eval o).run P w = .ok (.value u) w' := by
            intro u w' hu
            unfold execOp
            rw [e]
            simp [resolve, invoke, builtin, hu]
          rw [hyv] at run
          generalize a.eval x = u at hx run
          cases hx with
          | eref _ _ _ _ b z mm hμ hi =>
            obtain ⟨hmm, C, t', fr, hh, hcs, ⟨_, rfl⟩, hle, hrow⟩ := h.obs id _ _ hg hμ
            obtain ⟨l, hl⟩ : ∃ l, l = bytesOf n.toNat (fun i => (get i 0).toI) := ⟨_, rfl⟩
            have hlen : l.length = n.toNat := by rw [hl]; simp [bytesOf]
            have hcell : ∀ j q, l[j]? = some q → w.cell? ((⟨b, 0, none⟩ : Addr).add j) = some (.int .u8 q.toNat) := by
              intro j q hq
              have hj : j < n.toNat := by rw [← hlen]; exact (List.getElem?_eq_some_iff.1 hq).1
              obtain ⟨v, v1, _, v3⟩ := hrow j 0 (by omega) (by omega)
              obtain ⟨xx, x1, x2, x3⟩ := hby j hj
              rw [x1] at v3
              rw [v3.inv_int] at v1
              rw [add_none, cell_h, hcell_of hh]
              rw [hl] at hq
              simp [bytesOf, hj, x1, AV.toI] at hq
              subst hq
              have : (UInt8.ofNat xx.toNat).toNat = xx.toNat := by
                rw [UInt8.toNat_ofNat']; omega
              rw [this, Nat.zero_add]
              have e1 : ((xx.toNat : Nat) : Int) = xx := by omega
              rw [e1]
              simpa using v1
            have hrun := Lib.run_unsafeString_row (P := P) w t t2 o.type _ hp hc b C.size (by simp [World.shape?, hh]) l (by intro h; rw [h] at hlen; simp at hlen; omega) (by rw [hlen]; omega) (by rw [hlen]; omega) hcell
            have hn : ((l.length : Nat) : Int) = n := by rw [hlen]; omega
            rw [hn] at hrun
            have hdef : (Builtin.unsafeString_ #[t, t2] o.type #[.pointer (some ⟨b, 0 * 1 + 0, none⟩), .int .i64 n]).run P w = .ok (.string ⟨l.toArray⟩) (w.freeze ⟨b, 0, none⟩ l.length) := by
              exact hrun
            have fr := freeze_rest w ⟨b, 0, none⟩ l.length
            intro K Q hK
            unfold Oper.wp
            rw [run _ _ hdef]
            refine hK _ _ ⟨_, _, (h.trash hμ hg (by simp) hic fr.1 fr.2.1 fr.2.2 (freeze_size _ _ _) (fun k hk => freeze_other _ _ _ hk)).put hd (.str _ _ ?_)⟩
            rw [hl]; rfl
        · trivial
      · trivial
    · trivial
  · trivial
end
end Sy
end Go.Proofs.YtckbbcjbbmgmoaaDoor
