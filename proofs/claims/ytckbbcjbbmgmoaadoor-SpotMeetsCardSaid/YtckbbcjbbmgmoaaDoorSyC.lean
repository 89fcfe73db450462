/- The symbolic executor: each operation does what the executor says. -/
import Derived.Test.YtckbbcjbbmgmoaaDoorSyB
namespace Go.Proofs.YtckbbcjbbmgmoaaDoor
namespace Sy
open Go Go.RowKit
set_option linter.unusedSimpArgs false
set_option linter.unusedVariables false

/-! ### What is known of the types -/
def litB : AV → Value → Bool
  | .dead, _ => true
  | .bool a, .bool b => a == b
  | .int k a, .int k' b => k == k' && a == b
  | .str l, .string s => s.data.toList == l
  | .nilp, .pointer none => true
  | .nilm, .map none => true
  | .nilf, .nilFunc => true
  | .nils, .slice none n c => n == 0 && c == 0
  | .nili, .nilIface => true
  | _, _ => false
theorem litB_R {h : Array Obj} {D : Nat → Prop} {μ : Mu} {x : AV} {v : Value} (e : litB x v = true) : R h D μ x v := by
  unfold litB at e
  split at e
  · exact .dead _
  · simp at e; subst e; exact .bool _
  · simp at e; obtain ⟨rfl, rfl⟩ := e; exact .int _ _
  · simp at e; exact .str _ _ e
  · exact .nilp
  · exact .nilm
  · exact .nilf
  · simp at e; obtain ⟨rfl, rfl⟩ := e; exact .nils
  · exact .nili
  · cases e
def litsB : List AV → List Value → Bool
  | [], [] => true
  | x :: xs, v :: vs => litB x v && litsB xs vs
  | _, _ => false
theorem litsB_R {h : Array Obj} {D : Nat → Prop} {μ : Mu} : ∀ {xs : List AV} {vs : List Value}, litsB xs vs = true → xs.length = vs.length ∧ ∀ (i : Nat) x v, xs[i]? = some x → vs[i]? = some v → R h D μ x v
  | [], [], _ => ⟨rfl, fun i x v h => by simp at h⟩
  | x :: xs, v :: vs, e => by
    simp only [litsB, Bool.and_eq_true] at e
    obtain ⟨h1, h2⟩ := litsB_R e.2
    refine ⟨by simp [h1], fun i y u hy hu => ?_⟩
    cases i with
    | zero => simp at hy hu; subst hy; subst hu; exact litB_R e.1
    | succ i => exact h2 i y u (by simpa using hy) (by simpa using hu)

def kOk (P : Program) (t : Nat) : TK → Prop
  | .int k => P.underlying t = some (.int k)
  | .bool => P.underlying t = some .bool
  | .str => P.underlying t = some .string
  | .ptr => ∃ e, P.underlying t = some (.pointer e)
  | .func => ∃ p r v, P.underlying t = some (.func p r v)
  | .map kt et => P.underlying t = some (.map kt et)
  | .other => True
  | .iface => ∃ ms, P.underlying t = some (.interface ms)
  | .slice e esz eb => P.underlying t = some (.slice e) ∧ (P.info? e).map (fun i => (i.size, i.bytes)) = some (esz, eb)
  | .arr n e esz => P.underlying t = some (.array n e) ∧ (P.info? e).map (·.size) = some esz
  | .struct fs => ∃ F : Array Field, P.underlying t = some (.struct F) ∧ F.toList.map (fun f => (f.offset, f.type)) = fs
def EqOk (P : Program) (t : Nat) : Prop := P.eqGuardType P.depth t = false ∧ ((∃ F : Array Field, P.underlying t = some (.struct F) ∧ (∀ f, f ∈ F.toList → f.name ≠ "_") ∧ P.stoodInHeld t = false) ∨ ∃ n e, P.underlying t = some (.array n e))
structure TOk (P : Program) (t : Nat) (ti : TI) : Prop where
  info : ∃ i z, P.info? t = some i ∧ i.size = ti.sz ∧ i.zero = some z ∧ ones z.cells ∧ z.cells.size = ti.sz ∧ (∀ h D μ, RL h D μ ti.zero z.cells)
  zag : ∀ i z, P.info? t = some i → i.zero = some z → ti.isAgg = (match z with | .agg _ => true | _ => false)
  agg : ti.isAgg = (match P.underlying t with | some (.struct _) => true | some (.array _ _) => true | _ => false)
  und : ∃ d, P.underlying t = some d
  single : ti.isAgg = false → ti.sz = 1
  k : kOk P t ti.k
  eqf : ti.eq = true → EqOk P t
  ptf : ∀ e, ti.pt = some e → P.underlying t = some (.pointer e)
  upf : ti.up = true → P.underlying t = some .unsafePointer
  lief : ti.lies = true → liesAt P P.depth t 1 0 t 1 = true
def eqB (P : Program) (t : Nat) : Bool := match P.underlying t with
  | some (.struct F) => (F.toList.all fun f => !(f.name == "_")) && !P.stoodInHeld t && !P.eqGuardType P.depth t
  | some (.array _ _) => !P.eqGuardType P.depth t
  | _ => false
theorem eqB_ok {P : Program} {t : Nat} (h : eqB P t = true) : EqOk P t := by
  unfold eqB at h
  split at h
  · rename_i F hF
    simp only [Bool.and_eq_true, Bool.not_eq_true', List.all_eq_true] at h
    exact ⟨h.2, .inl ⟨F, hF, fun f hf hn => by have := h.1.1 f hf; simp [hn] at this, h.1.2⟩⟩
  · rename_i n e hF
    exact ⟨by simpa using h, .inr ⟨n, e, hF⟩⟩
  · cases h
def kB (P : Program) (t : Nat) (k : TK) : Bool :=
  match k, P.underlying t with
  | .int k, some (.int k') => k == k'
  | .bool, some .bool => true
  | .str, some .string => true
  | .ptr, some (.pointer _) => true
  | .func, some (.func _ _ _) => true
  | .map kt et, some (.map kt' et') => kt == kt' && et == et'
  | .other, _ => true
  | .iface, some (.interface _) => true
  | .slice e esz eb, some (.slice e') => e == e' && (match P.info? e with | some i => i.size == esz && i.bytes == eb | none => false)
  | .arr n e esz, some (.array n' e') => n == n' && e == e' && (match P.info? e with | some i => i.size == esz | none => false)
  | .struct fs, some (.struct F) => F.toList.map (fun f => (f.offset, f.type)) == fs
  | _, _ => false
def tB (P : Program) (t : Nat) (ti : TI) : Bool :=
  (match P.info? t with
    | some i => (match i.zero with
      | some z => i.size == ti.sz && z.cells.size == ti.sz && z.cells.toList.all Value.oneCell' && litsB ti.zero z.cells.toList && ti.isAgg == (match z with | .agg _ => true | _ => false)
      | none => false)
    | none => false) &&
  (match P.underlying t with
    | some d => ti.isAgg == (match d with | .struct _ => true | .array _ _ => true | _ => false)
    | none => false) && (ti.isAgg || ti.sz == 1) && kB P t ti.k && (!ti.eq || eqB P t) &&
  ((match ti.pt with | some e => (match P.underlying t with | some (.pointer e') => e == e' | _ => false) | none => true) && (!ti.up || (match P.underlying t with | some .unsafePointer => true | _ => false)) && (!ti.lies || liesAt P P.depth t 1 0 t 1))
theorem szB {P : Program} {e esz eb : Nat} (h : (match P.info? e with | some i => i.size == esz && i.bytes == eb | none => false) = true) : (P.info? e).map (fun i => (i.size, i.bytes)) = some (esz, eb) := by
  split at h
  · rename_i i hi; simp only [Bool.and_eq_true, beq_iff_eq] at h; rw [hi]; simp [h.1, h.2]
  · cases h
theorem szB1 {P : Program} {e esz : Nat} (h : (match P.info? e with | some i => i.size == esz | none => false) = true) : (P.info? e).map (·.size) = some esz := by
  split at h
  · rename_i i hi; simp only [beq_iff_eq] at h; rw [hi]; simp [h]
  · cases h
theorem kB_ok {P : Program} {t : Nat} {k : TK} (h : kB P t k = true) : kOk P t k := by
  unfold kB at h
  cases k with
  | map kt et => cases hu : P.underlying t with
    | none => rw [hu] at h; cases h
    | some d => rw [hu] at h; cases d <;> first | (cases h; done) | (simp only [Bool.and_eq_true, beq_iff_eq] at h; obtain ⟨rfl, rfl⟩ := h; exact hu)
  | other => trivial
  | iface => cases hu : P.underlying t with
    | none => rw [hu] at h; cases h
    | some d => rw [hu] at h; cases d <;> first | (cases h; done) | exact ⟨_, hu⟩
  | int k => cases hu : P.underlying t with
    | none => rw [hu] at h; cases h
    | some d => rw [hu] at h; cases d <;> first | (cases h; done) | (simp only [beq_iff_eq] at h; subst h; exact hu)
  | bool => cases hu : P.underlying t with
    | none => rw [hu] at h; cases h
    | some d => rw [hu] at h; cases d <;> first | (cases h; done) | exact hu
  | str => cases hu : P.underlying t with
    | none => rw [hu] at h; cases h
    | some d => rw [hu] at h; cases d <;> first | (cases h; done) | exact hu
  | ptr => cases hu : P.underlying t with
    | none => rw [hu] at h; cases h
    | some d => rw [hu] at h; cases d <;> first | (cases h; done) | exact ⟨_, hu⟩
  | func => cases hu : P.underlying t with
    | none => rw [hu] at h; cases h
    | some d => rw [hu] at h; cases d <;> first | (cases h; done) | exact ⟨_, _, _, hu⟩
  | slice e esz eb => cases hu : P.underlying t with
    | none => rw [hu] at h; cases h
    | some d =>
      rw [hu] at h
      cases d <;> first | (cases h; done) | skip
      simp only [Bool.and_eq_true, beq_iff_eq] at h
      obtain ⟨rfl, h2⟩ := h
      exact ⟨hu, szB h2⟩
  | arr n e esz => cases hu : P.underlying t with
    | none => rw [hu] at h; cases h
    | some d =>
      rw [hu] at h
      cases d <;> first | (cases h; done) | skip
      simp only [Bool.and_eq_true, beq_iff_eq] at h
      obtain ⟨⟨rfl, rfl⟩, h2⟩ := h
      exact ⟨hu, szB1 h2⟩
  | struct fs => cases hu : P.underlying t with
    | none => rw [hu] at h; cases h
    | some d =>
      rw [hu] at h
      cases d <;> first | (cases h; done) | skip
      simp only [beq_iff_eq] at h
      exact ⟨_, hu, h⟩
theorem tB_ok {P : Program} {t : Nat} {ti : TI} (h : tB P t ti = true) : TOk P t ti := by
  unfold tB at h
  simp only [Bool.and_eq_true] at h
  obtain ⟨⟨⟨⟨⟨h1, h2⟩, h4⟩, h3⟩, h5⟩, ⟨h6, h7⟩, h8⟩ := h
  refine ⟨?_, ?_, ?_, ?_, fun e => by simpa [e] using h4, kB_ok h3, fun e => eqB_ok (by simpa [e] using h5), fun e he => ?_, fun e => ?_, fun e => by simpa [e] using h8⟩
  rotate_left 4
  · rw [he] at h6
    simp only at h6
    split at h6
    · rename_i e' hu; simp only [beq_iff_eq] at h6; rw [hu, h6]
    · cases h6
  · rw [e] at h7
    simp only [Bool.not_true, Bool.false_or] at h7
    split at h7
    · rename_i hu; exact hu
    · cases h7
  · split at h1
    · rename_i i hi
      split at h1
      · rename_i z hz
        simp only [Bool.and_eq_true, beq_iff_eq] at h1
        obtain ⟨⟨⟨⟨a, b⟩, c⟩, d⟩, -⟩ := h1
        refine ⟨i, z, hi, a, hz, fun j v hv => ?_, b, fun h D μ => ?_⟩
        · rw [List.all_eq_true] at c
          exact c v (List.mem_of_getElem? (i := j) (by simpa using hv))
        · have := litsB_R (h := h) (D := D) (μ := μ) d
          exact ⟨by simpa using this.1, fun i x v hx hv => this.2 i x v hx (by simpa using hv)⟩
      · cases h1
    · cases h1
  · intro i z hi hz
    rw [hi] at h1
    simp only [hz, Bool.and_eq_true, beq_iff_eq] at h1
    exact h1.2
  · split at h2
    · rename_i d hd
      rw [hd]
      simp only [beq_iff_eq] at h2
      rw [h2]
      cases d <;> rfl
    · cases h2
  · split at h2
    · rename_i d hd; exact ⟨d, hd⟩
    · cases h2
def TT.all (p : Nat → TI → Bool) : TT → Bool
  | .leaf => true
  | .node l t i r => l.all p && p t i && r.all p
theorem TT.all_find {p : Nat → TI → Bool} : ∀ {T : TT}, T.all p = true → ∀ {t : Nat} {i : TI}, T.find t = some i → p t i = true
  | .leaf, _, t, i, h => by cases h
  | .node l t' i' r, ha, t, i, h => by
    simp only [TT.all, Bool.and_eq_true] at ha
    unfold TT.find at h
    split at h
    · rename_i e; cases h; rw [beq_eq e]; exact ha.1.2
    · split at h
      · exact TT.all_find ha.1.1 h
      · exact TT.all_find ha.2 h
abbrev TsOk (P : Program) (T : TT) : Prop := ∀ t i, T.find t = some i → TOk P t i
theorem tsOk_of {P : Program} {T : TT} (h : T.all (tB P) = true) : TsOk P T := fun t i hf => tB_ok (TT.all_find h hf)

section
variable {P : Program} {t : Nat} {ti : TI}
theorem TOk.sizeOf (h : TOk P t ti) (w : World) : (sizeOf t).run P w = .ok ti.sz w := by
  obtain ⟨i, z, h1, h2, _⟩ := h.info
  simp [Go.sizeOf, typeInfo, program, Sem.run, h1, h2]
theorem TOk.isAgg_ (h : TOk P t ti) (w : World) : (isAgg t).run P w = .ok ti.isAgg w := by
  obtain ⟨d, hd⟩ := h.und
  have := h.agg
  rw [hd] at this
  rw [this]
  simp only [Go.isAgg, Sem.run_bind, run_underlying hd, Result.andThen_ok]
  cases d <;> rfl
theorem TOk.zeroV (h : TOk P t ti) : ∃ z : Value, (∀ w, (zeroValue t).run P w = .ok z w) ∧ ones z.cells ∧ z.cells.size = ti.sz ∧ ∀ h D μ, RL h D μ ti.zero z.cells := by
  obtain ⟨i, z, h1, h2, h3, h4, h5, h6⟩ := h.info
  exact ⟨z, fun w => by simp [zeroValue, typeInfo, program, Sem.run, h1, h3], h4, h5, h6⟩
/-- The zero value, whole. -/
theorem TOk.zeroR (h : TOk P t ti) : ∃ z : Value, (∀ w, (zeroValue t).run P w = .ok z w) ∧ ∀ hp D μ, R hp D μ (zeroOf ti) z := by
  obtain ⟨i, z, h1, h2, h3, h4, h5, h6⟩ := h.info
  refine ⟨z, fun w => by simp [zeroValue, typeInfo, program, Sem.run, h1, h3], fun hp D μ => ?_⟩
  have hz := h.zag i z h1 h3
  have r := h6 hp D μ
  unfold zeroOf
  cases hag : ti.isAgg with
  | true =>
    rw [hag] at hz
    cases z with
    | agg cs => exact .agg _ _ r.1 h4 r.2
    | _ => cases hz
  | false =>
    rw [hag] at hz
    have hs := h.single hag
    have hc : z.cells = #[z] := by cases z <;> first | rfl | (simp at hz)
    rw [hc] at r h5
    have hl : ti.zero.length = 1 := by rw [r.1]; rfl
    match hq : ti.zero, hl with
    | [x], _ => rw [hq] at r; exact r.2 0 x z rfl rfl
end

end Sy
end Go.Proofs.YtckbbcjbbmgmoaaDoor
