/- The symbolic executor: values that are handed on (their blocks are frozen), new blocks. -/
import Derived.Test.YtckbbcjbbmgmoaaDoorSyI
namespace Go.Proofs.YtckbbcjbbmgmoaaDoor
namespace Sy
open Go Go.RowKit
set_option linter.unusedSimpArgs false
set_option linter.unusedVariables false

section
variable {P : Program} {T : TT} {base : Nat} {M : Two} {W : World} {nt : Nat} {f : Nat → Option AV} {g : Nat → Option Ob} {c : Nat → Bool} {a : Act} {w : World} {D : Nat → Prop} {μ : Mu} {o : Oper}

/-- The blocks that are frozen with these names. -/
def DF (D : Nat → Prop) (μ : Mu) (ids : List Nat) : Nat → Prop := fun b => D b ∨ ∃ id z m, id ∈ ids ∧ μ id = some (some (b, z, m))
theorem DF_mono {ids ids' : List Nat} (hs : ∀ i, i ∈ ids → i ∈ ids') {b : Nat} (hb : DF D μ ids b) : DF D μ ids' b := by
  rcases hb with hb | ⟨id, z, m, h1, h2⟩
  · exact .inl hb
  · exact .inr ⟨id, z, m, hs _ h1, h2⟩
abbrev Alive (g : Nat → Option Ob) (ids : List Nat) : Prop := ∀ id, id ∈ ids → ∃ o, g id = some o ∧ o ≠ .gone

theorem imm1_ok (h : Sim base M W nt f g c a w D μ) {ob : Nat → Option Ob} (hob : ∀ id z, ob id = some z → g id = some z) {x x' : AV} {v : Value} (e : imm1 std ob x = some x') (r : R w.heap D μ x v) {ids : List Nat} (hi : ∀ i, i ∈ ids1 x → i ∈ ids) :
    R w.heap (DF D μ ids) noMu x' v ∧ Alive g (ids1 x) := by
  have up : ∀ {y : AV} {u : Value}, R w.heap D noMu y u → R w.heap (DF D μ ids) noMu y u := fun r => r.mono (fun _ _ => rfl) (fun _ h => .inl h) (fun _ _ h => h)
  cases x with
  | sl id sz off n =>
    simp only [imm1] at e
    split at e
    · rename_i sz' n' get hg
      have hg := hob _ _ hg
      split at e
      · rename_i hsz
        obtain rfl := beq_eq hsz
        cases e
        refine ⟨?_, fun i hi' => ?_⟩
        · cases r with
          | slv => exact .lst0 _ _ _ _ (fun _ => rfl)
          | sl0 => exact .lst0 _ _ _ _ (fun _ => rfl)
          | sl _ _ _ _ b z m cap hμ hn hz ho =>
            obtain ⟨hm, cc, t', fr, hh, hcs, _, hle, hrow⟩ := h.obs id _ _ hg hμ
            have key : ∀ i j, i < n → j < sz → ∃ y, cc[off * sz + i * sz + j]? = some y ∧ one y ∧ R w.heap D noMu (get (off + i) j) y := by
              intro i j h1 h2
              obtain ⟨y, y1, y2, y3⟩ := hrow (off + i) j (by omega) h2
              rw [Nat.add_mul] at y1
              exact ⟨y, y1, y2, y3⟩
            refine .lst _ _ _ b (off * sz) cap (fun i j => cc.getD (off * sz + i * sz + j) undef) (.inr ⟨id, z, m, hi _ (by simp [ids1, ids0]), hμ⟩) hn (fun i j h1 h2 => ?_) (fun i j h1 h2 => ?_) (fun i j h1 h2 => ?_)
            · obtain ⟨y, y1, _⟩ := key i j h1 h2
              rw [hcell_of hh]; exact getD_some (Array.getElem?_eq_some_iff.1 y1).1
            · obtain ⟨y, y1, y2, _⟩ := key i j h1 h2
              rw [getD_some (Array.getElem?_eq_some_iff.1 y1).1] at y1; cases y1; exact y2
            · obtain ⟨y, y1, _, y3⟩ := key i j h1 h2
              rw [getD_some (Array.getElem?_eq_some_iff.1 y1).1] at y1; cases y1; exact up y3
        · simp [ids1, ids0] at hi'; subst hi'; exact ⟨_, hg, by simp⟩
      · cases e
    · cases e
  | ref id off =>
    simp only [imm1] at e
    split at e
    · rename_i cs hg
      have hg := hob _ _ hg
      split at e
      · rename_i hf
        cases e
        refine ⟨?_, fun i hi' => by simp [ids1, ids0] at hi'; subst hi'; exact ⟨_, hg, by simp⟩⟩
        cases r with
        | ref _ _ b z m hμ =>
          obtain ⟨cc, t', fr, hh, hcs, _, h1, e1, hr⟩ := h.obs id _ _ hg hμ
          refine .iptr _ _ b off (fun j => cc.getD (off + j) undef) (.inr ⟨id, z, m, hi _ (by simp [ids1, ids0]), hμ⟩) (fun j hj => ?_) (fun j hj => ?_) (fun j hj => ?_)
          · rw [llen_eq] at hj; rw [hcell_of hh]; exact getD_some (by omega)
          · rw [llen_eq] at hj; exact h1 (off + j) _ (getD_some (by omega))
          · rw [llen_eq] at hj
            have h3 := hr (off + j) _ _ (lget_get .dead cs (off + j) (by omega)) (getD_some (by omega))
            exact up (free1_R h3 (freeL_get hf _ _ (lget_get .dead cs (off + j) (by omega))))
      · cases e
    · rename_i sz n get hg
      have hg := hob _ _ hg
      split at e
      · cases e
        refine ⟨?_, fun i hi' => by simp [ids1, ids0] at hi'; subst hi'; exact ⟨_, hg, by simp⟩⟩
        cases r with
        | ref _ _ b z m hμ =>
          obtain ⟨hm, cc, t', fr, hh, hcs, _, hle, hrow⟩ := h.obs id _ _ hg hμ
          have key : ∀ q, q < n * sz → ∃ y, cc[q]? = some y ∧ one y ∧ R w.heap D noMu (flat get sz q) y := by
            intro q hq
            have hs0 : 0 < sz := by
              rcases Nat.eq_zero_or_pos sz with h0 | h0
              · rw [h0] at hq; omega
              · exact h0
            obtain ⟨y, hy1, hy2, hy3⟩ := hrow (q / sz) (q % sz) (Nat.div_lt_of_lt_mul (by rw [Nat.mul_comm]; omega)) (Nat.mod_lt _ hs0)
            have e3 : q / sz * sz + q % sz = q := by rw [Nat.mul_comm]; exact Nat.div_add_mod q sz
            rw [e3] at hy1
            rw [flat1 _ _ _ hs0]
            exact ⟨y, hy1, hy2, hy3⟩
          refine .iptr _ _ b 0 (fun j => cc.getD j undef) (.inr ⟨id, z, m, hi _ (by simp [ids1, ids0]), hμ⟩) (fun j hj => ?_) (fun j hj => ?_) (fun j hj => ?_)
          · obtain ⟨y, y1, _⟩ := key j hj
            rw [hcell_of hh, Nat.zero_add]; exact getD_some (Array.getElem?_eq_some_iff.1 y1).1
          · obtain ⟨y, y1, y2, _⟩ := key j hj
            rw [getD_some (Array.getElem?_eq_some_iff.1 y1).1] at y1; cases y1; exact y2
          · obtain ⟨y, y1, _, y3⟩ := key j hj
            rw [getD_some (Array.getElem?_eq_some_iff.1 y1).1] at y1; cases y1; exact up y3
      · cases e
    · cases e
  | eref id sz i off =>
    simp only [imm1] at e
    split at e
    · rename_i sz' n get hg
      have hg := hob _ _ hg
      split at e
      · rename_i hsz
        obtain rfl := beq_eq hsz
        cases e
        refine ⟨?_, fun i hi' => by simp [ids1, ids0] at hi'; subst hi'; exact ⟨_, hg, by simp⟩⟩
        cases r with
        | eref _ _ _ _ b z m hμ hi' =>
          obtain ⟨hm, cc, t', fr, hh, hcs, _, hle, hrow⟩ := h.obs id _ _ hg hμ
          have key : ∀ j, j < sz - off → ∃ y, cc[i * sz + off + j]? = some y ∧ one y ∧ R w.heap D noMu (get i (off + j)) y := by
            intro j hj
            obtain ⟨y, hy1, hy2, hy3⟩ := hrow i (off + j) (by omega) (by omega)
            rw [← Nat.add_assoc] at hy1
            exact ⟨y, hy1, hy2, hy3⟩
          refine .iptr _ _ b (i * sz + off) (fun j => cc.getD (i * sz + off + j) undef) (.inr ⟨id, z, m, hi _ (by simp [ids1, ids0]), hμ⟩) (fun j hj => ?_) (fun j hj => ?_) (fun j hj => ?_)
          · obtain ⟨y, y1, _⟩ := key j hj
            rw [hcell_of hh]; exact getD_some (Array.getElem?_eq_some_iff.1 y1).1
          · obtain ⟨y, y1, y2, _⟩ := key j hj
            rw [getD_some (Array.getElem?_eq_some_iff.1 y1).1] at y1; cases y1; exact y2
          · obtain ⟨y, y1, _, y3⟩ := key j hj
            rw [getD_some (Array.getElem?_eq_some_iff.1 y1).1] at y1; cases y1; exact up y3
      · cases e
    · cases e
  | fn k xs ys =>
    simp only [imm1] at e
    split at e
    · rename_i hf
      cases e
      refine ⟨up (free1_R r hf), ?_⟩
      have none0 : ∀ l : List AV, plainL l = true → ids0L l = [] := by
        intro l
        induction l with
        | nil => intro _; rfl
        | cons y l ih =>
          intro hl
          simp only [plainL] at hl
          split at hl
          · rename_i hy
            simp only [ids0L, ih hl]
            cases y <;> first | rfl | cases hy
          · cases hl
      simp only [free1] at hf
      split at hf
      · rename_i hx
        intro i hi'
        simp [ids1, none0 _ hx, none0 _ hf, lapp] at hi'
      · cases hf
    · cases e
  | agg cs => cases e
  | tup cs => cases e
  | mp id =>
    simp only [imm1] at e
    split at e
    · rename_i kk n has val hg
      have hg := hob _ _ hg
      cases e
      cases r with
      | mp _ b z m hμ =>
        obtain ⟨es, clock, kf, hb, hn, hk, hr⟩ := h.obs id _ _ hg hμ
        refine ⟨.mpi _ _ _ _ b es clock kf (.inr ⟨id, z, m, hi _ (by simp [ids1, ids0]), hμ⟩) hb hn hk (fun i x hx => up (hr i x hx)), fun i hi' => ?_⟩
        simp [ids1, ids0] at hi'; subst hi'; exact ⟨_, hg, by simp⟩
    · cases e
  | bidx => cases e
  | mpi kk n has val => cases e; exact ⟨up (plain0_R r rfl), fun i hi' => by simp [ids1, ids0] at hi'⟩
  | dead => cases e; exact ⟨.dead _, fun i hi' => by simp [ids1, ids0] at hi'⟩
  | bool b => cases e; exact ⟨up (plain0_R r rfl), fun i hi' => by simp [ids1, ids0] at hi'⟩
  | int k n => cases e; exact ⟨up (plain0_R r rfl), fun i hi' => by simp [ids1, ids0] at hi'⟩
  | str l => cases e; exact ⟨up (plain0_R r rfl), fun i hi' => by simp [ids1, ids0] at hi'⟩
  | nilp => cases e; exact ⟨up (plain0_R r rfl), fun i hi' => by simp [ids1, ids0] at hi'⟩
  | nilm => cases e; exact ⟨up (plain0_R r rfl), fun i hi' => by simp [ids1, ids0] at hi'⟩
  | nilf => cases e; exact ⟨up (plain0_R r rfl), fun i hi' => by simp [ids1, ids0] at hi'⟩
  | nils => cases e; exact ⟨up (plain0_R r rfl), fun i hi' => by simp [ids1, ids0] at hi'⟩
  | nili => cases e; exact ⟨up (plain0_R r rfl), fun i hi' => by simp [ids1, ids0] at hi'⟩
  | ifb b => cases e; exact ⟨up (plain0_R r rfl), fun i hi' => by simp [ids1, ids0] at hi'⟩
  | emp => cases e; exact ⟨up (plain0_R r rfl), fun i hi' => by simp [ids1, ids0] at hi'⟩
  | emz => cases e; exact ⟨up (plain0_R r rfl), fun i hi' => by simp [ids1, ids0] at hi'⟩
  | lst sz n get => cases e; exact ⟨up (plain0_R r rfl), fun i hi' => by simp [ids1, ids0] at hi'⟩
  | iptr n get => cases e; exact ⟨up (plain0_R r rfl), fun i hi' => by simp [ids1, ids0] at hi'⟩
  | arr n get => cases e; exact ⟨up (plain0_R r rfl), fun i hi' => by simp [ids1, ids0] at hi'⟩

theorem imm1_alive {ob : Nat → Option Ob} (hob : ∀ id z, ob id = some z → g id = some z) {x x' : AV} (e : imm1 std ob x = some x') : Alive g (ids1 x) := by
  intro i hi'
  cases x with
  | sl id sz off n =>
    simp [ids1, ids0] at hi'; subst hi'
    simp only [imm1] at e
    split at e
    · rename_i hg; exact ⟨_, hob _ _ hg, by simp⟩
    · cases e
  | ref id off =>
    simp [ids1, ids0] at hi'; subst hi'
    simp only [imm1] at e
    split at e
    · rename_i hg; exact ⟨_, hob _ _ hg, by simp⟩
    · rename_i hg; exact ⟨_, hob _ _ hg, by simp⟩
    · cases e
  | eref id sz j off =>
    simp [ids1, ids0] at hi'; subst hi'
    simp only [imm1] at e
    split at e
    · rename_i hg; exact ⟨_, hob _ _ hg, by simp⟩
    · cases e
  | mp id =>
    simp [ids1, ids0] at hi'; subst hi'
    simp only [imm1] at e
    split at e
    · rename_i hg; exact ⟨_, hob _ _ hg, by simp⟩
    · cases e
  | bidx => cases e
  | fn k xs ys =>
    simp only [imm1] at e
    split at e
    · rename_i hf
      have none0 : ∀ l : List AV, plainL l = true → ids0L l = [] := by
        intro l
        induction l with
        | nil => intro _; rfl
        | cons y l ih =>
          intro hl
          simp only [plainL] at hl
          split at hl
          · rename_i hy
            simp only [ids0L, ih hl]
            cases y <;> first | rfl | cases hy
          · cases hl
      simp only [free1] at hf
      split at hf
      · rename_i hx
        simp [ids1, none0 _ hx, none0 _ hf, lapp] at hi'
      · cases hf
    · cases e
  | _ => simp [ids1, ids0] at hi'
theorem immL_ok (h : Sim base M W nt f g c a w D μ) {ob : Nat → Option Ob} (hob : ∀ id z, ob id = some z → g id = some z) : ∀ {xs xs' : List AV}, immL std ob xs = some xs' → ∀ {ids : List Nat}, (∀ i, i ∈ idsL xs → i ∈ ids) →
    xs'.length = xs.length ∧ Alive g (idsL xs) ∧ ∀ (i : Nat) x x' v, xs[i]? = some x → xs'[i]? = some x' → R w.heap D μ x v → R w.heap (DF D μ ids) noMu x' v
  | [], xs', e, ids, hi => by
    cases e
    exact ⟨rfl, fun i hi' => by simp [idsL] at hi', fun i x x' v hx => by simp at hx⟩
  | x :: xs, xs', e, ids, hi => by
    simp only [immL] at e
    split at e
    · rename_i y hy
      split at e
      · rename_i ys hys
        cases e
        have hi1 : ∀ i, i ∈ ids1 x → i ∈ ids := fun i h => hi i (by simp [idsL, lapp_eq, h])
        have hi2 : ∀ i, i ∈ idsL xs → i ∈ ids := fun i h => hi i (by simp [idsL, lapp_eq, h])
        obtain ⟨l1, l2, l3⟩ := immL_ok h hob hys hi2
        refine ⟨by simp [l1], fun i hi' => ?_, fun i z z' v hz hz' r => ?_⟩
        · simp only [idsL, lapp_eq, List.mem_append] at hi'
          rcases hi' with hi' | hi'
          · exact imm1_alive hob hy i hi'
          · exact l2 i hi'
        · cases i with
          | zero => simp at hz hz'; subst hz; subst hz'; exact (imm1_ok h hob hy r hi1).1
          | succ i => exact l3 i z z' v (by simpa using hz) (by simpa using hz') r
      · cases e
    · cases e

theorem immV_ok (h : Sim base M W nt f g c a w D μ) {ob : Nat → Option Ob} (hob : ∀ id z, ob id = some z → g id = some z) {x x' : AV} (e : immV std ob x = some x') {ids : List Nat} (hi : ∀ i, i ∈ idsV x → i ∈ ids) :
    Alive g (idsV x) ∧ ∀ v, R w.heap D μ x v → R w.heap (DF D μ ids) noMu x' v := by
  cases x with
  | agg cs =>
    simp only [immV] at e
    split at e
    · rename_i ds hds
      cases e
      obtain ⟨l1, l2, l3⟩ := immL_ok h hob hds hi
      refine ⟨l2, fun v r => ?_⟩
      obtain ⟨us, rfl, h1, e1, hr⟩ := r.inv_agg
      refine .agg _ _ (by rw [l1, e1]) h1 (fun i x' v hx' hv => ?_)
      have hlt : i < cs.length := by rw [← l1]; exact (List.getElem?_eq_some_iff.1 hx').1
      exact l3 i cs[i] x' v (by simp [hlt]) hx' (hr i _ v (by simp [hlt]) hv)
    · cases e
  | fn k xs ys =>
    simp only [immV] at e
    split at e
    · rename_i xs' hxs
      split at e
      · rename_i ys' hys
        cases e
        obtain ⟨l1, l2, l3⟩ := immL_ok h hob hxs (ids := ids) (fun i h => hi i (by simp [idsV, lapp_eq, h]))
        obtain ⟨m1, m2, m3⟩ := immL_ok h hob hys (ids := ids) (fun i h => hi i (by simp [idsV, lapp_eq, h]))
        refine ⟨fun i hi' => ?_, fun v r => ?_⟩
        · simp only [idsV, lapp_eq, List.mem_append] at hi'
          rcases hi' with hi' | hi'
          · exact l2 i hi'
          · exact m2 i hi'
        · cases r with
          | fn _ _ _ vs us e1 e2 h1 h2 =>
            refine .fn _ _ _ _ _ (by rw [l1, e1]) (by rw [m1, e2]) (fun i x' v hx' hv => ?_) (fun i x' v hx' hv => ?_)
            · have hlt : i < xs.length := by rw [← l1]; exact (List.getElem?_eq_some_iff.1 hx').1
              exact l3 i xs[i] x' v (by simp [hlt]) hx' (h1 i _ v (by simp [hlt]) hv)
            · have hlt : i < ys.length := by rw [← m1]; exact (List.getElem?_eq_some_iff.1 hx').1
              exact m3 i ys[i] x' v (by simp [hlt]) hx' (h2 i _ v (by simp [hlt]) hv)
      · cases e
    · cases e
  | tup cs => (simp only [immV, imm1] at e; cases e)
  | _ => (simp only [immV] at e; exact ⟨imm1_alive hob e, fun v r => (imm1_ok h hob e r hi).1⟩)
theorem immVs_ok (h : Sim base M W nt f g c a w D μ) {ob : Nat → Option Ob} (hob : ∀ id z, ob id = some z → g id = some z) : ∀ {xs xs' : List AV}, immVs std ob xs = some xs' → ∀ {ids : List Nat}, (∀ i, i ∈ idsVs xs → i ∈ ids) →
    xs'.length = xs.length ∧ Alive g (idsVs xs) ∧ ∀ (i : Nat) x x' v, xs[i]? = some x → xs'[i]? = some x' → R w.heap D μ x v → R w.heap (DF D μ ids) noMu x' v
  | [], xs', e, ids, hi => by
    cases e
    exact ⟨rfl, fun i hi' => by simp [idsVs] at hi', fun i x x' v hx => by simp at hx⟩
  | x :: xs, xs', e, ids, hi => by
    simp only [immVs] at e
    split at e
    · rename_i y hy
      split at e
      · rename_i ys hys
        cases e
        have hi1 : ∀ i, i ∈ idsV x → i ∈ ids := fun i h => hi i (by simp [idsVs, lapp_eq, h])
        have hi2 : ∀ i, i ∈ idsVs xs → i ∈ ids := fun i h => hi i (by simp [idsVs, lapp_eq, h])
        obtain ⟨l1, l2, l3⟩ := immVs_ok h hob hys hi2
        obtain ⟨v1, v2⟩ := immV_ok h hob hy hi1
        refine ⟨by simp [l1], fun i hi' => ?_, fun i z z' v hz hz' r => ?_⟩
        · simp only [idsVs, lapp_eq, List.mem_append] at hi'
          rcases hi' with hi' | hi'
          · exact v1 i hi'
          · exact l2 i hi'
        · cases i with
          | zero => simp at hz hz'; subst hz; subst hz'; exact v2 v r
          | succ i => exact l3 i z z' v (by simpa using hz) (by simpa using hz') r
      · cases e
    · cases e
end

end Sy
end Go.Proofs.YtckbbcjbbmgmoaaDoor
