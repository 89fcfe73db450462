/- The symbolic executor: calls that turn blocks of the caller's own. -/
import Derived.Test.YtckbbcjbbmgmoaaDoorSyQa
namespace Go.Proofs.YtckbbcjbbmgmoaaDoor
namespace Sy
open Go Go.RowKit
set_option linter.unusedSimpArgs false
set_option linter.unusedVariables false
set_option linter.unusedSectionVars false

/-- How a call ends that may turn the blocks that are named. -/
structure MEnd (D : Nat → Prop) (w : World) (μ : Mu) (O O1 : List (Nat × Ob)) (r : AV) (e : Ending) (v : Value) (w' : World) (D' : Nat → Prop) (μ' : Mu) : Prop where
  ret : e = .returned v
  os : w'.os = w.os
  tape : w'.tape = w.tape
  output : w'.output = w.output
  size : w.heap.size ≤ w'.heap.size
  old : ∀ b, b < w.heap.size → (∀ n z, μ n ≠ some (some (b, z))) → w'.heap[b]? = w.heap[b]?
  up : ∀ b, D b → D' b
  dn : ∀ b, D' b → D b ∨ (w.heap.size ≤ b ∧ b < w'.heap.size) ∨ ∃ n z, μ n = some (some (b, z))
  dom : ∀ n, μ' n = none ↔ aget O1 n = none
  obs : ∀ n o x, aget O1 n = some o → μ' n = some x → ObOk w'.heap D' μ' o x
  inj : ∀ n n' b z z', μ' n = some (some (b, z)) → μ' n' = some (some (b, z')) → n = n'
  own : ∀ n b z, μ' n = some (some (b, z)) → b < w'.heap.size ∧ ¬ D' b ∧ (w.heap.size ≤ b ∨ ∃ m z', μ m = some (some (b, z')))
  keep : ∀ n, aget O n ≠ none → aget O1 n ≠ none → μ' n = μ n
  val : R w'.heap D' μ' r v
/-- The function answers r of xs, where the blocks that are named hold O; then they hold O1. -/
def MCalls (P : Program) (f : FuncId) (xs : List AV) (O : List (Nat × Ob)) (r : AV) (O1 : List (Nat × Ob)) : Prop :=
  ∀ (D : Nat → Prop) (w : World) (μ : Mu) (vs : Array Value), (∀ b, D b → b < w.heap.size) → RL w.heap D μ xs vs →
    (∀ n, μ n = none ↔ aget O n = none) → (∀ n o x, aget O n = some o → μ n = some x → ObOk w.heap D μ o x) →
    (∀ n n' b z z', μ n = some (some (b, z)) → μ n' = some (some (b, z')) → n = n') → (∀ n b z, μ n = some (some (b, z)) → b < w.heap.size ∧ ¬ D b) → GOk w → (∀ n b z, μ n = some (some (b, z)) → gN ≤ b) →
    CallTo P f vs w fun e w' => ∃ v D' μ', MEnd D w μ O O1 r e v w' D' μ'

structure MetM (g : Nat → Option Ob) (c : Nat → Bool) (raw : List AV) (F : List (Nat × Option Nat)) (fr : Nat) (T : MTpl) : Prop where
  len : raw.length = T.xs.length
  xs : ∀ h D μ vs, RL h D μ raw vs → RL h D (muOf μ F) T.xs vs
  inj : Inj F
  dom : ∀ n x, aget F n = some x → aget T.O n ≠ none
  obs : ∀ n o, aget T.O n = some o → ∃ x, aget F n = some x ∧ match x with
    | some id => c id = false ∧ ∃ o', g id = some o' ∧ o' ≠ .gone ∧ ∀ h D μ y, ObOk h D μ o' y → ObOk h D (muOf μ F) o y
    | none => ∀ h D μ, ObOk h D (muOf μ F) o none
  fresh : ∀ n o, aget T.O1 n = some o → (∀ id, aget F n ≠ some (some id)) → g (fr + n) = none
  unpin : ∀ n o, aget T.O1 n = some o → (∀ id, aget F n ≠ some (some id)) → isPin (fr + n) = false
  ng : ∀ n, aget T.O1 n ≠ some .gone
def mOs (F : List (Nat × Option Nat)) (fr : Nat) (T : MTpl) : List (Nat × Ob) := lapp (newOs F fr T.O1) (goneOf F T.O1 T.O)

theorem aget_app' {α : Type} (os l : List (Nat × α)) (id : Nat) : aget (lapp os l) id = match aget os id with | some o => some o | none => aget l id := by
  induction os with
  | nil => rfl
  | cons x os ih =>
    obtain ⟨i, o⟩ := x
    simp only [lapp, aget]
    cases nbeq i id <;> simp [ih]
/-! ### names turned -/
section
variable {F : List (Nat × Option Nat)} {fr : Nat} {h : Array Obj} {D : Nat → Prop} {μ μ' : Mu}
theorem ren0_R (hμ : ∀ n y, μ n = some y → μ' (tgt F fr n) = some y) {x : AV} {v : Value} (r : R h D μ x v) : R h D μ' (ren0 F fr x) v := by
  cases r with
  | dead v => exact .dead v
  | bool b => exact .bool b
  | int k n => exact .int k n
  | str l s e => exact .str l s e
  | nilp => exact .nilp
  | nilm => exact .nilm
  | nilf => exact .nilf
  | nils => exact .nils
  | nili => exact .nili
  | ifn => exact .ifn
  | ifs t p => exact .ifs t p
  | emp a cap => exact .emp a cap
  | emz a => exact .emz a
  | lst0 sz get a cap hn => exact .lst0 sz get a cap hn
  | lst sz n get b o cap vs hD hc hv h1 hr => exact .lst sz n get b o cap vs hD hc hv h1 hr
  | iptr n get b o vs hD hv h1 hr => exact .iptr n get b o vs hD hv h1 hr
  | arr n get vs e h1 hr => exact .arr n get vs e h1 hr
  | ref id off b z m hm => exact .ref _ off b z m (hμ _ _ hm)
  | eref id sz i off b z m hm hi => exact .eref _ sz i off b z m (hμ _ _ hm) hi
  | slv id sz a hm => exact .slv _ sz a (hμ _ _ hm)
  | sl0 id sz off b z m o hm ho => exact .sl0 _ sz off b z m o (hμ _ _ hm) ho
  | sl id sz off n b z m cap hm hn hz ho => exact .sl _ sz off n b z m cap (hμ _ _ hm) hn hz ho
  | fn f xs ys vs us e1 e2 h1 h2 =>
    simp only [ren0]
    split
    · rename_i hf; exact (free1_R (.fn f xs ys vs us e1 e2 h1 h2) hf).free
    · exact .dead _
  | agg cs vs e h1 hr => exact .dead _
  | tup cs vs e hr => exact .dead _
  | mp id b z m hm => exact .mp _ b z m (hμ _ _ hm)
  | bidx id off n i b z m hm hi => exact .bidx _ off n i b z m (hμ _ _ hm) hi
  | mpi kk n has val b es clock kf hD hb hn hk hr => exact .mpi kk n has val b es clock kf hD hb hn hk hr
theorem lmap_get {α β : Type} (k : α → β) (l : List α) (i : Nat) : (lmap k l)[i]? = l[i]?.map k := by
  induction l generalizing i with
  | nil => rfl
  | cons x l ih => cases i with
    | zero => rfl
    | succ i => simp [lmap, ih]
theorem lmap_len {α β : Type} (k : α → β) (l : List α) : (lmap k l).length = l.length := by
  induction l with
  | nil => rfl
  | cons x l ih => simp [lmap, ih]
theorem renV_R (hμ : ∀ n y, μ n = some y → μ' (tgt F fr n) = some y) {x : AV} {v : Value} (r : R h D μ x v) : R h D μ' (renV F fr x) v := by
  unfold renV
  split
  · obtain ⟨us, rfl, o1, s1, hr⟩ := r.inv_agg
    refine .agg _ _ (by rw [lmap_len]; exact s1) o1 fun i x v hx hv => ?_
    rw [lmap_get] at hx
    obtain ⟨y, hy, rfl⟩ := Option.map_eq_some_iff.1 hx
    exact ren0_R hμ (hr i y v hy hv)
  · obtain ⟨us, rfl, l1, hr⟩ := r.inv_tup
    refine .tup _ _ (by rw [lmap_len]; exact l1) fun i x v hx hv => ?_
    rw [lmap_get] at hx
    obtain ⟨y, hy, rfl⟩ := Option.map_eq_some_iff.1 hx
    exact ren0_R hμ (hr i y v hy hv)
  · exact ren0_R hμ r
theorem renOb_ok (hμ : ∀ n y, μ n = some y → μ' (tgt F fr n) = some y) {o : Ob} {x : Option (Nat × Nat × Nat)} (k : ObOk h D μ o x) : ObOk h D μ' (renOb F fr o) x := by
  match o, x, k with
  | .box ty cs, some (b, z, m), ⟨c, t, q, e, r1, r2, r3, r4, r5⟩ =>
    refine ⟨c, t, q, e, r1, r2, r3, by rw [lmap_len]; exact r4, fun i x v hx hv => ?_⟩
    rw [lmap_get] at hx
    obtain ⟨y, hy, rfl⟩ := Option.map_eq_some_iff.1 hx
    exact ren0_R hμ (r5 i y v hy hv)
  | .row ty sz n get, some (b, z, m), k => exact k
  | .spr ty cs, some (b, z, m), ⟨c, t, q, e, r1, r2, r3, r4⟩ =>
    refine ⟨c, t, q, e, r1, r2, by rw [lmap_len]; exact r3, fun i x hx => ?_⟩
    rw [lmap_get] at hx
    obtain ⟨y, hy, rfl⟩ := Option.map_eq_some_iff.1 hx
    obtain ⟨v, v1, v2, v3⟩ := r4 i y hy
    exact ⟨v, v1, v2, ren0_R hμ v3⟩
  | .map kk n has val, some (b, z), k => exact k
  | .row _ _ n _, none, k => exact k
  | .spr _ cs, none, k =>
    have k : cs = [] := k
    subst k
    rfl
  | .gone, _, _ => exact trivial
theorem renOb_ng {o : Ob} (h : o ≠ .gone) : renOb F fr o ≠ .gone := by
  cases o <;> simp_all [renOb]
end

theorem newOs_get {F : List (Nat × Option Nat)} {fr : Nat} : ∀ {O1 : List (Nat × Ob)} {i : Nat} {ob : Ob}, aget (newOs F fr O1) i = some ob → ∃ n o, (n, o) ∈ O1 ∧ tgt F fr n = i ∧ ob = renOb F fr o
  | [], i, ob, h => by cases h
  | (n, o) :: r, i, ob, h => by
    unfold newOs aget at h
    split at h
    · rename_i e; cases h; exact ⟨n, o, by simp, beq_eq e, rfl⟩
    · obtain ⟨m, o', h1, h2, h3⟩ := newOs_get h
      exact ⟨m, o', List.mem_cons_of_mem _ h1, h2, h3⟩
theorem newOs_of {F : List (Nat × Option Nat)} {fr : Nat} : ∀ {O1 : List (Nat × Ob)} (_ : ∀ n n', aget O1 n ≠ none → aget O1 n' ≠ none → tgt F fr n = tgt F fr n' → n = n') {n : Nat} {o : Ob}, aget O1 n = some o → aget (newOs F fr O1) (tgt F fr n) = some (renOb F fr o)
  | [], hi, n, o, h => by cases h
  | (m, o') :: r, hi, n, o, h => by
    have h0 := h
    unfold aget at h
    unfold newOs aget
    cases e : nbeq m n with
    | true =>
      have := beq_eq e; subst this
      rw [e] at h; cases h
      simp [beq_same]
    | false =>
      rw [e] at h
      simp only at h
      have hne : m ≠ n := by rintro rfl; rw [beq_same] at e; cases e
      have : nbeq (tgt F fr m) (tgt F fr n) = false := beq_no fun x => hne (hi m n (by simp [aget, beq_same]) (by rw [h0]; simp) x)
      rw [this]
      refine newOs_of (O1 := r) (fun k k' h1 h2 h3 => hi k k' ?_ ?_ h3) h
      · unfold aget; split
        · simp
        · exact h1
      · unfold aget; split
        · simp
        · exact h2
theorem mem_aget {α : Type} : ∀ {l : List (Nat × α)} {n : Nat} {o : α}, (n, o) ∈ l → aget l n ≠ none
  | (m, o') :: r, n, o, h => by
    unfold aget
    split
    · simp
    · rename_i e
      rcases List.mem_cons.1 h with h | h
      · cases h; rw [beq_same] at e; cases e
      · exact mem_aget h
theorem goneOf_get {F : List (Nat × Option Nat)} {O1 : List (Nat × Ob)} : ∀ {O : List (Nat × Ob)} {i : Nat} {ob : Ob}, aget (goneOf F O1 O) i = some ob → ob = .gone ∧ ∃ n, aget O n ≠ none ∧ aget O1 n = none ∧ aget F n = some (some i)
  | [], i, ob, h => by cases h
  | (n, o) :: r, i, ob, h => by
    have up : ∀ {m}, aget r m ≠ none → aget ((n, o) :: r) m ≠ none := by
      intro m hm
      unfold aget
      split
      · simp
      · exact hm
    have down : aget (goneOf F O1 r) i = some ob → ob = .gone ∧ ∃ m, aget ((n, o) :: r) m ≠ none ∧ aget O1 m = none ∧ aget F m = some (some i) := fun h => by
      obtain ⟨h1, m, h2, h3, h4⟩ := goneOf_get h
      exact ⟨h1, m, up h2, h3, h4⟩
    unfold goneOf at h
    split at h
    · exact down h
    · rename_i h1
      split at h
      · rename_i id hid
        unfold aget at h
        split at h
        · rename_i e
          cases h
          exact ⟨rfl, n, by simp [aget, beq_same], h1, by rw [hid, beq_eq e]⟩
        · exact down h
      · exact down h
theorem goneOf_of {F : List (Nat × Option Nat)} {O1 : List (Nat × Ob)} : ∀ {O : List (Nat × Ob)} {n i : Nat}, aget O n ≠ none → aget O1 n = none → aget F n = some (some i) → aget (goneOf F O1 O) i = some .gone
  | [], n, i, h, _, _ => by simp [aget] at h
  | (m, o) :: r, n, i, h, h1, h2 => by
    unfold goneOf
    unfold aget at h
    cases e : nbeq m n with
    | true =>
      have := beq_eq e; subst this
      rw [h1, h2]
      simp [aget, beq_same]
    | false =>
      rw [e] at h
      have ih := goneOf_of (O := r) h h1 h2
      split
      · exact ih
      · split
        · unfold aget; split
          · rfl
          · exact ih
        · exact ih

section
variable {P : Program} {base : Nat} {M : Two} {W : World} {nt : Nat} {f : Nat → Option AV} {g : Nat → Option Ob} {c : Nat → Bool} {a : Act} {w : World} {D : Nat → Prop} {μ : Mu}
variable {raw : List AV} {F : List (Nat × Option Nat)} {fr : Nat} {T : MTpl}

theorem MetM.tgt_inj (hm : MetM g c raw F fr T) : ∀ n n', aget T.O1 n ≠ none → aget T.O1 n' ≠ none → tgt F fr n = tgt F fr n' → n = n' := by
  have key : ∀ n n' id, aget T.O1 n' ≠ none → aget F n = some (some id) → (∀ id, aget F n' ≠ some (some id)) → id ≠ fr + n' := by
    intro n n' id h1 h2 h3 e
    obtain ⟨o, ho⟩ := Option.ne_none_iff_exists'.1 (hm.dom n _ h2)
    obtain ⟨x, hx, hx2⟩ := hm.obs n o ho
    rw [h2] at hx; cases hx
    obtain ⟨_, o', ho', _⟩ := hx2
    obtain ⟨o1, ho1⟩ := Option.ne_none_iff_exists'.1 h1
    rw [e, hm.fresh n' o1 ho1 h3] at ho'
    cases ho'
  have no : ∀ {n}, ¬ (∃ id, aget F n = some (some id)) → (∀ id, aget F n ≠ some (some id)) ∧ tgt F fr n = fr + n := by
    intro n h
    refine ⟨fun id e => h ⟨id, e⟩, ?_⟩
    unfold tgt
    split
    · rename_i id e; exact absurd ⟨id, e⟩ h
    · rfl
  have yes : ∀ {n id}, aget F n = some (some id) → tgt F fr n = id := by
    intro n id h; unfold tgt; rw [h]
  intro n n' h1 h2 h3
  by_cases e : ∃ id, aget F n = some (some id) <;> by_cases e' : ∃ id, aget F n' = some (some id)
  · obtain ⟨id, e⟩ := e
    obtain ⟨id', e'⟩ := e'
    rw [yes e, yes e'] at h3
    subst h3
    exact hm.inj _ _ _ e e'
  · obtain ⟨id, e⟩ := e
    obtain ⟨q1, q2⟩ := no e'
    rw [yes e, q2] at h3
    exact absurd h3 (key n n' id h2 e q1)
  · obtain ⟨id, e'⟩ := e'
    obtain ⟨q1, q2⟩ := no e
    rw [yes e', q2] at h3
    exact absurd h3.symm (key n' n id h1 e' q1)
  · rw [(no e).2, (no e').2] at h3
    omega

/-- What the callee may ask. -/
theorem MetM.asks (hm : MetM g c raw F fr T) (h : Sim base M W nt f g c a w D μ) :
    (∀ n, muOf μ F n = none ↔ aget T.O n = none) ∧ (∀ n o x, aget T.O n = some o → muOf μ F n = some x → ObOk w.heap D (muOf μ F) o x) ∧
    (∀ n n' b z z', muOf μ F n = some (some (b, z)) → muOf μ F n' = some (some (b, z')) → n = n') ∧ (∀ n b z, muOf μ F n = some (some (b, z)) → b < w.heap.size ∧ ¬ D b ∧ ∃ id o, aget F n = some (some id) ∧ μ id = some (some (b, z)) ∧ g id = some o ∧ o ≠ .gone ∧ c id = false) := by
  have own : ∀ n b z, muOf μ F n = some (some (b, z)) → ∃ id o, aget F n = some (some id) ∧ μ id = some (some (b, z)) ∧ g id = some o ∧ o ≠ .gone ∧ c id = false := by
    intro n b z hn
    unfold muOf at hn
    split at hn
    · rename_i id hid
      obtain ⟨o, ho⟩ := Option.ne_none_iff_exists'.1 (hm.dom n _ hid)
      obtain ⟨x, hx, hx2⟩ := hm.obs n o ho
      rw [hid] at hx; cases hx
      obtain ⟨c1, o', ho', ho2, _⟩ := hx2
      exact ⟨id, o', hid, hn, ho', ho2, c1⟩
    · cases hn
    · cases hn
  refine ⟨fun n => ⟨fun hn => ?_, fun hn => ?_⟩, fun n o x ho hx => ?_, fun n n' b z z' h1 h2 => ?_, fun n b z h1 => ?_⟩
  · refine Classical.byContradiction fun hne => ?_
    obtain ⟨o, ho⟩ := Option.ne_none_iff_exists'.1 hne
    obtain ⟨x, hx, hx2⟩ := hm.obs n o ho
    unfold muOf at hn
    rw [hx] at hn
    cases x with
    | none => cases hn
    | some id =>
      obtain ⟨_, o', ho', _⟩ := hx2
      rw [(h.dom id).1 hn] at ho'
      cases ho'
  · unfold muOf
    split
    · rename_i e; exact absurd hn (hm.dom n _ e)
    · rename_i e; exact absurd hn (hm.dom n _ e)
    · rfl
  · obtain ⟨y, hy, hy2⟩ := hm.obs n o ho
    unfold muOf at hx
    rw [hy] at hx
    cases y with
    | none => cases hx; exact hy2 _ _ _
    | some id =>
      obtain ⟨_, o', ho', _, ho3⟩ := hy2
      exact ho3 _ _ _ _ (h.obs id o' x ho' hx)
  · obtain ⟨id, o, q1, q2, q3, q4, q5⟩ := own n b z h1
    obtain ⟨id', o', r1, r2, r3, r4, r5⟩ := own n' b z' h2
    have := h.inj id id' b z z' o o' q2 r2 q3 r3 q4 r4
    subst this
    exact hm.inj _ _ _ q1 r1
  · obtain ⟨id, o, q1, q2, q3, q4, q5⟩ := own n b z h1
    exact ⟨(h.own id b z q2).1, (h.kd id b z o q2 q3 q4).2 q5, id, o, q1, q2, q3, q4, q5⟩

open Classical in
/-- The caller's names behind the call. -/
noncomputable def muM (μ μ1 : Mu) (F : List (Nat × Option Nat)) (fr : Nat) (O1 : List (Nat × Ob)) : Mu := fun i =>
  if e : ∃ n, aget O1 n ≠ none ∧ tgt F fr n = i then μ1 (Classical.choose e) else μ i
theorem muM_tgt (hm : MetM g c raw F fr T) (μ1 : Mu) {n : Nat} (hn : aget T.O1 n ≠ none) : muM μ μ1 F fr T.O1 (tgt F fr n) = μ1 n := by
  unfold muM
  have e : ∃ m, aget T.O1 m ≠ none ∧ tgt F fr m = tgt F fr n := ⟨n, hn, rfl⟩
  rw [dif_pos e]
  have := Classical.choose_spec e
  rw [hm.tgt_inj _ _ this.1 hn this.2]
theorem muM_other {μ1 : Mu} {O1 : List (Nat × Ob)} {i : Nat} (hn : ¬ ∃ n, aget O1 n ≠ none ∧ tgt F fr n = i) : muM μ μ1 F fr O1 i = μ i := by
  unfold muM; rw [dif_neg hn]

/-- **The caller behind the call.** -/
theorem Sim.mcall (h : Sim base M W nt f g c a w D μ) (hm : MetM g c raw F fr T) {e : Ending} {v : Value} {w' : World} {D' : Nat → Prop} {μ1 : Mu} (he : MEnd D w (muOf μ F) T.O T.O1 T.r e v w' D' μ1) :
    ∃ μ', Sim base M W nt f (gput g (mOs F fr T)) c a w' D' μ' ∧ R w'.heap D' μ' (renV F fr T.r) v := by
  obtain ⟨a1, a2, a3, a4⟩ := hm.asks h
  have tin := hm.tgt_inj
  obtain ⟨μ', hμ'⟩ : ∃ μ', μ' = muM μ μ1 F fr T.O1 := ⟨_, rfl⟩
  have m1 : ∀ n, aget T.O1 n ≠ none → μ' (tgt F fr n) = μ1 n := fun n hn => by rw [hμ']; exact muM_tgt hm μ1 hn
  have m2 : ∀ i, (¬ ∃ n, aget T.O1 n ≠ none ∧ tgt F fr n = i) → μ' i = μ i := fun i hn => by rw [hμ']; exact muM_other hn
  have m3 : ∀ n y, μ1 n = some y → μ' (tgt F fr n) = some y := fun n y hy => by
    rw [m1 n (fun e => by rw [(he.dom n).2 e] at hy; cases hy), hy]
  -- the blocks of names that are there still
  have ext : ∀ id x, μ id = some x → μ' id = some x := by
    intro id x hx
    by_cases e : ∃ n, aget T.O1 n ≠ none ∧ tgt F fr n = id
    · obtain ⟨n, hn, rfl⟩ := e
      rw [m1 n hn]
      by_cases e2 : ∃ id, aget F n = some (some id)
      · obtain ⟨id, hid⟩ := e2
        have ht : tgt F fr n = id := by unfold tgt; rw [hid]
        rw [ht] at hx
        rw [he.keep n (hm.dom n _ hid) hn]
        unfold muOf; rw [hid]; exact hx
      · have hno : ∀ id, aget F n ≠ some (some id) := fun id e => e2 ⟨id, e⟩
        have ht : tgt F fr n = fr + n := by
          unfold tgt
          split
          · rename_i id e; exact absurd e (hno id)
          · rfl
        obtain ⟨o, ho⟩ := Option.ne_none_iff_exists'.1 hn
        rw [ht, (h.dom _).2 (hm.fresh n o ho hno)] at hx
        cases hx
    · rw [m2 id e]; exact hx
  have hos1 : ∀ n o, aget T.O1 n = some o → gput g (mOs F fr T) (tgt F fr n) = some (renOb F fr o) := by
    intro n o ho
    unfold gput mOs
    rw [aget_app', newOs_of tin ho]
  have hos2 : ∀ i, (¬ ∃ n, aget T.O1 n ≠ none ∧ tgt F fr n = i) → (∃ n, aget T.O n ≠ none ∧ aget T.O1 n = none ∧ aget F n = some (some i)) → gput g (mOs F fr T) i = some .gone := by
    rintro i hn ⟨n, h1, h2, h3⟩
    unfold gput mOs
    rw [aget_app']
    cases e : aget (newOs F fr T.O1) i with
    | some ob =>
      obtain ⟨m, o, q1, q2, _⟩ := newOs_get e
      exact absurd ⟨m, mem_aget q1, q2⟩ hn
    | none => simp only; rw [goneOf_of h1 h2 h3]
  have hos3 : ∀ i, (¬ ∃ n, aget T.O1 n ≠ none ∧ tgt F fr n = i) → (¬ ∃ n, aget T.O n ≠ none ∧ aget T.O1 n = none ∧ aget F n = some (some i)) → gput g (mOs F fr T) i = g i := by
    intro i hn hn2
    unfold gput mOs
    rw [aget_app']
    cases e : aget (newOs F fr T.O1) i with
    | some ob =>
      obtain ⟨m, o, q1, q2, _⟩ := newOs_get e
      exact absurd ⟨m, mem_aget q1, q2⟩ hn
    | none =>
      simp only
      cases e2 : aget (goneOf F T.O1 T.O) i with
      | none => rfl
      | some ob => exact absurd (goneOf_get e2).2 hn2
  -- a name that is alive behind the call, and no target, wasn't touched
  have alive : ∀ i o, gput g (mOs F fr T) i = some o → o ≠ .gone → (∃ n o1, aget T.O1 n = some o1 ∧ tgt F fr n = i ∧ o = renOb F fr o1) ∨ (g i = some o ∧ μ' i = μ i ∧ ∀ n, aget F n ≠ some (some i)) := by
    intro i o ho hng
    by_cases e : ∃ n, aget T.O1 n ≠ none ∧ tgt F fr n = i
    · obtain ⟨n, hn, rfl⟩ := e
      obtain ⟨o1, ho1⟩ := Option.ne_none_iff_exists'.1 hn
      rw [hos1 n o1 ho1] at ho
      cases ho
      exact .inl ⟨n, o1, ho1, rfl, rfl⟩
    · by_cases e2 : ∃ n, aget T.O n ≠ none ∧ aget T.O1 n = none ∧ aget F n = some (some i)
      · rw [hos2 i e e2] at ho; cases ho; exact absurd rfl hng
      · rw [hos3 i e e2] at ho
        refine .inr ⟨ho, m2 i e, fun n hn => ?_⟩
        by_cases e3 : aget T.O1 n = none
        · exact e2 ⟨n, hm.dom n _ hn, e3, hn⟩
        · exact e ⟨n, e3, by unfold tgt; rw [hn]⟩
  -- blocks that aren't touched
  have other : ∀ i o b z, g i = some o → o ≠ .gone → μ i = some (some (b, z)) → (∀ n, aget F n ≠ some (some i)) → ∀ n z', muOf μ F n ≠ some (some (b, z')) := by
    intro i o b z hi hng hb hno n z' hn
    obtain ⟨_, _, id, o', q1, q2, q3, q4, q5⟩ := a4 n b z' hn
    have := h.inj i id b z z' o o' hb q2 hi q3 hng q4
    subst this
    exact hno n q1
  have hD : ∀ b, D b → w'.heap[b]? = w.heap[b]? := fun b hb => he.old b (h.dlt b hb) fun n z hn => (a4 n b z hn).2.1 hb
  refine ⟨μ', ?_, renV_R m3 he.val⟩
  exact {
    os := he.os.trans h.os
    tape := he.tape.trans h.tape
    output := he.output.trans h.output
    size := Nat.le_trans h.size he.size
    bs := Nat.le_trans h.bs he.size
    old := fun b h1 h2 => (he.old b (by have := h.bs; omega) fun n z hn => by
      obtain ⟨_, _, id, o', q1, q2, _⟩ := a4 n b z hn
      rcases (h.own id b z q2).2 with q | q
      · omega
      · exact h2 q).trans (h.old b h1 h2)
    defers := h.defers
    tmps := h.tmps
    slots := fun t v hv => (h.slots t v hv).mono hD he.up ext
    dlt := fun b hb => by
      rcases he.dn b hb with q | q | ⟨n, z, q⟩
      · exact Nat.lt_of_lt_of_le (h.dlt b q) he.size
      · exact q.2
      · exact Nat.lt_of_lt_of_le (a4 n b z q).1 he.size
    low := fun b hb hlt => by
      rcases he.dn b hb with q | q | ⟨n, z, q⟩
      · exact h.low b q hlt
      · have := h.bs; omega
      · obtain ⟨_, _, id, o', q1, q2, _⟩ := a4 n b z q
        rcases (h.own id b z q2).2 with q | q
        · omega
        · exact .inr q
    dom := fun i => by
      by_cases e : ∃ n, aget T.O1 n ≠ none ∧ tgt F fr n = i
      · obtain ⟨n, hn, rfl⟩ := e
        obtain ⟨o1, ho1⟩ := Option.ne_none_iff_exists'.1 hn
        rw [m1 n hn, hos1 n o1 ho1, he.dom n, ho1]
        simp
      · rw [m2 i e]
        by_cases e2 : ∃ n, aget T.O n ≠ none ∧ aget T.O1 n = none ∧ aget F n = some (some i)
        · rw [hos2 i e e2]
          obtain ⟨n, h1, h2, h3⟩ := e2
          obtain ⟨o, ho⟩ := Option.ne_none_iff_exists'.1 h1
          obtain ⟨x, hx, hx2⟩ := hm.obs n o ho
          rw [h3] at hx; cases hx
          obtain ⟨_, o', ho', _⟩ := hx2
          rw [h.dom i, ho']; simp
        · rw [hos3 i e e2]; exact h.dom i
    obs := fun i o x ho hx => by
      by_cases hg : o = .gone
      · subst hg; cases x <;> exact trivial
      rcases alive i o ho hg with ⟨n, o1, q1, rfl, rfl⟩ | ⟨q1, q2, q3⟩
      · rw [m1 n (by rw [q1]; simp)] at hx
        exact renOb_ok m3 (he.obs n o1 x q1 hx)
      · rw [q2] at hx
        exact (h.obs i o x q1 hx).mono hD he.up ext (fun b z hx2 _ => he.old b (h.own i b z (by rw [hx, hx2])).1 (other i o b z q1 hg (by rw [hx, hx2]) q3))
    inj := fun i i' b z z' o o' h1 h2 h3 h4 h5 h6 => by
      rcases alive i o h3 h5 with ⟨n, o1, q1, rfl, rfl⟩ | ⟨q1, q2, q3⟩ <;> rcases alive i' o' h4 h6 with ⟨n', o1', q1', rfl, rfl⟩ | ⟨q1', q2', q3'⟩
      · rw [m1 n (by rw [q1]; simp)] at h1
        rw [m1 n' (by rw [q1']; simp)] at h2
        rw [he.inj n n' b z z' h1 h2]
      · rw [m1 n (by rw [q1]; simp)] at h1
        rw [q2'] at h2
        rcases (he.own n b z h1).2.2 with q | ⟨m, z2, q⟩
        · have := (h.own i' b z' h2).1; omega
        · exact absurd q (other i' o' b z' q1' h6 h2 q3' m z2)
      · rw [m1 n' (by rw [q1']; simp)] at h2
        rw [q2] at h1
        rcases (he.own n' b z' h2).2.2 with q | ⟨m, z2, q⟩
        · have := (h.own i b z h1).1; omega
        · exact absurd q (other i o b z q1 h5 h1 q3 m z2)
      · rw [q2] at h1; rw [q2'] at h2
        exact h.inj i i' b z z' o o' h1 h2 q1 q1' h5 h6
    own := fun i b z h1 => by
      by_cases e : ∃ n, aget T.O1 n ≠ none ∧ tgt F fr n = i
      · obtain ⟨n, hn, rfl⟩ := e
        rw [m1 n hn] at h1
        obtain ⟨k1, k2, k3⟩ := he.own n b z h1
        refine ⟨k1, ?_⟩
        rcases k3 with q | ⟨m, z2, q⟩
        · have := h.bs; exact .inl (by omega)
        · obtain ⟨_, _, id, o', q1, q2, _⟩ := a4 m b z2 q
          exact (h.own id b z2 q2).2
      · rw [m2 i e] at h1
        exact ⟨Nat.lt_of_lt_of_le (h.own i b z h1).1 he.size, (h.own i b z h1).2⟩
    kd := fun i b z o h1 h2 h3 => by
      rcases alive i o h2 h3 with ⟨n, o1, q1, rfl, rfl⟩ | ⟨q1, q2, q3⟩
      · rw [m1 n (by rw [q1]; simp)] at h1
        have k := (he.own n b z h1).2.1
        have hc : c (tgt F fr n) = false := by
          by_cases e2 : ∃ id, aget F n = some (some id)
          · obtain ⟨id, hid⟩ := e2
            have ht : tgt F fr n = id := by unfold tgt; rw [hid]
            obtain ⟨o, ho⟩ := Option.ne_none_iff_exists'.1 (hm.dom n _ hid)
            obtain ⟨x, hx, hx2⟩ := hm.obs n o ho
            rw [hid] at hx; cases hx
            rw [ht]; exact hx2.1
          · have hno : ∀ id, aget F n ≠ some (some id) := fun id e => e2 ⟨id, e⟩
            have ht : tgt F fr n = fr + n := by
              unfold tgt
              split
              · rename_i id e; exact absurd e (hno id)
              · rfl
            rw [ht]
            cases hc : c (fr + n) with
            | false => rfl
            | true => exact absurd (hm.fresh n o1 q1 hno) (h.icy _ hc)
        exact ⟨fun hx => (by rw [hc] at hx; cases hx), fun _ => k⟩
      · rw [q2] at h1
        obtain ⟨k1, k2⟩ := h.kd i b z o h1 q1 h3
        refine ⟨fun hc => he.up b (k1 hc), fun hc hd => ?_⟩
        rcases he.dn b hd with q | q | ⟨n, z2, q⟩
        · exact k2 hc q
        · have := (h.own i b z h1).1; omega
        · exact other i o b z q1 h3 h1 q3 n z2 q
    ntb := h.ntb
    gl := h.gl
    pin := fun i y hp hy => by
      by_cases e : ∃ n, aget T.O1 n ≠ none ∧ tgt F fr n = i
      · obtain ⟨n, hn, rfl⟩ := e
        by_cases e2 : ∃ id, aget F n = some (some id)
        · obtain ⟨id, hid⟩ := e2
          have ht : tgt F fr n = id := by unfold tgt; rw [hid]
          rw [m1 n hn, he.keep n (hm.dom n _ hid) hn] at hy
          unfold muOf at hy; rw [hid] at hy
          rw [ht] at hp ⊢
          exact h.pin id y hp hy
        · have hno : ∀ id, aget F n ≠ some (some id) := fun id e => e2 ⟨id, e⟩
          have ht : tgt F fr n = fr + n := by
            unfold tgt
            split
            · rename_i id e; exact absurd e (hno id)
            · rfl
          obtain ⟨o1, ho1⟩ := Option.ne_none_iff_exists'.1 hn
          rw [ht, hm.unpin n o1 ho1 hno] at hp; cases hp
      · rw [m2 i e] at hy; exact h.pin i y hp hy
    icy := fun i hi => by
      have := h.icy i hi
      by_cases e : ∃ n, aget T.O1 n ≠ none ∧ tgt F fr n = i
      · obtain ⟨n, hn, rfl⟩ := e
        obtain ⟨o1, ho1⟩ := Option.ne_none_iff_exists'.1 hn
        rw [hos1 n o1 ho1]; simp
      · by_cases e2 : ∃ n, aget T.O n ≠ none ∧ aget T.O1 n = none ∧ aget F n = some (some i)
        · rw [hos2 i e e2]; simp
        · rw [hos3 i e e2]; exact this }
end

theorem aget_numb {α : Type} : ∀ (xs : List α) (i t : Nat), aget (numb i xs) t = if i ≤ t then xs[t - i]? else none
  | [], i, t => by simp [numb, aget]
  | x :: xs, i, t => by
    unfold numb aget
    cases e : nbeq i t with
    | true => have := beq_eq e; subst this; simp
    | false =>
      have hne : i ≠ t := by rintro rfl; rw [beq_same] at e; cases e
      simp only
      rw [aget_numb xs (i + 1) t]
      by_cases h : i ≤ t
      · rw [if_pos (by omega), if_pos h]
        obtain ⟨k, hk⟩ : ∃ k, t - i = k + 1 := ⟨t - i - 1, by omega⟩
        rw [hk, show t - (i + 1) = k by omega]
        simp
      · rw [if_neg (by omega), if_neg h]
theorem freshOk_get {objs : List (Nat × Ob)} {F : List (Nat × Option Nat)} {fr : Nat} : ∀ {O1 : List (Nat × Ob)}, freshOk objs F fr O1 = true → ∀ n o, aget O1 n = some o → (∀ id, aget F n ≠ some (some id)) → aget objs (fr + n) = none ∧ isPin (fr + n) = false
  | [], _, n, o, h, _ => by cases h
  | (m, o') :: r, e, n, o, h, hno => by
    unfold freshOk at e
    unfold aget at h
    split at e
    · rename_i id hid
      split at h
      · rename_i hb
        rw [beq_eq hb] at hid
        exact absurd hid (hno id)
      · exact freshOk_get e n o h hno
    · split at e
      · rename_i hf hp
        split at h
        · rename_i hb; rw [beq_eq hb] at hf hp; exact ⟨hf, hp⟩
        · exact freshOk_get e n o h hno
      · cases e
theorem noGone_get : ∀ {O1 : List (Nat × Ob)}, noGone O1 = true → ∀ n, aget O1 n ≠ some .gone
  | [], _, n => by simp [aget]
  | (m, o) :: r, e, n => by
    unfold aget
    unfold noGone at e
    cases o with
    | gone => cases e
    | box _ _ =>
      split
      · simp
      · exact noGone_get e n
    | row _ _ _ _ =>
      split
      · simp
      · exact noGone_get e n
    | spr _ _ =>
      split
      · simp
      · exact noGone_get e n
    | map _ _ _ _ =>
      split
      · simp
      · exact noGone_get e n
/-- The check is sound. -/
theorem meetM_ok {s : St} {raw : List AV} {T : MTpl} {m : Meet} {fr : Nat} (e : meetM s raw T = some m) (hf : freshOk s.objs m.ids fr T.O1 = true) (hp : ∀ p, p ∈ m.ps → p) : MetM (aget s.objs) (lhas s.ice) raw m.ids fr T := by
  unfold meetM at e
  split at e
  · rename_i hlen
    have hlen := beq_eq hlen
    rw [llen_eq, llen_eq] at hlen
    split at e
    · rename_i m1 e1
      split at e
      · rename_i m2 e2
        split at e
        · rename_i h3 h4
          cases e
          have x1 := fun h D μ a => meetSlots_ok (h := h) (D := D) (μ := μ) (a := a) e1
          have x2 := fun h D μ => meetObs_ok (h := h) (D := D) (μ := μ) e2
          have F0 : Fin m m.ids := ⟨fun _ _ h => h, hp⟩
          have X1 := (x1 #[] (fun _ => False) noMu ⟨#[], []⟩).1
          have X2 := (x2 #[] (fun _ => False) noMu).1
          refine { len := hlen, xs := fun h D μ vs hr => ?_, inj := X2.inj (X1.inj (fun t t' id h => by cases h)), dom := fun n x hx => inObs_get h3 n x hx, obs := fun n o ho => ?_, fresh := fun n o h1 h2 => (freshOk_get hf n o h1 h2).1, unpin := fun n o h1 h2 => (freshOk_get hf n o h1 h2).2, ng := noGone_get h4 }
          · refine ⟨by rw [← hlen]; exact hr.1, fun i x v hx hv => ?_⟩
            have := (x1 h D μ ⟨vs, []⟩).2 m.ids (F0.of X2) (fun t u hu => by
              rw [aget_numb, if_pos (by omega), Nat.sub_zero] at hu
              have hlt : t < vs.size := by rw [← hr.1]; exact (List.getElem?_eq_some_iff.1 hu).1
              have h1 : vs[t]? = some vs[t] := by simp [hlt]
              have h2 : vs.getD t undef = vs[t] := by rw [Array.getD_eq_getD_getElem?, h1]; rfl
              rw [h2]
              exact hr.2 t u _ hu h1) i x (by rw [aget_numb, if_pos (by omega), Nat.sub_zero]; exact hx)
            have h2 : vs.getD i undef = v := by rw [Array.getD_eq_getD_getElem?, hv]; rfl
            rw [h2] at this
            exact this
          · obtain ⟨x, hx, _⟩ := ((x2 #[] (fun _ => False) noMu).2 m.ids F0 n o ho).pair
            refine ⟨x, hx, ?_⟩
            cases x with
            | none =>
              intro h D μ
              obtain ⟨y, hy, hy2⟩ := ((x2 h D μ).2 m.ids F0 n o ho).pair
              rw [hx] at hy; cases hy; exact hy2
            | some id =>
              have hh := fun h D μ => ((x2 h D μ).2 m.ids F0 n o ho).pair
              obtain ⟨y, hy, hy2⟩ := hh #[] (fun _ => False) noMu
              rw [hx] at hy; cases hy
              obtain ⟨q1, o', q2, q3, _⟩ := hy2
              refine ⟨?_, o', q2, q3, fun h D μ z hz => ?_⟩
              · cases hc : lhas s.ice id with
                | false => rfl
                | true => exact absurd (q1 hc) (by simp [lhas])
              · obtain ⟨y, hy, hy2⟩ := hh h D μ
                rw [hx] at hy; cases hy
                obtain ⟨_, o2, r2, _, r4⟩ := hy2
                rw [q2] at r2; cases r2
                exact r4 z hz
        · cases e
      · cases e
    · cases e
  · cases e

/-- A call of this kind does so in any such state. -/
def HoldsM (P : Program) (f : Nat → Option AV) (g : Nat → Option Ob) (c : Nat → Bool) (o : Oper) (v : AV) (os : List (Nat × Ob)) : Prop :=
  ∃ fo xs ts k first caps zs F fr T, o.op = .call { callee := .value fo, args := xs, argTypes := ts } ∧ lmap (evf f []) (opnds o.op) = .fn k first caps :: zs ∧ MCalls P k T.xs T.O T.r T.O1 ∧
    MetM g c (lapp first (lapp zs caps)) F fr T ∧ v = renV F fr T.r ∧ os = mOs F fr T
theorem keys_get : ∀ {os : List (Nat × Ob)} {id : Nat}, aget os id ≠ none → id ∈ keys os
  | [], id, h => by simp [aget] at h
  | (i, o) :: r, id, h => by
    unfold aget at h
    unfold keys
    split at h
    · rename_i e; rw [beq_eq e]; simp
    · exact List.mem_cons_of_mem _ (keys_get h)
theorem MetM.congr {g g' : Nat → Option Ob} {c c' : Nat → Bool} {raw : List AV} {F : List (Nat × Option Nat)} {fr : Nat} {T : MTpl} (hm : MetM g c raw F fr T) (hg : ∀ id, id ∈ keys (mOs F fr T) → g' id = g id) (hc : ∀ id, id ∈ keys (mOs F fr T) → c' id = c id) : MetM g' c' raw F fr T := by
  have tin := hm.tgt_inj
  have k1 : ∀ n, aget T.O1 n ≠ none → tgt F fr n ∈ keys (mOs F fr T) := by
    intro n hn
    obtain ⟨o1, ho1⟩ := Option.ne_none_iff_exists'.1 hn
    refine keys_get ?_
    unfold mOs
    rw [aget_app', newOs_of tin ho1]; simp
  have k2 : ∀ n id, aget F n = some (some id) → id ∈ keys (mOs F fr T) := by
    intro n id hid
    by_cases e : aget T.O1 n = none
    · refine keys_get ?_
      unfold mOs
      rw [aget_app']
      cases aget (newOs F fr T.O1) id with
      | some _ => simp
      | none => simp only; rw [goneOf_of (hm.dom n _ hid) e hid]; simp
    · have := k1 n e
      unfold tgt at this
      rwa [hid] at this
  refine { len := hm.len, xs := hm.xs, inj := hm.inj, dom := hm.dom, obs := fun n o ho => ?_, fresh := fun n o ho hno => ?_, unpin := hm.unpin, ng := hm.ng }
  · obtain ⟨x, hx, hx2⟩ := hm.obs n o ho
    refine ⟨x, hx, ?_⟩
    cases x with
    | none => exact hx2
    | some id =>
      have := k2 n id hx
      show c' id = false ∧ ∃ o', g' id = some o' ∧ _
      rw [hg id this, hc id this]
      exact hx2
  · have : tgt F fr n = fr + n := by
      unfold tgt
      split
      · rename_i id e; exact absurd e (hno id)
      · rfl
    have k := k1 n (by rw [ho]; simp)
    rw [this] at k
    rw [hg _ k]
    exact hm.fresh n o ho hno

section
variable {P : Program} {base : Nat} {M : Two} {W : World} {nt : Nat} {f : Nat → Option AV} {g : Nat → Option Ob} {c : Nat → Bool} {a : Act} {w : World} {D : Nat → Prop} {μ : Mu} {o : Oper}
theorem adv_M (h : Sim base M W nt f g c a w D μ) (hd : ∀ d, o.dst = some d → d < nt) (hpl : ∀ x ∈ opnds o.op, ∀ v, x = .const v → plainC v = true) {v : AV} {os : List (Nat × Ob)} (hh : HoldsM P f g c o v os) : Adv P base M W nt f g c o a w v os [] := by
  obtain ⟨fo, xs, ts, k, first, caps, zs, F, fr, T, e, hvals, hM, hm, rfl, rfl⟩ := hh
  have hv : ∀ l : List Operand, (∀ x ∈ l, ∀ v, x = .const v → plainC v = true) → Ops w.heap D μ a l (lmap (evf f []) l) := by
    intro l
    induction l with
    | nil => intro _; trivial
    | cons x l ih => intro hp; exact ⟨evf_R h (fun t b ht => by simp [aget] at ht) x (fun v hv => hp x (by simp) v hv), ih (fun y hy => hp y (by simp [hy]))⟩
  have hv := hv _ hpl
  rw [hvals] at hv
  rw [e] at hv
  simp only [opnds] at hv
  obtain ⟨hf, hv⟩ := hv
  intro K Q hK
  obtain ⟨o1, o2⟩ := ops_list hv
  obtain ⟨vs, us, hfv, e1, e2, r1, r2⟩ : ∃ vs us, a.eval fo = .func (.func k) vs us ∧ first.length = vs.size ∧ caps.length = us.size ∧ (∀ (i : Nat) x v, first[i]? = some x → vs[i]? = some v → R w.heap D μ x v) ∧ (∀ (i : Nat) x v, caps[i]? = some x → us[i]? = some v → R w.heap D μ x v) := by
    generalize a.eval fo = u at hf
    cases hf with
    | fn _ _ _ vs us e1 e2 h1 h2 => exact ⟨vs, us, rfl, e1, e2, h1, h2⟩
  have hl : zs.length = xs.size := by rw [o1]; simp
  have hsz : (lapp first (lapp zs caps)).length = ((vs ++ xs.map a.eval) ++ us).size := by rw [lapp_eq, lapp_eq]; simp [e1, e2, hl]
  have hraw : ∀ (i : Nat) y v, (lapp first (lapp zs caps))[i]? = some y → ((vs ++ xs.map a.eval) ++ us)[i]? = some v → R w.heap D μ y v := by
    intro i x v hx hv'
    rw [lapp_eq, lapp_eq] at hx
    rw [Array.append_assoc] at hv'
    by_cases i1 : i < first.length
    · rw [List.getElem?_append_left i1] at hx
      rw [Array.getElem?_append_left (by omega)] at hv'
      exact r1 i x v hx hv'
    · rw [List.getElem?_append_right (by omega)] at hx
      rw [Array.getElem?_append_right (by omega)] at hv'
      rw [e1] at hx
      by_cases i2 : i - vs.size < zs.length
      · rw [List.getElem?_append_left i2] at hx
        rw [Array.getElem?_append_left (by simp; omega)] at hv'
        have i3 : i - vs.size < xs.size := by omega
        simp [i3] at hv'
        subst hv'
        exact o2 _ x _ hx (by simp [i3])
      · rw [List.getElem?_append_right (by omega)] at hx
        rw [Array.getElem?_append_right (by simp; omega)] at hv'
        simp only [Array.size_map, ← hl] at hv'
        exact r2 _ x v hx hv'
  have hRL : RL w.heap D (muOf μ F) T.xs ((vs ++ xs.map a.eval) ++ us) := hm.xs _ _ _ _ ⟨hsz, hraw⟩
  obtain ⟨a1, a2, a3, a4⟩ := hm.asks h
  have hcall := hM D w _ _ h.dlt hRL a1 a2 a3 (fun n b z hn => ⟨(a4 n b z hn).1, (a4 n b z hn).2.1⟩) h.gok (fun n b z hn => by
    obtain ⟨_, _, id, _, _, hid, _⟩ := a4 n b z hn
    exact h.gown hid)
  have fin : ∀ e v w' D' μ1, MEnd D w (muOf μ F) T.O T.O1 T.r e v w' D' μ1 → K (a.put o.dst v) w' := by
    intro e v w' D' μ1 he
    obtain ⟨μ', h', hr⟩ := h.mcall hm he
    exact hK _ _ ⟨_, _, h'.put hd hr⟩
  unfold Oper.wp
  have hrun : (execOp a.eval o).run P w = (callFunc k ((vs ++ xs.map a.eval) ++ us)).run P w := by
    unfold execOp
    rw [e]
    simp [resolve, hfv, Deferred.ofValue, invoke]
  rw [hrun]
  unfold CallTo at hcall
  split at hcall
  · rename_i f' args' w' hcf
    rw [hcf, Oper.upon_enter]
    refine hcall.mono fun en w'' hen => ?_
    obtain ⟨v, D', μ1, he⟩ := hen
    obtain rfl := he.ret
    exact fin _ v w'' D' μ1 he
  · rename_i v w' hcf
    rw [hcf, Oper.upon_value]
    obtain ⟨v', D', μ1, he⟩ := hcall
    have := he.ret
    cases this
    exact fin _ _ w' D' μ1 he
  · exact hcall.elim
end
end Sy
end Go.Proofs.YtckbbcjbbmgmoaaDoor
