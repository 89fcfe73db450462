/- The symbolic executor: a state that is one of a template's. -/
import Derived.Test.YtckbbcjbbmgmoaaDoorSyP
namespace Go.Proofs.YtckbbcjbbmgmoaaDoor
namespace Sy
open Go Go.RowKit
set_option linter.unusedSimpArgs false
set_option linter.unusedVariables false
set_option linter.unusedSectionVars false

def frozenIn (ice : List Nat) : List (Nat × Option Nat) → List Nat
  | [] => []
  | (t, some id) :: r => if lhas ice t = true then id :: frozenIn ice r else frozenIn ice r
  | _ :: r => frozenIn ice r
theorem frozenIn_mem {ice : List Nat} : ∀ {l : List (Nat × Option Nat)} {id : Nat}, id ∈ frozenIn ice l → ∃ t, (t, some id) ∈ l ∧ lhas ice t = true
  | [], id, h => by cases h
  | (t, some k) :: r, id, h => by
    unfold frozenIn at h
    split at h
    · rename_i e
      rcases List.mem_cons.1 h with rfl | h
      · exact ⟨t, by simp, e⟩
      · obtain ⟨t', h1, h2⟩ := frozenIn_mem h; exact ⟨t', List.mem_cons_of_mem _ h1, h2⟩
    · obtain ⟨t', h1, h2⟩ := frozenIn_mem h; exact ⟨t', List.mem_cons_of_mem _ h1, h2⟩
  | (t, none) :: r, id, h => by
    obtain ⟨t', h1, h2⟩ := frozenIn_mem (l := r) h; exact ⟨t', List.mem_cons_of_mem _ h1, h2⟩

section
variable {P : Program} {Q : AV → Prop} {base : Nat} {M : Two} {W : World} {nt : Nat} {s tm : St} {a : Act} {w : World} {hold : List Nat} {next : Tree}
/-- The ids that the template freezes, as the state names them. -/
def frz (ice : List Nat) (objs : List (Nat × Ob)) (F : List (Nat × Option Nat)) : List Nat := match objs with
  | [] => []
  | (t, _) :: r => match aget F t with
    | some (some id) => if lhas ice t = true then id :: frz ice r F else frz ice r F
    | _ => frz ice r F
theorem frz_mem {ice : List Nat} {F : List (Nat × Option Nat)} : ∀ {objs : List (Nat × Ob)} {id : Nat}, id ∈ frz ice objs F → ∃ t, aget F t = some (some id) ∧ lhas ice t = true ∧ aget objs t ≠ none
  | [], id, h => by cases h
  | (t, o) :: r, id, h => by
    unfold frz at h
    have up : ∀ {t'}, aget r t' ≠ none → aget ((t, o) :: r) t' ≠ none := by
      intro t' h
      unfold aget
      split
      · simp
      · exact h
    split at h
    · rename_i k hk
      split at h
      · rename_i e
        rcases List.mem_cons.1 h with rfl | h
        · exact ⟨t, hk, e, by simp [aget, beq_same]⟩
        · obtain ⟨t', h1, h2, h3⟩ := frz_mem h; exact ⟨t', h1, h2, up h3⟩
      · obtain ⟨t', h1, h2, h3⟩ := frz_mem h; exact ⟨t', h1, h2, up h3⟩
    · obtain ⟨t', h1, h2, h3⟩ := frz_mem h; exact ⟨t', h1, h2, up h3⟩
theorem mem_frz {ice : List Nat} {F : List (Nat × Option Nat)} : ∀ {objs : List (Nat × Ob)} {id t : Nat}, aget F t = some (some id) → lhas ice t = true → aget objs t ≠ none → id ∈ frz ice objs F
  | [], id, t, _, _, h => by simp [aget] at h
  | (k, o) :: r, id, t, h1, h2, h3 => by
    unfold frz
    unfold aget at h3
    cases e : nbeq k t with
    | true =>
      have := beq_eq e; subst this
      rw [h1]
      simp only
      rw [if_pos h2]
      simp
    | false =>
      rw [e] at h3
      have ih := mem_frz (objs := r) h1 h2 h3
      split
      · split
        · exact List.mem_cons_of_mem _ ih
        · exact ih
      · exact ih

theorem pinOk_get : ∀ {F : List (Nat × Option Nat)}, pinOk F = true → ∀ t x, aget F t = some x → isPin t = true → x = some t
  | [], _, t, x, h, _ => by cases h
  | (k, y) :: r, e, t, x, h, hp => by
    unfold pinOk at e
    unfold aget at h
    split at h
    · rename_i hb
      have hk := beq_eq hb; subst hk
      cases h
      rw [hp] at e
      simp only at e
      split at e
      · rename_i hi; exact isId_eq hi
      · cases e
    · have e' : pinOk r = true := by
        split at e
        · split at e
          · exact e
          · cases e
        · exact e
      exact pinOk_get e' t x h hp
theorem pin_of {pin : Nat → Option (Nat × Nat × Nat)} {μ : Mu} {F : List (Nat × Option Nat)} (h : ∀ id y, isPin id = true → μ id = some y → y = pin id) (hF : pinOk F = true) {id : Nat} {y : Option (Nat × Nat × Nat)} (hp : isPin id = true) (hy : muOf μ F id = some y) : y = pin id := by
  unfold muOf at hy
  split at hy
  · rename_i k hk
    have := pinOk_get hF id _ hk hp
    cases this
    exact h id y hp hy
  · rename_i hk
    have := pinOk_get hF id _ hk hp
    cases this
  · cases hy
theorem meet_go (hs : SimS base M W nt s a w) (h : Sat P Q (meetT s tm hold next)) (hkn : tm.kn = []) : SimS base M W nt tm a w ∧ Sat P Q next := by
  unfold meetT at h
  split at h
  · rename_i m1 e1
    split at h
    · rename_i m2 e2
      split at h
      · rename_i hin hice hpin
        obtain ⟨hps, hnext⟩ := sat_mustL h
        refine ⟨?_, hnext⟩
        obtain ⟨⟨D, μ, S⟩, _⟩ := hs
        let F := m2.ids
        obtain ⟨x2, -⟩ := meetObs_ok (h := w.heap) (D := D) (μ := μ) e2
        obtain ⟨x1, -⟩ := meetSlots_ok (h := w.heap) (D := D) (μ := μ) (a := a) e1
        have hF2 : Fin m2 F := ⟨fun _ _ h => h, hps⟩
        have hF1 : Fin m1 F := hF2.of x2
        have hInj : Inj F := x2.inj (x1.inj fun t t' id h1 h2 => by
          have q1 := same1_get h1; have q2 := same1_get h2
          simp only [Option.some.injEq] at q1 q2
          rw [← q1, ← q2])
        -- the template's frozen blocks are frozen
        have hal : ∀ id, id ∈ frz tm.ice tm.objs F → ∃ o, aget s.objs id = some o ∧ o ≠ .gone := by
          intro id hid
          obtain ⟨t, h1, h2, h3⟩ := frz_mem hid
          obtain ⟨o, ho⟩ := Option.ne_none_iff_exists'.1 h3
          obtain ⟨x2', r2⟩ := meetObs_ok (h := w.heap) (D := D) (μ := μ) e2
          obtain ⟨x, hx, hp⟩ := (r2 F hF2 t o ho).pair
          rw [h1] at hx
          cases hx
          obtain ⟨_, o', ho', hne, _⟩ := hp
          exact ⟨o', ho', hne⟩
        have S' := S.freeze (frz tm.ice tm.objs F) hal
        obtain ⟨_, r1⟩ := meetSlots_ok (h := w.heap) (D := fun b => D b ∨ ∃ id z m, id ∈ frz tm.ice tm.objs F ∧ μ id = some (some (b, z, m))) (μ := μ) (a := a) e1
        obtain ⟨_, r2⟩ := meetObs_ok (h := w.heap) (D := fun b => D b ∨ ∃ id z m, id ∈ frz tm.ice tm.objs F ∧ μ id = some (some (b, z, m))) (μ := μ) e2
        generalize hDD : (fun b => D b ∨ ∃ id z m, id ∈ frz tm.ice tm.objs F ∧ μ id = some (some (b, z, m))) = D' at S' r1 r2
        have r1 := r1 F hF1 S'.slots
        have r2 := r2 F hF2
        -- a template's block that has a place is a block of the state's
        have pl : ∀ tid b z, muOf μ F tid = some (some (b, z)) → ∃ id, aget F tid = some (some id) ∧ μ id = some (some (b, z)) := by
          intro tid b z hm
          unfold muOf at hm
          split at hm
          · rename_i id hid; exact ⟨id, hid, hm⟩
          · cases hm
          · cases hm
        have obj : ∀ tid id, aget F tid = some (some id) → ∃ o', aget s.objs id = some o' ∧ o' ≠ .gone ∧ (lhas s.ice id = true → lhas tm.ice tid = true) := by
          intro tid id hid
          obtain ⟨o, ho⟩ := Option.ne_none_iff_exists'.1 (inObs_get hin tid _ hid)
          obtain ⟨x, hx, hp⟩ := (r2 tid o ho).pair
          rw [show aget F tid = aget m2.ids tid from rfl, hx] at hid
          cases hid
          obtain ⟨h1, o', ho', hne, _⟩ := hp
          exact ⟨o', ho', hne, h1⟩
        refine ⟨⟨D', muOf μ F, { S' with slots := r1, dom := fun id => ?_, obs := fun id o x h1 h2 => ?_, inj := ?_, own := fun id b z hm => ?_, kd := ?_, icy := fun id hc => iceIn_get hice id hc, pin := fun id y hp hy => pin_of S.pin hpin hp hy }⟩, fun t b ht => by rw [hkn] at ht; cases ht⟩
        · constructor
          · intro hm
            refine Decidable.byContradiction fun ho => ?_
            obtain ⟨o, ho⟩ := Option.ne_none_iff_exists'.1 ho
            obtain ⟨x, hx, hp⟩ := (r2 id o ho).pair
            unfold muOf at hm
            rw [hx] at hm
            cases x with
            | none => cases hm
            | some k =>
              simp only at hm hp
              obtain ⟨_, o', ho', _, _⟩ := hp
              have := (S.dom k).1 hm
              rw [ho'] at this; cases this
          · intro ho
            unfold muOf
            cases hf : aget F id with
            | none => rfl
            | some x => exact absurd ho (inObs_get hin id x hf)
        · obtain ⟨y, hy, hp⟩ := (r2 id o h1).pair
          unfold muOf at h2
          rw [hy] at h2
          cases y with
          | none => cases h2; exact hp
          | some k =>
            simp only at h2 hp
            obtain ⟨_, o', ho', _, hr⟩ := hp
            exact hr x (S'.obs k o' x ho' h2)
        · intro id id' b z z' o o' h1 h2 _ _ _ _
          obtain ⟨k, hk, hm⟩ := pl id b z h1
          obtain ⟨k', hk', hm'⟩ := pl id' b z' h2
          obtain ⟨q, hq, hqn, _⟩ := obj id k hk
          obtain ⟨q', hq', hqn', _⟩ := obj id' k' hk'
          have := S.inj k k' b z z' q q' hm hm' hq hq' hqn hqn'
          subst this
          exact hInj _ _ _ hk hk'
        · obtain ⟨k, hk, hm⟩ := pl id b z hm
          exact S.own k b z hm
        · intro id b z o h1 h2 h3
          obtain ⟨k, hk, hm⟩ := pl id b z h1
          obtain ⟨q, hq, hqn, hic⟩ := obj id k hk
          have K := S'.kd k b z q hm hq hqn
          refine ⟨fun hc => K.1 ?_, fun hc => K.2 ?_⟩
          · unfold cput
            rw [lhas_mem.2 (mem_frz hk hc (by rw [h2]; simp))]; rfl
          · unfold cput
            rw [Bool.or_eq_false_iff]
            refine ⟨?_, ?_⟩
            · cases hl : lhas (frz tm.ice tm.objs F) k with
              | false => rfl
              | true =>
                obtain ⟨t, t1, t2, _⟩ := frz_mem (lhas_mem.1 hl)
                have := hInj _ _ _ t1 hk
                subst this
                rw [hc] at t2; cases t2
            · cases hl : lhas s.ice k with
              | false => rfl
              | true => have := hic hl; rw [hc] at this; cases this
      · cases h
    · cases h
  · cases h
/-- The template's blocks are alive. -/
theorem meet_live (hs : SimS base M W nt s a w) (h : Sat P Q (meetT s tm hold next)) : ∀ n o, aget tm.objs n = some o → o ≠ .gone := by
  unfold meetT at h
  split at h
  · rename_i m1 e1
    split at h
    · rename_i m2 e2
      split at h
      · obtain ⟨hps, hnext⟩ := sat_mustL h
        intro n o ho
        obtain ⟨x2, r2⟩ := meetObs_ok (h := #[]) (D := fun _ => False) (μ := noMu) e2
        exact (r2 m2.ids ⟨fun _ _ h => h, hps⟩ n o ho).live
      · cases h
    · cases h
  · cases h
end
end Sy
end Go.Proofs.YtckbbcjbbmgmoaaDoor
