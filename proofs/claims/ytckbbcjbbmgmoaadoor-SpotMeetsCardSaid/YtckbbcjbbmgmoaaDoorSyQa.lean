/- The symbolic executor: values, blocks that are a template's. -/
import Derived.Test.YtckbbcjbbmgmoaaDoorSyN
namespace Go.Proofs.YtckbbcjbbmgmoaaDoor
namespace Sy
open Go Go.RowKit
set_option linter.unusedSimpArgs false
set_option linter.unusedVariables false
set_option linter.unusedSectionVars false

def muOf (μ : Mu) (F : List (Nat × Option Nat)) : Mu := fun t => match aget F t with
  | some (some id) => μ id
  | some none => some none
  | none => none
def Inj (ids : List (Nat × Option Nat)) : Prop := ∀ t t' id, aget ids t = some (some id) → aget ids t' = some (some id) → t = t'
structure Ext (m m' : Meet) : Prop where
  ids : ∀ t x, aget m.ids t = some x → aget m'.ids t = some x
  ps : ∀ p, p ∈ m.ps → p ∈ m'.ps
  inj : Inj m.ids → Inj m'.ids
theorem Ext.refl (m : Meet) : Ext m m := ⟨fun _ _ h => h, fun _ h => h, fun h => h⟩
theorem Ext.trans {m m' m'' : Meet} (a : Ext m m') (b : Ext m' m'') : Ext m m'' := ⟨fun t x h => b.ids t x (a.ids t x h), fun p h => b.ps p (a.ps p h), fun h => b.inj (a.inj h)⟩
theorem Ext.add (m : Meet) (p : Prop) : Ext m (m.add p) := ⟨fun _ _ h => h, fun q h => List.mem_cons_of_mem _ h, fun h => h⟩
theorem isId_eq {id : Nat} {x : Option Nat} (h : isId id x = true) : x = some id := by
  unfold isId at h
  split at h
  · rw [beq_eq h]
  · cases h
theorem usedId_no {id : Nat} {ids : List (Nat × Option Nat)} (h : usedId id ids = false) : ∀ t, aget ids t ≠ some (some id) := by
  induction ids with
  | nil => intro t; simp [aget]
  | cons p r ih =>
    obtain ⟨k, y⟩ := p
    unfold usedId at h
    cases e : isId id y with
    | true => rw [e] at h; cases h
    | false =>
      rw [e] at h
      intro t
      unfold aget
      split
      · intro hy
        cases hy
        simp [isId, beq_same] at e
      · exact ih h t
theorem pairUp_ok {m m' : Meet} {tid id : Nat} (h : pairUp m tid id = some m') : Ext m m' ∧ aget m'.ids tid = some (some id) := by
  unfold pairUp at h
  split at h
  · rename_i x hx
    split at h
    · rename_i e; cases h; exact ⟨.refl _, by rw [hx, isId_eq e]⟩
    · cases h
  · rename_i hx
    split at h
    · cases h
    · rename_i e
      cases h
      refine ⟨⟨fun t x ht => ?_, fun _ h => h, fun hi t t' id' h1 h2 => ?_⟩, by simp [aget, beq_same]⟩
      · simp only [aget]
        split
        · rename_i e'; rw [beq_eq e'] at hx; rw [hx] at ht; cases ht
        · exact ht
      · have e := usedId_no (by simpa using e : usedId id m.ids = false)
        simp only [aget] at h1 h2
        cases q1 : nbeq tid t with
        | true => cases q2 : nbeq tid t' with
          | true => rw [← beq_eq q1, ← beq_eq q2]
          | false => rw [q1] at h1; rw [q2] at h2; cases h1; exact absurd h2 (e _)
        | false => cases q2 : nbeq tid t' with
          | true => rw [q1] at h1; rw [q2] at h2; cases h2; exact absurd h1 (e _)
          | false => rw [q1] at h1; rw [q2] at h2; exact hi _ _ _ h1 h2
theorem pairNil_ok {m m' : Meet} {tid : Nat} (h : pairNil m tid = some m') : Ext m m' ∧ aget m'.ids tid = some none := by
  unfold pairNil at h
  split at h
  · cases h
  · rename_i hx
    cases h
    refine ⟨⟨fun t x ht => ?_, fun _ h => h, fun hi t t' id' h1 h2 => ?_⟩, by simp [aget, beq_same]⟩
    · simp only [aget]
      split
      · rename_i e'; rw [beq_eq e'] at hx; rw [hx] at ht; cases ht
      · exact ht
    · simp only [aget] at h1 h2
      split at h1 <;> split at h2
      · cases h1
      · cases h1
      · cases h2
      · exact hi _ _ _ h1 h2

section
variable {h : Array Obj} {D : Nat → Prop} {μ : Mu}
def Fin (m : Meet) (F : List (Nat × Option Nat)) : Prop := (∀ t x, aget m.ids t = some x → aget F t = some x) ∧ ∀ p, p ∈ m.ps → p
theorem Fin.of {m m' : Meet} {F : List (Nat × Option Nat)} (e : Ext m m') (f : Fin m' F) : Fin m F := ⟨fun t x h => f.1 t x (e.ids t x h), fun p h => f.2 p (e.ps p h)⟩
theorem muOf_some {F : List (Nat × Option Nat)} {t id : Nat} (h : aget F t = some (some id)) : muOf μ F t = μ id := by unfold muOf; rw [h]
theorem muOf_nil {F : List (Nat × Option Nat)} {t : Nat} (h : aget F t = some none) : muOf μ F t = some none := by unfold muOf; rw [h]

theorem KeysOk.turn {kk : KK} {has has' : Ky → Bool} {es : Array MapEntry} {clock : Nat} {kf : Nat → Ky} (k : KeysOk kk has' es clock kf) (e : ∀ x, has' x = has x) : KeysOk kk has es clock kf :=
  ⟨fun i x hx => ⟨(k.key i x hx).1, by rw [← e]; exact (k.key i x hx).2⟩, fun x hx => k.all x (by rw [e]; exact hx), k.st⟩
theorem meetV_ok {m m' : Meet} {v u : AV} (e : meetV m v u = some m') : Ext m m' ∧ ∀ F x, Fin m' F → R h D μ u x → R h D (muOf μ F) v x := by
  unfold meetV at e
  split at e
  · cases e; exact ⟨.refl _, fun F x _ _ => .dead _⟩
  · cases e; refine ⟨.add _ _, fun F x f r => ?_⟩
    have := f.2 _ (List.mem_cons_self ..); subst this
    cases r; exact .bool _
  · split at e
    · rename_i hk
      have hk := of_decide_eq_true hk; subst hk
      cases e; refine ⟨.add _ _, fun F x f r => ?_⟩
      have := f.2 _ (List.mem_cons_self ..); subst this
      cases r; exact .int _ _
    · cases e
  · cases e; refine ⟨.add _ _, fun F x f r => ?_⟩
    have := f.2 _ (List.mem_cons_self ..); subst this
    cases r with | str _ s e => exact .str _ s e
  · cases e; exact ⟨.refl _, fun F x _ r => by cases r; exact .nilp⟩
  · cases e; exact ⟨.refl _, fun F x _ r => by cases r; exact .nilm⟩
  · cases e; exact ⟨.refl _, fun F x _ r => by cases r; exact .nilf⟩
  · cases e; exact ⟨.refl _, fun F x _ r => by cases r; exact .nils⟩
  · cases e; exact ⟨.refl _, fun F x _ r => by cases r; exact .nili⟩
  · cases e; refine ⟨.add _ _, fun F x f r => ?_⟩
    have := f.2 _ (List.mem_cons_self ..); subst this
    cases r with
    | ifn => exact .ifn
    | ifs t p => exact .ifs t p
  · cases e; exact ⟨.refl _, fun F x _ r => by cases r; exact .emp _ _⟩
  · cases e; exact ⟨.refl _, fun F x _ r => by cases r; exact .emz _⟩
  · rename_i sz n get sz' n' get'
    split at e
    · rename_i hz
      have := beq_eq hz; subst this
      cases e; refine ⟨.add _ _, fun F x f r => ?_⟩
      obtain ⟨h1, h2⟩ := f.2 _ (List.mem_cons_self ..); subst h1
      cases r with
      | lst0 _ _ a cap hn => exact .lst0 _ _ a cap hn
      | lst _ _ _ b o cap vs hD hc hv h1 hr => exact .lst _ _ _ b o cap vs hD hc hv h1 (fun i j hi hj => by rw [← h2 i j hi hj]; exact hr i j hi hj)
    · cases e
  · cases e; refine ⟨.add _ _, fun F x f r => ?_⟩
    have h1 := f.2 _ (List.mem_cons_self ..); subst h1
    cases r with | nils => exact .lst0 _ _ none 0 (fun _ => rfl)
  · cases e; refine ⟨.add _ _, fun F x f r => ?_⟩
    have h1 := f.2 _ (List.mem_cons_self ..); subst h1
    cases r with | emp a cap => exact .lst0 _ _ _ cap (fun h => by cases h)
  · cases e; refine ⟨.add _ _, fun F x f r => ?_⟩
    have h1 := f.2 _ (List.mem_cons_self ..); subst h1
    cases r with | emz a => exact .lst0 _ _ _ 0 (fun h => by cases h)
  · rename_i n get n' get'
    cases e; refine ⟨.add _ _, fun F x f r => ?_⟩
    obtain ⟨h1, h2⟩ := f.2 _ (List.mem_cons_self ..)
    cases r with
    | iptr _ _ b o vs hD hv h1' hr => exact .iptr _ _ b o vs hD (fun j hj => hv j (by omega)) (fun j hj => h1' j (by omega)) (fun j hj => by rw [← h2 j hj]; exact hr j (by omega))
  · rename_i n get n' get'
    split at e
    · rename_i hz
      have := beq_eq hz; subst this
      cases e; refine ⟨.add _ _, fun F x f r => ?_⟩
      have h2 := f.2 _ (List.mem_cons_self ..)
      cases r with
      | arr _ _ vs e1 h1 hr => exact .arr _ _ vs e1 h1 (fun j v hv => by
          rw [← h2 j (by rw [e1]; exact (Array.getElem?_eq_some_iff.1 hv).1)]
          exact hr j v hv)
    · cases e
  · split at e
    · rename_i ho
      have := beq_eq ho; subst this
      obtain ⟨e1, e2⟩ := pairUp_ok e
      refine ⟨e1, fun F x f r => ?_⟩
      cases r with | ref _ _ b z m hm => exact .ref _ _ b z m ((muOf_some (f.1 _ _ e2)).trans hm)
    · cases e
  · split at e
    · rename_i hz
      split at e
      · rename_i ho
        split at e
        · rename_i m1 hp
          have := beq_eq hz; subst this
          have := beq_eq ho; subst this
          obtain ⟨e1, e2⟩ := pairUp_ok hp
          cases e
          refine ⟨e1.trans (.add _ _), fun F x f r => ?_⟩
          have h1 := f.2 _ (List.mem_cons_self ..); subst h1
          cases r with | eref _ _ _ _ b z m hm hi => exact .eref _ _ _ _ b z m ((muOf_some (f.1 _ _ e2)).trans hm) hi
        · cases e
      · cases e
    · cases e
  · split at e
    · rename_i hz
      split at e
      · rename_i m1 hp
        have := beq_eq hz; subst this
        obtain ⟨e1, e2⟩ := pairUp_ok hp
        cases e
        refine ⟨e1.trans (.add _ _), fun F x f r => ?_⟩
        obtain ⟨h1, h2⟩ := f.2 _ (List.mem_cons_self ..); subst h1; subst h2
        cases r with
        | slv _ _ a hm => exact .slv _ _ a ((muOf_some (f.1 _ _ e2)).trans hm)
        | sl0 _ _ _ b z m o hm ho => exact .sl0 _ _ _ b z m o ((muOf_some (f.1 _ _ e2)).trans hm) ho
        | sl _ _ _ _ b z m cap hm hn hz ho => exact .sl _ _ _ _ b z m cap ((muOf_some (f.1 _ _ e2)).trans hm) hn hz ho
      · cases e
    · cases e
  · split at e
    · rename_i m1 hp
      obtain ⟨e1, e2⟩ := pairNil_ok hp
      cases e
      refine ⟨e1.trans (.add _ _), fun F x f r => ?_⟩
      obtain ⟨h1, h2⟩ := f.2 _ (List.mem_cons_self ..); subst h1; subst h2
      cases r with | nils => exact .slv _ _ none (muOf_nil (f.1 _ _ e2))
    · cases e
  · split at e
    · rename_i hf hfr
      have := beq_eq hf; subst this
      cases e; refine ⟨.add _ _, fun F x f r => ?_⟩
      obtain ⟨h1, h2⟩ := f.2 _ (List.mem_cons_self ..); subst h1; subst h2
      exact (free1_R r hfr).free
    · cases e
  · obtain ⟨e1, e2⟩ := pairUp_ok e
    refine ⟨e1, fun F x f r => ?_⟩
    cases r with | mp _ b z m hm => exact .mp _ b z m ((muOf_some (f.1 _ _ e2)).trans hm)
  · rename_i kk n has val kk' n' has' val'
    split at e
    · rename_i hk
      obtain rfl := of_decide_eq_true hk
      cases e; refine ⟨.add _ _, fun F x f r => ?_⟩
      obtain ⟨h1, h2, h3⟩ := f.2 _ (List.mem_cons_self ..)
      cases r with
      | mpi _ _ _ _ b es clock kf hD hb hn hk hr =>
        exact .mpi _ _ _ _ b es clock kf hD hb (hn.trans h1) (hk.turn h2) (fun i e he => by
          rw [← h3 _ (by rw [← h2]; exact (hk.key i e he).2)]; exact hr i e he)
    · cases e
  · cases e
theorem meetL_ok : ∀ {vs us : List AV} {m m' : Meet}, meetL m vs us = some m' → Ext m m' ∧ vs.length = us.length ∧ ∀ F, Fin m' F → ∀ (i : Nat) v u x, vs[i]? = some v → us[i]? = some u → R h D μ u x → R h D (muOf μ F) v x
  | [], [], m, m', e => by cases e; exact ⟨.refl _, rfl, fun F f i v u x hv => by simp at hv⟩
  | [], _ :: _, m, m', e => by cases e
  | _ :: _, [], m, m', e => by cases e
  | v :: vs, u :: us, m, m', e => by
    unfold meetL at e
    split at e
    · rename_i m1 e1
      obtain ⟨x1, r1⟩ := meetV_ok (h := h) (D := D) (μ := μ) e1
      obtain ⟨x2, l2, r2⟩ := meetL_ok e
      refine ⟨x1.trans x2, by simp [l2], fun F f i v' u' x hv hu r => ?_⟩
      cases i with
      | zero => simp at hv hu; subst hv; subst hu; exact r1 F x (f.of x2) r
      | succ i => exact r2 F f i v' u' x (by simpa using hv) (by simpa using hu) r
    · cases e
theorem meetA_ok {m m' : Meet} {v u : AV} (e : meetA m v u = some m') : Ext m m' ∧ ∀ F x, Fin m' F → R h D μ u x → R h D (muOf μ F) v x := by
  unfold meetA at e
  split at e
  · obtain ⟨x1, l1, r1⟩ := meetL_ok (h := h) (D := D) (μ := μ) e
    refine ⟨x1, fun F x f r => ?_⟩
    obtain ⟨us, rfl, o1, s1, hr⟩ := r.inv_agg
    refine .agg _ _ (by rw [l1, s1]) o1 fun i v x hv hx => ?_
    obtain ⟨u, hu⟩ : ∃ u, (‹List AV› : List AV)[i]? = some u := by
      refine ⟨_, List.getElem?_eq_getElem ?_⟩
      rw [← l1]; exact (List.getElem?_eq_some_iff.1 hv).1
    exact r1 F f i v u x hv hu (hr i u x hu hx)
  · exact meetV_ok e
theorem meetSlots_ok {slots : List (Nat × AV)} {a : Act} : ∀ {ts : List (Nat × AV)} {m m' : Meet}, meetSlots slots ts m = some m' → Ext m m' ∧ ∀ F, Fin m' F → (∀ t v, aget slots t = some v → R h D μ v (a.tmps.getD t undef)) →
    ∀ t v, aget ts t = some v → R h D (muOf μ F) v (a.tmps.getD t undef)
  | [], m, m', e => by cases e; exact ⟨.refl _, fun F f _ t v hv => by cases hv⟩
  | (t, v) :: r, m, m', e => by
    unfold meetSlots at e
    split at e
    · rename_i u hu
      split at e
      · rename_i m1 e1
        obtain ⟨x1, r1⟩ := meetA_ok (h := h) (D := D) (μ := μ) e1
        obtain ⟨x2, r2⟩ := meetSlots_ok e
        refine ⟨x1.trans x2, fun F f hs t' v' hv => ?_⟩
        unfold aget at hv
        split at hv
        · rename_i hb; cases hv; rw [← beq_eq hb]; exact r1 F _ (f.of x2) (hs _ _ hu)
        · exact r2 F f hs t' v' hv
      · cases e
    · cases e

theorem meetN_ok {m m' : Meet} {v u : AV} (e : meetN m u v = some m') : Ext m m' ∧ ∀ F x, Fin m' F → R h D noMu u x → R h D (muOf μ F) v x := by
  unfold meetN at e
  split at e
  · cases e; exact ⟨.refl _, fun F x f r => .dead _⟩
  · split at e
    · rename_i m1 hp
      obtain ⟨e1, e2⟩ := pairNil_ok hp
      cases e
      refine ⟨e1.trans (.add _ _), fun F x f r => ?_⟩
      obtain ⟨h1, h2, h3⟩ := f.2 _ (List.mem_cons_self ..)
      subst h1; subst h2; subst h3
      cases r with | nils => exact .slv _ _ none (muOf_nil (f.1 _ _ e2))
    · cases e
  · split at e
    · rename_i x hp
      cases e
      refine ⟨.add _ _, fun F x f r => ?_⟩
      have h1 := f.2 _ (List.mem_cons_self ..)
      subst h1
      exact r.free
    · cases e
theorem meetNL_ok {y : Nat → AV} : ∀ {vs : List AV} {j : Nat} {m m' : Meet}, meetNL m y j vs = some m' → Ext m m' ∧ ∀ F, Fin m' F → ∀ (i : Nat) v x, vs[i]? = some v → R h D noMu (y (j + i)) x → R h D (muOf μ F) v x
  | [], j, m, m', e => by cases e; exact ⟨.refl _, fun F f i v x hv => by simp at hv⟩
  | v :: vs, j, m, m', e => by
    unfold meetNL at e
    split at e
    · rename_i m1 e1
      obtain ⟨x1, r1⟩ := meetN_ok (h := h) (D := D) (μ := μ) e1
      obtain ⟨x2, r2⟩ := meetNL_ok e
      refine ⟨x1.trans x2, fun F f i v' x hv r => ?_⟩
      cases i with
      | zero => simp at hv; subst hv; exact r1 F x (f.of x2) r
      | succ i => exact r2 F f i v' x (by simpa using hv) (by rw [show j + 1 + i = j + (i + 1) by omega]; exact r)
    · cases e
theorem meetOb_ok {m m' : Meet} {v u : Ob} (e : meetOb m v u = some m') : Ext m m' ∧ v ≠ .gone ∧ u ≠ .gone ∧ ∀ F x, Fin m' F → ObOk h D μ u x → ObOk h D (muOf μ F) v x := by
  unfold meetOb at e
  split at e
  · rename_i ty us' ty' us
    split at e
    · rename_i hty
      obtain rfl := beq_eq hty
      obtain ⟨x1, l1, r1⟩ := meetL_ok (h := h) (D := D) (μ := μ) e
      refine ⟨x1, by simp, by simp, fun F x f ho => ?_⟩
      match x, ho with
      | some (b, z, mm), ⟨c, t, fr, e1, e2, e3, e4, e5, e6⟩ =>
        refine ⟨c, t, fr, e1, e2, e3, e4, by rw [l1, e5], fun i v x hv hx => ?_⟩
        obtain ⟨u, hu⟩ : ∃ u, us[i]? = some u := by
          refine ⟨_, List.getElem?_eq_getElem ?_⟩
          rw [← l1]; exact (List.getElem?_eq_some_iff.1 hv).1
        exact r1 F f i v u x hv hu (e6 i u x hu hx)
    · cases e
  · split at e
    · rename_i hty hz
      have := beq_eq hz; subst this
      obtain rfl := beq_eq hty
      cases e
      refine ⟨.add _ _, by simp, by simp, fun F x f ho => ?_⟩
      obtain ⟨h1, h2⟩ := f.2 _ (List.mem_cons_self ..); subst h1
      match x, ho with
      | some (b, z, mm), ⟨e0, c, t, fr, e1, e2, e3, e4, e5⟩ =>
        exact ⟨e0, c, t, fr, e1, e2, e3, e4, fun i j hi hj => by
          obtain ⟨v, v1, v2, v3⟩ := e5 i j hi hj
          exact ⟨v, v1, v2, by rw [← h2 i j hi hj]; exact v3⟩⟩
      | none, ho => exact ho
    · cases e
  · rename_i ty cs ty' cs'
    split at e
    · rename_i hty hl
      obtain rfl := beq_eq hty
      have hl := ble_le hl
      rw [llen_eq, llen_eq] at hl
      obtain ⟨x1, l1, r1⟩ := meetL_ok (h := h) (D := D) (μ := μ) e
      rw [llen_eq, ltake_eq] at r1
      refine ⟨x1, by simp, by simp, fun F x f ho => ?_⟩
      match x, ho with
      | some (b, z, mm), ⟨c, t, fr, e1, e2, e3, e4, e5⟩ =>
        refine ⟨c, t, fr, e1, e2, e3, by omega, fun i v hv => ?_⟩
        have hi := (List.getElem?_eq_some_iff.1 hv).1
        have hu : cs'[i]? = some (cs'[i]'(by omega)) := by simp
        obtain ⟨x, x1, x2, x3⟩ := e5 i _ hu
        exact ⟨x, x1, x2, r1 F f i v _ x hv (by rw [List.getElem?_take, if_pos hi]; exact hu) x3⟩
      | none, ho =>
        have ho : cs' = [] := ho
        subst ho
        show cs = []
        exact List.eq_nil_of_length_eq_zero (by simpa using hl)
    · cases e
  · rename_i kk n has val kk' n' has' val'
    split at e
    · rename_i hk
      obtain rfl := of_decide_eq_true hk
      cases e
      refine ⟨.add _ _, by simp, by simp, fun F x f ho => ?_⟩
      obtain ⟨h1, h2, h3⟩ := f.2 _ (List.mem_cons_self ..)
      match x, ho with
      | some (b, z), ⟨es, clock, kf, hb, hn, hk, hr⟩ =>
        exact ⟨es, clock, kf, hb, hn.trans h1, hk.turn h2, fun i e he => by
          rw [← h3 _ (by rw [← h2]; exact (hk.key i e he).2)]; exact hr i e he⟩
    · cases e
  · rename_i ty cs ty' sz n get
    split at e
    · rename_i hty
      obtain rfl := beq_eq hty
      split at e
      · rename_i m1 hm
        cases e
        obtain ⟨x1, r1⟩ := meetNL_ok (h := h) (D := D) (μ := μ) hm
        refine ⟨x1.trans (.add _ _), by simp, by simp, fun F x f ho => ?_⟩
        have hle := f.2 _ (List.mem_cons_self ..)
        rw [llen_eq] at hle
        match x, ho with
        | some (b, z, mm), ⟨e0, c, t, fr, e1, e2, e3, e4, e5⟩ =>
          refine ⟨c, t, fr, e1, e2, e3, by omega, fun i v hv => ?_⟩
          have hi := (List.getElem?_eq_some_iff.1 hv).1
          have hs : 0 < sz := by
            rcases Nat.eq_zero_or_pos sz with h0 | h0
            · rw [h0] at hle; omega
            · exact h0
          obtain ⟨x, x1, x2, x3⟩ := e5 (i / sz) (i % sz) (Nat.div_lt_of_lt_mul (by rw [Nat.mul_comm]; omega)) (Nat.mod_lt _ hs)
          rw [show i / sz * sz + i % sz = i by rw [Nat.mul_comm]; exact Nat.div_add_mod i _] at x1
          refine ⟨x, x1, x2, r1 F (f.of (.add _ _)) i v x hv ?_⟩
          rw [Nat.zero_add, flat1 _ _ _ hs]
          exact x3
        | none, ho =>
          have ho : n = 0 := ho
          subst ho
          show cs = []
          exact List.eq_nil_of_length_eq_zero (by omega)
      · cases e
    · cases e
  · cases e
theorem meetNil_ok {m m' : Meet} {v : Ob} (e : meetNil m v = some m') : Ext m m' ∧ v ≠ .gone ∧ ∀ F, Fin m' F → ObOk h D (muOf μ F) v none := by
  unfold meetNil at e
  split at e
  · cases e
    refine ⟨.add _ _, by simp, fun F f => ?_⟩
    exact (f.2 _ (List.mem_cons_self ..)).symm
  · cases e
    exact ⟨.refl _, by simp, fun F f => rfl⟩
  · cases e

structure ObsOk (h : Array Obj) (D : Nat → Prop) (μ : Mu) (s : St) (ice : List Nat) (F : List (Nat × Option Nat)) (tid : Nat) (o : Ob) : Prop where
  live : o ≠ .gone
  pair : ∃ x, aget F tid = some x ∧ match x with
    | some id => (lhas s.ice id = true → lhas ice tid = true) ∧ ∃ o', aget s.objs id = some o' ∧ o' ≠ .gone ∧ ∀ y, ObOk h D μ o' y → ObOk h D (muOf μ F) o y
    | none => ObOk h D (muOf μ F) o none
theorem meetObs_ok {s : St} {ice : List Nat} : ∀ {ts : List (Nat × Ob)} {m m' : Meet}, meetObs s ice ts m = some m' → Ext m m' ∧ ∀ F, Fin m' F → ∀ tid o, aget ts tid = some o → ObsOk h D μ s ice F tid o
  | [], m, m', e => by cases e; exact ⟨.refl _, fun F f t o ho => by cases ho⟩
  | (tid, o) :: r, m, m', e => by
    unfold meetObs at e
    split at e
    · rename_i id hid
      have key : ∀ o' m1, aget s.objs id = some o' → meetOb m o o' = some m1 → meetObs s ice r m1 = some m' → (lhas s.ice id = true → lhas ice tid = true) → Ext m m' ∧ ∀ F, Fin m' F → ∀ t o1, aget ((tid, o) :: r) t = some o1 → ObsOk h D μ s ice F t o1 := by
        intro o' m1 ho' hm e hice
        obtain ⟨x1, n1, n2, r1⟩ := meetOb_ok (h := h) (D := D) (μ := μ) hm
        obtain ⟨x2, r2⟩ := meetObs_ok e
        refine ⟨x1.trans x2, fun F f t o1 ht => ?_⟩
        unfold aget at ht
        split at ht
        · rename_i hb
          have := beq_eq hb; subst this
          cases ht
          exact ⟨n1, some id, f.1 _ _ (x2.ids _ _ (x1.ids _ _ hid)), hice, o', ho', n2, fun y hy => r1 F y (f.of x2) hy⟩
        · exact r2 F f t o1 ht
      split at e
      · cases e
      · rename_i hno
        split at e
        · rename_i o' ho'
          split at e
          · rename_i m1 hm
            refine key o' m1 ho' hm e fun hi => ?_
            cases hti : lhas ice tid with
            | true => rfl
            | false => exact absurd hti (hno hi)
          · cases e
        · cases e
    · rename_i hid
      split at e
      · rename_i m1 hm
        obtain ⟨x1, n1, r1⟩ := meetNil_ok (h := h) (D := D) (μ := μ) hm
        obtain ⟨x2, r2⟩ := meetObs_ok e
        refine ⟨x1.trans x2, fun F f t o1 ht => ?_⟩
        unfold aget at ht
        split at ht
        · rename_i hb
          have := beq_eq hb; subst this
          cases ht
          exact ⟨n1, none, f.1 _ _ (x2.ids _ _ (x1.ids _ _ hid)), r1 F (f.of x2)⟩
        · exact r2 F f t o1 ht
      · cases e
    · cases e
end

theorem same1_get {l : List Nat} {t : Nat} {x : Option Nat} (h : aget (same1 l) t = some x) : x = some t := by
  induction l with
  | nil => simp [same1, aget] at h
  | cons a l ih =>
    unfold same1 aget at h
    split at h
    · rename_i e; cases h; rw [beq_eq e]
    · exact ih h
theorem inObs_get {objs : List (Nat × Ob)} : ∀ {l : List (Nat × Option Nat)}, inObs objs l = true → ∀ t x, aget l t = some x → aget objs t ≠ none
  | [], _, t, x, h => by cases h
  | (k, y) :: l, e, t, x, h => by
    unfold inObs at e
    split at e
    · rename_i o ho
      unfold aget at h
      split at h
      · rename_i hb; rw [← beq_eq hb]; simp only at ho; rw [ho]; simp
      · exact inObs_get e t x h
    · cases e
theorem iceIn_get {objs : List (Nat × Ob)} : ∀ {l : List Nat}, iceIn objs l = true → ∀ t, lhas l t = true → aget objs t ≠ none
  | [], _, t, h => by cases h
  | k :: l, e, t, h => by
    unfold iceIn at e
    split at e
    · rename_i o ho
      unfold lhas at h
      split at h
      · rename_i hb; rw [← beq_eq hb, ho]; simp
      · exact iceIn_get e t h
    · cases e
end Sy
end Go.Proofs.YtckbbcjbbmgmoaaDoor
