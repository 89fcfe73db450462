/- The symbolic executor: regions. -/
import Derived.Test.YtckbbcjbbmgmoaaDoorSyMc
namespace Go.Proofs.YtckbbcjbbmgmoaaDoor
namespace Sy
open Go Go.RowKit
set_option linter.unusedSimpArgs false
set_option linter.unusedVariables false
set_option linter.unusedSectionVars false

/-! ### the last that writes -/
def last {β : Type} (L : Nat → Bool) (hit : Nat → Option β) (s : Option β) : Nat → Option β
  | 0 => s
  | n + 1 => if L n = true then (match hit n with | some x => some x | none => last L hit s n) else last L hit s n
theorem last_succ {β : Type} (L : Nat → Bool) (hit : Nat → Option β) (s : Option β) (n : Nat) : last L hit s (n + 1) = if L n = true then (match hit n with | some x => some x | none => last L hit s n) else last L hit s n := rfl
theorem last_agree {β : Type} {L L' : Nat → Bool} {hit : Nat → Option β} {s : Option β} : ∀ n, (∀ j, j < n → hit j ≠ none → L j = L' j) → last L hit s n = last L' hit s n
  | 0, _ => rfl
  | n + 1, h => by
    unfold last
    have ih := last_agree n (fun j hj => h j (by omega)) (s := s)
    cases e : hit n with
    | none => simp [ih]
    | some x =>
      rw [h n (by omega) (by rw [e]; simp), ih]
theorem last_none {β : Type} {L : Nat → Bool} {hit : Nat → Option β} {s : Option β} (i : Nat) : ∀ n, (∀ j, i ≤ j → j < n → L j = true → hit j = none) → i ≤ n → last L hit s n = last L hit s i
  | 0, _, hi => by have : i = 0 := by omega
                   rw [this]
  | n + 1, h, hi => by
    by_cases e : i = n + 1
    · rw [e]
    · have ih := last_none i n (fun j h1 h2 => h j h1 (by omega)) (by omega) (s := s)
      rw [last_succ]
      by_cases hL : L n = true
      · rw [if_pos hL, h n (by omega) (by omega) hL]; exact ih
      · rw [if_neg hL]; exact ih
/-- The first i of all: no matter how one counts. -/
theorem last_full {β : Type} {hit : Nat → Option β} {s : Option β} (i : Nat) : ∀ n, i ≤ n → last (fun j => decide (j < i)) hit s n = last (fun _ => true) hit s i := fun n hn => by
  rw [last_none i n (fun j h1 _ h3 => by simp at h3; omega) hn]
  exact last_agree i (fun j hj _ => by simp [hj])
theorem last_add {β : Type} {L L' : Nat → Bool} {hit : Nat → Option β} {s : Option β} {i : Nat} (hi : L' i = true) (hL : L i = false) (hne : ∀ j, j ≠ i → L' j = L j) : ∀ n, i < n →
    (hit i ≠ none → ∀ j, i < j → j < n → L j = true → hit j = none) → last L' hit s n = (match hit i with | some x => some x | none => last L hit s n)
  | 0, h, _ => by omega
  | n + 1, h, hc => by
    by_cases e : n = i
    · subst e
      have : last L' hit s n = last L hit s n := last_agree n (fun j hj _ => hne j (by omega))
      unfold last
      rw [if_pos hi, hL, this]
      simp
    · have ih := last_add hi hL hne n (by omega) (fun h1 j h2 h3 => hc h1 j h2 (by omega)) (s := s)
      unfold last
      rw [hne n e, ih]
      cases hh : hit i with
      | none => rfl
      | some x =>
        simp only
        by_cases hLn : L n = true
        · rw [if_pos hLn, hc (by rw [hh]; simp) n (by omega) (by omega) hLn]
        · rw [if_neg hLn]
def anyL (L : Nat → Bool) (p : Nat → Bool) (s : Bool) : Nat → Bool
  | 0 => s
  | n + 1 => (L n && p n) || anyL L p s n
theorem anyL_succ (L p : Nat → Bool) (s : Bool) (n : Nat) : anyL L p s (n + 1) = ((L n && p n) || anyL L p s n) := rfl
theorem anyL_agree {L L' p : Nat → Bool} {s : Bool} : ∀ n, (∀ j, j < n → p j = true → L j = L' j) → anyL L p s n = anyL L' p s n
  | 0, _ => rfl
  | n + 1, h => by
    unfold anyL
    rw [anyL_agree n (fun j hj => h j (by omega))]
    cases e : p n with
    | false => simp
    | true => rw [h n (by omega) e]
theorem anyL_none {L p : Nat → Bool} {s : Bool} (i : Nat) : ∀ n, (∀ j, i ≤ j → j < n → L j = false) → i ≤ n → anyL L p s n = anyL L p s i
  | 0, _, hi => by have : i = 0 := by omega
                   rw [this]
  | n + 1, h, hi => by
    by_cases e : i = n + 1
    · rw [e]
    · rw [anyL_succ, h n (by omega) (by omega), anyL_none i n (fun j h1 h2 => h j h1 (by omega)) (by omega)]
      simp
theorem anyL_full {p : Nat → Bool} {s : Bool} (i : Nat) : ∀ n, i ≤ n → anyL (fun j => decide (j < i)) p s n = anyL (fun _ => true) p s i := fun n hn => by
  rw [anyL_none i n (fun j h1 _ => by simp; omega) hn]
  exact anyL_agree i (fun j hj _ => by simp [hj])
theorem anyL_add {L L' p : Nat → Bool} {s : Bool} {i : Nat} (hi : L' i = true) (hL : L i = false) (hne : ∀ j, j ≠ i → L' j = L j) : ∀ n, i < n → anyL L' p s n = (p i || anyL L p s n)
  | 0, h => by omega
  | n + 1, h => by
    by_cases e : n = i
    · subst e
      have : anyL L' p s n = anyL L p s n := anyL_agree n (fun j hj _ => hne j (by omega))
      unfold anyL
      rw [hi, hL, this]; simp
    · unfold anyL
      rw [hne n e, anyL_add hi hL hne n (by omega)]
      cases L n && p n <;> cases p i <;> simp

/-! ### what an operation yields hangs on what it looks at -/
theorem stepV_congr {T : TT} {L : Seal} {f f' : Nat → Option AV} {g g' : Nat → Option Ob} {c c' : Nat → Bool} {kn kn' : List (Nat × Bool)} {o : Oper} (hv : lmap (evf f kn) (opnds o.op) = lmap (evf f' kn') (opnds o.op))
    (hg : ∀ id, id ∈ idsVs (lmap (evf f' kn') (opnds o.op)) → g id = g' id) (hn : creates o.op = true → ∀ d, o.dst = some d → g d = g' d)
    (hc : writes1 o.op = true → ∀ id, id ∈ heads (lmap (evf f' kn') (opnds o.op)) → c id = c' id) : stepV T L f g c kn o = stepV T L f' g' c' kn' o := by
  unfold stepV
  rw [hv]
  have e1 : look g (idsVs (lmap (evf f' kn') (opnds o.op))) = look g' (idsVs (lmap (evf f' kn') (opnds o.op))) := by
    funext id
    unfold look
    split
    · rename_i h; exact hg id (lhas_mem.1 h)
    · rfl
  have e2 : iceOf c o.op (lmap (evf f' kn') (opnds o.op)) = iceOf c' o.op (lmap (evf f' kn') (opnds o.op)) := by
    funext id
    unfold iceOf
    split
    · rename_i h
      split
      · rename_i h2; exact hc h id (lhas_mem.1 h2)
      · rfl
    · rfl
  have e3 : newOf g o.op o.dst = newOf g' o.op o.dst := by
    unfold newOf
    split
    · rename_i h
      split
      · rename_i d hd; rw [hn h d hd]
      · rfl
    · rfl
  rw [e1, e2, e3]

def KnOk (f : Nat → Option AV) (kn : List (Nat × Bool)) : Prop := ∀ t b, aget kn t = some b → f t = some (.bool b)
theorem evf_kn {f : Nat → Option AV} {kn : List (Nat × Bool)} (h : KnOk f kn) (x : Operand) : evf f kn x = evf f [] x := by
  unfold evf
  cases x with
  | tmp t =>
    simp only [aget]
    cases e : aget kn t with
    | none => rfl
    | some b => simp [h t b e]
  | _ => rfl
theorem lmap_congr {α β : Type} {k k' : α → β} : ∀ {l : List α}, (∀ x ∈ l, k x = k' x) → lmap k l = lmap k' l
  | [], _ => rfl
  | x :: l, h => by simp [lmap, h x (by simp), lmap_congr (l := l) (fun y hy => h y (by simp [hy]))]

inductive Holds (P : Program) : Act1 → AV → List (Nat × Ob) → List Nat → Prop
  | ok (v : AV) (os : List (Nat × Ob)) (ice : List Nat) : Holds P (.ok v os ice) v os ice
  | okIf (b : Bool) (v : AV) (os : List (Nat × Ob)) (ice : List Nat) (h : b = true) : Holds P (.okIf b v os ice) v os ice
  | okP (p : Prop) (v : AV) (os : List (Nat × Ob)) (ice : List Nat) (h : p) : Holds P (.okP p v os ice) v os ice
  | call (k : FuncId) (xs : List AV) (ice : List Nat) (r : AV) (h : ACalls P k xs r) : Holds P (.call k xs ice) r [] ice
theorem adv_of {P : Program} {base : Nat} {M : Two} {W : World} {nt : Nat} {f : Nat → Option AV} {g : Nat → Option Ob} {c : Nat → Bool} {o : Oper} {a : Act} {w : World} {x : Act1} {v : AV} {os : List (Nat × Ob)} {ice : List Nat}
    (h : Holds P x v os ice) (s : Says P base M W nt f g c o a w x) : Adv P base M W nt f g c o a w v os ice := by
  cases h with
  | ok => exact s
  | okIf _ _ _ _ h => exact s h
  | okP _ _ _ _ h => exact s h
  | call _ _ _ _ h => exact s _ h

/-! ### the trees -/
inductive Sat (P : Program) (Q : AV → Prop) : Tree → Prop
  | need {b : Bool} {k : Tree} (h : b = true) (hk : Sat P Q k) : Sat P Q (.need b k)
  | must {p : Prop} {k : Tree} (h : p) (hk : Sat P Q k) : Sat P Q (.must p k)
  | ite {b : Bool} {t e : Tree} (ht : b = true → Sat P Q t) (he : b = false → Sat P Q e) : Sat P Q (.ite b t e)
  | done {r : AV} (h : Q r) : Sat P Q (.done r)
  | yes : Sat P Q .yes
  | call {f : FuncId} {xs : List AV} {k : AV → Tree} {r : AV} (h : ACalls P f xs r) (hk : Sat P Q (k r)) : Sat P Q (.call f xs k)
  | ex {X : Type} {f : X → Tree} (x : X) (h : Sat P Q (f x)) : Sat P Q (.ex X f)
  | all {X : Type} {f : X → Tree} (h : ∀ x, Sat P Q (f x)) : Sat P Q (.all X f)
  | sup {p : Prop} {k : Tree} (h : p → Sat P Q k) : Sat P Q (.sup p k)
  | and {a b : Tree} (h1 : Sat P Q a) (h2 : Sat P Q b) : Sat P Q (.and a b)

structure SumsOk (P : Program) (S : Sums) : Prop where
  fz : ∀ f xs p r, S.fz f xs = some (p, r) → p → ACalls P f xs r
  mt : ∀ f m, S.mt f = some m → ∀ raw ob T, m raw ob = some T → T.p → MCalls P f T.xs T.O T.r T.O1

theorem sat_mustL {P : Program} {Q : AV → Prop} {next : Tree} : ∀ {ps : List Prop}, Sat P Q (mustL ps next) → (∀ p, p ∈ ps → p) ∧ Sat P Q next
  | [], h => ⟨fun p hp => by simp at hp, h⟩
  | p :: r, h => by
    cases h with
    | must h hk =>
      obtain ⟨h1, h2⟩ := sat_mustL hk
      exact ⟨fun q hq => by rcases List.mem_cons.1 hq with rfl | hq; exact h; exact h1 q hq, h2⟩
/-! ### what is learnt -/
theorem learn_ok {P : Program} {T : TT} {f : Nat → Option AV} {g : Nat → Option Ob} {c : Nat → Bool} {kn : List (Nat × Bool)} {o : Oper} {b : Bool} (h : learn kn o.op = some b) {v : AV} {os : List (Nat × Ob)} {ice : List Nat}
    (hh : Holds P (stepV T std f g c kn o) v os ice) : v = .bool b := by
  have lit : ∀ x b, litOf kn x = some b → evf f kn x = .bool b := by
    intro x b hx
    unfold litOf at hx
    split at hx
    · cases hx; rfl
    · rename_i t
      simp [evf, hx]
    · cases hx
  unfold learn at h
  unfold stepV core at hh
  split at h
  · rename_i x e
    rw [e] at hh
    simp only [opnds, lmap, cMove, lit x b h] at hh
    cases hh; rfl
  · rename_i x e
    rw [e] at hh
    simp only [opnds, lmap, cMove, lit x b h] at hh
    cases hh; rfl
  · rename_i x y z e
    rw [e] at hh
    simp only [opnds, lmap] at hh
    split at h
    · rename_i hc
      rw [lit x _ hc, lit y b h] at hh
      simp only [cPick] at hh
      cases hh; rfl
    · rename_i hc
      rw [lit x _ hc, lit z b h] at hh
      simp only [cPick] at hh
      cases hh; rfl
    · cases h
  · cases h
theorem aget_kdel {kn : List (Nat × Bool)} {d t : Nat} : aget (kdel kn d) t = if t = d then none else aget kn t := by
  induction kn with
  | nil => simp [kdel, aget]
  | cons x kn ih =>
    obtain ⟨u, b⟩ := x
    unfold kdel
    cases e : nbeq u d with
    | true =>
      simp only [ih]
      have := beq_eq e; subst this
      by_cases ht : t = u
      · simp [ht]
      · have : nbeq u t = false := beq_no fun h => ht h.symm
        simp [ht, aget, this]
    | false =>
      simp only [aget]
      cases e' : nbeq u t with
      | true =>
        have := beq_eq e'; subst this
        have : u ≠ d := by rintro rfl; rw [beq_same] at e; cases e
        simp [this]
      | false => simpa using ih
theorem aget_put (s : St) (dst : Option Nat) (v : AV) : aget (s.put dst v) = fput (aget s.slots) dst v := by
  funext t
  unfold St.put fput
  cases dst with
  | none => rfl
  | some d =>
    simp only [aget]
    by_cases e : t = d
    · subst e; simp [beq_same]
    · have : nbeq d t = false := beq_no fun h => e h.symm
      simp [this, e]
theorem aget_app {α : Type} (os l : List (Nat × α)) (id : Nat) : aget (lapp os l) id = match aget os id with | some o => some o | none => aget l id := aget_app' os l id
theorem aget_gput (os l : List (Nat × Ob)) : aget (lapp os l) = gput (aget l) os := by
  funext id; rw [aget_app]; unfold gput; cases aget os id <;> rfl
theorem lhas_app (os l : List Nat) : ∀ id, lhas (lapp os l) id = (lhas os id || lhas l id) := by
  intro id
  induction os with
  | nil => simp [lapp, lhas]
  | cons x os ih =>
    simp only [lapp, lhas]
    cases nbeq x id <;> simp [ih]
theorem lhas_cput (os l : List Nat) : lhas (lapp os l) = cput (lhas l) os := by
  funext id; rw [lhas_app]; rfl
theorem knOk_put {f : Nat → Option AV} {kn : List (Nat × Bool)} (h : KnOk f kn) {dst : Option Nat} {v : AV} {x : Option Bool} (hx : ∀ b, x = some b → v = .bool b) : KnOk (fput f dst v) (kput kn dst x) := by
  intro t b ht
  unfold kput at ht
  cases dst with
  | none => exact h t b ht
  | some d =>
    simp only [fput]
    cases x with
    | none =>
      simp only at ht
      rw [aget_kdel] at ht
      split at ht
      · cases ht
      · rename_i e; rw [if_neg e]; exact h t b ht
    | some y =>
      simp only [aget] at ht
      cases e : nbeq d t with
      | true =>
        rw [e] at ht
        have := beq_eq e; subst this
        cases ht
        rw [if_pos rfl, hx _ rfl]
      | false =>
        rw [e] at ht
        simp only at ht
        rw [aget_kdel] at ht
        split at ht
        · cases ht
        · rename_i e; rw [if_neg e]; exact h t b ht
theorem knOk_know {f : Nat → Option AV} {kn : List (Nat × Bool)} (h : KnOk f kn) {t : Nat} {b : Bool} (hx : f t = some (.bool b)) : KnOk f ((t, b) :: kn) := by
  intro u y hu
  simp only [aget] at hu
  cases e : nbeq t u with
  | true =>
    rw [e] at hu
    have := beq_eq e; subst this
    cases hu; exact hx
  | false => rw [e] at hu; exact h u y hu

/-- A state and what it says. -/
def SimS (base : Nat) (M : Two) (W : World) (nt : Nat) (s : St) (a : Act) (w : World) : Prop :=
  SimE base M W nt (aget s.slots) (aget s.objs) (lhas s.ice) a w ∧ KnOk (aget s.slots) s.kn

/-! ### the way through a region -/
structure Ev where
  want : Bool
  v : AV
  os : List (Nat × Ob)
  ice : List Nat
  ent : Ent
def nothing : Ev := ⟨false, .tup [], [], [], ⟨[], []⟩⟩

def HoldsA (P : Program) (T : TT) (f : Nat → Option AV) (g : Nat → Option Ob) (c : Nat → Bool) (o : Oper) (e : Ev) : Prop :=
  Holds P (stepV T std f g c [] o) e.v e.os e.ice ∨ (HoldsM P f g c o e.v e.os ∧ e.ice = [])
/-- Operation o, as it was told in the state f, g, c. -/
structure EvOk (P : Program) (T : TT) (ops : List Oper) (f : Nat → Option AV) (g : Nat → Option Ob) (c : Nat → Bool) (o : Oper) (e : Ev) : Prop where
  guard : match guardOf ops o with
    | none => e.want = true
    | some (some t, w) => (∃ b, f t = some (.bool b) ∧ e.want = (b == w)) ∨ (f t = some (.tup []) ∧ e.want = false)
    | some (none, _) => False
  no : e.want = false → e.v = .tup [] ∧ e.os = [] ∧ e.ice = [] ∧ e.ent = ⟨[], []⟩
  yes : e.want = true → HoldsA P T f g c o e
def EntOk (f : Nat → Option AV) (o : Oper) (e : Ev) : Prop := e.want = true →
  (∀ id, id ∈ idsVs (lmap (evf f []) (opnds o.op)) → id ∈ e.ent.ids) ∧ (creates o.op = true → ∀ d, o.dst = some d → d ∈ e.ent.ids) ∧ (∀ id, id ∈ e.ice → id ∈ e.ent.ids) ∧
  (∀ id, id ∈ keys e.os → id ∈ e.ent.wr) ∧ (writes1 o.op = true → ∀ id, id ∈ heads (lmap (evf f []) (opnds o.op)) → id ∈ e.ent.wr)
def OrdOk (ops : List Oper) (o : Oper) (e : Ev) (acc : List (Nat × Ent)) : Prop := e.want = true → orderly ops o.after.toList e.ent acc = true
def note2 (acc : List (Nat × Ent)) (i : Nat) (e : Ev) : List (Nat × Ent) := if e.want = true then noteOf acc i e.ent else acc

def Walk (P : Program) (T : TT) (draw : Bool) (ops : List Oper) : List Oper → Nat → (Nat → Option AV) → (Nat → Option Ob) → (Nat → Bool) → List (Nat × Ent) → List Ev → (Nat → Option AV) → (Nat → Option Ob) → (Nat → Bool) → Prop
  | [], _, f, g, c, _, [], f', g', c' => f' = f ∧ g' = g ∧ c' = c
  | o :: r, i, f, g, c, acc, e :: es, f', g', c' => EvOk P T ops f g c o e ∧ (draw = true → EntOk f o e ∧ OrdOk ops o e acc) ∧
      Walk P T draw ops r (i + 1) (fput f o.dst e.v) (gput g e.os) (cput c e.ice) (if draw = true then note2 acc i e else acc) es f' g' c'
  | _, _, _, _, _, _, _, _, _, _ => False

section
variable {P : Program} {T : TT} {S : Sums} {Q : AV → Prop} {draw : Bool} {ops : List Oper}

theorem step_kn {f : Nat → Option AV} {g : Nat → Option Ob} {c : Nat → Bool} {kn : List (Nat × Bool)} (h : KnOk f kn) (L : Seal) (o : Oper) : stepV T L f g c kn o = stepV T L f g c [] o :=
  stepV_congr (lmap_congr fun x _ => evf_kn h x) (fun _ _ => rfl) (fun _ _ _ => rfl) (fun _ _ _ => rfl)

/-- One operation that is carried out. -/
theorem exec1_path (hS : SumsOk P S) {o : Oper} {i : Nat} {s : St} {acc : List (Nat × Ent)} {next : St → List (Nat × Ent) → Tree} (hk : KnOk (aget s.slots) s.kn)
    (h : Sat P Q (exec1 T std S draw ops o i s acc next)) : ∃ e : Ev, e.want = true ∧ HoldsA P T (aget s.slots) (aget s.objs) (lhas s.ice) o e ∧ (draw = true → EntOk (aget s.slots) o e ∧ OrdOk ops o e acc) ∧
      ∃ s', aget s'.slots = fput (aget s.slots) o.dst e.v ∧ aget s'.objs = gput (aget s.objs) e.os ∧ lhas s'.ice = cput (lhas s.ice) e.ice ∧ KnOk (aget s'.slots) s'.kn ∧ Sat P Q (next s' (if draw = true then note2 acc i e else acc)) := by
  have hval : lmap (evf (aget s.slots) s.kn) (opnds o.op) = lmap (evf (aget s.slots) []) (opnds o.op) := lmap_congr fun x _ => evf_kn hk x
  have key : ∀ v os ice, (∀ ent, HoldsA P T (aget s.slots) (aget s.objs) (lhas s.ice) o ⟨true, v, os, ice, ent⟩) → (∀ b, learn s.kn o.op = some b → v = .bool b) →
      Sat P Q (after1 draw ops o i s acc (idsOf draw s o) (wrOf draw s o) v os ice next) → ∃ e : Ev, e.want = true ∧ HoldsA P T (aget s.slots) (aget s.objs) (lhas s.ice) o e ∧ (draw = true → EntOk (aget s.slots) o e ∧ OrdOk ops o e acc) ∧
      ∃ s', aget s'.slots = fput (aget s.slots) o.dst e.v ∧ aget s'.objs = gput (aget s.objs) e.os ∧ lhas s'.ice = cput (lhas s.ice) e.ice ∧ KnOk (aget s'.slots) s'.kn ∧ Sat P Q (next s' (if draw = true then note2 acc i e else acc)) := by
    intro v os ice hh hl h
    refine ⟨⟨true, v, os, ice, ⟨lapp ice (idsOf draw s o), lapp (wrOf draw s o) (keys os)⟩⟩, rfl, hh _, fun hd => ?_, s.eff o.dst v os ice (learn s.kn o.op), aget_put .., aget_gput .., lhas_cput .., ?_, ?_⟩
    · subst hd
      refine ⟨fun _ => ⟨fun id hid => ?_, fun hc d hd => ?_, fun id hid => ?_, fun id hid => ?_, fun hw id hid => ?_⟩, fun _ => ?_⟩
      · simp only [lapp_eq, List.mem_append, idsOf]; rw [hval]; exact .inr (.inr hid)
      · simp [lapp_eq, idsOf, hc, hd]
      · simp only [lapp_eq, List.mem_append]; exact .inl hid
      · simp only [lapp_eq, List.mem_append]; exact .inr hid
      · simp only [lapp_eq, List.mem_append, wrOf, hw]; rw [hval]; exact .inl hid
      · simp only [after1] at h
        split at h
        · rename_i e; exact e
        · cases h
    · show KnOk (aget (s.put o.dst v)) (kput s.kn o.dst (learn s.kn o.op))
      rw [aget_put]
      exact knOk_put hk hl
    · unfold after1 at h
      cases draw with
      | false => exact h
      | true =>
        simp only at h
        split at h
        · exact h
        · cases h
  have key1 : ∀ v os ice, Holds P (stepV T std (aget s.slots) (aget s.objs) (lhas s.ice) s.kn o) v os ice → (∀ ent, HoldsA P T (aget s.slots) (aget s.objs) (lhas s.ice) o ⟨true, v, os, ice, ent⟩) ∧ ∀ b, learn s.kn o.op = some b → v = .bool b := by
    intro v os ice hh
    have hh' := hh
    rw [step_kn hk] at hh'
    exact ⟨fun _ => .inl hh', fun b hb => learn_ok hb hh⟩
  unfold exec1 at h
  split at h
  · rename_i m raw hsel
    obtain ⟨f, first, caps, zs, c1, c2, hm, rfl⟩ : ∃ f first caps zs, isCallV o.op = true ∧ lmap (evf (aget s.slots) s.kn) (opnds o.op) = .fn f first caps :: zs ∧ S.mt f = some m ∧ raw = lapp first (lapp zs caps) := by
      split at hsel
      · rename_i c1
        split at hsel
        · rename_i f first caps zs c2
          split at hsel
          · rename_i m' hm; cases hsel; exact ⟨f, first, caps, zs, c1, c2, hm, rfl⟩
          · cases hsel
        · cases hsel
      · cases hsel
    obtain ⟨fo, ys, ts, e1⟩ : ∃ fo ys ts, o.op = .call { callee := .value fo, args := ys, argTypes := ts } := by
      unfold isCallV at c1
      split at c1
      · rename_i fo ys ts e1; exact ⟨_, _, _, e1⟩
      · cases c1
    unfold execM at h
    split at h
    · rename_i T' hT'
      split at h
      · rename_i mt hmt
        split at h
        · rename_i hfr
          obtain ⟨hps, h⟩ := sat_mustL h
          cases h with
          | must hp h =>
            refine key _ _ [] (fun ent => .inr ⟨⟨fo, ys, ts, f, first, caps, zs, mt.ids, _, T', e1, by rw [← hval]; exact c2, hS.mt f m hm _ _ T' hT' hp, meetM_ok hmt hfr hps, rfl, rfl⟩, rfl⟩) (fun b hb => ?_) h
            rw [e1] at hb; cases hb
        · cases h
      · cases h
    · cases h
  unfold exec2 at h
  split at h
  · rename_i v os ice e; obtain ⟨k1, k2⟩ := key1 v os ice (by rw [e]; exact .ok ..); exact key v os ice k1 k2 h
  · rename_i b v os ice e; cases h with | need h hk => obtain ⟨k1, k2⟩ := key1 v os ice (by rw [e]; exact .okIf _ _ _ _ h); exact key v os ice k1 k2 hk
  · rename_i b v os ice e; cases h with | must h hk => obtain ⟨k1, k2⟩ := key1 v os ice (by rw [e]; exact .okP _ _ _ _ h); exact key v os ice k1 k2 hk
  · rename_i f xs ice e
    split at h
    · rename_i p r hs
      cases h with | must h hk => obtain ⟨k1, k2⟩ := key1 r [] ice (by rw [e]; exact .call _ _ _ _ (hS.fz f _ p r hs h)); exact key r [] ice k1 k2 hk
    · rename_i hs
      cases h with | call h hk => obtain ⟨k1, k2⟩ := key1 _ [] ice (by rw [e]; exact .call _ _ _ _ h); exact key _ [] ice k1 k2 hk
  · cases h

theorem walk_path (hS : SumsOk P S) {k : St → Tree} : ∀ (r : List Oper) (i : Nat) (s : St) (acc : List (Nat × Ent)), KnOk (aget s.slots) s.kn → Sat P Q (runOps T std S draw ops r i s acc k) →
    ∃ es s', Walk P T draw ops r i (aget s.slots) (aget s.objs) (lhas s.ice) acc es (aget s'.slots) (aget s'.objs) (lhas s'.ice) ∧ KnOk (aget s'.slots) s'.kn ∧ Sat P Q (k s')
  | [], i, s, acc, hk, h => ⟨[], s, ⟨rfl, rfl, rfl⟩, hk, h⟩
  | o :: r, i, s, acc, hk, h => by
    have yes : ∀ s1 : St, s1.slots = s.slots → s1.objs = s.objs → s1.ice = s.ice → KnOk (aget s1.slots) s1.kn →
        (match guardOf ops o with
          | none => true = true
          | some (some t, w) => (∃ b, aget s.slots t = some (.bool b) ∧ true = (b == w)) ∨ (aget s.slots t = some (.tup []) ∧ true = false)
          | some (none, _) => False) → Sat P Q (exec1 T std S draw ops o i s1 acc (fun s acc => runOps T std S draw ops r (i + 1) s acc k)) →
        ∃ es s', Walk P T draw ops (o :: r) i (aget s.slots) (aget s.objs) (lhas s.ice) acc es (aget s'.slots) (aget s'.objs) (lhas s'.ice) ∧ KnOk (aget s'.slots) s'.kn ∧ Sat P Q (k s') := by
      intro s1 e1 e2 e3 hk1 hg h
      obtain ⟨e, hw, hh, he, s2, h1, h2, h3, h4, h5⟩ := exec1_path hS hk1 h
      obtain ⟨es, s', hW, hk', h'⟩ := walk_path hS r (i + 1) s2 _ h4 h5
      rw [h1, h2, h3, e1, e2, e3] at hW
      rw [e1, e2, e3] at hh
      rw [e1] at he
      refine ⟨e :: es, s', ⟨⟨?_, fun h => (by rw [hw] at h; cases h), fun _ => hh⟩, he, hW⟩, hk', h'⟩
      rw [hw]; exact hg
    have no : ∀ s1 : St, s1.slots = s.slots → s1.objs = s.objs → s1.ice = s.ice → KnOk (aget s1.slots) s1.kn →
        (match guardOf ops o with
          | none => false = true
          | some (some t, w) => (∃ b, aget s.slots t = some (.bool b) ∧ false = (b == w)) ∨ (aget s.slots t = some (.tup []) ∧ false = false)
          | some (none, _) => False) → Sat P Q (runOps T std S draw ops r (i + 1) (s1.eff o.dst (.tup []) [] [] none) acc k) →
        ∃ es s', Walk P T draw ops (o :: r) i (aget s.slots) (aget s.objs) (lhas s.ice) acc es (aget s'.slots) (aget s'.objs) (lhas s'.ice) ∧ KnOk (aget s'.slots) s'.kn ∧ Sat P Q (k s') := by
      intro s1 e1 e2 e3 hk1 hg h
      have h4 : KnOk (aget (s1.eff o.dst (.tup []) [] [] none).slots) (s1.eff o.dst (.tup []) [] [] none).kn := by
        show KnOk (aget (s1.put o.dst (.tup []))) (kput s1.kn o.dst none)
        rw [aget_put]
        exact knOk_put hk1 fun b hb => by cases hb
      obtain ⟨es, s', hW, hk', h'⟩ := walk_path hS r (i + 1) _ _ h4 h
      have q1 : aget (s1.eff o.dst (.tup []) [] [] none).slots = fput (aget s.slots) o.dst (.tup []) := by rw [← e1]; exact aget_put ..
      have q2 : aget (s1.eff o.dst (.tup []) [] [] none).objs = gput (aget s.objs) [] := by rw [← e2]; exact aget_gput ..
      have q3 : lhas (s1.eff o.dst (.tup []) [] [] none).ice = cput (lhas s.ice) [] := by rw [← e3]; exact lhas_cput ..
      rw [q1, q2, q3] at hW
      refine ⟨nothing :: es, s', ⟨⟨hg, fun _ => ⟨rfl, rfl, rfl, rfl⟩, fun h => by cases h⟩, fun _ => ⟨fun h => by simp [nothing] at h, fun h => by simp [nothing] at h⟩, ?_⟩, hk', h'⟩
      simpa [note2, nothing] using hW
    unfold runOps at h
    split at h
    · rename_i e; exact yes s rfl rfl rfl hk (by rw [e]) h
    · cases h
    · rename_i t w e
      rw [e] at yes no
      split at h
      · rename_i b hb
        have hf := hk t b hb
        split at h
        · exact yes s rfl rfl rfl hk (.inl ⟨true, hf, rfl⟩) h
        · exact yes s rfl rfl rfl hk (.inl ⟨false, hf, rfl⟩) h
        · rename_i h1 h2
          refine no s rfl rfl rfl hk (.inl ⟨b, hf, ?_⟩) h
          cases b <;> cases w <;> simp_all
      · split at h
        · rename_i hb
          exact no s rfl rfl rfl hk (.inr ⟨hb, rfl⟩) h
        · rename_i b hb
          split at h
          · cases h with | ite h1 h2 =>
            cases b with
            | true => exact yes (s.know t true) rfl rfl rfl (knOk_know hk hb) (.inl ⟨true, hb, rfl⟩) (h1 rfl)
            | false => exact no (s.know t false) rfl rfl rfl (knOk_know hk hb) (.inl ⟨false, hb, rfl⟩) (h2 rfl)
          · cases h with | ite h1 h2 =>
            cases b with
            | true => exact no (s.know t true) rfl rfl rfl (knOk_know hk hb) (.inl ⟨true, hb, rfl⟩) (h1 rfl)
            | false => exact yes (s.know t false) rfl rfl rfl (knOk_know hk hb) (.inl ⟨false, hb, rfl⟩) (h2 rfl)
        · cases h
end
end Sy
end Go.Proofs.YtckbbcjbbmgmoaaDoor
