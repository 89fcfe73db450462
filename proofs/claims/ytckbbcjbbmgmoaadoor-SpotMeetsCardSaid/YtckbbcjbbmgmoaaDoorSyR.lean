/- The symbolic executor: sequences, branches, loops, scopes. -/
import Derived.Test.YtckbbcjbbmgmoaaDoorSyQ
import Derived.Deep.LoopGhost
namespace Go.Proofs.YtckbbcjbbmgmoaaDoor
namespace Sy
open Go Go.RowKit
set_option linter.unusedSimpArgs false
set_option linter.unusedVariables false
set_option linter.unusedSectionVars false

def toExit : Ex → Exit
  | .normal => .normal
  | .exit id => .exit id
  | .goto l => .goto l
  | .ret => .ret
/-- A code's steps in a row. -/
def flatC : Code → List Code
  | .seq a b => flatC a ++ flatC b
  | .skip => []
  | .label _ => []
  | c => [c]
def WPl (P : Program) : List Code → (Exit → Act → World → Prop) → Act → World → Prop
  | [], Q, a, w => Q .normal a w
  | c :: cs, Q, a, w => c.wp P (Exit.then (WPl P cs Q) Q) a w
theorem then_nil {P : Program} {Q : Exit → Act → World → Prop} : Exit.then (WPl P [] Q) Q = Q := by
  funext e a w; cases e <;> rfl
theorem wpl_app {P : Program} {ys : List Code} {Q : Exit → Act → World → Prop} : ∀ {xs : List Code}, WPl P (xs ++ ys) Q = WPl P xs (Exit.then (WPl P ys Q) Q)
  | [] => rfl
  | c :: xs => by
    funext a w
    show c.wp P (Exit.then (WPl P (xs ++ ys) Q) Q) a w = c.wp P (Exit.then (WPl P xs (Exit.then (WPl P ys Q) Q)) (Exit.then (WPl P ys Q) Q)) a w
    rw [wpl_app (xs := xs)]
    congr 1
    funext e a w
    cases e <;> rfl
theorem wp_of_one {P : Program} {c : Code} {Q : Exit → Act → World → Prop} {a : Act} {w : World} (h : WPl P [c] Q a w) : c.wp P Q a w := by
  have : c.wp P (Exit.then (WPl P [] Q) Q) a w := h
  rwa [then_nil] at this
theorem wp_of_wpl {P : Program} : ∀ {c : Code} {Q : Exit → Act → World → Prop} {a : Act} {w : World}, WPl P (flatC c) Q a w → c.wp P Q a w := by
  intro c
  induction c with
  | seq x y ih1 ih2 =>
    intro Q a w h
    unfold flatC at h
    rw [wpl_app] at h
    refine wp_seq (wp_mono (ih1 h) fun e a w hq => ?_)
    cases e with
    | normal => exact ih2 hq
    | _ => exact hq
  | skip => intro Q a w h; exact wp_skip h
  | label l => intro Q a w h; exact wp_label h
  | _ => intro Q a w h; exact wp_of_one h

def nodupL : List Nat → Bool
  | [] => true
  | x :: xs => !lhas xs x && nodupL xs
def codeOk (nt : Nat) : Code → Bool
  | .region _ ops d => regOk nt d ops.toList
  | .seq a b => codeOk nt a && codeOk nt b
  | .cond _ a b => codeOk nt a && codeOk nt b
  | .block _ b => codeOk nt b
  | .loop b => codeOk nt b
  | .scope b => nodupL (labelsOf b) && codeOk nt b
  | _ => true
theorem find_lab : ∀ {c : Code} {l : Nat} {r : Code}, findLabel c l = some r → l ∈ labelsOf c := by
  intro c
  induction c with
  | seq a b ih1 ih2 =>
    intro l r h
    unfold findLabel at h
    simp only [labelsOf, lapp_eq, List.mem_append]
    cases e : findLabel a l with
    | some x => exact .inl (ih1 e)
    | none => rw [e] at h; exact .inr (ih2 h)
  | label l' =>
    intro l r h
    unfold findLabel at h
    split at h
    · rename_i e; simp [labelsOf, beq_iff_eq.1 e]
    · cases h
  | _ => intro l r h; simp [findLabel] at h
theorem find_ok {nt : Nat} : ∀ {c : Code} {l : Nat} {r : Code}, findLabel c l = some r → codeOk nt c = true → codeOk nt r = true := by
  intro c
  induction c with
  | seq a b ih1 ih2 =>
    intro l r h hc
    unfold codeOk at hc
    rw [Bool.and_eq_true] at hc
    unfold findLabel at h
    cases e : findLabel a l with
    | some x =>
      rw [e] at h
      cases h
      unfold codeOk
      rw [Bool.and_eq_true]
      exact ⟨ih1 e hc.1, hc.2⟩
    | none => rw [e] at h; exact ih2 h hc.2
  | label l' =>
    intro l r h _
    unfold findLabel at h
    split at h
    · cases h; rfl
    · cases h
  | _ => intro l r h; simp [findLabel] at h
theorem nodup_app {xs ys : List Nat} (h : nodupL (xs ++ ys) = true) : nodupL xs = true ∧ nodupL ys = true ∧ ∀ l, l ∈ xs → l ∉ ys := by
  induction xs with
  | nil => exact ⟨rfl, h, fun l hl => by cases hl⟩
  | cons x xs ih =>
    simp only [List.cons_append, nodupL, Bool.and_eq_true, Bool.not_eq_true'] at h ⊢
    obtain ⟨h1, h2⟩ := h
    obtain ⟨i1, i2, i3⟩ := ih h2
    have hx : x ∉ xs ++ ys := fun hm => by rw [lhas_mem.2 hm] at h1; cases h1
    simp only [List.mem_append, not_or] at hx
    refine ⟨⟨?_, i1⟩, i2, fun l hl => ?_⟩
    · cases e : lhas xs x with
      | false => rfl
      | true => exact absurd (lhas_mem.1 e) hx.1
    · rcases List.mem_cons.1 hl with rfl | hl
      · exact hx.2
      · exact i3 l hl
/-- Behind a label the labels lead where they lead in the whole. -/
theorem find_find : ∀ {c : Code} {l0 l : Nat} {r c' : Code}, nodupL (labelsOf c) = true → findLabel c l0 = some r → findLabel r l = some c' → ∃ c'', findLabel c l = some c'' ∧ flatC c'' = flatC c' := by
  intro c
  induction c with
  | seq a b ih1 ih2 =>
    intro l0 l r c' hn h h'
    simp only [labelsOf, lapp_eq] at hn
    obtain ⟨n1, n2, n3⟩ := nodup_app hn
    have none_of : ∀ {x}, findLabel b l = some x → findLabel a l = none := by
      intro x hx
      cases e : findLabel a l with
      | none => rfl
      | some y => exact absurd (find_lab hx) (n3 l (find_lab e))
    unfold findLabel at h
    cases e : findLabel a l0 with
    | some x =>
      rw [e] at h
      cases h
      unfold findLabel at h'
      cases e' : findLabel x l with
      | some y =>
        rw [e'] at h'
        cases h'
        obtain ⟨c'', h1, h2⟩ := ih1 n1 e e'
        exact ⟨.seq c'' b, by simp [findLabel, h1], by simp [flatC, h2]⟩
      | none =>
        rw [e'] at h'
        exact ⟨c', by simp only [findLabel]; rw [none_of h']; exact h', rfl⟩
    | none =>
      rw [e] at h
      obtain ⟨c'', h1, h2⟩ := ih2 n2 h h'
      exact ⟨c'', by simp only [findLabel]; rw [none_of h1]; exact h1, h2⟩
  | label l' =>
    intro l0 l r c' _ h h'
    unfold findLabel at h
    split at h
    · cases h; simp [findLabel] at h'
    · cases h
  | _ => intro l0 l r c' _ h; simp [findLabel] at h

/-! ### scopes -/
inductive Goes (P : Program) (Q : Exit → Act → World → Prop) (body : Code) : Code → Act → World → Prop
  | mk {c : Code} {a : Act} {w : World} (R : Exit → Act → World → Prop) (h : c.wp P R a w)
      (hn : ∀ e a' w', R e a' w' → (∀ l rest, e = .goto l → findLabel body l = some rest → False) → Q e a' w')
      (hg : ∀ l rest a' w', R (.goto l) a' w' → findLabel body l = some rest → Goes P Q body rest a' w') : Goes P Q body c a w
def Qg (P : Program) (Q : Exit → Act → World → Prop) (body : Code) : Exit → Act → World → Prop
  | .goto l, a, w => match findLabel body l with
    | some rest => Goes P Q body rest a w
    | none => Q (.goto l) a w
  | e, a, w => Q e a w
theorem goes_of {P : Program} {Q : Exit → Act → World → Prop} {body c : Code} {a : Act} {w : World} (h : c.wp P (Qg P Q body) a w) : Goes P Q body c a w := by
  refine .mk _ h (fun e a' w' hq hno => ?_) (fun l rest a' w' hq hf => ?_)
  · cases e with
    | goto l =>
      simp only [Qg] at hq
      split at hq
      · rename_i rest hf; exact (hno l rest rfl hf).elim
      · exact hq
    | _ => exact hq
  · simp only [Qg] at hq
    rw [hf] at hq
    exact hq
theorem goes_in {P : Program} {Q : Exit → Act → World → Prop} {body : Code} {c : Code} {a : Act} {w : World} (g : Goes P Q body c a w) :
    ∀ (b : Frame) (k : List Item) (cs : List Frame), ∃ e a' w', Q e a' w' ∧ Arrives P (lone (b.at a (.code c :: .inScope body :: k)) cs w) b k cs e a' w' := by
  induction g with
  | mk R h hn hg ih =>
    intro b k cs
    obtain ⟨e, a₁, w₁, hq, harr⟩ := h b (.inScope body :: k) cs
    cases e with
    | normal => exact ⟨.normal, a₁, w₁, hn _ _ _ hq (fun _ _ h => by cases h), Steps.trans harr (.one step_inScope)⟩
    | exit id => exact ⟨.exit id, a₁, w₁, hn _ _ _ hq (fun _ _ h => by cases h), fun k' hk => harr k' (by simp [exitTo, hk])⟩
    | goto l =>
      cases hf : findLabel body l with
      | some rest =>
        obtain ⟨e₂, a₂, w₂, hq₂, harr₂⟩ := ih l rest a₁ w₁ hq hf b k cs
        exact ⟨e₂, a₂, w₂, hq₂, .of_steps (harr _ (by simp [gotoIn, hf])) harr₂⟩
      | none =>
        refine ⟨.goto l, a₁, w₁, hn _ _ _ hq (fun l' r h hf' => by cases h; rw [hf] at hf'; cases hf'), fun k' hk => harr k' (by simp [gotoIn, hf, hk])⟩
    | ret => exact ⟨_, a₁, w₁, hn _ _ _ hq (fun _ _ h => by cases h), harr⟩
    | panic ch => exact ⟨_, a₁, w₁, hn _ _ _ hq (fun _ _ h => by cases h), harr⟩
    | outgrown => exact ⟨_, a₁, w₁, hn _ _ _ hq (fun _ _ h => by cases h), harr⟩
theorem wp_scope_goes {P : Program} {Q : Exit → Act → World → Prop} {body : Code} {a : Act} {w : World} (g : Goes P Q body body a w) : (Code.scope body).wp P Q a w := by
  intro b k cs
  obtain ⟨e, a₁, w₁, hq, harr⟩ := goes_in g b k cs
  exact ⟨e, a₁, w₁, hq, .of_steps (.one step_scope) harr⟩

/-! ### the run -/
section
variable {P : Program} {T : TT} {S : Sums} {lo lb : Nat → St → Option Ann} {base : Nat} {M : Two} {W : World} {nt : Nat} {Q1 : AV → Prop}

/-- What the executor goes on with holds. -/
def Kon (P : Program) (base : Nat) (M : Two) (W : World) (nt : Nat) (Q1 : AV → Prop) (k : K) (Q : Exit → Act → World → Prop) : Prop := ∀ e s a w, SimS base M W nt s a w → Sat P Q1 (k e s) → Q (toExit e) a w
def ScOk (P : Program) (base : Nat) (M : Two) (W : World) (nt : Nat) (Q1 : AV → Prop) (sc : Code → St → K → Tree) : Prop :=
  ∀ body s k Q a w, codeOk nt (.scope body) = true → SimS base M W nt s a w → Sat P Q1 (sc body s k) → Kon P base M W nt Q1 k Q → (Code.scope body).wp P Q a w

theorem loopEnd_go {an : Ann} {ks : List (Nat × AV)} {ko : List (Nat × Ob)} {ice : List Nat} {m : Option Nat} {s : St} {a : Act} {w : World} (hs : SimS base M W nt s a w) (h : Sat P Q1 (loopEnd an ks ko ice m s)) :
    ∃ x, an.inv x ∧ (∀ m0, m = some m0 → an.mu x < m0) ∧ SimS base M W nt (an.st ks ko ice x) a w := by
  unfold loopEnd at h
  cases h with
  | ex x h =>
    obtain ⟨h1, h2⟩ := meet_go hs h rfl
    cases h2 with
    | must h3 h4 =>
      refine ⟨x, h3, fun m0 hm => ?_, h1⟩
      subst hm
      cases h4 with | must h5 _ => exact h5

theorem run_block {sc : Code → St → K → Tree} {A : Nat → Bool} {id : Nat} {b : Code} (hb : ∀ body, b ≠ .loop body) {s : St} {k : K} :
    run T std S lo sc A (.block id b) s k = run T std S lo sc noL b s (fun e s' => match e with
    | .exit j => match nbeq j id with
      | true => k .normal s'
      | false => k (.exit j) s'
    | e => k e s') := by
  cases b <;> first | rfl | exact absurd rfl (hb _)

/-- The run of a code, what follows it in the row, and the labels at which it is cut. -/
def RunOk (P : Program) (T : TT) (S : Sums) (lo : Nat → St → Option Ann) (base : Nat) (M : Two) (W : World) (nt : Nat) (Q1 : AV → Prop) (sc : Code → St → K → Tree) (c : Code) : Prop := codeOk nt c = true →
    ∀ (A : Nat → Bool) (s : St) (k : K) (Q : Exit → Act → World → Prop) (ys : List Code) (a : Act) (w : World), SimS base M W nt s a w → Sat P Q1 (run T std S lo sc A c s k) →
    Kon P base M W nt Q1 k (Exit.then (WPl P ys Q) Q) →
    (∀ l c' s' a' w', A l = true → findLabel c l = some c' → SimS base M W nt s' a' w' → Sat P Q1 (k (.goto l) s') → WPl P (flatC c' ++ ys) Q a' w') → WPl P (flatC c ++ ys) Q a w
theorem run_two (hT : TsOk P T) (hS : SumsOk P S) (hm : P.follows .mixedOrders = true) {sc : Code → St → K → Tree} (hsc : ScOk P base M W nt Q1 sc) : ∀ (c : Code),
    RunOk P T S lo base M W nt Q1 sc c ∧ (∀ body, c = .loop body → RunOk P T S lo base M W nt Q1 sc body) := by
  intro c
  induction c with
  | skip => refine ⟨?_, fun body e => by cases e⟩; intro _ A s k Q ys a w hs h hk _; exact hk .normal s a w hs h
  | region id ops d =>
    refine ⟨?_, fun body e => by cases e⟩
    intro hc A s k Q ys a w hs h hk _
    show (Code.region id ops d).wp P (Exit.then (WPl P ys Q) Q) a w
    have := region_go (id := id) (Q := Exit.then (WPl P ys Q) Q) hT hS hm hc hs h (fun s' a' w' hs' h' => hk .normal s' a' w' hs' h')
    simpa using this
  | seq x y ih1 ih2 =>
    refine ⟨?_, fun body e => by cases e⟩
    intro hc A s k Q ys a w hs h hk hl
    unfold codeOk at hc
    rw [Bool.and_eq_true] at hc
    show WPl P ((flatC x ++ flatC y) ++ ys) Q a w
    rw [List.append_assoc]
    refine ih1.1 hc.1 A s _ Q (flatC y ++ ys) a w hs h (fun e s' a' w' hs' h' => ?_) (fun l c' s' a' w' hA hf hs' h' => ?_)
    · cases e with
      | normal =>
        refine ih2.1 hc.2 _ s' k Q ys a' w' hs' h' hk (fun l c' s2 a2 w2 hA hf hs2 h2 => hl l c' s2 a2 w2 ?_ ?_ hs2 h2)
        · split at hA
          · cases hA
          · exact hA
        · split at hA
          · cases hA
          · rename_i e; simp only [findLabel]; rw [e]; exact hf
      | exit id => exact hk (.exit id) s' a' w' hs' h'
      | goto l => exact hk (.goto l) s' a' w' hs' h'
      | ret => exact hk .ret s' a' w' hs' h'
    · have := hl l (.seq c' y) s' a' w' hA (by simp [findLabel, hf]) hs' h'
      simpa [flatC] using this
  | cond x p q ih1 ih2 =>
    refine ⟨?_, fun body e => by cases e⟩
    intro hc A s k Q ys a w hs h hk _
    unfold codeOk at hc
    rw [Bool.and_eq_true] at hc
    show (Code.cond x p q).wp P (Exit.then (WPl P ys Q) Q) a w
    have yes : ∀ (k1 : K) (s1 : St), SimS base M W nt s1 a w → Sat P Q1 (run T std S lo sc noL p s1 k1) → Kon P base M W nt Q1 k1 (Exit.then (WPl P ys Q) Q) → p.wp P (Exit.then (WPl P ys Q) Q) a w := fun k1 s1 h1 h2 hk1 => wp_of_wpl (by
      have := ih1.1 hc.1 noL s1 k1 (Exit.then (WPl P ys Q) Q) [] a w h1 h2 (by rw [then_nil]; exact hk1) (fun l c' s' a' w' hA => by cases hA)
      simpa using this)
    have no : ∀ (k1 : K) (s1 : St), SimS base M W nt s1 a w → Sat P Q1 (run T std S lo sc noL q s1 k1) → Kon P base M W nt Q1 k1 (Exit.then (WPl P ys Q) Q) → q.wp P (Exit.then (WPl P ys Q) Q) a w := fun k1 s1 h1 h2 hk1 => wp_of_wpl (by
      have := ih2.1 hc.2 noL s1 k1 (Exit.then (WPl P ys Q) Q) [] a w h1 h2 (by rw [then_nil]; exact hk1) (fun l c' s' a' w' hA => by cases hA)
      simpa using this)
    have lit : ∀ b, litOf s.kn x = some b → a.eval x = .bool b := by
      intro b hb
      cases x with
      | tmp t =>
        obtain ⟨⟨D, μ, S⟩, hkn⟩ := hs
        exact (S.slots t _ (hkn t b hb)).inv_bool
      | const v => cases v <;> simp [litOf] at hb; subst hb; rfl
      | _ => simp [litOf] at hb
    unfold run at h
    split at h
    · rename_i e; exact wp_cond_true (lit true e) (yes k s hs h hk)
    · rename_i e; exact wp_cond_false (lit false e) (no k s hs h hk)
    · split at h
      · rename_i t _ _
        split at h
        · rename_i b hb
          have he : a.eval (.tmp t) = .bool b := by
            obtain ⟨⟨D, μ, S⟩, hkn⟩ := hs
            exact (S.slots t _ hb).inv_bool
          have both : ∀ k1 : K, Kon P base M W nt Q1 k1 (Exit.then (WPl P ys Q) Q) → Sat P Q1 (.ite b (run T std S lo sc noL p (s.know t true) k1) (run T std S lo sc noL q (s.know t false) k1)) → (Code.cond (.tmp t) p q).wp P (Exit.then (WPl P ys Q) Q) a w := by
            intro k1 hk1 h
            cases h with
            | ite h1 h2 =>
              refine wp_cond_split he (fun ht => ?_) (fun hf => ?_)
              · subst ht
                exact yes k1 (s.know t true) ⟨hs.1, knOk_know hs.2 hb⟩ (h1 rfl) hk1
              · subst hf
                exact no k1 (s.know t false) ⟨hs.1, knOk_know hs.2 hb⟩ (h2 rfl) hk1
          split at h
          · exact both k hk h
          · rename_i an _
            split at h
            · rename_i ks _
              split at h
              · rename_i ko _
                cases h with
                | and h1 h2 =>
                  refine both _ (fun e s' a' w' hs' h' => ?_) h1
                  cases e with
                  | normal =>
                    obtain ⟨y, hy, _, hsy⟩ := loopEnd_go hs' h'
                    cases h2 with
                    | all h2 => cases h2 y with
                      | sup h3 => exact hk .normal _ a' w' hsy (h3 hy)
                  | exit j => exact hk (.exit j) s' a' w' hs' h'
                  | goto l => exact hk (.goto l) s' a' w' hs' h'
                  | ret => exact hk .ret s' a' w' hs' h'
              · cases h
            · cases h
        · cases h
      · cases h
  | block id b ih =>
    refine ⟨?_, fun body e => by cases e⟩
    intro hc A s k Q ys a w hs h hk _
    show (Code.block id b).wp P (Exit.then (WPl P ys Q) Q) a w
    generalize Exit.then (WPl P ys Q) Q = Q' at hk
    by_cases hb : ∃ body, b = .loop body
    · obtain ⟨body, rfl⟩ := hb
      have hbody := ih.2 body rfl hc
      unfold run at h
      split at h
      · rename_i an hlo
        split at h
        · rename_i ks hks
          split at h
          · rename_i ko hko
            cases h with
            | and h1 h2 =>
              obtain ⟨x0, i0, _, s0⟩ := loopEnd_go hs h1
              cases h2 with
              | all h2 =>
                refine wp_block (wp_loop_ghost (fun n a w => ∃ x, an.inv x ∧ an.mu x = n ∧ SimS base M W nt (an.st ks ko s.ice x) a w) (an.mu x0) ⟨x0, i0, rfl, s0⟩ ?_)
                rintro n a1 w1 ⟨x, hx, rfl, hsx⟩
                refine wp_of_wpl ?_
                cases h2 x with
                | sup h3 =>
                  have := hbody noL _ _ (Exit.then (fun a' w' => ∃ n', n' < an.mu x ∧ ∃ x, an.inv x ∧ an.mu x = n' ∧ SimS base M W nt (an.st ks ko s.ice x) a' w') (Exit.inBlock id Q')) [] a1 w1 hsx (h3 hx) (fun e s' a' w' hs' h' => ?_) (fun l c' s' a' w' hA => by cases hA)
                  · simpa using this
                  · rw [then_nil]
                    cases e with
                    | exit j =>
                      simp only at h'
                      show (if j = id then Q' .normal a' w' else Q' (.exit j) a' w')
                      cases e : nbeq j id with
                      | true => rw [e] at h'; rw [if_pos (beq_eq e)]; exact hk .normal s' a' w' hs' h'
                      | false =>
                        rw [e] at h'
                        rw [if_neg (by rintro rfl; rw [beq_same] at e; cases e)]
                        exact hk (.exit j) s' a' w' hs' h'
                    | normal =>
                      obtain ⟨x', i', m', s2⟩ := loopEnd_go hs' h'
                      exact ⟨an.mu x', m' _ rfl, x', i', rfl, s2⟩
                    | goto l => exact hk (.goto l) s' a' w' hs' h'
                    | ret => exact hk .ret s' a' w' hs' h'
          · cases h
        · cases h
      · cases h
    · rw [run_block (fun body e => hb ⟨body, e⟩)] at h
      refine wp_block (wp_of_wpl ?_)
      have := ih.1 hc noL s _ (Exit.inBlock id Q') [] a w hs h (fun e s' a' w' hs' h' => ?_) (fun l c' s' a' w' hA => by cases hA)
      · simpa using this
      · rw [then_nil]
        cases e with
        | exit j =>
          simp only at h'
          show (if j = id then Q' .normal a' w' else Q' (.exit j) a' w')
          cases e : nbeq j id with
          | true => rw [e] at h'; rw [if_pos (beq_eq e)]; exact hk .normal s' a' w' hs' h'
          | false =>
            rw [e] at h'
            rw [if_neg (by rintro rfl; rw [beq_same] at e; cases e)]
            exact hk (.exit j) s' a' w' hs' h'
        | normal => exact hk .normal s' a' w' hs' h'
        | goto l => exact hk (.goto l) s' a' w' hs' h'
        | ret => exact hk .ret s' a' w' hs' h'
  | exit id => refine ⟨?_, fun body e => by cases e⟩; intro _ A s k Q ys a w hs h hk _; exact wp_exit (hk (.exit id) s a w hs h)
  | goto l => refine ⟨?_, fun body e => by cases e⟩; intro _ A s k Q ys a w hs h hk _; exact wp_goto (hk (.goto l) s a w hs h)
  | ret => refine ⟨?_, fun body e => by cases e⟩; intro _ A s k Q ys a w hs h hk _; exact wp_ret (hk .ret s a w hs h)
  | label l =>
    refine ⟨?_, fun body e => by cases e⟩
    intro _ A s k Q ys a w hs h hk hl
    unfold run at h
    split at h
    · rename_i hA
      exact hl l .skip s a w hA (by simp [findLabel]) hs h
    · exact hk .normal s a w hs h
  | scope b ih =>
    refine ⟨?_, fun body e => by cases e⟩
    intro hc A s k Q ys a w hs h hk _
    exact hsc b s k _ a w hc hs h hk
  | loop b ih => exact ⟨fun _ A s k Q ys a w hs h hk _ => (by cases h), fun body e => by cases e; exact ih.1⟩
  | _ => refine ⟨?_, fun body e => by cases e⟩; intro _ A s k Q ys a w hs h hk _; cases h

theorem run_go (hT : TsOk P T) (hS : SumsOk P S) (hm : P.follows .mixedOrders = true) {sc : Code → St → K → Tree} (hsc : ScOk P base M W nt Q1 sc) (c : Code) : RunOk P T S lo base M W nt Q1 sc c := (run_two hT hS hm hsc c).1

/-! ### passes through a scope -/
/-- The labels of which something is said: whoever stands there so, comes through. -/
def LabOk (P : Program) (base : Nat) (M : Two) (W : World) (nt : Nat) (lb : Nat → St → Option Ann) (body : Code) (bs : St) (Q : Exit → Act → World → Prop) (m : Option Nat) : Prop :=
  ∀ l an rest ks ko x a w, lb l bs = some an → findLabel body l = some rest → keepS bs.slots an.keep = some ks → keepO bs.objs an.hold = some ko → an.inv x → (∀ m0, m = some m0 → an.mu x < m0) →
    SimS base M W nt (an.st ks ko bs.ice x) a w → WPl P (flatC rest) (Qg P Q body) a w
def PassOk (P : Program) (T : TT) (S : Sums) (lo lb : Nat → St → Option Ann) (base : Nat) (M : Two) (W : World) (nt : Nat) (Q1 : AV → Prop) (n : Nat) : Prop :=
  ∀ body rest bs s k m Q a w, nodupL (labelsOf body) = true → codeOk nt rest = true → codeOk nt body = true → (rest = body ∨ ∃ l, findLabel body l = some rest) → SimS base M W nt s a w → Sat P Q1 (pass T std S lo lb n body rest s k m bs) →
    Kon P base M W nt Q1 k Q → LabOk P base M W nt lb body bs Q m → WPl P (flatC rest) (Qg P Q body) a w

theorem each_go {body : Code} {bs : St} {ps : Code → St → Nat → Tree} {t : Tree} : ∀ {ls : List Nat}, Sat P Q1 (eachLabel lb body bs ps ls t) → Sat P Q1 t ∧
    ∀ l, l ∈ ls → ∀ an rest ks ko, lb l bs = some an → findLabel body l = some rest → keepS bs.slots an.keep = some ks → keepO bs.objs an.hold = some ko → ∀ x, an.inv x → Sat P Q1 (ps rest (an.st ks ko bs.ice x) (an.mu x))
  | [], h => ⟨h, fun l hl => by cases hl⟩
  | l0 :: ls, h => by
    unfold eachLabel at h
    split at h
    · rename_i an hlb
      split at h
      · rename_i rest hf
        split at h
        · rename_i ks hks
          split at h
          · rename_i ko hko
            cases h with
            | and h1 h2 =>
              obtain ⟨i1, i2⟩ := each_go h2
              refine ⟨i1, fun l hl an' rest' ks' ko' q1 q2 q3 q4 x hx => ?_⟩
              rcases List.mem_cons.1 hl with rfl | hl
              · rw [hlb] at q1; cases q1
                rw [hf] at q2; cases q2
                rw [hks] at q3; cases q3
                rw [hko] at q4; cases q4
                cases h1 with
                | all h1 => cases h1 x with | sup h1 => exact h1 hx
              · exact i2 l hl an' rest' ks' ko' q1 q2 q3 q4 x hx
          · cases h
        · cases h
      · rename_i hf
        obtain ⟨i1, i2⟩ := each_go h
        refine ⟨i1, fun l hl an' rest' ks' ko' q1 q2 => ?_⟩
        rcases List.mem_cons.1 hl with rfl | hl
        · rw [hf] at q2; cases q2
        · exact i2 l hl an' rest' ks' ko' q1 q2
    · rename_i hlb
      obtain ⟨i1, i2⟩ := each_go h
      refine ⟨i1, fun l hl an' rest' ks' ko' q1 => ?_⟩
      rcases List.mem_cons.1 hl with rfl | hl
      · rw [hlb] at q1; cases q1
      · exact i2 l hl an' rest' ks' ko' q1

theorem scope_of (n : Nat) (hp : PassOk P T S lo lb base M W nt Q1 n) : ScOk P base M W nt Q1 (scopeT lb (pass T std S lo lb n)) := by
  intro body s k Q a w hc hs h hk
  unfold codeOk at hc
  rw [Bool.and_eq_true] at hc
  unfold scopeT at h
  obtain ⟨h1, h2⟩ := each_go h
  have lab : ∀ m, ∀ l an rest ks ko x a w, lb l s = some an → findLabel body l = some rest → keepS s.slots an.keep = some ks → keepO s.objs an.hold = some ko → an.inv x → an.mu x = m →
      SimS base M W nt (an.st ks ko s.ice x) a w → WPl P (flatC rest) (Qg P Q body) a w := by
    intro m
    induction m using Nat.strongRecOn with
    | _ m ih =>
      intro l an rest ks ko x a w q1 q2 q3 q4 hx hm hsx
      subst hm
      refine hp body rest s _ k (some (an.mu x)) Q a w hc.1 (find_ok q2 hc.2) hc.2 (.inr ⟨l, q2⟩) hsx (h2 l (find_lab q2) an rest ks ko q1 q2 q3 q4 x hx) hk ?_
      intro l' an' rest' ks' ko' x' a' w' p1 p2 p3 p4 hx' hlt hs'
      exact ih (an'.mu x') (hlt _ rfl) l' an' rest' ks' ko' x' a' w' p1 p2 p3 p4 hx' rfl hs'
  have := hp body body s s k none Q a w hc.1 hc.2 hc.2 (.inl rfl) hs h1 hk (fun l an rest ks ko x a w q1 q2 q3 q4 hx _ hsx => lab _ l an rest ks ko x a w q1 q2 q3 q4 hx rfl hsx)
  exact wp_scope_goes (goes_of (wp_of_wpl this))

theorem pass_go (hT : TsOk P T) (hS : SumsOk P S) (hm : P.follows .mixedOrders = true) : ∀ n, PassOk P T S lo lb base M W nt Q1 n
  | 0 => by intro body rest bs s k m Q a w _ _ _ _ _ h; cases h
  | n + 1 => by
    intro body rest bs s k m Q a w hn hr hb hsuf hs h hk hl
    have ih := pass_go hT hS hm n
    unfold pass at h
    -- a jump to a label of the scope's own
    have go : ∀ l rest' s' a' w', findLabel body l = some rest' → SimS base M W nt s' a' w' → Sat P Q1 (jump lb (fun rest' s' => pass T std S lo lb n body rest' s' k m bs) body bs m k (.goto l) s') → WPl P (flatC rest') (Qg P Q body) a' w' := by
      intro l rest' s' a' w' hf hs' h'
      simp only [jump, hf] at h'
      split at h'
      · rename_i an hlb
        split at h'
        · rename_i ks hks
          split at h'
          · rename_i ko hko
            obtain ⟨x, i1, i2, i3⟩ := loopEnd_go hs' h'
            exact hl l an rest' ks ko x a' w' hlb hf hks hko i1 i2 i3
          · cases h'
        · cases h'
      · exact ih body rest' bs s' k m Q a' w' hn (find_ok hf hb) hb (.inr ⟨l, hf⟩) hs' h' hk hl
    have := run_go hT hS hm (scope_of n ih) rest hr _ s _ (Qg P Q body) [] a w hs h (fun e s' a' w' hs' h' => ?_) (fun l c' s' a' w' hA hf hs' h' => ?_)
    · simpa using this
    · rw [then_nil]
      cases e with
      | goto l =>
        show Qg P Q body (.goto l) a' w'
        simp only [Qg]
        cases hf : findLabel body l with
        | some rest' => exact goes_of (wp_of_wpl (go l rest' s' a' w' hf hs' h'))
        | none =>
          simp only [jump, hf] at h'
          exact hk (.goto l) s' a' w' hs' h'
      | normal => exact hk .normal s' a' w' hs' h'
      | exit id => exact hk (.exit id) s' a' w' hs' h'
      | ret => exact hk .ret s' a' w' hs' h'
    · rw [List.append_nil]
      rcases hsuf with rfl | ⟨l0, h0⟩
      · exact go l c' s' a' w' hf hs' h'
      · obtain ⟨c'', e1, e2⟩ := find_find hn h0 hf
        rw [← e2]
        exact go l c'' s' a' w' e1 hs' h'

/-- **The run**: what it goes on with behind the code is true behind the code. -/
theorem code_go (hT : TsOk P T) (hS : SumsOk P S) (hm : P.follows .mixedOrders = true) {n : Nat} {c : Code} (hc : codeOk nt c = true) {s : St} {k : K} {Q : Exit → Act → World → Prop} {a : Act} {w : World} (hs : SimS base M W nt s a w)
    (h : Sat P Q1 (run T std S lo (scopeT lb (pass T std S lo lb n)) noL c s k)) (hk : Kon P base M W nt Q1 k Q) : c.wp P Q a w := by
  refine wp_of_wpl ?_
  have := run_go hT hS hm (scope_of n (pass_go hT hS hm n)) c hc noL s k Q [] a w hs h (by rw [then_nil]; exact hk) (fun l c' s' a' w' hA => by cases hA)
  simpa using this
end
end Sy
end Go.Proofs.YtckbbcjbbmgmoaaDoor
