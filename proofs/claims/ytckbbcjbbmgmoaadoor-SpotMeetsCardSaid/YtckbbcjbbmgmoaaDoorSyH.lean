/- The symbolic executor: slices of slices and of texts. -/
import Derived.Test.YtckbbcjbbmgmoaaDoorSyG
namespace Go.Proofs.YtckbbcjbbmgmoaaDoor
namespace Sy
open Go Go.RowKit
set_option linter.unusedSimpArgs false
set_option linter.unusedVariables false

/-- A bound of a slice expression, and its value. -/
def BoundIs (a : Act) : Option Operand → Option Int → Prop
  | none, none => True
  | some x, some i => ∃ k, a.eval x = .int k i
  | _, _ => False
theorem bounds_run {P : Program} {w : World} {a : Act} (isS : Bool) (len cap : Nat) {lo hi : Option Operand} {p q : Option Int} (h1 : BoundIs a lo p) (h2 : BoundIs a hi q)
    (l r : Nat) (hl : (p.getD 0) = (l : Int)) (hr : (q.getD len) = (r : Int)) (hlr : l ≤ r) (hrc : r ≤ cap) :
    (Instr.sliceBounds isS len cap (lo.map a.eval) (hi.map a.eval) none).run P w = .ok (l, r, cap) w := by
  unfold Instr.sliceBounds
  cases lo with
  | none =>
    cases p with
    | some _ => exact h1.elim
    | none =>
      cases hi with
      | none =>
        cases q with
        | some _ => exact h2.elim
        | none => simp at hl hr; simp; omega
      | some y =>
        cases q with
        | none => exact h2.elim
        | some j =>
          obtain ⟨k, e⟩ := h2
          simp at hl hr
          subst hr
          simp [e, Instr.sliceBound, asIntOf, hrc]
          omega
  | some x =>
    cases p with
    | none => exact h1.elim
    | some i =>
      obtain ⟨k, e⟩ := h1
      simp at hl
      subst hl
      cases hi with
      | none =>
        cases q with
        | some _ => exact h2.elim
        | none =>
          simp at hr
          obtain rfl : len = r := by omega
          simp [e, Instr.sliceBound, asIntOf, hlr]
      | some y =>
        cases q with
        | none => exact h2.elim
        | some j =>
          obtain ⟨k', e'⟩ := h2
          simp at hr
          subst hr
          simp [e, e', Instr.sliceBound, asIntOf, hrc, hlr]

section
variable {P : Program} {T : TT} {base : Nat} {M : Two} {W : World} {nt : Nat} {f : Nat → Option AV} {g : Nat → Option Ob} {c : Nat → Bool} {a : Act} {w : World} {D : Nat → Prop} {μ : Mu} {o : Oper}

theorem two_ok {lo hi m : Option Operand} {vs : List AV} {p q : Option Int} (e : two vs lo.isSome hi.isSome m.isSome = some (p, q)) (hv : Ops w.heap D μ a (lo.toList ++ (hi.toList ++ m.toList)) vs) :
    m = none ∧ BoundIs a lo p ∧ BoundIs a hi q := by
  cases m with
  | some _ => cases lo <;> cases hi <;> simp [two] at e
  | none =>
    refine ⟨rfl, ?_⟩
    cases lo with
    | none =>
      cases hi with
      | none => simp [two] at e; obtain ⟨rfl, rfl⟩ := e; exact ⟨trivial, trivial⟩
      | some y =>
        simp only [two, Option.isSome] at e
        split at e
        · cases e
          exact ⟨trivial, _, hv.1.inv_int⟩
        · cases e
    | some x =>
      cases hi with
      | none =>
        simp only [two, Option.isSome] at e
        split at e
        · cases e
          exact ⟨⟨_, hv.1.inv_int⟩, trivial⟩
        · cases e
      | some y =>
        simp only [two, Option.isSome] at e
        split at e
        · cases e
          exact ⟨⟨_, hv.1.inv_int⟩, _, hv.2.1.inv_int⟩
        · cases e
/-- The bounds as numbers. -/
theorem cut_nums {n : Int} {p q : Option Int} (hn : 0 ≤ n) (h : cutOk std n p q = true) :
    ∃ l r : Nat, (p.getD 0) = (l : Int) ∧ (q.getD n) = (r : Int) ∧ l ≤ r ∧ (r : Int) ≤ n ∧ (∀ off, cutO std off p = off + l) ∧ (∀ n' : Nat, n = n' → cutN std n' p q = r - l) ∧
      (∀ s : List UInt8, n = s.length → cutS std s p q = (s.take r).drop l) ∧ (∀ get i j, cutG std get p i j = get (l + i) j) := by
  cases p with
  | none =>
    cases q with
    | none => exact ⟨0, n.toNat, rfl, by simp; omega, by omega, by omega, fun off => rfl, fun n' e => by simp [cutN]; omega, fun s e => by simp [cutS]; rw [List.take_of_length_le (by omega)], fun get i j => by simp [cutG]⟩
    | some b =>
      have h' : 0 ≤ b ∧ b ≤ n := by simpa [cutOk, L2, std, inC] using h
      exact ⟨0, b.toNat, rfl, by simp; omega, by omega, by omega, fun off => rfl, fun n' e => by simp [cutN, std], fun s e => by simp [cutS, L2, std], fun get i j => by simp [cutG]⟩
  | some l =>
    cases q with
    | none =>
      have h' : 0 ≤ l ∧ l ≤ n := by simpa [cutOk, L2, std, inC] using h
      exact ⟨l.toNat, n.toNat, by simp; omega, by simp; omega, by omega, by omega, fun off => rfl, fun n' e => by simp [cutN, L2, std]; omega, fun s e => by
        simp [cutS, L2, std]; rw [List.take_of_length_le (by omega)], fun get i j => rfl⟩
    | some b =>
      have h' : (0 ≤ l ∧ l ≤ b) ∧ b ≤ n := by simpa [cutOk, L3, std, inS] using h
      exact ⟨l.toNat, b.toNat, by simp; omega, by simp; omega, by omega, by omega, fun off => rfl, fun n' e => by simp [cutN, L2, std], fun s e => by simp [cutS, L3, std, ssub], fun get i j => rfl⟩

variable (h : Sim base M W nt f g c a w D μ) (hd : ∀ d, o.dst = some d → d < nt)
include h hd

theorem says_slice (hT : TsOk P T) {t : TypeId} {x : Operand} {lo hi m : Option Operand} (e : o.op = .slice t x lo hi m) {vals : List AV} (hv : Ops w.heap D μ a (x :: (lo.toList ++ (hi.toList ++ m.toList))) vals)
    {ob : Nat → Option Ob} (hob : ∀ id z, ob id = some z → g id = some z) :
    Says P base M W nt f g c o a w (cSlice T std t ob lo.isSome hi.isSome m.isSome vals) := by
  match vals, hv with
  | v :: vs, ⟨hx, hv⟩ =>
    unfold cSlice
    simp only
    split
    · rename_i ti hti
      split
      · rename_i p q htwo
        obtain ⟨rfl, hb1, hb2⟩ := two_ok htwo hv
        have run : ∀ u, (Instr.sliceAt t (a.eval x) (lo.map a.eval) (hi.map a.eval) none).run P w = .ok u w → (execOp a.eval o).run P w = .ok (.value u) w := by
          intro u hu; unfold execOp; rw [e]; simp [hu]
        generalize a.eval x = u at *
        have ok := (hT t ti hti).k
        split
        · rename_i n e' esz id off hk
          rw [hk] at ok
          obtain ⟨ok1, ok2⟩ := ok
          obtain ⟨ei, hei, hes⟩ := Option.map_eq_some_iff.1 ok2
          have hso : (sizeOf e').run P w = .ok esz w := by simp [sizeOf, typeInfo, program, Sem.run, hei, hes]
          split
          · rename_i ty sz n' get hg
            have hg := hob _ _ hg
            split
            · rename_i hsz hnn
              obtain rfl := beq_eq hsz
              obtain rfl := beq_eq hnn
              intro hb
              obtain ⟨l, r, e1, e2, e3, e4, e5, e6, _, e7⟩ := cut_nums (n := (n' : Int)) (by omega) hb
              cases hx with
              | ref _ _ b z m hμ =>
                obtain ⟨hm, C, t', fr, hh, hcs, _, hle, hrow⟩ := h.obs id _ _ hg hμ
                subst hm
                have hbr := bounds_run (P := P) (w := w) false n' n' hb1 hb2 l r e1 e2 e3 (by omega)
                have h1 : (Instr.sliceAt t (.pointer (some ⟨b, 0, none⟩)) (lo.map a.eval) (hi.map a.eval) none).run P w = .ok (.slice (some (if n' = l then ⟨b, 0, none⟩ else (⟨b, 0, none⟩ : Addr).add (l * esz))) (r - l) (n' - l)) w := by
                  simp [Instr.sliceAt, Instr.sureAddr, run_underlying ok1, hbr, hso]
                rw [show cutN (fun {α β} => std) n' p q = r - l from e6 n' rfl, show cutO (fun {α β} => std) 0 p = 0 + l from e5 0, Nat.zero_add]
                by_cases hcl : n' = l
                · subst hcl
                  rw [if_pos rfl] at h1
                  have h0 : r - n' = 0 := by omega
                  rw [h0, Nat.sub_self] at h1
                  rw [h0]
                  exact adv_value h hd (run _ h1) (.sl0 _ _ _ b z n' _ hμ (Nat.le_refl _))
                · rw [if_neg hcl, add_none, Nat.zero_add] at h1
                  refine adv_value h hd (run _ h1) (.sl _ _ _ _ b z n' _ hμ (by omega) (by rw [show l + (n' - l) = n' by omega]; exact hle) (by omega))
            · trivial
          · rename_i ty cs hg
            have hg := hob _ _ hg
            split
            · rename_i hsz hle hfr
              obtain rfl := beq_eq hsz
              have hle := ble_le hle
              rw [llen_eq] at hle
              intro hb
              obtain ⟨l, r, e1, e2, e3, e4, e5, e6, _, e7⟩ := cut_nums (n := (n : Int)) (by omega) hb
              cases hx with
              | ref _ _ b z m hμ =>
                obtain ⟨C, t', fr, hh, hcs, _, h1c, hl, hr⟩ := h.obs id _ _ hg hμ
                have hbr := bounds_run (P := P) (w := w) false n n hb1 hb2 l r e1 e2 e3 (by omega)
                have h1 : (Instr.sliceAt t (.pointer (some ⟨b, off, none⟩)) (lo.map a.eval) (hi.map a.eval) none).run P w = .ok (.slice (some (if n = l then ⟨b, off, none⟩ else (⟨b, off, none⟩ : Addr).add (l * 1))) (r - l) (n - l)) w := by
                  simp [Instr.sliceAt, Instr.sureAddr, run_underlying ok1, hbr, hso]
                have h' := h.freeze [id] (fun i hi => by simp at hi; subst hi; exact ⟨_, hg, by simp⟩)
                have hcell : ∀ k, k < n → ∃ v, C[off + k]? = some v ∧ one v ∧ R w.heap D noMu (rowOf std (ltake (ldrop cs off) n) 1 k 0) v := by
                  intro k hk
                  have hx := rowOf_get (cs := ltake (ldrop cs off) n) (sz := 1) (n := n) (by rw [ltake_eq, ldrop_eq]; simp; omega) (i := k) (j := 0) hk (by omega)
                  have hf := freeL_get hfr _ _ hx
                  rw [ltake_eq, ldrop_eq, List.getElem?_take, if_pos (by omega), List.getElem?_drop, Nat.mul_one, Nat.add_zero] at hx
                  have hlt : off + k < C.size := by rw [← hl]; exact (List.getElem?_eq_some_iff.1 hx).1
                  rw [ltake_eq, ldrop_eq] at hf ⊢
                  exact ⟨_, getD_some hlt, h1c _ _ (getD_some hlt), free1_R (hr _ _ _ hx (getD_some hlt)) hf⟩
                intro K Q hK
                unfold Oper.wp
                rw [run _ h1]
                refine hK _ _ ⟨_, _, h'.put hd ?_⟩
                rw [show cutN (fun {α β} => std) n p q = r - l from e6 n rfl]
                by_cases h0 : r - l = 0
                · rw [h0]
                  exact .lst0 _ _ _ _ (fun h => by cases h)
                · rw [if_neg (by omega), add_none, Nat.mul_one]
                  refine .lst 1 (r - l) _ b (off + l) (n - l) (fun i j => C.getD (off + l + i * 1 + j) undef) (.inr ⟨id, z, m, by simp, hμ⟩) (by omega) (fun i j hi hj => ?_) (fun i j hi hj => ?_) (fun i j hi hj => ?_)
                  all_goals
                    have hj0 : j = 0 := by omega
                    subst hj0
                    obtain ⟨v, v1, v2, v3⟩ := hcell (l + i) (by omega)
                    have ev : C.getD (off + l + i * 1 + 0) undef = v := by
                      rw [show off + l + i * 1 + 0 = off + (l + i) by omega, Array.getD_eq_getD_getElem?, v1]; rfl
                  · rw [hcell_of hh]
                    show _ = some (C.getD (off + l + i * 1 + 0) undef)
                    rw [ev, show off + l + i * 1 + 0 = off + (l + i) by omega, v1]
                  · show one (C.getD (off + l + i * 1 + 0) undef)
                    rw [ev]; exact v2
                  · show R _ _ _ _ (C.getD (off + l + i * 1 + 0) undef)
                    rw [ev, e7]
                    exact v3.mono (fun _ _ => rfl) (fun _ h => .inl h) (fun _ _ h => h)
            · trivial
          · trivial
        · rename_i s hk
          rw [hk] at ok
          intro hb
          obtain ⟨s', rfl, rfl⟩ := hx.inv_str
          obtain ⟨l, r, e1, e2, e3, e4, _, _, e5, _⟩ := cut_nums (n := std slen s'.data.toList) (by simp [std, slen]) hb
          have hsz : (std slen s'.data.toList : Int) = s'.size := by simp [std, slen]
          rw [hsz] at e2 e4
          refine adv_value h hd (u := .string (s'.extract l r)) (run _ ?_) ?_
          · have hbr := bounds_run (P := P) (w := w) false s'.size s'.size hb1 hb2 l r e1 e2 e3 (by omega)
            simp [Instr.sliceAt, Instr.slice, run_underlying ok, hbr]
          · rw [e5 _ (by rw [hsz]; simp)]
            exact .str _ _ (by
              simp [List.take_drop, List.extract_eq_take_drop]
              try rw [show l + (r - l) = r by omega])
        · rename_i e' esz eb sz n get hk
          rw [hk] at ok
          obtain ⟨ok1, ok2⟩ := ok
          obtain ⟨ei, hei, hes⟩ := Option.map_eq_some_iff.1 ok2
          simp only [Prod.mk.injEq] at hes
          have hso : (sizeOf e').run P w = .ok esz w := by simp [sizeOf, typeInfo, program, Sem.run, hei, hes.1]
          split
          · rename_i hsz
            obtain rfl := beq_eq hsz
            intro hb
            obtain ⟨l, r, e1, e2, e3, e4, e5, e6, _, e7⟩ := cut_nums (n := (n : Int)) (by omega) hb
            have go : ∀ ad cap, n ≤ cap → u = .slice ad n cap → (Instr.sliceAt t u (lo.map a.eval) (hi.map a.eval) none).run P w = .ok (.slice (if cap = l then ad else ad.map (·.add (l * esz))) (r - l) (cap - l)) w := by
              rintro ad cap hc rfl
              have hbr := bounds_run (P := P) (w := w) true n cap hb1 hb2 l r e1 e2 e3 (by omega)
              simp [Instr.sliceAt, Instr.slice, run_underlying ok1, hbr, hso]
            have hN : cutN std n p q = r - l := e6 n rfl
            rw [show cutN (fun {α β} => std) n p q = r - l from hN]
            cases hx with
            | lst0 _ _ ad cap hn =>
              have h0 : r - l = 0 := by omega
              have h1 := go ad cap (by omega) rfl
              rw [h0] at h1 ⊢
              exact adv_value h hd (run _ h1) (.lst0 _ _ _ _ (fun h => by
                have h2 : ad = none := by
                  cases ad with
                  | none => rfl
                  | some _ => split at h <;> cases h
                have := hn h2; omega))
            | lst _ _ _ b o' cap vs hD hc hv hone hr =>
              have h1 := go _ cap hc rfl
              by_cases h0 : r - l = 0
              · rw [h0] at h1 ⊢
                exact adv_value h hd (run _ h1) (.lst0 _ _ _ _ (fun h => by split at h <;> cases h))
              · rw [if_neg (by omega)] at h1
                simp only [Option.map_some, add_none] at h1
                refine adv_value h hd (run _ h1) (.lst _ _ _ b _ _ (fun i j => vs (l + i) j) hD (by omega) (fun i j hi hj => ?_) (fun i j hi hj => hone _ _ (by omega) hj) (fun i j hi hj => ?_))
                · have := hv (l + i) j (by omega) hj
                  rw [Nat.add_mul] at this
                  rw [show o' + l * esz + i * esz + j = o' + (l * esz + i * esz) + j by omega]
                  exact this
                · rw [show cutG (fun {α β} => std) get p i j = get (l + i) j from e7 get i j]
                  exact hr _ _ (by omega) hj
          · trivial
        · rename_i e' esz eb id sz off n hk
          rw [hk] at ok
          obtain ⟨ok1, ok2⟩ := ok
          obtain ⟨ei, hei, hes⟩ := Option.map_eq_some_iff.1 ok2
          simp only [Prod.mk.injEq] at hes
          have hso : (sizeOf e').run P w = .ok esz w := by simp [sizeOf, typeInfo, program, Sem.run, hei, hes.1]
          split
          · rename_i hsz
            obtain rfl := beq_eq hsz
            intro hb
            obtain ⟨l, r, e1, e2, e3, e4, e5, e6, _, e7⟩ := cut_nums (n := (n : Int)) (by omega) hb
            have go : ∀ ad cap, n ≤ cap → u = .slice ad n cap → (Instr.sliceAt t u (lo.map a.eval) (hi.map a.eval) none).run P w = .ok (.slice (if cap = l then ad else ad.map (·.add (l * esz))) (r - l) (cap - l)) w := by
              rintro ad cap hc rfl
              have hbr := bounds_run (P := P) (w := w) true n cap hb1 hb2 l r e1 e2 e3 (by omega)
              simp [Instr.sliceAt, Instr.slice, run_underlying ok1, hbr, hso]
            rw [show cutN (fun {α β} => std) n p q = r - l from e6 n rfl, show cutO (fun {α β} => std) off p = off + l from e5 off]
            cases hx with
            | slv _ _ ad hμ =>
              have h1 := go ad 0 (by omega) rfl
              obtain rfl : l = 0 := by omega
              obtain rfl : r = 0 := by omega
              exact adv_value h hd (run _ h1) (.slv _ _ _ hμ)
            | sl0 _ _ _ b z m o' hμ ho =>
              have h1 := go _ 0 (by omega) rfl
              obtain rfl : l = 0 := by omega
              obtain rfl : r = 0 := by omega
              exact adv_value h hd (run _ h1) (.sl0 _ _ _ b z m _ hμ ho)
            | sl _ _ _ _ b z m cap hμ hn hz ho =>
              have h1 := go _ cap hn rfl
              by_cases hcl : cap = l
              · subst hcl
                rw [if_pos rfl] at h1
                have h0 : r - cap = 0 := by omega
                rw [h0, Nat.sub_self] at h1
                rw [h0]
                exact adv_value h hd (run _ h1) (.sl0 _ _ _ b z m _ hμ (by omega))
              · rw [if_neg hcl] at h1
                simp only [Option.map_some, add_none] at h1
                rw [← Nat.add_mul] at h1
                exact adv_value h hd (run _ h1) (.sl _ _ _ _ b z m _ hμ (by omega) (by rw [show off + l + (cap - l) = off + cap by omega]; exact hz) (by omega))
          · trivial
        · trivial
      · trivial
    · trivial
end

end Sy
end Go.Proofs.YtckbbcjbbmgmoaaDoor
