/- The symbolic executor: indexes, slices, function values, loads. -/
import Derived.Test.YtckbbcjbbmgmoaaDoorSyF
namespace Go.Proofs.YtckbbcjbbmgmoaaDoor
namespace Sy
open Go Go.RowKit
set_option linter.unusedSimpArgs false
set_option linter.unusedVariables false

section
variable {h : Array Obj} {D : Nat → Prop} {μ : Mu}
theorem plain0_R {x : AV} {v : Value} (r : R h D μ x v) (e : plain0 x = true) : R h D noMu x v := by
  cases r with
  | dead v => exact .dead _
  | bool b => exact .bool _
  | int k n => exact .int _ _
  | str l s e' => exact .str _ _ e'
  | nilp => exact .nilp
  | nilm => exact .nilm
  | nilf => exact .nilf
  | nils => exact .nils
  | nili => exact .nili
  | ifn => exact .ifn
  | ifs t p => exact .ifs t p
  | emp a cap => exact .emp _ _
  | emz a => exact .emz _
  | lst0 sz get a cap hn => exact .lst0 _ _ _ _ hn
  | lst sz n get b o cap vs hD hc hv h1 hr => exact .lst _ _ _ b o cap vs hD hc hv h1 hr
  | iptr n get b o vs hD hv h1 hr => exact .iptr _ _ b o vs hD hv h1 hr
  | arr n get vs e0 h1 hr => exact .arr n get vs e0 h1 hr
  | mpi kk n has val b es clock kf hD hb hn hk hr => exact .mpi kk n has val b es clock kf hD hb hn hk hr
  | _ => cases e
theorem plainL_get : ∀ {xs : List AV}, plainL xs = true → ∀ (i : Nat) x, xs[i]? = some x → plain0 x = true
  | x :: xs, e, i, y, hy => by
    simp only [plainL] at e
    split at e
    · rename_i h1
      cases i with
      | zero => simp at hy; subst hy; exact h1
      | succ i => exact plainL_get e i y (by simpa using hy)
    · cases e
theorem free1_R {x : AV} {v : Value} (r : R h D μ x v) (e : free1 x = true) : R h D noMu x v := by
  cases r with
  | fn f xs ys vs us e1 e2 h1 h2 =>
    simp only [free1] at e
    split at e
    · rename_i e'
      exact .fn f xs ys vs us e1 e2 (fun i x v hx hv => plain0_R (h1 i x v hx hv) (plainL_get e' i x hx)) (fun i x v hx hv => plain0_R (h2 i x v hx hv) (plainL_get e i x hx))
    · cases e
  | agg cs vs e1 h1 hr => cases e
  | tup cs vs e1 hr => cases e
  | ref => cases e
  | eref => cases e
  | slv => cases e
  | sl0 => cases e
  | sl => cases e
  | dead v => exact .dead _
  | bool b => exact .bool _
  | int k n => exact .int _ _
  | str l s e' => exact .str _ _ e'
  | nilp => exact .nilp
  | nilm => exact .nilm
  | nilf => exact .nilf
  | nils => exact .nils
  | nili => exact .nili
  | ifn => exact .ifn
  | ifs t p => exact .ifs t p
  | emp a cap => exact .emp _ _
  | emz a => exact .emz _
  | lst0 sz get a cap hn => exact .lst0 _ _ _ _ hn
  | lst sz n get b o cap vs hD hc hv h1 hr => exact .lst _ _ _ b o cap vs hD hc hv h1 hr
  | iptr n get b o vs hD hv h1 hr => exact .iptr _ _ b o vs hD hv h1 hr
  | arr n get vs e0 h1 hr => exact .arr n get vs e0 h1 hr
  | mp => cases e
  | bidx => cases e
  | mpi kk n has val b es clock kf hD hb hn hk hr => exact .mpi kk n has val b es clock kf hD hb hn hk hr
theorem freeL_get : ∀ {xs : List AV}, freeL xs = true → ∀ (i : Nat) x, xs[i]? = some x → free1 x = true
  | x :: xs, e, i, y, hy => by
    simp only [freeL] at e
    split at e
    · rename_i h1
      cases i with
      | zero => simp at hy; subst hy; exact h1
      | succ i => exact freeL_get e i y (by simpa using hy)
    · cases e
end

theorem uniI_get : ∀ {cs : List AV} {k : IntKind} {l : List Int}, uniI cs = some (k, l) → ∀ i, i < cs.length → cs[i]? = some (.int k (l.getD i 0))
  | [.int k n], k', l, e, i, hi => by
    simp [uniI] at e
    obtain ⟨rfl, rfl⟩ := e
    have : i = 0 := by simpa using hi
    subst this; rfl
  | .int k n :: y :: xs, k', l, e, i, hi => by
    simp only [uniI] at e
    split at e
    · rename_i k2 l2 h2
      split at e
      · rename_i hk
        obtain rfl : k = k2 := of_decide_eq_true hk
        simp only [Option.some.injEq, Prod.mk.injEq] at e
        obtain ⟨rfl, rfl⟩ := e
        cases i with
        | zero => rfl
        | succ i =>
          have := uniI_get h2 i (by simpa using hi)
          simpa using this
      · cases e
    · cases e
theorem uniS_get : ∀ {cs : List AV} {l : List (List UInt8)}, uniS cs = some l → ∀ i, i < cs.length → cs[i]? = some (.str (l.getD i []))
  | [.str s], l, e, i, hi => by
    simp [uniS] at e
    subst e
    have : i = 0 := by simpa using hi
    subst this; rfl
  | .str s :: y :: xs, l, e, i, hi => by
    simp only [uniS] at e
    split at e
    · rename_i l2 h2
      cases e
      cases i with
      | zero => rfl
      | succ i =>
        have := uniS_get h2 i (by simpa using hi)
        simpa using this
    · cases e
/-- A row of literal cells: its elements. -/
theorem rowOf_get {cs : List AV} {sz n : Nat} (hl : n * sz ≤ cs.length) {i j : Nat} (hi : i < n) (hj : j < sz) : cs[i * sz + j]? = some (rowOf std cs sz i j) := by
  have hlt : i * sz + j < cs.length := by
    have h1 : (i + 1) * sz ≤ n * sz := Nat.mul_le_mul_right _ hi
    rw [Nat.add_mul] at h1
    omega
  unfold rowOf
  split
  · obtain rfl : j = 0 := by omega
    rw [Nat.mul_one, Nat.add_zero] at *
    cases hu : uniI cs with
    | some kl =>
      obtain ⟨k, l⟩ := kl
      exact uniI_get hu i hlt
    | none =>
      cases hu' : uniS cs with
      | some l => exact uniS_get hu' i hlt
      | none => exact lget_get _ _ _ hlt
  · exact lget_get _ _ _ hlt

theorem inR_spec {i n : Int} (h : L2 std inR i n = true) : 0 ≤ i ∧ i < n := by simpa [L2, std, inR] using h
theorem getD_some {cs : Array Value} {i : Nat} (h : i < cs.size) : cs[i]? = some (cs.getD i undef) := by simp [h]
theorem flat1 (get : Nat → Nat → AV) (sz q : Nat) (hs : 0 < sz) : flat get sz q = get (q / sz) (q % sz) := by
  unfold flat
  split
  · simp [Nat.mod_one]
  · rfl
theorem ltab_get {α : Type} (k : Nat → α) : ∀ (n i j : Nat), (ltab k i n)[j]? = if j < n then some (k (i + j)) else none
  | 0, i, j => by simp [ltab]
  | n + 1, i, 0 => by simp [ltab]
  | n + 1, i, j + 1 => by
    simp only [ltab, List.getElem?_cons_succ, ltab_get k n (i + 1) j, Nat.add_lt_add_iff_right]
    rw [show i + 1 + j = i + (j + 1) by omega]
theorem ltab_len {α : Type} (k : Nat → α) : ∀ (n i : Nat), (ltab k i n).length = n
  | 0, i => rfl
  | n + 1, i => by simp [ltab, ltab_len k n]

theorem arr_of_agg {h : Array Obj} {D : Nat → Prop} {μ : Mu} {n : Nat} {k : Nat → AV} {v : Value} (r : R h D noMu (.agg (ltab k 0 n)) v) : R h D μ (.arr n k) v := by
  obtain ⟨us, rfl, o1, e, hr⟩ := r.inv_agg
  rw [ltab_len] at e
  refine .arr n k us e o1 fun i v hv => ?_
  have hi : i < n := by rw [e]; exact (Array.getElem?_eq_some_iff.1 hv).1
  refine hr i _ v ?_ hv
  rw [ltab_get, if_pos hi, Nat.zero_add]
section
variable {P : Program} {T : TT} {base : Nat} {M : Two} {W : World} {nt : Nat} {f : Nat → Option AV} {g : Nat → Option Ob} {c : Nat → Bool} {a : Act} {w : World} {D : Nat → Prop} {μ : Mu} {o : Oper}

/-- A load of cells that are known. -/
theorem load_run (hT : TsOk P T) {t : Nat} {i : TI} (hi : T.find t = some i) (b o' : Nat) (vs : Nat → Value) (xs : Nat → AV) (hv : ∀ j, j < i.sz → hcell w.heap b (o' + j) = some (vs j)) (h1 : ∀ j, j < i.sz → one (vs j))
    (hr : ∀ j, j < i.sz → R w.heap D μ (xs j) (vs j)) (hs : i.isAgg = false → 0 < i.sz) :
    ∃ u, (Instr.loadAt t (.pointer (some ⟨b, o', none⟩))).run P w = .ok u w ∧ R w.heap D μ (match i.isAgg with | true => .agg (ltab xs 0 i.sz) | false => xs 0) u := by
  have ok := hT t i hi
  unfold Instr.loadAt Instr.sureAddr loadVar
  simp only [Sem.run_bind, Sem.run_pure, Result.andThen_ok, ok.isAgg_]
  cases hag : i.isAgg with
  | true =>
    have hl := run_loadCells (P := P) w ⟨b, o', none⟩ i.sz vs (fun j hj => by rw [add_none, cell_h]; exact hv j hj)
    refine ⟨.agg ((List.range i.sz).map vs).toArray, by simp [ok.sizeOf, hl], .agg _ _ (by simp [ltab_len]) (fun j v hj => ?_) (fun j x v hx hj => ?_)⟩
    · by_cases hjl : j < i.sz
      · simp [hjl] at hj
        exact hj ▸ h1 _ hjl
      · simp [hjl] at hj
    · rw [ltab_get] at hx
      split at hx
      · rename_i hjl
        cases hx
        simp [hjl] at hj
        subst hj
        rw [Nat.zero_add]
        exact hr j hjl
      · cases hx
  | false =>
    have := hs hag
    refine ⟨vs 0, ?_, hr 0 this⟩
    have hc := hv 0 this
    rw [Nat.add_zero] at hc
    simp [run_load, cell_h, hc]

variable (h : Sim base M W nt f g c a w D μ) (hd : ∀ d, o.dst = some d → d < nt)
include h hd

theorem says_func {fn : Fn} {xs ys : Array Operand} (e : o.op = .makeFunc fn xs ys) {vals : List AV} (hv : Ops w.heap D μ a (xs.toList ++ ys.toList) vals) : Says P base M W nt f g c o a w (cFunc fn xs.size vals) := by
  unfold cFunc
  split
  · rename_i k
    have key : ∀ (l : List Operand) (vals : List AV), Ops w.heap D μ a l vals → vals.length = l.length ∧ ∀ (i : Nat) x y, vals[i]? = some x → l[i]? = some y → R w.heap D μ x (a.eval y) := by
      intro l
      induction l with
      | nil => intro vals hv; cases vals with
        | nil => exact ⟨rfl, fun i x y h => by simp at h⟩
        | cons _ _ => exact hv.elim
      | cons z l ih => intro vals hv; cases vals with
        | nil => exact hv.elim
        | cons v vs =>
          obtain ⟨h1, h2⟩ := ih vs hv.2
          refine ⟨by simp [h1], fun i x y hx hy => ?_⟩
          cases i with
          | zero => simp at hx hy; subst hx; subst hy; exact hv.1
          | succ i => exact h2 i x y (by simpa using hx) (by simpa using hy)
    obtain ⟨k1, k2⟩ := key _ _ hv
    simp at k1
    refine adv_value h hd (u := .func (.func k) (xs.map a.eval) (ys.map a.eval)) (by unfold execOp; rw [e]; rfl) (.fn _ _ _ _ _ ?_ ?_ (fun i x v hx hv => ?_) (fun i x v hx hv => ?_))
    · rw [ltake_eq, List.length_take, Array.size_map]; omega
    · rw [ldrop_eq, List.length_drop, Array.size_map]; omega
    · rw [ltake_eq, List.getElem?_take] at hx
      split at hx
      · rename_i hlt
        simp [hlt] at hv
        subst hv
        exact k2 i x _ hx (by rw [List.getElem?_append_left (by simpa using hlt)]; simp [hlt])
      · cases hx
    · rw [ldrop_eq, List.getElem?_drop] at hx
      by_cases hlt : i < ys.size
      · simp [hlt] at hv
        subst hv
        refine k2 _ x _ hx ?_
        rw [List.getElem?_append_right (by simp)]
        simp [hlt]
      · simp [hlt] at hv
  · trivial

theorem says_iaddr (hT : TsOk P T) {t : TypeId} {x y : Operand} (e : o.op = .indexAddr t x y) {vals : List AV} (hv : Ops w.heap D μ a [x, y] vals) {ob : Nat → Option Ob} (hob : ∀ id z, ob id = some z → g id = some z) :
    Says P base M W nt f g c o a w (cIaddr T std t ob vals) := by
  match vals, hv with
  | [v, v'], ⟨hx, hy, _⟩ =>
    have run : ∀ u, (Instr.indexAt t (a.eval x) (a.eval y)).run P w = .ok u w → (execOp a.eval o).run P w = .ok (.value u) w := by
      intro u hu; unfold execOp; rw [e]; simp [hu]
    generalize a.eval x = u at *
    generalize a.eval y = u' at *
    unfold cIaddr
    split
    · rename_i p k i he
      simp only [List.cons.injEq, and_true] at he
      obtain ⟨rfl, rfl⟩ := he
      have e2 := hy.inv_int
      subst e2
      split
      · rename_i ti hti
        have ok := (hT t ti hti).k
        split
        · rename_i e' esz eb hk
          rw [hk] at ok
          obtain ⟨ok1, ok2⟩ := ok
          obtain ⟨ei, hei, hes⟩ := Option.map_eq_some_iff.1 ok2
          simp only [Prod.mk.injEq] at hes
          have hso : (sizeOf e').run P w = .ok esz w := by simp [sizeOf, typeInfo, program, Sem.run, hei, hes.1]
          have go : ∀ b o' n cap, u = .slice (some ⟨b, o', none⟩) n cap → 0 ≤ i → i < n → (Instr.indexAt t u (.int k i)).run P w = .ok (.pointer (some ⟨b, o' + i.toNat * esz, none⟩)) w := by
            rintro b o' n cap rfl h0 h1
            simp [Instr.indexAt, asIntOf, run_underlying ok1, h0, h1, hso, add_none]
          split
          · rename_i sz n get
            split
            · rename_i hsz
              obtain rfl := beq_eq hsz
              intro hb
              obtain ⟨h0, h1⟩ := inR_spec hb
              have h1' : i < (n : Int) := h1
              cases hx with
              | lst0 => omega
              | lst _ _ _ b o' cap vs hD hc hv hone hr =>
                have hlt : i.toNat < n := by omega
                refine adv_value h hd (run _ (go b o' n cap rfl h0 h1')) (.iptr _ _ b _ (fun j => vs i.toNat j) hD (fun j hj => hv _ _ hlt hj) (fun j hj => hone _ _ hlt hj) (fun j hj => hr _ _ hlt hj))
            · trivial
          · rename_i id sz off n
            split
            · rename_i hsz
              obtain rfl := beq_eq hsz
              split
              · rename_i ty cs hg
                split
                · rename_i hk1 hk2
                  have hk1 := blt_lt hk1
                  intro hb
                  have hik : i = ((cs.length / esz - 1 : Nat) : Int) := by
                    rw [← llen_eq]
                    have : (i == natI (llen cs / esz - 1)) = true := hb
                    exact eq_of_beq this
                  rw [llen_eq] at hk1 ⊢
                  cases hx with
                  | slv => omega
                  | sl0 => omega
                  | sl _ _ _ _ b z m cap hμ hn hz ho =>
                    refine adv_value h hd (run _ (go b _ n cap rfl (by omega) (by omega))) ?_
                    rw [hik]
                    rw [show (((cs.length / esz - 1 : Nat) : Int)).toNat = cs.length / esz - 1 by omega, Nat.zero_mul, Nat.zero_add]
                    exact .ref _ _ b z m hμ
                · trivial
              intro hb
              obtain ⟨h0, h1⟩ := inR_spec hb
              have h1' : i < (n : Int) := h1
              cases hx with
              | slv => omega
              | sl0 => omega
              | sl _ _ _ _ b z m cap hμ hn hz ho =>
                refine adv_value h hd (run _ (go b _ n cap rfl h0 h1')) ?_
                have : off * esz + i.toNat * esz = (L2 std Nat.add off (std Int.toNat i)) * esz + 0 := by
                  show _ = (off + i.toNat) * esz + 0
                  rw [Nat.add_mul]; omega
                rw [this]
                exact .eref _ _ _ _ b z m hμ (by show off + i.toNat < m; omega)
            · trivial
          · trivial
        · rename_i n e' esz hk
          rw [hk] at ok
          obtain ⟨ok1, ok2⟩ := ok
          obtain ⟨ei, hei, hes⟩ := Option.map_eq_some_iff.1 ok2
          have hso : (sizeOf e').run P w = .ok esz w := by simp [sizeOf, typeInfo, program, Sem.run, hei, hes]
          split
          · rename_i hn1
            have go : ∀ b o', u = .pointer (some ⟨b, o', none⟩) → 0 ≤ i → i < n → (Instr.indexAt t u (.int k i)).run P w = .ok (.pointer (some ⟨b, o' + i.toNat * esz, none⟩)) w := by
              rintro b o' rfl h0 h1
              simp [Instr.indexAt, asIntOf, run_underlying ok1, h0, h1, hso, add_none, Instr.sureAddr]
            split
            · rename_i id off
              split
              · rename_i sz m get hg
                split
                · rename_i hsz hm
                  obtain rfl := beq_eq hsz
                  obtain rfl := beq_eq hm
                  intro hb
                  obtain ⟨h0, h1⟩ := inR_spec hb
                  cases hx with
                  | ref _ _ b z m' hμ =>
                    obtain ⟨hm', _⟩ := h.obs id _ _ (hob _ _ hg) hμ
                    refine adv_value h hd (run _ (go b _ rfl h0 h1)) ?_
                    rw [Nat.zero_add]
                    exact .eref _ _ _ 0 b z m' hμ (show i.toNat < m' from (by have h1' : i < (m : Int) := h1; omega))
                · trivial
              · rename_i hg
                split
                · rename_i hesz
                  have hesz := beq_eq hesz
                  subst hesz
                  intro hb
                  obtain ⟨h0, h1⟩ := inR_spec hb
                  cases hx with
                  | ref _ _ b z m' hμ =>
                    refine adv_value h hd (run _ (go b _ rfl h0 h1)) ?_
                    rw [Nat.mul_one]
                    exact .bidx _ _ _ _ b z m' hμ (show i.toNat < n from (by have h1' : i < (n : Int) := h1; omega))
                · trivial
              · trivial
            · rename_i m get
              split
              · rename_i hm
                have hm := beq_eq hm
                have key : ∀ (b o' : Nat) (vs : Nat → Value), D b → (∀ j, j < m → hcell w.heap b (o' + j) = some (vs j)) → (∀ j, j < m → one (vs j)) → (∀ j, j < m → R w.heap D noMu (get j) (vs j)) → u = .pointer (some ⟨b, o', none⟩) → 0 ≤ i → i < n →
                    ∀ get' : Nat → AV, (∀ j, j < esz → get' j = get (i.toNat * esz + j)) → Adv P base M W nt f g c o a w (.iptr esz get') [] [] := by
                  intro b o' vs hD hv hone hr hu h0 h1 get' hget
                  have hlt : i.toNat * esz + esz ≤ m := by
                    rw [hm]
                    have : i.toNat + 1 ≤ n := by omega
                    calc i.toNat * esz + esz = (i.toNat + 1) * esz := by rw [Nat.add_mul]; omega
                      _ ≤ n * esz := Nat.mul_le_mul_right _ this
                  exact adv_value h hd (run _ (go b _ hu h0 h1)) (.iptr _ _ b _ (fun j => vs (i.toNat * esz + j)) hD (fun j hj => by rw [Nat.add_assoc]; exact hv _ (by omega)) (fun j hj => hone _ (by omega)) (fun j hj => by rw [hget j hj]; exact hr _ (by omega)))
                split
                · intro hb
                  obtain ⟨h0, h1⟩ := inR_spec hb
                  cases hx with
                  | iptr _ _ b o' vs hD hv hone hr => exact key b o' vs hD hv hone hr rfl h0 h1 _ (fun j hj => by
                      have : j = 0 := by omega
                      subst this; simp [std])
                · intro hb
                  obtain ⟨h0, h1⟩ := inR_spec hb
                  cases hx with
                  | iptr _ _ b o' vs hD hv hone hr => exact key b o' vs hD hv hone hr rfl h0 h1 _ (fun j hj => rfl)
              · trivial
            · trivial
          · trivial
        · trivial
      · trivial
    · trivial

/-- What a load yields. -/
def Lo (P : Program) (D : Nat → Prop) (μ : Mu) (t : TypeId) (u : Value) (w : World) : Act1 → Prop
  | .ok v os ice => os = [] ∧ ice = [] ∧ ∃ y, (Instr.loadAt t u).run P w = .ok y w ∧ R w.heap D μ v y
  | .okIf _ _ _ _ => False
  | .okP _ _ _ _ => False
  | .call _ _ _ => False
  | .bad _ => True
omit hd in
theorem load_val (hT : TsOk P T) {t : TypeId} {v : AV} {u : Value} (hv : R w.heap D μ v u) {ob : Nat → Option Ob} (hob : ∀ id z, ob id = some z → g id = some z) : Lo P D μ t u w (cLoad T std t ob [v]) := by
  unfold cLoad
  simp only
  split
  · rename_i i hi
    have hpos : i.isAgg = false → 0 < i.sz := by
      intro hag
      have := (hT t i hi).single hag
      omega
    split
    · rename_i id off
      split
      · rename_i cs hg
        have hg := hob _ _ hg
        split
        · rename_i hle
          have hle := ble_le hle
          rw [llen_eq] at hle
          cases hv with
          | ref _ _ b z m hμ =>
            obtain ⟨cc, t', fr, hh, _, _, h1, e1, hr⟩ := h.obs id _ _ hg hμ
            obtain ⟨u, hu, r⟩ := load_run (P := P) (D := D) (μ := μ) hT hi b off (fun j => cc.getD (off + j) undef) (fun j => lget .dead cs (off + j))
              (fun j hj => by rw [hcell_of hh]; exact getD_some (by omega)) (fun j hj => h1 (off + j) _ (getD_some (by omega))) (fun j hj => hr (off + j) _ _ (lget_get _ _ _ (by omega)) (getD_some (by omega))) hpos
            split
            · rename_i hag
              rw [hag] at r
              have e2 : ltab (fun j => lget AV.dead cs (off + j)) 0 i.sz = ltake (ldrop cs off) i.sz := by
                apply List.ext_getElem?
                intro j
                rw [ltab_get, ltake_eq, ldrop_eq, List.getElem?_take, List.getElem?_drop]
                split
                · rw [Nat.zero_add]; exact (lget_get _ _ _ (by omega)).symm
                · rfl
              simp only [e2] at r
              exact ⟨rfl, rfl, _, hu, r⟩
            · rename_i hag
              rw [hag] at r
              exact ⟨rfl, rfl, _, hu, r⟩
        · trivial
      · rename_i sz n get hg
        have hg := hob _ _ hg
        split
        · rename_i hag hsz
          have hsz := beq_eq hsz
          cases hv with
          | ref _ _ b z m hμ =>
            obtain ⟨_, cc, t', fr, hh, hcs, _, hle, hrow⟩ := h.obs id _ _ hg hμ
            have hcell : ∀ q, q < i.sz → one (cc.getD q undef) ∧ R w.heap D noMu (flat get sz q) (cc.getD q undef) ∧ q < cc.size := by
              intro q hq
              have hs0 : 0 < sz := by
                rcases Nat.eq_zero_or_pos sz with h0 | h0
                · rw [hsz, h0] at hq; omega
                · exact h0
              obtain ⟨y, hy1, hy2, hy3⟩ := hrow (q / sz) (q % sz) (Nat.div_lt_of_lt_mul (by rw [Nat.mul_comm]; omega)) (Nat.mod_lt _ hs0)
              have e3 : q / sz * sz + q % sz = q := by rw [Nat.mul_comm]; exact Nat.div_add_mod q sz
              rw [e3] at hy1
              have hq' : q < cc.size := by omega
              rw [getD_some hq'] at hy1
              cases hy1
              rw [flat1 _ _ _ hs0]
              exact ⟨hy2, hy3.mono (fun _ _ => rfl) (fun _ h => h) (fun _ _ h => by cases h), hq'⟩
            obtain ⟨u, hu, r⟩ := load_run (P := P) (D := D) (μ := noMu) hT hi b 0 (fun j => cc.getD j undef) (flat get sz)
              (fun j hj => by rw [hcell_of hh, Nat.zero_add]; exact getD_some (hcell j hj).2.2) (fun j hj => (hcell j hj).1) (fun j hj => (hcell j hj).2.1) hpos
            rw [hag] at r
            cases nblt 16 i.sz with
            | true => exact ⟨rfl, rfl, _, hu, arr_of_agg r⟩
            | false => exact ⟨rfl, rfl, _, hu, r.mono (fun _ _ => rfl) (fun _ h => h) (fun _ _ h => by cases h)⟩
        · trivial
      · rename_i cs hg
        have hg := hob _ _ hg
        split
        · rename_i hle
          have hle := ble_le hle
          rw [llen_eq] at hle
          cases hv with
          | ref _ _ b z m hμ =>
            obtain ⟨cc, t', fr, hh, hcz, _, hlz, hr⟩ := h.obs id _ _ hg hμ
            have hcell : ∀ j, j < i.sz → off + j < cc.size ∧ one (cc.getD (off + j) undef) ∧ R w.heap D μ (lget .dead cs (off + j)) (cc.getD (off + j) undef) := by
              intro j hj
              obtain ⟨v, v1, v2, v3⟩ := hr (off + j) _ (lget_get .dead cs (off + j) (by omega))
              have hlt := (Array.getElem?_eq_some_iff.1 v1).1
              rw [getD_some hlt] at v1
              cases v1
              exact ⟨hlt, v2, v3⟩
            obtain ⟨u, hu, r⟩ := load_run (P := P) (D := D) (μ := μ) hT hi b off (fun j => cc.getD (off + j) undef) (fun j => lget .dead cs (off + j))
              (fun j hj => by rw [hcell_of hh]; exact getD_some (hcell j hj).1) (fun j hj => (hcell j hj).2.1) (fun j hj => (hcell j hj).2.2) hpos
            split
            · rename_i hag
              rw [hag] at r
              have e2 : ltab (fun j => lget AV.dead cs (off + j)) 0 i.sz = ltake (ldrop cs off) i.sz := by
                apply List.ext_getElem?
                intro j
                rw [ltab_get, ltake_eq, ldrop_eq, List.getElem?_take, List.getElem?_drop]
                split
                · rw [Nat.zero_add]; exact (lget_get _ _ _ (by omega)).symm
                · rfl
              simp only [e2] at r
              exact ⟨rfl, rfl, _, hu, r⟩
            · rename_i hag
              rw [hag] at r
              exact ⟨rfl, rfl, _, hu, r⟩
        · trivial
      · trivial
    · rename_i id sz q off
      split
      · rename_i sz' n get hg
        have hg := hob _ _ hg
        split
        · rename_i hsz
          obtain rfl := beq_eq hsz
          split
          · rename_i hle
            have hle := ble_le hle
            cases hv with
            | eref _ _ _ _ b z m hμ hi' =>
              obtain ⟨hm', cc, t', fr, hh, hcs, _, hle', hrow⟩ := h.obs id _ _ hg hμ
              subst hm'
              have hcell : ∀ j, j < i.sz → ∃ y, cc[q * sz + off + j]? = some y ∧ one y ∧ R w.heap D μ (get q (off + j)) y := by
                intro j hj
                obtain ⟨y, hy1, hy2, hy3⟩ := hrow q (off + j) hi' (by omega)
                exact ⟨y, by rw [Nat.add_assoc]; exact hy1, hy2, hy3.mono (fun _ _ => rfl) (fun _ h => h) (fun _ _ h => by cases h)⟩
              obtain ⟨u, hu, r⟩ := load_run (P := P) (D := D) (μ := μ) hT hi b (q * sz + off) (fun j => cc.getD (q * sz + off + j) undef) (fun j => get q (off + j))
                (fun j hj => by
                  obtain ⟨y, hy1, _⟩ := hcell j hj
                  rw [hcell_of hh]
                  exact getD_some (Array.getElem?_eq_some_iff.1 hy1).1)
                (fun j hj => by
                  obtain ⟨y, hy1, hy2, _⟩ := hcell j hj
                  rw [getD_some (Array.getElem?_eq_some_iff.1 hy1).1] at hy1
                  cases hy1; exact hy2)
                (fun j hj => by
                  obtain ⟨y, hy1, _, hy3⟩ := hcell j hj
                  rw [getD_some (Array.getElem?_eq_some_iff.1 hy1).1] at hy1
                  cases hy1; exact hy3) hpos
              split
              · rename_i hag
                rw [hag] at r
                exact ⟨rfl, rfl, _, hu, r⟩
              · rename_i hag
                rw [hag] at r
                exact ⟨rfl, rfl, _, hu, r⟩
          · trivial
        · trivial
      · trivial
    · rename_i n get
      split
      · rename_i hle
        have hle := ble_le hle
        cases hv with
        | iptr _ _ b o' vs hD hv hone hr =>
          obtain ⟨u, hu, r⟩ := load_run (P := P) (D := D) (μ := μ) hT hi b o' vs get (fun j hj => hv j (by omega)) (fun j hj => hone j (by omega)) (fun j hj => (hr j (by omega)).free) hpos
          split
          · rename_i hag
            rw [hag] at r
            exact ⟨rfl, rfl, _, hu, r⟩
          · rename_i hag
            rw [hag] at r
            exact ⟨rfl, rfl, _, hu, r⟩
      · trivial
    · rename_i id off n q
      split
      · rename_i ty cs hg
        have hg := hob _ _ hg
        split
        · rename_i hag hle
          have hle := ble_le hle
          rw [llen_eq] at hle
          have hs := (hT t i hi).single hag
          cases hv with
          | bidx _ _ _ _ b z m hμ hq =>
            obtain ⟨cc, t', fr, hh, _, _, h1, e1, hr⟩ := h.obs id _ _ hg hμ
            have hx : cs[off + q]? = some (rowOf std (ltake (ldrop cs off) n) 1 q 0) := by
              have := rowOf_get (cs := ltake (ldrop cs off) n) (sz := 1) (n := n) (by rw [ltake_eq, ldrop_eq]; simp; omega) (i := q) (j := 0) hq (by omega)
              rw [ltake_eq, ldrop_eq, List.getElem?_take, if_pos (by omega), List.getElem?_drop, Nat.mul_one, Nat.add_zero] at this
              rw [ltake_eq, ldrop_eq]
              exact this
            have hlt : off + q < cc.size := by rw [← e1]; exact (List.getElem?_eq_some_iff.1 hx).1
            obtain ⟨u, hu, r⟩ := load_run (P := P) (D := D) (μ := μ) hT hi b (off + q) (fun j => cc.getD (off + q + j) undef) (fun j => match j with | 0 => rowOf std (ltake (ldrop cs off) n) 1 q 0 | _ => .dead)
              (fun j hj => by rw [hcell_of hh]; exact getD_some (by omega)) (fun j hj => h1 _ _ (getD_some (by omega))) (fun j hj => by
                have : j = 0 := by omega
                subst this
                exact hr (off + q) _ _ hx (getD_some hlt)) hpos
            rw [hag] at r
            exact ⟨rfl, rfl, _, hu, r⟩
        · trivial
      · trivial
    · trivial
  · trivial
theorem says_load (hT : TsOk P T) {t : TypeId} {x : Operand} (e : o.op = .load t x) {vals : List AV} (hv : Ops w.heap D μ a [x] vals) {ob : Nat → Option Ob} (hob : ∀ id z, ob id = some z → g id = some z) :
    Says P base M W nt f g c o a w (cLoad T std t ob vals) := by
  match vals, hv with
  | [v], ⟨hv, _⟩ =>
    have run : ∀ u, (Instr.loadAt t (a.eval x)).run P w = .ok u w → (execOp a.eval o).run P w = .ok (.value u) w := by
      intro u hu; unfold execOp; rw [e]; simp [hu]
    have hl := load_val h hT (t := t) hv hob
    generalize cLoad T std t ob [v] = z at hl
    cases z with
    | ok v' os ice =>
      obtain ⟨rfl, rfl, y, hy, r⟩ := hl
      exact adv_value h hd (run _ hy) r
    | bad n => trivial
    | _ => exact hl.elim

end

end Sy
end Go.Proofs.YtckbbcjbbmgmoaaDoor
