/- The symbolic executor: what the leaf operations say, in plain Lean. -/
import Derived.Test.YtckbbcjbbmgmoaaDoorSyS
import Derived.IntWalk
namespace Go.Proofs.YtckbbcjbbmgmoaaDoor
namespace Sy
open Go Go.RowKit

section
variable (a b c : Int) (l m : List UInt8) (n : Nat)
theorem ilt_t : (ilt a b = true) = (a < b) := by simp [ilt]
theorem ilt_f : (ilt a b = false) = (b ≤ a) := by simp [ilt]
theorem ile_t : (ile a b = true) = (a ≤ b) := by simp [ile]
theorem ile_f : (ile a b = false) = (b < a) := by simp [ile]
theorem ieq_t : (ieq a b = true) = (a = b) := by simp [ieq]
theorem ieq_f : (ieq a b = false) = (a ≠ b) := by simp [ieq]
theorem ine_t : (ine a b = true) = (a ≠ b) := by simp [ine]
theorem ine_f : (ine a b = false) = (a = b) := by simp [ine]
theorem seq_t : (seq l m = true) = (l = m) := by simp [seq]
theorem seq_f : (seq l m = false) = (l ≠ m) := by simp [seq]
theorem inR_t : (inR a b = true) = (0 ≤ a ∧ a < b) := by simp [inR]
theorem inS_t : (inS a b c = true) = (0 ≤ a ∧ a ≤ b ∧ b ≤ c) := by simp [inS, and_assoc]
theorem inC_t : (inC a b = true) = (0 ≤ a ∧ a ≤ b) := by simp [inC]
theorem mkOk_t (eb : Nat) : (mkOk eb a b = true) = (0 ≤ a ∧ a ≤ b ∧ (eb : Int) * b ≤ 140737488355328 ∧ b ≤ 9223372036854775807) := by simp [mkOk, and_assoc]
theorem roomOk_t (eb p q : Nat) : (roomOk eb p q = true) = ((p + q) * eb ≤ 140737488355328 ∧ p + q ≤ 9223372036854775807) := by simp [roomOk]
theorem catOk_t : (catOk l m = true) = (l.length + m.length ≤ 9223372036854775807) := by simp [catOk]
theorem fits_bool (x y : Bool) : fits (.bool x) (.bool y) = (y = x) := by simp [fits, fits1, meetA, meetV, Meet.add, andL]
theorem fits_int (k : IntKind) : fits (.int k a) (.int k b) = (b = a) := by simp [fits, fits1, meetA, meetV, Meet.add, andL]
theorem fits_str : fits (.str l) (.str m) = (m = l) := by simp [fits, fits1, meetA, meetV, Meet.add, andL]
theorem fits1_bool (x y : Bool) : fits1 (.bool x) (.bool y) = (y = x) := by simp [fits1, meetA, meetV, Meet.add, andL]
theorem fits1_int (k : IntKind) : fits1 (.int k a) (.int k b) = (b = a) := by simp [fits1, meetA, meetV, Meet.add, andL]
theorem fits1_str : fits1 (.str l) (.str m) = (m = l) := by simp [fits1, meetA, meetV, Meet.add, andL]
theorem fits_tup (x y : List AV) : fits (.tup x) (.tup y) = fitsL x y := rfl
theorem fitsL_cons (x y : AV) (r q : List AV) : fitsL (x :: r) (y :: q) = (fits1 x y ∧ fitsL r q) := rfl
theorem fitsL_nil : fitsL [] [] = True := rfl
theorem slen_is : slen l = l.length := rfl
theorem scat_is : scat l m = l ++ m := rfl
theorem ssub_is : ssub l a b = (l.take b.toNat).drop a.toNat := rfl
theorem sidx_is : sidx l a = (l.getD a.toNat 0).toNat := rfl
theorem lenN_is : lenN l = l.length := rfl
theorem fits3_is (p q r : Nat) : fits3 p q r = (p + q ≤ r) := rfl
theorem nadd0 (p : Nat) : Nat.add 0 p = p := Nat.zero_add p
theorem wquo64 (k : IntKind) : wquo k a b = k.wrap (a.tdiv b) := rfl
theorem imin_is : imin a b = min a b := rfl
theorem imax_is : imax a b = max a b := rfl
theorem natI_is : natI n = n := rfl
theorem wadd64 : wadd .i64 a b = RowKit.wrap64 (a + b) := IntWalk.i64_left _
end
theorem w_i64 (n : Int) : IntKind.i64.wrap n = (n + 9223372036854775808) % 18446744073709551616 - 9223372036854775808 := by simp [IntKind.wrap, IntKind.bits, IntKind.signed]; omega
theorem w_i32 (n : Int) : IntKind.i32.wrap n = (n + 2147483648) % 4294967296 - 2147483648 := by simp [IntKind.wrap, IntKind.bits, IntKind.signed]; omega
theorem w_u64 (n : Int) : IntKind.u64.wrap n = n % 18446744073709551616 := by simp [IntKind.wrap, IntKind.bits, IntKind.signed]
theorem w_u32 (n : Int) : IntKind.u32.wrap n = n % 4294967296 := by simp [IntKind.wrap, IntKind.bits, IntKind.signed]
theorem w_u16 (n : Int) : IntKind.u16.wrap n = n % 65536 := by simp [IntKind.wrap, IntKind.bits, IntKind.signed]
theorem w_u8 (n : Int) : IntKind.u8.wrap n = n % 256 := by simp [IntKind.wrap, IntKind.bits, IntKind.signed]
/-! ### A result that is a struct, part by part -/
theorem pairUp_ps (ps q : List Prop) (ids : List (Nat × Option Nat)) (x y : Nat) : pairUp ⟨ps ++ q, ids⟩ x y = (pairUp ⟨ps, ids⟩ x y).map fun m => ⟨m.ps ++ q, m.ids⟩ := by
  unfold pairUp
  dsimp only
  repeat' split
  all_goals rfl
theorem pairNil_ps (ps q : List Prop) (ids : List (Nat × Option Nat)) (x : Nat) : pairNil ⟨ps ++ q, ids⟩ x = (pairNil ⟨ps, ids⟩ x).map fun m => ⟨m.ps ++ q, m.ids⟩ := by
  unfold pairNil
  dsimp only
  split <;> rfl
theorem meetV_ps (ps q : List Prop) (ids : List (Nat × Option Nat)) (x y : AV) : meetV ⟨ps ++ q, ids⟩ x y = (meetV ⟨ps, ids⟩ x y).map fun m => ⟨m.ps ++ q, m.ids⟩ := by
  cases x <;> cases y <;> first
    | rfl
    | (simp only [meetV, Meet.add, pairUp_ps, pairNil_ps]; done)
    | (simp only [meetV, Meet.add, pairUp_ps, pairNil_ps]
       (repeat' split) <;> (try simp_all) <;> (try (rename_i hh _; subst hh; simp)) <;> (try (rename_i hh _ _; subst hh; simp)))
theorem meetL_ps : ∀ (xs ys : List AV) (ps q : List Prop) (ids : List (Nat × Option Nat)), meetL ⟨ps ++ q, ids⟩ xs ys = (meetL ⟨ps, ids⟩ xs ys).map fun m => ⟨m.ps ++ q, m.ids⟩
  | [], [], ps, q, ids => rfl
  | [], _ :: _, ps, q, ids => rfl
  | _ :: _, [], ps, q, ids => rfl
  | x :: xs, y :: ys, ps, q, ids => by
    unfold meetL
    rw [meetV_ps]
    cases e : meetV ⟨ps, ids⟩ x y with
    | none => rfl
    | some m => exact meetL_ps xs ys m.ps q m.ids
theorem andL_app : ∀ (p : List Prop) (q : Prop), andL (p ++ [q]) = (q ∧ andL p)
  | [], q => by simp [andL]
  | a :: p, q => by
    show (a ∧ andL (p ++ [q])) = (q ∧ a ∧ andL p)
    rw [andL_app p q]
    exact propext ⟨fun ⟨h1, h2, h3⟩ => ⟨h2, h1, h3⟩, fun ⟨h1, h2, h3⟩ => ⟨h2, h1, h3⟩⟩
theorem fits1_agg_cons {x y : AV} {q : Prop} (e : meetV ⟨[], []⟩ x y = some ⟨[q], []⟩) (xs ys : List AV) : fits1 (.agg (x :: xs)) (.agg (y :: ys)) = (q ∧ fits1 (.agg xs) (.agg ys)) := by
  unfold fits1 meetA
  simp only [meetL, e]
  have := meetL_ps xs ys [] [q] []
  rw [List.nil_append] at this
  rw [this]
  cases meetL ⟨[], []⟩ xs ys with
  | none => simp
  | some m =>
    obtain ⟨ps, ids⟩ := m
    cases ids with
    | nil => exact andL_app ps q
    | cons a b => simp
theorem fits1_agg0 : fits1 (.agg []) (.agg []) = True := rfl
theorem fits1_aggi (k : IntKind) (a b : Int) (xs ys : List AV) : fits1 (.agg (.int k a :: xs)) (.agg (.int k b :: ys)) = (b = a ∧ fits1 (.agg xs) (.agg ys)) := fits1_agg_cons (by simp [meetV, Meet.add]) _ _
theorem fits1_aggs (a b : List UInt8) (xs ys : List AV) : fits1 (.agg (.str a :: xs)) (.agg (.str b :: ys)) = (b = a ∧ fits1 (.agg xs) (.agg ys)) := fits1_agg_cons rfl _ _
theorem fits1_aggb (a b : Bool) (xs ys : List AV) : fits1 (.agg (.bool a :: xs)) (.agg (.bool b :: ys)) = (b = a ∧ fits1 (.agg xs) (.agg ys)) := fits1_agg_cons rfl _ _
theorem fits1_lst (sz n n' : Nat) (g g' : Nat → Nat → AV) : fits1 (.lst sz n g) (.lst sz n' g') = (n' = n ∧ ∀ i j, i < n → j < sz → g' i j = g i j) := by simp [fits1, meetA, meetV, Meet.add, beq_same, andL]
theorem fits_lst (sz n n' : Nat) (g g' : Nat → Nat → AV) : fits (.lst sz n g) (.lst sz n' g') = (n' = n ∧ ∀ i j, i < n → j < sz → g' i j = g i j) := fits1_lst sz n n' g g'
theorem fits1_nils (sz n : Nat) (g : Nat → Nat → AV) : fits1 (.lst sz n g) .nils = (0 = n) := by simp [fits1, meetA, meetV, Meet.add, andL]
theorem fits_nils (sz n : Nat) (g : Nat → Nat → AV) : fits (.lst sz n g) .nils = (0 = n) := fits1_nils sz n g
theorem fits1_aggl (sz n n' : Nat) (g g' : Nat → Nat → AV) (xs ys : List AV) : fits1 (.agg (.lst sz n g :: xs)) (.agg (.lst sz n' g' :: ys)) = ((n' = n ∧ ∀ i j, i < n → j < sz → g' i j = g i j) ∧ fits1 (.agg xs) (.agg ys)) := fits1_agg_cons (by simp [meetV, Meet.add, beq_same]) _ _
theorem fits1_aggn (sz n : Nat) (g : Nat → Nat → AV) (xs ys : List AV) : fits1 (.agg (.lst sz n g :: xs)) (.agg (.nils :: ys)) = (0 = n ∧ fits1 (.agg xs) (.agg ys)) := fits1_agg_cons rfl _ _
theorem fits1_arr (n : Nat) (g g' : Nat → AV) : fits1 (.arr n g) (.arr n g') = (∀ j, j < n → g' j = g j) := by simp [fits1, meetA, meetV, Meet.add, beq_same, andL]
theorem fits_arr (n : Nat) (g g' : Nat → AV) : fits (.arr n g) (.arr n g') = (∀ j, j < n → g' j = g j) := fits1_arr n g g'
theorem fits_agg0 : fits (.agg []) (.agg []) = True := rfl
theorem fits_aggi (k : IntKind) (a b : Int) (xs ys : List AV) : fits (.agg (.int k a :: xs)) (.agg (.int k b :: ys)) = (b = a ∧ fits1 (.agg xs) (.agg ys)) := fits1_aggi _ _ _ _ _
theorem fits_aggs (a b : List UInt8) (xs ys : List AV) : fits (.agg (.str a :: xs)) (.agg (.str b :: ys)) = (b = a ∧ fits1 (.agg xs) (.agg ys)) := fits1_aggs _ _ _ _
theorem fits_aggb (a b : Bool) (xs ys : List AV) : fits (.agg (.bool a :: xs)) (.agg (.bool b :: ys)) = (b = a ∧ fits1 (.agg xs) (.agg ys)) := fits1_aggb _ _ _ _

theorem str_eq {h : Array Obj} {D : Nat → Prop} {μ : Mu} {l : List UInt8} {v : Value} (r : R h D μ (.str l) v) : v = .string ⟨l.toArray⟩ := by
  obtain ⟨s, rfl, rfl⟩ := r.inv_str
  simp
theorem str_r (h : Array Obj) (D : Nat → Prop) (μ : Mu) (l : List UInt8) : R h D μ (.str l) (.string ⟨l.toArray⟩) := .str l _ (by simp)
/-- A contract of the old kind: the arguments are told by what is said of them, the world grows at most. -/
theorem ac_of_below {P : Program} {f : FuncId} {fn : Func} {c : Code} {xs : List AV} {args : Array Value} {v : Value} {r : AV} (hf : P.funcs[f]? = some fn) (hb : fn.body = some c) (hn : (fn.name == "runtime.NumGoroutine") = false)
    (ha : ∀ h D vs, RL h D noMu xs vs → vs = args) (hv : ∀ h D, R h D noMu r v) (h : ∀ w, Calls P f args w fun e w' => e = .returned v ∧ Below w.heap.size w w') : ACalls P f xs r := by
  intro D w vs hD hxs hg
  have := ha _ _ _ hxs
  subst this
  unfold CallTo
  rw [callFunc_run hf hn hb]
  refine (h w).mono ?_
  rintro e w' ⟨rfl, hw⟩
  exact ⟨v, D, rfl, hw, fun _ h => h, fun b hb => .inl hb, hv _ _⟩
theorem below_of_same {P : Program} {f : FuncId} {args : Array Value} {v : Value} (h : ∀ w, Calls P f args w fun e w' => e = .returned v ∧ w = w') : ∀ w, Calls P f args w fun e w' => e = .returned v ∧ Below w.heap.size w w' :=
  fun w => (h w).mono fun e w' ⟨h1, h2⟩ => ⟨h1, by subst h2; exact Below.refl _ _⟩
/-- Arguments that are told, one by one. -/
def Tells (x : AV) (v : Value) : Prop := ∀ h D u, R h D noMu x u → u = v
theorem tells_int (k : IntKind) (n : Int) : Tells (.int k n) (.int k n) := fun _ _ _ r => by cases r; rfl
theorem tells_bool (b : Bool) : Tells (.bool b) (.bool b) := fun _ _ _ r => by cases r; rfl
theorem tells_str (l : List UInt8) : Tells (.str l) (.string ⟨l.toArray⟩) := fun _ _ _ r => str_eq r
theorem args0 : ∀ h D vs, RL h D noMu [] vs → vs = #[] := by
  intro h D vs ⟨hl, _⟩
  exact Array.eq_empty_of_size_eq_zero (by simpa using hl.symm)
theorem args1 {x : AV} {v : Value} (hx : Tells x v) : ∀ h D vs, RL h D noMu [x] vs → vs = #[v] := by
  intro h D vs ⟨hl, hr⟩
  obtain ⟨a, ha⟩ : ∃ a, vs.toList = [a] := List.length_eq_one_iff.1 (by simpa using hl.symm)
  have : vs = #[a] := by rw [← Array.toArray_toList (xs := vs), ha]
  subst this
  rw [hx _ _ a (hr 0 x a rfl rfl)]
theorem args2 {x y : AV} {v u : Value} (hx : Tells x v) (hy : Tells y u) : ∀ h D vs, RL h D noMu [x, y] vs → vs = #[v, u] := by
  intro h D vs ⟨hl, hr⟩
  obtain ⟨a, b, ha⟩ : ∃ a b, vs.toList = [a, b] := by
    have hl : vs.toList.length = 2 := by simpa using hl.symm
    match vs.toList, hl with
    | [a, b], _ => exact ⟨a, b, rfl⟩
  have : vs = #[a, b] := by rw [← Array.toArray_toList (xs := vs), ha]
  subst this
  rw [hx _ _ a (hr 0 x a rfl rfl), hy _ _ b (hr 1 y b rfl rfl)]

/-! ### Summaries, function by function -/
abbrev Ent1 := Nat × (List AV → Option (Prop × AV))
abbrev EntM := Nat × MSum
def fzOf (l : List Ent1) : FuncId → List AV → Option (Prop × AV) := fun f xs => match aget l f with | some g => g xs | none => none
def sumOf (l : List Ent1) : Sums := ⟨fzOf l, fun _ => none⟩
def sumOfM (l : List Ent1) (lm : List EntM) : Sums := ⟨fzOf l, aget lm⟩
def Good (P : Program) (e : Ent1) : Prop := ∀ xs p r, e.2 xs = some (p, r) → p → ACalls P e.1 xs r
def Goods (P : Program) : List Ent1 → Prop
  | [] => True
  | e :: l => Good P e ∧ Goods P l
def GoodM (P : Program) (e : EntM) : Prop := ∀ raw ob T, e.2 raw ob = some T → T.p → MCalls P e.1 T.xs T.O T.r T.O1
def GoodMs (P : Program) : List EntM → Prop
  | [] => True
  | e :: l => GoodM P e ∧ GoodMs P l
theorem fzOf_ok {P : Program} : ∀ {l : List Ent1}, Goods P l → ∀ f xs p r, fzOf l f xs = some (p, r) → p → ACalls P f xs r
  | [], _, f, xs, p, r, h => by cases h
  | (n, g) :: l, ⟨hg, hl⟩, f, xs, p, r, h => by
    unfold fzOf aget at h
    by_cases e : n = f
    · subst e
      rw [beq_same] at h
      exact hg xs p r h
    · rw [beq_no e] at h
      exact fzOf_ok hl f xs p r h
theorem mtOf_ok {P : Program} : ∀ {l : List EntM}, GoodMs P l → ∀ f m, aget l f = some m → ∀ raw ob T, m raw ob = some T → T.p → MCalls P f T.xs T.O T.r T.O1
  | [], _, f, m, h => by cases h
  | (n, g) :: l, ⟨hg, hl⟩, f, m, h => by
    unfold aget at h
    by_cases e : n = f
    · subst e
      rw [beq_same] at h
      cases h
      exact hg
    · rw [beq_no e] at h
      exact mtOf_ok hl f m h
theorem sumOf_ok {P : Program} {l : List Ent1} (h : Goods P l) : SumsOk P (sumOf l) := ⟨fzOf_ok h, fun f m h => by cases h⟩
theorem sumOfM_ok {P : Program} {l : List Ent1} {lm : List EntM} (h : Goods P l) (hm : GoodMs P lm) : SumsOk P (sumOfM l lm) := ⟨fzOf_ok h, mtOf_ok hm⟩
/-- The law's own function answers true: the walk of the law. -/
theorem law_of_ac {P : Program} {f : FuncId} {fn : Func} {c : Code} {xs : List AV} {vs : Array Value} (hf : P.funcs[f]? = some fn) (hb : fn.body = some c) (hn : (fn.name == "runtime.NumGoroutine") = false)
    (h : ACalls P f xs (.bool true)) (D : Nat → Prop) (w : World) (hD : ∀ b, D b → b < w.heap.size) (hr : RL w.heap D noMu xs vs) (hg : GOk w := by trivial) : Calls P f vs w fun e w' => e = .returned (.bool true) ∧ Below w.heap.size w w' := by
  have h := h D w vs hD hr hg
  unfold CallTo at h
  rw [callFunc_run hf hn hb] at h
  refine h.mono ?_
  rintro e w' ⟨v, D', rfl, hw, _, _, r⟩
  cases r
  exact ⟨rfl, hw⟩
theorem rl_nil {h : Array Obj} {D : Nat → Prop} : RL h D noMu [] #[] := ⟨rfl, fun i x v h => by simp at h⟩
theorem rl_of {h : Array Obj} {D : Nat → Prop} {xs : List AV} {vs : Array Value} {x : AV} {v : Value} (hx : R h D noMu x v) (hr : RL h D noMu xs ⟨vs.toList⟩) : RL h D noMu (x :: xs) ⟨v :: vs.toList⟩ := by
  obtain ⟨h1, h2⟩ := hr
  refine ⟨by simpa using h1, ?_⟩
  intro i y u hy hu
  cases i with
  | zero => simp at hy hu; subst hy hu; exact hx
  | succ i => simp at hy hu; exact h2 i y u hy (by simpa using hu)
theorem over1 (q : Nat) (k : IntKind) (v : Int) (f : Nat → Int) (i j : Nat) (h : j < 1) : over std q 0 1 [.int k v] (fun i _ => .int k (f i)) i j = .int k (if i = q then v else f i) := by
  rw [over_get, if_pos (by omega)]
  have h0 : j = 0 := by omega
  subst h0
  by_cases e : i = q
  · subst e; simp [sel1, lget, L3, std, beq_same]
  · simp [beq_no e, sel1, lget, L3, std, e]
theorem blt_t {p q : Nat} (h : p < q) : nblt p q = true := by rw [nblt_eq]; exact h
theorem blt_f {p q : Nat} (h : ¬ p < q) : nblt p q = false := by rw [Bool.eq_false_iff, ne_eq, nblt_eq]; exact h
theorem agg_r {h : Array Obj} {D : Nat → Prop} {xs : List AV} {vs : Array Value} (hr : RL h D noMu xs vs) (h1 : ∀ (i : Nat) v, vs[i]? = some v → one v) : R h D noMu (.agg xs) (.agg vs) := .agg xs vs hr.1 h1 hr.2
theorem lst_same {h : Array Obj} {D : Nat → Prop} {μ : Mu} {sz n : Nat} {g g' : Nat → Nat → AV} {v : Value} (r : R h D μ (.lst sz n g) v) (e : ∀ i j, i < n → j < sz → g i j = g' i j) : R h D μ (.lst sz n g') v := by
  cases r with
  | lst0 sz get a cap hn => exact .lst0 _ _ _ _ hn
  | lst sz n get b o cap vs hD hc hv h1 hr => exact .lst _ _ _ b o cap vs hD hc hv h1 (fun i j hi hj => by rw [← e i j hi hj]; exact hr i j hi hj)
set_option linter.defProp false in
/-- The leaf operations, all together (one name for the simplifier). -/
def sySet := And.intro @ilt_t (And.intro @ilt_f (And.intro @ile_t (And.intro @ile_f (And.intro @ieq_t (And.intro @ieq_f (And.intro @ine_t (And.intro @ine_f (And.intro @seq_t (And.intro @seq_f (And.intro @inR_t (And.intro @inS_t (And.intro @inC_t (And.intro @mkOk_t (And.intro @roomOk_t (And.intro @catOk_t (And.intro @fits_bool (And.intro @fits_int (And.intro @fits_str (And.intro @fits1_bool (And.intro @fits1_int (And.intro @fits1_str (And.intro @fits_tup (And.intro @fitsL_cons (And.intro @fitsL_nil (And.intro @slen_is (And.intro @scat_is (And.intro @ssub_is (And.intro @sidx_is (And.intro @natI_is (And.intro @imin_is (And.intro @imax_is (And.intro @Bool.not_eq_true' (And.intro @Bool.not_eq_false' (And.intro @Bool.and_eq_true (And.intro @Bool.and_eq_false_imp (And.intro @Bool.or_eq_true (And.intro @Bool.or_eq_false_iff (And.intro @Bool.not_true (And.intro @Bool.not_false (And.intro @w_i64 (And.intro @w_i32 (And.intro @w_u64 (And.intro @w_u32 (And.intro @w_u16 (And.intro @w_u8 (And.intro @Int.zero_add (And.intro @lenN_is (And.intro @fits3_is (And.intro @nadd0 (And.intro @fits1_agg0 (And.intro @fits1_aggi (And.intro @fits1_aggs (And.intro @fits1_aggb (And.intro @fits_agg0 (And.intro @fits_aggi (And.intro @fits_aggs (And.intro @fits_aggb (And.intro @fits1_lst (And.intro @fits_lst (And.intro @fits1_nils (And.intro @fits_nils (And.intro @fits1_aggl (And.intro @fits1_aggn (And.intro @fits1_arr @fits_arr))))))))))))))))))))))))))))))))))))))))))))))))))))))))))))))))
end Sy
end Go.Proofs.YtckbbcjbbmgmoaaDoor
