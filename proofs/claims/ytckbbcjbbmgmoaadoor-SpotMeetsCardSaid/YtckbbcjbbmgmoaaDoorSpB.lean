/- Chapters 3 and 4: the document's Cut, Text, Bytes, Any, Meet, Parse. -/
import Derived.Test.YtckbbcjbbmgmoaaDoorSpA
namespace Go.Proofs.YtckbbcjbbmgmoaaDoor
namespace Sy
open Go Go.RowKit
set_option maxRecDepth 100000
set_option linter.unusedSimpArgs false
set_option linter.unusedVariables false

structure Cx where
  i : Nat
  f : Nat
  q : Nat
def spC (s : List UInt8) (c : Int) : List (List UInt8) := splitC (ub c) s
def cxI (s : List UInt8) (c : Int) (x : Cx) : Prop :=
  (x.i ≤ s.length ∧ x.f ≤ x.i ∧ splitC (ub c) (s.drop x.f) = (spC s c).drop x.q ∧ (∀ k, x.f ≤ k → k < x.i → s[k]? ≠ some (ub c)) ∧ x.q < (spC s c).length) ∨ (x.i = s.length + 1 ∧ x.q = (spC s c).length)
def rcA (L : Seal) (s : List UInt8) (c : Int) : Nat → St → Option Ann := fun id st => match id with
  | 0 => some ⟨Cx, fun x => [(7, .int .i64 (L natI (L Cx.i x))), (6, .int .i64 (L natI (L Cx.f x))), (5, .sl 900 1 0 (L Cx.q x))], fun x => [(900, .row 9 1 (L Cx.q x) (fun j _ => .str (L2 L nthS (L2 L spC s c) j)))], [0, 1], [],
      fun x => L3 L cxI s c x, fun x => L2 L (fun (s : List UInt8) (x : Cx) => s.length + 1 - x.i) s x⟩
  | _ => none
def cOk (c : Int) : Prop := 0 ≤ c ∧ c ≤ 255
def rcut_s (L : Seal) : Ent1 := (28, fun xs => match xs with
  | [.str s, .int .u8 c] => some (L2 L upto 1000000 s ∧ L cOk c, lstS L (L2 L spC s c))
  | _ => none)
theorem sidx_u {s : List UInt8} {i : Nat} (h : i < s.length) : sidx s (natI i) = (s[i].toNat : Int) := by
  rw [sidx, natI, Int.toNat_natCast, List.getD_eq_getElem?_getD, List.getElem?_eq_getElem h, Option.getD_some]
theorem ub_eq {u : UInt8} {c : Int} (h : cOk c) : (u.toNat : Int) = c ↔ u = ub c := by
  constructor
  · rintro rfl
    apply UInt8.toNat_inj.1
    rw [ub, UInt8.toNat_ofNat', Int.toNat_natCast]
    have := u.toNat_lt; omega
  · rintro rfl
    exact ub_nat h.1 h.2
theorem rc_cut {s : List UInt8} {c : Int} {x : Cx} (h : cxI s c x) (hi : x.i < s.length) (hc : s[x.i] = ub c) : cxI s c ⟨x.i + 1, x.i + 1, x.q + 1⟩ ∧ nthS (spC s c) x.q = (s.take x.i).drop x.f ∧ x.f ≤ x.i := by
  rcases h with ⟨h1, h2, h3, h4, h5⟩ | ⟨h1, _⟩
  · have e := splitC_at (c := ub c) (s := s.drop x.f) (m := x.i - x.f) (fun k hk => by rw [List.getElem?_drop]; exact h4 _ (by omega) (by omega)) (by rw [List.getElem?_drop, show x.f + (x.i - x.f) = x.i by omega, List.getElem?_eq_getElem hi, hc])
    rw [h3, List.drop_drop, show x.f + (x.i - x.f + 1) = x.i + 1 by omega] at e
    rw [List.drop_eq_getElem_cons h5] at e
    obtain ⟨e1, e2⟩ := List.cons.inj e
    refine ⟨.inl ⟨by show x.i + 1 ≤ _; omega, Nat.le_refl _, e2.symm, fun k hk hk' => by (have : x.i + 1 ≤ k := hk); (have : k < x.i + 1 := hk'); omega, ?_⟩, ?_, h2⟩
    · show x.q + 1 < _
      have hl := congrArg List.length e2
      have := splitC_len (ub c) (s.drop (x.i + 1))
      rw [List.length_drop] at hl
      omega
    · rw [nthS, List.getD_eq_getElem?_getD, List.getElem?_eq_getElem h5]
      show (spC s c)[x.q] = _
      rw [e1, List.drop_take]
  · omega
theorem rc_end {s : List UInt8} {c : Int} {x : Cx} (h : cxI s c x) (hi : x.i = s.length) : cxI s c ⟨x.i + 1, x.i + 1, x.q + 1⟩ ∧ nthS (spC s c) x.q = (s.take x.i).drop x.f ∧ x.f ≤ x.i := by
  rcases h with ⟨h1, h2, h3, h4, h5⟩ | ⟨h1, _⟩
  · have e := splitC_no (c := ub c) (s := s.drop x.f) (fun k hk => by
      rw [List.getElem?_drop] at hk
      have := (List.getElem?_eq_some_iff.1 hk).1
      exact h4 (x.f + k) (by omega) (by omega) hk)
    rw [h3, List.drop_eq_getElem_cons h5] at e
    obtain ⟨e1, e2⟩ := List.cons.inj e
    have hl := congrArg List.length e2
    rw [List.length_drop, List.length_nil] at hl
    refine ⟨.inr ⟨by show x.i + 1 = _; omega, by show x.q + 1 = _; omega⟩, ?_, h2⟩
    rw [nthS, List.getD_eq_getElem?_getD, List.getElem?_eq_getElem h5]
    show (spC s c)[x.q] = _
    rw [e1, List.take_of_length_le (by omega)]
  · omega
theorem rc_skip {s : List UInt8} {c : Int} {x : Cx} (h : cxI s c x) (hi : x.i < s.length) (hc : s[x.i] ≠ ub c) : cxI s c ⟨x.i + 1, x.f, x.q⟩ := by
  rcases h with ⟨h1, h2, h3, h4, h5⟩ | ⟨h1, _⟩
  · refine .inl ⟨by show x.i + 1 ≤ _; omega, by show x.f ≤ x.i + 1; omega, h3, fun k hk hk' => ?_, h5⟩
    by_cases hki : k = x.i
    · rw [hki, List.getElem?_eq_getElem hi]
      exact fun e => hc (Option.some.inj e)
    · have hk' : k < x.i + 1 := hk'
      exact h4 k hk (by omega)
  · omega
theorem spC_len (s : List UInt8) (c : Int) : (spC s c).length ≤ s.length + 1 := by
  rw [spC, splitC_len]
  have := List.count_le_length (a := ub c) (l := s)
  omega
theorem cx_q {s : List UInt8} {c : Int} {x : Cx} (h : cxI s c x) : x.q ≤ (spC s c).length ∧ x.i ≤ s.length + 1 := by
  rcases h with ⟨h1, h2, h3, h4, h5⟩ | ⟨h1, h2⟩
  · exact ⟨by omega, by omega⟩
  · exact ⟨by omega, by omega⟩
theorem rc_meet {P : List (List UInt8)} {q : Nat} {t : List UInt8} (h : nthS P q = t) (i j : Nat) (hi : i < q + 1) (hj : j < 1) : sel1 std (nblt i q) (.str (nthS P i)) (.str (nthS [t] (i - q))) = .str (nthS P i) := by
  by_cases hk : i < q
  · rw [blt_t hk]; rfl
  · have : i = q := by omega
    subst this
    rw [blt_f (by omega), Nat.sub_self, h]; rfl
theorem rcut_good : Good Tryd.prog (rcut_s std) := by
  intro xs p r h hp
  dsimp only [rcut_s] at h ⊢
  split at h <;> cases h
  try simp only [L2, L3, std] at hp ⊢
  rename_i s c
  obtain ⟨hp, hc⟩ : s.length ≤ 1000000 ∧ cOk c := hp
  refine acalls_L (T := tt) (S := noS) (lo := fun L => rcA L s c) (lb := noA) 5 (fn := Tryd.f28) rfl rfl (by kernel_rfl) (by kernel_rfl) rfl tt_ok (noS_ok _) (by kernel_rfl) ?_
  intro L P' Q' hL hP hQ
  (cbv; try simp only [sat_need, sat_must, sat_ite, sat_done, sat_yes, sat_ex, sat_all, sat_sup, sat_and, sat_fail, true_and, and_true])
  refine ⟨⟨⟨0, 0, 0⟩, ?_⟩, fun x hx => ?_⟩
  · (cbv; try simp only [sat_need, sat_must, sat_ite, sat_done, sat_yes, sat_ex, sat_all, sat_sup, sat_and, sat_fail, true_and, and_true])
    (subst hL; subst hQ; simp only [L2, L3, std] at *; try simp only [sySet, reduceCtorEq, forall_const, Int.reduceToNat, Int.reduceAdd, Int.reduceSub, Int.cast_ofNat_Int, Int.toNat_natCast, Nat.le_eq, Nat.sub_eq, ne_eq, Decidable.not_not, implies_true, true_and, and_true, wadd, wsub, wmul, decide_eq_true_eq, decide_eq_false_iff_not, Nat.succ_eq_add_one, imp_false, not_false_eq_true, not_true_eq_false, false_imp_iff, true_imp_iff] at *)
    exact .inl ⟨Nat.zero_le _, Nat.le_refl _, rfl, fun k _ hk => by (have hk : k < 0 := hk); omega, by rw [spC, splitC_len]; exact Nat.succ_pos _⟩
  · cbv at hx
    (cbv; try simp only [sat_need, sat_must, sat_ite, sat_done, sat_yes, sat_ex, sat_all, sat_sup, sat_and, sat_fail, true_and, and_true])
    obtain ⟨i', hi'⟩ : ∃ i', i' = x.i + 1 := ⟨_, rfl⟩
    obtain ⟨q', hq'⟩ : ∃ q', q' = x.q + 1 := ⟨_, rfl⟩
    have hxx : cxI s c x := by
      have h := hx
      rw [hL] at h
      exact h
    have hb := cx_q hxx
    have hsl := spC_len s c
    refine ⟨fun h1 => ⟨fun h2 => ⟨?_, ?_, ⟨i', i', q'⟩, ?_⟩, fun h2 => ⟨?_, fun h3 => ⟨?_, ?_, ⟨i', i', q'⟩, ?_⟩, fun h3 => ⟨⟨i', x.f, x.q⟩, ?_⟩⟩⟩, fun h1 => ?_⟩
    · (subst hL; subst hQ; simp only [L2, L3, std] at *; try simp only [sySet, reduceCtorEq, forall_const, Int.reduceToNat, Int.reduceAdd, Int.reduceSub, Int.cast_ofNat_Int, Int.toNat_natCast, Nat.le_eq, Nat.sub_eq, ne_eq, Decidable.not_not, implies_true, true_and, and_true, wadd, wsub, wmul, decide_eq_true_eq, decide_eq_false_iff_not, Nat.succ_eq_add_one, imp_false, not_false_eq_true, not_true_eq_false, false_imp_iff, true_imp_iff] at *)
      have := (rc_end hx (by omega)).2.2
      omega
    · (subst hL; subst hQ; simp only [L2, L3, std] at *; try simp only [sySet, reduceCtorEq, forall_const, Int.reduceToNat, Int.reduceAdd, Int.reduceSub, Int.cast_ofNat_Int, Int.toNat_natCast, Nat.le_eq, Nat.sub_eq, ne_eq, Decidable.not_not, implies_true, true_and, and_true, wadd, wsub, wmul, decide_eq_true_eq, decide_eq_false_iff_not, Nat.succ_eq_add_one, imp_false, not_false_eq_true, not_true_eq_false, false_imp_iff, true_imp_iff] at *)
      omega
    · (cbv; try simp only [sat_need, sat_must, sat_ite, sat_done, sat_yes, sat_ex, sat_all, sat_sup, sat_and, sat_fail, true_and, and_true])
      (subst hL; subst hQ; simp only [L2, L3, std] at *; try simp only [sySet, reduceCtorEq, forall_const, Int.reduceToNat, Int.reduceAdd, Int.reduceSub, Int.cast_ofNat_Int, Int.toNat_natCast, Nat.le_eq, Nat.sub_eq, ne_eq, Decidable.not_not, implies_true, true_and, and_true, wadd, wsub, wmul, decide_eq_true_eq, decide_eq_false_iff_not, Nat.succ_eq_add_one, imp_false, not_false_eq_true, not_true_eq_false, false_imp_iff, true_imp_iff] at *)
      obtain ⟨r1, r2, r3⟩ := rc_end hx (by omega)
      subst hi' hq'
      exact ⟨⟨rfl, rc_meet r2⟩, rfl, by omega, by omega, r1, by omega⟩
    · (subst hL; subst hQ; simp only [L2, L3, std] at *; try simp only [sySet, reduceCtorEq, forall_const, Int.reduceToNat, Int.reduceAdd, Int.reduceSub, Int.cast_ofNat_Int, Int.toNat_natCast, Nat.le_eq, Nat.sub_eq, ne_eq, Decidable.not_not, implies_true, true_and, and_true, wadd, wsub, wmul, decide_eq_true_eq, decide_eq_false_iff_not, Nat.succ_eq_add_one, imp_false, not_false_eq_true, not_true_eq_false, false_imp_iff, true_imp_iff] at *)
      omega
    · (subst hL; subst hQ; simp only [L2, L3, std] at *; try simp only [sySet, reduceCtorEq, forall_const, Int.reduceToNat, Int.reduceAdd, Int.reduceSub, Int.cast_ofNat_Int, Int.toNat_natCast, Nat.le_eq, Nat.sub_eq, ne_eq, Decidable.not_not, implies_true, true_and, and_true, wadd, wsub, wmul, decide_eq_true_eq, decide_eq_false_iff_not, Nat.succ_eq_add_one, imp_false, not_false_eq_true, not_true_eq_false, false_imp_iff, true_imp_iff] at *)
      have hlt : x.i < s.length := by omega
      have := (rc_cut hx hlt ((ub_eq hc).1 (by rw [← sidx_u hlt]; exact h3))).2.2
      omega
    · (subst hL; subst hQ; simp only [L2, L3, std] at *; try simp only [sySet, reduceCtorEq, forall_const, Int.reduceToNat, Int.reduceAdd, Int.reduceSub, Int.cast_ofNat_Int, Int.toNat_natCast, Nat.le_eq, Nat.sub_eq, ne_eq, Decidable.not_not, implies_true, true_and, and_true, wadd, wsub, wmul, decide_eq_true_eq, decide_eq_false_iff_not, Nat.succ_eq_add_one, imp_false, not_false_eq_true, not_true_eq_false, false_imp_iff, true_imp_iff] at *)
      omega
    · (cbv; try simp only [sat_need, sat_must, sat_ite, sat_done, sat_yes, sat_ex, sat_all, sat_sup, sat_and, sat_fail, true_and, and_true])
      (subst hL; subst hQ; simp only [L2, L3, std] at *; try simp only [sySet, reduceCtorEq, forall_const, Int.reduceToNat, Int.reduceAdd, Int.reduceSub, Int.cast_ofNat_Int, Int.toNat_natCast, Nat.le_eq, Nat.sub_eq, ne_eq, Decidable.not_not, implies_true, true_and, and_true, wadd, wsub, wmul, decide_eq_true_eq, decide_eq_false_iff_not, Nat.succ_eq_add_one, imp_false, not_false_eq_true, not_true_eq_false, false_imp_iff, true_imp_iff] at *)
      have hlt : x.i < s.length := by omega
      obtain ⟨r1, r2, r3⟩ := rc_cut hx hlt ((ub_eq hc).1 (by rw [← sidx_u hlt]; exact h3))
      subst hi' hq'
      exact ⟨⟨rfl, rc_meet r2⟩, rfl, by omega, by omega, r1, by omega⟩
    · (cbv; try simp only [sat_need, sat_must, sat_ite, sat_done, sat_yes, sat_ex, sat_all, sat_sup, sat_and, sat_fail, true_and, and_true])
      (subst hL; subst hQ; simp only [L2, L3, std] at *; try simp only [sySet, reduceCtorEq, forall_const, Int.reduceToNat, Int.reduceAdd, Int.reduceSub, Int.cast_ofNat_Int, Int.toNat_natCast, Nat.le_eq, Nat.sub_eq, ne_eq, Decidable.not_not, implies_true, true_and, and_true, wadd, wsub, wmul, decide_eq_true_eq, decide_eq_false_iff_not, Nat.succ_eq_add_one, imp_false, not_false_eq_true, not_true_eq_false, false_imp_iff, true_imp_iff] at *)
      have hlt : x.i < s.length := by omega
      have r1 := rc_skip hx hlt (fun e => h3 (by show sidx s (natI x.i) = c; rw [sidx_u hlt]; exact (ub_eq hc).2 e))
      subst hi' hq'
      exact ⟨by omega, r1, by omega⟩
    · (subst hL; subst hQ; simp only [L2, L3, std] at *; try simp only [sySet, reduceCtorEq, forall_const, Int.reduceToNat, Int.reduceAdd, Int.reduceSub, Int.cast_ofNat_Int, Int.toNat_natCast, Nat.le_eq, Nat.sub_eq, ne_eq, Decidable.not_not, implies_true, true_and, and_true, wadd, wsub, wmul, decide_eq_true_eq, decide_eq_false_iff_not, Nat.succ_eq_add_one, imp_false, not_false_eq_true, not_true_eq_false, false_imp_iff, true_imp_iff] at *)
      rcases hx with ⟨g1, -⟩ | ⟨g1, g2⟩
      · omega
      · rw [g2]
        show fits (.lst 1 (spC s c).length _) _
        rw [fits_lst]
        exact ⟨rfl, fun i j hi hj => rfl⟩
/-! ### The document's place -/
def rbytes_s (L : Seal) : Ent1 := (17, fun xs => match xs with
  | [.agg [.int .u8 a, .int .u8 b, .int .u8 c, .int .u8 d, .int .u16 p]] => some (L plOk (mkPl L a b c d p), .str (L plB (mkPl L a b c d p)))
  | _ => none)
theorem rbytes_good : Good Tryd.prog (rbytes_s std) := by
  intro xs p r h hp
  dsimp only [rbytes_s] at h ⊢
  split at h <;> cases h
  try simp only [L2, L3, std] at hp ⊢
  rename_i a b c d p
  have hp : plOk ⟨a, b, c, d, p⟩ := hp
  refine acalls_L (T := tt) (S := noS) (lo := noA) (lb := noA) 5 (fn := Tryd.f17) rfl rfl (by kernel_rfl) (by kernel_rfl) rfl tt_ok (noS_ok _) (by kernel_rfl) ?_
  (intro L P1 Q1 hL hP hQ; cbv; subst hL; simp only [L2, L3, std, sat_need, sat_must, sat_ite, sat_done, sat_yes, sat_ex, sat_all, sat_sup, sat_and, sat_fail]; subst hQ)
  (simp only [sySet, reduceCtorEq, forall_const, Int.reduceToNat, Int.reduceAdd, Int.reduceSub, Int.cast_ofNat_Int, Int.toNat_natCast, Nat.le_eq, Nat.sub_eq, ne_eq, Decidable.not_not, implies_true, true_and, and_true, wadd, wsub, wmul, decide_eq_true_eq, decide_eq_false_iff_not, Nat.succ_eq_add_one, imp_false, not_false_eq_true, not_true_eq_false, false_imp_iff, true_imp_iff])
  obtain ⟨-, -, -, -, h1, h2⟩ := hp
  simp only at h1 h2
  refine ⟨by omega, by omega, by omega, by omega, by decide, by decide, ⟨by omega, fun i _ => ⟨_, rfl⟩⟩, ?_⟩
  have e1 : wquo .u16 p 256 % 256 = p / 256 := by
    have e : wquo .u16 p 256 = IntKind.u16.wrap (p.tdiv 256) := rfl
    rw [e, w_u16, Int.tdiv_eq_ediv_of_nonneg h1]; omega
  have e2 : p.tmod 256 % 256 = p % 256 := by rw [Int.tmod_eq_emod_of_nonneg h1]; omega
  rw [e1, e2]
  rfl
def rany_s (L : Seal) : Ent1 := (19, fun xs => match xs with
  | [.agg [.int .u8 a, .int .u8 b, .int .u8 c, .int .u8 d, .int .u16 p]] => some (True, .bool (L plAny (mkPl L a b c d p)))
  | _ => none)
theorem rany_good : Good Tryd.prog (rany_s std) := by
  intro xs p r h hp
  dsimp only [rany_s] at h ⊢
  split at h <;> cases h
  try simp only [L2, L3, std] at hp ⊢
  rename_i a b c d p
  refine acalls_L (T := tt) (S := noS) (lo := noA) (lb := noA) 5 (fn := Tryd.f19) rfl rfl (by kernel_rfl) (by kernel_rfl) rfl tt_ok (noS_ok _) (by kernel_rfl) ?_
  (intro L P1 Q1 hL hP hQ; cbv; subst hL; simp only [L2, L3, std, sat_need, sat_must, sat_ite, sat_done, sat_yes, sat_ex, sat_all, sat_sup, sat_and, sat_fail]; subst hQ)
  (simp only [sySet, reduceCtorEq, forall_const, Int.reduceToNat, Int.reduceAdd, Int.reduceSub, Int.cast_ofNat_Int, Int.toNat_natCast, Nat.le_eq, Nat.sub_eq, ne_eq, Decidable.not_not, implies_true, true_and, and_true, wadd, wsub, wmul, decide_eq_true_eq, decide_eq_false_iff_not, Nat.succ_eq_add_one, imp_false, not_false_eq_true, not_true_eq_false, false_imp_iff, true_imp_iff])
  show _ ∧ (a = 0 → _ ∧ (b = 0 → _ ∧ (c = 0 → _ ∧ ieq d 0 = (decide (a = 0) && (decide (b = 0) && (decide (c = 0) && decide (d = 0))))) ∧ (¬ c = 0 → false = (decide (a = 0) && (decide (b = 0) && (decide (c = 0) && decide (d = 0)))))) ∧
    (¬ b = 0 → false = (decide (a = 0) && (decide (b = 0) && (decide (c = 0) && decide (d = 0)))))) ∧ (¬ a = 0 → false = (decide (a = 0) && (decide (b = 0) && (decide (c = 0) && decide (d = 0)))))
  simp +contextual [ieq, Bool.beq_eq_decide_eq]
def rmeet_s (L : Seal) : Ent1 := (18, fun xs => match xs with
  | [.agg [.int .u8 a, .int .u8 b, .int .u8 c, .int .u8 d, .int .u16 p], .agg [.int .u8 e, .int .u8 f, .int .u8 g, .int .u8 h, .int .u16 q]] => some (True, .bool (L2 L plMeet (mkPl L a b c d p) (mkPl L e f g h q)))
  | _ => none)
theorem rmeet_good : Good Tryd.prog (rmeet_s std) := by
  intro xs p r h hp
  dsimp only [rmeet_s] at h ⊢
  split at h <;> cases h
  try simp only [L2, L3, std] at hp ⊢
  rename_i a b c d p e f g h q
  refine acalls_L (T := tt) (S := fun L => sumOf [rany_s L]) (lo := noA) (lb := noA) 5 (fn := Tryd.f18) rfl rfl (by kernel_rfl) (by kernel_rfl) rfl tt_ok (sumOf_ok ⟨rany_good, trivial⟩) (by kernel_rfl) ?_
  (intro L P1 Q1 hL hP hQ; cbv; subst hL; simp only [L2, L3, std, sat_need, sat_must, sat_ite, sat_done, sat_yes, sat_ex, sat_all, sat_sup, sat_and, sat_fail]; subst hQ)
  (simp only [sySet, reduceCtorEq, forall_const, Int.reduceToNat, Int.reduceAdd, Int.reduceSub, Int.cast_ofNat_Int, Int.toNat_natCast, Nat.le_eq, Nat.sub_eq, ne_eq, Decidable.not_not, implies_true, true_and, and_true, wadd, wsub, wmul, decide_eq_true_eq, decide_eq_false_iff_not, Nat.succ_eq_add_one, imp_false, not_false_eq_true, not_true_eq_false, false_imp_iff, true_imp_iff])
  generalize hX : plAny (mkPl std a b c d p) = X
  generalize hY : plAny (mkPl std e f g h q) = Y
  have hM : plMeet (mkPl std a b c d p) (mkPl std e f g h q) = (decide (p = q) && (decide (a = e ∧ b = f ∧ c = g ∧ d = h) || (X || Y))) := by rw [← hX, ← hY]; rfl
  rw [hM]
  clear hM hX hY
  simp only [nthI, List.getD_cons_zero, List.getD_cons_succ]
  cases X <;> cases Y <;> simp +contextual [ieq, Bool.beq_eq_decide_eq]
def rtxI (x : Pl) : Nat → List UInt8
  | 0 => []
  | 1 => digZ x.a
  | 2 => digZ x.a ++ 46 :: digZ x.b
  | 3 => digZ x.a ++ 46 :: (digZ x.b ++ 46 :: digZ x.c)
  | _ => digZ x.a ++ 46 :: (digZ x.b ++ 46 :: (digZ x.c ++ 46 :: digZ x.d))
def rtxA (L : Seal) (x : Pl) : Nat → St → Option Ann := fun id st => match id with
  | 0 => some ⟨Nat, fun i => [(4, .int .i64 (L natI i)), (3, .str (L2 L rtxI x i))], fun i => [], [1], [1], fun i => L le4 i, fun i => L to4 i⟩
  | _ => none
def rtext_s (L : Seal) : Ent1 := (16, fun xs => match xs with
  | [.agg [.int .u8 a, .int .u8 b, .int .u8 c, .int .u8 d, .int .u16 p]] => some (L plOk (mkPl L a b c d p), .str (L plT (mkPl L a b c d p)))
  | _ => none)
theorem rtx_step (x : Pl) {i : Nat} (h : i < 4) : rtxI x (i + 1) = (if i = 0 then rtxI x i else rtxI x i ++ [46]) ++ digZ (nthI (ipL x) i) := by
  match i, h with
  | 0, _ => rfl
  | 1, _ => simp [rtxI, nthI, ipL]
  | 2, _ => simp [rtxI, nthI, ipL]
  | 3, _ => simp [rtxI, nthI, ipL]
theorem rtx_len {x : Pl} (h : plOk x) {i : Nat} (hi : i ≤ 4) : (rtxI x i).length ≤ 100 := by
  have l1 := dig_len (ip_in h 0)
  have l2 := dig_len (ip_in h 1)
  have l3 := dig_len (ip_in h 2)
  have l4 := dig_len (ip_in h 3)
  simp only [nthI, ipL, List.getD_cons_zero, List.getD_cons_succ] at l1 l2 l3 l4
  match i, hi with
  | 0, _ => simp [rtxI]
  | 1, _ => simp [rtxI]; omega
  | 2, _ => simp [rtxI]; omega
  | 3, _ => simp [rtxI]; omega
  | 4, _ => simp [rtxI]; omega
theorem rtext_good : Good Tryd.prog (rtext_s std) := by
  intro xs p r h hp
  dsimp only [rtext_s] at h ⊢
  split at h <;> cases h
  try simp only [L2, L3, std] at hp ⊢
  rename_i a b c d p
  have hp : plOk ⟨a, b, c, d, p⟩ := hp
  refine acalls_L (T := tt) (S := fun L => sumOf [rdig_s L]) (lo := fun L => rtxA L ⟨a, b, c, d, p⟩) (lb := noA) 5 (fn := Tryd.f16) rfl rfl (by kernel_rfl) (by kernel_rfl) rfl tt_ok (sumOf_ok ⟨rdig_good, trivial⟩) (by kernel_rfl) ?_
  intro L P' Q' hL hP hQ
  (cbv; try simp only [sat_need, sat_must, sat_ite, sat_done, sat_yes, sat_ex, sat_all, sat_sup, sat_and, sat_fail, true_and, and_true])
  refine ⟨⟨0, ?_⟩, fun i hi => ?_⟩
  · (cbv; try simp only [sat_need, sat_must, sat_ite, sat_done, sat_yes, sat_ex, sat_all, sat_sup, sat_and, sat_fail, true_and, and_true])
    (subst hL; subst hQ; simp only [L2, L3, std] at *; try simp only [sySet, reduceCtorEq, forall_const, Int.reduceToNat, Int.reduceAdd, Int.reduceSub, Int.cast_ofNat_Int, Int.toNat_natCast, Nat.le_eq, Nat.sub_eq, ne_eq, Decidable.not_not, implies_true, true_and, and_true, wadd, wsub, wmul, decide_eq_true_eq, decide_eq_false_iff_not, Nat.succ_eq_add_one, imp_false, not_false_eq_true, not_true_eq_false, false_imp_iff, true_imp_iff] at *)
    exact ⟨rfl, Nat.zero_le _⟩
  · have hi4 : i ≤ 4 := by
      have hi' := hi
      rw [hL] at hi'
      exact hi'
    have hlen := rtx_len hp hi4
    have hin := ip_in hp i
    have hdl := dig_len hin
    have hmod : nthI (ipL ⟨a, b, c, d, p⟩) i % 18446744073709551616 = nthI (ipL ⟨a, b, c, d, p⟩) i := Int.emod_eq_of_lt hin.1 hin.2
    have hstep := fun h => rtx_step ⟨a, b, c, d, p⟩ (i := i) h
    have ei : nthI [a, b, c, d] i = nthI (ipL ⟨a, b, c, d, p⟩) i := rfl
    have hp5 : 0 ≤ p ∧ p ≤ 65535 := hp.2.2.2.2
    have l5 := dig_len (n := p) ⟨hp5.1, by omega⟩
    have hm : p % 18446744073709551616 = p := by omega
    (cbv; try simp only [sat_need, sat_must, sat_ite, sat_done, sat_yes, sat_ex, sat_all, sat_sup, sat_and, sat_fail, true_and, and_true])
    refine ⟨fun h1 => ⟨fun h2 => ⟨?_, ?_, ?_, ?_, i + 1, ?_⟩, fun h2 => ⟨?_, ?_, ?_, i + 1, ?_⟩⟩, fun h1 => ⟨?_, ?_, ?_, ?_⟩⟩
    · (subst hL; subst hQ; simp only [L2, L3, std] at *; try simp only [sySet, reduceCtorEq, forall_const, Int.reduceToNat, Int.reduceAdd, Int.reduceSub, Int.cast_ofNat_Int, Int.toNat_natCast, Nat.le_eq, Nat.sub_eq, ne_eq, Decidable.not_not, implies_true, true_and, and_true, wadd, wsub, wmul, decide_eq_true_eq, decide_eq_false_iff_not, Nat.succ_eq_add_one, imp_false, not_false_eq_true, not_true_eq_false, false_imp_iff, true_imp_iff] at *)
      rw [List.length_singleton]; omega
    · (subst hL; subst hQ; simp only [L2, L3, std] at *; try simp only [sySet, reduceCtorEq, forall_const, Int.reduceToNat, Int.reduceAdd, Int.reduceSub, Int.cast_ofNat_Int, Int.toNat_natCast, Nat.le_eq, Nat.sub_eq, ne_eq, Decidable.not_not, implies_true, true_and, and_true, wadd, wsub, wmul, decide_eq_true_eq, decide_eq_false_iff_not, Nat.succ_eq_add_one, imp_false, not_false_eq_true, not_true_eq_false, false_imp_iff, true_imp_iff] at *)
      omega
    · (subst hL; subst hQ; simp only [L2, L3, std] at *; try simp only [sySet, reduceCtorEq, forall_const, Int.reduceToNat, Int.reduceAdd, Int.reduceSub, Int.cast_ofNat_Int, Int.toNat_natCast, Nat.le_eq, Nat.sub_eq, ne_eq, Decidable.not_not, implies_true, true_and, and_true, wadd, wsub, wmul, decide_eq_true_eq, decide_eq_false_iff_not, Nat.succ_eq_add_one, imp_false, not_false_eq_true, not_true_eq_false, false_imp_iff, true_imp_iff] at *)
      rw [ei, hmod]; exact hin
    · (subst hL; subst hQ; simp only [L2, L3, std] at *; try simp only [sySet, reduceCtorEq, forall_const, Int.reduceToNat, Int.reduceAdd, Int.reduceSub, Int.cast_ofNat_Int, Int.toNat_natCast, Nat.le_eq, Nat.sub_eq, ne_eq, Decidable.not_not, implies_true, true_and, and_true, wadd, wsub, wmul, decide_eq_true_eq, decide_eq_false_iff_not, Nat.succ_eq_add_one, imp_false, not_false_eq_true, not_true_eq_false, false_imp_iff, true_imp_iff] at *)
      rw [ei, hmod, List.length_append, List.length_singleton]; omega
    · (cbv; try simp only [sat_need, sat_must, sat_ite, sat_done, sat_yes, sat_ex, sat_all, sat_sup, sat_and, sat_fail, true_and, and_true])
      (subst hL; subst hQ; simp only [L2, L3, std] at *; try simp only [sySet, reduceCtorEq, forall_const, Int.reduceToNat, Int.reduceAdd, Int.reduceSub, Int.cast_ofNat_Int, Int.toNat_natCast, Nat.le_eq, Nat.sub_eq, ne_eq, Decidable.not_not, implies_true, true_and, and_true, wadd, wsub, wmul, decide_eq_true_eq, decide_eq_false_iff_not, Nat.succ_eq_add_one, imp_false, not_false_eq_true, not_true_eq_false, false_imp_iff, true_imp_iff] at *)
      rw [hstep (by omega), if_neg (by omega), ei, hmod]
      exact ⟨by simp, by omega, by show i + 1 ≤ 4; omega, by show 4 - (i + 1) + 1 ≤ 4 - i; omega⟩
    · (subst hL; subst hQ; simp only [L2, L3, std] at *; try simp only [sySet, reduceCtorEq, forall_const, Int.reduceToNat, Int.reduceAdd, Int.reduceSub, Int.cast_ofNat_Int, Int.toNat_natCast, Nat.le_eq, Nat.sub_eq, ne_eq, Decidable.not_not, implies_true, true_and, and_true, wadd, wsub, wmul, decide_eq_true_eq, decide_eq_false_iff_not, Nat.succ_eq_add_one, imp_false, not_false_eq_true, not_true_eq_false, false_imp_iff, true_imp_iff] at *)
      omega
    · (subst hL; subst hQ; simp only [L2, L3, std] at *; try simp only [sySet, reduceCtorEq, forall_const, Int.reduceToNat, Int.reduceAdd, Int.reduceSub, Int.cast_ofNat_Int, Int.toNat_natCast, Nat.le_eq, Nat.sub_eq, ne_eq, Decidable.not_not, implies_true, true_and, and_true, wadd, wsub, wmul, decide_eq_true_eq, decide_eq_false_iff_not, Nat.succ_eq_add_one, imp_false, not_false_eq_true, not_true_eq_false, false_imp_iff, true_imp_iff] at *)
      rw [ei, hmod]; exact hin
    · (subst hL; subst hQ; simp only [L2, L3, std] at *; try simp only [sySet, reduceCtorEq, forall_const, Int.reduceToNat, Int.reduceAdd, Int.reduceSub, Int.cast_ofNat_Int, Int.toNat_natCast, Nat.le_eq, Nat.sub_eq, ne_eq, Decidable.not_not, implies_true, true_and, and_true, wadd, wsub, wmul, decide_eq_true_eq, decide_eq_false_iff_not, Nat.succ_eq_add_one, imp_false, not_false_eq_true, not_true_eq_false, false_imp_iff, true_imp_iff] at *)
      rw [ei, hmod]; omega
    · (cbv; try simp only [sat_need, sat_must, sat_ite, sat_done, sat_yes, sat_ex, sat_all, sat_sup, sat_and, sat_fail, true_and, and_true])
      (subst hL; subst hQ; simp only [L2, L3, std] at *; try simp only [sySet, reduceCtorEq, forall_const, Int.reduceToNat, Int.reduceAdd, Int.reduceSub, Int.cast_ofNat_Int, Int.toNat_natCast, Nat.le_eq, Nat.sub_eq, ne_eq, Decidable.not_not, implies_true, true_and, and_true, wadd, wsub, wmul, decide_eq_true_eq, decide_eq_false_iff_not, Nat.succ_eq_add_one, imp_false, not_false_eq_true, not_true_eq_false, false_imp_iff, true_imp_iff] at *)
      rw [hstep (by omega), if_pos (by omega), ei, hmod]
      exact ⟨rfl, by omega, by show i + 1 ≤ 4; omega, by show 4 - (i + 1) + 1 ≤ 4 - i; omega⟩
    all_goals
      (subst hL; subst hQ; simp only [L2, L3, std] at *; try simp only [sySet, reduceCtorEq, forall_const, Int.reduceToNat, Int.reduceAdd, Int.reduceSub, Int.cast_ofNat_Int, Int.toNat_natCast, Nat.le_eq, Nat.sub_eq, ne_eq, Decidable.not_not, implies_true, true_and, and_true, wadd, wsub, wmul, decide_eq_true_eq, decide_eq_false_iff_not, Nat.succ_eq_add_one, imp_false, not_false_eq_true, not_true_eq_false, false_imp_iff, true_imp_iff] at *)
      have h4 : i = 4 := by omega
      subst h4
      try rw [hm]
    · rw [List.length_singleton]; omega
    · exact ⟨hp5.1, by omega⟩
    · rw [List.length_append, List.length_singleton]; omega
    · show _ = plT ⟨a, b, c, d, p⟩
      simp [plT, rtxI]
/-! ### The document's place of a text -/
theorem two_is (s : List UInt8) : if 0 ≤ idxZ s [58] then spC s 58 = cutA s [58] :: splitC 58 (cutB s [58]) else spC s 58 = [s] := by
  split
  · rename_i h
    obtain ⟨h1, h2, h3⟩ := idx_at (c := by1 [58]) (s := s) (by show ¬ idxZ s [58] < 0; omega)
    have e := splitC_at h2 h1
    rw [cutA, cutB, if_neg (by omega), if_neg (by omega)]
    exact e
  · rename_i h
    exact splitC_no (idx_no (by show idxZ s [58] < 0; omega))
theorem two_yes {s : List UInt8} (h : (spC s 58).length = 2) : cutY s [58] = true ∧ nthS (spC s 58) 0 = cutA s [58] ∧ nthS (spC s 58) 1 = cutB s [58] := by
  have t := two_is s
  split at t
  · rename_i h0
    refine ⟨decide_eq_true h0, by rw [t]; rfl, ?_⟩
    rw [t, List.length_cons] at h
    have hc : (cutB s [58]).count 58 = 0 := by have := splitC_len 58 (cutB s [58]); omega
    have := splitC_no (c := 58) (s := cutB s [58]) (fun k hk => by
      have := List.count_pos_iff.2 (List.mem_of_getElem? hk)
      omega)
    rw [t, this]; rfl
  · rw [t] at h; cases h
theorem num_dig {s : List UInt8} (h : numE s = 0) : s.all isD = true := by
  unfold numE at h
  split at h
  · rename_i ho
    simp only [numO, Bool.and_eq_true] at ho
    exact ho.1.1
  · cases h
theorem two_of {s : List UInt8} (h : spOk s) : (spC s 58).length = 2 := by
  have t := two_is s
  rw [if_pos (of_decide_eq_true h.1)] at t
  rw [t, List.length_cons, splitC_len]
  have : (cutB s [58]).count 58 = 0 := by
    refine List.count_eq_zero.2 (fun hm => ?_)
    have := List.all_eq_true.1 (num_dig h.2.2.2.1) 58 hm
    exact absurd this (by decide)
  omega
noncomputable def spY (s : List UInt8) : Bool := decide (spE s = 0)
noncomputable def rpar_s (L : Seal) : Ent1 := (14, fun xs => match xs with
  | [.str s] => some (L2 L upto 1000000 s, .tup [plA L (L spP s), .bool (L spY s)])
  | _ => none)
def rparA (L : Seal) (s : List UInt8) : Nat → St → Option Ann := fun id st => match id with
  | 0 => some ⟨Nat, fun i => [(7, .int .i64 (L natI i)), (2, .ref 2 0), (6, .ref 6 0)],
      fun i => [(2, .box 34 [.int .u8 0, .int .u8 0, .int .u8 0, .int .u8 0, .int .u16 0]), (6, .box 34 [.int .u8 (L (L2 L ipZ s i) 0), .int .u8 (L (L2 L ipZ s i) 1), .int .u8 (L (L2 L ipZ s i) 2), .int .u8 (L (L2 L ipZ s i) 3), .int .u16 0])], [4, 5], [],
      fun i => L2 L parInv s i, fun i => L to4 i⟩
  | _ => none
theorem rsp_bad {s : List UInt8} (h : ¬ spOk s) : fits1 (plA std (spP s)) (.agg [.int .u8 0, .int .u8 0, .int .u8 0, .int .u8 0, .int .u16 0]) ∧ false = spY s := by
  obtain ⟨h1, h2⟩ := sp_bad h
  exact ⟨h1, (decide_eq_false (by rw [← h2]; decide)).symm⟩
theorem ip_cell (s : List UInt8) (i k : Nat) : (cond (nbeq i k) (prtV s i) (ipZ s i k)) = ipZ s (i + 1) k := by
  by_cases hik : i = k
  · subst hik
    rw [beq_same, ipZ, ipZ, if_pos (show i < i + 1 by omega)]; rfl
  · rw [beq_no hik]
    show ipZ s i k = _
    rw [ipZ, ipZ]
    by_cases hlt : k < i
    · rw [if_pos hlt, if_pos (by omega)]
    · rw [if_neg hlt, if_neg (by omega)]
theorem par_next {s : List UInt8} {i : Nat} (h : parInv s i) (hi : i < 4) (h1 : prtE s i = 0) (h2 : prtV s i ≤ 255) : parInv s (i + 1) := by
  refine ⟨by omega, fun k hk => ?_⟩
  by_cases hki : k = i
  · rw [hki]; exact ⟨h1, h2⟩
  · exact h.2 k (by omega)
theorem rpar_good : Good Tryd.prog (rpar_s std) := by
  intro xs p r h hp
  dsimp only [rpar_s] at h ⊢
  split at h <;> cases h
  try simp only [L2, L3, std] at hp ⊢
  rename_i s
  have hp : s.length ≤ 1000000 := hp
  refine acalls_L (T := tt) (S := fun L => sumOf [rcut_s L, rnum_s L]) (lo := fun L => rparA L s) (lb := noA) 5 (fn := Tryd.f14) rfl rfl (by kernel_rfl) (by kernel_rfl) rfl tt_ok (sumOf_ok ⟨rcut_good, rnum_good, trivial⟩) (by kernel_rfl) ?_
  intro L P' Q' hL hP hQ
  have hcl := cutA_len s [58]
  have hbl := cutB_len s [58]
  have h46 : ∀ x, spC x 46 = splitS x [46] := fun x => rfl
  (cbv; try simp only [sat_need, sat_must, sat_ite, sat_done, sat_yes, sat_ex, sat_all, sat_sup, sat_and, sat_fail, true_and, and_true])
  refine ⟨?_, fun h => ?_, fun h1 => ⟨?_, ?_, fun h => ?_, fun h2 => ⟨⟨0, ?_⟩, fun i hi => ?_⟩⟩⟩
  · (subst hL; subst hQ; simp only [L2, L3, std] at *; try simp only [sySet, reduceCtorEq, forall_const, Int.reduceToNat, Int.reduceAdd, Int.reduceSub, Int.cast_ofNat_Int, Int.toNat_natCast, Nat.le_eq, Nat.sub_eq, ne_eq, Decidable.not_not, implies_true, true_and, and_true, wadd, wsub, wmul, decide_eq_true_eq, decide_eq_false_iff_not, Nat.succ_eq_add_one, imp_false, not_false_eq_true, not_true_eq_false, false_imp_iff, true_imp_iff] at *)
    exact ⟨hp, by decide, by decide⟩
  · (subst hL; subst hQ; simp only [L2, L3, std] at *; try simp only [sySet, reduceCtorEq, forall_const, Int.reduceToNat, Int.reduceAdd, Int.reduceSub, Int.cast_ofNat_Int, Int.toNat_natCast, Nat.le_eq, Nat.sub_eq, ne_eq, Decidable.not_not, implies_true, true_and, and_true, wadd, wsub, wmul, decide_eq_true_eq, decide_eq_false_iff_not, Nat.succ_eq_add_one, imp_false, not_false_eq_true, not_true_eq_false, false_imp_iff, true_imp_iff] at *)
    exact rsp_bad fun x => h (by have := two_of x; show (((spC s 58).length : Nat) : Int) = 2; omega)
  · (subst hL; subst hQ; simp only [L2, L3, std] at *; try simp only [sySet, reduceCtorEq, forall_const, Int.reduceToNat, Int.reduceAdd, Int.reduceSub, Int.cast_ofNat_Int, Int.toNat_natCast, Nat.le_eq, Nat.sub_eq, ne_eq, Decidable.not_not, implies_true, true_and, and_true, wadd, wsub, wmul, decide_eq_true_eq, decide_eq_false_iff_not, Nat.succ_eq_add_one, imp_false, not_false_eq_true, not_true_eq_false, false_imp_iff, true_imp_iff] at *)
    omega
  · (subst hL; subst hQ; simp only [L2, L3, std] at *; try simp only [sySet, reduceCtorEq, forall_const, Int.reduceToNat, Int.reduceAdd, Int.reduceSub, Int.cast_ofNat_Int, Int.toNat_natCast, Nat.le_eq, Nat.sub_eq, ne_eq, Decidable.not_not, implies_true, true_and, and_true, wadd, wsub, wmul, decide_eq_true_eq, decide_eq_false_iff_not, Nat.succ_eq_add_one, imp_false, not_false_eq_true, not_true_eq_false, false_imp_iff, true_imp_iff] at *)
    have h1 : (((spC s 58).length : Nat) : Int) = 2 := h1
    rw [(two_yes (s := s) (by omega)).2.1]
    exact ⟨by show (cutA s [58]).length ≤ _; omega, by decide, by decide⟩
  · (subst hL; subst hQ; simp only [L2, L3, std] at *; try simp only [sySet, reduceCtorEq, forall_const, Int.reduceToNat, Int.reduceAdd, Int.reduceSub, Int.cast_ofNat_Int, Int.toNat_natCast, Nat.le_eq, Nat.sub_eq, ne_eq, Decidable.not_not, implies_true, true_and, and_true, wadd, wsub, wmul, decide_eq_true_eq, decide_eq_false_iff_not, Nat.succ_eq_add_one, imp_false, not_false_eq_true, not_true_eq_false, false_imp_iff, true_imp_iff] at *)
    have h1 : (((spC s 58).length : Nat) : Int) = 2 := h1
    rw [(two_yes (s := s) (by omega)).2.1, h46] at h
    exact rsp_bad fun x => h (by have := x.2.1; show ((hostS s).length : Int) = 4; omega)
  · (cbv; try simp only [sat_need, sat_must, sat_ite, sat_done, sat_yes, sat_ex, sat_all, sat_sup, sat_and, sat_fail, true_and, and_true])
    (subst hL; subst hQ; simp only [L2, L3, std] at *; try simp only [sySet, reduceCtorEq, forall_const, Int.reduceToNat, Int.reduceAdd, Int.reduceSub, Int.cast_ofNat_Int, Int.toNat_natCast, Nat.le_eq, Nat.sub_eq, ne_eq, Decidable.not_not, implies_true, true_and, and_true, wadd, wsub, wmul, decide_eq_true_eq, decide_eq_false_iff_not, Nat.succ_eq_add_one, imp_false, not_false_eq_true, not_true_eq_false, false_imp_iff, true_imp_iff] at *)
    exact ⟨rfl, rfl, rfl, rfl, Nat.zero_le _, fun k hk => by omega⟩
  · cbv at hi
    (cbv; try simp only [sat_need, sat_must, sat_ite, sat_done, sat_yes, sat_ex, sat_all, sat_sup, sat_and, sat_fail, true_and, and_true])
    have hpl : ∀ k, (nthS (hostS s) k).length ≤ 1000000 := fun k => Nat.le_trans (nth_len _ _ k) (by omega)
    refine ⟨fun h3 => ⟨?_, ?_, fun h4 => ?_, fun h4 => ⟨fun h5 => ?_, fun h5 => ⟨?_, i + 1, ?_⟩⟩⟩, fun h3 => ⟨?_, ?_, fun h4 => ?_, fun h4 => ⟨fun h5 => ?_, fun h5 => ⟨fun h6 => ?_, fun h6 => ?_⟩⟩⟩⟩
    all_goals (try (cbv; try simp only [sat_need, sat_must, sat_ite, sat_done, sat_yes, sat_ex, sat_all, sat_sup, sat_and, sat_fail, true_and, and_true]))
    all_goals
      (subst hL; subst hQ; simp only [L2, L3, std] at *; try simp only [sySet, reduceCtorEq, forall_const, Int.reduceToNat, Int.reduceAdd, Int.reduceSub, Int.cast_ofNat_Int, Int.toNat_natCast, Nat.le_eq, Nat.sub_eq, ne_eq, Decidable.not_not, implies_true, true_and, and_true, wadd, wsub, wmul, decide_eq_true_eq, decide_eq_false_iff_not, Nat.succ_eq_add_one, imp_false, not_false_eq_true, not_true_eq_false, false_imp_iff, true_imp_iff] at *)
      have h1' : (((spC s 58).length : Nat) : Int) = 2 := h1
      obtain ⟨y1, y2, y3⟩ := two_yes (s := s) (by omega)
      have hs4 : (hostS s).length = 4 := by
        rw [y2, h46] at h2
        have h2 : (((hostS s).length : Nat) : Int) = 4 := h2
        omega
      simp only [y2, y3, h46, show splitS (cutA s [58]) [46] = hostS s from rfl, show cutB s [58] = portS s from rfl, show ∀ k, numE (nthS (hostS s) k) = prtE s k from fun _ => rfl, show ∀ k, numV (nthS (hostS s) k) = prtV s k from fun _ => rfl, show lenS (hostS s) = (hostS s).length from rfl, show lenS (spC s 58) = (spC s 58).length from rfl] at *
    · omega
    · exact hpl i
    · exact rsp_bad fun x => h4 (x.2.2.1 i (by omega)).1
    · exact rsp_bad fun x => by have := (x.2.2.1 i (by omega)).2; omega
    · omega
    · have h0 : 0 ≤ prtV s i := num_ge _
      rw [show prtV s i % 256 = prtV s i by omega]
      exact ⟨ip_cell s i 3, ip_cell s i 2, ip_cell s i 1, ip_cell s i 0, by omega, par_next hi (by omega) h4 h5, by show 4 - (i + 1) + 1 ≤ 4 - i; omega⟩
    · omega
    · show (portS s).length ≤ 1000000
      have : (portS s).length ≤ s.length := hbl
      omega
    · exact rsp_bad fun x => h4 x.2.2.2.1
    · exact rsp_bad fun x => by have := x.2.2.2.2.1; omega
    · exact rsp_bad fun x => by have := x.2.2.2.2.2; omega
    · have hi4 : i = 4 := by have := hi.1; omega
      subst hi4
      have hok : spOk s := ⟨y1, hs4, hi.2, h4, h5, h6⟩
      have hE : spE s = 0 := if_pos hok
      refine ⟨pl_fit ?_, (decide_eq_true hE).symm⟩
      rw [spP, if_pos hE, show numV (portS s) % 65536 = numV (portS s) by omega]
      rfl
end Sy
end Go.Proofs.YtckbbcjbbmgmoaaDoor
