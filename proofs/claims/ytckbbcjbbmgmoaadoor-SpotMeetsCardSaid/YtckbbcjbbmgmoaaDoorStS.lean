/- strings.Index, Count (of one byte), Compare, Join: the kit's contracts as summaries; Cut, Split; a text parted by a byte. -/
import Derived.Test.YtckbbcjbbmgmoaaDoorAcA
import Derived.Test.YtckbbcjbbmgmoaaDoorShelf
namespace Go.Proofs.YtckbbcjbbmgmoaaDoor
namespace Sy
open Go Go.RowKit
set_option maxRecDepth 100000
set_option linter.unusedSimpArgs false
set_option linter.unusedVariables false

/-! ### A text parted by a byte -/
def splitC (c : UInt8) : List UInt8 → List (List UInt8)
  | [] => [[]]
  | x :: s => if x = c then [] :: splitC c s else match splitC c s with
    | y :: r => (x :: y) :: r
    | [] => [[x]]
theorem splitC_ne (c : UInt8) : ∀ s, splitC c s ≠ []
  | [] => by simp [splitC]
  | x :: s => by
    unfold splitC
    split
    · simp
    · split <;> simp
theorem splitC_at {c : UInt8} : ∀ {s : List UInt8} {m : Nat}, (∀ k, k < m → s[k]? ≠ some c) → s[m]? = some c → splitC c s = s.take m :: splitC c (s.drop (m + 1))
  | [], m, _, h => by simp at h
  | x :: s, 0, _, h => by
    simp at h; subst h
    simp [splitC]
  | x :: s, m + 1, h0, h => by
    have hx : x ≠ c := by
      have := h0 0 (by omega)
      intro e; subst e; simp at this
    have ih := splitC_at (s := s) (m := m) (fun k hk => by have := h0 (k + 1) (by omega); simpa using this) (by simpa using h)
    rw [splitC, if_neg hx, ih]
    simp
theorem splitC_no {c : UInt8} : ∀ {s : List UInt8}, (∀ k : Nat, s[k]? ≠ some c) → splitC c s = [s]
  | [], _ => rfl
  | x :: s, h0 => by
    have hx : x ≠ c := by
      have := h0 0
      intro e; subst e; simp at this
    have ih := splitC_no (s := s) (fun k => by have := h0 (k + 1); simpa using this)
    rw [splitC, if_neg hx, ih]
theorem splitC_len (c : UInt8) : ∀ s : List UInt8, (splitC c s).length = s.count c + 1
  | [] => by simp [splitC]
  | x :: s => by
    have ih := splitC_len c s
    unfold splitC
    by_cases hx : x = c
    · rw [if_pos hx, List.length_cons, ih, hx, List.count_cons_self]
    · rw [if_neg hx, List.count_cons_of_ne (fun e => hx e)]
      cases hs : splitC c s with
      | nil => exact absurd hs (splitC_ne c s)
      | cons y r => rw [hs] at ih; simpa using ih
theorem idx_no {s : List UInt8} {c : UInt8} (h : Lib.indexByte s c < 0) : ∀ k : Nat, s[k]? ≠ some c := by
  have := Lib.indexByte_ge s c
  exact Lib.indexByte_none (by omega)
theorem idx_at {s : List UInt8} {c : UInt8} (h : ¬ Lib.indexByte s c < 0) : s[(Lib.indexByte s c).toNat]? = some c ∧ (∀ k, k < (Lib.indexByte s c).toNat → s[k]? ≠ some c) ∧ (Lib.indexByte s c).toNat < s.length := by
  obtain ⟨o, ho⟩ : ∃ o : Nat, Lib.indexByte s c = o := ⟨(Lib.indexByte s c).toNat, by omega⟩
  have h1 := Lib.indexByte_some ho
  have e : (Lib.indexByte s c).toNat = o := by omega
  rw [e]
  exact ⟨h1.1, h1.2, (List.getElem?_eq_some_iff.1 h1.1).1⟩
theorem idx_le (s : List UInt8) (c : UInt8) : -1 ≤ Lib.indexByte s c ∧ Lib.indexByte s c ≤ s.length := by
  have h0 := Lib.indexByte_ge s c
  by_cases h : Lib.indexByte s c < 0
  · omega
  · have := (idx_at h).2.2; omega
/-- The byte that parts. -/
def by1 (sep : List UInt8) : UInt8 := sep.headD 0
def one1 (sep : List UInt8) : Prop := sep.length = 1
theorem one1_is {sep : List UInt8} (h : one1 sep) : sep = [by1 sep] := by
  match sep, h with
  | [c], _ => rfl
def idxZ (s sep : List UInt8) : Int := Lib.indexByte s (by1 sep)
def cntZ (s sep : List UInt8) : Int := s.count (by1 sep)
def cmpZ (a b : List UInt8) : Int := Lib.compareBytes a b
def splitS (s sep : List UInt8) : List (List UInt8) := splitC (by1 sep) s
def lenS (l : List (List UInt8)) : Nat := l.length
def lstS (L : Seal) (l : List (List UInt8)) : AV := .lst 1 (L lenS l) (fun i _ => .str (L2 L nthS l i))
def idx_s (L : Seal) : Ent1 := (49, fun xs => match xs with | [.str s, .str sep] => some (L one1 sep, .int .i64 (L2 L idxZ s sep)) | _ => none)
def idl_s (L : Seal) : Ent1 := (46, fun xs => match xs with | [.str s, .str sep] => some (L one1 sep, .int .i64 (L2 L idxZ s sep)) | _ => none)
def cnt_s (L : Seal) : Ent1 := (48, fun xs => match xs with | [.str s, .str sep] => some (L one1 sep, .int .i64 (L2 L cntZ s sep)) | _ => none)
def cmp_s (L : Seal) : Ent1 := (24, fun xs => match xs with | [.str a, .str b] => some (True, .int .i64 (L2 L cmpZ a b)) | _ => none)
theorem idx_good : Good Tryd.prog (idx_s std) := by
  intro xs p r h hp
  dsimp only [idx_s] at h ⊢
  split at h <;> cases h
  try simp only [L2, L3, std] at hp ⊢
  rename_i s sep
  have h1 := one1_is (show one1 sep from hp)
  rw [h1]
  refine ac_of_below (fn := Tryd.f49) rfl rfl (by kernel_rfl) (args2 (tells_str _) (tells_str _)) (int_r _ _) (fun w => (Tryd.strings_Index_one ⟨s.toArray⟩ (by1 sep) w).mono ?_)
  rintro e w' ⟨rfl, rfl⟩
  exact ⟨rfl, Below.refl _ _⟩
theorem idl_good : Good Tryd.prog (idl_s std) := by
  intro xs p r h hp
  dsimp only [idl_s] at h ⊢
  split at h <;> cases h
  try simp only [L2, L3, std] at hp ⊢
  rename_i s sep
  have h1 := one1_is (show one1 sep from hp)
  rw [h1]
  refine ac_of_below (fn := Tryd.f46) rfl rfl (by kernel_rfl) (args2 (tells_str _) (tells_str _)) (int_r _ _) (fun w => (Tryd.stringslite_Index_one ⟨s.toArray⟩ (by1 sep) w).mono ?_)
  rintro e w' ⟨rfl, rfl⟩
  exact ⟨rfl, Below.refl _ _⟩
theorem cnt_good : Good Tryd.prog (cnt_s std) := by
  intro xs p r h hp
  dsimp only [cnt_s] at h ⊢
  split at h <;> cases h
  try simp only [L2, L3, std] at hp ⊢
  rename_i s sep
  have h1 := one1_is (show one1 sep from hp)
  rw [h1]
  refine ac_of_below (fn := Tryd.f48) rfl rfl (by kernel_rfl) (args2 (tells_str _) (tells_str _)) (int_r _ _) (fun w => (Tryd.strings_Count_one ⟨s.toArray⟩ (by1 sep) w).mono ?_)
  rintro e w' ⟨rfl, rfl⟩
  exact ⟨rfl, Below.refl _ _⟩
theorem cmp_good : Good Tryd.prog (cmp_s std) := by
  intro xs p r h hp
  dsimp only [cmp_s] at h ⊢
  split at h <;> cases h
  try simp only [L2, L3, std] at hp ⊢
  rename_i a b
  refine ac_of_below (fn := Tryd.f24) rfl rfl (by kernel_rfl) (args2 (tells_str _) (tells_str _)) (int_r _ _) (fun w => (Tryd.strings_Compare ⟨a.toArray⟩ ⟨b.toArray⟩ w).mono ?_)
  rintro e w' ⟨rfl, rfl⟩
  exact ⟨rfl, Below.refl _ _⟩
/-! ### Cut -/
def cutA (s sep : List UInt8) : List UInt8 := if idxZ s sep < 0 then s else s.take (idxZ s sep).toNat
def cutB (s sep : List UInt8) : List UInt8 := if idxZ s sep < 0 then [] else s.drop ((idxZ s sep).toNat + 1)
def cutY (s sep : List UInt8) : Bool := decide (0 ≤ idxZ s sep)
def cutL_s (L : Seal) : Ent1 := (38, fun xs => match xs with | [.str s, .str sep] => some (L one1 sep ∧ L2 L upto 1000000000 s, .tup [.str (L2 L cutA s sep), .str (L2 L cutB s sep), .bool (L2 L cutY s sep)]) | _ => none)
def cut_s (L : Seal) : Ent1 := (25, fun xs => match xs with | [.str s, .str sep] => some (L one1 sep ∧ L2 L upto 1000000000 s, .tup [.str (L2 L cutA s sep), .str (L2 L cutB s sep), .bool (L2 L cutY s sep)]) | _ => none)
theorem cutL_good : Good Tryd.prog (cutL_s std) := by
  intro xs p r h hp
  dsimp only [cutL_s] at h ⊢
  split at h <;> cases h
  try simp only [L2, L3, std] at hp ⊢
  rename_i s sep
  obtain ⟨p1, p2⟩ : one1 sep ∧ s.length ≤ 1000000000 := hp
  refine acalls_L (T := tt) (S := fun L => sumOf [idl_s L]) (lo := noA) (lb := noA) 5 (fn := Tryd.f38) rfl rfl (by kernel_rfl) (by kernel_rfl) rfl tt_ok (sumOf_ok ⟨idl_good, trivial⟩) (by kernel_rfl) ?_
  (intro L P1 Q1 hL hP hQ; cbv; subst hL; simp only [L2, L3, std, sat_need, sat_must, sat_ite, sat_done, sat_yes, sat_ex, sat_all, sat_sup, sat_and, sat_fail]; subst hQ)
  (simp only [sySet, reduceCtorEq, forall_const, Int.reduceToNat, Int.reduceAdd, Int.reduceSub, Int.cast_ofNat_Int, Int.toNat_natCast, Nat.le_eq, Nat.sub_eq, ne_eq, Decidable.not_not, implies_true, true_and, and_true, wadd, wsub, wmul, decide_eq_true_eq, decide_eq_false_iff_not, Nat.succ_eq_add_one, imp_false, not_false_eq_true, not_true_eq_false, false_imp_iff, true_imp_iff])
  have hl := idx_le s (by1 sep)
  refine ⟨p1, fun h => ?_, fun h => ?_⟩
  · have := (idx_at (c := by1 sep) (s := s) (by show ¬ idxZ s sep < 0; omega)).2.2
    have e0 : ¬ idxZ s sep < 0 := by omega
    have e1 : (sep.length : Int) = 1 := by rw [p1]; rfl
    have hl : -1 ≤ idxZ s sep ∧ idxZ s sep ≤ s.length := hl
    have this : (idxZ s sep).toNat < s.length := this
    rw [e1, show (idxZ s sep + 1 + 9223372036854775808) % 18446744073709551616 - 9223372036854775808 = idxZ s sep + 1 by omega]
    refine ⟨by omega, by omega, (if_neg e0).symm, ?_, (decide_eq_true h).symm⟩
    rw [cutB, if_neg e0, show (idxZ s sep + 1).toNat = (idxZ s sep).toNat + 1 by omega]
  · exact ⟨(if_pos (by omega)).symm, (if_pos (by omega)).symm, (decide_eq_false (by omega)).symm⟩
theorem cut_good : Good Tryd.prog (cut_s std) := by
  intro xs p r h hp
  dsimp only [cut_s] at h ⊢
  split at h <;> cases h
  try simp only [L2, L3, std] at hp ⊢
  rename_i s sep
  obtain ⟨p1, p2⟩ : one1 sep ∧ s.length ≤ 1000000000 := hp
  refine acalls_L (T := tt) (S := fun L => sumOf [cutL_s L]) (lo := noA) (lb := noA) 5 (fn := Tryd.f25) rfl rfl (by kernel_rfl) (by kernel_rfl) rfl tt_ok (sumOf_ok ⟨cutL_good, trivial⟩) (by kernel_rfl) ?_
  (intro L P1 Q1 hL hP hQ; cbv; subst hL; simp only [L2, L3, std, sat_need, sat_must, sat_ite, sat_done, sat_yes, sat_ex, sat_all, sat_sup, sat_and, sat_fail]; subst hQ)
  (simp only [sySet, reduceCtorEq, forall_const, Int.reduceToNat, Int.reduceAdd, Int.reduceSub, Int.cast_ofNat_Int, Int.toNat_natCast, Nat.le_eq, Nat.sub_eq, ne_eq, Decidable.not_not, implies_true, true_and, and_true, wadd, wsub, wmul, decide_eq_true_eq, decide_eq_false_iff_not, Nat.succ_eq_add_one, imp_false, not_false_eq_true, not_true_eq_false, false_imp_iff, true_imp_iff])
  exact ⟨p1, p2⟩
/-! ### Split -/
/-- What is left behind i parts. -/
def restC (c : UInt8) (s : List UInt8) : Nat → List UInt8
  | 0 => s
  | i + 1 => (restC c s i).drop ((Lib.indexByte (restC c s i) c).toNat + 1)
theorem rest_is (c : UInt8) (s : List UInt8) : ∀ i, i ≤ s.count c → splitC c (restC c s i) = (splitC c s).drop i ∧ (restC c s i).length ≤ s.length
  | 0, _ => by simp [restC]
  | i + 1, h => by
    obtain ⟨ih, hl⟩ := rest_is c s i (by omega)
    have hlen := congrArg List.length ih
    rw [splitC_len, List.length_drop, splitC_len] at hlen
    have hn : ¬ Lib.indexByte (restC c s i) c < 0 := by
      intro hn
      have h0 := splitC_no (idx_no hn)
      have := congrArg List.length h0
      rw [splitC_len] at this
      simp at this
      omega
    obtain ⟨h1, h2, h3⟩ := idx_at hn
    have e := splitC_at h2 h1
    rw [ih] at e
    have e2 := congrArg (List.drop 1) e
    rw [List.drop_drop, List.drop_succ_cons, List.drop_zero] at e2
    refine ⟨by rw [restC, ← e2], ?_⟩
    rw [restC, List.length_drop]; omega
theorem rest_at {c : UInt8} {s : List UInt8} {i : Nat} (h : i < s.count c) : 0 ≤ Lib.indexByte (restC c s i) c ∧ (Lib.indexByte (restC c s i) c).toNat < (restC c s i).length ∧ nthS (splitC c s) i = (restC c s i).take (Lib.indexByte (restC c s i) c).toNat := by
  obtain ⟨ih, hl⟩ := rest_is c s i (by omega)
  have hlen := congrArg List.length ih
  rw [splitC_len, List.length_drop, splitC_len] at hlen
  have hn : ¬ Lib.indexByte (restC c s i) c < 0 := by
    intro hn
    have h0 := splitC_no (idx_no hn)
    have := congrArg List.length h0
    rw [splitC_len] at this
    simp at this
    omega
  obtain ⟨h1, h2, h3⟩ := idx_at hn
  refine ⟨by omega, h3, ?_⟩
  have e := splitC_at h2 h1
  rw [ih] at e
  have hlt : i < (splitC c s).length := by rw [splitC_len]; omega
  rw [nthS, List.getD_eq_getElem?_getD, List.getElem?_eq_getElem hlt]
  rw [List.drop_eq_getElem_cons hlt] at e
  exact (List.cons.inj e).1
theorem rest_last (c : UInt8) (s : List UInt8) : nthS (splitC c s) (s.count c) = restC c s (s.count c) := by
  obtain ⟨ih, hl⟩ := rest_is c s (s.count c) (Nat.le_refl _)
  have hlen := congrArg List.length ih
  rw [splitC_len, List.length_drop, splitC_len] at hlen
  have hc : (restC c s (s.count c)).count c = 0 := by omega
  have h0 : splitC c (restC c s (s.count c)) = [restC c s (s.count c)] := splitC_no (fun k hk => by
    have := List.count_pos_iff.2 (List.mem_of_getElem? hk)
    omega)
  rw [h0] at ih
  have hlt : s.count c < (splitC c s).length := by rw [splitC_len]; omega
  rw [nthS, List.getD_eq_getElem?_getD, List.getElem?_eq_getElem hlt]
  rw [List.drop_eq_getElem_cons hlt] at ih
  exact (List.cons.inj ih).1.symm
def restS (s sep : List UInt8) (i : Nat) : List UInt8 := restC (by1 sep) s i
/-- The parts that are there behind i rounds. -/
def doneS (s sep : List UInt8) (i j : Nat) : List UInt8 := if j < i then nthS (splitS s sep) j else []
def cntN (s sep : List UInt8) : Nat := s.count (by1 sep)
theorem cnt_le (s sep : List UInt8) : cntN s sep ≤ s.length := List.count_le_length
def splA (L : Seal) (s sep : List UInt8) : Nat → St → Option Ann := fun id st => match id with
  | 0 => some ⟨Nat, fun i => [(0, .str (L3 L restS s sep i)), (10, .int .i64 (L natI i)), (9, .sl 900 1 0 (L (fun n : Nat => n + 1) (L2 L cntN s sep))), (3, .int .i64 (L natI (L2 L cntN s sep)))],
      fun i => [(900, .row 9 1 (L (fun n : Nat => n + 1) (L2 L cntN s sep)) (fun j _ => .str (L (L3 L doneS s sep i) j)))], [1, 2], [],
      fun i => L3 L (fun s sep i => i ≤ cntN s sep) s sep i, fun i => L3 L (fun s sep i => cntN s sep - i) s sep i⟩
  | _ => none
theorem over1s (q : Nat) (v : List UInt8) (f : Nat → List UInt8) (i j : Nat) (h : j < 1) : over std q 0 1 [.str v] (fun i _ => .str (f i)) i j = .str (if i = q then v else f i) := by
  have : j = 0 := by omega
  subst this
  rw [over_get, if_pos ⟨Nat.le_refl _, by omega⟩]
  by_cases h : i = q
  · subst h; simp [beq_same, sel1, L3, std, lget]
  · simp [beq_no h, sel1, L3, std, lget, h]
/-- A function that is never called here. -/
def nev (f : Nat) : Ent1 := (f, fun _ => some (False, .dead))
theorem nev_good (f : Nat) : Good Tryd.prog (nev f) := by
  intro xs p r h hp
  cases h
  exact hp.elim
def gsp_s (L : Seal) : Ent1 := (39, fun xs => match xs with
  | [.str s, .str sep, .int .i64 a, .int .i64 b] => some (L one1 sep ∧ L2 L upto 1000000000 s ∧ L2 L (fun a b : Int => a = 0 ∧ b = -1) a b, lstS L (L2 L splitS s sep))
  | _ => none)
theorem gsp_good : Good Tryd.prog (gsp_s std) := by
  intro xs p r h hp
  dsimp only [gsp_s] at h ⊢
  split at h <;> cases h
  try simp only [L2, L3, std] at hp ⊢
  rename_i s sep a b
  obtain ⟨p1, p2, rfl, rfl⟩ : one1 sep ∧ s.length ≤ 1000000000 ∧ a = 0 ∧ b = -1 := hp
  refine acalls_L (T := tt) (S := fun L => sumOf [idx_s L, cnt_s L, nev 47]) (lo := fun L => splA L s sep) (lb := noA) 5 (fn := Tryd.f39) rfl rfl (by kernel_rfl) (by kernel_rfl) rfl tt_ok (sumOf_ok ⟨idx_good, cnt_good, nev_good _, trivial⟩) (by kernel_rfl) ?_
  intro L P' Q' hL hP hQ
  (cbv; try simp only [sat_need, sat_must, sat_ite, sat_done, sat_yes, sat_ex, sat_all, sat_sup, sat_and, sat_fail, true_and, and_true])
  have hc : cntZ s sep = (cntN s sep : Int) := rfl
  have hle := cnt_le s sep
  have hsep : sep ≠ [] := fun e => by rw [e] at p1; cases p1
  refine ⟨fun h => ?_, fun h1 => ⟨fun h => ?_, fun h2 => ⟨fun h3 => ⟨?_, ?_, ⟨0, ?_⟩, fun i hi => ?_⟩, fun h3 => ?_⟩⟩⟩
  · (subst hL; subst hQ; simp only [L2, L3, std] at *; try simp only [sySet, reduceCtorEq, forall_const, Int.reduceToNat, Int.reduceAdd, Int.reduceSub, Int.cast_ofNat_Int, Int.toNat_natCast, Nat.le_eq, Nat.sub_eq, ne_eq, Decidable.not_not, implies_true, true_and, and_true, wadd, wsub, wmul, decide_eq_true_eq, decide_eq_false_iff_not, Nat.succ_eq_add_one, imp_false, not_false_eq_true, not_true_eq_false, false_imp_iff, true_imp_iff] at *)
  · (subst hL; subst hQ; simp only [L2, L3, std] at *; try simp only [sySet, reduceCtorEq, forall_const, Int.reduceToNat, Int.reduceAdd, Int.reduceSub, Int.cast_ofNat_Int, Int.toNat_natCast, Nat.le_eq, Nat.sub_eq, ne_eq, Decidable.not_not, implies_true, true_and, and_true, wadd, wsub, wmul, decide_eq_true_eq, decide_eq_false_iff_not, Nat.succ_eq_add_one, imp_false, not_false_eq_true, not_true_eq_false, false_imp_iff, true_imp_iff] at *)
    exact absurd h hsep
  · (subst hL; subst hQ; simp only [L2, L3, std] at *; try simp only [sySet, reduceCtorEq, forall_const, Int.reduceToNat, Int.reduceAdd, Int.reduceSub, Int.cast_ofNat_Int, Int.toNat_natCast, Nat.le_eq, Nat.sub_eq, ne_eq, Decidable.not_not, implies_true, true_and, and_true, wadd, wsub, wmul, decide_eq_true_eq, decide_eq_false_iff_not, Nat.succ_eq_add_one, imp_false, not_false_eq_true, not_true_eq_false, false_imp_iff, true_imp_iff] at *)
    exact p1
  · (subst hL; subst hQ; simp only [L2, L3, std] at *; try simp only [sySet, reduceCtorEq, forall_const, Int.reduceToNat, Int.reduceAdd, Int.reduceSub, Int.cast_ofNat_Int, Int.toNat_natCast, Nat.le_eq, Nat.sub_eq, ne_eq, Decidable.not_not, implies_true, true_and, and_true, wadd, wsub, wmul, decide_eq_true_eq, decide_eq_false_iff_not, Nat.succ_eq_add_one, imp_false, not_false_eq_true, not_true_eq_false, false_imp_iff, true_imp_iff] at *)
    rw [hc]
    omega
  · (cbv; try simp only [sat_need, sat_must, sat_ite, sat_done, sat_yes, sat_ex, sat_all, sat_sup, sat_and, sat_fail, true_and, and_true])
    (subst hL; subst hQ; simp only [L2, L3, std] at *; try simp only [sySet, reduceCtorEq, forall_const, Int.reduceToNat, Int.reduceAdd, Int.reduceSub, Int.cast_ofNat_Int, Int.toNat_natCast, Nat.le_eq, Nat.sub_eq, ne_eq, Decidable.not_not, implies_true, true_and, and_true, wadd, wsub, wmul, decide_eq_true_eq, decide_eq_false_iff_not, Nat.succ_eq_add_one, imp_false, not_false_eq_true, not_true_eq_false, false_imp_iff, true_imp_iff] at *)
    rw [hc, show min (((cntN s sep : Nat) + 1 + 9223372036854775808 : Int) % 18446744073709551616 - 9223372036854775808) (((s.length : Nat) + 1 + 9223372036854775808 : Int) % 18446744073709551616 - 9223372036854775808) = (cntN s sep : Nat) + 1 by omega]
    refine ⟨⟨by omega, fun k j hk hj => ?_⟩, by omega, by omega, rfl, Nat.zero_le _⟩
    rw [doneS, if_neg (by omega)]
    match j, hj with
    | 0, _ => rfl
  · cbv at hi
    (cbv; try simp only [sat_need, sat_must, sat_ite, sat_done, sat_yes, sat_ex, sat_all, sat_sup, sat_and, sat_fail, true_and, and_true])
    refine ⟨fun h4 => ⟨?_, fun h5 => ?_, fun h5 => ⟨?_, ?_, ?_, i + 1, ?_⟩⟩, fun h4 => ⟨?_, ?_, ?_⟩⟩
    · (subst hL; subst hQ; simp only [L2, L3, std] at *; try simp only [sySet, reduceCtorEq, forall_const, Int.reduceToNat, Int.reduceAdd, Int.reduceSub, Int.cast_ofNat_Int, Int.toNat_natCast, Nat.le_eq, Nat.sub_eq, ne_eq, Decidable.not_not, implies_true, true_and, and_true, wadd, wsub, wmul, decide_eq_true_eq, decide_eq_false_iff_not, Nat.succ_eq_add_one, imp_false, not_false_eq_true, not_true_eq_false, false_imp_iff, true_imp_iff] at *)
      exact p1
    · (subst hL; subst hQ; simp only [L2, L3, std] at *; try simp only [sySet, reduceCtorEq, forall_const, Int.reduceToNat, Int.reduceAdd, Int.reduceSub, Int.cast_ofNat_Int, Int.toNat_natCast, Nat.le_eq, Nat.sub_eq, ne_eq, Decidable.not_not, implies_true, true_and, and_true, wadd, wsub, wmul, decide_eq_true_eq, decide_eq_false_iff_not, Nat.succ_eq_add_one, imp_false, not_false_eq_true, not_true_eq_false, false_imp_iff, true_imp_iff] at *)
      obtain ⟨r1, r2, r3⟩ := rest_at (c := by1 sep) (s := s) (i := i) (show i < cntN s sep by omega)
      exfalso
      have h5 : Lib.indexByte (restC (by1 sep) s i) (by1 sep) < 0 := h5
      omega
    · (subst hL; subst hQ; simp only [L2, L3, std] at *; try simp only [sySet, reduceCtorEq, forall_const, Int.reduceToNat, Int.reduceAdd, Int.reduceSub, Int.cast_ofNat_Int, Int.toNat_natCast, Nat.le_eq, Nat.sub_eq, ne_eq, Decidable.not_not, implies_true, true_and, and_true, wadd, wsub, wmul, decide_eq_true_eq, decide_eq_false_iff_not, Nat.succ_eq_add_one, imp_false, not_false_eq_true, not_true_eq_false, false_imp_iff, true_imp_iff] at *)
      obtain ⟨r1, r2, r3⟩ := rest_at (c := by1 sep) (s := s) (i := i) (show i < cntN s sep by omega)
      obtain ⟨q1, q2⟩ := rest_is (by1 sep) s i hi
      have r1 : 0 ≤ idxZ (restS s sep i) sep := r1
      have r2 : (idxZ (restS s sep i) sep).toNat < (restS s sep i).length := r2
      have q2 : (restS s sep i).length ≤ s.length := q2
      omega
    · (subst hL; subst hQ; simp only [L2, L3, std] at *; try simp only [sySet, reduceCtorEq, forall_const, Int.reduceToNat, Int.reduceAdd, Int.reduceSub, Int.cast_ofNat_Int, Int.toNat_natCast, Nat.le_eq, Nat.sub_eq, ne_eq, Decidable.not_not, implies_true, true_and, and_true, wadd, wsub, wmul, decide_eq_true_eq, decide_eq_false_iff_not, Nat.succ_eq_add_one, imp_false, not_false_eq_true, not_true_eq_false, false_imp_iff, true_imp_iff] at *)
      omega
    · (subst hL; subst hQ; simp only [L2, L3, std] at *; try simp only [sySet, reduceCtorEq, forall_const, Int.reduceToNat, Int.reduceAdd, Int.reduceSub, Int.cast_ofNat_Int, Int.toNat_natCast, Nat.le_eq, Nat.sub_eq, ne_eq, Decidable.not_not, implies_true, true_and, and_true, wadd, wsub, wmul, decide_eq_true_eq, decide_eq_false_iff_not, Nat.succ_eq_add_one, imp_false, not_false_eq_true, not_true_eq_false, false_imp_iff, true_imp_iff] at *)
      obtain ⟨r1, r2, r3⟩ := rest_at (c := by1 sep) (s := s) (i := i) (show i < cntN s sep by omega)
      obtain ⟨q1, q2⟩ := rest_is (by1 sep) s i hi
      have r1 : 0 ≤ idxZ (restS s sep i) sep := r1
      have r2 : (idxZ (restS s sep i) sep).toNat < (restS s sep i).length := r2
      have q2 : (restS s sep i).length ≤ s.length := q2
      have e1 : (sep.length : Int) = 1 := by rw [p1]; rfl
      omega
    · (cbv; try simp only [sat_need, sat_must, sat_ite, sat_done, sat_yes, sat_ex, sat_all, sat_sup, sat_and, sat_fail, true_and, and_true])
      (subst hL; subst hQ; simp only [L2, L3, std] at *; try simp only [sySet, reduceCtorEq, forall_const, Int.reduceToNat, Int.reduceAdd, Int.reduceSub, Int.cast_ofNat_Int, Int.toNat_natCast, Nat.le_eq, Nat.sub_eq, ne_eq, Decidable.not_not, implies_true, true_and, and_true, wadd, wsub, wmul, decide_eq_true_eq, decide_eq_false_iff_not, Nat.succ_eq_add_one, imp_false, not_false_eq_true, not_true_eq_false, false_imp_iff, true_imp_iff] at *)
      obtain ⟨r1, r2, r3⟩ := rest_at (c := by1 sep) (s := s) (i := i) (show i < cntN s sep by omega)
      obtain ⟨q1, q2⟩ := rest_is (by1 sep) s i hi
      have r1 : 0 ≤ idxZ (restS s sep i) sep := r1
      have r2 : (idxZ (restS s sep i) sep).toNat < (restS s sep i).length := r2
      have q2 : (restS s sep i).length ≤ s.length := q2
      have e1 : (sep.length : Int) = 1 := by rw [p1]; rfl
      refine ⟨fun k j hk hj => ?_, by omega, ?_, by omega, by omega⟩
      · rw [over1s _ _ _ _ _ hj]
        congr 1
        by_cases hki : k = i
        · subst hki
          rw [if_pos rfl, doneS, if_pos (by omega), show (idxZ (restS s sep k) sep + 0 + 9223372036854775808) % 18446744073709551616 - 9223372036854775808 = idxZ (restS s sep k) sep by omega]
          exact r3.symm
        · rw [if_neg hki, doneS, doneS]
          by_cases hlt : k < i
          · rw [if_pos hlt, if_pos (by omega)]
          · rw [if_neg hlt, if_neg (by omega)]
      · rw [e1, show ((idxZ (restS s sep i) sep + 1 + 9223372036854775808) % 18446744073709551616 - 9223372036854775808).toNat = (idxZ (restS s sep i) sep).toNat + 1 by omega]
        rfl
    · (subst hL; subst hQ; simp only [L2, L3, std] at *; try simp only [sySet, reduceCtorEq, forall_const, Int.reduceToNat, Int.reduceAdd, Int.reduceSub, Int.cast_ofNat_Int, Int.toNat_natCast, Nat.le_eq, Nat.sub_eq, ne_eq, Decidable.not_not, implies_true, true_and, and_true, wadd, wsub, wmul, decide_eq_true_eq, decide_eq_false_iff_not, Nat.succ_eq_add_one, imp_false, not_false_eq_true, not_true_eq_false, false_imp_iff, true_imp_iff] at *)
      omega
    · (subst hL; subst hQ; simp only [L2, L3, std] at *; try simp only [sySet, reduceCtorEq, forall_const, Int.reduceToNat, Int.reduceAdd, Int.reduceSub, Int.cast_ofNat_Int, Int.toNat_natCast, Nat.le_eq, Nat.sub_eq, ne_eq, Decidable.not_not, implies_true, true_and, and_true, wadd, wsub, wmul, decide_eq_true_eq, decide_eq_false_iff_not, Nat.succ_eq_add_one, imp_false, not_false_eq_true, not_true_eq_false, false_imp_iff, true_imp_iff] at *)
      omega
    · (subst hL; subst hQ; simp only [L2, L3, std] at *; try simp only [sySet, reduceCtorEq, forall_const, Int.reduceToNat, Int.reduceAdd, Int.reduceSub, Int.cast_ofNat_Int, Int.toNat_natCast, Nat.le_eq, Nat.sub_eq, ne_eq, Decidable.not_not, implies_true, true_and, and_true, wadd, wsub, wmul, decide_eq_true_eq, decide_eq_false_iff_not, Nat.succ_eq_add_one, imp_false, not_false_eq_true, not_true_eq_false, false_imp_iff, true_imp_iff] at *)
      have hi' : i = cntN s sep := by omega
      subst hi'
      rw [show ((cntN s sep : Nat) + 1 + 9223372036854775808 : Int) % 18446744073709551616 - 9223372036854775808 = ((cntN s sep + 1 : Nat) : Int) by omega, Int.toNat_natCast]
      show fits (.lst 1 (splitC (by1 sep) s).length _) _
      rw [fits_lst, splitC_len]
      refine ⟨rfl, fun k j hk hj => ?_⟩
      rw [over1s _ _ _ _ _ hj]
      congr 1
      by_cases hki : k = cntN s sep
      · rw [if_pos hki, hki]; exact (rest_last _ _).symm
      · have hk : k < cntN s sep + 1 := hk
        rw [if_neg hki, doneS, if_pos (by omega)]
        rfl
  · (subst hL; subst hQ; simp only [L2, L3, std] at *; try simp only [sySet, reduceCtorEq, forall_const, Int.reduceToNat, Int.reduceAdd, Int.reduceSub, Int.cast_ofNat_Int, Int.toNat_natCast, Nat.le_eq, Nat.sub_eq, ne_eq, Decidable.not_not, implies_true, true_and, and_true, wadd, wsub, wmul, decide_eq_true_eq, decide_eq_false_iff_not, Nat.succ_eq_add_one, imp_false, not_false_eq_true, not_true_eq_false, false_imp_iff, true_imp_iff] at *)
    exact absurd h3 (by decide)
def spl_s (L : Seal) : Ent1 := (26, fun xs => match xs with | [.str s, .str sep] => some (L one1 sep ∧ L2 L upto 1000000000 s, lstS L (L2 L splitS s sep)) | _ => none)
theorem spl_good : Good Tryd.prog (spl_s std) := by
  intro xs p r h hp
  dsimp only [spl_s] at h ⊢
  split at h <;> cases h
  try simp only [L2, L3, std] at hp ⊢
  rename_i s sep
  obtain ⟨p1, p2⟩ : one1 sep ∧ s.length ≤ 1000000000 := hp
  refine acalls_L (T := tt) (S := fun L => sumOf [gsp_s L]) (lo := noA) (lb := noA) 5 (fn := Tryd.f26) rfl rfl (by kernel_rfl) (by kernel_rfl) rfl tt_ok (sumOf_ok ⟨gsp_good, trivial⟩) (by kernel_rfl) ?_
  (intro L P1 Q1 hL hP hQ; cbv; subst hL; simp only [L2, L3, std, sat_need, sat_must, sat_ite, sat_done, sat_yes, sat_ex, sat_all, sat_sup, sat_and, sat_fail]; subst hQ)
  (simp only [sySet, reduceCtorEq, forall_const, Int.reduceToNat, Int.reduceAdd, Int.reduceSub, Int.cast_ofNat_Int, Int.toNat_natCast, Nat.le_eq, Nat.sub_eq, ne_eq, Decidable.not_not, implies_true, true_and, and_true, wadd, wsub, wmul, decide_eq_true_eq, decide_eq_false_iff_not, Nat.succ_eq_add_one, imp_false, not_false_eq_true, not_true_eq_false, false_imp_iff, true_imp_iff])
  refine ⟨⟨p1, p2⟩, ?_⟩
  show fits (.lst 1 (lenS (splitS s sep)) _) _
  rw [fits_lst]
  exact ⟨rfl, fun i j hi hj => rfl⟩
/-! ### Join -/
def toS : AV → List UInt8
  | .str s => s
  | _ => []
/-- The parts of a list of texts, one behind the other. -/
def partsOf (n : Nat) (get : Nat → Nat → AV) : List (List UInt8) := (List.range n).map fun i => toS (get i 0)
def jnZ (sep : List UInt8) (x : AV) : List UInt8 := match x with
  | .lst _ n get => Lib.join (partsOf n get) sep
  | _ => []
def jnOk (sep : List UInt8) (x : AV) : Prop := match x with
  | .lst 1 n get => (∀ i, i < n → ∃ s, get i 0 = .str s) ∧ n ≤ 1000000 ∧ (Lib.join (partsOf n get) sep).length ≤ 140737488355328
  | .nils => True
  | _ => False
def jn_s (L : Seal) : Ent1 := (23, fun xs => match xs with | [x, .str sep] => some (L2 L jnOk sep x, .str (L2 L jnZ sep x)) | _ => none)
theorem args_2 {h : Array Obj} {D : Nat → Prop} {x y : AV} {vs : Array Value} (hr : RL h D noMu [x, y] vs) : ∃ a b, vs = #[a, b] ∧ R h D noMu x a ∧ R h D noMu y b := by
  obtain ⟨hl, hr⟩ := hr
  obtain ⟨a, b, ha⟩ : ∃ a b, vs.toList = [a, b] := by
    have hl : vs.toList.length = 2 := by simpa using hl.symm
    match vs.toList, hl with
    | [a, b], _ => exact ⟨a, b, rfl⟩
  have : vs = #[a, b] := by rw [← Array.toArray_toList (xs := vs), ha]
  subst this
  exact ⟨a, b, rfl, hr 0 x a rfl rfl, hr 1 y b rfl rfl⟩
theorem jn_good : Good Tryd.prog (jn_s std) := by
  intro xs p r h hp
  dsimp only [jn_s] at h ⊢
  split at h <;> cases h
  try simp only [L2, L3, std] at hp ⊢
  rename_i x sep
  have hp : jnOk sep x := hp
  intro D w vs hD hxs hg
  obtain ⟨a, b, rfl, rx, ry⟩ := args_2 hxs
  obtain rfl := str_eq ry
  unfold CallTo
  rw [callFunc_run (fn := Tryd.f23) rfl (by kernel_rfl) rfl]
  have fin : ∀ (l : List UInt8), l = jnZ sep x → (∀ w', Below w.heap.size w w' → ∃ v D', Ending.returned (.string ⟨l.toArray⟩) = .returned v ∧ Below w.heap.size w w' ∧ (∀ b, D b → D' b) ∧ (∀ b, D' b → D b ∨ (w.heap.size ≤ b ∧ b < w'.heap.size)) ∧ R w'.heap D' noMu (.str (jnZ sep x)) v) := by
    rintro l rfl w' hw
    exact ⟨_, D, rfl, hw, fun _ h => h, fun b hb => .inl hb, str_r _ _ _ _⟩
  have none_ : jnZ sep x = [] → ∀ (a : Option Addr) (c : Nat), Calls Tryd.prog 23 #[.slice a 0 c, .string ⟨sep.toArray⟩] w fun e w' => ∃ v D', e = .returned v ∧ Below w.heap.size w w' ∧ (∀ b, D b → D' b) ∧ (∀ b, D' b → D b ∨ (w.heap.size ≤ b ∧ b < w'.heap.size)) ∧ R w'.heap D' noMu (.str (jnZ sep x)) v := by
    intro h0 a c
    refine (Tryd.strings_Join_none a c ⟨sep.toArray⟩ w).mono ?_
    rintro e w' ⟨rfl, rfl⟩
    exact fin [] h0.symm _ (Below.refl _ _)
  unfold jnOk at hp
  split at hp
  · rename_i n get _
    obtain ⟨h1, h2, h3⟩ := hp
    cases rx with
    | lst0 => exact none_ rfl _ _
    | lst _ _ _ b o cap us hD0 hc hv h1' hr =>
      have hl : (partsOf n get).length = n := by rw [partsOf, List.length_map, List.length_range]
      have hq : ∀ j x, ((partsOf n get).map (fun s : List UInt8 => (⟨s.toArray⟩ : ByteArray)))[j]? = some x → w.cell? ⟨b, o + j, none⟩ = some (.string x) := by
        intro j x hj
        have hjn : j < n := by
          have := (List.getElem?_eq_some_iff.1 hj).1
          rw [List.length_map, hl] at this
          exact this
        obtain ⟨s, hs⟩ := h1 j hjn
        have r := hr j 0 hjn (by omega)
        rw [hs] at r
        have hv := hv j 0 hjn (by omega)
        rw [str_eq r, Nat.mul_one, Nat.add_zero] at hv
        rw [cell_h, hv]
        have e2 : (partsOf n get)[j]? = some s := by rw [partsOf, List.getElem?_map, List.getElem?_range hjn, Option.map_some, hs]; rfl
        rw [List.getElem?_map, e2] at hj
        cases hj
        rfl
      have hm : ((partsOf n get).map (fun s : List UInt8 => (⟨s.toArray⟩ : ByteArray))).map (·.data.toList) = partsOf n get := by
        rw [List.map_map]
        exact List.map_id' _
      have := Tryd.strings_Join b o cap ((partsOf n get).map (fun s : List UInt8 => (⟨s.toArray⟩ : ByteArray))) ⟨sep.toArray⟩ w hq (hD b hD0) (by rw [List.length_map, hl]; omega) (by rw [List.length_map, hl]; exact hc) (by rw [hm]; exact h3)
      rw [hm, List.length_map, hl] at this
      refine this.mono ?_
      rintro e w' ⟨rfl, hw⟩
      exact fin _ rfl _ hw
  · cases rx
    exact none_ rfl _ _
  · exact hp.elim
end Sy
end Go.Proofs.YtckbbcjbbmgmoaaDoor
