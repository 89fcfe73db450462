/- Chapter 1 (word): Digits, Number, and the document's. -/
import Derived.Test.YtckbbcjbbmgmoaaDoorWdA
import Derived.Test.YtckbbcjbbmgmoaaDoorAcB
namespace Go.Proofs.YtckbbcjbbmgmoaaDoor
namespace Sy
open Go Go.RowKit
set_option maxRecDepth 100000
set_option linter.unusedSimpArgs false
set_option linter.unusedVariables false

/-! ### Decimal numbers -/
def isD (c : UInt8) : Bool := decide (48 ≤ c.toNat) && decide (c.toNat ≤ 57)
def dcS (a : Nat) (c : UInt8) : Nat := a * 10 + (c.toNat - 48)
def decV (a : Nat) (l : List UInt8) : Nat := l.foldl dcS a
theorem decV_nil (a : Nat) : decV a [] = a := by unfold decV; exact List.foldl_nil
theorem decV_cons (a : Nat) (c : UInt8) (r : List UInt8) : decV a (c :: r) = decV (a * 10 + (c.toNat - 48)) r := by unfold decV; exact List.foldl_cons ..
theorem decV_app (l : List UInt8) (c : UInt8) (a : Nat) : decV a (l ++ [c]) = decV a l * 10 + (c.toNat - 48) := by
  unfold decV
  rw [List.foldl_append, List.foldl_cons, List.foldl_nil, dcS]
theorem decV_ge : ∀ (l : List UInt8) (a : Nat), a ≤ decV a l
  | [], a => by rw [decV_nil]; exact Nat.le_refl _
  | c :: r, a => by rw [decV_cons]; exact Nat.le_trans (by omega) (decV_ge r _)
theorem isD_iff {c : UInt8} : isD c = true ↔ 48 ≤ c.toNat ∧ c.toNat ≤ 57 := by
  simp [isD]
theorem prs_is : ∀ (l : List UInt8) (a : Nat), l.all isD = true → a < 18446744073709551616 → Lib.parseUintM 18446744073709551615 a l = if decV a l < 18446744073709551616 then .ok (decV a l) else .range
  | [], a, _, ha => by
    rw [decV_nil, if_pos ha, Lib.parseUintM]
  | c :: r, a, h, ha => by
    rw [List.all_cons, Bool.and_eq_true] at h
    obtain ⟨h1, h2⟩ := h
    rw [isD_iff] at h1
    rw [Lib.parseUintM, if_pos h1, decV_cons]
    have hge := decV_ge r (a * 10 + (c.toNat - 48))
    split
    · rw [if_neg (by omega)]
    · split
      · rw [if_neg (by omega)]
      · exact prs_is r _ h2 (by omega)
theorem prsB_is {l : List UInt8} (h : l.all isD = true) (h0 : l ≠ []) : Lib.parseUintB 64 l = if decV 0 l < 18446744073709551616 then .ok (decV 0 l) else .range := by
  rw [Lib.parseUintB, if_neg h0]
  exact prs_is l 0 h (by decide)
/-- Is a text a number's? -/
def numO (s : List UInt8) : Bool := s.all isD && !(s == []) && (!(sidx s 0 == 48) || s == [48])
def numE (s : List UInt8) : Int := if numO s = true then (if decV 0 s < 18446744073709551616 then 0 else 7) else 4
def numV (s : List UInt8) : Int := if numE s = 0 then decV 0 s else 0

/-! ### The walks -/
def dig_s (L : Seal) : Ent1 := (22, fun xs => match xs with | [.int .u64 n] => some (L u64In n, .str (L digZ n)) | _ => none)
theorem dig_good : Good Tryd.prog (dig_s std) := by
  intro xs p r h hp
  dsimp only [dig_s] at h ⊢
  split at h <;> cases h
  try simp only [L2, L3, std] at hp ⊢
  rename_i n
  have hn : u64In n := hp
  refine acalls_L (T := tt) (S := fun L => sumOf [fmt_s L]) (lo := noA) (lb := noA) 5 (fn := Tryd.f22) rfl rfl (by kernel_rfl) (by kernel_rfl) rfl tt_ok (sumOf_ok ⟨fmt_good, trivial⟩) (by kernel_rfl) ?_
  (intro L P1 Q1 hL hP hQ; cbv; subst hL; simp only [L2, L3, std, sat_need, sat_must, sat_ite, sat_done, sat_yes, sat_ex, sat_all, sat_sup, sat_and, sat_fail]; subst hQ)
  refine ⟨⟨hn, trivial⟩, ?_⟩
  rw [fits_str]
def nuInv (s : List UInt8) (i : Nat) : Prop := i ≤ s.length ∧ (s.take i).all isD = true
theorem fits_vi (a b c d : Int) : fits (.tup [.int .u64 a, .int .i64 b]) (.tup [.int .u64 c, .int .i64 d]) = (c = a ∧ d = b) := by
  simp [sySet]
theorem num_bad {s : List UInt8} (h : numO s = false) : 0 = numV s ∧ 4 = numE s := by
  have e : numE s = 4 := by rw [numE, if_neg (by rw [h]; decide)]
  exact ⟨by rw [numV, if_neg (by rw [e]; decide)], e.symm⟩
theorem not_all {s : List UInt8} {i : Nat} (hi : i < s.length) (h : sidx s (natI i) < 48 ∨ 57 < sidx s (natI i)) : numO s = false := by
  have : s.all isD = false := by
    rw [List.all_eq_false]
    refine ⟨s[i], List.getElem_mem hi, ?_⟩
    rw [isD_iff]
    rw [sidx, natI, Int.toNat_natCast, List.getD_eq_getElem?_getD, List.getElem?_eq_getElem hi, Option.getD_some] at h
    omega
  rw [numO, this]; rfl
theorem nu_step {s : List UInt8} {i i' : Nat} (hi' : i' = i + 1) (h : nuInv s i) (hi : i < s.length) (h1 : ¬ sidx s (natI i) < 48) (h2 : ¬ 57 < sidx s (natI i)) : nuInv s i' := by
  subst hi'
  refine ⟨hi, ?_⟩
  rw [List.take_succ_eq_append_getElem hi, List.all_append, h.2, List.all_cons, List.all_nil]
  rw [sidx, natI, Int.toNat_natCast, List.getD_eq_getElem?_getD, List.getElem?_eq_getElem hi, Option.getD_some] at h1 h2
  have : isD s[i] = true := isD_iff.2 (by omega)
  rw [this]; rfl
theorem nu_all {s : List UInt8} {i : Nat} (h : nuInv s i) (hi : ¬ i < s.length) : s.all isD = true := by
  have := h.2
  rw [List.take_of_length_le (by omega)] at this
  exact this
/-- A text of digits that may be a number's. -/
theorem num_fine {s : List UInt8} (h : s.all isD = true) (h0 : s ≠ []) (h1 : sidx s 0 ≠ 48 ∨ s = [48]) : ((!prsN s) = true → 0 = numV s ∧ 7 = numE s) ∧ ((!prsN s) = false → prsV s = numV s ∧ 0 = numE s) := by
  have ho : numO s = true := by
    rw [numO, h]
    rcases h1 with h1 | h1
    · simp [h0, h1]
    · subst h1; rfl
  have hB := prsB_is h h0
  rw [numV, numE, if_pos ho, prsN, prsV, hB]
  by_cases hl : decV 0 s < 18446744073709551616
  · rw [if_pos hl, if_pos hl]
    exact ⟨fun h => by simp at h, fun _ => ⟨rfl, rfl⟩⟩
  · rw [if_neg hl, if_neg hl]
    exact ⟨fun _ => ⟨rfl, rfl⟩, fun h => by simp at h⟩
def nuA (L : Seal) (s : List UInt8) : Nat → St → Option Ann := fun id st => match id with
  | 0 => some ⟨Nat, fun i => [(9, .int .i64 (L natI i))], fun _ => [], [0, 8], [], fun i => L2 L nuInv s i, fun i => L2 L (fun (s : List UInt8) (i : Nat) => s.length - i) s i⟩
  | _ => none
def num_s (L : Seal) : Ent1 := (27, fun xs => match xs with | [.str s] => some (L2 L upto 1000000 s, .tup [.int .u64 (L numV s), .int .i64 (L numE s)]) | _ => none)
theorem lt_of_ilt {n k : Nat} (h : ilt (natI n) (natI k) = true) : n < k := by
  have := of_decide_eq_true h
  unfold natI at this; omega
theorem ge_of_ilt {n k : Nat} (h : ilt (natI n) (natI k) = false) : ¬ n < k := by
  have := of_decide_eq_false h
  unfold natI at this; omega
theorem inR_nat {n k : Nat} (h : n < k) : inR (natI n) (natI k) = true := by rw [inR_t]; exact ⟨Int.natCast_nonneg _, by unfold natI; omega⟩
theorem natI_up' {n n' : Nat} (h : n' = n + 1) (h2 : n < 100000000) : wadd .i64 (natI n) 1 = natI n' := by
  subst h; unfold natI; rw [wadd, w_i64]; omega
theorem num_ne {s : List UInt8} (h : seq s [] = false) : s ≠ [] := by
  intro e; subst e; exact absurd h (by decide)
theorem num_e1 {s : List UInt8} (h : seq s [] = true) : numO s = false := by
  have : s = [] := by simpa [seq] using h
  subst this; rfl
theorem num_in {s : List UInt8} (h : seq s [] = false) : inR 0 (slen s) = true := by
  have := num_ne h
  rw [inR_t, slen]
  have : 0 < s.length := List.length_pos_iff.2 this
  omega
theorem num_z {s : List UInt8} (h : (!seq s [48]) = false) : s = [48] := by
  have : seq s [48] = true := by simpa using h
  simpa [seq] using this
theorem num_nz {s : List UInt8} (h : ieq (sidx s 0) 48 = false) : sidx s 0 ≠ 48 := by
  simpa [ieq] using h
theorem num_e2 {s : List UInt8} (h : ieq (sidx s 0) 48 = true) (h2 : (!seq s [48]) = true) : numO s = false := by
  have h1 : sidx s 0 = 48 := by simpa [ieq] using h
  have h3 : ¬ s = [48] := by
    intro e; subst e; exact absurd h2 (by decide)
  rw [numO, h1]
  simp [h3]
theorem num_good : Good Tryd.prog (num_s std) := by
  intro xs p r h hp
  dsimp only [num_s] at h ⊢
  split at h <;> cases h
  try simp only [L2, L3, std] at hp ⊢
  rename_i s
  have hs : s.length ≤ 1000000 := hp
  refine acalls_L (T := tt) (S := fun L => sumOf [prs_s L]) (lo := fun L => nuA L s) (lb := noA) 5 (fn := Tryd.f27) rfl rfl (by kernel_rfl) (by kernel_rfl) rfl tt_ok (sumOf_ok ⟨prs_good, trivial⟩) (by kernel_rfl) ?_
  obtain ⟨n0, hn0⟩ : ∃ n : Nat, n = 0 := ⟨_, rfl⟩
  intro L P' Q' hL hP hQ
  (cbv; try simp only [sat_need, sat_must, sat_ite, sat_done, sat_yes, sat_ex, sat_all, sat_sup, sat_and, sat_fail, true_and, and_true])
  refine ⟨⟨n0, ?_⟩, fun i hi => ?_⟩
  · (cbv; try simp only [sat_need, sat_must, sat_ite, sat_done, sat_yes, sat_ex, sat_all, sat_sup, sat_and, sat_fail, true_and, and_true])
    subst hL; subst hQ; subst hn0
    exact ⟨rfl, Nat.zero_le _, by rw [List.take_zero]; rfl⟩
  obtain ⟨i', hi'⟩ : ∃ i' : Nat, i' = i + 1 := ⟨_, rfl⟩
  (cbv; try simp only [sat_need, sat_must, sat_ite, sat_done, sat_yes, sat_ex, sat_all, sat_sup, sat_and, sat_fail, true_and, and_true])
  refine ⟨fun h1 => ⟨?_, fun h2 => ?_, fun h2 => ⟨?_, fun h3 => ?_, fun h3 => ⟨i', ?_⟩⟩⟩, fun h1 => ⟨fun h2 => ?_, fun h2 => ⟨?_, fun h3 => ⟨fun h4 => ?_, fun h4 => ⟨?_, fun h5 => ?_, fun h5 => ?_⟩⟩, fun h3 => ⟨?_, fun h5 => ?_, fun h5 => ?_⟩⟩⟩⟩
  all_goals (try (cbv; try simp only [sat_need, sat_must, sat_ite, sat_done, sat_yes, sat_ex, sat_all, sat_sup, sat_and, sat_fail, true_and, and_true]))
  all_goals (subst hL; subst hQ)
  all_goals (try rw [fits_vi])
  · exact inR_nat (k := s.length) (lt_of_ilt h1)
  · exact num_bad (not_all (lt_of_ilt (k := s.length) h1) (.inl (of_decide_eq_true h2)))
  · exact inR_nat (k := s.length) (lt_of_ilt h1)
  · exact num_bad (not_all (lt_of_ilt (k := s.length) h1) (.inr (of_decide_eq_true h3)))
  · have hlt : i < s.length := lt_of_ilt (k := s.length) h1
    refine ⟨natI_up' hi' (by omega), nu_step hi' hi hlt (of_decide_eq_false h2) (of_decide_eq_false h3), ?_⟩
    show s.length - i' + 1 ≤ s.length - i
    omega
  · exact num_bad (num_e1 h2)
  · exact num_in h2
  · exact num_bad (num_e2 h3 h4)
  · exact ⟨by omega, rfl, rfl⟩
  · exact (num_fine (nu_all hi (ge_of_ilt (k := s.length) h1)) (num_ne h2) (.inr (num_z h4))).1 h5
  · exact (num_fine (nu_all hi (ge_of_ilt (k := s.length) h1)) (num_ne h2) (.inr (num_z h4))).2 h5
  · exact ⟨by omega, rfl, rfl⟩
  · exact (num_fine (nu_all hi (ge_of_ilt (k := s.length) h1)) (num_ne h2) (.inl (num_nz h3))).1 h5
  · exact (num_fine (nu_all hi (ge_of_ilt (k := s.length) h1)) (num_ne h2) (.inl (num_nz h3))).2 h5

/-! ### The document's -/
def modV (s : List UInt8) (i : Nat) : Int := ((decV 0 (s.take i) % 18446744073709551616 : Nat) : Int)
def bigB (s : List UInt8) (i : Nat) : Bool := decide (18446744073709551616 ≤ decV 0 (s.take i))
def rnA (L : Seal) (s : List UInt8) : Nat → St → Option Ann := fun id st => match id with
  | 0 => some ⟨Nat, fun i => [(4, .int .u64 (L2 L modV s i)), (5, .bool (L2 L bigB s i)), (6, .int .i64 (L natI i))], fun _ => [], [0], [], fun i => L2 L nuInv s i, fun i => L2 L (fun (s : List UInt8) (i : Nat) => s.length - i) s i⟩
  | _ => none
def rnum_s (L : Seal) : Ent1 := (29, fun xs => match xs with | [.str s] => some (L2 L upto 1000000 s, .tup [.int .u64 (L numV s), .int .i64 (L numE s)]) | _ => none)
theorem rn_step {s : List UInt8} {i i' : Nat} (hi' : i' = i + 1) (hi : i < s.length) (h1 : ¬ sidx s (natI i) < 48) (h2 : ¬ 57 < sidx s (natI i)) :
    wadd .u64 (wmul .u64 (modV s i) 10) (IntKind.u64.wrap (wsub .u8 (sidx s (natI i)) 48)) = modV s i' ∧
    ((wquo .u64 (wsub .u64 18446744073709551615 (IntKind.u64.wrap (wsub .u8 (sidx s (natI i)) 48))) 10 < modV s i → bigB s i' = true) ∧
     (¬ wquo .u64 (wsub .u64 18446744073709551615 (IntKind.u64.wrap (wsub .u8 (sidx s (natI i)) 48))) 10 < modV s i → bigB s i' = bigB s i)) := by
  subst hi'
  have hv : decV 0 (s.take (i + 1)) = decV 0 (s.take i) * 10 + (s[i].toNat - 48) := by
    rw [List.take_succ_eq_append_getElem hi, decV_app]
  rw [sidx, natI, Int.toNat_natCast, List.getD_eq_getElem?_getD, List.getElem?_eq_getElem hi, Option.getD_some] at h1 h2 ⊢
  have hc := s[i].toNat_lt
  unfold modV bigB
  rw [hv]
  generalize decV 0 (s.take i) = v
  generalize s[i].toNat = c at h1 h2 hc ⊢
  have e : IntKind.u64.wrap (wsub .u8 (c : Int) 48) = ((c - 48 : Nat) : Int) := by
    rw [wsub, w_u8, w_u64]; omega
  rw [e]
  have e2 : wquo .u64 (wsub .u64 18446744073709551615 ((c - 48 : Nat) : Int)) 10 = (((18446744073709551615 - (c - 48)) / 10 : Nat) : Int) := by
    rw [wquo, wsub, w_u64, w_u64, Int.tdiv_eq_ediv_of_nonneg (by omega)]; omega
  rw [e2]
  refine ⟨?_, fun h => ?_, fun h => ?_⟩
  · rw [wadd, wmul, w_u64, w_u64]; omega
  · rw [decide_eq_true_eq]
    omega
  · rw [Bool.eq_iff_iff, decide_eq_true_eq, decide_eq_true_eq]
    omega
theorem rn_end {s : List UInt8} {i : Nat} (h : nuInv s i) (hi : ¬ i < s.length) (hne : s ≠ []) (hz : sidx s 0 ≠ 48 ∨ s = [48]) : (bigB s i = true → 0 = numV s ∧ 7 = numE s) ∧ (bigB s i = false → modV s i = numV s ∧ 0 = numE s) := by
  have ha := nu_all h hi
  have ho : numO s = true := by
    rw [numO, ha]
    rcases hz with h1 | h1
    · simp [hne, h1]
    · subst h1; rfl
  rw [bigB, modV, numV, numE, if_pos ho, List.take_of_length_le (by omega)]
  by_cases hl : decV 0 s < 18446744073709551616
  · rw [if_pos hl]
    refine ⟨fun h => ?_, fun _ => ⟨?_, rfl⟩⟩
    · rw [decide_eq_true_eq] at h; omega
    · rw [if_pos rfl, Nat.mod_eq_of_lt hl]
  · rw [if_neg hl]
    refine ⟨fun _ => ⟨rfl, rfl⟩, fun h => ?_⟩
    rw [decide_eq_false_iff_not] at h; omega
theorem num_ne0 {s : List UInt8} (h : ieq (slen s) 0 = false) : s ≠ [] := by
  intro e; subst e; exact absurd h (by decide)
theorem num_e0 {s : List UInt8} (h : ieq (slen s) 0 = true) : numO s = false := by
  have : (s.length : Int) = 0 := by simpa [ieq, slen] using h
  have : s = [] := List.eq_nil_of_length_eq_zero (by omega)
  subst this; rfl
theorem num_in0 {s : List UInt8} (h : ieq (slen s) 0 = false) : inR 0 (slen s) = true := by
  have : 0 < s.length := List.length_pos_iff.2 (num_ne0 h)
  rw [inR_t, slen]
  omega
theorem num_e3 {s : List UInt8} (h : ilt 1 (slen s) = true) (h2 : ieq (sidx s 0) 48 = true) : numO s = false := by
  have h1 : sidx s 0 = 48 := by simpa [ieq] using h2
  rw [ilt_t, slen] at h
  have h3 : ¬ s = [48] := by
    intro e; subst e; exact absurd h (by decide)
  rw [numO, h1]
  simp [h3]
theorem num_one {s : List UInt8} (h : ieq (slen s) 0 = false) (h2 : ilt 1 (slen s) = false) : sidx s 0 ≠ 48 ∨ s = [48] := by
  have h0 : 0 < s.length := List.length_pos_iff.2 (num_ne0 h)
  rw [ilt_f, slen] at h2
  match s, h0, h2 with
  | [c], _, _ =>
    by_cases hc : c = 48
    · exact .inr (by rw [hc])
    · refine .inl fun h => hc ?_
      have : c.toNat = 48 := by
        have h : ((c.toNat : Nat) : Int) = 48 := h
        omega
      exact UInt8.toNat_inj.1 this
  | _ :: _ :: _, _, h => simp at h; omega
theorem rnum_good : Good Tryd.prog (rnum_s std) := by
  intro xs p r h hp
  dsimp only [rnum_s] at h ⊢
  split at h <;> cases h
  try simp only [L2, L3, std] at hp ⊢
  rename_i s
  have hs : s.length ≤ 1000000 := hp
  refine acalls_L (T := tt) (S := noS) (lo := fun L => rnA L s) (lb := noA) 5 (fn := Tryd.f29) rfl rfl (by kernel_rfl) (by kernel_rfl) rfl tt_ok (noS_ok _) (by kernel_rfl) ?_
  obtain ⟨n0, hn0⟩ : ∃ n : Nat, n = 0 := ⟨_, rfl⟩
  intro L P' Q' hL hP hQ
  (cbv; try simp only [sat_need, sat_must, sat_ite, sat_done, sat_yes, sat_ex, sat_all, sat_sup, sat_and, sat_fail, true_and, and_true])
  refine ⟨fun h1 => ?_, fun h1 => ⟨fun h2 => ⟨?_, fun h3 => ?_, fun h3 => ?_⟩, fun h2 => ?_⟩⟩
  · subst hL; subst hQ
    rw [fits_vi]
    exact num_bad (num_e0 h1)
  · subst hL; exact num_in0 h1
  · subst hL; subst hQ
    rw [fits_vi]
    exact num_bad (num_e3 h2 h3)
  · have hne : s ≠ [] := by subst hL; exact num_ne0 h1
    have hz : sidx s 0 ≠ 48 ∨ s = [48] := by subst hL; exact .inl (num_nz h3)
    clear h1 h2 h3
    refine ⟨⟨n0, ?_⟩, fun i hi => ?_⟩
    · (cbv; try simp only [sat_need, sat_must, sat_ite, sat_done, sat_yes, sat_ex, sat_all, sat_sup, sat_and, sat_fail, true_and, and_true])
      subst hL; subst hQ; subst hn0
      exact ⟨rfl, by simp only [std, bigB]; rfl, by simp only [std, modV]; rfl, Nat.zero_le _, by rw [List.take_zero]; rfl⟩
    obtain ⟨i', hi'⟩ : ∃ i' : Nat, i' = i + 1 := ⟨_, rfl⟩
    (cbv; try simp only [sat_need, sat_must, sat_ite, sat_done, sat_yes, sat_ex, sat_all, sat_sup, sat_and, sat_fail, true_and, and_true])
    refine ⟨fun h1 => ⟨?_, fun h2 => ?_, fun h2 => ⟨?_, fun h3 => ?_, fun h3 => ⟨?_, ?_, fun h4 => ⟨i', ?_⟩, fun h4 => ⟨i', ?_⟩⟩⟩⟩, fun h1 => ⟨fun h2 => ?_, fun h2 => ?_⟩⟩
    all_goals (try (cbv; try simp only [sat_need, sat_must, sat_ite, sat_done, sat_yes, sat_ex, sat_all, sat_sup, sat_and, sat_fail, true_and, and_true]))
    all_goals (subst hL; subst hQ)
    all_goals (try rw [fits_vi])
    · exact inR_nat (k := s.length) (lt_of_ilt h1)
    · exact num_bad (not_all (lt_of_ilt (k := s.length) h1) (.inl (of_decide_eq_true h2)))
    · exact inR_nat (k := s.length) (lt_of_ilt h1)
    · exact num_bad (not_all (lt_of_ilt (k := s.length) h1) (.inr (of_decide_eq_true h3)))
    · exact inR_nat (k := s.length) (lt_of_ilt h1)
    · rfl
    · have hlt : i < s.length := lt_of_ilt (k := s.length) h1
      have k1 := nu_step hi' hi hlt (of_decide_eq_false h2) (of_decide_eq_false h3)
      obtain ⟨e1, e2⟩ := rn_step hi' hlt (of_decide_eq_false h2) (of_decide_eq_false h3)
      refine ⟨natI_up' hi' (by omega), (e2.1 (of_decide_eq_true h4)).symm, e1, k1, ?_⟩
      show s.length - i' + 1 ≤ s.length - i
      omega
    · have hlt : i < s.length := lt_of_ilt (k := s.length) h1
      have k1 := nu_step hi' hi hlt (of_decide_eq_false h2) (of_decide_eq_false h3)
      obtain ⟨e1, e2⟩ := rn_step hi' hlt (of_decide_eq_false h2) (of_decide_eq_false h3)
      refine ⟨natI_up' hi' (by omega), (e2.2 (of_decide_eq_false h4)).symm, e1, k1, ?_⟩
      show s.length - i' + 1 ≤ s.length - i
      omega
    · exact (rn_end hi (ge_of_ilt (k := s.length) h1) hne hz).1 h2
    · exact (rn_end hi (ge_of_ilt (k := s.length) h1) hne hz).2 h2
  · have hne : s ≠ [] := by subst hL; exact num_ne0 h1
    have hz : sidx s 0 ≠ 48 ∨ s = [48] := by subst hL; exact num_one h1 h2
    clear h1 h2
    refine ⟨⟨n0, ?_⟩, fun i hi => ?_⟩
    · (cbv; try simp only [sat_need, sat_must, sat_ite, sat_done, sat_yes, sat_ex, sat_all, sat_sup, sat_and, sat_fail, true_and, and_true])
      subst hL; subst hQ; subst hn0
      exact ⟨rfl, by simp only [std, bigB]; rfl, by simp only [std, modV]; rfl, Nat.zero_le _, by rw [List.take_zero]; rfl⟩
    obtain ⟨i', hi'⟩ : ∃ i' : Nat, i' = i + 1 := ⟨_, rfl⟩
    (cbv; try simp only [sat_need, sat_must, sat_ite, sat_done, sat_yes, sat_ex, sat_all, sat_sup, sat_and, sat_fail, true_and, and_true])
    refine ⟨fun h1 => ⟨?_, fun h2 => ?_, fun h2 => ⟨?_, fun h3 => ?_, fun h3 => ⟨?_, ?_, fun h4 => ⟨i', ?_⟩, fun h4 => ⟨i', ?_⟩⟩⟩⟩, fun h1 => ⟨fun h2 => ?_, fun h2 => ?_⟩⟩
    all_goals (try (cbv; try simp only [sat_need, sat_must, sat_ite, sat_done, sat_yes, sat_ex, sat_all, sat_sup, sat_and, sat_fail, true_and, and_true]))
    all_goals (subst hL; subst hQ)
    all_goals (try rw [fits_vi])
    · exact inR_nat (k := s.length) (lt_of_ilt h1)
    · exact num_bad (not_all (lt_of_ilt (k := s.length) h1) (.inl (of_decide_eq_true h2)))
    · exact inR_nat (k := s.length) (lt_of_ilt h1)
    · exact num_bad (not_all (lt_of_ilt (k := s.length) h1) (.inr (of_decide_eq_true h3)))
    · exact inR_nat (k := s.length) (lt_of_ilt h1)
    · rfl
    · have hlt : i < s.length := lt_of_ilt (k := s.length) h1
      have k1 := nu_step hi' hi hlt (of_decide_eq_false h2) (of_decide_eq_false h3)
      obtain ⟨e1, e2⟩ := rn_step hi' hlt (of_decide_eq_false h2) (of_decide_eq_false h3)
      refine ⟨natI_up' hi' (by omega), (e2.1 (of_decide_eq_true h4)).symm, e1, k1, ?_⟩
      show s.length - i' + 1 ≤ s.length - i
      omega
    · have hlt : i < s.length := lt_of_ilt (k := s.length) h1
      have k1 := nu_step hi' hi hlt (of_decide_eq_false h2) (of_decide_eq_false h3)
      obtain ⟨e1, e2⟩ := rn_step hi' hlt (of_decide_eq_false h2) (of_decide_eq_false h3)
      refine ⟨natI_up' hi' (by omega), (e2.2 (of_decide_eq_false h4)).symm, e1, k1, ?_⟩
      show s.length - i' + 1 ≤ s.length - i
      omega
    · exact (rn_end hi (ge_of_ilt (k := s.length) h1) hne hz).1 h2
    · exact (rn_end hi (ge_of_ilt (k := s.length) h1) hne hz).2 h2
def digI (N : Nat) (x : Nat × List UInt8) : Prop := x.1 ≤ N ∧ Lib.decDigits N = Lib.decDigits x.1 ++ x.2
def rdA (L : Seal) (N : Nat) : Nat → St → Option Ann := fun id st => match id with
  | 0 => some ⟨Nat × List UInt8, fun x => [(0, .int .u64 (L natI (L Prod.fst x))), (3, .str (L Prod.snd x))], fun _ => [], [], [], fun x => L2 L digI N x, fun x => L Prod.fst x⟩
  | _ => none
def rdig_s (L : Seal) : Ent1 := (31, fun xs => match xs with | [.int .u64 n] => some (L u64In n, .str (L digZ n)) | _ => none)
theorem dig_room {N : Nat} {x : Nat × List UInt8} (h : digI N x) (hN : N < 18446744073709551616) : x.2.length ≤ 20 ∧ x.1 < 18446744073709551616 := by
  obtain ⟨h1, h2⟩ := h
  have e := congrArg List.length h2
  rw [List.length_append, Lib.decDigits_length] at e
  have hn : Lib.nDigits N ≤ 20 := by
    by_cases h0 : N = 0
    · subst h0; rw [Lib.nDigits_small (by decide)]; decide
    · have := Lib.numDigits_eq N (by omega) hN
      split at this <;> omega
  omega
theorem dig_b1 (x : Nat) : bytesOf 1 (fun i => (AV.int .u8 (nthI [IntKind.u8.wrap (wadd .u64 48 (Int.tmod (natI x) 10))] (0 + i))).toI) = [UInt8.ofNat (48 + x % 10)] := by
  have e : IntKind.u8.wrap (wadd .u64 48 (Int.tmod (natI x) 10)) = ((48 + x % 10 : Nat) : Int) := by
    rw [natI, Int.tmod_eq_emod_of_nonneg (by omega), wadd, w_u64, w_u8]; omega
  show [UInt8.ofNat (IntKind.u8.wrap (wadd .u64 48 (Int.tmod (natI x) 10))).toNat] = _
  rw [e, Int.toNat_natCast]
theorem dig_div (x : Nat) (h : x < 18446744073709551616) : wquo .u64 (natI x) 10 = natI (x / 10) := by
  rw [wquo, natI, natI, w_u64, Int.tdiv_eq_ediv_of_nonneg (by omega)]; omega
theorem dig_end {N : Nat} {x : Nat × List UInt8} (hN : N < 18446744073709551616) (h : digI N x) (h2 : ieq (wquo .u64 (natI x.1) 10) 0 = true) : [UInt8.ofNat (48 + x.1 % 10)] ++ x.2 = digZ (N : Int) := by
  obtain ⟨h1, h3⟩ := h
  rw [dig_div x.1 (by omega)] at h2
  have h2 : ((x.1 / 10 : Nat) : Int) = 0 := by simpa [ieq, natI] using h2
  have h4 : x.1 < 10 := by omega
  rw [digZ, Int.toNat_natCast, h3, Lib.decDigits_one h4, Nat.mod_eq_of_lt h4]
theorem dig_next {N : Nat} {x y : Nat × List UInt8} (hN : N < 18446744073709551616) (h : digI N x) (hy : y = (x.1 / 10, UInt8.ofNat (48 + x.1 % 10) :: x.2)) (h2 : ieq (wquo .u64 (natI x.1) 10) 0 = false) : digI N y ∧ y.1 + 1 ≤ x.1 := by
  obtain ⟨h1, h3⟩ := h
  rw [dig_div x.1 (by omega)] at h2
  have h2 : ¬ ((x.1 / 10 : Nat) : Int) = 0 := by simpa [ieq, natI] using h2
  have h4 : ¬ x.1 < 10 := by omega
  subst hy
  refine ⟨⟨by show x.1 / 10 ≤ N; omega, ?_⟩, by show x.1 / 10 + 1 ≤ x.1; omega⟩
  show _ = Lib.decDigits (x.1 / 10) ++ (UInt8.ofNat (48 + x.1 % 10) :: x.2)
  rw [h3, Lib.decDigits, dif_neg h4, List.append_assoc]; rfl
theorem u64_nat {N : Nat} (h : (N : Int) < 18446744073709551616) : N < 18446744073709551616 := by omega
theorem rdig_good : Good Tryd.prog (rdig_s std) := by
  intro xs p r h hp
  dsimp only [rdig_s] at h ⊢
  split at h <;> cases h
  try simp only [L2, L3, std] at hp ⊢
  rename_i n
  obtain ⟨h0, h1⟩ : u64In n := hp
  obtain ⟨N, rfl⟩ := nat_of h0
  have hN := u64_nat h1
  refine acalls_L (T := tt) (S := noS) (lo := fun L => rdA L N) (lb := noA) 5 (fn := Tryd.f31) rfl rfl (by kernel_rfl) (by kernel_rfl) rfl tt_ok (noS_ok _) (by kernel_rfl) ?_
  intro L P' Q' hL hP hQ
  obtain ⟨x0, hx0⟩ : ∃ x : Nat × List UInt8, x = (N, []) := ⟨_, rfl⟩
  (cbv; try simp only [sat_need, sat_must, sat_ite, sat_done, sat_yes, sat_ex, sat_all, sat_sup, sat_and, sat_fail, true_and, and_true])
  refine ⟨⟨x0, ?_⟩, fun x hx => ?_⟩
  · (cbv; try simp only [sat_need, sat_must, sat_ite, sat_done, sat_yes, sat_ex, sat_all, sat_sup, sat_and, sat_fail, true_and, and_true])
    subst hL; subst hQ; subst hx0
    exact ⟨rfl, rfl, Nat.le_refl _, (List.append_nil _).symm⟩
  obtain ⟨y, hy⟩ : ∃ y : Nat × List UInt8, y = (x.1 / 10, UInt8.ofNat (48 + x.1 % 10) :: x.2) := ⟨_, rfl⟩
  (cbv; try simp only [sat_need, sat_must, sat_ite, sat_done, sat_yes, sat_ex, sat_all, sat_sup, sat_and, sat_fail, true_and, and_true])
  refine ⟨?_, ⟨?_, ?_⟩, ?_, ?_, fun h2 => ?_, fun h2 => ⟨y, ?_⟩⟩
  all_goals (try (cbv; try simp only [sat_need, sat_must, sat_ite, sat_done, sat_yes, sat_ex, sat_all, sat_sup, sat_and, sat_fail, true_and, and_true]))
  all_goals (subst hL; subst hQ)
  · rfl
  · exact show 0 + 1 ≤ 1 by decide
  · exact fun i hi => ⟨_, rfl⟩
  · have := (dig_room hx hN).1
    simp only [std, L2]
    rw [dig_b1, catOk, decide_eq_true_eq]
    show 1 + x.2.length ≤ _
    omega
  · rfl
  · rw [fits_str]
    simp only [std, L2]
    rw [dig_b1]
    exact dig_end hN hx h2
  · simp only [std, L2] at h2 ⊢
    rw [dig_b1]
    obtain ⟨e1, e2⟩ := dig_next hN hx hy h2
    exact ⟨by rw [hy]; rfl, by rw [hy]; exact dig_div x.1 (dig_room hx hN).2, e1, e2⟩
end Sy
end Go.Proofs.YtckbbcjbbmgmoaaDoor
