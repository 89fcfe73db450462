/-Chapter 4 (spot): Text, Bytes, Of, Any, Meet, Cmp, Parse; the document's. Chapters 3 and 4: the document's Cut, Text, Bytes, Any, Meet, Parse. Chapter 4 (spot): plain facts: a place's text, bytes, and back; the order. The symbolic executor: the arguments of a law, opened: what the given data says of them, as abstract values. The laws of chapter 4 (spot): SpotTexts, SpotMeets, SpotOrder, SpotBytes. Lists of structs, told by views: how an element is told in cells, and read back. Go's strings.Builder: what it writes. Chapter 7 (codec): values, in plain Lean, and as the executor sees them. Chapter 7 (codec): how deep, bare, the same. Chapter 7 (codec): bare, the same; the document's. Chapter 7 (codec): the same; the document's bare, same. Chapter 7 (codec): writings. Chapter 7 (codec): values made, put; the chapter's example. Chapter 7 (codec), its law: values made of nodes. Chapter 1: the number that a text begins with; of what is written it is what was written. Chapter 7 (codec): the value that a text begins with: what the code does. Chapter 7 (codec): what is written is read as it was; Get. Chapter 7 (codec): Get. Chapter 7 (codec): values in rows, told cell by cell. Chapter 9 (config): routes, endpoints, listeners, clusters, told by views; their values. Chapter 9 (config): routes, endpoints, listeners, clusters as values. Chapter 9 (config): how many; weights. Chapter 9 (config), plain: how long the writing of a config may be; it says what the config was.-/
import Derived.Test.YtckbbcjbbmgmoaaGreatDoorM3
import Derived.ChangeArms
import Derived.ChangeSlices
import Derived.OpenShut
import Derived.WideShapes
import Derived.Lib.Builder
namespace Go.Proofs.YtckbbcjbbmgmoaaGreatDoor
namespace Sy
open Go Go.RowKit
set_option maxRecDepth 100000
set_option linter.unusedSimpArgs false
set_option linter.unusedVariables false

/-- A place. -/
structure Pl where
  a : Int
  b : Int
  c : Int
  d : Int
  p : Int
  deriving DecidableEq
def plA (L : Seal) (x : Pl) : AV := .agg [.int .u8 (L Pl.a x), .int .u8 (L Pl.b x), .int .u8 (L Pl.c x), .int .u8 (L Pl.d x), .int .u16 (L Pl.p x)]
def mkPl (L : Seal) (a b c d p : Int) : Pl := L (L (L (L (L Pl.mk a) b) c) d) p
def plOk (x : Pl) : Prop := (0 ≤ x.a ∧ x.a ≤ 255) ∧ (0 ≤ x.b ∧ x.b ≤ 255) ∧ (0 ≤ x.c ∧ x.c ≤ 255) ∧ (0 ≤ x.d ∧ x.d ≤ 255) ∧ 0 ≤ x.p ∧ x.p ≤ 65535
def ub (n : Int) : UInt8 := UInt8.ofNat n.toNat
def plB (x : Pl) : List UInt8 := [ub x.a, ub x.b, ub x.c, ub x.d, ub (x.p / 256), ub (x.p % 256)]
def plT (x : Pl) : List UInt8 := digZ x.a ++ 46 :: (digZ x.b ++ 46 :: (digZ x.c ++ 46 :: (digZ x.d ++ 58 :: digZ x.p)))
theorem ub_mod (n : Nat) : UInt8.ofNat n = UInt8.ofNat (n % 256) := by
  apply UInt8.toNat_inj.1
  rw [UInt8.toNat_ofNat', UInt8.toNat_ofNat']; omega
theorem put_2 {p : Int} (h0 : 0 ≤ p) (h1 : p ≤ 65535) : putZ p 2 = [ub (p / 256), ub (p % 256)] := by
  obtain ⟨n, rfl⟩ := nat_of h0
  show putL n 2 = _
  rw [putL, putL, putL, Nat.pow_one, Nat.pow_zero, Nat.div_one, ub_mod n]
  show _ = [UInt8.ofNat ((n : Int) / 256).toNat, UInt8.ofNat ((n : Int) % 256).toNat]
  rw [show ((n : Int) / 256).toNat = n / 256 by omega, show ((n : Int) % 256).toNat = n % 256 by omega]
theorem ub_nat {n : Int} (h0 : 0 ≤ n) (h1 : n ≤ 255) : ((ub n).toNat : Int) = n := by
  rw [ub, UInt8.toNat_ofNat']; omega
def bytes_s (L : Seal) : Ent1 := (85, fun xs => match xs with
  | [.agg [.int .u8 a, .int .u8 b, .int .u8 c, .int .u8 d, .int .u16 p]] => some (L plOk (mkPl L a b c d p), .str (L plB (mkPl L a b c d p)))
  | _ => none)
theorem bytes_good : Good Tryz.prog (bytes_s std) := by
  intro xs p r h hp
  dsimp only [bytes_s] at h ⊢
  split at h <;> cases h
  try simp only [L2, L3, std] at hp ⊢
  rename_i a b c d p
  have hp : plOk ⟨a, b, c, d, p⟩ := hp
  refine acalls_L (T := tt) (S := fun L => sumOf [put_s L]) (lo := noA) (lb := noA) 5 (fn := Tryz.f85) rfl rfl (by kernel_rfl) (by kernel_rfl) rfl tt_ok (sumOf_ok ⟨put_good, trivial⟩) (by kernel_rfl) ?_
  (intro L P1 Q1 hL hP hQ; cbv; subst hL; simp only [L2, L3, std, sat_need, sat_must, sat_ite, sat_done, sat_yes, sat_ex, sat_all, sat_sup, sat_and, sat_fail]; subst hQ)
  (simp only [sySet, reduceCtorEq, forall_const, Int.reduceToNat, Int.reduceAdd, Int.reduceSub, Int.cast_ofNat_Int, Int.toNat_natCast, Nat.le_eq, Nat.sub_eq, ne_eq, Decidable.not_not, implies_true, true_and, and_true, wadd, wsub, wmul, decide_eq_true_eq, decide_eq_false_iff_not, Nat.succ_eq_add_one, imp_false, not_false_eq_true, not_true_eq_false, false_imp_iff, true_imp_iff])
  obtain ⟨-, -, -, -, h1, h2⟩ := hp
  simp only at h1 h2
  have h2 : p ≤ 65535 := h2
  rw [show p % 18446744073709551616 = p by omega, put_2 h1 h2]
  exact ⟨fun i _ => ⟨_, rfl⟩, ⟨by omega, by omega, by decide, by decide⟩, by simp [bytesOf], rfl⟩
/-! ### A place as a text -/
def ipL (x : Pl) : List Int := [x.a, x.b, x.c, x.d]
def ipT (x : Pl) (j : Nat) : List UInt8 := digZ (nthI (ipL x) j)
def le4 (i : Nat) : Prop := i ≤ 4
def to4 (i : Nat) : Nat := 4 - i
def txtA (L : Seal) (x : Pl) : Nat → St → Option Ann := fun id st => match id with
  | 0 => some ⟨Nat, fun i => [(8, .int .i64 (L natI i)), (3, .sl 900 1 0 i)], fun i => [(900, .row 9 1 i (fun j _ => .str (L2 L ipT x j)))], [1, 7], [1], fun i => L le4 i, fun i => L to4 i⟩
  | _ => none
theorem ip_in {x : Pl} (h : plOk x) (j : Nat) : u64In (nthI (ipL x) j) := by
  obtain ⟨h1, h2, h3, h4, -⟩ := h
  match j with
  | 0 => exact ⟨h1.1, by have := h1.2; show x.a < _; omega⟩
  | 1 => exact ⟨h2.1, by have := h2.2; show x.b < _; omega⟩
  | 2 => exact ⟨h3.1, by have := h3.2; show x.c < _; omega⟩
  | 3 => exact ⟨h4.1, by have := h4.2; show x.d < _; omega⟩
  | j + 4 => exact ⟨Int.le_refl 0, (by decide : (0 : Int) < 18446744073709551616)⟩
theorem join4 (x : Pl) : Lib.join [digZ x.a, digZ x.b, digZ x.c, digZ x.d] [46] = digZ x.a ++ 46 :: (digZ x.b ++ 46 :: (digZ x.c ++ 46 :: digZ x.d)) := by
  simp [Lib.join, List.intercalate]
def ptext_s (L : Seal) : Ent1 := (160, fun xs => match xs with
  | [.agg [.int .u8 a, .int .u8 b, .int .u8 c, .int .u8 d, .int .u16 p]] => some (L plOk (mkPl L a b c d p), .str (L plT (mkPl L a b c d p)))
  | _ => none)
theorem ptext_good : Good Tryz.prog (ptext_s std) := by
  intro xs p r h hp
  dsimp only [ptext_s] at h ⊢
  split at h <;> cases h
  try simp only [L2, L3, std] at hp ⊢
  rename_i a b c d p
  have hp : plOk ⟨a, b, c, d, p⟩ := hp
  refine acalls_L (T := tt) (S := fun L => sumOf [dig_s L, jn_s L]) (lo := fun L => txtA L ⟨a, b, c, d, p⟩) (lb := noA) 5 (fn := Tryz.f160) rfl rfl (by kernel_rfl) (by kernel_rfl) rfl tt_ok (sumOf_ok ⟨dig_good, jn_good, trivial⟩) (by kernel_rfl) ?_
  intro L P' Q' hL hP hQ
  (cbv; try simp only [sat_need, sat_must, sat_ite, sat_done, sat_yes, sat_ex, sat_all, sat_sup, sat_and, sat_fail, true_and, and_true])
  refine ⟨⟨0, ?_⟩, fun i hi => ?_⟩
  · (cbv; try simp only [sat_need, sat_must, sat_ite, sat_done, sat_yes, sat_ex, sat_all, sat_sup, sat_and, sat_fail, true_and, and_true])
    (subst hL; subst hQ; simp only [L2, L3, std] at *; try simp only [sySet, reduceCtorEq, forall_const, Int.reduceToNat, Int.reduceAdd, Int.reduceSub, Int.cast_ofNat_Int, Int.toNat_natCast, Nat.le_eq, Nat.sub_eq, ne_eq, Decidable.not_not, implies_true, true_and, and_true, wadd, wsub, wmul, decide_eq_true_eq, decide_eq_false_iff_not, Nat.succ_eq_add_one, imp_false, not_false_eq_true, not_true_eq_false, false_imp_iff, true_imp_iff] at *)
    exact Nat.zero_le _
  · (cbv; try simp only [sat_need, sat_must, sat_ite, sat_done, sat_yes, sat_ex, sat_all, sat_sup, sat_and, sat_fail, true_and, and_true])
    have hi4 : i ≤ 4 := by
      have hi' := hi
      rw [hL] at hi'
      exact hi'
    refine ⟨fun h1 => ⟨?_, ?_, ?_, i + 1, ?_⟩, fun h1 => ⟨?_, ?_, ?_, ?_, ?_⟩⟩
    · (subst hL; subst hQ; simp only [L2, L3, std] at *; try simp only [sySet, reduceCtorEq, forall_const, Int.reduceToNat, Int.reduceAdd, Int.reduceSub, Int.cast_ofNat_Int, Int.toNat_natCast, Nat.le_eq, Nat.sub_eq, ne_eq, Decidable.not_not, implies_true, true_and, and_true, wadd, wsub, wmul, decide_eq_true_eq, decide_eq_false_iff_not, Nat.succ_eq_add_one, imp_false, not_false_eq_true, not_true_eq_false, false_imp_iff, true_imp_iff] at *)
      omega
    · (subst hL; subst hQ; simp only [L2, L3, std] at *; try simp only [sySet, reduceCtorEq, forall_const, Int.reduceToNat, Int.reduceAdd, Int.reduceSub, Int.cast_ofNat_Int, Int.toNat_natCast, Nat.le_eq, Nat.sub_eq, ne_eq, Decidable.not_not, implies_true, true_and, and_true, wadd, wsub, wmul, decide_eq_true_eq, decide_eq_false_iff_not, Nat.succ_eq_add_one, imp_false, not_false_eq_true, not_true_eq_false, false_imp_iff, true_imp_iff] at *)
      have := ip_in hp i
      show u64In (_ % _)
      rw [show nthI [a, b, c, d] i % 18446744073709551616 = nthI (ipL ⟨a, b, c, d, p⟩) i from Int.emod_eq_of_lt this.1 this.2]
      exact this
    · (subst hL; subst hQ; simp only [L2, L3, std] at *; try simp only [sySet, reduceCtorEq, forall_const, Int.reduceToNat, Int.reduceAdd, Int.reduceSub, Int.cast_ofNat_Int, Int.toNat_natCast, Nat.le_eq, Nat.sub_eq, ne_eq, Decidable.not_not, implies_true, true_and, and_true, wadd, wsub, wmul, decide_eq_true_eq, decide_eq_false_iff_not, Nat.succ_eq_add_one, imp_false, not_false_eq_true, not_true_eq_false, false_imp_iff, true_imp_iff] at *)
      omega
    · (cbv; try simp only [sat_need, sat_must, sat_ite, sat_done, sat_yes, sat_ex, sat_all, sat_sup, sat_and, sat_fail, true_and, and_true])
      (subst hL; subst hQ; simp only [L2, L3, std] at *; try simp only [sySet, reduceCtorEq, forall_const, Int.reduceToNat, Int.reduceAdd, Int.reduceSub, Int.cast_ofNat_Int, Int.toNat_natCast, Nat.le_eq, Nat.sub_eq, ne_eq, Decidable.not_not, implies_true, true_and, and_true, wadd, wsub, wmul, decide_eq_true_eq, decide_eq_false_iff_not, Nat.succ_eq_add_one, imp_false, not_false_eq_true, not_true_eq_false, false_imp_iff, true_imp_iff] at *)
      refine ⟨fun k j hk hj => ?_, by omega, by show i + 1 ≤ 4; omega, by show 4 - (i + 1) + 1 ≤ 4 - i; omega⟩
      by_cases hk' : k < i
      · rw [blt_t hk', show k - i = 0 by omega]; rfl
      · have : k = i := by omega
        subst this
        rw [blt_f (by omega), show k - k = 0 by omega]
        match j, hj with
        | 0, _ =>
          have := ip_in hp k
          show AV.str (digZ (nthI [a, b, c, d] k % 18446744073709551616)) = .str (digZ (nthI (ipL ⟨a, b, c, d, p⟩) k))
          rw [show nthI [a, b, c, d] k % 18446744073709551616 = nthI (ipL ⟨a, b, c, d, p⟩) k from Int.emod_eq_of_lt this.1 this.2]
    all_goals
      (subst hL; subst hQ; simp only [L2, L3, std] at *; try simp only [sySet, reduceCtorEq, forall_const, Int.reduceToNat, Int.reduceAdd, Int.reduceSub, Int.cast_ofNat_Int, Int.toNat_natCast, Nat.le_eq, Nat.sub_eq, ne_eq, Decidable.not_not, implies_true, true_and, and_true, wadd, wsub, wmul, decide_eq_true_eq, decide_eq_false_iff_not, Nat.succ_eq_add_one, imp_false, not_false_eq_true, not_true_eq_false, false_imp_iff, true_imp_iff] at *)
      have h4 : i = 4 := by omega
      subst h4
      have l1 := dig_len (ip_in hp 0)
      have l2 := dig_len (ip_in hp 1)
      have l3 := dig_len (ip_in hp 2)
      have l4 := dig_len (ip_in hp 3)
      have hp5 : 0 ≤ p ∧ p ≤ 65535 := hp.2.2.2.2
      have l5 := dig_len (n := p) ⟨hp5.1, by omega⟩
      have hj : jnZ [46] (.lst 1 4 fun i x => AV.str (ipT ⟨a, b, c, d, p⟩ i)) = digZ a ++ 46 :: (digZ b ++ 46 :: (digZ c ++ 46 :: digZ d)) := join4 ⟨a, b, c, d, p⟩
      have hm : p % 18446744073709551616 = p := by omega
      simp only [nthI, ipL, List.getD_cons_zero, List.getD_cons_succ] at l1 l2 l3 l4
      have hl : (digZ a ++ 46 :: (digZ b ++ 46 :: (digZ c ++ 46 :: digZ d))).length ≤ 100 := by
        simp only [List.length_append, List.length_cons]; omega
    · refine ⟨fun k hk => ⟨_, rfl⟩, by omega, ?_⟩
      have : Lib.join (partsOf 4 fun i x => AV.str (ipT ⟨a, b, c, d, p⟩ i)) [46] = digZ a ++ 46 :: (digZ b ++ 46 :: (digZ c ++ 46 :: digZ d)) := hj
      rw [this]; omega
    · rw [hj, List.length_singleton]; omega
    · rw [hm]; exact ⟨hp5.1, by omega⟩
    · rw [hj, hm, List.length_append, List.length_singleton]; omega
    · rw [hj, hm]
      show _ = plT ⟨a, b, c, d, p⟩
      simp [plT]
/-! ### Bytes as a place -/
theorem pl_fit {x : Pl} {a b c d p : Int} (h : x = ⟨a, b, c, d, p⟩) : fits1 (plA std x) (.agg [.int .u8 a, .int .u8 b, .int .u8 c, .int .u8 d, .int .u16 p]) := by
  subst h
  show fits1 (.agg [.int .u8 a, .int .u8 b, .int .u8 c, .int .u8 d, .int .u16 p]) _
  simp only [fits1_aggi, fits1_agg0, and_self]
/-! ### The place of a text -/
def hostS (s : List UInt8) : List (List UInt8) := splitS (cutA s [58]) [46]
def portS (s : List UInt8) : List UInt8 := cutB s [58]
def prtV (s : List UInt8) (k : Nat) : Int := wnV (nthS (hostS s) k)
def prtE (s : List UInt8) (k : Nat) : Int := numE (nthS (hostS s) k)
def prtO (s : List UInt8) (k : Nat) : Prop := prtE s k = 0 ∧ prtV s k ≤ 255
def spOk (s : List UInt8) : Prop := cutY s [58] = true ∧ (hostS s).length = 4 ∧ (∀ k, k < 4 → prtO s k) ∧ numE (portS s) = 0 ∧ 1 ≤ wnV (portS s) ∧ wnV (portS s) ≤ 65535
open Classical in
noncomputable def spE (s : List UInt8) : Int := if spOk s then 0 else 4
noncomputable def spP (s : List UInt8) : Pl := if spE s = 0 then ⟨prtV s 0, prtV s 1, prtV s 2, prtV s 3, wnV (portS s)⟩ else ⟨0, 0, 0, 0, 0⟩
theorem split_mem {c : UInt8} : ∀ {s : List UInt8} {x : List UInt8}, x ∈ splitC c s → x.length ≤ s.length
  | [], x, h => by simp [splitC] at h; subst h; exact Nat.le_refl _
  | y :: s, x, h => by
    have ih := fun x h => split_mem (c := c) (s := s) (x := x) h
    unfold splitC at h
    split at h
    · rcases List.mem_cons.1 h with rfl | h
      · exact Nat.zero_le _
      · have := ih x h; simp; omega
    · split at h
      · rename_i z r hs
        rcases List.mem_cons.1 h with rfl | h
        · have := ih z (by rw [hs]; simp); simp; omega
        · have := ih x (by rw [hs]; simp [h]); simp; omega
      · rename_i hs; exact absurd hs (splitC_ne _ _)
theorem nth_len (c : UInt8) (s : List UInt8) (k : Nat) : (nthS (splitC c s) k).length ≤ s.length := by
  rw [nthS, List.getD_eq_getElem?_getD]
  cases h : (splitC c s)[k]? with
  | none => exact Nat.zero_le _
  | some x => exact split_mem (List.mem_of_getElem? h)
theorem num_ge (s : List UInt8) : 0 ≤ wnV s := by
  unfold wnV
  split
  · exact Int.natCast_nonneg _
  · exact Int.le_refl _
theorem cutA_len (s sep : List UInt8) : (cutA s sep).length ≤ s.length := by
  unfold cutA
  split
  · exact Nat.le_refl _
  · rw [List.length_take]; omega
theorem cutB_len (s sep : List UInt8) : (cutB s sep).length ≤ s.length := by
  unfold cutB
  split
  · exact Nat.zero_le _
  · rw [List.length_drop]; omega
theorem sp_bad {s : List UInt8} (h : ¬ spOk s) : fits1 (plA std (spP s)) (.agg [.int .u8 0, .int .u8 0, .int .u8 0, .int .u8 0, .int .u16 0]) ∧ 4 = spE s := by
  have e : spE s = 4 := if_neg h
  exact ⟨pl_fit (if_neg (by rw [e]; decide)), e.symm⟩
noncomputable def par_s (L : Seal) : Ent1 := (158, fun xs => match xs with
  | [.str s] => some (L2 L upto 1000000 s, .tup [plA L (L spP s), .int .i64 (L spE s)])
  | _ => none)
def ipZ (s : List UInt8) (i k : Nat) : Int := if k < i then prtV s k else 0
def parInv (s : List UInt8) (i : Nat) : Prop := i ≤ 4 ∧ ∀ k, k < i → prtO s k
def parA (L : Seal) (s : List UInt8) : Nat → St → Option Ann := fun id st => match id with
  | 0 => some ⟨Nat, fun i => [(30, .int .i64 (L natI i)), (2, .ref 2 0), (4, .ref 4 0)],
      fun i => [(2, .box 36 [.int .u8 0, .int .u8 0, .int .u8 0, .int .u8 0, .int .u16 0]), (4, .box 36 [.int .u8 (L (L2 L ipZ s i) 0), .int .u8 (L (L2 L ipZ s i) 1), .int .u8 (L (L2 L ipZ s i) 2), .int .u8 (L (L2 L ipZ s i) 3), .int .u16 0])], [8, 28, 29], [],
      fun i => L2 L parInv s i, fun i => L to4 i⟩
  | _ => none
theorem par_good : Good Tryz.prog (par_s std) := by
  intro xs p r h hp
  dsimp only [par_s] at h ⊢
  split at h <;> cases h
  try simp only [L2, L3, std] at hp ⊢
  rename_i s
  have hp : s.length ≤ 1000000 := hp
  refine acalls_L (T := tt) (S := fun L => sumOf [cut_s L, spl_s L, wnum_s L]) (lo := fun L => parA L s) (lb := noA) 5 (fn := Tryz.f158) rfl rfl (by kernel_rfl) (by kernel_rfl) rfl tt_ok (sumOf_ok ⟨cut_good, spl_good, wnum_good, trivial⟩) (by kernel_rfl) ?_
  intro L P' Q' hL hP hQ
  have hcl := cutA_len s [58]
  have hbl := cutB_len s [58]
  (cbv; try simp only [sat_need, sat_must, sat_ite, sat_done, sat_yes, sat_ex, sat_all, sat_sup, sat_and, sat_fail, true_and, and_true])
  refine ⟨?_, ?_, fun h => ?_, fun h1 => ⟨fun h => ?_, fun h2 => ⟨⟨0, ?_⟩, fun i hi => ?_⟩⟩⟩
  · (subst hL; subst hQ; simp only [L2, L3, std] at *; try simp only [sySet, reduceCtorEq, forall_const, Int.reduceToNat, Int.reduceAdd, Int.reduceSub, Int.cast_ofNat_Int, Int.toNat_natCast, Nat.le_eq, Nat.sub_eq, ne_eq, Decidable.not_not, implies_true, true_and, and_true, wadd, wsub, wmul, decide_eq_true_eq, decide_eq_false_iff_not, Nat.succ_eq_add_one, imp_false, not_false_eq_true, not_true_eq_false, false_imp_iff, true_imp_iff] at *)
    exact ⟨rfl, by show s.length ≤ _; omega⟩
  · (subst hL; subst hQ; simp only [L2, L3, std] at *; try simp only [sySet, reduceCtorEq, forall_const, Int.reduceToNat, Int.reduceAdd, Int.reduceSub, Int.cast_ofNat_Int, Int.toNat_natCast, Nat.le_eq, Nat.sub_eq, ne_eq, Decidable.not_not, implies_true, true_and, and_true, wadd, wsub, wmul, decide_eq_true_eq, decide_eq_false_iff_not, Nat.succ_eq_add_one, imp_false, not_false_eq_true, not_true_eq_false, false_imp_iff, true_imp_iff] at *)
    exact ⟨rfl, by show (cutA s [58]).length ≤ _; omega⟩
  · (subst hL; subst hQ; simp only [L2, L3, std] at *; try simp only [sySet, reduceCtorEq, forall_const, Int.reduceToNat, Int.reduceAdd, Int.reduceSub, Int.cast_ofNat_Int, Int.toNat_natCast, Nat.le_eq, Nat.sub_eq, ne_eq, Decidable.not_not, implies_true, true_and, and_true, wadd, wsub, wmul, decide_eq_true_eq, decide_eq_false_iff_not, Nat.succ_eq_add_one, imp_false, not_false_eq_true, not_true_eq_false, false_imp_iff, true_imp_iff] at *)
    exact sp_bad fun x => by rw [x.1] at h; cases h
  · (subst hL; subst hQ; simp only [L2, L3, std] at *; try simp only [sySet, reduceCtorEq, forall_const, Int.reduceToNat, Int.reduceAdd, Int.reduceSub, Int.cast_ofNat_Int, Int.toNat_natCast, Nat.le_eq, Nat.sub_eq, ne_eq, Decidable.not_not, implies_true, true_and, and_true, wadd, wsub, wmul, decide_eq_true_eq, decide_eq_false_iff_not, Nat.succ_eq_add_one, imp_false, not_false_eq_true, not_true_eq_false, false_imp_iff, true_imp_iff] at *)
    exact sp_bad fun x => h (by have := x.2.1; show ((hostS s).length : Int) = 4; omega)
  · (cbv; try simp only [sat_need, sat_must, sat_ite, sat_done, sat_yes, sat_ex, sat_all, sat_sup, sat_and, sat_fail, true_and, and_true])
    (subst hL; subst hQ; simp only [L2, L3, std] at *; try simp only [sySet, reduceCtorEq, forall_const, Int.reduceToNat, Int.reduceAdd, Int.reduceSub, Int.cast_ofNat_Int, Int.toNat_natCast, Nat.le_eq, Nat.sub_eq, ne_eq, Decidable.not_not, implies_true, true_and, and_true, wadd, wsub, wmul, decide_eq_true_eq, decide_eq_false_iff_not, Nat.succ_eq_add_one, imp_false, not_false_eq_true, not_true_eq_false, false_imp_iff, true_imp_iff] at *)
    exact ⟨rfl, rfl, rfl, rfl, Nat.zero_le _, fun k hk => by omega⟩
  · cbv at hi
    (cbv; try simp only [sat_need, sat_must, sat_ite, sat_done, sat_yes, sat_ex, sat_all, sat_sup, sat_and, sat_fail, true_and, and_true])
    have hpl : ∀ k, (nthS (hostS s) k).length ≤ 1000000 := fun k => Nat.le_trans (nth_len _ _ k) (by omega)
    refine ⟨fun h3 => ⟨?_, ?_, fun h4 => ?_, fun h4 => ⟨fun h5 => ?_, fun h5 => ⟨?_, i + 1, ?_⟩⟩⟩, fun h3 => ⟨?_, fun h4 => ⟨fun h5 => ⟨fun h6 => ?_, fun h6 => ?_⟩, fun h5 => ?_⟩, fun h4 => ?_⟩⟩
    · (subst hL; subst hQ; simp only [L2, L3, std] at *; try simp only [sySet, reduceCtorEq, forall_const, Int.reduceToNat, Int.reduceAdd, Int.reduceSub, Int.cast_ofNat_Int, Int.toNat_natCast, Nat.le_eq, Nat.sub_eq, ne_eq, Decidable.not_not, implies_true, true_and, and_true, wadd, wsub, wmul, decide_eq_true_eq, decide_eq_false_iff_not, Nat.succ_eq_add_one, imp_false, not_false_eq_true, not_true_eq_false, false_imp_iff, true_imp_iff] at *)
      omega
    · (subst hL; subst hQ; simp only [L2, L3, std] at *; try simp only [sySet, reduceCtorEq, forall_const, Int.reduceToNat, Int.reduceAdd, Int.reduceSub, Int.cast_ofNat_Int, Int.toNat_natCast, Nat.le_eq, Nat.sub_eq, ne_eq, Decidable.not_not, implies_true, true_and, and_true, wadd, wsub, wmul, decide_eq_true_eq, decide_eq_false_iff_not, Nat.succ_eq_add_one, imp_false, not_false_eq_true, not_true_eq_false, false_imp_iff, true_imp_iff] at *)
      exact hpl i
    · (subst hL; subst hQ; simp only [L2, L3, std] at *; try simp only [sySet, reduceCtorEq, forall_const, Int.reduceToNat, Int.reduceAdd, Int.reduceSub, Int.cast_ofNat_Int, Int.toNat_natCast, Nat.le_eq, Nat.sub_eq, ne_eq, Decidable.not_not, implies_true, true_and, and_true, wadd, wsub, wmul, decide_eq_true_eq, decide_eq_false_iff_not, Nat.succ_eq_add_one, imp_false, not_false_eq_true, not_true_eq_false, false_imp_iff, true_imp_iff] at *)
      exact sp_bad fun x => h4 (x.2.2.1 i (by omega)).1
    · (subst hL; subst hQ; simp only [L2, L3, std] at *; try simp only [sySet, reduceCtorEq, forall_const, Int.reduceToNat, Int.reduceAdd, Int.reduceSub, Int.cast_ofNat_Int, Int.toNat_natCast, Nat.le_eq, Nat.sub_eq, ne_eq, Decidable.not_not, implies_true, true_and, and_true, wadd, wsub, wmul, decide_eq_true_eq, decide_eq_false_iff_not, Nat.succ_eq_add_one, imp_false, not_false_eq_true, not_true_eq_false, false_imp_iff, true_imp_iff] at *)
      have h5 : 255 < prtV s i := h5
      exact sp_bad fun x => by have := (x.2.2.1 i (by omega)).2; omega
    · (subst hL; subst hQ; simp only [L2, L3, std] at *; try simp only [sySet, reduceCtorEq, forall_const, Int.reduceToNat, Int.reduceAdd, Int.reduceSub, Int.cast_ofNat_Int, Int.toNat_natCast, Nat.le_eq, Nat.sub_eq, ne_eq, Decidable.not_not, implies_true, true_and, and_true, wadd, wsub, wmul, decide_eq_true_eq, decide_eq_false_iff_not, Nat.succ_eq_add_one, imp_false, not_false_eq_true, not_true_eq_false, false_imp_iff, true_imp_iff] at *)
      omega
    · (cbv; try simp only [sat_need, sat_must, sat_ite, sat_done, sat_yes, sat_ex, sat_all, sat_sup, sat_and, sat_fail, true_and, and_true])
      (subst hL; subst hQ; simp only [L2, L3, std] at *; try simp only [sySet, reduceCtorEq, forall_const, Int.reduceToNat, Int.reduceAdd, Int.reduceSub, Int.cast_ofNat_Int, Int.toNat_natCast, Nat.le_eq, Nat.sub_eq, ne_eq, Decidable.not_not, implies_true, true_and, and_true, wadd, wsub, wmul, decide_eq_true_eq, decide_eq_false_iff_not, Nat.succ_eq_add_one, imp_false, not_false_eq_true, not_true_eq_false, false_imp_iff, true_imp_iff] at *)
      have h4 : prtE s i = 0 := h4
      have h5 : prtV s i ≤ 255 := h5
      have h0 : 0 ≤ prtV s i := num_ge _
      have hm : wnV (nthS (splitS (cutA s [58]) [46]) i) % 256 = prtV s i := by
        show prtV s i % 256 = prtV s i
        omega
      rw [hm]
      have cell : ∀ k, (cond (nbeq i k) (prtV s i) (ipZ s i k)) = ipZ s (i + 1) k := by
        intro k
        by_cases hik : i = k
        · subst hik
          rw [beq_same, ipZ, ipZ, if_pos (show i < i + 1 by omega)]; rfl
        · rw [beq_no hik]
          show ipZ s i k = _
          rw [ipZ, ipZ]
          by_cases hlt : k < i
          · rw [if_pos hlt, if_pos (by omega)]
          · rw [if_neg hlt, if_neg (by omega)]
      have hi4 : i < 4 := by omega
      refine ⟨cell 3, cell 2, cell 1, cell 0, by omega, ⟨by omega, fun k hk => ?_⟩, by show 4 - (i + 1) + 1 ≤ 4 - i; omega⟩
      by_cases hki : k = i
      · rw [hki]; exact ⟨h4, h5⟩
      · exact hi.2 k (by omega)
    · (subst hL; subst hQ; simp only [L2, L3, std] at *; try simp only [sySet, reduceCtorEq, forall_const, Int.reduceToNat, Int.reduceAdd, Int.reduceSub, Int.cast_ofNat_Int, Int.toNat_natCast, Nat.le_eq, Nat.sub_eq, ne_eq, Decidable.not_not, implies_true, true_and, and_true, wadd, wsub, wmul, decide_eq_true_eq, decide_eq_false_iff_not, Nat.succ_eq_add_one, imp_false, not_false_eq_true, not_true_eq_false, false_imp_iff, true_imp_iff] at *)
      show (cutB s [58]).length ≤ 1000000
      omega
    all_goals
      (subst hL; subst hQ; simp only [L2, L3, std] at *; try simp only [sySet, reduceCtorEq, forall_const, Int.reduceToNat, Int.reduceAdd, Int.reduceSub, Int.cast_ofNat_Int, Int.toNat_natCast, Nat.le_eq, Nat.sub_eq, ne_eq, Decidable.not_not, implies_true, true_and, and_true, wadd, wsub, wmul, decide_eq_true_eq, decide_eq_false_iff_not, Nat.succ_eq_add_one, imp_false, not_false_eq_true, not_true_eq_false, false_imp_iff, true_imp_iff] at *)
      have hi4 : i = 4 := by have := hi.1; omega
      subst hi4
    · have hok : spOk s := ⟨h1, by show lenSt (hostS s) = 4; have h2 : ((lenSt (hostS s) : Nat) : Int) = 4 := h2; omega, hi.2, h4, h5, h6⟩
      have hE : spE s = 0 := if_pos hok
      refine ⟨pl_fit ?_, hE.symm⟩
      rw [spP, if_pos hE, show wnV (cutB s [58]) % 65536 = wnV (cutB s [58]) by omega]
      rfl
    · exact sp_bad fun x => by have := x.2.2.2.2.2; have h6 : 65535 < wnV (portS s) := h6; omega
    · exact sp_bad fun x => by have := x.2.2.2.2.1; have h5 : wnV (portS s) < 1 := h5; omega
    · exact sp_bad fun x => h4 x.2.2.2.1
end Sy
end Go.Proofs.YtckbbcjbbmgmoaaGreatDoor
namespace Go.Proofs.YtckbbcjbbmgmoaaGreatDoor
namespace Sy
open Go Go.RowKit
set_option maxRecDepth 100000
set_option linter.unusedSimpArgs false
set_option linter.unusedVariables false

/-! ### The document's place -/
/-! ### The document's place of a text -/
end Sy
end Go.Proofs.YtckbbcjbbmgmoaaGreatDoor
namespace Go.Proofs.YtckbbcjbbmgmoaaGreatDoor
namespace Sy
open Go Go.RowKit
set_option maxRecDepth 100000
set_option linter.unusedSimpArgs false
set_option linter.unusedVariables false

theorem splitC_app {c : UInt8} : ∀ {u : List UInt8} {v : List UInt8}, (∀ x ∈ u, x ≠ c) → splitC c (u ++ c :: v) = u :: splitC c v
  | [], v, _ => by simp [splitC]
  | x :: u, v, h => by
    have ih := splitC_app (u := u) (v := v) (fun y hy => h y (by simp [hy]))
    rw [List.cons_append, splitC, if_neg (h x (by simp)), ih]
theorem splitC_one {c : UInt8} {u : List UInt8} (h : ∀ x ∈ u, x ≠ c) : splitC c u = [u] := splitC_no fun k hk => h c (List.mem_of_getElem? hk) rfl
theorem idx_of {s : List UInt8} {c : UInt8} {m : Nat} (h0 : ∀ k, k < m → s[k]? ≠ some c) (h : s[m]? = some c) : Lib.indexByte s c = m := by
  by_cases hn : Lib.indexByte s c < 0
  · exact absurd h (idx_no hn m)
  · obtain ⟨h1, h2, h3⟩ := idx_at hn
    rcases Nat.lt_trichotomy (Lib.indexByte s c).toNat m with hlt | heq | hgt
    · exact absurd h1 (h0 _ hlt)
    · omega
    · exact absurd h (h2 _ hgt)
theorem idx_app {u v : List UInt8} {c : UInt8} (h : ∀ x ∈ u, x ≠ c) : Lib.indexByte (u ++ c :: v) c = u.length := by
  refine idx_of (fun k hk => ?_) (by simp)
  rw [List.getElem?_append_left hk]
  intro e
  exact h c (List.mem_of_getElem? e) rfl
theorem cut_app {u v : List UInt8} (h : ∀ x ∈ u, x ≠ 58) : cutA (u ++ 58 :: v) [58] = u ∧ cutB (u ++ 58 :: v) [58] = v ∧ cutY (u ++ 58 :: v) [58] = true := by
  have e : idxZ (u ++ 58 :: v) [58] = u.length := idx_app h
  rw [cutA, cutB, cutY, e, if_neg (by omega), if_neg (by omega)]
  refine ⟨by simp, by simp, by simp⟩
theorem isD_no {u : List UInt8} (h : u.all isD = true) (c : UInt8) (hc : isD c = false) : ∀ x ∈ u, x ≠ c := by
  intro x hx e
  subst e
  rw [List.all_eq_true.1 h x hx] at hc
  cases hc
theorem dig_no {n : Int} (c : UInt8) (hc : isD c = false) : ∀ x ∈ digZ n, x ≠ c := isD_no (dec_is n.toNat).1 c hc
def hostT (x : Pl) : List UInt8 := digZ x.a ++ 46 :: (digZ x.b ++ 46 :: (digZ x.c ++ 46 :: digZ x.d))
theorem text_is (x : Pl) : plT x = hostT x ++ 58 :: digZ x.p := by simp [plT, hostT]
theorem host_no (x : Pl) : ∀ y ∈ hostT x, y ≠ 58 := by
  have hd : isD 58 = false := by decide
  intro y hy
  simp only [hostT, List.mem_append, List.mem_cons] at hy
  rcases hy with h | rfl | h | rfl | h | rfl | h
  · exact dig_no 58 hd y h
  · decide
  · exact dig_no 58 hd y h
  · decide
  · exact dig_no 58 hd y h
  · decide
  · exact dig_no 58 hd y h
theorem host_parts (x : Pl) : splitS (hostT x) [46] = [digZ x.a, digZ x.b, digZ x.c, digZ x.d] := by
  have hd : isD 46 = false := by decide
  show splitC 46 (hostT x) = _
  rw [hostT, splitC_app (dig_no 46 hd), splitC_app (dig_no 46 hd), splitC_app (dig_no 46 hd), splitC_one (dig_no 46 hd)]
theorem u8_in {n : Int} (h : 0 ≤ n ∧ n ≤ 255) : u64In n := ⟨h.1, by omega⟩
theorem sp_text {x : Pl} (h : plOk x) : (1 ≤ x.p → spE (plT x) = 0 ∧ spP (plT x) = x) ∧ (x.p = 0 → spE (plT x) = 4) := by
  obtain ⟨c1, c2, c3⟩ := cut_app (u := hostT x) (v := digZ x.p) (host_no x)
  rw [← text_is] at c1 c2 c3
  obtain ⟨ha, hb, hc, hd, hp⟩ := h
  have hh : hostS (plT x) = [digZ x.a, digZ x.b, digZ x.c, digZ x.d] := by rw [hostS, c1, host_parts]
  have na := num_of_dig (u8_in ha)
  have nb := num_of_dig (u8_in hb)
  have nc := num_of_dig (u8_in hc)
  have nd := num_of_dig (u8_in hd)
  have np := num_of_dig (n := x.p) ⟨hp.1, by omega⟩
  have hport : portS (plT x) = digZ x.p := c2
  have v0 : prtV (plT x) 0 = x.a := by rw [prtV, hh]; exact na.2
  have v1 : prtV (plT x) 1 = x.b := by rw [prtV, hh]; exact nb.2
  have v2 : prtV (plT x) 2 = x.c := by rw [prtV, hh]; exact nc.2
  have v3 : prtV (plT x) 3 = x.d := by rw [prtV, hh]; exact nd.2
  have e0 : prtE (plT x) 0 = 0 := by rw [prtE, hh]; exact na.1
  have e1 : prtE (plT x) 1 = 0 := by rw [prtE, hh]; exact nb.1
  have e2 : prtE (plT x) 2 = 0 := by rw [prtE, hh]; exact nc.1
  have e3 : prtE (plT x) 3 = 0 := by rw [prtE, hh]; exact nd.1
  refine ⟨fun h1 => ?_, fun h0 => if_neg fun hk => ?_⟩
  · have hok : spOk (plT x) := by
      refine ⟨c3, by rw [hh]; rfl, fun k hk => ?_, by rw [hport]; exact np.1, by rw [hport, np.2]; exact h1, by rw [hport, np.2]; exact hp.2⟩
      match k, hk with
      | 0, _ => exact ⟨e0, by rw [v0]; exact ha.2⟩
      | 1, _ => exact ⟨e1, by rw [v1]; exact hb.2⟩
      | 2, _ => exact ⟨e2, by rw [v2]; exact hc.2⟩
      | 3, _ => exact ⟨e3, by rw [v3]; exact hd.2⟩
    have hE : spE (plT x) = 0 := if_pos hok
    refine ⟨hE, ?_⟩
    rw [spP, if_pos hE, v0, v1, v2, v3, hport, np.2]
  · have := hk.2.2.2.2.1
    rw [hport, np.2, h0] at this
    omega
end Sy
end Go.Proofs.YtckbbcjbbmgmoaaGreatDoor
namespace Go.Proofs.YtckbbcjbbmgmoaaGreatDoor
namespace Sy
open Go Go.RowKit
set_option linter.unusedVariables false

def DW (W : World) : Nat → Prop := fun b => b < W.heap.size
/-- The cells that read as data of a type are told by something of a type of Lean. -/
structure Opens {H : Type} (enc : TypeId × Value → H) (P : Program) (W : World) (t : TypeId) (α : Type) (sz : Nat) (av : α → Nat → AV) (ok : α → Prop) : Prop where
  size : P.cellsOf t = sz
  go : ∀ fuel cs x, DataW.trod enc P W 0 (fun _ => true) true fuel t cs = some x → ∃ y : α, ok y ∧ cs.length = sz ∧ ∀ j, j < sz → ∃ v, cs[j]? = some v ∧ one v ∧ R W.heap (DW W) noMu (av y j) v
structure OpensF {H : Type} (enc : TypeId × Value → H) (P : Program) (W : World) (fs : List Field) (off : Nat) (α : Type) (sz : Nat) (av : α → Nat → AV) (ok : α → Prop) : Prop where
  go : ∀ fuel (cs : List Value) (xs : List (DataW H × List MemPlace)), (∀ (i : Nat) (f : Field), fs[i]? = some f → ∃ x, DataW.trod enc P W 0 (fun _ => true) true fuel f.type ((cs.drop f.offset).take (P.cellsOf f.type)) = some x) → ∃ y : α, ok y ∧ ∀ j, j < sz → ∃ v, cs[off + j]? = some v ∧ one v ∧ R W.heap (DW W) noMu (av y j) v

theorem sgl {h : Array Obj} {D : Nat → Prop} {f : Nat → AV} {v : Value} (h1 : one v) (h2 : R h D noMu (f 0) v) : ∀ j, j < 1 → ∃ u, [v][j]? = some u ∧ one u ∧ R h D noMu (f j) u := by
  intro j hj
  obtain rfl : j = 0 := by omega
  exact ⟨v, rfl, h1, h2⟩
theorem list_of {α : Type} (p : Nat → α → Prop) : ∀ n, (∀ i, i < n → ∃ y, p i y) → ∃ l : List α, l.length = n ∧ ∀ i, i < n → ∃ y, l[i]? = some y ∧ p i y
  | 0, _ => ⟨[], rfl, fun i hi => by omega⟩
  | m + 1, h => by
    obtain ⟨l, e1, e2⟩ := list_of p m (fun i hi => h i (by omega))
    obtain ⟨y, hy⟩ := h m (by omega)
    refine ⟨l ++ [y], by simp [e1], fun i hi => ?_⟩
    by_cases hi' : i < m
    · obtain ⟨z, z1, z2⟩ := e2 i hi'
      exact ⟨z, by rw [List.getElem?_append_left (by omega)]; exact z1, z2⟩
    · have : i = m := by omega
      subst this
      exact ⟨y, by rw [← e1]; simp, hy⟩

section
variable {H : Type} {enc : TypeId × Value → H} {P : Program} {W : World}
theorem opens_int {t : TypeId} {k : IntKind} (ht : P.underlying t = some (.int k)) (hc : P.cellsOf t = 1) : Opens enc P W t Int 1 (fun n _ => .int k n) (fun n => (Lit.int k n).wf = true) := by
  refine ⟨hc, fun fuel cs x h => ?_⟩
  obtain ⟨n, rfl, rfl, hw⟩ := DataW.trod_int ht h
  exact ⟨n, hw, rfl, sgl rfl (.int k n)⟩
theorem opens_str {t : TypeId} (ht : P.underlying t = some .string) (hc : P.cellsOf t = 1) : Opens enc P W t (List UInt8) 1 (fun l _ => .str l) (fun l => l.length ≤ maxLen) := by
  refine ⟨hc, fun fuel cs x h => ?_⟩
  obtain ⟨s, rfl, rfl, hs⟩ := DataW.trod_string ht h
  exact ⟨s.data.toList, by rw [Array.length_toList]; exact hs, rfl, sgl rfl (.str _ _ rfl)⟩
/-- A list's cells. -/
def avL {α : Type} (av : α → Nat → AV) (l : List α) (i j : Nat) : AV := match l[i]? with | some y => av y j | none => .dead
theorem opens_slice {t e : TypeId} {α : Type} {sz : Nat} {av : α → Nat → AV} {ok : α → Prop} (ht : P.underlying t = some (.slice e)) (hc : P.cellsOf t = 1) (he : Opens enc P W e α sz av ok) (hs : 0 < sz) :
    Opens enc P W t (List α) 1 (fun l _ => .lst sz l.length (avL av l)) (fun l => l.length ≤ maxLen ∧ ∀ y ∈ l, ok y) := by
  refine ⟨hc, fun fuel cs x h => ?_⟩
  rcases DataW.trod_slice ht h with ⟨rfl, rfl⟩ | ⟨a, len, cap, elems, rest, n, _, rfl, rfl, hb, hl, hm, hlen, hel, _, _⟩
  · exact ⟨[], ⟨Nat.zero_le _, fun y hy => by cases hy⟩, rfl, sgl rfl (.lst0 _ _ _ _ (fun _ => rfl))⟩
  · have each : ∀ i, i < len → ∃ y : α, ok y ∧ ∀ j, j < sz → ∃ v, W.cell? ((a.add (i * sz)).add j) = some v ∧ one v ∧ R W.heap (DW W) noMu (av y j) v := by
      intro i hi
      have h1 := hel i hi
      rw [he.size] at h1
      obtain ⟨z, hz⟩ : ∃ z, elems[i]? = some z := ⟨elems[i], by simp [hlen, hi]⟩
      rw [hz, Option.bind_eq_some_iff] at h1
      obtain ⟨cs', h2, h3⟩ := h1
      obtain ⟨y, y1, y2, y3⟩ := he.go _ _ _ h3
      refine ⟨y, y1, fun j hj => ?_⟩
      obtain ⟨v, v1, v2, v3⟩ := y3 j hj
      exact ⟨v, by rw [(World.cells?_some h2).2.2 j hj]; exact v1, v2, v3⟩
    obtain ⟨l, hl1, hl2⟩ : ∃ l : List α, l.length = len ∧ ∀ i, i < len → ∃ y, l[i]? = some y ∧ ok y ∧ ∀ j, j < sz → ∃ v, W.cell? ((a.add (i * sz)).add j) = some v ∧ one v ∧ R W.heap (DW W) noMu (av y j) v :=
      list_of (fun i y => ok y ∧ ∀ j, j < sz → ∃ v, W.cell? ((a.add (i * sz)).add j) = some v ∧ one v ∧ R W.heap (DW W) noMu (av y j) v) len each
    refine ⟨l, ⟨by omega, fun y hy => ?_⟩, rfl, sgl rfl ?_⟩
    · obtain ⟨i, hi, rfl⟩ := List.getElem_of_mem hy
      obtain ⟨z, z1, z2, _⟩ := hl2 i (by omega)
      rw [List.getElem?_eq_getElem hi] at z1
      cases z1; exact z2
    · show R W.heap (DW W) noMu (.lst sz l.length (avL av l)) _
      by_cases h0 : len = 0
      · subst h0; rw [hl1]; exact .lst0 _ _ _ _ (fun h => by cases h)
      · have cell : ∀ i j, i < len → j < sz → ∃ v, hcell W.heap a.block (a.off + i * sz + j) = some v ∧ one v ∧ R W.heap (DW W) noMu (avL av l i j) v := by
          intro i j hi hj
          obtain ⟨y, y1, _, y3⟩ := hl2 i hi
          obtain ⟨v, v1, v2, v3⟩ := y3 j hj
          refine ⟨v, ?_, v2, by rw [avL, y1]; exact v3⟩
          rw [← cell_h]
          have hsp : ∀ p : Addr, W.cell? p = some v → p.spot = none := by
            intro p hp
            unfold World.cell? at hp
            split at hp
            · split at hp
              · cases hp
              · rename_i hn; simpa using hn
            · cases hp
          have h1 := hsp _ v1
          have e : (a.add (i * sz)).add j = ⟨a.block, a.off + i * sz + j, none⟩ := by
            have hb1 : ((a.add (i * sz)).add j).block = a.block := by simp only [Addr.add]; split <;> split <;> rfl
            have hb2 : ((a.add (i * sz)).add j).off = a.off + i * sz + j := by simp only [Addr.add]; split <;> split <;> simp_all
            cases hq : (a.add (i * sz)).add j with
            | mk b o s => rw [hq] at h1 hb1 hb2; simp_all
          rw [← e]; exact v1
        have hsp0 : a.spot = none := by
          obtain ⟨y, _, _, y3⟩ := hl2 0 (by omega)
          obtain ⟨v, v1, _⟩ := y3 0 hs
          rw [Nat.zero_mul] at v1
          simp only [Addr.add, if_true] at v1
          unfold World.cell? at v1
          split at v1
          · split at v1
            · cases v1
            · rename_i hn; simpa using hn
          · cases v1
        have hD : DW W a.block := by
          obtain ⟨v, v1, _⟩ := cell 0 0 (by omega) hs
          refine Classical.byContradiction fun hn => ?_
          unfold hcell at v1
          rw [Array.getElem?_eq_none (by unfold DW at hn; omega)] at v1
          cases v1
        have ea : a = ⟨a.block, a.off, none⟩ := by cases a; simp_all
        rw [ea, ← hl1]
        refine .lst sz l.length (avL av l) a.block a.off cap (fun i j => (hcell W.heap a.block (a.off + i * sz + j)).getD undef) hD (by omega) (fun i j hi hj => ?_) (fun i j hi hj => ?_) (fun i j hi hj => ?_)
        all_goals
          obtain ⟨v, v1, v2, v3⟩ := cell i j (by omega) hj
          rw [v1]
          first | rfl | exact v2 | exact v3
theorem opens_arr {t e : TypeId} {α : Type} {sz n : Nat} {av : α → Nat → AV} {ok : α → Prop} (ht : P.underlying t = some (.array n e)) (hc : P.cellsOf t = n * sz) (he : Opens enc P W e α sz av ok) (hs : 0 < sz) :
    Opens enc P W t (List α) (n * sz) (fun l j => avL av l (j / sz) (j % sz)) (fun l => l.length = n ∧ ∀ y ∈ l, ok y) := by
  refine ⟨hc, fun fuel cs x h => ?_⟩
  obtain ⟨xs, m, _, rfl, hl, hx, hel⟩ := DataW.trod_array ht h
  obtain ⟨l, hl1, hl2⟩ : ∃ l : List α, l.length = n ∧ ∀ i, i < n → ∃ y, l[i]? = some y ∧ ok y ∧ ∀ j, j < sz → ∃ v, cs[i * sz + j]? = some v ∧ one v ∧ R W.heap (DW W) noMu (av y j) v :=
    list_of (fun i y => ok y ∧ ∀ j, j < sz → ∃ v, cs[i * sz + j]? = some v ∧ one v ∧ R W.heap (DW W) noMu (av y j) v) n (fun i hi => by
      have h1 := hel i hi
      rw [he.size, List.getElem?_eq_getElem (by omega)] at h1
      obtain ⟨y, y1, y2, y3⟩ := he.go _ _ _ h1
      refine ⟨y, y1, fun j hj => ?_⟩
      obtain ⟨v, v1, v2⟩ := y3 j hj
      rw [List.getElem?_take, if_pos hj, List.getElem?_drop] at v1
      exact ⟨v, v1, v2⟩)
  refine ⟨l, ⟨hl1, fun y hy => ?_⟩, by rw [hl, hc], fun j hj => ?_⟩
  · obtain ⟨i, hi, rfl⟩ := List.getElem_of_mem hy
    obtain ⟨z, z1, z2, _⟩ := hl2 i (by omega)
    rw [List.getElem?_eq_getElem hi] at z1
    cases z1; exact z2
  · have hi : j / sz < n := Nat.div_lt_of_lt_mul (by rw [Nat.mul_comm]; exact hj)
    obtain ⟨z, z1, _, z3⟩ := hl2 (j / sz) hi
    obtain ⟨v, v1, v2⟩ := z3 (j % sz) (Nat.mod_lt _ hs)
    rw [show j / sz * sz + j % sz = j by rw [Nat.mul_comm]; exact Nat.div_add_mod j sz] at v1
    exact ⟨v, v1, by unfold avL; rw [z1]; exact v2⟩
theorem opensF_nil (off : Nat) : OpensF enc P W [] off Unit 0 (fun _ _ => .dead) (fun _ => True) := ⟨fun _ _ _ _ => ⟨(), trivial, fun j hj => by omega⟩⟩
theorem opensF_cons {f : Field} {fs : List Field} {off : Nat} {α β : Type} {sz sz' : Nat} {av : α → Nat → AV} {av' : β → Nat → AV} {ok : α → Prop} {ok' : β → Prop} (ho : f.offset = off) (hf : Opens enc P W f.type α sz av ok) (hr : OpensF enc P W fs (off + sz) β sz' av' ok') :
    OpensF enc P W (f :: fs) off (α × β) (sz + sz') (fun y j => if j < sz then av y.1 j else av' y.2 (j - sz)) (fun y => ok y.1 ∧ ok' y.2) := by
  refine ⟨fun fuel cs xs h => ?_⟩
  obtain ⟨x, hx⟩ := h 0 f rfl
  obtain ⟨y, y1, y2, y3⟩ := hf.go _ _ _ hx
  obtain ⟨z, z1, z2⟩ := hr.go fuel cs xs (fun i g hg => h (i + 1) g hg)
  refine ⟨(y, z), ⟨y1, z1⟩, fun j hj => ?_⟩
  by_cases hlt : j < sz
  · obtain ⟨v, v1, v2, v3⟩ := y3 j hlt
    refine ⟨v, ?_, v2, by simp only [if_pos hlt]; exact v3⟩
    rw [hf.size, List.getElem?_take, if_pos hlt, List.getElem?_drop, ho] at v1
    exact v1
  · obtain ⟨v, v1, v2, v3⟩ := z2 (j - sz) (by omega)
    refine ⟨v, ?_, v2, by simp only [if_neg hlt]; exact v3⟩
    rw [← v1]; congr 1; omega
theorem opens_struct {t : TypeId} {fs : Array Field} {α : Type} {sz : Nat} {av : α → Nat → AV} {ok : α → Prop} (ht : P.underlying t = some (.struct fs)) (hc : P.cellsOf t = sz) (hf : OpensF enc P W fs.toList 0 α sz av ok) : Opens enc P W t α sz av ok := by
  refine ⟨hc, fun fuel cs x h => ?_⟩
  obtain ⟨xs, n, rfl, rfl, hl, hx, hfs⟩ := DataW.trod_struct ht h
  obtain ⟨y, y1, y2⟩ := hf.go n cs xs (fun i f hi => by
    have := hfs i f (by simpa using hi)
    have hlt : i < xs.length := by rw [hx]; simpa using (List.getElem?_eq_some_iff.1 hi).1
    exact ⟨xs[i], by rw [this]; simp [hlt]⟩)
  exact ⟨y, y1, by omega, fun j hj => by obtain ⟨v, v1, v2⟩ := y2 j hj; exact ⟨v, by simpa using v1, v2⟩⟩
theorem Opens.map {t : TypeId} {α β : Type} {sz : Nat} {av : α → Nat → AV} {av' : β → Nat → AV} {ok : α → Prop} {ok' : β → Prop} (O : Opens enc P W t α sz av ok) (f : α → β) (h1 : ∀ y j, j < sz → av y j = av' (f y) j) (h2 : ∀ y, ok y → ok' (f y)) : Opens enc P W t β sz av' ok' := by
  refine ⟨O.size, fun fuel cs x h => ?_⟩
  obtain ⟨y, y1, y2, y3⟩ := O.go fuel cs x h
  refine ⟨f y, h2 y y1, y2, fun j hj => ?_⟩
  obtain ⟨v, v1, v2, v3⟩ := y3 j hj
  exact ⟨v, v1, v2, by rw [← h1 y j hj]; exact v3⟩
/-- An argument that is a struct, or an array. -/
theorem open_agg {t : TypeId} {α : Type} {sz : Nat} {av : α → Nat → AV} {ok : α → Prop} {cs : Array Value} {d : DataW H} {p : List MemPlace} (O : Opens enc P W t α sz av ok) (h : DataW.Trod enc P W 0 (fun _ => true) true t (.agg cs) d p) :
    ∃ y, ok y ∧ R W.heap (DW W) noMu (.agg ((List.range sz).map (av y))) (.agg cs) := by
  obtain ⟨fuel, h⟩ := h
  obtain ⟨y, y1, y2, y3⟩ := O.go _ _ _ h
  refine ⟨y, y1, .agg _ _ (by simpa [Value.cells] using y2.symm) (fun i v hv => ?_) (fun i x v hx hv => ?_)⟩
  · have hi : i < sz := by
      have := (Array.getElem?_eq_some_iff.1 hv).1
      simp [Value.cells] at y2; omega
    obtain ⟨u, u1, u2, u3⟩ := y3 i hi
    simp [Value.cells] at u1
    rw [u1] at hv; cases hv; exact u2
  · have hi : i < sz := by
      have := (List.getElem?_eq_some_iff.1 hx).1
      simpa using this
    obtain ⟨u, u1, u2, u3⟩ := y3 i hi
    simp [Value.cells] at u1
    rw [u1] at hv; cases hv
    simp [hi] at hx
    subst hx; exact u3
end
theorem ac_args {P : Program} {f : FuncId} {xs ys : List AV} {r : AV} (h : ∀ h D vs, RL h D noMu xs vs → RL h D noMu ys vs) (ha : ACalls P f ys r) : ACalls P f xs r := fun D w vs hD hx => ha D w vs hD (h _ _ _ hx)
end Sy
end Go.Proofs.YtckbbcjbbmgmoaaGreatDoor
namespace Go.Proofs.YtckbbcjbbmgmoaaGreatDoor
namespace Sy
open Go Go.RowKit
set_option maxRecDepth 100000
set_option linter.unusedSimpArgs false
set_option linter.unusedVariables false

/-! ### The order of texts -/
/-! ### The chapter's example -/
theorem awT : plT ⟨127, 0, 0, 1, 80⟩ = [49, 50, 55, 46, 48, 46, 48, 46, 49, 58, 56, 48] := by
  have d1 := (dig_of_num (s := [49, 50, 55]) (by decide)).1
  have d2 := (dig_of_num (s := [48]) (by decide)).1
  have d3 := (dig_of_num (s := [49]) (by decide)).1
  have d4 := (dig_of_num (s := [56, 48]) (by decide)).1
  rw [show wnV [49, 50, 55] = 127 by decide] at d1
  rw [show wnV [48] = 0 by decide] at d2
  rw [show wnV [49] = 1 by decide] at d3
  rw [show wnV [56, 48] = 80 by decide] at d4
  rw [plT, d1, d2, d3, d4]; rfl
theorem awO : plOk ⟨127, 0, 0, 1, 80⟩ := ⟨⟨by decide, by decide⟩, ⟨by decide, by decide⟩, ⟨by decide, by decide⟩, ⟨by decide, by decide⟩, by decide, by decide⟩
theorem awake04_ac : ACalls Tryz.prog 103 [] (.bool true) := by
  refine acalls_L (T := tt) (S := fun L => sumOf [tru 159, par_s L, ptext_s L]) (lo := noA) (lb := noA) 5 (fn := Tryz.f103) rfl rfl (by kernel_rfl) (by kernel_rfl) rfl tt_ok (sumOf_ok ⟨tru_good Awake01_ac, par_good, ptext_good, trivial⟩) (by kernel_rfl) ?_
  have e := (sp_text awO).1 (by decide)
  rw [awT] at e
  (intro L P1 Q1 hL hP hQ; cbv; subst hL; simp only [L2, L3, std, sat_need, sat_must, sat_ite, sat_done, sat_yes, sat_ex, sat_all, sat_sup, sat_and, sat_fail]; subst hQ)
  (simp only [sySet, reduceCtorEq, forall_const, Int.reduceToNat, Int.reduceAdd, Int.reduceSub, Int.cast_ofNat_Int, Int.toNat_natCast, Nat.le_eq, Nat.sub_eq, ne_eq, Decidable.not_not, implies_true, true_and, and_true, wadd, wsub, wmul, decide_eq_true_eq, decide_eq_false_iff_not, Nat.succ_eq_add_one, imp_false, not_false_eq_true, not_true_eq_false, false_imp_iff, true_imp_iff])
  simp only [e.1, e.2]
  exact ⟨(by decide : (12 : Nat) ≤ 1000000), fun _ => ⟨fun _ => ⟨by omega, fun _ => ⟨awO, awT⟩, rfl⟩, trivial⟩, trivial⟩
theorem Awake04_ac : ACalls Tryz.prog 47 [] (.bool true) := by
  refine acalls_L (T := tt) (S := fun L => sumOf [tru 103]) (lo := noA) (lb := noA) 5 (fn := Tryz.f47) rfl rfl (by kernel_rfl) (by kernel_rfl) rfl tt_ok (sumOf_ok ⟨tru_good awake04_ac, trivial⟩) (by kernel_rfl) ?_
  (intro L P1 Q1 hL hP hQ; cbv; subst hL; simp only [L2, L3, std, sat_need, sat_must, sat_ite, sat_done, sat_yes, sat_ex, sat_all, sat_sup, sat_and, sat_fail]; subst hQ)
  (simp only [sySet, reduceCtorEq, forall_const, Int.reduceToNat, Int.reduceAdd, Int.reduceSub, Int.cast_ofNat_Int, Int.toNat_natCast, Nat.le_eq, Nat.sub_eq, ne_eq, Decidable.not_not, implies_true, true_and, and_true, wadd, wsub, wmul, decide_eq_true_eq, decide_eq_false_iff_not, Nat.succ_eq_add_one, imp_false, not_false_eq_true, not_true_eq_false, false_imp_iff, true_imp_iff])
/-! ### Facts that the laws ask -/
/-! ### Places as arguments -/
def plAt (L : Seal) (x : Pl) : Nat → AV
  | 0 => .int .u8 (L Pl.a x)
  | 1 => .int .u8 (L Pl.b x)
  | 2 => .int .u8 (L Pl.c x)
  | 3 => .int .u8 (L Pl.d x)
  | _ => .int .u16 (L Pl.p x)
def plOf (y : List Int × Int × Unit) : Pl := ⟨nthI y.1 0, nthI y.1 1, nthI y.1 2, nthI y.1 3, y.2.1⟩
theorem opens_Pl {H : Type} {enc : TypeId × Value → H} {W : World} : Opens enc Tryz.prog W 36 Pl 5 (plAt std) plOk := by
  have O := (opens_struct (P := Tryz.prog) (enc := enc) (W := W) Tryz.underlying36 (by kernel_rfl) (opensF_cons rfl (opens_arr Tryz.underlying33 (by kernel_rfl) (opens_int Tryz.underlying5 (by kernel_rfl)) (by omega)) (opensF_cons rfl (opens_int Tryz.underlying34 (by kernel_rfl)) (opensF_nil _))))
  refine ⟨O.size, fun fuel cs x h => ?_⟩
  obtain ⟨y, ⟨⟨hl, hall⟩, hp, _⟩, hlen, hy⟩ := O.go fuel cs x h
  have hb : ∀ j, j < 4 → 0 ≤ nthI y.1 j ∧ nthI y.1 j ≤ 255 := fun j hj => by
    have hlt : j < y.1.length := by omega
    have := bounds_u8 (hall _ (List.getElem_mem hlt))
    rw [nthI, List.getD_eq_getElem?_getD, List.getElem?_eq_getElem hlt]
    exact this
  refine ⟨plOf y, ⟨hb 0 (by omega), hb 1 (by omega), hb 2 (by omega), hb 3 (by omega), bounds_u16 hp⟩, hlen, fun j hj => ?_⟩
  obtain ⟨v, v1, v2, v3⟩ := hy j hj
  refine ⟨v, v1, v2, ?_⟩
  have cell : ∀ k, k < 4 → avL (fun n (_ : Nat) => AV.int .u8 n) y.1 (k / 1) (k % 1) = .int .u8 (nthI y.1 k) := fun k hk => by
    rw [Nat.div_one, avL, nthI, List.getD_eq_getElem?_getD, List.getElem?_eq_getElem (by omega : k < y.1.length)]; rfl
  match j, hj with
  | 0, _ => simp only [Nat.mul_one, Nat.lt_add_one, show (0 : Nat) < 4 by omega, if_true, cell] at v3; exact v3
  | 1, _ => simp only [Nat.mul_one, show (1 : Nat) < 4 by omega, if_true, cell] at v3; exact v3
  | 2, _ => simp only [Nat.mul_one, show (2 : Nat) < 4 by omega, if_true, cell] at v3; exact v3
  | 3, _ => simp only [Nat.mul_one, show (3 : Nat) < 4 by omega, if_true, cell] at v3; exact v3
  | 4, _ => exact v3
end Sy
end Go.Proofs.YtckbbcjbbmgmoaaGreatDoor
namespace Go.Proofs.YtckbbcjbbmgmoaaGreatDoor
namespace Sy
open Go Go.RowKit
set_option maxRecDepth 100000
set_option linter.unusedSimpArgs false
set_option linter.unusedVariables false

/-- How an element is told. -/
structure Vw (α : Type) where
  sz : Nat
  cell : Seal → α → Nat → AV
  rd : (Nat → AV) → α
  ok : (Nat → AV) → Prop
  d : α
structure VwOk {α : Type} (V : Vw α) : Prop where
  turn : ∀ c, V.ok c → ∀ j, j < V.sz → ∀ (h : Array Obj) (D : Nat → Prop) (μ : Mu) (v : Value), R h D μ (c j) v → R h D μ (V.cell std (V.rd c) j) v
  back : ∀ c x, (∀ j, j < V.sz → c j = V.cell std x j) → V.ok c ∧ V.rd c = x
def nthW {α : Type} (V : Vw α) (l : List α) (i : Nat) : α := l.getD i V.d
def lenW {α : Type} (l : List α) : Nat := l.length
/-- A list's cells. -/
def getW {α : Type} (L : Seal) (V : Vw α) (l : List α) : Nat → Nat → AV := fun i j => V.cell L (L (L (nthW V) l) i) j
def lstW {α : Type} (L : Seal) (V : Vw α) (l : List α) : AV := .lst V.sz (L lenW l) (getW L V l)
def rdW {α : Type} (V : Vw α) : AV → List α
  | .lst _ n get => (List.range n).map fun i => V.rd (get i)
  | _ => []
def okW {α : Type} (V : Vw α) : AV → Prop
  | .lst sz n get => sz = V.sz ∧ ∀ i, i < n → V.ok (get i)
  | .nils => True
  | _ => False
theorem nthW_at {α : Type} {V : Vw α} {l : List α} {i : Nat} (h : i < l.length) : nthW V l i = l[i] := by
  rw [nthW, List.getD_eq_getElem?_getD, List.getElem?_eq_getElem h]; rfl
theorem rdW_len {α : Type} (V : Vw α) (sz n : Nat) (get : Nat → Nat → AV) : (rdW V (.lst sz n get)).length = n := by simp [rdW]
theorem rdW_at {α : Type} {V : Vw α} {sz n : Nat} {get : Nat → Nat → AV} {i : Nat} (h : i < n) : nthW V (rdW V (.lst sz n get)) i = V.rd (get i) := by
  rw [nthW_at (by rw [rdW_len]; exact h)]
  simp [rdW]
theorem okW_R {α : Type} {V : Vw α} (K : VwOk V) {h : Array Obj} {D : Nat → Prop} {μ : Mu} {x : AV} {v : Value} (ho : okW V x) (r : R h D μ x v) : R h D μ (lstW std V (rdW V x)) v := by
  match x, ho with
  | .nils, _ => cases r; exact .lst0 _ _ none 0 (fun _ => rfl)
  | .lst sz n get, ho =>
    obtain ⟨rfl, ho⟩ := ho
    have e : lstW std V (rdW V (.lst V.sz n get)) = .lst V.sz n (getW std V (rdW V (.lst V.sz n get))) := by
      show AV.lst V.sz (lenW (rdW V (.lst V.sz n get))) _ = _
      rw [show lenW (rdW V (.lst V.sz n get)) = n from rdW_len _ _ _ _]
    rw [e]
    cases r with
    | lst0 _ _ a cap hn => exact .lst0 _ _ a cap hn
    | lst _ _ _ b o cap vs hD hc hv h1 hr =>
      refine .lst _ _ _ b o cap vs hD hc hv h1 (fun i j hi hj => ?_)
      show R h D noMu (V.cell std (nthW V (rdW V (.lst V.sz n get)) i) j) (vs i j)
      rw [rdW_at hi]
      exact K.turn _ (ho i hi) j hj _ _ _ _ (hr i j hi hj)
theorem rdW_back {α : Type} {V : Vw α} (K : VwOk V) {n : Nat} {get : Nat → Nat → AV} {l : List α} (hn : n = l.length) (h : ∀ i j, i < n → j < V.sz → get i j = V.cell std (nthW V l i) j) : okW V (.lst V.sz n get) ∧ rdW V (.lst V.sz n get) = l := by
  subst hn
  refine ⟨⟨rfl, fun i hi => (K.back _ _ (fun j hj => h i j hi hj)).1⟩, ?_⟩
  apply List.ext_getElem
  · rw [rdW_len]
  · intro i h1 h2
    have := rdW_at (V := V) (sz := V.sz) (get := get) h2
    rw [nthW_at h1] at this
    rw [this, (K.back _ _ (fun j hj => h i j h2 hj)).2, nthW_at h2]
theorem rdW_lst {α : Type} {V : Vw α} (K : VwOk V) (l : List α) : okW V (lstW std V l) ∧ rdW V (lstW std V l) = l := rdW_back K rfl (fun i j hi hj => rfl)
/-- An argument that is a list, told by its view. -/
theorem ac_w1 {α : Type} {V : Vw α} (K : VwOk V) {P : Program} {f : FuncId} {x r : AV} {xs : List AV} (ho : okW V x) (h : ACalls P f (lstW std V (rdW V x) :: xs) r) : ACalls P f (x :: xs) r :=
  ac_args (fun hp D vs hr => by
    refine ⟨by rw [← hr.1]; rfl, fun i z v hz hv => ?_⟩
    cases i with
    | zero => cases hz; exact okW_R K ho (hr.2 0 x v rfl hv)
    | succ i => exact hr.2 (i + 1) z v hz hv) h
theorem ac_w2 {α : Type} {V : Vw α} (K : VwOk V) {P : Program} {f : FuncId} {y x r : AV} {xs : List AV} (ho : okW V x) (h : ACalls P f (y :: lstW std V (rdW V x) :: xs) r) : ACalls P f (y :: x :: xs) r :=
  ac_args (fun hp D vs hr => by
    refine ⟨by rw [← hr.1]; rfl, fun i z v hz hv => ?_⟩
    match i, hz with
    | 0, hz => exact hr.2 0 z v hz hv
    | 1, hz => cases hz; exact okW_R K ho (hr.2 1 x v rfl hv)
    | i + 2, hz => exact hr.2 (i + 2) z v hz hv) h
/-! ### Parts of a struct, read back -/
def rdSt (x : AV) : List UInt8 := match x with | .str s => s | _ => []
def isS (x : AV) : Prop := ∃ s, x = .str s
def isI (k : IntKind) (x : AV) : Prop := ∃ n, x = .int k n
theorem isS_R {x : AV} (h : isS x) {hp : Array Obj} {D : Nat → Prop} {μ : Mu} {v : Value} (r : R hp D μ x v) : R hp D μ (.str (rdSt x)) v := by obtain ⟨s, rfl⟩ := h; exact r
theorem isI_R {k : IntKind} {x : AV} (h : isI k x) {hp : Array Obj} {D : Nat → Prop} {μ : Mu} {v : Value} (r : R hp D μ x v) : R hp D μ (.int k x.toI) v := by obtain ⟨s, rfl⟩ := h; exact r
/-! ### The first that is so -/
def idxW {α : Type} (p : α → Bool) : List α → Int
  | [] => -1
  | x :: l => if p x = true then 0 else if idxW p l < 0 then -1 else idxW p l + 1
theorem idxW_any {α : Type} (p : α → Bool) : ∀ l : List α, decide (0 ≤ idxW p l) = l.any p
  | [] => by simp [idxW]
  | x :: l => by
    have ih := idxW_any p l
    unfold idxW
    by_cases h : p x = true
    · simp [h]
    · have h' : p x = false := by simpa using h
      rw [if_neg h, List.any_cons, h', Bool.false_or, ← ih]
      split
      · rename_i h2; rw [decide_eq_false (by omega), decide_eq_false (by omega)]
      · rename_i h2; rw [decide_eq_true (by omega), decide_eq_true (by omega)]
theorem idxW_at {α : Type} {p : α → Bool} : ∀ {l : List α} {i : Nat} (hi : i < l.length), (∀ k (hk : k < i), p (l[k]'(by omega)) = false) → p l[i] = true → idxW p l = i
  | [], i, hi, _, _ => by simp at hi
  | x :: l, 0, hi, _, h => by simp at h; simp [idxW, h]
  | x :: l, i + 1, hi, h0, h => by
    have hx : p x = false := by simpa using h0 0 (by omega)
    have ih := idxW_at (p := p) (l := l) (i := i) (by simpa using hi) (fun k hk => by have := h0 (k + 1) (by omega); simpa using this) (by simpa using h)
    rw [idxW, if_neg (by rw [hx]; decide), if_neg (by omega), ih]; simp
theorem idxW_no {α : Type} {p : α → Bool} : ∀ {l : List α}, (∀ x ∈ l, p x = false) → idxW p l = -1
  | [], _ => rfl
  | x :: l, h => by
    have hx := h x (by simp)
    have ih := idxW_no (p := p) (l := l) (fun y hy => h y (by simp [hy]))
    rw [idxW, if_neg (by rw [hx]; decide), if_pos (by omega)]
/-- Behind i rounds none was so. -/
def noneW {α : Type} (p : α → Bool) (l : List α) (i : Nat) : Prop := i ≤ l.length ∧ ∀ x ∈ l.take i, p x = false
theorem noneW_0 {α : Type} (p : α → Bool) (l : List α) : noneW p l 0 := ⟨Nat.zero_le _, fun x hx => by simp at hx⟩
theorem noneW_step {α : Type} {V : Vw α} {p : α → Bool} {l : List α} {i : Nat} (h : noneW p l i) (hi : i < l.length) (hp : p (nthW V l i) = false) : noneW p l (i + 1) := by
  refine ⟨hi, fun x hx => ?_⟩
  rw [List.take_succ_eq_append_getElem hi, List.mem_append] at hx
  rcases hx with hx | hx
  · exact h.2 x hx
  · rw [List.mem_singleton.1 hx, ← nthW_at (V := V) hi]; exact hp
theorem noneW_yes {α : Type} {V : Vw α} {p : α → Bool} {l : List α} {i : Nat} (h : noneW p l i) (hi : i < l.length) (hp : p (nthW V l i) = true) : idxW p l = i := by
  rw [nthW_at hi] at hp
  refine idxW_at hi (fun k hk => h.2 _ ?_) hp
  rw [List.mem_take_iff_getElem]
  exact ⟨k, by omega, rfl⟩
theorem noneW_end {α : Type} {p : α → Bool} {l : List α} {i : Nat} (h : noneW p l i) (hi : ¬ i < l.length) : idxW p l = -1 := by
  have := h.2
  rw [List.take_of_length_le (by omega)] at this
  exact idxW_no this
end Sy
end Go.Proofs.YtckbbcjbbmgmoaaGreatDoor
namespace Go.Proofs.YtckbbcjbbmgmoaaGreatDoor
namespace Sy
open Go Go.RowKit
set_option maxRecDepth 100000
set_option linter.unusedSimpArgs false
set_option linter.unusedVariables false

/-- A pointer as it is. -/
def noEsc_m : EntM := (216, fun raw ob => match raw with
  | [.ref id 0] => match ob id with
    | some (.box ty cs) => some ⟨[.ref 500000 0], [(500000, .box ty cs)], True, .ref 500000 0, [(500000, .box ty cs)]⟩
    | _ => none
  | _ => none)
theorem noEsc_good : GoodM Tryz.prog noEsc_m := by
  intro raw ob T hT hp
  unfold noEsc_m at hT
  simp only at hT
  split at hT
  · split at hT
    · cases hT
      intro D w μ vs hD hxs hdom hobs hinj hown hg hgb
      obtain ⟨v, hv⟩ : ∃ v, vs.toList = [v] := List.length_eq_one_iff.1 (by simpa using hxs.1.symm)
      have : vs = #[v] := by rw [← Array.toArray_toList (xs := vs), hv]
      subst this
      unfold CallTo
      rw [show noEsc_m.fst = 216 from rfl, run_callFunc_extern (fn := Tryz.f216) rfl (by kernel_rfl) (by kernel_rfl) (by kernel_rfl) (e := Extern.AbiNoEscape.same) (by kernel_rfl)]
      rw [Lib.run_noEscape]
      exact ⟨v, D, μ, { ret := rfl, os := rfl, tape := rfl, output := rfl, size := Nat.le_refl _, old := fun _ _ _ => rfl, up := fun _ h => h, dn := fun _ h => .inl h, dom := hdom, obs := hobs, inj := hinj, own := fun n b z h => ⟨(hown n b z h).1, (hown n b z h).2, .inr ⟨n, z, h⟩⟩, keep := fun _ _ _ => rfl, val := hxs.2 0 _ _ rfl rfl }⟩
    · cases hT
  · cases hT

def cc_m : EntM := (198, fun raw ob => match raw with
  | [.ref id 0] => match ob id with
    | some (.box _ [.nilp, .nils]) => some ⟨[.ref 500000 0], [(500000, .box 196 [.nilp, .nils])], True, .tup [], [(500000, .box 196 [.ref 500000 0, .nils])]⟩
    | some (.box _ [.ref _ 0, .sl k 1 0 n]) => match ob k with
      | some (.row _ 1 m get) => some ⟨[.ref 500000 0], [(500000, .box 196 [.ref 500000 0, .sl 500001 1 0 m]), (500001, .row 5 1 m get)], True, .tup [], [(500000, .box 196 [.ref 500000 0, .sl 500001 1 0 m]), (500001, .row 5 1 m get)]⟩
      | _ => none
    | _ => none
  | _ => none)
theorem cc_new : MCalls Tryz.prog 198 [.ref 500000 0] [(500000, .box 196 [.nilp, .nils])] (.tup []) [(500000, .box 196 [.ref 500000 0, .nils])] := by
  refine mcalls_L (T := tt) (S := fun L => sumOfM [] [noEsc_m]) (lo := noA) (lb := noA) 5 (fn := Tryz.f198) (xs := fun L => [.ref 500000 0]) (rts := fun _ => []) (O := fun L => [(500000, .box 196 [.nilp, .nils])]) (O1 := fun L => [(500000, .box 196 [.ref 500000 0, .nils])])
    rfl rfl (by kernel_rfl) (by kernel_rfl) (by kernel_rfl) tt_ok (sumOfM_ok trivial ⟨noEsc_good, trivial⟩) (by kernel_rfl) ?_
  intro L P' Q' hL hP hQ
  (cbv; try simp only [sat_need, sat_must, sat_ite, sat_done, sat_yes, sat_ex, sat_all, sat_sup, sat_and, sat_fail, true_and, and_true])
  exact ⟨fun _ => trivial, fun h => by cases h⟩
theorem cc_old (m : Nat) (get : Nat → Nat → AV) : MCalls Tryz.prog 198 [.ref 500000 0] [(500000, .box 196 [.ref 500000 0, .sl 500001 1 0 m]), (500001, .row 5 1 m get)] (.tup []) [(500000, .box 196 [.ref 500000 0, .sl 500001 1 0 m]), (500001, .row 5 1 m get)] := by
  refine mcalls_L (T := tt) (S := fun L => sumOfM [] [noEsc_m]) (lo := noA) (lb := noA) 5 (fn := Tryz.f198) (xs := fun L => [.ref 500000 0]) (rts := fun _ => []) (O := fun L => [(500000, .box 196 [.ref 500000 0, .sl 500001 1 0 m]), (500001, .row 5 1 m get)]) (O1 := fun L => [(500000, .box 196 [.ref 500000 0, .sl 500001 1 0 m]), (500001, .row 5 1 m get)])
    rfl rfl (by kernel_rfl) (by kernel_rfl) (by kernel_rfl) tt_ok (sumOfM_ok trivial ⟨noEsc_good, trivial⟩) (by kernel_rfl) ?_
  intro L P' Q' hL hP hQ
  (cbv; try simp only [sat_need, sat_must, sat_ite, sat_done, sat_yes, sat_ex, sat_all, sat_sup, sat_and, sat_fail, true_and, and_true])
  subst hL
  simp [std]
theorem cc_good : GoodM Tryz.prog cc_m := by
  intro raw ob T hT hp
  unfold cc_m at hT
  simp only at hT
  repeat' split at hT
  all_goals first | (cases hT; done) | (cases hT; exact cc_new) | (cases hT; exact cc_old _ _)

/-! ### What a builder holds -/
def bld (L : Seal) (l : List UInt8) : List (Nat × Ob) := [(500000, .box 196 [.ref 500000 0, .sl 500001 1 0 (L lenN l)]), (500001, .row 5 1 (L lenN l) (fun i _ => .int .u8 (L2 L byteAt l i)))]
def bldN (L : Seal) (l : List UInt8) : List (Nat × Ob) := [(500000, .box 196 [.ref 500000 0, .sl 7 1 0 (L lenN l)]), (7, .row 5 1 (L lenN l) (fun i _ => .int .u8 (L2 L byteAt l i)))]
def bld0 : List (Nat × Ob) := [(500000, .box 196 [.nilp, .nils])]
/-- What a builder of the caller's holds: none: it isn't written yet. -/
def bldOf (L : Seal) (ob : Nat → Option Ob) (id : Nat) : Option (Option (List UInt8)) := match ob id with
  | some (.box _ [.nilp, .nils]) => some none
  | some (.box _ [.ref _ 0, .sl k 1 0 n]) => match ob k with
    | some (.row _ 1 m get) => some (some (L2 L bytesOf m (fun i => (get i 0).toI)))
    | _ => none
  | _ => none
def bytesAdd (l m : List UInt8) : List UInt8 := l ++ m
def byte1 (c : Int) : List UInt8 := [UInt8.ofNat c.toNat]
def u8Ok (c : Int) : Prop := 0 ≤ c ∧ c < 256
def roomB (l m : List UInt8) : Prop := l.length + m.length ≤ 90000000
def wb_m (L : Seal) : EntM := (166, fun raw ob => match raw with
  | [.ref id 0, .int .u8 c] => match bldOf L ob id with
    | some none => some ⟨[.ref 500000 0, .int .u8 c], bld0, L u8Ok c, .dead, bldN L (L byte1 c)⟩
    | some (some l) => some ⟨[.ref 500000 0, .int .u8 c], bld L l, L u8Ok c ∧ L2 L roomB l (L byte1 c), .dead, bldN L (L2 L bytesAdd l (L byte1 c))⟩
    | none => none
  | _ => none)
def ws_m (L : Seal) : EntM := (167, fun raw ob => match raw with
  | [.ref id 0, .str s] => match bldOf L ob id with
    | some (some l) => some ⟨[.ref 500000 0, .str s], bld L l, L2 L roomB l s, .tup [.int .i64 (L slen s), .dead], bldN L (L2 L bytesAdd l s)⟩
    | _ => none
  | _ => none)
def bs_m (L : Seal) : EntM := (116, fun raw ob => match raw with
  | [.ref id 0] => match bldOf L ob id with
    | some (some l) => some ⟨[.ref 500000 0], bld L l, L (fun l => l ≠ [] ∧ l.length ≤ 90000000) l, .str l, []⟩
    | _ => none
  | _ => none)
def bl_m (L : Seal) : EntM := (115, fun raw ob => match raw with
  | [.ref id 0] => match bldOf L ob id with
    | some (some l) => some ⟨[.ref 500000 0], bld L l, True, .int .i64 (L slen l), bld L l⟩
    | _ => none
  | _ => none)
theorem byteAt_l {l m : List UInt8} {i : Nat} (h : i < l.length) : byteAt (l ++ m) i = byteAt l i := by
  simp [byteAt, List.getElem?_append_left h]
theorem byteAt_r {l m : List UInt8} {i : Nat} (h : ¬ i < l.length) : byteAt (l ++ m) i = byteAt m (i - l.length) := by
  simp [byteAt, List.getElem?_append_right (show l.length ≤ i by omega)]
theorem bytesOf_at (l : List UInt8) : bytesOf l.length (fun i => byteAt l i) = l := by
  apply List.ext_getElem
  · simp [bytesOf]
  · intro i h1 h2
    simp [bytesOf, byteAt, h2]
theorem byte1_at {c : Int} (hc : u8Ok c) (i : Nat) (h : i < 1) : nthI [c] i = byteAt (byte1 c) i := by
  have : i = 0 := by omega
  subst this
  obtain ⟨h0, h1⟩ := hc
  simp [nthI, byteAt, byte1, UInt8.toNat_ofNat']
  omega
theorem wb_new (c : Int) (hc : u8Ok c) : MCalls Tryz.prog 166 [.ref 500000 0, .int .u8 c] bld0 .dead (bldN std (byte1 c)) := by
  refine mcalls_L (T := tt) (S := fun L => sumOfM [] [cc_m]) (lo := noA) (lb := noA) 5 (fn := Tryz.f166) (xs := fun L => [.ref 500000 0, .int .u8 c]) (rts := fun _ => [.dead]) (O := fun L => bld0) (O1 := fun L => bldN L (L byte1 c))
    rfl rfl (by kernel_rfl) (by kernel_rfl) (by kernel_rfl) tt_ok (sumOfM_ok trivial ⟨cc_good, trivial⟩) (by kernel_rfl) ?_
  intro L P' Q' hL hP hQ
  (cbv; try simp only [sat_need, sat_must, sat_ite, sat_done, sat_yes, sat_ex, sat_all, sat_sup, sat_and, sat_fail, true_and, and_true])
  subst hL
  simp only [L2, L3, std, roomOk_t]
  have h1 : lenN (byte1 c) = 1 := rfl
  rw [h1]
  exact ⟨by omega, ⟨rfl, fun i j hi hj => by rw [show Nat.add 0 i = i from Nat.zero_add i, byte1_at hc i hi]⟩, rfl⟩
theorem wb_old (l : List UInt8) (c : Int) (hc : u8Ok c) (hl : roomB l (byte1 c)) : MCalls Tryz.prog 166 [.ref 500000 0, .int .u8 c] (bld std l) .dead (bldN std (bytesAdd l (byte1 c))) := by
  refine mcalls_L (T := tt) (S := fun L => sumOfM [] [cc_m]) (lo := noA) (lb := noA) 5 (fn := Tryz.f166) (xs := fun L => [.ref 500000 0, .int .u8 c]) (rts := fun _ => [.dead]) (O := fun L => bld L l) (O1 := fun L => bldN L (L2 L bytesAdd l (L byte1 c)))
    rfl rfl (by kernel_rfl) (by kernel_rfl) (by kernel_rfl) tt_ok (sumOfM_ok trivial ⟨cc_good, trivial⟩) (by kernel_rfl) ?_
  intro L P' Q' hL hP hQ
  (cbv; try simp only [sat_need, sat_must, sat_ite, sat_done, sat_yes, sat_ex, sat_all, sat_sup, sat_and, sat_fail, true_and, and_true])
  subst hL
  simp only [L2, L3, std, roomOk_t]
  have h1 : lenN (bytesAdd l (byte1 c)) = l.length + 1 := by simp [lenN, bytesAdd, byte1]
  have h2 : (byte1 c).length = 1 := rfl
  have hl : l.length + (byte1 c).length ≤ 90000000 := hl
  have h3 : lenN l = l.length := rfl
  rw [h1, h3]
  refine ⟨fun _ _ _ _ => trivial, by omega, ⟨rfl, fun i j hi hj => ?_⟩, rfl⟩
  by_cases h : i < l.length
  · rw [blt_t h, show bytesAdd l (byte1 c) = l ++ byte1 c from rfl, byteAt_l h]; rfl
  · rw [blt_f h, show bytesAdd l (byte1 c) = l ++ byte1 c from rfl, byteAt_r h]
    show AV.int .u8 (nthI [c] (Nat.add 0 (i - l.length))) = _
    rw [show Nat.add 0 (i - l.length) = i - l.length from Nat.zero_add _, byte1_at hc _ (by omega)]
theorem ws_old (l s : List UInt8) (hl : roomB l s) : MCalls Tryz.prog 167 [.ref 500000 0, .str s] (bld std l) (.tup [.int .i64 (slen s), .dead]) (bldN std (bytesAdd l s)) := by
  refine mcalls_L (T := tt) (S := fun L => sumOfM [] [cc_m]) (lo := noA) (lb := noA) 5 (fn := Tryz.f167) (xs := fun L => [.ref 500000 0, .str s]) (rts := fun L => [.int .i64 (L slen s), .dead]) (O := fun L => bld L l) (O1 := fun L => bldN L (L2 L bytesAdd l s))
    rfl rfl (by kernel_rfl) (by kernel_rfl) (by kernel_rfl) tt_ok (sumOfM_ok trivial ⟨cc_good, trivial⟩) (by kernel_rfl) ?_
  intro L P' Q' hL hP hQ
  (cbv; try simp only [sat_need, sat_must, sat_ite, sat_done, sat_yes, sat_ex, sat_all, sat_sup, sat_and, sat_fail, true_and, and_true])
  subst hL
  simp only [L2, L3, std, roomOk_t]
  have h1 : lenN (bytesAdd l s) = l.length + s.length := by simp [lenN, bytesAdd]
  have hl : l.length + s.length ≤ 90000000 := hl
  have h3 : lenN l = l.length := rfl
  rw [h1, h3]
  refine ⟨fun _ _ _ _ => trivial, by omega, ⟨rfl, fun i j hi hj => ?_⟩, rfl⟩
  by_cases h : i < l.length
  · rw [blt_t h, show bytesAdd l s = l ++ s from rfl, byteAt_l h]; rfl
  · rw [blt_f h, show bytesAdd l s = l ++ s from rfl, byteAt_r h]; rfl
theorem bs_old (l : List UInt8) (h0 : l ≠ []) (hl : l.length ≤ 90000000) : MCalls Tryz.prog 116 [.ref 500000 0] (bld std l) (.str l) [] := by
  refine mcalls_L (T := tt) (S := fun L => sumOfM [] [cc_m]) (lo := noA) (lb := noA) 5 (fn := Tryz.f116) (xs := fun L => [.ref 500000 0]) (rts := fun L => [.str l]) (O := fun L => bld L l) (O1 := fun L => [])
    rfl rfl (by kernel_rfl) (by kernel_rfl) (by kernel_rfl) tt_ok (sumOfM_ok trivial ⟨cc_good, trivial⟩) (by kernel_rfl) ?_
  intro L P' Q' hL hP hQ
  (cbv; try simp only [sat_need, sat_must, sat_ite, sat_done, sat_yes, sat_ex, sat_all, sat_sup, sat_and, sat_fail, true_and, and_true])
  subst hL
  simp only [L2, L3, std]
  have h3 : lenN l = l.length := rfl
  have h1 : 0 < l.length := List.length_pos_iff.2 h0
  refine ⟨blt_t h1, ⟨by show (0 : Int) < (l.length : Int); omega, by show (l.length : Int) ≤ (l.length : Int); omega, by show (l.length : Int) ≤ _; omega, fun i hi => ⟨_, rfl, ?_, ?_⟩⟩, bytesOf_at l⟩
  · simp [byteAt]
  · have := UInt8.toNat_lt (l.getD i 0)
    show ((l.getD i 0).toNat : Int) < 256
    omega
theorem bl_old (l : List UInt8) : MCalls Tryz.prog 115 [.ref 500000 0] (bld std l) (.int .i64 (slen l)) (bld std l) := by
  refine mcalls_L (T := tt) (S := fun L => sumOfM [] [cc_m]) (lo := noA) (lb := noA) 5 (fn := Tryz.f115) (xs := fun L => [.ref 500000 0]) (rts := fun L => [.int .i64 (L slen l)]) (O := fun L => bld L l) (O1 := fun L => bld L l)
    rfl rfl (by kernel_rfl) (by kernel_rfl) (by kernel_rfl) tt_ok (sumOfM_ok trivial ⟨cc_good, trivial⟩) (by kernel_rfl) ?_
  intro L P' Q' hL hP hQ
  (cbv; try simp only [sat_need, sat_must, sat_ite, sat_done, sat_yes, sat_ex, sat_all, sat_sup, sat_and, sat_fail, true_and, and_true])
  subst hL
  exact ⟨fun _ _ _ _ => trivial, rfl⟩
theorem wb_good : GoodM Tryz.prog (wb_m std) := by
  intro raw ob T hT hp
  unfold wb_m at hT
  simp only at hT
  repeat' split at hT
  all_goals first | (cases hT; done) | (cases hT; exact wb_new _ hp) | (cases hT; exact wb_old _ _ hp.1 hp.2)
theorem ws_good : GoodM Tryz.prog (ws_m std) := by
  intro raw ob T hT hp
  unfold ws_m at hT
  simp only at hT
  repeat' split at hT
  all_goals first | (cases hT; done) | (cases hT; exact ws_old _ _ hp)
theorem bs_good : GoodM Tryz.prog (bs_m std) := by
  intro raw ob T hT hp
  unfold bs_m at hT
  simp only at hT
  repeat' split at hT
  all_goals first | (cases hT; done) | (cases hT; exact bs_old _ hp.1 hp.2)
theorem bl_good : GoodM Tryz.prog (bl_m std) := by
  intro raw ob T hT hp
  unfold bl_m at hT
  simp only at hT
  repeat' split at hT
  all_goals first | (cases hT; done) | (cases hT; exact bl_old _)
end Sy
end Go.Proofs.YtckbbcjbbmgmoaaGreatDoor
namespace Go.Proofs.YtckbbcjbbmgmoaaGreatDoor
namespace Sy
open Go Go.RowKit
set_option maxRecDepth 100000
set_option linter.unusedSimpArgs false
set_option linter.unusedVariables false

inductive CV where
  | mk (k n : Int) (s : List UInt8) (l : List CV)
namespace CV
def kd : CV → Int
  | mk k _ _ _ => k
def nn : CV → Int
  | mk _ n _ _ => n
def tx : CV → List UInt8
  | mk _ _ s _ => s
def ls : CV → List CV
  | mk _ _ _ l => l
theorem eta (v : CV) : mk v.kd v.nn v.tx v.ls = v := by cases v; rfl
end CV
def nthV (l : List CV) (i : Nat) : CV := l.getD i (.mk 0 0 [] [])
def lenL (l : List CV) : Nat := l.length
def lenV (v : CV) : Nat := v.ls.length
def sizeC : CV → Nat
  | .mk _ _ _ l => sizeCs l + 1
where sizeCs : List CV → Nat
  | [] => 0
  | v :: l => sizeC v + sizeCs l
abbrev sizeCs := sizeC.sizeCs
theorem sizeCs_nil : sizeCs [] = 0 := by simp [sizeC.sizeCs]
theorem sizeCs_cons (v : CV) (l : List CV) : sizeCs (v :: l) = sizeC v + sizeCs l := by simp [sizeC.sizeCs]
theorem sizeC_mk (k n : Int) (s : List UInt8) (l : List CV) : sizeC (.mk k n s l) = sizeCs l + 1 := by rw [sizeC]
theorem sizeC_pos (v : CV) : 0 < sizeC v := by cases v; rw [sizeC_mk]; omega
theorem sizeC_nth : ∀ (l : List CV) (i : Nat), i < l.length → sizeC (nthV l i) ≤ sizeCs l
  | [], i, h => by simp at h
  | v :: l, 0, h => by rw [sizeCs_cons]; show sizeC v ≤ _; omega
  | v :: l, i + 1, h => by
    have := sizeC_nth l i (by simpa using h)
    rw [sizeCs_cons]
    show sizeC (nthV l i) ≤ _
    omega
theorem nthV_mem {l : List CV} {i : Nat} (h : i < l.length) : nthV l i ∈ l := by
  rw [nthV, List.getD_eq_getElem?_getD, List.getElem?_eq_getElem h]; exact List.getElem_mem h
/-- A fact of all values, by their parts. -/
theorem cv_ind {p : CV → Prop} (h : ∀ k n s l, (∀ v ∈ l, p v) → p (.mk k n s l)) : ∀ (m : Nat) (v : CV), sizeC v ≤ m → p v
  | 0, v, hv => by have := sizeC_pos v; omega
  | m + 1, .mk k n s l, hv => h k n s l fun w hw => by
    rw [sizeC_mk] at hv
    obtain ⟨i, hi, rfl⟩ := List.getElem_of_mem hw
    have := sizeC_nth l i hi
    have e : nthV l i = l[i] := by rw [nthV, List.getD_eq_getElem?_getD, List.getElem?_eq_getElem hi]; rfl
    rw [e] at this
    exact cv_ind h m _ (by omega)
theorem cv_all {p : CV → Prop} (h : ∀ k n s l, (∀ v ∈ l, p v) → p (.mk k n s l)) (v : CV) : p v := cv_ind h _ v (Nat.le_refl _)

/-! ### values as the executor sees them -/
def dflC : Nat → AV
  | 0 => .int .i64 0
  | 1 => .int .u64 0
  | 2 => .str []
  | _ => .lst 4 0 (fun _ _ => .dead)
mutual
def cvCell : CV → Nat → AV
  | .mk k n s l, j => match j with
    | 0 => .int .i64 k
    | 1 => .int .u64 n
    | 2 => .str s
    | _ => .lst 4 l.length (cvGet l)
def cvGet : List CV → Nat → Nat → AV
  | [], _, j => dflC j
  | v :: l, i, j => match i with
    | 0 => cvCell v j
    | i + 1 => cvGet l i j
end
theorem cvCell_0 (v : CV) : cvCell v 0 = .int .i64 v.kd := by cases v; rw [cvCell]; rfl
theorem cvCell_1 (v : CV) : cvCell v 1 = .int .u64 v.nn := by cases v; rw [cvCell]; rfl
theorem cvCell_2 (v : CV) : cvCell v 2 = .str v.tx := by cases v; rw [cvCell]; rfl
theorem cvCell_3 (v : CV) : cvCell v 3 = .lst 4 v.ls.length (cvGet v.ls) := by cases v; rw [cvCell] <;> first | rfl | (intro h; cases h)
theorem cvGet_nth : ∀ (l : List CV) (i j : Nat), i < l.length → cvGet l i j = cvCell (nthV l i) j
  | [], i, j, h => by simp at h
  | v :: l, 0, j, h => by rw [cvGet]; rfl
  | v :: l, i + 1, j, h => by rw [cvGet]; exact cvGet_nth l i j (by simpa using h)
/-- A value's cells. -/
def cvIn (v : CV) : Nat → Nat → AV := cvGet v.ls
def cv1 (L : Seal) (v : CV) : Nat → AV
  | 0 => .int .i64 (L CV.kd v)
  | 1 => .int .u64 (L CV.nn v)
  | 2 => .str (L CV.tx v)
  | _ => .lst 4 (L lenV v) (L cvIn v)
theorem cv1_std (v : CV) (j : Nat) (h : j < 4) : cv1 std v j = cvCell v j := by
  match j, h with
  | 0, _ => rw [cvCell_0]; rfl
  | 1, _ => rw [cvCell_1]; rfl
  | 2, _ => rw [cvCell_2]; rfl
  | 3, _ => rw [cvCell_3]; rfl
def cvL (L : Seal) (l : List CV) : AV := .lst 4 (L lenL l) (fun i j => cv1 L (L2 L nthV l i) j)
def cvA (L : Seal) (v : CV) : AV := .agg [.int .i64 (L CV.kd v), .int .u64 (L CV.nn v), .str (L CV.tx v), .lst 4 (L lenV v) (L cvIn v)]
/-- What a cell of values holds. -/
def rdL : AV → List CV
  | .lst _ n get => (List.range n).map fun i => .mk (get i 0).toI (get i 1).toI (match get i 2 with | .str s => s | _ => []) (rdL (get i 3))
  | _ => []
def okL : AV → Prop
  | .lst sz n get => sz = 4 ∧ ∀ i, i < n → (∃ x, get i 0 = .int .i64 x) ∧ (∃ x, get i 1 = .int .u64 x) ∧ (∃ x, get i 2 = .str x) ∧ okL (get i 3)
  | .nils => True
  | _ => False
theorem rd_len (sz n : Nat) (get : Nat → Nat → AV) : (rdL (.lst sz n get)).length = n := by simp [rdL]
theorem rd_nth {sz n : Nat} {get : Nat → Nat → AV} {i : Nat} (h : i < n) : nthV (rdL (.lst sz n get)) i = .mk (get i 0).toI (get i 1).toI (match get i 2 with | .str s => s | _ => []) (rdL (get i 3)) := by
  rw [nthV, List.getD_eq_getElem?_getD, rdL]
  simp [h]
theorem cv_ext {a b : List CV} (h : a.length = b.length) (k : ∀ i, i < a.length → nthV a i = nthV b i) : a = b := by
  apply List.ext_getElem h
  intro i h1 h2
  have := k i h1
  rw [nthV, nthV, List.getD_eq_getElem?_getD, List.getD_eq_getElem?_getD, List.getElem?_eq_getElem h1, List.getElem?_eq_getElem h2] at this
  exact this
theorem rd_cell : ∀ v : CV, rdL (cvCell v 3) = v.ls ∧ okL (cvCell v 3) := by
  refine cv_all fun k n s l ih => ?_
  rw [cvCell_3]
  show rdL (.lst 4 l.length (cvGet l)) = l ∧ okL (.lst 4 l.length (cvGet l))
  refine ⟨cv_ext (rd_len _ _ _) fun i hi => ?_, rfl, fun i hi => ?_⟩
  · rw [rd_len] at hi
    rw [rd_nth hi, cvGet_nth _ _ _ hi, cvGet_nth _ _ _ hi, cvGet_nth _ _ _ hi, cvGet_nth _ _ _ hi, cvCell_0, cvCell_1, cvCell_2, (ih _ (nthV_mem hi)).1]
    exact CV.eta _
  · rw [cvGet_nth _ _ _ hi, cvGet_nth _ _ _ hi, cvGet_nth _ _ _ hi, cvGet_nth _ _ _ hi, cvCell_0, cvCell_1, cvCell_2]
    exact ⟨⟨_, rfl⟩, ⟨_, rfl⟩, ⟨_, rfl⟩, (ih _ (nthV_mem hi)).2⟩
theorem rd_in (v : CV) : rdL (.lst 4 (lenV v) (cvIn v)) = v.ls ∧ okL (.lst 4 (lenV v) (cvIn v)) := by
  have := rd_cell v
  rw [cvCell_3] at this
  exact this
theorem rd_list (l : List CV) : rdL (cvL std l) = l ∧ okL (cvL std l) := by
  refine ⟨cv_ext (rd_len _ _ _) fun i hi => ?_, rfl, fun i hi => ⟨⟨_, rfl⟩, ⟨_, rfl⟩, ⟨_, rfl⟩, (rd_in _).2⟩⟩
  have hi : i < l.length := by rw [show (rdL (cvL std l)).length = lenL l from rd_len _ _ _] at hi; exact hi
  show nthV (rdL (.lst 4 (lenL l) _)) i = _
  rw [rd_nth (show i < lenL l from hi)]
  show CV.mk (nthV l i).kd (nthV l i).nn (nthV l i).tx (rdL (.lst 4 (lenV (nthV l i)) (cvIn (nthV l i)))) = _
  rw [(rd_in _).1, CV.eta]
/-- What is known of values is known of them as they are told. -/
theorem okL_R {h : Array Obj} {D : Nat → Prop} : ∀ (x : AV) {μ : Mu} {v : Value}, okL x → R h D μ x v → R h D μ (.lst 4 (rdL x).length (cvGet (rdL x))) v := by
  intro x μ v ho r
  induction r with
  | nils => exact .lst0 _ _ _ _ (fun _ => rfl)
  | lst0 sz get a cap hn => exact .lst0 _ _ _ _ hn
  | lst sz n get b o cap vs hD hc hv h1 hr ih =>
    obtain ⟨rfl, ho⟩ := ho
    rw [rd_len]
    refine .lst _ _ _ b o cap vs hD hc hv h1 (fun i j hi hj => ?_)
    rw [cvGet_nth _ _ _ (by rw [rd_len]; exact hi), rd_nth hi]
    obtain ⟨⟨x0, e0⟩, ⟨x1, e1⟩, ⟨x2, e2⟩, o3⟩ := ho i hi
    have hj' := hr i j hi hj
    match j, hj with
    | 0, _ => rw [cvCell_0]; rw [e0] at hj' ⊢; exact hj'
    | 1, _ => rw [cvCell_1]; rw [e1] at hj' ⊢; exact hj'
    | 2, _ => rw [cvCell_2]; rw [e2] at hj' ⊢; exact hj'
    | 3, _ => rw [cvCell_3]; exact ih i 3 hi (by omega) o3
  | _ => exact ho.elim
theorem cvL_R {h : Array Obj} {D : Nat → Prop} {μ : Mu} {l : List CV} {v : Value} (r : R h D μ (.lst 4 l.length (cvGet l)) v) : R h D μ (cvL std l) v :=
  lst_same r fun i j hi hj => by
    rw [cvGet_nth _ _ _ hi]
    exact (cv1_std _ j hj).symm

/-! ### What functions say of values -/
mutual
def deepV : CV → Int
  | .mk k _ _ l => if k = 3 then deepLs l + 1 else 0
def deepLs : List CV → Int
  | [] => 0
  | v :: l => max (deepV v) (deepLs l)
end
theorem deepLs_app : ∀ a b : List CV, deepLs (a ++ b) = max (deepLs a) (deepLs b)
  | [], b => by
    rw [List.nil_append, deepLs]
    have : ∀ b : List CV, 0 ≤ deepLs b := by
      intro b
      induction b with
      | nil => rw [deepLs]; omega
      | cons v l ih => rw [deepLs]; omega
    have := this b
    omega
  | v :: a, b => by rw [List.cons_append, deepLs, deepLs_app a b, deepLs]; omega
theorem take_nth {l : List CV} {i : Nat} (h : i < l.length) : l.take (i + 1) = l.take i ++ [nthV l i] := by
  rw [List.take_succ_eq_append_getElem h, nthV, List.getD_eq_getElem?_getD, List.getElem?_eq_getElem h]; rfl
def deepTo (l : List CV) (i : Nat) : Int := deepLs (l.take i)
theorem deepTo_succ {l : List CV} {i : Nat} (h : i < l.length) : deepTo l (i + 1) = max (deepTo l i) (deepV (nthV l i)) := by
  unfold deepTo
  rw [take_nth h, deepLs_app, deepLs, deepLs]
  have : 0 ≤ deepV (nthV l i) ∨ True := .inr trivial
  have h0 : ∀ b : List CV, 0 ≤ deepLs b := by
    intro b
    induction b with
    | nil => rw [deepLs]; omega
    | cons v l ih => rw [deepLs]; omega
  have := h0 (l.take i)
  omega
mutual
def bareV : CV → Bool
  | .mk k n s l => if k = 1 then decide (s = []) && l.isEmpty else if k = 2 then decide (n = 0) && l.isEmpty else if k = 3 then decide (n = 0) && decide (s = []) && bareLs l else false
def bareLs : List CV → Bool
  | [] => true
  | v :: l => bareV v && bareLs l
end
def byteK (k : Int) : List UInt8 := [UInt8.ofNat (k % 256).toNat]
mutual
def textV : CV → List UInt8
  | .mk k n s l => byteK k ++ if k = 1 then shortZ n else if k = 2 then shortZ s.length ++ s else shortZ l.length ++ textLs l
def textLs : List CV → List UInt8
  | [] => []
  | v :: l => textV v ++ textLs l
end
theorem textLs_app : ∀ a b : List CV, textLs (a ++ b) = textLs a ++ textLs b
  | [], b => by rw [textLs]; rfl
  | v :: a, b => by rw [List.cons_append, textLs, textLs_app a b, textLs, List.append_assoc]
def textTo (l : List CV) (i : Nat) : List UInt8 := textLs (l.take i)
theorem textTo_succ {l : List CV} {i : Nat} (h : i < l.length) : textTo l (i + 1) = textTo l i ++ textV (nthV l i) := by
  unfold textTo
  rw [take_nth h, textLs_app, textLs, textLs, List.append_nil]
end Sy
end Go.Proofs.YtckbbcjbbmgmoaaGreatDoor
namespace Go.Proofs.YtckbbcjbbmgmoaaGreatDoor
namespace Sy
open Go Go.RowKit
set_option maxRecDepth 100000
set_option linter.unusedSimpArgs false
set_option linter.unusedVariables false

def mkV (L : Seal) (k n : Int) (s : List UInt8) (x : AV) : CV := L (L (L (L CV.mk k) n) s) (L rdL x)
def szOk (N : Nat) (v : CV) : Prop := sizeC v ≤ N ∧ N ≤ 1000000
def szOks (N : Nat) (l : List CV) : Prop := sizeCs l ≤ N ∧ N ≤ 1000000
theorem len_sz : ∀ l : List CV, l.length ≤ sizeCs l
  | [] => by simp
  | v :: l => by
    have := len_sz l
    have := sizeC_pos v
    rw [sizeCs_cons, List.length_cons]; omega
theorem nth_sz {N : Nat} {l : List CV} {i : Nat} (h : szOks N l) (hi : i < l.length) : szOk N (nthV l i) := by
  have := sizeC_nth l i hi
  exact ⟨by have := h.1; omega, h.2⟩
theorem sizeC_mk_ok {N : Nat} {k n : Int} {s : List UInt8} {l : List CV} : szOk (N + 1) (.mk k n s l) = (szOks N l ∧ N + 1 ≤ 1000000) := by
  unfold szOk szOks
  rw [sizeC_mk]
  exact propext ⟨fun h => ⟨⟨by omega, by omega⟩, by omega⟩, fun h => ⟨by have := h.1.1; omega, h.2⟩⟩
theorem mk_parts (v : CV) : CV.mk v.kd v.nn v.tx (rdL (.lst 4 (lenV v) (cvIn v))) = v := by rw [(rd_in v).1]; exact CV.eta v
theorem mkV_parts (v : CV) : mkV std v.kd v.nn v.tx (.lst 4 (lenV v) (cvIn v)) = v := mk_parts v
theorem rdl (l : List CV) : rdL (.lst 4 (lenL l) fun i => cv1 std (nthV l i)) = l := (rd_list l).1
theorem okl (l : List CV) : okL (.lst 4 (lenL l) fun i => cv1 std (nthV l i)) := (rd_list l).2
theorem mkl (k n : Int) (s : List UInt8) (l : List CV) : mkV std k n s (.lst 4 (lenL l) fun i => cv1 std (nthV l i)) = .mk k n s l := by
  show CV.mk k n s (rdL _) = _
  rw [rdl]
/-- A value's list is told as its values are. -/
theorem val_R {h : Array Obj} {D : Nat → Prop} {μ : Mu} {a b c x : AV} {v : Value} (ho : okL x) (r : R h D μ (.agg [a, b, c, x]) v) : R h D μ (.agg [a, b, c, cvL std (rdL x)]) v := by
  obtain ⟨us, rfl, o1, s1, hr⟩ := r.inv_agg
  refine .agg _ _ (by rw [← s1]; rfl) o1 fun i y v hy hv => ?_
  match i, hy with
  | 0, hy => cases hy; exact hr 0 _ v rfl hv
  | 1, hy => cases hy; exact hr 1 _ v rfl hv
  | 2, hy => cases hy; exact hr 2 _ v rfl hv
  | 3, hy => cases hy; exact cvL_R (okL_R x ho (hr 3 _ v rfl hv))
  | i + 4, hy => simp at hy
theorem rl_1 {h : Array Obj} {D : Nat → Prop} {μ : Mu} {x y : AV} {r : List AV} {vs : Array Value} (e : ∀ v, R h D μ x v → R h D μ y v) (hr : RL h D μ (x :: r) vs) : RL h D μ (y :: r) vs := by
  refine ⟨by rw [← hr.1]; rfl, fun i z v hz hv => ?_⟩
  cases i with
  | zero => cases hz; exact e v (hr.2 0 x v rfl hv)
  | succ i => exact hr.2 (i + 1) z v hz hv
theorem rl_2 {h : Array Obj} {D : Nat → Prop} {μ : Mu} {a x y : AV} {r : List AV} {vs : Array Value} (e : ∀ v, R h D μ x v → R h D μ y v) (hr : RL h D μ (a :: x :: r) vs) : RL h D μ (a :: y :: r) vs := by
  refine ⟨by rw [← hr.1]; rfl, fun i z v hz hv => ?_⟩
  match i, hz with
  | 0, hz => exact hr.2 0 z v hz hv
  | 1, hz => cases hz; exact e v (hr.2 1 x v rfl hv)
  | i + 2, hz => exact hr.2 (i + 2) z v hz hv
theorem ac_args' {P : Program} {f : FuncId} {xs ys : List AV} {r : AV} (h : ∀ h D vs, RL h D noMu xs vs → RL h D noMu ys vs) (ha : ACalls P f ys r) : ACalls P f xs r := fun D w vs hD hx => ha D w vs hD (h _ _ _ hx)
theorem ac_v {P : Program} {f : FuncId} {a b c x r : AV} (ho : okL x) (h : ACalls P f [.agg [a, b, c, cvL std (rdL x)]] r) : ACalls P f [.agg [a, b, c, x]] r :=
  ac_args' (fun h D vs hr => rl_1 (fun v => val_R ho) hr) h
theorem list_R {h : Array Obj} {D : Nat → Prop} {μ : Mu} {x : AV} {v : Value} (ho : okL x) (r : R h D μ x v) : R h D μ (cvL std (rdL x)) v := cvL_R (okL_R x ho r)
theorem ac_l {P : Program} {f : FuncId} {x r : AV} {q : List AV} (ho : okL x) (h : ACalls P f (cvL std (rdL x) :: q) r) : ACalls P f (x :: q) r :=
  ac_args' (fun h D vs hr => rl_1 (fun v => list_R ho) hr) h
/-! ### Deep -/
def deepA (L : Seal) (l : List CV) : Nat → St → Option Ann := fun id s => match id with
  | 0 => some ⟨Nat, fun i => [(12, .int .i64 (L natI i)), (3, .int .i64 (L2 L deepTo l i))], fun i => [], [10, 11], [],
      fun i => L2 L (fun (l : List CV) i => i ≤ l.length) l i, fun i => L2 L (fun (l : List CV) (i : Nat) => l.length - i) l i⟩
  | _ => none
def deep_s (N : Nat) (L : Seal) : Ent1 := (113, fun xs => match xs with
  | [.agg [.int .i64 k, .int .u64 n, .str s, x]] => some (L okL x ∧ L2 L szOk N (mkV L k n s x), .int .i64 (L deepV (mkV L k n s x)))
  | _ => none)
theorem deep_le : ∀ v, 0 ≤ deepV v ∧ deepV v ≤ (sizeC v : Int) := by
  refine cv_all fun k n s l ih => ?_
  have : ∀ m : List CV, (∀ v ∈ m, 0 ≤ deepV v ∧ deepV v ≤ (sizeC v : Int)) → 0 ≤ deepLs m ∧ deepLs m ≤ (sizeCs m : Int) := by
    intro m
    induction m with
    | nil => intro _; rw [deepLs, sizeCs_nil]; omega
    | cons v m ih =>
      intro h
      have h1 := h v (by simp)
      have h2 := ih fun w hw => h w (by simp [hw])
      rw [deepLs, sizeCs_cons]; omega
  have := this l ih
  rw [deepV, sizeC_mk]
  split <;> omega
theorem deepTo_le (l : List CV) (i : Nat) : 0 ≤ deepTo l i ∧ deepTo l i ≤ (sizeCs l : Int) := by
  have h1 : ∀ m : List CV, 0 ≤ deepLs m ∧ deepLs m ≤ (sizeCs m : Int) := by
    intro m
    induction m with
    | nil => rw [deepLs, sizeCs_nil]; omega
    | cons v m ih => have := deep_le v; rw [deepLs, sizeCs_cons]; omega
  have h2 := h1 (l.take i)
  have h3 : ∀ (m : List CV) (i : Nat), sizeCs (m.take i) ≤ sizeCs m := by
    intro m
    induction m with
    | nil => intro i; simp
    | cons v m ih =>
      intro i
      cases i with
      | zero => rw [List.take_zero, sizeCs_nil]; omega
      | succ i => have := ih i; rw [List.take_succ_cons, sizeCs_cons, sizeCs_cons]; omega
  have := h3 l i
  exact ⟨h2.1, by unfold deepTo; omega⟩
theorem deep_good : ∀ N, Good Tryz.prog (deep_s N std) := by
  intro N
  induction N with
  | zero =>
    intro xs p r h hp
    unfold deep_s at h
    simp only at h
    split at h
    · rename_i k n s x
      cases h
      have h1 : sizeC (mkV std k n s x) ≤ 0 := hp.2.1
      have := sizeC_pos (mkV std k n s x)
      omega
    · cases h
  | succ N ih =>
    intro xs p r h hp
    unfold deep_s at h
    simp only at h
    split at h
    · rename_i k n s x
      cases h
      obtain ⟨ho, hz⟩ := hp
      refine ac_v ho ?_
      show ACalls _ _ _ (.int .i64 (deepV (.mk k n s (rdL x))))
      have hz : szOk (N + 1) (.mk k n s (rdL x)) := hz
      generalize rdL x = l at hz ⊢
      refine acalls_L' (T := tt) (S := fun L => sumOf [deep_s N L]) (lo := fun L => deepA L l) (lb := noA) 5 (fn := Tryz.f113) (xs := fun L => [.agg [.int .i64 k, .int .u64 n, .str s, cvL L l]]) rfl rfl (by kernel_rfl) (by kernel_rfl) rfl tt_ok
        (sumOf_ok ⟨ih, trivial⟩) (by kernel_rfl) ?_
      intro L P' Q' hL hP hQ
      (cbv; try simp only [sat_need, sat_must, sat_ite, sat_done, sat_yes, sat_ex, sat_all, sat_sup, sat_and, sat_fail, true_and, and_true])
      refine ⟨fun h => ?_, fun h => ⟨⟨0, ?_⟩, fun i hi => ?_⟩⟩
      · (subst hL; subst hQ; simp only [L2, L3, std] at *; try simp only [sySet, reduceCtorEq, forall_const, Int.reduceToNat, Int.reduceAdd, Int.reduceSub, Int.cast_ofNat_Int, Int.toNat_natCast, Nat.le_eq, Nat.sub_eq, ne_eq, Decidable.not_not, implies_true, true_and, and_true, wadd, wsub, wmul, decide_eq_true_eq, decide_eq_false_iff_not, Nat.succ_eq_add_one, imp_false, not_false_eq_true, not_true_eq_false, false_imp_iff, true_imp_iff] at *)
        rw [deepV, if_neg h]
      · (cbv; try simp only [sat_need, sat_must, sat_ite, sat_done, sat_yes, sat_ex, sat_all, sat_sup, sat_and, sat_fail, true_and, and_true])
        (subst hL; subst hQ; simp only [L2, L3, std] at *; try simp only [sySet, reduceCtorEq, forall_const, Int.reduceToNat, Int.reduceAdd, Int.reduceSub, Int.cast_ofNat_Int, Int.toNat_natCast, Nat.le_eq, Nat.sub_eq, ne_eq, Decidable.not_not, implies_true, true_and, and_true, wadd, wsub, wmul, decide_eq_true_eq, decide_eq_false_iff_not, Nat.succ_eq_add_one, imp_false, not_false_eq_true, not_true_eq_false, false_imp_iff, true_imp_iff] at *)
        exact ⟨by rw [deepTo, List.take_zero, deepLs], Nat.zero_le _⟩
      · cbv at hi
        (cbv; try simp only [sat_need, sat_must, sat_ite, sat_done, sat_yes, sat_ex, sat_all, sat_sup, sat_and, sat_fail, true_and, and_true])
        refine ⟨fun hlt => ⟨?_, ⟨?_, ?_⟩, ⟨i + 1, ?_⟩⟩, fun hge => ?_⟩
        · (subst hL; subst hQ; simp only [L2, L3, std] at *; try simp only [sySet, reduceCtorEq, forall_const, Int.reduceToNat, Int.reduceAdd, Int.reduceSub, Int.cast_ofNat_Int, Int.toNat_natCast, Nat.le_eq, Nat.sub_eq, ne_eq, Decidable.not_not, implies_true, true_and, and_true, wadd, wsub, wmul, decide_eq_true_eq, decide_eq_false_iff_not, Nat.succ_eq_add_one, imp_false, not_false_eq_true, not_true_eq_false, false_imp_iff, true_imp_iff] at *)
          omega
        · (subst hL; subst hQ; simp only [L2, L3, std] at *; try simp only [sySet, reduceCtorEq, forall_const, Int.reduceToNat, Int.reduceAdd, Int.reduceSub, Int.cast_ofNat_Int, Int.toNat_natCast, Nat.le_eq, Nat.sub_eq, ne_eq, Decidable.not_not, implies_true, true_and, and_true, wadd, wsub, wmul, decide_eq_true_eq, decide_eq_false_iff_not, Nat.succ_eq_add_one, imp_false, not_false_eq_true, not_true_eq_false, false_imp_iff, true_imp_iff] at *)
          exact (rd_in _).2
        · (subst hL; subst hQ; simp only [L2, L3, std] at *; try simp only [sySet, reduceCtorEq, forall_const, Int.reduceToNat, Int.reduceAdd, Int.reduceSub, Int.cast_ofNat_Int, Int.toNat_natCast, Nat.le_eq, Nat.sub_eq, ne_eq, Decidable.not_not, implies_true, true_and, and_true, wadd, wsub, wmul, decide_eq_true_eq, decide_eq_false_iff_not, Nat.succ_eq_add_one, imp_false, not_false_eq_true, not_true_eq_false, false_imp_iff, true_imp_iff] at *)
          rw [mk_parts]
          rw [sizeC_mk_ok] at hz
          exact nth_sz hz.1 (by have : lenL l = l.length := rfl; omega)
        · (cbv; try simp only [sat_need, sat_must, sat_ite, sat_done, sat_yes, sat_ex, sat_all, sat_sup, sat_and, sat_fail, true_and, and_true])
          (subst hL; subst hQ; simp only [L2, L3, std] at *; try simp only [sySet, reduceCtorEq, forall_const, Int.reduceToNat, Int.reduceAdd, Int.reduceSub, Int.cast_ofNat_Int, Int.toNat_natCast, Nat.le_eq, Nat.sub_eq, ne_eq, Decidable.not_not, implies_true, true_and, and_true, wadd, wsub, wmul, decide_eq_true_eq, decide_eq_false_iff_not, Nat.succ_eq_add_one, imp_false, not_false_eq_true, not_true_eq_false, false_imp_iff, true_imp_iff] at *)
          have : lenL l = l.length := rfl
          have := len_sz l
          have h1 := hz.1
          have h2 := hz.2
          rw [sizeC_mk] at h1
          rw [mkV_parts]
          exact ⟨by rw [deepTo_succ (by omega)], by omega, by omega, by omega⟩
        · (subst hL; subst hQ; simp only [L2, L3, std] at *; try simp only [sySet, reduceCtorEq, forall_const, Int.reduceToNat, Int.reduceAdd, Int.reduceSub, Int.cast_ofNat_Int, Int.toNat_natCast, Nat.le_eq, Nat.sub_eq, ne_eq, Decidable.not_not, implies_true, true_and, and_true, wadd, wsub, wmul, decide_eq_true_eq, decide_eq_false_iff_not, Nat.succ_eq_add_one, imp_false, not_false_eq_true, not_true_eq_false, false_imp_iff, true_imp_iff] at *)
          have : lenL l = l.length := rfl
          have hil : i = l.length := by omega
          have h3 := deepTo_le l i
          have h1 := hz.1
          have h2 := hz.2
          rw [sizeC_mk] at h1
          rw [deepV, if_pos h, hil, deepTo, List.take_length]
          rw [hil, deepTo, List.take_length] at h3
          omega
    · cases h
end Sy
end Go.Proofs.YtckbbcjbbmgmoaaGreatDoor
namespace Go.Proofs.YtckbbcjbbmgmoaaGreatDoor
namespace Sy
open Go Go.RowKit
set_option maxRecDepth 100000
set_option linter.unusedSimpArgs false
set_option linter.unusedVariables false

/-! ### The document's Deep -/
/-! ### bare -/
theorem bareLs_all : ∀ l : List CV, bareLs l = true ↔ ∀ i, i < l.length → bareV (nthV l i) = true
  | [] => by rw [bareLs]; simp
  | v :: l => by
    rw [bareLs, Bool.and_eq_true, bareLs_all l]
    refine ⟨fun ⟨h1, h2⟩ i hi => ?_, fun h => ⟨h 0 (by simp), fun i hi => h (i + 1) (by simpa using hi)⟩⟩
    cases i with
    | zero => exact h1
    | succ i => exact h2 i (by simpa using hi)
/-- The first that isn't bare. -/
def idxB (l : List CV) : Int := if bareLs l = true then -1 else (l.findIdx fun v => !bareV v : Nat)
def bareTo (l : List CV) (i : Nat) : Prop := i ≤ l.length ∧ ∀ j, j < i → bareV (nthV l j) = true
theorem idxB_at {l : List CV} {i : Nat} (hi : i < l.length) (h : ∀ j, j < i → bareV (nthV l j) = true) (hn : bareV (nthV l i) = false) : idxB l = (i : Int) := by
  have hb : ¬ bareLs l = true := by
    rw [bareLs_all]
    intro h2
    have := h2 i hi
    rw [hn] at this; cases this
  rw [idxB, if_neg hb]
  congr 1
  rw [List.findIdx_eq hi]
  have get : ∀ (j : Nat) (hj : j < l.length), l[j] = nthV l j := by
    intro j hj
    rw [nthV, List.getD_eq_getElem?_getD, List.getElem?_eq_getElem hj]; rfl
  refine ⟨by rw [get i hi, hn]; rfl, fun j hj => ?_⟩
  have hj' := h j hj
  rw [get j (by omega), hj']; rfl
theorem idxB_neg {l : List CV} (h : ∀ j, j < l.length → bareV (nthV l j) = true) : idxB l = -1 := by rw [idxB, if_pos ((bareLs_all l).2 h)]
theorem idxB_ge (l : List CV) : (0 ≤ idxB l) = (bareLs l = false) := by
  unfold idxB
  split
  · rename_i h; rw [h]; simp
  · rename_i h; simp at h; rw [h]; simp
def b1_s (N : Nat) (L : Seal) : Ent1 := (165, fun xs => match xs with
  | [.agg [.int .i64 k, .int .u64 n, .str s, x]] => some (L okL x ∧ L2 L szOk N (mkV L k n s x), .bool (L not (L bareV (mkV L k n s x))))
  | _ => none)
def if_s (N : Nat) (L : Seal) : Ent1 := (197, fun xs => match xs with
  | [x, .fn 165 [] []] => some (L okL x ∧ L2 L szOks N (L rdL x), .int .i64 (L idxB (L rdL x)))
  | _ => none)
def cf_s (N : Nat) (L : Seal) : Ent1 := (164, fun xs => match xs with
  | [x, .fn 165 [] []] => some (L okL x ∧ L2 L szOks N (L rdL x), .bool (L not (L bareLs (L rdL x))))
  | _ => none)
def bare_s (N : Nat) (L : Seal) : Ent1 := (112, fun xs => match xs with
  | [.agg [.int .i64 k, .int .u64 n, .str s, x]] => some (L okL x ∧ L2 L szOk N (mkV L k n s x), .bool (L bareV (mkV L k n s x)))
  | _ => none)
theorem lenL0 (l : List CV) : ieq ((lenL l : Nat) : Int) 0 = l.isEmpty := by
  cases l with
  | nil => rfl
  | cons v l =>
    simp [lenL, ieq]
    omega
theorem ile_f' (a b : Int) : (ile a b = false) = ¬ a ≤ b := by simp [ile]
theorem b1_of {N : Nat} (ih : Good Tryz.prog (bare_s N std)) : Good Tryz.prog (b1_s N std) := by
  intro xs p r h hp
  unfold b1_s at h
  simp only at h
  split at h
  rotate_left
  · cases h
  rename_i k n s x
  cases h
  obtain ⟨ho, hz⟩ := hp
  refine ac_v ho ?_
  rw [show mkV std k n s x = .mk k n s (rdL x) from rfl] at hz ⊢
  generalize rdL x = l at hz ⊢
  have hz : szOk N (.mk k n s l) := hz
  refine acalls_L' (xs := fun L => [.agg [.int .i64 k, .int .u64 n, .str s, cvL L l]]) (T := tt) (S := fun L => sumOf [bare_s N L]) (lo := noA) (lb := noA) 5 (fn := Tryz.f165) rfl rfl (by kernel_rfl) (by kernel_rfl) rfl tt_ok (sumOf_ok ⟨ih, trivial⟩) (by kernel_rfl) ?_
  intro L P' Q' hL hP hQ
  (cbv; try simp only [sat_need, sat_must, sat_ite, sat_done, sat_yes, sat_ex, sat_all, sat_sup, sat_and, sat_fail, true_and, and_true])
  (subst hL; subst hQ; simp only [L2, L3, std] at *; try simp only [sySet, reduceCtorEq, forall_const, Int.reduceToNat, Int.reduceAdd, Int.reduceSub, Int.cast_ofNat_Int, Int.toNat_natCast, Nat.le_eq, Nat.sub_eq, ne_eq, Decidable.not_not, implies_true, true_and, and_true, wadd, wsub, wmul, decide_eq_true_eq, decide_eq_false_iff_not, Nat.succ_eq_add_one, imp_false, not_false_eq_true, not_true_eq_false, false_imp_iff, true_imp_iff] at *)
  rw [rdl, mkl]
  exact ⟨⟨okl l, hz⟩, rfl⟩
def ifA (L : Seal) (l : List CV) : Nat → St → Option Ann := fun id s => match id with
  | 0 => some ⟨Nat, fun i => [(8, .int .i64 (L natI i))], fun i => [], [0, 1, 6, 7], [],
      fun i => L2 L bareTo l i, fun i => L2 L (fun (l : List CV) (i : Nat) => l.length - i) l i⟩
  | _ => none
theorem if_of {N : Nat} (ih : Good Tryz.prog (b1_s N std)) : Good Tryz.prog (if_s N std) := by
  intro xs p r h hp
  unfold if_s at h
  simp only at h
  split at h
  rotate_left
  · cases h
  rename_i x
  cases h
  obtain ⟨ho, hz⟩ := hp
  refine ac_l ho ?_
  have hz : szOks N (rdL x) := hz
  show ACalls _ _ _ (.int .i64 (idxB (rdL x)))
  generalize rdL x = l at hz ⊢
  refine acalls_L' (T := tt) (S := fun L => sumOf [b1_s N L]) (lo := fun L => ifA L l) (lb := noA) 5 (fn := Tryz.f197) (xs := fun L => [cvL L l, .fn 165 [] []]) rfl rfl (by kernel_rfl) (by kernel_rfl) rfl tt_ok
    (sumOf_ok ⟨ih, trivial⟩) (by kernel_rfl) ?_
  intro L P' Q' hL hP hQ
  (cbv; try simp only [sat_need, sat_must, sat_ite, sat_done, sat_yes, sat_ex, sat_all, sat_sup, sat_and, sat_fail, true_and, and_true])
  refine ⟨⟨0, ?_⟩, fun i hi => ?_⟩
  · (cbv; try simp only [sat_need, sat_must, sat_ite, sat_done, sat_yes, sat_ex, sat_all, sat_sup, sat_and, sat_fail, true_and, and_true])
    (subst hL; subst hQ; simp only [L2, L3, std] at *; try simp only [sySet, reduceCtorEq, forall_const, Int.reduceToNat, Int.reduceAdd, Int.reduceSub, Int.cast_ofNat_Int, Int.toNat_natCast, Nat.le_eq, Nat.sub_eq, ne_eq, Decidable.not_not, implies_true, true_and, and_true, wadd, wsub, wmul, decide_eq_true_eq, decide_eq_false_iff_not, Nat.succ_eq_add_one, imp_false, not_false_eq_true, not_true_eq_false, false_imp_iff, true_imp_iff] at *)
    exact ⟨Nat.zero_le _, fun j hj => by omega⟩
  · cbv at hi
    (cbv; try simp only [sat_need, sat_must, sat_ite, sat_done, sat_yes, sat_ex, sat_all, sat_sup, sat_and, sat_fail, true_and, and_true])
    refine ⟨fun hlt => ⟨?_, ⟨?_, ?_⟩, fun hb => ?_, fun hb => ⟨i + 1, ?_⟩⟩, fun hge => ?_⟩
    · (subst hL; subst hQ; simp only [L2, L3, std] at *; try simp only [sySet, reduceCtorEq, forall_const, Int.reduceToNat, Int.reduceAdd, Int.reduceSub, Int.cast_ofNat_Int, Int.toNat_natCast, Nat.le_eq, Nat.sub_eq, ne_eq, Decidable.not_not, implies_true, true_and, and_true, wadd, wsub, wmul, decide_eq_true_eq, decide_eq_false_iff_not, Nat.succ_eq_add_one, imp_false, not_false_eq_true, not_true_eq_false, false_imp_iff, true_imp_iff] at *)
      omega
    · (subst hL; subst hQ; simp only [L2, L3, std] at *; try simp only [sySet, reduceCtorEq, forall_const, Int.reduceToNat, Int.reduceAdd, Int.reduceSub, Int.cast_ofNat_Int, Int.toNat_natCast, Nat.le_eq, Nat.sub_eq, ne_eq, Decidable.not_not, implies_true, true_and, and_true, wadd, wsub, wmul, decide_eq_true_eq, decide_eq_false_iff_not, Nat.succ_eq_add_one, imp_false, not_false_eq_true, not_true_eq_false, false_imp_iff, true_imp_iff] at *)
      exact (rd_in _).2
    · (subst hL; subst hQ; simp only [L2, L3, std] at *; try simp only [sySet, reduceCtorEq, forall_const, Int.reduceToNat, Int.reduceAdd, Int.reduceSub, Int.cast_ofNat_Int, Int.toNat_natCast, Nat.le_eq, Nat.sub_eq, ne_eq, Decidable.not_not, implies_true, true_and, and_true, wadd, wsub, wmul, decide_eq_true_eq, decide_eq_false_iff_not, Nat.succ_eq_add_one, imp_false, not_false_eq_true, not_true_eq_false, false_imp_iff, true_imp_iff] at *)
      rw [mk_parts]
      exact nth_sz hz (by have : lenL l = l.length := rfl; omega)
    · (subst hL; subst hQ; simp only [L2, L3, std] at *; try simp only [sySet, reduceCtorEq, forall_const, Int.reduceToNat, Int.reduceAdd, Int.reduceSub, Int.cast_ofNat_Int, Int.toNat_natCast, Nat.le_eq, Nat.sub_eq, ne_eq, Decidable.not_not, implies_true, true_and, and_true, wadd, wsub, wmul, decide_eq_true_eq, decide_eq_false_iff_not, Nat.succ_eq_add_one, imp_false, not_false_eq_true, not_true_eq_false, false_imp_iff, true_imp_iff] at *)
      rw [mkV_parts] at hb
      exact (idxB_at (by have : lenL l = l.length := rfl; omega) hi.2 hb).symm
    · (cbv; try simp only [sat_need, sat_must, sat_ite, sat_done, sat_yes, sat_ex, sat_all, sat_sup, sat_and, sat_fail, true_and, and_true])
      (subst hL; subst hQ; simp only [L2, L3, std] at *; try simp only [sySet, reduceCtorEq, forall_const, Int.reduceToNat, Int.reduceAdd, Int.reduceSub, Int.cast_ofNat_Int, Int.toNat_natCast, Nat.le_eq, Nat.sub_eq, ne_eq, Decidable.not_not, implies_true, true_and, and_true, wadd, wsub, wmul, decide_eq_true_eq, decide_eq_false_iff_not, Nat.succ_eq_add_one, imp_false, not_false_eq_true, not_true_eq_false, false_imp_iff, true_imp_iff] at *)
      rw [mkV_parts] at hb
      have : lenL l = l.length := rfl
      have := len_sz l
      have h1 := hz.1
      have h2 := hz.2
      refine ⟨by omega, ⟨by omega, fun j hj => ?_⟩, by omega⟩
      by_cases e : j = i
      · rw [e]; exact hb
      · exact hi.2 j (by omega)
    · (subst hL; subst hQ; simp only [L2, L3, std] at *; try simp only [sySet, reduceCtorEq, forall_const, Int.reduceToNat, Int.reduceAdd, Int.reduceSub, Int.cast_ofNat_Int, Int.toNat_natCast, Nat.le_eq, Nat.sub_eq, ne_eq, Decidable.not_not, implies_true, true_and, and_true, wadd, wsub, wmul, decide_eq_true_eq, decide_eq_false_iff_not, Nat.succ_eq_add_one, imp_false, not_false_eq_true, not_true_eq_false, false_imp_iff, true_imp_iff] at *)
      have : lenL l = l.length := rfl
      exact (idxB_neg fun j hj => hi.2 j (by omega)).symm
theorem cf_of {N : Nat} (ih : Good Tryz.prog (if_s N std)) : Good Tryz.prog (cf_s N std) := by
  intro xs p r h hp
  unfold cf_s at h
  simp only at h
  split at h
  rotate_left
  · cases h
  rename_i x
  cases h
  obtain ⟨ho, hz⟩ := hp
  refine ac_l ho ?_
  have hz : szOks N (rdL x) := hz
  show ACalls _ _ _ (.bool (not (bareLs (rdL x))))
  generalize rdL x = l at hz ⊢
  refine acalls_L' (xs := fun L => [cvL L l, .fn 165 [] []]) (T := tt) (S := fun L => sumOf [if_s N L]) (lo := noA) (lb := noA) 5 (fn := Tryz.f164) rfl rfl (by kernel_rfl) (by kernel_rfl) rfl tt_ok (sumOf_ok ⟨ih, trivial⟩) (by kernel_rfl) ?_
  intro L P' Q' hL hP hQ
  (cbv; try simp only [sat_need, sat_must, sat_ite, sat_done, sat_yes, sat_ex, sat_all, sat_sup, sat_and, sat_fail, true_and, and_true])
  (subst hL; subst hQ; simp only [L2, L3, std] at *; try simp only [sySet, reduceCtorEq, forall_const, Int.reduceToNat, Int.reduceAdd, Int.reduceSub, Int.cast_ofNat_Int, Int.toNat_natCast, Nat.le_eq, Nat.sub_eq, ne_eq, Decidable.not_not, implies_true, true_and, and_true, wadd, wsub, wmul, decide_eq_true_eq, decide_eq_false_iff_not, Nat.succ_eq_add_one, imp_false, not_false_eq_true, not_true_eq_false, false_imp_iff, true_imp_iff] at *)
  rw [rdl]
  refine ⟨⟨okl l, hz⟩, ?_⟩
  have := idxB_ge l
  cases hb : bareLs l with
  | true =>
    rw [hb] at this
    simp only [Bool.true_eq_false, eq_iff_iff, iff_false] at this
    have h : ile 0 (idxB l) = false := by rw [ile_f']; exact this
    rw [h]; rfl
  | false =>
    rw [hb] at this
    simp only [eq_iff_iff, iff_true] at this
    simpa [ile] using this
theorem bare_good : ∀ N, Good Tryz.prog (bare_s N std) := by
  intro N
  induction N with
  | zero =>
    intro xs p r h hp
    unfold bare_s at h
    simp only at h
    split at h
    · rename_i k n s x
      cases h
      have h1 : sizeC (mkV std k n s x) ≤ 0 := hp.2.1
      have := sizeC_pos (mkV std k n s x)
      omega
    · cases h
  | succ N ih =>
    intro xs p r h hp
    unfold bare_s at h
    simp only at h
    split at h
    rotate_left
    · cases h
    rename_i k n s x
    cases h
    obtain ⟨ho, hz⟩ := hp
    refine ac_v ho ?_
    rw [show mkV std k n s x = .mk k n s (rdL x) from rfl] at hz ⊢
    generalize rdL x = l at hz ⊢
    have hz : szOk (N + 1) (.mk k n s l) := hz
    refine acalls_L' (T := tt) (S := fun L => sumOf [cf_s N L]) (lo := noA) (lb := noA) 5 (fn := Tryz.f112) (xs := fun L => [.agg [.int .i64 k, .int .u64 n, .str s, cvL L l]]) rfl rfl (by kernel_rfl) (by kernel_rfl) rfl tt_ok
      (sumOf_ok ⟨cf_of (if_of (b1_of ih)), trivial⟩) (by kernel_rfl) ?_
    intro L P' Q' hL hP hQ
    (cbv; try simp only [sat_need, sat_must, sat_ite, sat_done, sat_yes, sat_ex, sat_all, sat_sup, sat_and, sat_fail, true_and, and_true])
    (subst hL; subst hQ; simp only [L2, L3, std] at *; try simp only [sySet, reduceCtorEq, forall_const, Int.reduceToNat, Int.reduceAdd, Int.reduceSub, Int.cast_ofNat_Int, Int.toNat_natCast, Nat.le_eq, Nat.sub_eq, ne_eq, Decidable.not_not, implies_true, true_and, and_true, wadd, wsub, wmul, decide_eq_true_eq, decide_eq_false_iff_not, Nat.succ_eq_add_one, imp_false, not_false_eq_true, not_true_eq_false, false_imp_iff, true_imp_iff] at *)
    simp only [rdl, lenL0]
    rw [sizeC_mk_ok] at hz
    rw [bareV]
    by_cases h1 : k = 1
    · simp [h1]
      exact ⟨fun a _ => a, fun a b => absurd b a⟩
    · by_cases h2 : k = 2
      · simp [h2]
        exact ⟨fun a _ => a, fun a b => absurd b a⟩
      · by_cases h3 : k = 3
        · simp [h3]
          refine ⟨fun h4 => ⟨fun h5 => ⟨⟨okl l, hz.1⟩, by simp [h4, h5]⟩, fun h5 => by simp [h5]⟩, fun h4 => by simp [h4]⟩
        · simp [h1, h2, h3]
end Sy
end Go.Proofs.YtckbbcjbbmgmoaaGreatDoor
namespace Go.Proofs.YtckbbcjbbmgmoaaGreatDoor
namespace Sy
open Go Go.RowKit
set_option maxRecDepth 100000
set_option linter.unusedSimpArgs false
set_option linter.unusedVariables false

end Sy
end Go.Proofs.YtckbbcjbbmgmoaaGreatDoor
namespace Go.Proofs.YtckbbcjbbmgmoaaGreatDoor
namespace Sy
open Go Go.RowKit
set_option maxRecDepth 100000
set_option linter.unusedSimpArgs false
set_option linter.unusedVariables false

theorem shortL_len : ∀ (k n : Nat), n < 128 ^ (k + 1) → (shortL n).length ≤ k + 1
  | 0, n, h => by rw [shortL_small (by omega)]; simp
  | k + 1, n, h => by
    by_cases h1 : n < 128
    · rw [shortL_small h1]; simp
    · rw [shortL_big (by omega), List.length_cons]
      have := shortL_len k (n / 128) (by rw [Nat.div_lt_iff_lt_mul (by omega)]; rw [Nat.pow_succ] at h; exact h)
      omega
theorem shortZ_len {n : Int} (h : shortOk n) : (shortZ n).length ≤ 10 := shortL_len 9 n.toNat (by
  have := h.2
  have := h.1
  rw [show (128 : Nat) ^ (9 + 1) = 1180591620717411303424 from by decide]
  omega)
/-! ### Text -/
mutual
def wfV : CV → Prop
  | .mk _ n s l => shortOk n ∧ s.length ≤ 9223372036854775807 ∧ wfLs l
def wfLs : List CV → Prop
  | [] => True
  | v :: l => wfV v ∧ wfLs l
end
theorem wf_nth : ∀ {l : List CV} {i : Nat}, wfLs l → i < l.length → wfV (nthV l i)
  | [], i, _, h => by simp at h
  | v :: l, 0, w, _ => by rw [wfLs] at w; exact w.1
  | v :: l, i + 1, w, h => by rw [wfLs] at w; exact wf_nth (l := l) w.2 (by simpa using h)
theorem textTo_len (l : List CV) : ∀ i, (textTo l i).length ≤ (textLs l).length := by
  intro i
  have := textLs_app (l.take i) (l.drop i)
  rw [List.take_append_drop] at this
  rw [this, List.length_append, textTo]; omega
theorem textV_mk (k n : Int) (s : List UInt8) (l : List CV) : textV (.mk k n s l) = byteK k ++ if k = 1 then shortZ n else if k = 2 then shortZ s.length ++ s else shortZ l.length ++ textLs l := by rw [textV]
def txOk (v : CV) : Prop := wfV v ∧ (textV v).length ≤ 90000000
theorem wf_mk {k n : Int} {s : List UInt8} {l : List CV} : txOk (.mk k n s l) = ((shortOk n ∧ s.length ≤ 9223372036854775807 ∧ wfLs l) ∧ (textV (.mk k n s l)).length ≤ 90000000) := by
  unfold txOk; rw [wfV]
theorem u64_small {x : Int} (h : 0 ≤ x) (h1 : x < 18446744073709551616) : x % 18446744073709551616 = x := Int.emod_eq_of_lt h h1
theorem u64_len {k n : Int} {s : List UInt8} {l : List CV} (h : wfV (.mk k n s l)) : (s.length : Int) % 18446744073709551616 = s.length := by
  rw [wfV] at h
  exact u64_small (by omega) (by omega)
theorem cvs_short {N : Nat} {k n : Int} {s : List UInt8} {l : List CV} (h : szOk (N + 1) (.mk k n s l)) : shortOk ((l.length : Nat) : Int) := by
  rw [sizeC_mk_ok] at h
  have := len_sz l
  have h1 := h.1.1
  have h2 := h.1.2
  exact ⟨by omega, by omega⟩
theorem u64_cvs {N : Nat} {k n : Int} {s : List UInt8} {l : List CV} (h : szOk (N + 1) (.mk k n s l)) : ((lenL l : Nat) : Int) % 18446744073709551616 = ((l.length : Nat) : Int) := by
  have := cvs_short h
  exact u64_small this.1 this.2
theorem tx_nth {k n : Int} {s : List UInt8} {l : List CV} (h : txOk (.mk k n s l)) (h1 : k ≠ 1) (h2 : k ≠ 2) {i : Nat} (hi : i < l.length) : txOk (nthV l i) := by
  rw [wf_mk] at h
  refine ⟨wf_nth h.1.2.2 hi, ?_⟩
  have h3 := h.2
  have h4 := textTo_succ hi
  have h5 := textTo_len l (i + 1)
  rw [h4, List.length_append] at h5
  rw [textV_mk, if_neg h1, if_neg h2] at h3
  simp only [List.length_append] at h3
  omega
/-! ### put -/
def putX (b : List UInt8) (k : Int) (l : List CV) (i : Nat) : List UInt8 := b ++ byteK k ++ shortZ l.length ++ textTo l i
def putA (L : Seal) (b : List UInt8) (k : Int) (l : List CV) : Nat → St → Option Ann := fun id s => match id with
  | 1 => some ⟨Nat, fun i => [(23, .int .i64 (L natI i))], fun i => [(500000, .box 196 [.ref 500000 0, .sl 901 1 0 (L lenN (L (L3 L putX b k l) i))]), (901, .row 5 1 (L lenN (L (L3 L putX b k l) i)) (fun j _ => .int .u8 (L2 L byteAt (L (L3 L putX b k l) i) j)))], [0, 21, 22], [],
      fun i => L2 L (fun (l : List CV) i => i ≤ l.length) l i, fun i => L2 L (fun (l : List CV) (i : Nat) => l.length - i) l i⟩
  | _ => none
def put_m (N : Nat) (L : Seal) : EntM := (114, fun raw ob => match raw with
  | [.ref id 0, .agg [.int .i64 k, .int .u64 n, .str s, x]] => match bldOf L ob id with
    | some none => some ⟨[.ref 500000 0, .agg [.int .i64 k, .int .u64 n, .str s, x]], bld0, L okL x ∧ L2 L szOk N (mkV L k n s x) ∧ L txOk (mkV L k n s x), .tup [], bldN L (L textV (mkV L k n s x))⟩
    | some (some l) => some ⟨[.ref 500000 0, .agg [.int .i64 k, .int .u64 n, .str s, x]], bld L l, L okL x ∧ L2 L szOk N (mkV L k n s x) ∧ L txOk (mkV L k n s x) ∧ L2 L roomB l (L textV (mkV L k n s x)), .tup [], bldN L (L2 L bytesAdd l (L textV (mkV L k n s x)))⟩
    | none => none
  | _ => none)
theorem room_1 {b : List UInt8} {k n : Int} {s : List UInt8} {l : List CV} (h : roomB b (textV (.mk k n s l))) : roomB b (byte1 (k % 256)) := by
  rw [textV_mk] at h
  unfold roomB at h ⊢
  have : (byteK k).length = 1 := rfl
  have : (byte1 (k % 256)).length = 1 := rfl
  rw [List.length_append] at h
  omega
theorem room_3 {b q : List UInt8} {k : Int} (h : roomB b (byteK k ++ q)) : roomB (bytesAdd b (byte1 (k % 256))) q := by
  unfold roomB bytesAdd at *
  have : (byteK k).length = 1 := rfl
  have : (byte1 (k % 256)).length = 1 := rfl
  rw [List.length_append] at h ⊢
  omega
theorem room_4 {b q r : List UInt8} {k : Int} (h : roomB b (byteK k ++ (q ++ r))) : roomB (bytesAdd b (byte1 (k % 256))) q := by
  unfold roomB bytesAdd at *
  have : (byteK k).length = 1 := rfl
  have : (byte1 (k % 256)).length = 1 := rfl
  rw [List.length_append, List.length_append] at h
  rw [List.length_append]
  omega
theorem same_b {x y : List UInt8} (h : x = y) : (lenN x = lenN y ∧ ∀ i j : Nat, i < lenN y → j < 1 → AV.int .u8 (byteAt x i) = AV.int .u8 (byteAt y i)) ∧ lenN x = lenN y := by
  subst h; exact ⟨⟨rfl, fun _ _ _ _ => rfl⟩, rfl⟩
theorem same_3 {b q t : List UInt8} {k : Int} (h : t = byteK k ++ q) : (lenN (bytesAdd (bytesAdd b (byte1 (k % 256))) q) = lenN (bytesAdd b t) ∧ ∀ i j : Nat, i < lenN (bytesAdd b t) → j < 1 → AV.int .u8 (byteAt (bytesAdd (bytesAdd b (byte1 (k % 256))) q) i) = AV.int .u8 (byteAt (bytesAdd b t) i)) ∧ lenN (bytesAdd (bytesAdd b (byte1 (k % 256))) q) = lenN (bytesAdd b t) :=
  same_b (by rw [h]; unfold bytesAdd; rw [List.append_assoc]; rfl)
theorem same_0 {q t : List UInt8} {k : Int} (h : t = byteK k ++ q) : (lenN (bytesAdd (byte1 (k % 256)) q) = lenN t ∧ ∀ i j : Nat, i < lenN t → j < 1 → AV.int .u8 (byteAt (bytesAdd (byte1 (k % 256)) q) i) = AV.int .u8 (byteAt t i)) ∧ lenN (bytesAdd (byte1 (k % 256)) q) = lenN t :=
  same_b (by rw [h]; rfl)
theorem put_old {N : Nat} (ih : GoodM Tryz.prog (put_m N std)) (b : List UInt8) (k n : Int) (s : List UInt8) (l : List CV) (hz : szOk (N + 1) (.mk k n s l)) (hw : txOk (.mk k n s l)) (hb : roomB b (textV (.mk k n s l))) :
    MCalls Tryz.prog 114 [.ref 500000 0, .agg [.int .i64 k, .int .u64 n, .str s, cvL std l]] (bld std b) (.tup []) (bldN std (bytesAdd b (textV (.mk k n s l)))) := by
  refine mcalls_L (T := tt) (S := fun L => sumOfM [short_s L] [wb_m L, ws_m L, put_m N L]) (lo := fun L => putA L b k l) (lb := noA) 5 (fn := Tryz.f114) (xs := fun L => [.ref 500000 0, .agg [.int .i64 k, .int .u64 n, .str s, cvL L l]]) (rts := fun _ => []) (O := fun L => bld L b) (O1 := fun L => bldN L (L2 L bytesAdd b (L textV (.mk k n s l))))
    rfl rfl (by kernel_rfl) (by kernel_rfl) (by kernel_rfl) tt_ok (sumOfM_ok ⟨short_good, trivial⟩ ⟨wb_good, ws_good, ih, trivial⟩) (by kernel_rfl) ?_
  intro L P' Q' hL hP hQ
  have hB : ∀ b : List UInt8, L (L bytesOf (L lenN b)) (fun i => (AV.int .u8 (L2 L byteAt b i)).toI) = b := by subst hL; exact bytesOf_at
  (cbv; try simp only [sat_need, sat_must, sat_ite, sat_done, sat_yes, sat_ex, sat_all, sat_sup, sat_and, sat_fail, true_and, and_true])
  simp only [hB]
  refine ⟨⟨trivial, fun _ _ _ _ => trivial⟩, trivial, ⟨?_, ?_⟩, fun h1 => ⟨?_, ⟨trivial, fun _ _ _ _ => trivial⟩, trivial, ?_, ?_⟩, fun h1 => ⟨fun h2 => ⟨?_, ?_, ⟨trivial, fun _ _ _ _ => trivial⟩, trivial, ?_, ?_⟩, fun h2 => ⟨?_, ⟨trivial, fun _ _ _ _ => trivial⟩, trivial, ?_, ⟨0, ?_⟩, fun i hi => ?_⟩⟩⟩
  · (subst hL; subst hQ; simp only [L2, L3, std] at *; try simp only [sySet, reduceCtorEq, forall_const, Int.reduceToNat, Int.reduceAdd, Int.reduceSub, Int.cast_ofNat_Int, Int.toNat_natCast, Nat.le_eq, Nat.sub_eq, ne_eq, Decidable.not_not, implies_true, true_and, and_true, wadd, wsub, wmul, decide_eq_true_eq, decide_eq_false_iff_not, Nat.succ_eq_add_one, imp_false, not_false_eq_true, not_true_eq_false, false_imp_iff, true_imp_iff] at *)
    exact ⟨Int.emod_nonneg _ (by omega), Int.emod_lt_of_pos _ (by omega)⟩
  · (subst hL; subst hQ; simp only [L2, L3, std] at *; try simp only [sySet, reduceCtorEq, forall_const, Int.reduceToNat, Int.reduceAdd, Int.reduceSub, Int.cast_ofNat_Int, Int.toNat_natCast, Nat.le_eq, Nat.sub_eq, ne_eq, Decidable.not_not, implies_true, true_and, and_true, wadd, wsub, wmul, decide_eq_true_eq, decide_eq_false_iff_not, Nat.succ_eq_add_one, imp_false, not_false_eq_true, not_true_eq_false, false_imp_iff, true_imp_iff] at *)
    exact room_1 hb
  · (subst hL; subst hQ; simp only [L2, L3, std] at *; try simp only [sySet, reduceCtorEq, forall_const, Int.reduceToNat, Int.reduceAdd, Int.reduceSub, Int.cast_ofNat_Int, Int.toNat_natCast, Nat.le_eq, Nat.sub_eq, ne_eq, Decidable.not_not, implies_true, true_and, and_true, wadd, wsub, wmul, decide_eq_true_eq, decide_eq_false_iff_not, Nat.succ_eq_add_one, imp_false, not_false_eq_true, not_true_eq_false, false_imp_iff, true_imp_iff] at *)
    rw [wf_mk] at hw
    exact hw.1.1
  · (subst hL; subst hQ; simp only [L2, L3, std] at *; try simp only [sySet, reduceCtorEq, forall_const, Int.reduceToNat, Int.reduceAdd, Int.reduceSub, Int.cast_ofNat_Int, Int.toNat_natCast, Nat.le_eq, Nat.sub_eq, ne_eq, Decidable.not_not, implies_true, true_and, and_true, wadd, wsub, wmul, decide_eq_true_eq, decide_eq_false_iff_not, Nat.succ_eq_add_one, imp_false, not_false_eq_true, not_true_eq_false, false_imp_iff, true_imp_iff] at *)
    rw [textV_mk, if_pos h1] at hb
    exact room_3 hb
  · (subst hL; subst hQ; simp only [L2, L3, std] at *; try simp only [sySet, reduceCtorEq, forall_const, Int.reduceToNat, Int.reduceAdd, Int.reduceSub, Int.cast_ofNat_Int, Int.toNat_natCast, Nat.le_eq, Nat.sub_eq, ne_eq, Decidable.not_not, implies_true, true_and, and_true, wadd, wsub, wmul, decide_eq_true_eq, decide_eq_false_iff_not, Nat.succ_eq_add_one, imp_false, not_false_eq_true, not_true_eq_false, false_imp_iff, true_imp_iff] at *)
    exact same_3 (by rw [textV_mk, if_pos h1])
  · (subst hL; subst hQ; simp only [L2, L3, std] at *; try simp only [sySet, reduceCtorEq, forall_const, Int.reduceToNat, Int.reduceAdd, Int.reduceSub, Int.cast_ofNat_Int, Int.toNat_natCast, Nat.le_eq, Nat.sub_eq, ne_eq, Decidable.not_not, implies_true, true_and, and_true, wadd, wsub, wmul, decide_eq_true_eq, decide_eq_false_iff_not, Nat.succ_eq_add_one, imp_false, not_false_eq_true, not_true_eq_false, false_imp_iff, true_imp_iff] at *)
    rw [wf_mk] at hw
    rw [u64_small (by omega) (by omega)]
    exact ⟨by omega, by omega⟩
  · (subst hL; subst hQ; simp only [L2, L3, std] at *; try simp only [sySet, reduceCtorEq, forall_const, Int.reduceToNat, Int.reduceAdd, Int.reduceSub, Int.cast_ofNat_Int, Int.toNat_natCast, Nat.le_eq, Nat.sub_eq, ne_eq, Decidable.not_not, implies_true, true_and, and_true, wadd, wsub, wmul, decide_eq_true_eq, decide_eq_false_iff_not, Nat.succ_eq_add_one, imp_false, not_false_eq_true, not_true_eq_false, false_imp_iff, true_imp_iff] at *)
    rw [u64_len hw.1]
    have h3 := hw.2
    rw [textV_mk, if_neg h1, if_pos h2] at h3
    simp at h3 ⊢
    omega
  · (subst hL; subst hQ; simp only [L2, L3, std] at *; try simp only [sySet, reduceCtorEq, forall_const, Int.reduceToNat, Int.reduceAdd, Int.reduceSub, Int.cast_ofNat_Int, Int.toNat_natCast, Nat.le_eq, Nat.sub_eq, ne_eq, Decidable.not_not, implies_true, true_and, and_true, wadd, wsub, wmul, decide_eq_true_eq, decide_eq_false_iff_not, Nat.succ_eq_add_one, imp_false, not_false_eq_true, not_true_eq_false, false_imp_iff, true_imp_iff] at *)
    rw [u64_len hw.1]
    rw [textV_mk, if_neg h1, if_pos h2] at hb
    exact room_3 hb
  · (subst hL; subst hQ; simp only [L2, L3, std] at *; try simp only [sySet, reduceCtorEq, forall_const, Int.reduceToNat, Int.reduceAdd, Int.reduceSub, Int.cast_ofNat_Int, Int.toNat_natCast, Nat.le_eq, Nat.sub_eq, ne_eq, Decidable.not_not, implies_true, true_and, and_true, wadd, wsub, wmul, decide_eq_true_eq, decide_eq_false_iff_not, Nat.succ_eq_add_one, imp_false, not_false_eq_true, not_true_eq_false, false_imp_iff, true_imp_iff] at *)
    rw [u64_len hw.1]
    exact same_3 (by rw [textV_mk, if_neg h1, if_pos h2])
  · (subst hL; subst hQ; simp only [L2, L3, std] at *; try simp only [sySet, reduceCtorEq, forall_const, Int.reduceToNat, Int.reduceAdd, Int.reduceSub, Int.cast_ofNat_Int, Int.toNat_natCast, Nat.le_eq, Nat.sub_eq, ne_eq, Decidable.not_not, implies_true, true_and, and_true, wadd, wsub, wmul, decide_eq_true_eq, decide_eq_false_iff_not, Nat.succ_eq_add_one, imp_false, not_false_eq_true, not_true_eq_false, false_imp_iff, true_imp_iff] at *)
    rw [u64_cvs hz]
    exact cvs_short hz
  · (subst hL; subst hQ; simp only [L2, L3, std] at *; try simp only [sySet, reduceCtorEq, forall_const, Int.reduceToNat, Int.reduceAdd, Int.reduceSub, Int.cast_ofNat_Int, Int.toNat_natCast, Nat.le_eq, Nat.sub_eq, ne_eq, Decidable.not_not, implies_true, true_and, and_true, wadd, wsub, wmul, decide_eq_true_eq, decide_eq_false_iff_not, Nat.succ_eq_add_one, imp_false, not_false_eq_true, not_true_eq_false, false_imp_iff, true_imp_iff] at *)
    rw [u64_cvs hz]
    rw [textV_mk, if_neg h1, if_neg h2] at hb
    exact room_4 hb
  · (cbv; try simp only [sat_need, sat_must, sat_ite, sat_done, sat_yes, sat_ex, sat_all, sat_sup, sat_and, sat_fail, true_and, and_true])
    (subst hL; subst hQ; simp only [L2, L3, std] at *; try simp only [sySet, reduceCtorEq, forall_const, Int.reduceToNat, Int.reduceAdd, Int.reduceSub, Int.cast_ofNat_Int, Int.toNat_natCast, Nat.le_eq, Nat.sub_eq, ne_eq, Decidable.not_not, implies_true, true_and, and_true, wadd, wsub, wmul, decide_eq_true_eq, decide_eq_false_iff_not, Nat.succ_eq_add_one, imp_false, not_false_eq_true, not_true_eq_false, false_imp_iff, true_imp_iff] at *)
    rw [u64_cvs hz]
    have e : bytesAdd (bytesAdd b (byte1 (k % 256))) (shortZ ((l.length : Nat) : Int)) = putX b k l 0 := by
      rw [putX, textTo, List.take_zero, textLs, List.append_nil]; rfl
    rw [e]
    exact ⟨⟨rfl, fun _ _ _ _ => rfl⟩, rfl, Nat.zero_le _⟩
  · cbv at hi
    (cbv; try simp only [sat_need, sat_must, sat_ite, sat_done, sat_yes, sat_ex, sat_all, sat_sup, sat_and, sat_fail, true_and, and_true])
    simp only [hB]
    refine ⟨fun hlt => ⟨?_, ⟨trivial, fun _ _ _ _ => trivial⟩, trivial, fun _ _ _ _ => trivial, ⟨?_, ?_, ?_, ?_⟩, ⟨i + 1, ?_⟩⟩, fun hge => ?_⟩
    · (subst hL; subst hQ; simp only [L2, L3, std] at *; try simp only [sySet, reduceCtorEq, forall_const, Int.reduceToNat, Int.reduceAdd, Int.reduceSub, Int.cast_ofNat_Int, Int.toNat_natCast, Nat.le_eq, Nat.sub_eq, ne_eq, Decidable.not_not, implies_true, true_and, and_true, wadd, wsub, wmul, decide_eq_true_eq, decide_eq_false_iff_not, Nat.succ_eq_add_one, imp_false, not_false_eq_true, not_true_eq_false, false_imp_iff, true_imp_iff] at *)
      omega
    · (subst hL; subst hQ; simp only [L2, L3, std] at *; try simp only [sySet, reduceCtorEq, forall_const, Int.reduceToNat, Int.reduceAdd, Int.reduceSub, Int.cast_ofNat_Int, Int.toNat_natCast, Nat.le_eq, Nat.sub_eq, ne_eq, Decidable.not_not, implies_true, true_and, and_true, wadd, wsub, wmul, decide_eq_true_eq, decide_eq_false_iff_not, Nat.succ_eq_add_one, imp_false, not_false_eq_true, not_true_eq_false, false_imp_iff, true_imp_iff] at *)
      exact (rd_in _).2
    · (subst hL; subst hQ; simp only [L2, L3, std] at *; try simp only [sySet, reduceCtorEq, forall_const, Int.reduceToNat, Int.reduceAdd, Int.reduceSub, Int.cast_ofNat_Int, Int.toNat_natCast, Nat.le_eq, Nat.sub_eq, ne_eq, Decidable.not_not, implies_true, true_and, and_true, wadd, wsub, wmul, decide_eq_true_eq, decide_eq_false_iff_not, Nat.succ_eq_add_one, imp_false, not_false_eq_true, not_true_eq_false, false_imp_iff, true_imp_iff] at *)
      rw [mk_parts]
      rw [sizeC_mk_ok] at hz
      exact nth_sz hz.1 (by have : lenL l = l.length := rfl; omega)
    · (subst hL; subst hQ; simp only [L2, L3, std] at *; try simp only [sySet, reduceCtorEq, forall_const, Int.reduceToNat, Int.reduceAdd, Int.reduceSub, Int.cast_ofNat_Int, Int.toNat_natCast, Nat.le_eq, Nat.sub_eq, ne_eq, Decidable.not_not, implies_true, true_and, and_true, wadd, wsub, wmul, decide_eq_true_eq, decide_eq_false_iff_not, Nat.succ_eq_add_one, imp_false, not_false_eq_true, not_true_eq_false, false_imp_iff, true_imp_iff] at *)
      rw [mkV_parts]
      exact tx_nth hw (by omega) (by omega) (by have : lenL l = l.length := rfl; omega)
    · (subst hL; subst hQ; simp only [L2, L3, std] at *; try simp only [sySet, reduceCtorEq, forall_const, Int.reduceToNat, Int.reduceAdd, Int.reduceSub, Int.cast_ofNat_Int, Int.toNat_natCast, Nat.le_eq, Nat.sub_eq, ne_eq, Decidable.not_not, implies_true, true_and, and_true, wadd, wsub, wmul, decide_eq_true_eq, decide_eq_false_iff_not, Nat.succ_eq_add_one, imp_false, not_false_eq_true, not_true_eq_false, false_imp_iff, true_imp_iff] at *)
      rw [mkV_parts]
      have h4 := textTo_succ (l := l) (i := i) (by have : lenL l = l.length := rfl; omega)
      have h5 := textTo_len l (i + 1)
      rw [h4, List.length_append] at h5
      rw [textV_mk, if_neg h1, if_neg h2] at hb
      unfold roomB at hb ⊢
      simp only [List.length_append, putX] at hb ⊢
      omega
    · (cbv; try simp only [sat_need, sat_must, sat_ite, sat_done, sat_yes, sat_ex, sat_all, sat_sup, sat_and, sat_fail, true_and, and_true])
      (subst hL; subst hQ; simp only [L2, L3, std] at *; try simp only [sySet, reduceCtorEq, forall_const, Int.reduceToNat, Int.reduceAdd, Int.reduceSub, Int.cast_ofNat_Int, Int.toNat_natCast, Nat.le_eq, Nat.sub_eq, ne_eq, Decidable.not_not, implies_true, true_and, and_true, wadd, wsub, wmul, decide_eq_true_eq, decide_eq_false_iff_not, Nat.succ_eq_add_one, imp_false, not_false_eq_true, not_true_eq_false, false_imp_iff, true_imp_iff] at *)
      have : lenL l = l.length := rfl
      have := len_sz l
      rw [sizeC_mk_ok] at hz
      have h4 := hz.1.1
      have h5 := hz.1.2
      rw [mkV_parts]
      have e : bytesAdd (putX b k l i) (textV (nthV l i)) = putX b k l (i + 1) := by
        rw [putX, putX, textTo_succ (by omega)]; unfold bytesAdd; simp only [List.append_assoc]
      rw [e]
      exact ⟨⟨rfl, fun _ _ _ _ => rfl⟩, rfl, by omega, by omega, by omega⟩
    · (subst hL; subst hQ; simp only [L2, L3, std] at *; try simp only [sySet, reduceCtorEq, forall_const, Int.reduceToNat, Int.reduceAdd, Int.reduceSub, Int.cast_ofNat_Int, Int.toNat_natCast, Nat.le_eq, Nat.sub_eq, ne_eq, Decidable.not_not, implies_true, true_and, and_true, wadd, wsub, wmul, decide_eq_true_eq, decide_eq_false_iff_not, Nat.succ_eq_add_one, imp_false, not_false_eq_true, not_true_eq_false, false_imp_iff, true_imp_iff] at *)
      have : lenL l = l.length := rfl
      have hil : i = l.length := by omega
      exact same_b (by rw [textV_mk, if_neg h1, if_neg h2, putX, hil, textTo, List.take_length]; unfold bytesAdd; simp only [List.append_assoc])
theorem put_new {N : Nat} (ih : GoodM Tryz.prog (put_m N std)) (k n : Int) (s : List UInt8) (l : List CV) (hz : szOk (N + 1) (.mk k n s l)) (hw : txOk (.mk k n s l)) :
    MCalls Tryz.prog 114 [.ref 500000 0, .agg [.int .i64 k, .int .u64 n, .str s, cvL std l]] bld0 (.tup []) (bldN std (textV (.mk k n s l))) := by
  refine mcalls_L (T := tt) (S := fun L => sumOfM [short_s L] [wb_m L, ws_m L, put_m N L]) (lo := fun L => putA L [] k l) (lb := noA) 5 (fn := Tryz.f114) (xs := fun L => [.ref 500000 0, .agg [.int .i64 k, .int .u64 n, .str s, cvL L l]]) (rts := fun _ => []) (O := fun L => bld0) (O1 := fun L => bldN L (L textV (.mk k n s l)))
    rfl rfl (by kernel_rfl) (by kernel_rfl) (by kernel_rfl) tt_ok (sumOfM_ok ⟨short_good, trivial⟩ ⟨wb_good, ws_good, ih, trivial⟩) (by kernel_rfl) ?_
  intro L P' Q' hL hP hQ
  have hb : roomB [] (textV (.mk k n s l)) := by have := hw.2; unfold roomB; simp; omega
  have hB : ∀ b : List UInt8, L (L bytesOf (L lenN b)) (fun i => (AV.int .u8 (L2 L byteAt b i)).toI) = b := by subst hL; exact bytesOf_at
  (cbv; try simp only [sat_need, sat_must, sat_ite, sat_done, sat_yes, sat_ex, sat_all, sat_sup, sat_and, sat_fail, true_and, and_true])
  simp only [hB]
  refine ⟨?_, fun h1 => ⟨?_, ⟨trivial, fun _ _ _ _ => trivial⟩, trivial, ?_, ?_⟩, fun h1 => ⟨fun h2 => ⟨?_, ?_, ⟨trivial, fun _ _ _ _ => trivial⟩, trivial, ?_, ?_⟩, fun h2 => ⟨?_, ⟨trivial, fun _ _ _ _ => trivial⟩, trivial, ?_, ⟨0, ?_⟩, fun i hi => ?_⟩⟩⟩
  · (subst hL; subst hQ; simp only [L2, L3, std] at *; try simp only [sySet, reduceCtorEq, forall_const, Int.reduceToNat, Int.reduceAdd, Int.reduceSub, Int.cast_ofNat_Int, Int.toNat_natCast, Nat.le_eq, Nat.sub_eq, ne_eq, Decidable.not_not, implies_true, true_and, and_true, wadd, wsub, wmul, decide_eq_true_eq, decide_eq_false_iff_not, Nat.succ_eq_add_one, imp_false, not_false_eq_true, not_true_eq_false, false_imp_iff, true_imp_iff] at *)
    exact ⟨Int.emod_nonneg _ (by omega), Int.emod_lt_of_pos _ (by omega)⟩
  · (subst hL; subst hQ; simp only [L2, L3, std] at *; try simp only [sySet, reduceCtorEq, forall_const, Int.reduceToNat, Int.reduceAdd, Int.reduceSub, Int.cast_ofNat_Int, Int.toNat_natCast, Nat.le_eq, Nat.sub_eq, ne_eq, Decidable.not_not, implies_true, true_and, and_true, wadd, wsub, wmul, decide_eq_true_eq, decide_eq_false_iff_not, Nat.succ_eq_add_one, imp_false, not_false_eq_true, not_true_eq_false, false_imp_iff, true_imp_iff] at *)
    rw [wf_mk] at hw
    exact hw.1.1
  · (subst hL; subst hQ; simp only [L2, L3, std] at *; try simp only [sySet, reduceCtorEq, forall_const, Int.reduceToNat, Int.reduceAdd, Int.reduceSub, Int.cast_ofNat_Int, Int.toNat_natCast, Nat.le_eq, Nat.sub_eq, ne_eq, Decidable.not_not, implies_true, true_and, and_true, wadd, wsub, wmul, decide_eq_true_eq, decide_eq_false_iff_not, Nat.succ_eq_add_one, imp_false, not_false_eq_true, not_true_eq_false, false_imp_iff, true_imp_iff] at *)
    rw [textV_mk, if_pos h1] at hb
    exact room_3 hb
  · (subst hL; subst hQ; simp only [L2, L3, std] at *; try simp only [sySet, reduceCtorEq, forall_const, Int.reduceToNat, Int.reduceAdd, Int.reduceSub, Int.cast_ofNat_Int, Int.toNat_natCast, Nat.le_eq, Nat.sub_eq, ne_eq, Decidable.not_not, implies_true, true_and, and_true, wadd, wsub, wmul, decide_eq_true_eq, decide_eq_false_iff_not, Nat.succ_eq_add_one, imp_false, not_false_eq_true, not_true_eq_false, false_imp_iff, true_imp_iff] at *)
    exact same_0 (by rw [textV_mk, if_pos h1])
  · (subst hL; subst hQ; simp only [L2, L3, std] at *; try simp only [sySet, reduceCtorEq, forall_const, Int.reduceToNat, Int.reduceAdd, Int.reduceSub, Int.cast_ofNat_Int, Int.toNat_natCast, Nat.le_eq, Nat.sub_eq, ne_eq, Decidable.not_not, implies_true, true_and, and_true, wadd, wsub, wmul, decide_eq_true_eq, decide_eq_false_iff_not, Nat.succ_eq_add_one, imp_false, not_false_eq_true, not_true_eq_false, false_imp_iff, true_imp_iff] at *)
    rw [wf_mk] at hw
    rw [u64_small (by omega) (by omega)]
    exact ⟨by omega, by omega⟩
  · (subst hL; subst hQ; simp only [L2, L3, std] at *; try simp only [sySet, reduceCtorEq, forall_const, Int.reduceToNat, Int.reduceAdd, Int.reduceSub, Int.cast_ofNat_Int, Int.toNat_natCast, Nat.le_eq, Nat.sub_eq, ne_eq, Decidable.not_not, implies_true, true_and, and_true, wadd, wsub, wmul, decide_eq_true_eq, decide_eq_false_iff_not, Nat.succ_eq_add_one, imp_false, not_false_eq_true, not_true_eq_false, false_imp_iff, true_imp_iff] at *)
    rw [u64_len hw.1]
    have h3 := hw.2
    rw [textV_mk, if_neg h1, if_pos h2] at h3
    simp at h3 ⊢
    omega
  · (subst hL; subst hQ; simp only [L2, L3, std] at *; try simp only [sySet, reduceCtorEq, forall_const, Int.reduceToNat, Int.reduceAdd, Int.reduceSub, Int.cast_ofNat_Int, Int.toNat_natCast, Nat.le_eq, Nat.sub_eq, ne_eq, Decidable.not_not, implies_true, true_and, and_true, wadd, wsub, wmul, decide_eq_true_eq, decide_eq_false_iff_not, Nat.succ_eq_add_one, imp_false, not_false_eq_true, not_true_eq_false, false_imp_iff, true_imp_iff] at *)
    rw [u64_len hw.1]
    rw [textV_mk, if_neg h1, if_pos h2] at hb
    exact room_3 hb
  · (subst hL; subst hQ; simp only [L2, L3, std] at *; try simp only [sySet, reduceCtorEq, forall_const, Int.reduceToNat, Int.reduceAdd, Int.reduceSub, Int.cast_ofNat_Int, Int.toNat_natCast, Nat.le_eq, Nat.sub_eq, ne_eq, Decidable.not_not, implies_true, true_and, and_true, wadd, wsub, wmul, decide_eq_true_eq, decide_eq_false_iff_not, Nat.succ_eq_add_one, imp_false, not_false_eq_true, not_true_eq_false, false_imp_iff, true_imp_iff] at *)
    rw [u64_len hw.1]
    exact same_0 (by rw [textV_mk, if_neg h1, if_pos h2])
  · (subst hL; subst hQ; simp only [L2, L3, std] at *; try simp only [sySet, reduceCtorEq, forall_const, Int.reduceToNat, Int.reduceAdd, Int.reduceSub, Int.cast_ofNat_Int, Int.toNat_natCast, Nat.le_eq, Nat.sub_eq, ne_eq, Decidable.not_not, implies_true, true_and, and_true, wadd, wsub, wmul, decide_eq_true_eq, decide_eq_false_iff_not, Nat.succ_eq_add_one, imp_false, not_false_eq_true, not_true_eq_false, false_imp_iff, true_imp_iff] at *)
    rw [u64_cvs hz]
    exact cvs_short hz
  · (subst hL; subst hQ; simp only [L2, L3, std] at *; try simp only [sySet, reduceCtorEq, forall_const, Int.reduceToNat, Int.reduceAdd, Int.reduceSub, Int.cast_ofNat_Int, Int.toNat_natCast, Nat.le_eq, Nat.sub_eq, ne_eq, Decidable.not_not, implies_true, true_and, and_true, wadd, wsub, wmul, decide_eq_true_eq, decide_eq_false_iff_not, Nat.succ_eq_add_one, imp_false, not_false_eq_true, not_true_eq_false, false_imp_iff, true_imp_iff] at *)
    rw [u64_cvs hz]
    rw [textV_mk, if_neg h1, if_neg h2] at hb
    exact room_4 hb
  · (cbv; try simp only [sat_need, sat_must, sat_ite, sat_done, sat_yes, sat_ex, sat_all, sat_sup, sat_and, sat_fail, true_and, and_true])
    (subst hL; subst hQ; simp only [L2, L3, std] at *; try simp only [sySet, reduceCtorEq, forall_const, Int.reduceToNat, Int.reduceAdd, Int.reduceSub, Int.cast_ofNat_Int, Int.toNat_natCast, Nat.le_eq, Nat.sub_eq, ne_eq, Decidable.not_not, implies_true, true_and, and_true, wadd, wsub, wmul, decide_eq_true_eq, decide_eq_false_iff_not, Nat.succ_eq_add_one, imp_false, not_false_eq_true, not_true_eq_false, false_imp_iff, true_imp_iff] at *)
    rw [u64_cvs hz]
    have e : bytesAdd (byte1 (k % 256)) (shortZ ((l.length : Nat) : Int)) = putX [] k l 0 := by
      rw [putX, textTo, List.take_zero, textLs, List.append_nil]; rfl
    rw [e]
    exact ⟨⟨rfl, fun _ _ _ _ => rfl⟩, rfl, Nat.zero_le _⟩
  · cbv at hi
    (cbv; try simp only [sat_need, sat_must, sat_ite, sat_done, sat_yes, sat_ex, sat_all, sat_sup, sat_and, sat_fail, true_and, and_true])
    simp only [hB]
    refine ⟨fun hlt => ⟨?_, ⟨trivial, fun _ _ _ _ => trivial⟩, trivial, fun _ _ _ _ => trivial, ⟨?_, ?_, ?_, ?_⟩, ⟨i + 1, ?_⟩⟩, fun hge => ?_⟩
    · (subst hL; subst hQ; simp only [L2, L3, std] at *; try simp only [sySet, reduceCtorEq, forall_const, Int.reduceToNat, Int.reduceAdd, Int.reduceSub, Int.cast_ofNat_Int, Int.toNat_natCast, Nat.le_eq, Nat.sub_eq, ne_eq, Decidable.not_not, implies_true, true_and, and_true, wadd, wsub, wmul, decide_eq_true_eq, decide_eq_false_iff_not, Nat.succ_eq_add_one, imp_false, not_false_eq_true, not_true_eq_false, false_imp_iff, true_imp_iff] at *)
      omega
    · (subst hL; subst hQ; simp only [L2, L3, std] at *; try simp only [sySet, reduceCtorEq, forall_const, Int.reduceToNat, Int.reduceAdd, Int.reduceSub, Int.cast_ofNat_Int, Int.toNat_natCast, Nat.le_eq, Nat.sub_eq, ne_eq, Decidable.not_not, implies_true, true_and, and_true, wadd, wsub, wmul, decide_eq_true_eq, decide_eq_false_iff_not, Nat.succ_eq_add_one, imp_false, not_false_eq_true, not_true_eq_false, false_imp_iff, true_imp_iff] at *)
      exact (rd_in _).2
    · (subst hL; subst hQ; simp only [L2, L3, std] at *; try simp only [sySet, reduceCtorEq, forall_const, Int.reduceToNat, Int.reduceAdd, Int.reduceSub, Int.cast_ofNat_Int, Int.toNat_natCast, Nat.le_eq, Nat.sub_eq, ne_eq, Decidable.not_not, implies_true, true_and, and_true, wadd, wsub, wmul, decide_eq_true_eq, decide_eq_false_iff_not, Nat.succ_eq_add_one, imp_false, not_false_eq_true, not_true_eq_false, false_imp_iff, true_imp_iff] at *)
      rw [mk_parts]
      rw [sizeC_mk_ok] at hz
      exact nth_sz hz.1 (by have : lenL l = l.length := rfl; omega)
    · (subst hL; subst hQ; simp only [L2, L3, std] at *; try simp only [sySet, reduceCtorEq, forall_const, Int.reduceToNat, Int.reduceAdd, Int.reduceSub, Int.cast_ofNat_Int, Int.toNat_natCast, Nat.le_eq, Nat.sub_eq, ne_eq, Decidable.not_not, implies_true, true_and, and_true, wadd, wsub, wmul, decide_eq_true_eq, decide_eq_false_iff_not, Nat.succ_eq_add_one, imp_false, not_false_eq_true, not_true_eq_false, false_imp_iff, true_imp_iff] at *)
      rw [mkV_parts]
      exact tx_nth hw (by omega) (by omega) (by have : lenL l = l.length := rfl; omega)
    · (subst hL; subst hQ; simp only [L2, L3, std] at *; try simp only [sySet, reduceCtorEq, forall_const, Int.reduceToNat, Int.reduceAdd, Int.reduceSub, Int.cast_ofNat_Int, Int.toNat_natCast, Nat.le_eq, Nat.sub_eq, ne_eq, Decidable.not_not, implies_true, true_and, and_true, wadd, wsub, wmul, decide_eq_true_eq, decide_eq_false_iff_not, Nat.succ_eq_add_one, imp_false, not_false_eq_true, not_true_eq_false, false_imp_iff, true_imp_iff] at *)
      rw [mkV_parts]
      have h4 := textTo_succ (l := l) (i := i) (by have : lenL l = l.length := rfl; omega)
      have h5 := textTo_len l (i + 1)
      rw [h4, List.length_append] at h5
      rw [textV_mk, if_neg h1, if_neg h2] at hb
      unfold roomB at hb ⊢
      simp only [List.length_append, putX] at hb ⊢
      omega
    · (cbv; try simp only [sat_need, sat_must, sat_ite, sat_done, sat_yes, sat_ex, sat_all, sat_sup, sat_and, sat_fail, true_and, and_true])
      (subst hL; subst hQ; simp only [L2, L3, std] at *; try simp only [sySet, reduceCtorEq, forall_const, Int.reduceToNat, Int.reduceAdd, Int.reduceSub, Int.cast_ofNat_Int, Int.toNat_natCast, Nat.le_eq, Nat.sub_eq, ne_eq, Decidable.not_not, implies_true, true_and, and_true, wadd, wsub, wmul, decide_eq_true_eq, decide_eq_false_iff_not, Nat.succ_eq_add_one, imp_false, not_false_eq_true, not_true_eq_false, false_imp_iff, true_imp_iff] at *)
      have : lenL l = l.length := rfl
      have := len_sz l
      rw [sizeC_mk_ok] at hz
      have h4 := hz.1.1
      have h5 := hz.1.2
      rw [mkV_parts]
      have e : bytesAdd (putX [] k l i) (textV (nthV l i)) = putX [] k l (i + 1) := by
        rw [putX, putX, textTo_succ (by omega)]; unfold bytesAdd; simp only [List.append_assoc]
      rw [e]
      exact ⟨⟨rfl, fun _ _ _ _ => rfl⟩, rfl, by omega, by omega, by omega⟩
    · (subst hL; subst hQ; simp only [L2, L3, std] at *; try simp only [sySet, reduceCtorEq, forall_const, Int.reduceToNat, Int.reduceAdd, Int.reduceSub, Int.cast_ofNat_Int, Int.toNat_natCast, Nat.le_eq, Nat.sub_eq, ne_eq, Decidable.not_not, implies_true, true_and, and_true, wadd, wsub, wmul, decide_eq_true_eq, decide_eq_false_iff_not, Nat.succ_eq_add_one, imp_false, not_false_eq_true, not_true_eq_false, false_imp_iff, true_imp_iff] at *)
      have : lenL l = l.length := rfl
      have hil : i = l.length := by omega
      exact same_b (by rw [textV_mk, if_neg h1, if_neg h2, putX, hil, textTo, List.take_length, List.nil_append, List.append_assoc])
theorem mc_args {P : Program} {f : FuncId} {xs ys : List AV} {O O1 : List (Nat × Ob)} {r : AV} (e : ∀ h D μ vs, RL h D μ xs vs → RL h D μ ys vs) (hm : MCalls P f ys O r O1) : MCalls P f xs O r O1 :=
  fun D w μ vs hD hx => hm D w μ vs hD (e _ _ _ _ hx)
theorem cput_good : ∀ N, GoodM Tryz.prog (put_m N std) := by
  intro N
  induction N with
  | zero =>
    intro raw ob T hT hp
    unfold put_m at hT
    simp only at hT
    split at hT
    · rename_i k n s x
      split at hT <;> cases hT
      · have h1 : sizeC (mkV std k n s x) ≤ 0 := hp.2.1.1
        have := sizeC_pos (mkV std k n s x)
        omega
      · have h1 : sizeC (mkV std k n s x) ≤ 0 := hp.2.1.1
        have := sizeC_pos (mkV std k n s x)
        omega
    · cases hT
  | succ N ih =>
    intro raw ob T hT hp
    unfold put_m at hT
    simp only at hT
    split at hT
    rotate_left
    · cases hT
    rename_i k n s x
    split at hT <;> cases hT
    · refine mc_args (fun h D μ vs hr => rl_2 (fun v => val_R hp.1) hr) ?_
      exact put_new ih k n s (rdL x) hp.2.1 hp.2.2
    · refine mc_args (fun h D μ vs hr => rl_2 (fun v => val_R hp.1) hr) ?_
      exact put_old ih _ k n s (rdL x) hp.2.1 hp.2.2.1 hp.2.2.2
end Sy
end Go.Proofs.YtckbbcjbbmgmoaaGreatDoor
namespace Go.Proofs.YtckbbcjbbmgmoaaGreatDoor
namespace Sy
open Go Go.RowKit
set_option maxRecDepth 100000
set_option linter.unusedSimpArgs false
set_option linter.unusedVariables false

/-- A slice, by whether it is nil, has no element, has some. -/
theorem ac_nilsplit {P : Program} {f : FuncId} {sz n : Nat} {get : Nat → Nat → AV} {r : AV} (h0 : n = 0 → ACalls P f [.nils] r) (h1 : n = 0 → ACalls P f [.emp] r) (h2 : 0 < n → ACalls P f [.lst sz n get] r) : ACalls P f [.lst sz n get] r := by
  by_cases e : n = 0
  · subst e
    intro D w vs hD hx
    obtain ⟨v, hv⟩ : ∃ v, vs.toList = [v] := List.length_eq_one_iff.1 (by simpa using hx.1.symm)
    have : vs = #[v] := by rw [← Array.toArray_toList (xs := vs), hv]
    subst this
    have hr := hx.2 0 _ _ rfl rfl
    have one : ∀ y, R w.heap D noMu y v → RL w.heap D noMu [y] #[v] := fun y r => ⟨rfl, fun i x u hx hu => by
      match i with
      | 0 => cases hx; cases hu; exact r
      | i + 1 => simp at hx⟩
    cases hr with
    | lst0 _ _ a cap hn =>
      cases a with
      | none =>
        obtain rfl := hn rfl
        exact h0 rfl D w _ hD (one _ .nils)
      | some a => exact h1 rfl D w _ hD (one _ (.emp a cap))
    | lst _ _ _ b o cap vs' hD' hc hv' h1' hr' => exact h1 rfl D w _ hD (one _ (.emp _ cap))
  · exact h2 (by omega)

def numV (n : Int) : CV := .mk 1 n [] []
def txtV (s : List UInt8) : CV := .mk 2 0 s []
def rowV (l : List CV) : CV := .mk 3 0 [] l
def num_s (L : Seal) : Ent1 := (53, fun xs => match xs with | [.int .u64 n] => some (True, cvA L (L numV n)) | _ => none)
def txt_s (L : Seal) : Ent1 := (118, fun xs => match xs with | [.str s] => some (True, cvA L (L txtV s)) | _ => none)
theorem num_good : Good Tryz.prog (num_s std) := by
  intro xs p r h hp
  unfold num_s at h
  simp only at h
  split at h
  rotate_left
  · cases h
  rename_i n
  cases h
  refine acalls_L (T := tt) (S := noS) (lo := noA) (lb := noA) 5 (fn := Tryz.f53) rfl rfl (by kernel_rfl) (by kernel_rfl) rfl tt_ok (noS_ok _) (by kernel_rfl) ?_
  (intro L P1 Q1 hL hP hQ; cbv; subst hL; simp only [L2, L3, std, sat_need, sat_must, sat_ite, sat_done, sat_yes, sat_ex, sat_all, sat_sup, sat_and, sat_fail]; subst hQ)
  show fits (.agg [.int .i64 1, .int .u64 n, .str [], .lst 4 0 (cvIn (numV n))]) _
  simp [fits_aggi, fits1_aggi, fits1_aggs, fits1_aggn, fits1_agg0]
theorem txt_good : Good Tryz.prog (txt_s std) := by
  intro xs p r h hp
  unfold txt_s at h
  simp only at h
  split at h
  rotate_left
  · cases h
  rename_i n
  cases h
  refine acalls_L (T := tt) (S := noS) (lo := noA) (lb := noA) 5 (fn := Tryz.f118) rfl rfl (by kernel_rfl) (by kernel_rfl) rfl tt_ok (noS_ok _) (by kernel_rfl) ?_
  (intro L P1 Q1 hL hP hQ; cbv; subst hL; simp only [L2, L3, std, sat_need, sat_must, sat_ite, sat_done, sat_yes, sat_ex, sat_all, sat_sup, sat_and, sat_fail]; subst hQ)
  show fits (.agg [.int .i64 2, .int .u64 0, .str n, .lst 4 0 (cvIn (txtV n))]) _
  simp [fits_aggi, fits1_aggi, fits1_aggs, fits1_aggn, fits1_agg0]
def lenOk (l : List CV) : Prop := l.length ≤ 1000000
def clone_s (L : Seal) : Ent1 := (117, fun xs => match xs with
  | [x] => some (L okL x ∧ L lenOk (L rdL x), .lst 4 (L lenL (L rdL x)) (L cvGet (L rdL x)))
  | _ => none)
theorem clone_good : Good Tryz.prog (clone_s std) := by
  intro xs p r h hp
  unfold clone_s at h
  simp only at h
  split at h
  rotate_left
  · cases h
  rename_i x
  cases h
  obtain ⟨ho, hz⟩ := hp
  refine ac_l ho ?_
  have hz : lenOk (rdL x) := hz
  show ACalls _ _ [cvL std (rdL x)] (.lst 4 (lenL (rdL x)) (cvGet (rdL x)))
  generalize rdL x = l at hz ⊢
  refine ac_nilsplit (fun h => ?_) (fun h => ?_) (fun h => ?_)
  · refine acalls_L (T := tt) (S := noS) (lo := noA) (lb := noA) 5 (fn := Tryz.f117) rfl rfl (by kernel_rfl) (by kernel_rfl) rfl tt_ok (noS_ok _) (by kernel_rfl) ?_
    intro L P' Q' hL hP hQ
    (cbv; try simp only [sat_need, sat_must, sat_ite, sat_done, sat_yes, sat_ex, sat_all, sat_sup, sat_and, sat_fail, true_and, and_true])
    (subst hL; subst hQ; simp only [L2, L3, std] at *; try simp only [sySet, reduceCtorEq, forall_const, Int.reduceToNat, Int.reduceAdd, Int.reduceSub, Int.cast_ofNat_Int, Int.toNat_natCast, Nat.le_eq, Nat.sub_eq, ne_eq, Decidable.not_not, implies_true, true_and, and_true, wadd, wsub, wmul, decide_eq_true_eq, decide_eq_false_iff_not, Nat.succ_eq_add_one, imp_false, not_false_eq_true, not_true_eq_false, false_imp_iff, true_imp_iff] at *)
    exact h.symm
  · refine acalls_L (T := tt) (S := noS) (lo := noA) (lb := noA) 5 (fn := Tryz.f117) rfl rfl (by kernel_rfl) (by kernel_rfl) rfl tt_ok (noS_ok _) (by kernel_rfl) ?_
    intro L P' Q' hL hP hQ
    (cbv; try simp only [sat_need, sat_must, sat_ite, sat_done, sat_yes, sat_ex, sat_all, sat_sup, sat_and, sat_fail, true_and, and_true])
    (subst hL; subst hQ; simp only [L2, L3, std] at *; try simp only [sySet, reduceCtorEq, forall_const, Int.reduceToNat, Int.reduceAdd, Int.reduceSub, Int.cast_ofNat_Int, Int.toNat_natCast, Nat.le_eq, Nat.sub_eq, ne_eq, Decidable.not_not, implies_true, true_and, and_true, wadd, wsub, wmul, decide_eq_true_eq, decide_eq_false_iff_not, Nat.succ_eq_add_one, imp_false, not_false_eq_true, not_true_eq_false, false_imp_iff, true_imp_iff] at *)
    exact ⟨by omega, h.symm, fun i j hi => by omega⟩
  · refine acalls_L' (T := tt) (S := noS) (lo := fun _ => noA std) (lb := noA) 5 (fn := Tryz.f117) (xs := fun L => [cvL L l]) rfl rfl (by kernel_rfl) (by kernel_rfl) rfl tt_ok (noS_ok _) (by kernel_rfl) ?_
    intro L P' Q' hL hP hQ
    (cbv; try simp only [sat_need, sat_must, sat_ite, sat_done, sat_yes, sat_ex, sat_all, sat_sup, sat_and, sat_fail, true_and, and_true])
    (subst hL; subst hQ; simp only [L2, L3, std] at *; try simp only [sySet, reduceCtorEq, forall_const, Int.reduceToNat, Int.reduceAdd, Int.reduceSub, Int.cast_ofNat_Int, Int.toNat_natCast, Nat.le_eq, Nat.sub_eq, ne_eq, Decidable.not_not, implies_true, true_and, and_true, wadd, wsub, wmul, decide_eq_true_eq, decide_eq_false_iff_not, Nat.succ_eq_add_one, imp_false, not_false_eq_true, not_true_eq_false, false_imp_iff, true_imp_iff] at *)
    have h1 : lenL l ≤ 1000000 := hz
    exact ⟨blt_t h, by omega, fun i j hi hj => by rw [cv1_std _ _ hj, cvGet_nth _ _ _ hi]⟩
def list_s (L : Seal) : Ent1 := (52, fun xs => match xs with
  | [x] => some (L okL x ∧ L lenOk (L rdL x), cvA L (L rowV (L rdL x)))
  | _ => none)
theorem list_good : Good Tryz.prog (list_s std) := by
  intro xs p r h hp
  unfold list_s at h
  simp only at h
  split at h
  rotate_left
  · cases h
  rename_i x
  cases h
  obtain ⟨ho, hz⟩ := hp
  refine ac_l ho ?_
  have hz : lenOk (rdL x) := hz
  show ACalls _ _ [cvL std (rdL x)] (cvA std (rowV (rdL x)))
  generalize rdL x = l at hz ⊢
  refine acalls_L' (T := tt) (S := fun L => sumOf [clone_s L]) (lo := fun _ => noA std) (lb := noA) 5 (fn := Tryz.f52) (xs := fun L => [cvL L l]) rfl rfl (by kernel_rfl) (by kernel_rfl) rfl tt_ok (sumOf_ok ⟨clone_good, trivial⟩) (by kernel_rfl) ?_
  intro L P' Q' hL hP hQ
  (cbv; try simp only [sat_need, sat_must, sat_ite, sat_done, sat_yes, sat_ex, sat_all, sat_sup, sat_and, sat_fail, true_and, and_true])
  (subst hL; subst hQ; simp only [L2, L3, std] at *; try simp only [sySet, reduceCtorEq, forall_const, Int.reduceToNat, Int.reduceAdd, Int.reduceSub, Int.cast_ofNat_Int, Int.toNat_natCast, Nat.le_eq, Nat.sub_eq, ne_eq, Decidable.not_not, implies_true, true_and, and_true, wadd, wsub, wmul, decide_eq_true_eq, decide_eq_false_iff_not, Nat.succ_eq_add_one, imp_false, not_false_eq_true, not_true_eq_false, false_imp_iff, true_imp_iff] at *)
  rw [rdl]
  refine ⟨⟨okl l, hz⟩, ?_⟩
  show fits (.agg [.int .i64 3, .int .u64 0, .str [], .lst 4 (lenL l) (cvGet l)]) _
  simp [fits_aggi, fits1_aggi, fits1_aggs, fits1_aggl, fits1_agg0]

/-! ### Put -/
def putE (v : CV) : Int := if bareV v = true then (if deepV v > 6 then 8 else if (textV v).length > 8192 then 5 else 0) else 10
def putT (v : CV) : List UInt8 := if putE v = 0 then textV v else []
def cput_s (N : Nat) (L : Seal) : Ent1 := (51, fun xs => match xs with
  | [.agg [.int .i64 k, .int .u64 n, .str s, x]] => some (L okL x ∧ L2 L szOk N (mkV L k n s x) ∧ L txOk (mkV L k n s x), .tup [.str (L putT (mkV L k n s x)), .int .i64 (L putE (mkV L k n s x))])
  | _ => none)
theorem cput2_good (N : Nat) : Good Tryz.prog (cput_s N std) := by
  intro xs p r h hp
  unfold cput_s at h
  simp only at h
  split at h
  rotate_left
  · cases h
  rename_i k n s x
  cases h
  obtain ⟨ho, hz, hw⟩ := hp
  refine ac_v ho ?_
  rw [show mkV std k n s x = .mk k n s (rdL x) from rfl] at hz hw ⊢
  generalize rdL x = l at hz hw ⊢
  have hz : szOk N (.mk k n s l) := hz
  have hw : txOk (.mk k n s l) := hw
  refine acalls_L' (T := tt) (S := fun L => sumOfM [bare_s N L, deep_s N L] [put_m N L, bl_m L, bs_m L]) (lo := fun _ => noA std) (lb := noA) 5 (fn := Tryz.f51) (xs := fun L => [.agg [.int .i64 k, .int .u64 n, .str s, cvL L l]]) rfl rfl (by kernel_rfl) (by kernel_rfl) rfl tt_ok
    (sumOfM_ok ⟨bare_good N, deep_good N, trivial⟩ ⟨cput_good N, bl_good, bs_good, trivial⟩) (by kernel_rfl) ?_
  intro L P' Q' hL hP hQ
  have hB : ∀ b : List UInt8, L (L bytesOf (L lenN b)) (fun i => (AV.int .u8 (L2 L byteAt b i)).toI) = b := by subst hL; exact bytesOf_at
  (cbv; try simp only [sat_need, sat_must, sat_ite, sat_done, sat_yes, sat_ex, sat_all, sat_sup, sat_and, sat_fail, true_and, and_true])
  simp only [hB]
  (subst hL; subst hQ; simp only [L2, L3, std] at *; try simp only [sySet, reduceCtorEq, forall_const, Int.reduceToNat, Int.reduceAdd, Int.reduceSub, Int.cast_ofNat_Int, Int.toNat_natCast, Nat.le_eq, Nat.sub_eq, ne_eq, Decidable.not_not, implies_true, true_and, and_true, wadd, wsub, wmul, decide_eq_true_eq, decide_eq_false_iff_not, Nat.succ_eq_add_one, imp_false, not_false_eq_true, not_true_eq_false, false_imp_iff, true_imp_iff] at *)
  simp only [rdl, mkl]
  refine ⟨⟨okl l, hz⟩, fun h1 => ?_, fun h1 => ⟨⟨okl l, hz⟩, fun h2 => ?_, fun h2 => ⟨⟨okl l, hz, hw⟩, fun h3 => ?_, fun h3 => ⟨⟨?_, hw.2⟩, ?_⟩⟩⟩⟩
  · simp [putT, putE, h1]
  · simp [putT, putE, h1, h2]
  · have h4 : ¬ 6 < deepV (.mk k n s l) := by omega
    have h5 : 8192 < (textV (.mk k n s l)).length := by omega
    simp [putT, putE, h1, h4, h5]
  · rw [textV_mk]; simp [byteK]
  · have h4 : ¬ 6 < deepV (.mk k n s l) := by omega
    have h5 : ¬ 8192 < (textV (.mk k n s l)).length := by omega
    simp [putT, putE, h1, h4, h5]
/-! ### The chapter's example -/
theorem one1 (v : CV) : rdL (.lst 4 1 fun i j => lget .dead [.int .i64 v.kd, .int .u64 v.nn, .str v.tx, .lst 4 (lenV v) (cvIn v)] (i * 4 + j)) = [v] := by
  show [CV.mk v.kd v.nn v.tx (rdL (.lst 4 (lenV v) (cvIn v)))] = [v]
  rw [mk_parts]
theorem one1_ok (v : CV) : okL (.lst 4 1 fun i j => lget .dead [.int .i64 v.kd, .int .u64 v.nn, .str v.tx, .lst 4 (lenV v) (cvIn v)] (i * 4 + j)) := by
  refine ⟨rfl, fun i hi => ?_⟩
  have : i = 0 := by omega
  subst this
  exact ⟨⟨_, rfl⟩, ⟨_, rfl⟩, ⟨_, rfl⟩, (rd_in v).2⟩
theorem short1 : shortZ 1 = [1] := by rw [shortZ, show (1 : Int).toNat = 1 from rfl, shortL_small (by decide)]; rfl
theorem short5 : shortZ 5 = [5] := by rw [shortZ, show (5 : Int).toNat = 5 from rfl, shortL_small (by decide)]; rfl
theorem ex_text : textV (rowV [numV 5]) = [3, 1, 1, 5] := by
  rw [rowV, numV, textV_mk, if_neg (by decide), if_neg (by decide), textLs, textV_mk, if_pos rfl, textLs, short5]
  show _ ++ (shortZ 1 ++ _) = _
  rw [short1]; rfl
theorem ex_bare : bareV (rowV [numV 5]) = true := by rw [rowV, numV, bareV, bareLs, bareV, bareLs]; rfl
theorem ex_deep : deepV (rowV [numV 5]) = 1 := by rw [rowV, numV, deepV, deepLs, deepV, deepLs]; rfl
theorem ex_size : sizeC (rowV [numV 5]) = 2 := by rw [rowV, numV, sizeC_mk, sizeCs_cons, sizeCs_nil, sizeC_mk, sizeCs_nil]
theorem ex_putE : putE (rowV [numV 5]) = 0 := by rw [putE, ex_bare, ex_deep, ex_text]; rfl
theorem ex_putT : putT (rowV [numV 5]) = [3, 1, 1, 5] := by rw [putT, ex_putE, ex_text]; rfl
theorem ex_tx : txOk (rowV [numV 5]) := by
  refine ⟨?_, by rw [ex_text]; decide⟩
  simp only [rowV, numV, wfV, wfLs, shortOk]
  decide
theorem awake07_ac : ACalls Tryz.prog 104 [] (.bool true) := by
  refine acalls_L (T := tt) (S := fun L => sumOf [num_s L, list_s L, cput_s 100 L, tru 159]) (lo := noA) (lb := noA) 5 (fn := Tryz.f104) rfl rfl (by kernel_rfl) (by kernel_rfl) rfl tt_ok (sumOf_ok ⟨num_good, list_good, cput2_good 100, tru_good Awake01_ac, trivial⟩) (by kernel_rfl) ?_
  intro L P' Q' hL hP hQ
  (cbv; try simp only [sat_need, sat_must, sat_ite, sat_done, sat_yes, sat_ex, sat_all, sat_sup, sat_and, sat_fail, true_and, and_true])
  (subst hL; subst hQ; simp only [L2, L3, std] at *; try simp only [sySet, reduceCtorEq, forall_const, Int.reduceToNat, Int.reduceAdd, Int.reduceSub, Int.cast_ofNat_Int, Int.toNat_natCast, Nat.le_eq, Nat.sub_eq, ne_eq, Decidable.not_not, implies_true, true_and, and_true, wadd, wsub, wmul, decide_eq_true_eq, decide_eq_false_iff_not, Nat.succ_eq_add_one, imp_false, not_false_eq_true, not_true_eq_false, false_imp_iff, true_imp_iff] at *)
  simp only [one1, mk_parts, mkV_parts, ex_putE, ex_putT]
  exact ⟨⟨one1_ok _, by show (1 : Nat) ≤ 1000000; omega⟩, ⟨(rd_in _).2, ⟨by rw [ex_size]; omega, by omega⟩, ex_tx⟩, fun _ => trivial, trivial⟩
theorem Awake07_ac : ACalls Tryz.prog 48 [] (.bool true) := by
  refine acalls_L (T := tt) (S := fun L => sumOf [tru 104]) (lo := noA) (lb := noA) 5 (fn := Tryz.f48) rfl rfl (by kernel_rfl) (by kernel_rfl) rfl tt_ok (sumOf_ok ⟨tru_good awake07_ac, trivial⟩) (by kernel_rfl) ?_
  (intro L P1 Q1 hL hP hQ; cbv; subst hL; simp only [L2, L3, std, sat_need, sat_must, sat_ite, sat_done, sat_yes, sat_ex, sat_all, sat_sup, sat_and, sat_fail]; subst hQ)
  (simp only [sySet, reduceCtorEq, forall_const, Int.reduceToNat, Int.reduceAdd, Int.reduceSub, Int.cast_ofNat_Int, Int.toNat_natCast, Nat.le_eq, Nat.sub_eq, ne_eq, Decidable.not_not, implies_true, true_and, and_true, wadd, wsub, wmul, decide_eq_true_eq, decide_eq_false_iff_not, Nat.succ_eq_add_one, imp_false, not_false_eq_true, not_true_eq_false, false_imp_iff, true_imp_iff])
/-- One more value in a row. -/
theorem cv_push (g : Nat → CV) {i q j : Nat} (hq : q < i + 1) (hj : j < 4) :
    sel1 std (nblt q i) (cv1 std (g q) j) (lget .dead [.int .i64 (g i).kd, .int .u64 (g i).nn, .str (g i).tx, .lst 4 (lenV (g i)) (cvIn (g i))] ((q - i) * 4 + j)) = cv1 std (g q) j := by
  by_cases h : q < i
  · rw [blt_t h, show q - i = 0 by omega, Nat.zero_mul, Nat.zero_add]
    match j, hj with
    | 0, _ => rfl
    | 1, _ => rfl
    | 2, _ => rfl
    | 3, _ => rfl
  · have : q = i := by omega
    subst this
    rw [blt_f (by omega), show q - q = 0 by omega, Nat.zero_mul, Nat.zero_add]
    match j, hj with
    | 0, _ => rfl
    | 1, _ => rfl
    | 2, _ => rfl
    | 3, _ => rfl
/-! ### To -/
end Sy
end Go.Proofs.YtckbbcjbbmgmoaaGreatDoor
namespace Go.Proofs.YtckbbcjbbmgmoaaGreatDoor
namespace Sy
open Go Go.RowKit
set_option maxRecDepth 100000
set_option linter.unusedSimpArgs false
set_option linter.unusedVariables false

structure Nd where
  k : Int
  n : Int
  s : List UInt8
  b : List UInt8
def nthD (l : List Nd) (i : Nat) : Nd := l.getD i ⟨0, 0, [], []⟩
/-- What is looked back at: of nodes ahead, by their places from the last one on back. -/
def backs {α : Type} (all : List α) : List UInt8 → List α
  | [] => []
  | x :: b => if h : x.toNat < all.length then all[all.length - 1 - x.toNat] :: backs all b else backs all b
def sumI : List Int → Int
  | [] => 0
  | x :: l => x + sumI l
def sizN (all : List Int) (d : Nd) : Int := 1 + ((d.s.length / 8 : Nat) : Int) + sumI (backs all d.b)
def sizsN (l : List Nd) : Nat → List Int
  | 0 => []
  | i + 1 => sizsN l i ++ [sizN (sizsN l i) (nthD l i)]
def sizD (l : List Nd) (i : Nat) : Int := sizN (sizsN l i) (nthD l i)
def fineD (l : List Nd) (i : Nat) : Prop := sizD l i ≤ 2000 ∧ (nthD l i).s.length ≤ 9000 ∧ (nthD l i).b.length ≤ 20 ∧ l.length ≤ 40
def fineTo (l : List Nd) (i : Nat) : Prop := ∀ j, j < i → fineD l j
instance (l : List Nd) (i : Nat) : Decidable (fineD l i) := by unfold fineD; exact inferInstance
instance (l : List Nd) (i : Nat) : Decidable (fineTo l i) := by unfold fineTo; exact Nat.decidableBallLT i fun j _ => fineD l j
end Sy
end Go.Proofs.YtckbbcjbbmgmoaaGreatDoor
namespace Go.Proofs.YtckbbcjbbmgmoaaGreatDoor
namespace Sy
open Go Go.RowKit
set_option maxRecDepth 100000
set_option linter.unusedSimpArgs false
set_option linter.unusedVariables false

def cb (s : List UInt8) (i : Nat) : Nat := (s.getD i 0).toNat
/-- The number, the bytes it takes, the error: at byte i, n so far. -/
def lng (s : List UInt8) : Nat → Nat → Nat → Nat × Nat × Nat
  | 0, _, _ => (0, 0, 4)
  | f + 1, i, n =>
    if s.length ≤ i then (0, 0, 3)
    else if i = 9 ∧ 1 < cb s i then (0, 0, 4)
    else if 128 ≤ cb s i then lng s f (i + 1) (n + cb s i % 128 * 2 ^ (7 * i))
    else if 0 < cb s i ∨ i = 0 then (n + cb s i % 128 * 2 ^ (7 * i), i + 1, 0)
    else (0, 0, 4)
def lngN (s : List UInt8) : Int := (lng s 10 0 0).1
def lngK (s : List UInt8) : Int := (lng s 10 0 0).2.1
def lngE (s : List UInt8) : Int := (lng s 10 0 0).2.2
end Sy
end Go.Proofs.YtckbbcjbbmgmoaaGreatDoor
namespace Go.Proofs.YtckbbcjbbmgmoaaGreatDoor
namespace Sy
open Go Go.RowKit
set_option maxRecDepth 100000
set_option linter.unusedSimpArgs false
set_option linter.unusedVariables false

structure Lv where
  left : Int
  l : List CV
structure NR where
  v : CV
  r : List UInt8
  e : Int
structure NX where
  st : List Lv
  s : List UInt8
  f : Nat
  v : CV
def nrBad (e : Int) : NR := ⟨.mk 0 0 [] [], [], e⟩
/-- A value is whole: it goes to the list that isn't. -/
def nxtDone (val : List Lv → List UInt8 → NR) : List Lv → CV → List UInt8 → NR
  | [], v, s => ⟨v, s, 0⟩
  | a :: st, v, s => if a.left - 1 = 0 then nxtDone val st (.mk 3 0 [] (a.l ++ [v])) s else val (⟨a.left - 1, a.l ++ [v]⟩ :: st) s
def nxtShut (val : List Lv → List UInt8 → NR) : List Lv → List UInt8 → NR
  | [], s => nrBad 0
  | a :: st, s => if a.left = 0 then nxtDone val st (.mk 3 0 [] a.l) s else val (a :: st) s
def nxtRest (s : List UInt8) : List UInt8 := (s.drop 1).drop (lngK (s.drop 1)).toNat
def nxtVal : Nat → List Lv → List UInt8 → NR
  | 0, _, _ => nrBad 0
  | f + 1, st, s =>
    if s = [] then nrBad 3
    else if cb s 0 < 1 ∨ 3 < cb s 0 then nrBad 10
    else if lngE (s.drop 1) ≠ 0 then nrBad (lngE (s.drop 1))
    else if cb s 0 = 1 then nxtDone (nxtVal f) st (.mk 1 (lngN (s.drop 1)) [] []) (nxtRest s)
    else if cb s 0 = 2 then
      if ((nxtRest s).length : Int) < lngN (s.drop 1) then nrBad 3
      else nxtDone (nxtVal f) st (.mk 2 0 ((nxtRest s).take (lngN (s.drop 1)).toNat) []) ((nxtRest s).drop (lngN (s.drop 1)).toNat)
    else if st.length = 6 then nrBad 8
    else nxtShut (nxtVal f) (⟨lngN (s.drop 1), []⟩ :: st) (nxtRest s)
def nxtTop (s : List UInt8) : NR := if 8192 < s.length then nrBad 5 else nxtVal (s.length + 1) [] s
def sumSt : List Lv → Nat
  | [] => 0
  | a :: r => a.l.length + 1 + sumSt r
def lvOk (st : List Lv) : Prop := ∀ a ∈ st, 1 ≤ a.left ∧ a.left < 18446744073709551616
def nInv1 (s0 : List UInt8) (x : NX) : Prop := x.st.length ≤ 6 ∧ lvOk x.st ∧ x.s.length < x.f ∧ x.s.length + sumSt x.st ≤ 8192 ∧ nxtVal x.f x.st x.s = nxtTop s0
/-! ### what holds from head to head -/
section
variable {s0 s : List UInt8} {st : List Lv} {f : Nat} {v : CV}
variable (h : nInv1 s0 ⟨st, s, f, v⟩)
include h
end
section
variable {s0 s : List UInt8} {st : List Lv} {f : Nat} {v : CV} {a : Lv}
end
end Sy
end Go.Proofs.YtckbbcjbbmgmoaaGreatDoor
namespace Go.Proofs.YtckbbcjbbmgmoaaGreatDoor
namespace Sy
open Go Go.RowKit
set_option maxRecDepth 100000
set_option linter.unusedSimpArgs false
set_option linter.unusedVariables false

theorem cb_at (p : List UInt8) (c : UInt8) (r : List UInt8) : cb (p ++ c :: r) p.length = c.toNat := by
  unfold cb
  rw [List.getD_eq_getElem?_getD, List.getElem?_append_right (Nat.le_refl _), Nat.sub_self]
  rfl
theorem lng_short (r : List UInt8) : ∀ (f m n0 : Nat) (p : List UInt8), f + p.length = 10 → m * 2 ^ (7 * p.length) < 2 ^ 64 → (0 < m ∨ p.length = 0) →
    lng (p ++ (shortL m ++ r)) f p.length n0 = (n0 + m * 2 ^ (7 * p.length), p.length + (shortL m).length, 0)
  | 0, m, n0, p, hf, hm, h0 => by
    have : p.length = 10 := by omega
    rw [this] at hm h0
    have : 2 ^ (7 * 10) ≤ m * 2 ^ (7 * 10) := Nat.le_mul_of_pos_left _ (by omega)
    omega
  | f + 1, m, n0, p, hf, hm, h0 => by
    by_cases hb : 128 ≤ m
    · rw [shortL_big hb]
      have hc : cb (p ++ (UInt8.ofNat (m % 128 + 128) :: shortL (m / 128) ++ r)) p.length = m % 128 + 128 := by
        rw [List.cons_append, cb_at]
        simp; omega
      have h9 : p.length ≠ 9 := by
        intro h
        rw [h] at hm
        have : 128 * 2 ^ (7 * 9) ≤ m * 2 ^ (7 * 9) := Nat.mul_le_mul_right _ hb
        omega
      rw [lng, if_neg (by simp), hc, if_neg (by omega), if_pos (by omega)]
      have e : p ++ (UInt8.ofNat (m % 128 + 128) :: shortL (m / 128) ++ r) = (p ++ [UInt8.ofNat (m % 128 + 128)]) ++ (shortL (m / 128) ++ r) := by simp
      have hl : (p ++ [UInt8.ofNat (m % 128 + 128)]).length = p.length + 1 := by simp
      have hp : 2 ^ (7 * (p.length + 1)) = 128 * 2 ^ (7 * p.length) := by rw [show 7 * (p.length + 1) = 7 + 7 * p.length by omega, Nat.pow_add]
      have hd : m / 128 * (128 * 2 ^ (7 * p.length)) + m % 128 * 2 ^ (7 * p.length) = m * 2 ^ (7 * p.length) := by
        rw [← Nat.mul_assoc, ← Nat.add_mul]
        congr 1; omega
      have ih := lng_short r f (m / 128) (n0 + (m % 128 + 128) % 128 * 2 ^ (7 * p.length)) (p ++ [UInt8.ofNat (m % 128 + 128)]) (by rw [hl]; omega) (by rw [hl, hp]; omega) (.inl (by omega))
      rw [hl] at ih
      rw [e, ih, hp, List.length_cons, show (m % 128 + 128) % 128 = m % 128 by omega]
      refine Prod.ext ?_ (Prod.ext ?_ rfl)
      · show n0 + m % 128 * 2 ^ (7 * p.length) + m / 128 * (128 * 2 ^ (7 * p.length)) = n0 + m * 2 ^ (7 * p.length)
        omega
      · show p.length + 1 + _ = p.length + (_ + 1)
        omega
    · rw [shortL_small (by omega)]
      have hc : cb (p ++ ([UInt8.ofNat m] ++ r)) p.length = m := by
        rw [List.singleton_append, cb_at]
        simp; omega
      have h9 : ¬ (p.length = 9 ∧ 1 < m) := by
        rintro ⟨h, h1⟩
        rw [h] at hm
        have : 2 * 2 ^ (7 * 9) ≤ m * 2 ^ (7 * 9) := Nat.mul_le_mul_right _ h1
        omega
      rw [lng, if_neg (by simp), hc, if_neg h9, if_neg (by omega), if_pos h0, Nat.mod_eq_of_lt (by omega)]
      rfl
theorem lng_of {m : Int} (h : shortOk m) (r : List UInt8) : lngN (shortZ m ++ r) = m ∧ lngK (shortZ m ++ r) = ((shortZ m).length : Int) ∧ lngE (shortZ m ++ r) = 0 := by
  have h0 := h.1
  have h1 := h.2
  have := lng_short r 10 m.toNat 0 [] rfl (by simp; omega) (.inr rfl)
  simp only [List.nil_append, List.length_nil, Nat.zero_add, Nat.mul_zero, Nat.pow_zero, Nat.mul_one] at this
  unfold lngN lngK lngE shortZ
  rw [this]
  refine ⟨?_, rfl, rfl⟩
  show ((m.toNat : Nat) : Int) = m
  omega
/-- A value's head is read. -/
theorem nxt_head {m : Int} (h : shortOk m) (g : Nat) (st : List Lv) (c : UInt8) (r : List UInt8) (hc : 1 ≤ c.toNat ∧ c.toNat ≤ 3) : nxtVal (g + 1) st (c :: (shortZ m ++ r)) =
    if c.toNat = 1 then nxtDone (nxtVal g) st (.mk 1 m [] []) r
    else if c.toNat = 2 then
      if (r.length : Int) < m then nrBad 3
      else nxtDone (nxtVal g) st (.mk 2 0 (r.take m.toNat) []) (r.drop m.toNat)
    else if st.length = 6 then nrBad 8
    else nxtShut (nxtVal g) (⟨m, []⟩ :: st) r := by
  obtain ⟨e1, e2, e3⟩ := lng_of h r
  have hcb : cb (c :: (shortZ m ++ r)) 0 = c.toNat := rfl
  have hr : nxtRest (c :: (shortZ m ++ r)) = r := by
    unfold nxtRest
    rw [List.drop_succ_cons, List.drop_zero, e2]
    simp
  rw [nxtVal, if_neg (by simp), hcb, if_neg (by omega), List.drop_succ_cons, List.drop_zero, e1, e3, hr, if_neg (by simp)]
theorem deep_nn (v : CV) : 0 ≤ deepV v ∧ 0 ≤ deepLs v.ls := by
  have h0 : ∀ b : List CV, 0 ≤ deepLs b := by
    intro b
    induction b with
    | nil => rw [deepLs]; omega
    | cons v l ih => rw [deepLs]; omega
  refine ⟨?_, h0 _⟩
  cases v with
  | mk k n s l =>
    rw [deepV]
    have := h0 l
    split <;> omega
def Reads (v : CV) : Prop := ∀ (st : List Lv) (s : List UInt8) (f : Nat), wfV v → bareV v = true → (st.length : Int) + deepV v ≤ 6 → (textV v).length ≤ 90000000 → (textV v).length + s.length < f →
  ∃ f', s.length < f' ∧ nxtVal f st (textV v ++ s) = nxtDone (nxtVal f') st v s
theorem text_pos (v : CV) : 0 < (textV v).length := by
  cases v with
  | mk k n s l =>
    rw [textV_mk, List.length_append]
    show 0 < 1 + _
    omega
theorem texts_len : ∀ l : List CV, l.length ≤ (textLs l).length
  | [] => by simp
  | v :: l => by
    have := texts_len l
    have := text_pos v
    rw [textLs, List.length_append, List.length_cons]
    omega
theorem nxt_list (st : List Lv) (s : List UInt8) : ∀ (l : List CV) (acc : List CV) (f : Nat), (∀ w ∈ l, Reads w) → wfLs l → bareLs l = true → (st.length : Int) + 1 + deepLs l ≤ 6 → (textLs l).length ≤ 90000000 → (textLs l).length + s.length < f →
    ∃ f', s.length < f' ∧ nxtShut (nxtVal f) (⟨(l.length : Int), acc⟩ :: st) (textLs l ++ s) = nxtDone (nxtVal f') st (.mk 3 0 [] (acc ++ l)) s
  | [], acc, f, hr, hw, hb, hd, ht, hf => by
    refine ⟨f, by rw [textLs] at hf; simpa using hf, ?_⟩
    rw [nxtShut, if_pos (show ((List.length ([] : List CV) : Nat) : Int) = 0 from rfl), textLs, List.nil_append, List.append_nil]
  | v :: l, acc, f, hr, hw, hb, hd, ht, hf => by
    rw [wfLs] at hw
    rw [bareLs, Bool.and_eq_true] at hb
    rw [deepLs] at hd
    rw [textLs, List.length_append] at ht hf
    obtain ⟨f1, h1, e1⟩ := hr v (by simp) (⟨((v :: l).length : Int), acc⟩ :: st) (textLs l ++ s) f hw.1 hb.1 (by rw [List.length_cons]; omega) (by omega) (by rw [List.length_append]; omega)
    rw [List.length_append] at h1
    obtain ⟨f2, h2, e2⟩ := nxt_list st s l (acc ++ [v]) f1 (fun w hw => hr w (by simp [hw])) hw.2 hb.2 (by omega) (by omega) h1
    refine ⟨f2, h2, ?_⟩
    rw [nxtShut, if_neg (by simp; omega), textLs, List.append_assoc, e1]
    have e3 : (((v :: l).length : Int) - 1) = (l.length : Int) := by simp
    rw [nxtShut] at e2
    rw [nxtDone]
    simp only [e3]
    rw [e2, List.append_assoc, List.singleton_append]
theorem reads (v : CV) : Reads v := by
  refine cv_all (p := Reads) (fun k n s l ih => ?_) v
  intro st r f hw hb hd ht hf
  rw [wfV] at hw
  obtain ⟨g, rfl⟩ : ∃ g, f = g + 1 := ⟨f - 1, by omega⟩
  rw [textV_mk] at ht hf ⊢
  rw [bareV] at hb
  by_cases h1 : k = 1
  · subst h1
    rw [if_pos rfl] at hb ht hf ⊢
    simp only [Bool.and_eq_true, decide_eq_true_eq, List.isEmpty_iff] at hb
    obtain ⟨rfl, rfl⟩ := hb
    rw [List.length_append] at hf
    have e : byteK 1 = [1] := rfl
    rw [e] at hf ⊢
    refine ⟨g, by simp at hf; omega, ?_⟩
    rw [List.singleton_append, List.cons_append, nxt_head hw.1 g st 1 r (by decide)]
    rfl
  · rw [if_neg h1] at hb ht hf ⊢
    by_cases h2 : k = 2
    · subst h2
      rw [if_pos rfl] at hb ht hf ⊢
      simp only [Bool.and_eq_true, decide_eq_true_eq, List.isEmpty_iff] at hb
      obtain ⟨rfl, rfl⟩ := hb
      rw [List.length_append, List.length_append] at ht hf
      have e : byteK 2 = [2] := rfl
      rw [e] at hf ⊢
      refine ⟨g, by simp at hf; omega, ?_⟩
      rw [List.singleton_append, List.cons_append, List.append_assoc, nxt_head ⟨by omega, by omega⟩ g st 2 (s ++ r) (by decide)]
      rw [if_neg (by decide), if_pos (by decide), if_neg (by simp; omega)]
      rw [Int.toNat_natCast, List.take_left, List.drop_left]
    · rw [if_neg h2] at hb ht hf ⊢
      by_cases h3 : k = 3
      · subst h3
        rw [if_pos rfl] at hb
        simp only [Bool.and_eq_true, decide_eq_true_eq] at hb
        obtain ⟨⟨rfl, rfl⟩, hb⟩ := hb
        rw [deepV, if_pos rfl] at hd
        rw [List.length_append, List.length_append] at ht hf
        have e : byteK 3 = [3] := rfl
        rw [e] at hf ⊢
        have hll := texts_len l
        have hdn := (deep_nn (.mk 3 0 [] l)).2
        have hdn : 0 ≤ deepLs l := hdn
        obtain ⟨f', h5, h6⟩ := nxt_list st r l [] g ih hw.2.2 hb (by omega) (by omega) (by simp at hf; omega)
        refine ⟨f', h5, ?_⟩
        rw [List.singleton_append, List.cons_append, List.append_assoc, nxt_head ⟨by omega, by omega⟩ g st 3 (textLs l ++ r) (by decide)]
        rw [if_neg (by decide), if_neg (by decide), if_neg (by omega), h6, List.nil_append]
      · rw [if_neg h3] at hb; cases hb
/-- What is written is read as it was. -/
theorem next_of {v : CV} (hw : wfV v) (hb : bareV v = true) (hd : deepV v ≤ 6) {s : List UInt8} (hl : (textV v).length + s.length ≤ 8192) : nxtTop (textV v ++ s) = ⟨v, s, 0⟩ := by
  unfold nxtTop
  rw [if_neg (by rw [List.length_append]; omega)]
  obtain ⟨f', h1, h2⟩ := reads v [] s ((textV v ++ s).length + 1) hw hb (by simp; exact hd) (by omega) (by rw [List.length_append]; exact Nat.lt_succ_self _)
  rw [h2, nxtDone]
end Sy
end Go.Proofs.YtckbbcjbbmgmoaaGreatDoor
namespace Go.Proofs.YtckbbcjbbmgmoaaGreatDoor
namespace Sy
open Go Go.RowKit
set_option maxRecDepth 100000
set_option linter.unusedSimpArgs false
set_option linter.unusedVariables false

theorem put_ok {v : CV} (h : putE v = 0) : bareV v = true ∧ deepV v ≤ 6 ∧ (textV v).length ≤ 8192 ∧ putT v = textV v := by
  have ht : putT v = textV v := by unfold putT; rw [if_pos h]
  unfold putE at h
  split at h
  · rename_i h1
    split at h
    · cases h
    · rename_i h2
      split at h
      · cases h
      · rename_i h3
        exact ⟨h1, by omega, by omega, ht⟩
  · cases h
end Sy
end Go.Proofs.YtckbbcjbbmgmoaaGreatDoor
namespace Go.Proofs.YtckbbcjbbmgmoaaGreatDoor
namespace Sy
open Go Go.RowKit
set_option maxRecDepth 100000
set_option linter.unusedSimpArgs false
set_option linter.unusedVariables false

theorem rd_cells {n : Nat} {get : Nat → Nat → AV} {l : List CV} (hn : n = l.length) (h : ∀ i j, i < n → j < 4 → get i j = cvCell (nthV l i) j) : rdL (.lst 4 n get) = l ∧ okL (.lst 4 n get) := by
  constructor
  · apply List.ext_getElem
    · rw [rd_len, hn]
    · intro i h1 h2
      have hi : i < n := by omega
      have e : ∀ m : List CV, ∀ hm : i < m.length, m[i] = nthV m i := fun m hm => by rw [nthV, List.getD_eq_getElem?_getD, List.getElem?_eq_getElem hm]; rfl
      rw [e _ h1, e _ h2, rd_nth hi, h i 0 hi (by omega), h i 1 hi (by omega), h i 2 hi (by omega), h i 3 hi (by omega), cvCell_0, cvCell_1, cvCell_2, cvCell_3]
      show CV.mk _ _ _ (rdL (.lst 4 (lenV (nthV l i)) (cvIn (nthV l i)))) = _
      exact mk_parts _
  · refine ⟨rfl, fun i hi => ?_⟩
    rw [h i 0 hi (by omega), h i 1 hi (by omega), h i 2 hi (by omega), h i 3 hi (by omega), cvCell_0, cvCell_1, cvCell_2, cvCell_3]
    exact ⟨⟨_, rfl⟩, ⟨_, rfl⟩, ⟨_, rfl⟩, (rd_in (nthV l i)).2⟩
end Sy
end Go.Proofs.YtckbbcjbbmgmoaaGreatDoor
namespace Go.Proofs.YtckbbcjbbmgmoaaGreatDoor
namespace Sy
open Go Go.RowKit
set_option maxRecDepth 100000
set_option linter.unusedSimpArgs false
set_option linter.unusedVariables false

/-! ### A struct that is an argument, told by its view -/
def okG {α : Type} (V : Vw α) : AV → Prop
  | .agg cs => cs.length = V.sz ∧ V.ok (fun j => lget .dead cs j)
  | _ => False
def rdG {α : Type} (V : Vw α) : AV → α
  | .agg cs => V.rd (fun j => lget .dead cs j)
  | _ => V.d
theorem lget_is (cs : List AV) (j : Nat) : lget .dead cs j = (cs[j]?).getD .dead := by
  induction cs generalizing j with
  | nil => cases j <;> rfl
  | cons x l ih => cases j with
    | zero => rfl
    | succ j => exact ih j
theorem gK {α : Type} {V : Vw α} (K : VwOk V) (x : α) (cs : List AV) (h : cs = (List.range V.sz).map (V.cell std x)) : okG V (.agg cs) ∧ rdG V (.agg cs) = x := by
  have h1 : ∀ j, j < V.sz → lget .dead cs j = V.cell std x j := fun j hj => by rw [lget_is, h]; simp [hj]
  have h2 := K.back _ x h1
  exact ⟨⟨by simp [h], h2.1⟩, h2.2⟩
theorem G_R {α : Type} {V : Vw α} (K : VwOk V) {x : AV} (ho : okG V x) {h : Array Obj} {D : Nat → Prop} {μ : Mu} {v : Value} (r : R h D μ x v) : R h D μ (.agg ((List.range V.sz).map (V.cell std (rdG V x)))) v := by
  match x, ho with
  | .agg cs, ho =>
    obtain ⟨us, rfl, o1, s1, hr⟩ := r.inv_agg
    refine .agg _ _ (by rw [← s1]; simp [ho.1]) o1 fun i y w hy hw => ?_
    have hi : i < V.sz := by
      have := (List.getElem?_eq_some_iff.1 hy).1
      simpa using this
    simp [hi] at hy
    subst hy
    have hc : cs[i]? = some (lget .dead cs i) := by
      rw [lget_is, List.getElem?_eq_getElem (by rw [ho.1]; exact hi)]; rfl
    exact K.turn _ ho.2 i hi _ _ _ _ (hr i _ w hc hw)
theorem ac_g {α : Type} {V : Vw α} (K : VwOk V) {P : Program} {f : FuncId} {x r : AV} {q : List AV} (ho : okG V x) (h : ACalls P f (.agg ((List.range V.sz).map (V.cell std (rdG V x))) :: q) r) : ACalls P f (x :: q) r :=
  ac_args' (fun h D vs hr => rl_1 (fun v => G_R K ho) hr) h
structure Rt where
  h : List UInt8
  p : List UInt8
  c : List UInt8
  i : Int
  deriving DecidableEq
structure Ep where
  pl : Pl
  w : Int
  deriving DecidableEq
structure Ls where
  n : List UInt8
  pl : Pl
  rs : List Rt
  deriving DecidableEq
structure Cl where
  n : List UInt8
  es : List Ep
  deriving DecidableEq
structure Cf where
  v : Int
  ls : List Ls
  cs : List Cl
  deriving DecidableEq
def plC (L : Seal) (x : Pl) : Nat → AV
  | 0 => .int .u8 (L Pl.a x)
  | 1 => .int .u8 (L Pl.b x)
  | 2 => .int .u8 (L Pl.c x)
  | 3 => .int .u8 (L Pl.d x)
  | _ => .int .u16 (L Pl.p x)
def rdP (c : Nat → AV) : Pl := ⟨(c 0).toI, (c 1).toI, (c 2).toI, (c 3).toI, (c 4).toI⟩
def okP5 (c : Nat → AV) : Prop := isI .u8 (c 0) ∧ isI .u8 (c 1) ∧ isI .u8 (c 2) ∧ isI .u8 (c 3) ∧ isI .u16 (c 4)
def rtC (L : Seal) (x : Rt) : Nat → AV
  | 0 => .str (L Rt.h x)
  | 1 => .str (L Rt.p x)
  | 2 => .str (L Rt.c x)
  | _ => .int .u64 (L Rt.i x)
def rtV : Vw Rt := ⟨4, rtC, fun c => ⟨rdSt (c 0), rdSt (c 1), rdSt (c 2), (c 3).toI⟩, fun c => isS (c 0) ∧ isS (c 1) ∧ isS (c 2) ∧ isI .u64 (c 3), ⟨[], [], [], 0⟩⟩
def nthRt (l : List Rt) (i : Nat) : Rt := nthW rtV l i
def lstRt (L : Seal) (l : List Rt) : AV := .lst 4 (L lenW l) (fun i => rtC L (L (L nthRt l) i))
def okWRt (x : AV) : Prop := okW rtV x
def rdWRt (x : AV) : List Rt := rdW rtV x
def okGRt (x : AV) : Prop := okG rtV x
def rdGRt (x : AV) : Rt := rdG rtV x
def epC (L : Seal) (x : Ep) : Nat → AV
  | 5 => .int .i64 (L Ep.w x)
  | j => plC L (L Ep.pl x) j
def epV : Vw Ep := ⟨6, epC, fun c => ⟨rdP c, (c 5).toI⟩, fun c => okP5 c ∧ isI .i64 (c 5), ⟨⟨0, 0, 0, 0, 0⟩, 0⟩⟩
def nthEp (l : List Ep) (i : Nat) : Ep := nthW epV l i
def lstEp (L : Seal) (l : List Ep) : AV := .lst 6 (L lenW l) (fun i => epC L (L (L nthEp l) i))
def okWEp (x : AV) : Prop := okW epV x
def rdWEp (x : AV) : List Ep := rdW epV x
def okGEp (x : AV) : Prop := okG epV x
def rdGEp (x : AV) : Ep := rdG epV x
def lsC (L : Seal) (x : Ls) : Nat → AV
  | 0 => .str (L Ls.n x)
  | 6 => lstRt L (L Ls.rs x)
  | j + 1 => plC L (L Ls.pl x) j
def lsV : Vw Ls := ⟨7, lsC, fun c => ⟨rdSt (c 0), rdP (fun j => c (j + 1)), rdW rtV (c 6)⟩, fun c => isS (c 0) ∧ okP5 (fun j => c (j + 1)) ∧ okW rtV (c 6), ⟨[], ⟨0, 0, 0, 0, 0⟩, []⟩⟩
def nthLs (l : List Ls) (i : Nat) : Ls := nthW lsV l i
def lstLs (L : Seal) (l : List Ls) : AV := .lst 7 (L lenW l) (fun i => lsC L (L (L nthLs l) i))
def okWLs (x : AV) : Prop := okW lsV x
def rdWLs (x : AV) : List Ls := rdW lsV x
def okGLs (x : AV) : Prop := okG lsV x
def rdGLs (x : AV) : Ls := rdG lsV x
def clC (L : Seal) (x : Cl) : Nat → AV
  | 0 => .str (L Cl.n x)
  | _ => lstEp L (L Cl.es x)
def clV : Vw Cl := ⟨2, clC, fun c => ⟨rdSt (c 0), rdW epV (c 1)⟩, fun c => isS (c 0) ∧ okW epV (c 1), ⟨[], []⟩⟩
def nthCl (l : List Cl) (i : Nat) : Cl := nthW clV l i
def lstCl (L : Seal) (l : List Cl) : AV := .lst 2 (L lenW l) (fun i => clC L (L (L nthCl l) i))
def okWCl (x : AV) : Prop := okW clV x
def rdWCl (x : AV) : List Cl := rdW clV x
def okGCl (x : AV) : Prop := okG clV x
def rdGCl (x : AV) : Cl := rdG clV x
def cfC (L : Seal) (x : Cf) : Nat → AV
  | 0 => .int .u64 (L Cf.v x)
  | 1 => lstLs L (L Cf.ls x)
  | _ => lstCl L (L Cf.cs x)
def cfV : Vw Cf := ⟨3, cfC, fun c => ⟨(c 0).toI, rdW lsV (c 1), rdW clV (c 2)⟩, fun c => isI .u64 (c 0) ∧ okW lsV (c 1) ∧ okW clV (c 2), ⟨0, [], []⟩⟩
def okGCf (x : AV) : Prop := okG cfV x
def rdGCf (x : AV) : Cf := rdG cfV x
theorem rtV_ok : VwOk rtV := by
  refine ⟨fun c hc j hj h D μ v r => ?_, fun c x hx => ?_⟩
  · obtain ⟨h0, h1, h2, h3⟩ := hc
    match j, hj with
    | 0, _ => exact isS_R h0 r
    | 1, _ => exact isS_R h1 r
    | 2, _ => exact isS_R h2 r
    | 3, _ => exact isI_R h3 r
  · have e0 := hx 0 (by decide)
    have e1 := hx 1 (by decide)
    have e2 := hx 2 (by decide)
    have e3 := hx 3 (by decide)
    refine ⟨⟨⟨_, e0⟩, ⟨_, e1⟩, ⟨_, e2⟩, ⟨_, e3⟩⟩, ?_⟩
    show Rt.mk (rdSt (c 0)) (rdSt (c 1)) (rdSt (c 2)) (c 3).toI = x
    rw [e0, e1, e2, e3]; rfl
theorem pl_turn {c : Nat → AV} (hc : okP5 c) {j : Nat} (hj : j < 5) {h : Array Obj} {D : Nat → Prop} {μ : Mu} {v : Value} (r : R h D μ (c j) v) : R h D μ (plC std (rdP c) j) v := by
  obtain ⟨h0, h1, h2, h3, h4⟩ := hc
  match j, hj with
  | 0, _ => exact isI_R h0 r
  | 1, _ => exact isI_R h1 r
  | 2, _ => exact isI_R h2 r
  | 3, _ => exact isI_R h3 r
  | 4, _ => exact isI_R h4 r
theorem pl_back {c : Nat → AV} {x : Pl} (hx : ∀ j, j < 5 → c j = plC std x j) : okP5 c ∧ rdP c = x := by
  have e0 := hx 0 (by decide)
  have e1 := hx 1 (by decide)
  have e2 := hx 2 (by decide)
  have e3 := hx 3 (by decide)
  have e4 := hx 4 (by decide)
  refine ⟨⟨⟨_, e0⟩, ⟨_, e1⟩, ⟨_, e2⟩, ⟨_, e3⟩, ⟨_, e4⟩⟩, ?_⟩
  unfold rdP
  rw [e0, e1, e2, e3, e4]; rfl
theorem epV_ok : VwOk epV := by
  refine ⟨fun c hc j hj h D μ v r => ?_, fun c x hx => ?_⟩
  · obtain ⟨h0, h1⟩ := hc
    match j, hj with
    | 0, _ => exact pl_turn h0 (by omega) r
    | 1, _ => exact pl_turn h0 (by omega) r
    | 2, _ => exact pl_turn h0 (by omega) r
    | 3, _ => exact pl_turn h0 (by omega) r
    | 4, _ => exact pl_turn h0 (by omega) r
    | 5, _ => exact isI_R h1 r
  · have e5 := hx 5 (by decide)
    have hp := pl_back (c := c) (x := x.pl) (fun j hj => by
      match j, hj with
      | 0, _ => exact hx 0 (by decide)
      | 1, _ => exact hx 1 (by decide)
      | 2, _ => exact hx 2 (by decide)
      | 3, _ => exact hx 3 (by decide)
      | 4, _ => exact hx 4 (by decide))
    refine ⟨⟨hp.1, ⟨_, e5⟩⟩, ?_⟩
    show Ep.mk (rdP c) (c 5).toI = x
    rw [hp.2, e5]; rfl
theorem lsV_ok : VwOk lsV := by
  refine ⟨fun c hc j hj h D μ v r => ?_, fun c x hx => ?_⟩
  · obtain ⟨h0, h1, h2⟩ := hc
    match j, hj with
    | 0, _ => exact isS_R h0 r
    | 1, _ => exact pl_turn (c := fun j => c (j + 1)) h1 (j := 0) (by omega) r
    | 2, _ => exact pl_turn (c := fun j => c (j + 1)) h1 (j := 1) (by omega) r
    | 3, _ => exact pl_turn (c := fun j => c (j + 1)) h1 (j := 2) (by omega) r
    | 4, _ => exact pl_turn (c := fun j => c (j + 1)) h1 (j := 3) (by omega) r
    | 5, _ => exact pl_turn (c := fun j => c (j + 1)) h1 (j := 4) (by omega) r
    | 6, _ => exact okW_R rtV_ok h2 r
  · have e0 := hx 0 (by decide)
    have e6 := hx 6 (by decide)
    have hp := pl_back (c := fun j => c (j + 1)) (x := x.pl) (fun j hj => by
      match j, hj with
      | 0, _ => exact hx 1 (by decide)
      | 1, _ => exact hx 2 (by decide)
      | 2, _ => exact hx 3 (by decide)
      | 3, _ => exact hx 4 (by decide)
      | 4, _ => exact hx 5 (by decide))
    have e6 : c 6 = lstW std rtV x.rs := e6
    obtain ⟨k1, k2⟩ := rdW_lst rtV_ok x.rs
    rw [← e6] at k1 k2
    refine ⟨⟨⟨_, e0⟩, hp.1, k1⟩, ?_⟩
    show Ls.mk (rdSt (c 0)) (rdP fun j => c (j + 1)) (rdW rtV (c 6)) = x
    rw [hp.2, k2, e0]; rfl
theorem clV_ok : VwOk clV := by
  refine ⟨fun c hc j hj h D μ v r => ?_, fun c x hx => ?_⟩
  · obtain ⟨h0, h1⟩ := hc
    match j, hj with
    | 0, _ => exact isS_R h0 r
    | 1, _ => exact okW_R epV_ok h1 r
  · have e0 := hx 0 (by decide)
    have e1 : c 1 = lstW std epV x.es := hx 1 (by decide)
    obtain ⟨k1, k2⟩ := rdW_lst epV_ok x.es
    rw [← e1] at k1 k2
    refine ⟨⟨⟨_, e0⟩, k1⟩, ?_⟩
    show Cl.mk (rdSt (c 0)) (rdW epV (c 1)) = x
    rw [k2, e0]; rfl
theorem cfV_ok : VwOk cfV := by
  refine ⟨fun c hc j hj h D μ v r => ?_, fun c x hx => ?_⟩
  · obtain ⟨h0, h1, h2⟩ := hc
    match j, hj with
    | 0, _ => exact isI_R h0 r
    | 1, _ => exact okW_R lsV_ok h1 r
    | 2, _ => exact okW_R clV_ok h2 r
  · have e0 := hx 0 (by decide)
    have e1 : c 1 = lstW std lsV x.ls := hx 1 (by decide)
    have e2 : c 2 = lstW std clV x.cs := hx 2 (by decide)
    obtain ⟨k1, k2⟩ := rdW_lst lsV_ok x.ls
    obtain ⟨k3, k4⟩ := rdW_lst clV_ok x.cs
    rw [← e1] at k1 k2
    rw [← e2] at k3 k4
    refine ⟨⟨⟨_, e0⟩, k1, k3⟩, ?_⟩
    show Cf.mk (c 0).toI (rdW lsV (c 1)) (rdW clV (c 2)) = x
    rw [k2, k4, e0]; rfl
end Sy
end Go.Proofs.YtckbbcjbbmgmoaaGreatDoor
namespace Go.Proofs.YtckbbcjbbmgmoaaGreatDoor
namespace Sy
open Go Go.RowKit
set_option maxRecDepth 100000
set_option linter.unusedSimpArgs false
set_option linter.unusedVariables false

/-- A function that makes a value of a struct. -/
def valS {α : Type} (f : Nat) (ok : AV → Prop) (rd : AV → α) (pre : α → Prop) (val : α → CV) (L : Seal) : Ent1 := (f, fun xs => match xs with
  | [x] => some (L ok x ∧ L pre (L rd x), cvA L (L val (L rd x)))
  | _ => none)
def lenE {α : Type} (l : List α) : Prop := l.length ≤ 1000000
def allE {α : Type} (p : α → Prop) (l : List α) : Prop := ∀ x ∈ l, p x
def eachV {α : Type} (val : α → CV) (l : List α) : CV := rowV (l.map val)
/-- The value of a list of structs. -/
def eachS {α : Type} (f g : Nat) (ok : AV → Prop) (rd : AV → List α) (pre : List α → Prop) (val : List α → CV) (L : Seal) : Ent1 := (f, fun xs => match xs with
  | [x, .fn k [] []] => match nbeq k g with
    | true => some (L ok x ∧ L lenE (L rd x) ∧ L pre (L rd x), cvA L (L val (L rd x)))
    | false => none
  | _ => none)
def eachA {α : Type} (L : Seal) (nth : List α → Nat → α) (val : α → CV) (l : List α) : Nat → St → Option Ann := fun id st => match id with
  | 0 => some ⟨Nat, fun i => [(10, .int .i64 (L natI i)), (4, .ref 4 0), (5, .sl 900 4 0 i)], fun i => [(900, .row 119 4 i (fun q j => cv1 L (L val (L (L nth l) q)) j)), (4, .box 119 [.dead, .dead, .dead, .dead])], [0, 1, 8, 9], [],
      fun i => L2 L (fun (l : List α) i => i ≤ l.length) l i, fun i => L2 L (fun (l : List α) (i : Nat) => l.length - i) l i⟩
  | _ => none
theorem nthV_map {α : Type} {V : Vw α} (val : α → CV) {l : List α} {i : Nat} (h : i < l.length) : nthV (l.map val) i = val (nthW V l i) := by
  rw [nthW_at h, nthV, List.getD_eq_getElem?_getD, List.getElem?_eq_getElem (by simpa using h)]; simp
theorem each_end {α : Type} {V : Vw α} {val : α → CV} {l : List α} {n : Nat} (h : n = l.length) :
    rdL (.lst 4 n fun q j => cv1 std (val (nthW V l q)) j) = l.map val ∧ okL (.lst 4 n fun q j => cv1 std (val (nthW V l q)) j) :=
  rd_cells (by simpa using h) fun i j hi hj => by rw [cv1_std _ _ hj, nthV_map (V := V) val (by omega)]
def rtVal (x : Rt) : CV := rowV [txtV x.h, txtV x.p, txtV x.c, numV x.i]
def epVal (x : Ep) : CV := rowV [txtV (plB x.pl), numV (x.w % 18446744073709551616)]
def rtPre (x : Rt) : Prop := True
def epPre (x : Ep) : Prop := plOk x.pl
def rtsVal (l : List Rt) : CV := eachV rtVal l
def epsVal (l : List Ep) : CV := eachV epVal l
def rtsPre (l : List Rt) : Prop := allE rtPre l
def epsPre (l : List Ep) : Prop := allE epPre l
def cells4 : List CV → List AV
  | [] => []
  | v :: l => .int .i64 v.kd :: .int .u64 v.nn :: .str v.tx :: .lst 4 (lenV v) (cvIn v) :: cells4 l
theorem cells4_at : ∀ (l : List CV) (i j : Nat), i < l.length → j < 4 → lget .dead (cells4 l) (i * 4 + j) = cvCell (nthV l i) j
  | [], i, j, hi, _ => by simp at hi
  | v :: l, 0, j, _, hj => by
    match j, hj with
    | 0, _ => exact (cvCell_0 v).symm
    | 1, _ => exact (cvCell_1 v).symm
    | 2, _ => exact (cvCell_2 v).symm
    | 3, _ => exact (cvCell_3 v).symm
  | v :: l, i + 1, j, hi, hj => by
    rw [show (i + 1) * 4 + j = i * 4 + j + 4 by omega]
    exact cells4_at l i j (by simpa using hi) hj
/-- Some values, one by one. -/
theorem cells4_rd (l : List CV) {n : Nat} {cs : List AV} (hn : n = l.length) (h : cs = cells4 l) : rdL (.lst 4 n fun i j => lget .dead cs (i * 4 + j)) = l ∧ okL (.lst 4 n fun i j => lget .dead cs (i * 4 + j)) :=
  rd_cells hn fun i j hi hj => by rw [h]; exact cells4_at l i j (by omega) hj
theorem cv_fit {v w : CV} (h : v = w) : fits (cvA std v) (.agg [.int .i64 w.kd, .int .u64 w.nn, .str w.tx, .lst 4 (lenV w) (cvIn w)]) := by
  subst h
  show fits (.agg [.int .i64 v.kd, .int .u64 v.nn, .str v.tx, .lst 4 (lenV v) (cvIn v)]) _
  simp [fits_aggi, fits1_aggi, fits1_aggs, fits1_aggl, fits1_agg0]
theorem row_fit (l : List CV) {v : CV} {n : Nat} {cs : List AV} (hv : v = rowV l) (hn : n = l.length) (hl : l.length ≤ 4) (h : cs = cells4 l) :
    (okL (.lst 4 n fun i j => lget .dead cs (i * 4 + j)) ∧ lenOk (rdL (.lst 4 n fun i j => lget .dead cs (i * 4 + j)))) ∧
    ∀ {w : CV}, w = rowV (rdL (.lst 4 n fun i j => lget .dead cs (i * 4 + j))) → fits (cvA std v) (.agg [.int .i64 w.kd, .int .u64 w.nn, .str w.tx, .lst 4 (lenV w) (cvIn w)]) := by
  obtain ⟨k1, k2⟩ := cells4_rd l hn h
  refine ⟨⟨k2, ?_⟩, fun {w} hw => cv_fit ?_⟩
  · rw [k1]
    show l.length ≤ 1000000
    omega
  · rw [hw, k1, hv]
theorem route_good : Good Tryz.prog (valS 120 okGRt rdGRt rtPre rtVal std) := by
  intro xs p r h hp
  dsimp only [valS] at h ⊢
  split at h <;> cases h
  try simp only [L2, L3, std] at hp ⊢
  rename_i x
  refine ac_g rtV_ok hp.1 ?_
  have hp := hp.2
  show ACalls _ _ _ (cvA std (rtVal (rdG rtV x)))
  have hp : rtPre (rdG rtV x) := hp
  generalize rdG rtV x = y at hp ⊢
  refine acalls_L' (T := tt) (S := fun L => sumOf [txt_s L, num_s L, list_s L]) (lo := fun _ => noA std) (lb := noA) 5 (fn := Tryz.f120) (xs := fun L => [.agg [.str (L Rt.h y), .str (L Rt.p y), .str (L Rt.c y), .int .u64 (L Rt.i y)]]) rfl rfl (by kernel_rfl) (by kernel_rfl) rfl tt_ok (sumOf_ok ⟨txt_good, num_good, list_good, trivial⟩) (by kernel_rfl) ?_
  intro L P' Q' hL hP hQ
  (cbv; try simp only [sat_need, sat_must, sat_ite, sat_done, sat_yes, sat_ex, sat_all, sat_sup, sat_and, sat_fail, true_and, and_true])
  (subst hL; subst hQ; simp only [L2, L3, std] at *; try simp only [sySet, reduceCtorEq, forall_const, Int.reduceToNat, Int.reduceAdd, Int.reduceSub, Int.cast_ofNat_Int, Int.toNat_natCast, Nat.le_eq, Nat.sub_eq, ne_eq, Decidable.not_not, implies_true, true_and, and_true, wadd, wsub, wmul, decide_eq_true_eq, decide_eq_false_iff_not, Nat.succ_eq_add_one, imp_false, not_false_eq_true, not_true_eq_false, false_imp_iff, true_imp_iff] at *)
  exact ⟨(row_fit [txtV y.h, txtV y.p, txtV y.c, numV y.i] (v := rtVal y) (n := 4) rfl rfl (Nat.le_of_ble_eq_true rfl) rfl).1, (row_fit [txtV y.h, txtV y.p, txtV y.c, numV y.i] (v := rtVal y) (n := 4) rfl rfl (Nat.le_of_ble_eq_true rfl) rfl).2 rfl⟩
theorem endpoint_good : Good Tryz.prog (valS 122 okGEp rdGEp epPre epVal std) := by
  intro xs p r h hp
  dsimp only [valS] at h ⊢
  split at h <;> cases h
  try simp only [L2, L3, std] at hp ⊢
  rename_i x
  refine ac_g epV_ok hp.1 ?_
  have hp := hp.2
  show ACalls _ _ _ (cvA std (epVal (rdG epV x)))
  have hp : epPre (rdG epV x) := hp
  generalize rdG epV x = y at hp ⊢
  refine acalls_L' (T := tt) (S := fun L => sumOf [txt_s L, num_s L, list_s L, bytes_s L]) (lo := fun _ => noA std) (lb := noA) 5 (fn := Tryz.f122) (xs := fun L => [.agg [.int .u8 (L Pl.a (L Ep.pl y)), .int .u8 (L Pl.b (L Ep.pl y)), .int .u8 (L Pl.c (L Ep.pl y)), .int .u8 (L Pl.d (L Ep.pl y)), .int .u16 (L Pl.p (L Ep.pl y)), .int .i64 (L Ep.w y)]]) rfl rfl (by kernel_rfl) (by kernel_rfl) rfl tt_ok (sumOf_ok ⟨txt_good, num_good, list_good, bytes_good, trivial⟩) (by kernel_rfl) ?_
  intro L P' Q' hL hP hQ
  (cbv; try simp only [sat_need, sat_must, sat_ite, sat_done, sat_yes, sat_ex, sat_all, sat_sup, sat_and, sat_fail, true_and, and_true])
  (subst hL; subst hQ; simp only [L2, L3, std] at *; try simp only [sySet, reduceCtorEq, forall_const, Int.reduceToNat, Int.reduceAdd, Int.reduceSub, Int.cast_ofNat_Int, Int.toNat_natCast, Nat.le_eq, Nat.sub_eq, ne_eq, Decidable.not_not, implies_true, true_and, and_true, wadd, wsub, wmul, decide_eq_true_eq, decide_eq_false_iff_not, Nat.succ_eq_add_one, imp_false, not_false_eq_true, not_true_eq_false, false_imp_iff, true_imp_iff] at *)
  refine ⟨hp, (row_fit [txtV (plB y.pl), numV (y.w % 18446744073709551616)] (v := epVal y) (n := 2) rfl rfl (Nat.le_of_ble_eq_true rfl) rfl).1, (row_fit [txtV (plB y.pl), numV (y.w % 18446744073709551616)] (v := epVal y) (n := 2) rfl rfl (Nat.le_of_ble_eq_true rfl) rfl).2 rfl⟩
theorem eachRt_good (ih : Good Tryz.prog (valS 120 okGRt rdGRt rtPre rtVal std)) : Good Tryz.prog (eachS 119 120 okWRt rdWRt rtsPre rtsVal std) := by
  intro xs p r h hp
  unfold eachS at h
  simp only at h
  split at h
  rotate_left
  · cases h
  rename_i x k
  cases hk : nbeq k 120 with
  | false => rw [hk] at h; cases h
  | true =>
  rw [hk] at h
  obtain rfl : k = 120 := of_decide_eq_true hk
  cases h
  obtain ⟨ho, hz, ha⟩ := hp
  refine ac_w1 rtV_ok ho ?_
  have hz : lenE (rdW rtV x) := hz
  have ha : allE rtPre (rdW rtV x) := ha
  show ACalls _ _ _ (cvA std (eachV rtVal (rdW rtV x)))
  generalize rdW rtV x = l at hz ha ⊢
  refine acalls_L' (T := tt) (S := fun L => sumOf [valS 120 okGRt rdGRt rtPre rtVal L, list_s L]) (lo := fun L => eachA L nthRt rtVal l) (lb := noA) 5 (fn := Tryz.f119) (xs := fun L => [lstRt L l, .fn 120 [] []]) rfl rfl (by kernel_rfl) (by kernel_rfl) rfl tt_ok
    (sumOf_ok ⟨ih, list_good, trivial⟩) (by kernel_rfl) ?_
  intro L P' Q' hL hP hQ
  (cbv; try simp only [sat_need, sat_must, sat_ite, sat_done, sat_yes, sat_ex, sat_all, sat_sup, sat_and, sat_fail, true_and, and_true])
  refine ⟨⟨0, ?_⟩, fun i hi => ?_⟩
  · (cbv; try simp only [sat_need, sat_must, sat_ite, sat_done, sat_yes, sat_ex, sat_all, sat_sup, sat_and, sat_fail, true_and, and_true])
    (subst hL; subst hQ; simp only [L2, L3, std] at *; try simp only [sySet, reduceCtorEq, forall_const, Int.reduceToNat, Int.reduceAdd, Int.reduceSub, Int.cast_ofNat_Int, Int.toNat_natCast, Nat.le_eq, Nat.sub_eq, ne_eq, Decidable.not_not, implies_true, true_and, and_true, wadd, wsub, wmul, decide_eq_true_eq, decide_eq_false_iff_not, Nat.succ_eq_add_one, imp_false, not_false_eq_true, not_true_eq_false, false_imp_iff, true_imp_iff] at *)
    exact Nat.zero_le _
  · cbv at hi
    have hG : ∀ y : Rt, L rdGRt (.agg [.str (L Rt.h y), .str (L Rt.p y), .str (L Rt.c y), .int .u64 (L Rt.i y)]) = y := by subst hL; exact fun y => (gK rtV_ok y _ rfl).2
    have hO : ∀ y : Rt, L okGRt (.agg [.str (L Rt.h y), .str (L Rt.p y), .str (L Rt.c y), .int .u64 (L Rt.i y)]) := by subst hL; exact fun y => (gK rtV_ok y _ rfl).1
    (cbv; try simp only [sat_need, sat_must, sat_ite, sat_done, sat_yes, sat_ex, sat_all, sat_sup, sat_and, sat_fail, true_and, and_true])
    simp only [hG, hO, true_and]
    refine ⟨fun hlt => ⟨?_, ?_, ?_, ⟨i + 1, ?_⟩⟩, fun hge => ?_⟩
    · (subst hL; subst hQ; simp only [L2, L3, std] at *; try simp only [sySet, reduceCtorEq, forall_const, Int.reduceToNat, Int.reduceAdd, Int.reduceSub, Int.cast_ofNat_Int, Int.toNat_natCast, Nat.le_eq, Nat.sub_eq, ne_eq, Decidable.not_not, implies_true, true_and, and_true, wadd, wsub, wmul, decide_eq_true_eq, decide_eq_false_iff_not, Nat.succ_eq_add_one, imp_false, not_false_eq_true, not_true_eq_false, false_imp_iff, true_imp_iff] at *)
      omega
    · (subst hL; subst hQ; simp only [L2, L3, std] at *; try simp only [sySet, reduceCtorEq, forall_const, Int.reduceToNat, Int.reduceAdd, Int.reduceSub, Int.cast_ofNat_Int, Int.toNat_natCast, Nat.le_eq, Nat.sub_eq, ne_eq, Decidable.not_not, implies_true, true_and, and_true, wadd, wsub, wmul, decide_eq_true_eq, decide_eq_false_iff_not, Nat.succ_eq_add_one, imp_false, not_false_eq_true, not_true_eq_false, false_imp_iff, true_imp_iff] at *)
      exact ha _ (by rw [nthRt, nthW_at (V := rtV) (by have : lenW l = l.length := rfl; omega)]; exact List.getElem_mem _)
    · (subst hL; subst hQ; simp only [L2, L3, std] at *; try simp only [sySet, reduceCtorEq, forall_const, Int.reduceToNat, Int.reduceAdd, Int.reduceSub, Int.cast_ofNat_Int, Int.toNat_natCast, Nat.le_eq, Nat.sub_eq, ne_eq, Decidable.not_not, implies_true, true_and, and_true, wadd, wsub, wmul, decide_eq_true_eq, decide_eq_false_iff_not, Nat.succ_eq_add_one, imp_false, not_false_eq_true, not_true_eq_false, false_imp_iff, true_imp_iff] at *)
      have : lenW l = l.length := rfl
      have : l.length ≤ 1000000 := hz
      omega
    · (cbv; try simp only [sat_need, sat_must, sat_ite, sat_done, sat_yes, sat_ex, sat_all, sat_sup, sat_and, sat_fail, true_and, and_true])
      try simp only [hG]
      (subst hL; subst hQ; simp only [L2, L3, std] at *; try simp only [sySet, reduceCtorEq, forall_const, Int.reduceToNat, Int.reduceAdd, Int.reduceSub, Int.cast_ofNat_Int, Int.toNat_natCast, Nat.le_eq, Nat.sub_eq, ne_eq, Decidable.not_not, implies_true, true_and, and_true, wadd, wsub, wmul, decide_eq_true_eq, decide_eq_false_iff_not, Nat.succ_eq_add_one, imp_false, not_false_eq_true, not_true_eq_false, false_imp_iff, true_imp_iff] at *)
      have : lenW l = l.length := rfl
      have : l.length ≤ 1000000 := hz
      exact ⟨fun q j hq hj => cv_push (fun q => rtVal (nthRt l q)) hq hj, by omega, by omega, by omega⟩
    · (subst hL; subst hQ; simp only [L2, L3, std] at *; try simp only [sySet, reduceCtorEq, forall_const, Int.reduceToNat, Int.reduceAdd, Int.reduceSub, Int.cast_ofNat_Int, Int.toNat_natCast, Nat.le_eq, Nat.sub_eq, ne_eq, Decidable.not_not, implies_true, true_and, and_true, wadd, wsub, wmul, decide_eq_true_eq, decide_eq_false_iff_not, Nat.succ_eq_add_one, imp_false, not_false_eq_true, not_true_eq_false, false_imp_iff, true_imp_iff] at *)
      have : lenW l = l.length := rfl
      obtain ⟨k1, k2⟩ := each_end (V := rtV) (val := rtVal) (l := l) (n := i) (by omega)
      refine ⟨⟨k2, ?_⟩, cv_fit ?_⟩
      · show List.length _ ≤ 1000000
        have k1 : rdL (.lst 4 i fun q j => cv1 std (rtVal (nthRt l q)) j) = l.map rtVal := k1
        rw [k1, List.length_map]; exact hz
      · exact (congrArg rowV k1).symm
theorem eachEp_good (ih : Good Tryz.prog (valS 122 okGEp rdGEp epPre epVal std)) : Good Tryz.prog (eachS 121 122 okWEp rdWEp epsPre epsVal std) := by
  intro xs p r h hp
  unfold eachS at h
  simp only at h
  split at h
  rotate_left
  · cases h
  rename_i x k
  cases hk : nbeq k 122 with
  | false => rw [hk] at h; cases h
  | true =>
  rw [hk] at h
  obtain rfl : k = 122 := of_decide_eq_true hk
  cases h
  obtain ⟨ho, hz, ha⟩ := hp
  refine ac_w1 epV_ok ho ?_
  have hz : lenE (rdW epV x) := hz
  have ha : allE epPre (rdW epV x) := ha
  show ACalls _ _ _ (cvA std (eachV epVal (rdW epV x)))
  generalize rdW epV x = l at hz ha ⊢
  refine acalls_L' (T := tt) (S := fun L => sumOf [valS 122 okGEp rdGEp epPre epVal L, list_s L]) (lo := fun L => eachA L nthEp epVal l) (lb := noA) 5 (fn := Tryz.f121) (xs := fun L => [lstEp L l, .fn 122 [] []]) rfl rfl (by kernel_rfl) (by kernel_rfl) rfl tt_ok
    (sumOf_ok ⟨ih, list_good, trivial⟩) (by kernel_rfl) ?_
  intro L P' Q' hL hP hQ
  (cbv; try simp only [sat_need, sat_must, sat_ite, sat_done, sat_yes, sat_ex, sat_all, sat_sup, sat_and, sat_fail, true_and, and_true])
  refine ⟨⟨0, ?_⟩, fun i hi => ?_⟩
  · (cbv; try simp only [sat_need, sat_must, sat_ite, sat_done, sat_yes, sat_ex, sat_all, sat_sup, sat_and, sat_fail, true_and, and_true])
    (subst hL; subst hQ; simp only [L2, L3, std] at *; try simp only [sySet, reduceCtorEq, forall_const, Int.reduceToNat, Int.reduceAdd, Int.reduceSub, Int.cast_ofNat_Int, Int.toNat_natCast, Nat.le_eq, Nat.sub_eq, ne_eq, Decidable.not_not, implies_true, true_and, and_true, wadd, wsub, wmul, decide_eq_true_eq, decide_eq_false_iff_not, Nat.succ_eq_add_one, imp_false, not_false_eq_true, not_true_eq_false, false_imp_iff, true_imp_iff] at *)
    exact Nat.zero_le _
  · cbv at hi
    have hG : ∀ y : Ep, L rdGEp (.agg [.int .u8 (L Pl.a (L Ep.pl y)), .int .u8 (L Pl.b (L Ep.pl y)), .int .u8 (L Pl.c (L Ep.pl y)), .int .u8 (L Pl.d (L Ep.pl y)), .int .u16 (L Pl.p (L Ep.pl y)), .int .i64 (L Ep.w y)]) = y := by subst hL; exact fun y => (gK epV_ok y _ rfl).2
    have hO : ∀ y : Ep, L okGEp (.agg [.int .u8 (L Pl.a (L Ep.pl y)), .int .u8 (L Pl.b (L Ep.pl y)), .int .u8 (L Pl.c (L Ep.pl y)), .int .u8 (L Pl.d (L Ep.pl y)), .int .u16 (L Pl.p (L Ep.pl y)), .int .i64 (L Ep.w y)]) := by subst hL; exact fun y => (gK epV_ok y _ rfl).1
    (cbv; try simp only [sat_need, sat_must, sat_ite, sat_done, sat_yes, sat_ex, sat_all, sat_sup, sat_and, sat_fail, true_and, and_true])
    simp only [hG, hO, true_and]
    refine ⟨fun hlt => ⟨?_, ?_, ?_, ⟨i + 1, ?_⟩⟩, fun hge => ?_⟩
    · (subst hL; subst hQ; simp only [L2, L3, std] at *; try simp only [sySet, reduceCtorEq, forall_const, Int.reduceToNat, Int.reduceAdd, Int.reduceSub, Int.cast_ofNat_Int, Int.toNat_natCast, Nat.le_eq, Nat.sub_eq, ne_eq, Decidable.not_not, implies_true, true_and, and_true, wadd, wsub, wmul, decide_eq_true_eq, decide_eq_false_iff_not, Nat.succ_eq_add_one, imp_false, not_false_eq_true, not_true_eq_false, false_imp_iff, true_imp_iff] at *)
      omega
    · (subst hL; subst hQ; simp only [L2, L3, std] at *; try simp only [sySet, reduceCtorEq, forall_const, Int.reduceToNat, Int.reduceAdd, Int.reduceSub, Int.cast_ofNat_Int, Int.toNat_natCast, Nat.le_eq, Nat.sub_eq, ne_eq, Decidable.not_not, implies_true, true_and, and_true, wadd, wsub, wmul, decide_eq_true_eq, decide_eq_false_iff_not, Nat.succ_eq_add_one, imp_false, not_false_eq_true, not_true_eq_false, false_imp_iff, true_imp_iff] at *)
      exact ha _ (by rw [nthEp, nthW_at (V := epV) (by have : lenW l = l.length := rfl; omega)]; exact List.getElem_mem _)
    · (subst hL; subst hQ; simp only [L2, L3, std] at *; try simp only [sySet, reduceCtorEq, forall_const, Int.reduceToNat, Int.reduceAdd, Int.reduceSub, Int.cast_ofNat_Int, Int.toNat_natCast, Nat.le_eq, Nat.sub_eq, ne_eq, Decidable.not_not, implies_true, true_and, and_true, wadd, wsub, wmul, decide_eq_true_eq, decide_eq_false_iff_not, Nat.succ_eq_add_one, imp_false, not_false_eq_true, not_true_eq_false, false_imp_iff, true_imp_iff] at *)
      have : lenW l = l.length := rfl
      have : l.length ≤ 1000000 := hz
      omega
    · (cbv; try simp only [sat_need, sat_must, sat_ite, sat_done, sat_yes, sat_ex, sat_all, sat_sup, sat_and, sat_fail, true_and, and_true])
      try simp only [hG]
      (subst hL; subst hQ; simp only [L2, L3, std] at *; try simp only [sySet, reduceCtorEq, forall_const, Int.reduceToNat, Int.reduceAdd, Int.reduceSub, Int.cast_ofNat_Int, Int.toNat_natCast, Nat.le_eq, Nat.sub_eq, ne_eq, Decidable.not_not, implies_true, true_and, and_true, wadd, wsub, wmul, decide_eq_true_eq, decide_eq_false_iff_not, Nat.succ_eq_add_one, imp_false, not_false_eq_true, not_true_eq_false, false_imp_iff, true_imp_iff] at *)
      have : lenW l = l.length := rfl
      have : l.length ≤ 1000000 := hz
      exact ⟨fun q j hq hj => cv_push (fun q => epVal (nthEp l q)) hq hj, by omega, by omega, by omega⟩
    · (subst hL; subst hQ; simp only [L2, L3, std] at *; try simp only [sySet, reduceCtorEq, forall_const, Int.reduceToNat, Int.reduceAdd, Int.reduceSub, Int.cast_ofNat_Int, Int.toNat_natCast, Nat.le_eq, Nat.sub_eq, ne_eq, Decidable.not_not, implies_true, true_and, and_true, wadd, wsub, wmul, decide_eq_true_eq, decide_eq_false_iff_not, Nat.succ_eq_add_one, imp_false, not_false_eq_true, not_true_eq_false, false_imp_iff, true_imp_iff] at *)
      have : lenW l = l.length := rfl
      obtain ⟨k1, k2⟩ := each_end (V := epV) (val := epVal) (l := l) (n := i) (by omega)
      refine ⟨⟨k2, ?_⟩, cv_fit ?_⟩
      · show List.length _ ≤ 1000000
        have k1 : rdL (.lst 4 i fun q j => cv1 std (epVal (nthEp l q)) j) = l.map epVal := k1
        rw [k1, List.length_map]; exact hz
      · exact (congrArg rowV k1).symm
def lsVal (x : Ls) : CV := rowV [txtV x.n, txtV (plB x.pl), rtsVal x.rs]
def clVal (x : Cl) : CV := rowV [txtV x.n, epsVal x.es]
def lsPre (x : Ls) : Prop := plOk x.pl ∧ lenE x.rs
def clPre (x : Cl) : Prop := lenE x.es ∧ epsPre x.es
def lssVal (l : List Ls) : CV := eachV lsVal l
def clsVal (l : List Cl) : CV := eachV clVal l
def lssPre (l : List Ls) : Prop := allE lsPre l
def clsPre (l : List Cl) : Prop := allE clPre l
theorem rdwRt (l : List Rt) : rdWRt (.lst 4 (lenW l) fun i => rtC std (nthRt l i)) = l := (rdW_lst rtV_ok l).2
theorem okwRt (l : List Rt) : okWRt (.lst 4 (lenW l) fun i => rtC std (nthRt l i)) := (rdW_lst rtV_ok l).1
theorem rdwEp (l : List Ep) : rdWEp (.lst 6 (lenW l) fun i => epC std (nthEp l i)) = l := (rdW_lst epV_ok l).2
theorem okwEp (l : List Ep) : okWEp (.lst 6 (lenW l) fun i => epC std (nthEp l i)) := (rdW_lst epV_ok l).1
theorem rdwLs (l : List Ls) : rdWLs (.lst 7 (lenW l) fun i => lsC std (nthLs l i)) = l := (rdW_lst lsV_ok l).2
theorem okwLs (l : List Ls) : okWLs (.lst 7 (lenW l) fun i => lsC std (nthLs l i)) := (rdW_lst lsV_ok l).1
theorem rdwCl (l : List Cl) : rdWCl (.lst 2 (lenW l) fun i => clC std (nthCl l i)) = l := (rdW_lst clV_ok l).2
theorem okwCl (l : List Cl) : okWCl (.lst 2 (lenW l) fun i => clC std (nthCl l i)) := (rdW_lst clV_ok l).1
theorem listener_good : Good Tryz.prog (valS 55 okGLs rdGLs lsPre lsVal std) := by
  intro xs p r h hp
  dsimp only [valS] at h ⊢
  split at h <;> cases h
  try simp only [L2, L3, std] at hp ⊢
  rename_i x
  refine ac_g lsV_ok hp.1 ?_
  have hp := hp.2
  show ACalls _ _ _ (cvA std (lsVal (rdG lsV x)))
  have hp : lsPre (rdG lsV x) := hp
  generalize rdG lsV x = y at hp ⊢
  refine acalls_L' (T := tt) (S := fun L => sumOf [txt_s L, list_s L, bytes_s L, eachS 119 120 okWRt rdWRt rtsPre rtsVal L]) (lo := fun _ => noA std) (lb := noA) 5 (fn := Tryz.f55) (xs := fun L => [.agg [.str (L Ls.n y), .int .u8 (L Pl.a (L Ls.pl y)), .int .u8 (L Pl.b (L Ls.pl y)), .int .u8 (L Pl.c (L Ls.pl y)), .int .u8 (L Pl.d (L Ls.pl y)), .int .u16 (L Pl.p (L Ls.pl y)), lstRt L (L Ls.rs y)]]) rfl rfl (by kernel_rfl) (by kernel_rfl) rfl tt_ok (sumOf_ok ⟨txt_good, list_good, bytes_good, eachRt_good route_good, trivial⟩) (by kernel_rfl) ?_
  intro L P' Q' hL hP hQ
  (cbv; try simp only [sat_need, sat_must, sat_ite, sat_done, sat_yes, sat_ex, sat_all, sat_sup, sat_and, sat_fail, true_and, and_true])
  (subst hL; subst hQ; simp only [L2, L3, std] at *; try simp only [sySet, reduceCtorEq, forall_const, Int.reduceToNat, Int.reduceAdd, Int.reduceSub, Int.cast_ofNat_Int, Int.toNat_natCast, Nat.le_eq, Nat.sub_eq, ne_eq, Decidable.not_not, implies_true, true_and, and_true, wadd, wsub, wmul, decide_eq_true_eq, decide_eq_false_iff_not, Nat.succ_eq_add_one, imp_false, not_false_eq_true, not_true_eq_false, false_imp_iff, true_imp_iff] at *)
  simp only [rdwRt]
  obtain ⟨k1, k2⟩ := row_fit [txtV y.n, txtV (plB y.pl), rtsVal y.rs] (v := lsVal y) (n := 3) rfl rfl (Nat.le_of_ble_eq_true rfl) rfl
  exact ⟨hp.1, ⟨okwRt _, hp.2, fun _ _ => trivial⟩, k1, k2 rfl⟩
theorem cluster_good : Good Tryz.prog (valS 57 okGCl rdGCl clPre clVal std) := by
  intro xs p r h hp
  dsimp only [valS] at h ⊢
  split at h <;> cases h
  try simp only [L2, L3, std] at hp ⊢
  rename_i x
  refine ac_g clV_ok hp.1 ?_
  have hp := hp.2
  show ACalls _ _ _ (cvA std (clVal (rdG clV x)))
  have hp : clPre (rdG clV x) := hp
  generalize rdG clV x = y at hp ⊢
  refine acalls_L' (T := tt) (S := fun L => sumOf [txt_s L, list_s L, eachS 121 122 okWEp rdWEp epsPre epsVal L]) (lo := fun _ => noA std) (lb := noA) 5 (fn := Tryz.f57) (xs := fun L => [.agg [.str (L Cl.n y), lstEp L (L Cl.es y)]]) rfl rfl (by kernel_rfl) (by kernel_rfl) rfl tt_ok (sumOf_ok ⟨txt_good, list_good, eachEp_good endpoint_good, trivial⟩) (by kernel_rfl) ?_
  intro L P' Q' hL hP hQ
  (cbv; try simp only [sat_need, sat_must, sat_ite, sat_done, sat_yes, sat_ex, sat_all, sat_sup, sat_and, sat_fail, true_and, and_true])
  (subst hL; subst hQ; simp only [L2, L3, std] at *; try simp only [sySet, reduceCtorEq, forall_const, Int.reduceToNat, Int.reduceAdd, Int.reduceSub, Int.cast_ofNat_Int, Int.toNat_natCast, Nat.le_eq, Nat.sub_eq, ne_eq, Decidable.not_not, implies_true, true_and, and_true, wadd, wsub, wmul, decide_eq_true_eq, decide_eq_false_iff_not, Nat.succ_eq_add_one, imp_false, not_false_eq_true, not_true_eq_false, false_imp_iff, true_imp_iff] at *)
  simp only [rdwEp]
  obtain ⟨k1, k2⟩ := row_fit [txtV y.n, epsVal y.es] (v := clVal y) (n := 2) rfl rfl (Nat.le_of_ble_eq_true rfl) rfl
  exact ⟨⟨okwEp _, hp.1, hp.2⟩, k1, k2 rfl⟩
theorem eachLs_good (ih : Good Tryz.prog (valS 55 okGLs rdGLs lsPre lsVal std)) : Good Tryz.prog (eachS 54 55 okWLs rdWLs lssPre lssVal std) := by
  intro xs p r h hp
  unfold eachS at h
  simp only at h
  split at h
  rotate_left
  · cases h
  rename_i x k
  cases hk : nbeq k 55 with
  | false => rw [hk] at h; cases h
  | true =>
  rw [hk] at h
  obtain rfl : k = 55 := of_decide_eq_true hk
  cases h
  obtain ⟨ho, hz, ha⟩ := hp
  refine ac_w1 lsV_ok ho ?_
  have hz : lenE (rdW lsV x) := hz
  have ha : allE lsPre (rdW lsV x) := ha
  show ACalls _ _ _ (cvA std (eachV lsVal (rdW lsV x)))
  generalize rdW lsV x = l at hz ha ⊢
  refine acalls_L' (T := tt) (S := fun L => sumOf [valS 55 okGLs rdGLs lsPre lsVal L, list_s L]) (lo := fun L => eachA L nthLs lsVal l) (lb := noA) 5 (fn := Tryz.f54) (xs := fun L => [lstLs L l, .fn 55 [] []]) rfl rfl (by kernel_rfl) (by kernel_rfl) rfl tt_ok
    (sumOf_ok ⟨ih, list_good, trivial⟩) (by kernel_rfl) ?_
  intro L P' Q' hL hP hQ
  (cbv; try simp only [sat_need, sat_must, sat_ite, sat_done, sat_yes, sat_ex, sat_all, sat_sup, sat_and, sat_fail, true_and, and_true])
  refine ⟨⟨0, ?_⟩, fun i hi => ?_⟩
  · (cbv; try simp only [sat_need, sat_must, sat_ite, sat_done, sat_yes, sat_ex, sat_all, sat_sup, sat_and, sat_fail, true_and, and_true])
    (subst hL; subst hQ; simp only [L2, L3, std] at *; try simp only [sySet, reduceCtorEq, forall_const, Int.reduceToNat, Int.reduceAdd, Int.reduceSub, Int.cast_ofNat_Int, Int.toNat_natCast, Nat.le_eq, Nat.sub_eq, ne_eq, Decidable.not_not, implies_true, true_and, and_true, wadd, wsub, wmul, decide_eq_true_eq, decide_eq_false_iff_not, Nat.succ_eq_add_one, imp_false, not_false_eq_true, not_true_eq_false, false_imp_iff, true_imp_iff] at *)
    exact Nat.zero_le _
  · cbv at hi
    have hG : ∀ y : Ls, L rdGLs (.agg [.str (L Ls.n y), .int .u8 (L Pl.a (L Ls.pl y)), .int .u8 (L Pl.b (L Ls.pl y)), .int .u8 (L Pl.c (L Ls.pl y)), .int .u8 (L Pl.d (L Ls.pl y)), .int .u16 (L Pl.p (L Ls.pl y)), .lst 4 (L lenW (L Ls.rs y)) (fun i => rtC L (L (L nthRt (L Ls.rs y)) i))]) = y := by subst hL; exact fun y => (gK lsV_ok y _ rfl).2
    have hO : ∀ y : Ls, L okGLs (.agg [.str (L Ls.n y), .int .u8 (L Pl.a (L Ls.pl y)), .int .u8 (L Pl.b (L Ls.pl y)), .int .u8 (L Pl.c (L Ls.pl y)), .int .u8 (L Pl.d (L Ls.pl y)), .int .u16 (L Pl.p (L Ls.pl y)), .lst 4 (L lenW (L Ls.rs y)) (fun i => rtC L (L (L nthRt (L Ls.rs y)) i))]) := by subst hL; exact fun y => (gK lsV_ok y _ rfl).1
    (cbv; try simp only [sat_need, sat_must, sat_ite, sat_done, sat_yes, sat_ex, sat_all, sat_sup, sat_and, sat_fail, true_and, and_true])
    simp only [hG, hO, true_and]
    refine ⟨fun hlt => ⟨?_, ?_, ?_, ⟨i + 1, ?_⟩⟩, fun hge => ?_⟩
    · (subst hL; subst hQ; simp only [L2, L3, std] at *; try simp only [sySet, reduceCtorEq, forall_const, Int.reduceToNat, Int.reduceAdd, Int.reduceSub, Int.cast_ofNat_Int, Int.toNat_natCast, Nat.le_eq, Nat.sub_eq, ne_eq, Decidable.not_not, implies_true, true_and, and_true, wadd, wsub, wmul, decide_eq_true_eq, decide_eq_false_iff_not, Nat.succ_eq_add_one, imp_false, not_false_eq_true, not_true_eq_false, false_imp_iff, true_imp_iff] at *)
      omega
    · (subst hL; subst hQ; simp only [L2, L3, std] at *; try simp only [sySet, reduceCtorEq, forall_const, Int.reduceToNat, Int.reduceAdd, Int.reduceSub, Int.cast_ofNat_Int, Int.toNat_natCast, Nat.le_eq, Nat.sub_eq, ne_eq, Decidable.not_not, implies_true, true_and, and_true, wadd, wsub, wmul, decide_eq_true_eq, decide_eq_false_iff_not, Nat.succ_eq_add_one, imp_false, not_false_eq_true, not_true_eq_false, false_imp_iff, true_imp_iff] at *)
      exact ha _ (by rw [nthLs, nthW_at (V := lsV) (by have : lenW l = l.length := rfl; omega)]; exact List.getElem_mem _)
    · (subst hL; subst hQ; simp only [L2, L3, std] at *; try simp only [sySet, reduceCtorEq, forall_const, Int.reduceToNat, Int.reduceAdd, Int.reduceSub, Int.cast_ofNat_Int, Int.toNat_natCast, Nat.le_eq, Nat.sub_eq, ne_eq, Decidable.not_not, implies_true, true_and, and_true, wadd, wsub, wmul, decide_eq_true_eq, decide_eq_false_iff_not, Nat.succ_eq_add_one, imp_false, not_false_eq_true, not_true_eq_false, false_imp_iff, true_imp_iff] at *)
      have : lenW l = l.length := rfl
      have : l.length ≤ 1000000 := hz
      omega
    · (cbv; try simp only [sat_need, sat_must, sat_ite, sat_done, sat_yes, sat_ex, sat_all, sat_sup, sat_and, sat_fail, true_and, and_true])
      try simp only [hG]
      (subst hL; subst hQ; simp only [L2, L3, std] at *; try simp only [sySet, reduceCtorEq, forall_const, Int.reduceToNat, Int.reduceAdd, Int.reduceSub, Int.cast_ofNat_Int, Int.toNat_natCast, Nat.le_eq, Nat.sub_eq, ne_eq, Decidable.not_not, implies_true, true_and, and_true, wadd, wsub, wmul, decide_eq_true_eq, decide_eq_false_iff_not, Nat.succ_eq_add_one, imp_false, not_false_eq_true, not_true_eq_false, false_imp_iff, true_imp_iff] at *)
      have : lenW l = l.length := rfl
      have : l.length ≤ 1000000 := hz
      exact ⟨fun q j hq hj => cv_push (fun q => lsVal (nthLs l q)) hq hj, by omega, by omega, by omega⟩
    · (subst hL; subst hQ; simp only [L2, L3, std] at *; try simp only [sySet, reduceCtorEq, forall_const, Int.reduceToNat, Int.reduceAdd, Int.reduceSub, Int.cast_ofNat_Int, Int.toNat_natCast, Nat.le_eq, Nat.sub_eq, ne_eq, Decidable.not_not, implies_true, true_and, and_true, wadd, wsub, wmul, decide_eq_true_eq, decide_eq_false_iff_not, Nat.succ_eq_add_one, imp_false, not_false_eq_true, not_true_eq_false, false_imp_iff, true_imp_iff] at *)
      have : lenW l = l.length := rfl
      obtain ⟨k1, k2⟩ := each_end (V := lsV) (val := lsVal) (l := l) (n := i) (by omega)
      refine ⟨⟨k2, ?_⟩, cv_fit ?_⟩
      · show List.length _ ≤ 1000000
        have k1 : rdL (.lst 4 i fun q j => cv1 std (lsVal (nthLs l q)) j) = l.map lsVal := k1
        rw [k1, List.length_map]; exact hz
      · exact (congrArg rowV k1).symm
theorem eachCl_good (ih : Good Tryz.prog (valS 57 okGCl rdGCl clPre clVal std)) : Good Tryz.prog (eachS 56 57 okWCl rdWCl clsPre clsVal std) := by
  intro xs p r h hp
  unfold eachS at h
  simp only at h
  split at h
  rotate_left
  · cases h
  rename_i x k
  cases hk : nbeq k 57 with
  | false => rw [hk] at h; cases h
  | true =>
  rw [hk] at h
  obtain rfl : k = 57 := of_decide_eq_true hk
  cases h
  obtain ⟨ho, hz, ha⟩ := hp
  refine ac_w1 clV_ok ho ?_
  have hz : lenE (rdW clV x) := hz
  have ha : allE clPre (rdW clV x) := ha
  show ACalls _ _ _ (cvA std (eachV clVal (rdW clV x)))
  generalize rdW clV x = l at hz ha ⊢
  refine acalls_L' (T := tt) (S := fun L => sumOf [valS 57 okGCl rdGCl clPre clVal L, list_s L]) (lo := fun L => eachA L nthCl clVal l) (lb := noA) 5 (fn := Tryz.f56) (xs := fun L => [lstCl L l, .fn 57 [] []]) rfl rfl (by kernel_rfl) (by kernel_rfl) rfl tt_ok
    (sumOf_ok ⟨ih, list_good, trivial⟩) (by kernel_rfl) ?_
  intro L P' Q' hL hP hQ
  (cbv; try simp only [sat_need, sat_must, sat_ite, sat_done, sat_yes, sat_ex, sat_all, sat_sup, sat_and, sat_fail, true_and, and_true])
  refine ⟨⟨0, ?_⟩, fun i hi => ?_⟩
  · (cbv; try simp only [sat_need, sat_must, sat_ite, sat_done, sat_yes, sat_ex, sat_all, sat_sup, sat_and, sat_fail, true_and, and_true])
    (subst hL; subst hQ; simp only [L2, L3, std] at *; try simp only [sySet, reduceCtorEq, forall_const, Int.reduceToNat, Int.reduceAdd, Int.reduceSub, Int.cast_ofNat_Int, Int.toNat_natCast, Nat.le_eq, Nat.sub_eq, ne_eq, Decidable.not_not, implies_true, true_and, and_true, wadd, wsub, wmul, decide_eq_true_eq, decide_eq_false_iff_not, Nat.succ_eq_add_one, imp_false, not_false_eq_true, not_true_eq_false, false_imp_iff, true_imp_iff] at *)
    exact Nat.zero_le _
  · cbv at hi
    have hG : ∀ y : Cl, L rdGCl (.agg [.str (L Cl.n y), .lst 6 (L lenW (L Cl.es y)) (fun i => epC L (L (L nthEp (L Cl.es y)) i))]) = y := by subst hL; exact fun y => (gK clV_ok y _ rfl).2
    have hO : ∀ y : Cl, L okGCl (.agg [.str (L Cl.n y), .lst 6 (L lenW (L Cl.es y)) (fun i => epC L (L (L nthEp (L Cl.es y)) i))]) := by subst hL; exact fun y => (gK clV_ok y _ rfl).1
    (cbv; try simp only [sat_need, sat_must, sat_ite, sat_done, sat_yes, sat_ex, sat_all, sat_sup, sat_and, sat_fail, true_and, and_true])
    simp only [hG, hO, true_and]
    refine ⟨fun hlt => ⟨?_, ?_, ?_, ⟨i + 1, ?_⟩⟩, fun hge => ?_⟩
    · (subst hL; subst hQ; simp only [L2, L3, std] at *; try simp only [sySet, reduceCtorEq, forall_const, Int.reduceToNat, Int.reduceAdd, Int.reduceSub, Int.cast_ofNat_Int, Int.toNat_natCast, Nat.le_eq, Nat.sub_eq, ne_eq, Decidable.not_not, implies_true, true_and, and_true, wadd, wsub, wmul, decide_eq_true_eq, decide_eq_false_iff_not, Nat.succ_eq_add_one, imp_false, not_false_eq_true, not_true_eq_false, false_imp_iff, true_imp_iff] at *)
      omega
    · (subst hL; subst hQ; simp only [L2, L3, std] at *; try simp only [sySet, reduceCtorEq, forall_const, Int.reduceToNat, Int.reduceAdd, Int.reduceSub, Int.cast_ofNat_Int, Int.toNat_natCast, Nat.le_eq, Nat.sub_eq, ne_eq, Decidable.not_not, implies_true, true_and, and_true, wadd, wsub, wmul, decide_eq_true_eq, decide_eq_false_iff_not, Nat.succ_eq_add_one, imp_false, not_false_eq_true, not_true_eq_false, false_imp_iff, true_imp_iff] at *)
      exact ha _ (by rw [nthCl, nthW_at (V := clV) (by have : lenW l = l.length := rfl; omega)]; exact List.getElem_mem _)
    · (subst hL; subst hQ; simp only [L2, L3, std] at *; try simp only [sySet, reduceCtorEq, forall_const, Int.reduceToNat, Int.reduceAdd, Int.reduceSub, Int.cast_ofNat_Int, Int.toNat_natCast, Nat.le_eq, Nat.sub_eq, ne_eq, Decidable.not_not, implies_true, true_and, and_true, wadd, wsub, wmul, decide_eq_true_eq, decide_eq_false_iff_not, Nat.succ_eq_add_one, imp_false, not_false_eq_true, not_true_eq_false, false_imp_iff, true_imp_iff] at *)
      have : lenW l = l.length := rfl
      have : l.length ≤ 1000000 := hz
      omega
    · (cbv; try simp only [sat_need, sat_must, sat_ite, sat_done, sat_yes, sat_ex, sat_all, sat_sup, sat_and, sat_fail, true_and, and_true])
      try simp only [hG]
      (subst hL; subst hQ; simp only [L2, L3, std] at *; try simp only [sySet, reduceCtorEq, forall_const, Int.reduceToNat, Int.reduceAdd, Int.reduceSub, Int.cast_ofNat_Int, Int.toNat_natCast, Nat.le_eq, Nat.sub_eq, ne_eq, Decidable.not_not, implies_true, true_and, and_true, wadd, wsub, wmul, decide_eq_true_eq, decide_eq_false_iff_not, Nat.succ_eq_add_one, imp_false, not_false_eq_true, not_true_eq_false, false_imp_iff, true_imp_iff] at *)
      have : lenW l = l.length := rfl
      have : l.length ≤ 1000000 := hz
      exact ⟨fun q j hq hj => cv_push (fun q => clVal (nthCl l q)) hq hj, by omega, by omega, by omega⟩
    · (subst hL; subst hQ; simp only [L2, L3, std] at *; try simp only [sySet, reduceCtorEq, forall_const, Int.reduceToNat, Int.reduceAdd, Int.reduceSub, Int.cast_ofNat_Int, Int.toNat_natCast, Nat.le_eq, Nat.sub_eq, ne_eq, Decidable.not_not, implies_true, true_and, and_true, wadd, wsub, wmul, decide_eq_true_eq, decide_eq_false_iff_not, Nat.succ_eq_add_one, imp_false, not_false_eq_true, not_true_eq_false, false_imp_iff, true_imp_iff] at *)
      have : lenW l = l.length := rfl
      obtain ⟨k1, k2⟩ := each_end (V := clV) (val := clVal) (l := l) (n := i) (by omega)
      refine ⟨⟨k2, ?_⟩, cv_fit ?_⟩
      · show List.length _ ≤ 1000000
        have k1 : rdL (.lst 4 i fun q j => cv1 std (clVal (nthCl l q)) j) = l.map clVal := k1
        rw [k1, List.length_map]; exact hz
      · exact (congrArg rowV k1).symm
end Sy
end Go.Proofs.YtckbbcjbbmgmoaaGreatDoor
namespace Go.Proofs.YtckbbcjbbmgmoaaGreatDoor
namespace Sy
open Go Go.RowKit
set_option maxRecDepth 100000
set_option linter.unusedSimpArgs false
set_option linter.unusedVariables false

/-- A predicate of a struct. -/
def prS {α : Type} (f : Nat) (ok : AV → Prop) (rd : AV → α) (p : α → Bool) (pre : α → Prop) (L : Seal) : Ent1 := (f, fun xs => match xs with
  | [x] => some (L ok x ∧ L pre (L rd x), .bool (L p (L rd x)))
  | _ => none)
def idxS {α : Type} (f g : Nat) (ok : AV → Prop) (rd : AV → List α) (idx : List α → Int) (pre : List α → Prop) (L : Seal) : Ent1 := (f, fun xs => match xs with
  | [x, .fn k [] []] => match nbeq k g with
    | true => some (L ok x ∧ L lenE (L rd x) ∧ L pre (L rd x), .int .i64 (L idx (L rd x)))
    | false => none
  | _ => none)
def anyS {α : Type} (f g : Nat) (ok : AV → Prop) (rd : AV → List α) (any : List α → Bool) (pre : List α → Prop) (L : Seal) : Ent1 := (f, fun xs => match xs with
  | [x, .fn k [] []] => match nbeq k g with
    | true => some (L ok x ∧ L lenE (L rd x) ∧ L pre (L rd x), .bool (L any (L rd x)))
    | false => none
  | _ => none)
def ixA {α : Type} (L : Seal) (none : List α → Nat → Prop) (l : List α) : Nat → St → Option Ann := fun id st => match id with
  | 0 => some ⟨Nat, fun i => [(8, .int .i64 (L natI i))], fun i => [], [0, 1, 6, 7], [],
      fun i => L2 L none l i, fun i => L2 L (fun (l : List α) (i : Nat) => l.length - i) l i⟩
  | _ => Option.none
theorem ile_is (a b : Int) : ile a b = decide (a ≤ b) := by simp [ile]
def manyL (x : Ls) : Bool := decide (8 < x.rs.length)
def manyC (x : Cl) : Bool := decide (8 < x.es.length)
def belE (x : Ep) : Bool := decide (x.w < 0)
def belC (x : Cl) : Bool := x.es.any belE
def preML (x : Ls) : Prop := True
def preMC (x : Cl) : Prop := True
def preBE (x : Ep) : Prop := True
def preBC (x : Cl) : Prop := lenE x.es
theorem mL_good : Good Tryz.prog (prS 106 okGLs rdGLs manyL preML std) := by
  intro xs p r h hp
  dsimp only [prS] at h ⊢
  split at h <;> cases h
  try simp only [L2, L3, std] at hp ⊢
  rename_i x
  refine ac_g lsV_ok hp.1 ?_
  have hp := hp.2
  show ACalls _ _ _ (.bool (manyL (rdG lsV x)))
  have hp : preML (rdG lsV x) := hp
  generalize rdG lsV x = y at hp ⊢
  refine acalls_L' (T := tt) (S := noS) (lo := fun _ => noA std) (lb := noA) 5 (fn := Tryz.f106) (xs := fun L => [.agg [.str (L Ls.n y), .int .u8 (L Pl.a (L Ls.pl y)), .int .u8 (L Pl.b (L Ls.pl y)), .int .u8 (L Pl.c (L Ls.pl y)), .int .u8 (L Pl.d (L Ls.pl y)), .int .u16 (L Pl.p (L Ls.pl y)), lstRt L (L Ls.rs y)]]) rfl rfl (by kernel_rfl) (by kernel_rfl) rfl tt_ok (noS_ok _) (by kernel_rfl) ?_
  intro L P' Q' hL hP hQ
  (cbv; try simp only [sat_need, sat_must, sat_ite, sat_done, sat_yes, sat_ex, sat_all, sat_sup, sat_and, sat_fail, true_and, and_true])
  (subst hL; subst hQ; simp only [L2, L3, std] at *; try simp only [sySet, reduceCtorEq, forall_const, Int.reduceToNat, Int.reduceAdd, Int.reduceSub, Int.cast_ofNat_Int, Int.toNat_natCast, Nat.le_eq, Nat.sub_eq, ne_eq, Decidable.not_not, implies_true, true_and, and_true, wadd, wsub, wmul, decide_eq_true_eq, decide_eq_false_iff_not, Nat.succ_eq_add_one, imp_false, not_false_eq_true, not_true_eq_false, false_imp_iff, true_imp_iff] at *)
  show ilt 8 ((y.rs.length : Nat) : Int) = _
  simp only [ilt, manyL]
  congr 1
  simp
  omega
theorem mC_good : Good Tryz.prog (prS 108 okGCl rdGCl manyC preMC std) := by
  intro xs p r h hp
  dsimp only [prS] at h ⊢
  split at h <;> cases h
  try simp only [L2, L3, std] at hp ⊢
  rename_i x
  refine ac_g clV_ok hp.1 ?_
  have hp := hp.2
  show ACalls _ _ _ (.bool (manyC (rdG clV x)))
  have hp : preMC (rdG clV x) := hp
  generalize rdG clV x = y at hp ⊢
  refine acalls_L' (T := tt) (S := noS) (lo := fun _ => noA std) (lb := noA) 5 (fn := Tryz.f108) (xs := fun L => [.agg [.str (L Cl.n y), lstEp L (L Cl.es y)]]) rfl rfl (by kernel_rfl) (by kernel_rfl) rfl tt_ok (noS_ok _) (by kernel_rfl) ?_
  intro L P' Q' hL hP hQ
  (cbv; try simp only [sat_need, sat_must, sat_ite, sat_done, sat_yes, sat_ex, sat_all, sat_sup, sat_and, sat_fail, true_and, and_true])
  (subst hL; subst hQ; simp only [L2, L3, std] at *; try simp only [sySet, reduceCtorEq, forall_const, Int.reduceToNat, Int.reduceAdd, Int.reduceSub, Int.cast_ofNat_Int, Int.toNat_natCast, Nat.le_eq, Nat.sub_eq, ne_eq, Decidable.not_not, implies_true, true_and, and_true, wadd, wsub, wmul, decide_eq_true_eq, decide_eq_false_iff_not, Nat.succ_eq_add_one, imp_false, not_false_eq_true, not_true_eq_false, false_imp_iff, true_imp_iff] at *)
  show ilt 8 ((y.es.length : Nat) : Int) = _
  simp only [ilt, manyC]
  congr 1
  simp
  omega
theorem bE_good : Good Tryz.prog (prS 111 okGEp rdGEp belE preBE std) := by
  intro xs p r h hp
  dsimp only [prS] at h ⊢
  split at h <;> cases h
  try simp only [L2, L3, std] at hp ⊢
  rename_i x
  refine ac_g epV_ok hp.1 ?_
  have hp := hp.2
  show ACalls _ _ _ (.bool (belE (rdG epV x)))
  have hp : preBE (rdG epV x) := hp
  generalize rdG epV x = y at hp ⊢
  refine acalls_L' (T := tt) (S := noS) (lo := fun _ => noA std) (lb := noA) 5 (fn := Tryz.f111) (xs := fun L => [.agg [.int .u8 (L Pl.a (L Ep.pl y)), .int .u8 (L Pl.b (L Ep.pl y)), .int .u8 (L Pl.c (L Ep.pl y)), .int .u8 (L Pl.d (L Ep.pl y)), .int .u16 (L Pl.p (L Ep.pl y)), .int .i64 (L Ep.w y)]]) rfl rfl (by kernel_rfl) (by kernel_rfl) rfl tt_ok (noS_ok _) (by kernel_rfl) ?_
  intro L P' Q' hL hP hQ
  (cbv; try simp only [sat_need, sat_must, sat_ite, sat_done, sat_yes, sat_ex, sat_all, sat_sup, sat_and, sat_fail, true_and, and_true])
  (subst hL; subst hQ; simp only [L2, L3, std] at *; try simp only [sySet, reduceCtorEq, forall_const, Int.reduceToNat, Int.reduceAdd, Int.reduceSub, Int.cast_ofNat_Int, Int.toNat_natCast, Nat.le_eq, Nat.sub_eq, ne_eq, Decidable.not_not, implies_true, true_and, and_true, wadd, wsub, wmul, decide_eq_true_eq, decide_eq_false_iff_not, Nat.succ_eq_add_one, imp_false, not_false_eq_true, not_true_eq_false, false_imp_iff, true_imp_iff] at *)
  simp [ilt, belE]
def idxML (l : List Ls) : Int := idxW manyL l
def anyML (l : List Ls) : Bool := l.any manyL
def noneML (l : List Ls) (i : Nat) : Prop := noneW manyL l i
def presML (l : List Ls) : Prop := allE preML l
theorem idxML_good (ih : Good Tryz.prog (prS 106 okGLs rdGLs manyL preML std)) : Good Tryz.prog (idxS 161 106 okWLs rdWLs idxML presML std) := by
  intro xs p r h hp
  unfold idxS at h
  simp only at h
  split at h
  rotate_left
  · cases h
  rename_i x k
  cases hk : nbeq k 106 with
  | false => rw [hk] at h; cases h
  | true =>
  rw [hk] at h
  obtain rfl : k = 106 := of_decide_eq_true hk
  cases h
  obtain ⟨ho, hz, ha⟩ := hp
  refine ac_w1 lsV_ok ho ?_
  have hz : lenE (rdW lsV x) := hz
  have ha : presML (rdW lsV x) := ha
  show ACalls _ _ _ (.int .i64 (idxW manyL (rdW lsV x)))
  generalize rdW lsV x = l at hz ha ⊢
  refine acalls_L' (T := tt) (S := fun L => sumOf [prS 106 okGLs rdGLs manyL preML L]) (lo := fun L => ixA L noneML l) (lb := noA) 5 (fn := Tryz.f161) (xs := fun L => [lstLs L l, .fn 106 [] []]) rfl rfl (by kernel_rfl) (by kernel_rfl) rfl tt_ok
    (sumOf_ok ⟨ih, trivial⟩) (by kernel_rfl) ?_
  intro L P' Q' hL hP hQ
  (cbv; try simp only [sat_need, sat_must, sat_ite, sat_done, sat_yes, sat_ex, sat_all, sat_sup, sat_and, sat_fail, true_and, and_true])
  refine ⟨⟨0, ?_⟩, fun i hi => ?_⟩
  · (cbv; try simp only [sat_need, sat_must, sat_ite, sat_done, sat_yes, sat_ex, sat_all, sat_sup, sat_and, sat_fail, true_and, and_true])
    (subst hL; subst hQ; simp only [L2, L3, std] at *; try simp only [sySet, reduceCtorEq, forall_const, Int.reduceToNat, Int.reduceAdd, Int.reduceSub, Int.cast_ofNat_Int, Int.toNat_natCast, Nat.le_eq, Nat.sub_eq, ne_eq, Decidable.not_not, implies_true, true_and, and_true, wadd, wsub, wmul, decide_eq_true_eq, decide_eq_false_iff_not, Nat.succ_eq_add_one, imp_false, not_false_eq_true, not_true_eq_false, false_imp_iff, true_imp_iff] at *)
    exact noneW_0 _ _
  · cbv at hi
    have hG : ∀ y : Ls, L rdGLs (.agg [.str (L Ls.n y), .int .u8 (L Pl.a (L Ls.pl y)), .int .u8 (L Pl.b (L Ls.pl y)), .int .u8 (L Pl.c (L Ls.pl y)), .int .u8 (L Pl.d (L Ls.pl y)), .int .u16 (L Pl.p (L Ls.pl y)), .lst 4 (L lenW (L Ls.rs y)) (fun i => rtC L (L (L nthRt (L Ls.rs y)) i))]) = y := by subst hL; exact fun y => (gK lsV_ok y _ rfl).2
    have hO : ∀ y : Ls, L okGLs (.agg [.str (L Ls.n y), .int .u8 (L Pl.a (L Ls.pl y)), .int .u8 (L Pl.b (L Ls.pl y)), .int .u8 (L Pl.c (L Ls.pl y)), .int .u8 (L Pl.d (L Ls.pl y)), .int .u16 (L Pl.p (L Ls.pl y)), .lst 4 (L lenW (L Ls.rs y)) (fun i => rtC L (L (L nthRt (L Ls.rs y)) i))]) := by subst hL; exact fun y => (gK lsV_ok y _ rfl).1
    (cbv; try simp only [sat_need, sat_must, sat_ite, sat_done, sat_yes, sat_ex, sat_all, sat_sup, sat_and, sat_fail, true_and, and_true])
    simp only [hG, hO, true_and]
    have hw : lenW l = l.length := rfl
    have hz : l.length ≤ 1000000 := hz
    refine ⟨fun hlt => ⟨?_, ?_, fun hb => ?_, fun hb => ⟨i + 1, ?_⟩⟩, fun hge => ?_⟩
    · (subst hL; subst hQ; simp only [L2, L3, std] at *; try simp only [sySet, reduceCtorEq, forall_const, Int.reduceToNat, Int.reduceAdd, Int.reduceSub, Int.cast_ofNat_Int, Int.toNat_natCast, Nat.le_eq, Nat.sub_eq, ne_eq, Decidable.not_not, implies_true, true_and, and_true, wadd, wsub, wmul, decide_eq_true_eq, decide_eq_false_iff_not, Nat.succ_eq_add_one, imp_false, not_false_eq_true, not_true_eq_false, false_imp_iff, true_imp_iff] at *)
      omega
    · (subst hL; subst hQ; simp only [L2, L3, std] at *; try simp only [sySet, reduceCtorEq, forall_const, Int.reduceToNat, Int.reduceAdd, Int.reduceSub, Int.cast_ofNat_Int, Int.toNat_natCast, Nat.le_eq, Nat.sub_eq, ne_eq, Decidable.not_not, implies_true, true_and, and_true, wadd, wsub, wmul, decide_eq_true_eq, decide_eq_false_iff_not, Nat.succ_eq_add_one, imp_false, not_false_eq_true, not_true_eq_false, false_imp_iff, true_imp_iff] at *)
      exact ha _ (by rw [nthLs, nthW_at (V := lsV) (by omega)]; exact List.getElem_mem _)
    · (subst hL; subst hQ; simp only [L2, L3, std] at *; try simp only [sySet, reduceCtorEq, forall_const, Int.reduceToNat, Int.reduceAdd, Int.reduceSub, Int.cast_ofNat_Int, Int.toNat_natCast, Nat.le_eq, Nat.sub_eq, ne_eq, Decidable.not_not, implies_true, true_and, and_true, wadd, wsub, wmul, decide_eq_true_eq, decide_eq_false_iff_not, Nat.succ_eq_add_one, imp_false, not_false_eq_true, not_true_eq_false, false_imp_iff, true_imp_iff] at *)
      exact (noneW_yes (V := lsV) hi (by omega) hb).symm
    · (cbv; try simp only [sat_need, sat_must, sat_ite, sat_done, sat_yes, sat_ex, sat_all, sat_sup, sat_and, sat_fail, true_and, and_true])
      try simp only [hG]
      (subst hL; subst hQ; simp only [L2, L3, std] at *; try simp only [sySet, reduceCtorEq, forall_const, Int.reduceToNat, Int.reduceAdd, Int.reduceSub, Int.cast_ofNat_Int, Int.toNat_natCast, Nat.le_eq, Nat.sub_eq, ne_eq, Decidable.not_not, implies_true, true_and, and_true, wadd, wsub, wmul, decide_eq_true_eq, decide_eq_false_iff_not, Nat.succ_eq_add_one, imp_false, not_false_eq_true, not_true_eq_false, false_imp_iff, true_imp_iff] at *)
      exact ⟨by omega, noneW_step (V := lsV) hi (by omega) hb, by omega⟩
    · (subst hL; subst hQ; simp only [L2, L3, std] at *; try simp only [sySet, reduceCtorEq, forall_const, Int.reduceToNat, Int.reduceAdd, Int.reduceSub, Int.cast_ofNat_Int, Int.toNat_natCast, Nat.le_eq, Nat.sub_eq, ne_eq, Decidable.not_not, implies_true, true_and, and_true, wadd, wsub, wmul, decide_eq_true_eq, decide_eq_false_iff_not, Nat.succ_eq_add_one, imp_false, not_false_eq_true, not_true_eq_false, false_imp_iff, true_imp_iff] at *)
      exact (noneW_end hi (by omega)).symm
theorem anyML_good (ih : Good Tryz.prog (prS 106 okGLs rdGLs manyL preML std)) : Good Tryz.prog (anyS 105 106 okWLs rdWLs anyML presML std) := by
  intro xs p r h hp
  unfold anyS at h
  simp only at h
  split at h
  rotate_left
  · cases h
  rename_i x k
  cases hk : nbeq k 106 with
  | false => rw [hk] at h; cases h
  | true =>
  rw [hk] at h
  obtain rfl : k = 106 := of_decide_eq_true hk
  cases h
  obtain ⟨ho, hz, ha⟩ := hp
  refine ac_w1 lsV_ok ho ?_
  have hz : lenE (rdW lsV x) := hz
  have ha : presML (rdW lsV x) := ha
  show ACalls _ _ _ (.bool (anyML (rdW lsV x)))
  generalize rdW lsV x = l at hz ha ⊢
  refine acalls_L' (T := tt) (S := fun L => sumOf [idxS 161 106 okWLs rdWLs idxML presML L]) (lo := fun _ => noA std) (lb := noA) 5 (fn := Tryz.f105) (xs := fun L => [lstLs L l, .fn 106 [] []]) rfl rfl (by kernel_rfl) (by kernel_rfl) rfl tt_ok
    (sumOf_ok ⟨idxML_good ih, trivial⟩) (by kernel_rfl) ?_
  intro L P' Q' hL hP hQ
  (cbv; try simp only [sat_need, sat_must, sat_ite, sat_done, sat_yes, sat_ex, sat_all, sat_sup, sat_and, sat_fail, true_and, and_true])
  (subst hL; subst hQ; simp only [L2, L3, std] at *; try simp only [sySet, reduceCtorEq, forall_const, Int.reduceToNat, Int.reduceAdd, Int.reduceSub, Int.cast_ofNat_Int, Int.toNat_natCast, Nat.le_eq, Nat.sub_eq, ne_eq, Decidable.not_not, implies_true, true_and, and_true, wadd, wsub, wmul, decide_eq_true_eq, decide_eq_false_iff_not, Nat.succ_eq_add_one, imp_false, not_false_eq_true, not_true_eq_false, false_imp_iff, true_imp_iff] at *)
  simp only [rdwLs]
  refine ⟨⟨okwLs _, hz, ha⟩, ?_⟩
  have := idxW_any manyL l
  rw [ile_is, show anyML l = l.any manyL from rfl, ← this]; rfl
def idxMC (l : List Cl) : Int := idxW manyC l
def anyMC (l : List Cl) : Bool := l.any manyC
def noneMC (l : List Cl) (i : Nat) : Prop := noneW manyC l i
def presMC (l : List Cl) : Prop := allE preMC l
theorem idxMC_good (ih : Good Tryz.prog (prS 108 okGCl rdGCl manyC preMC std)) : Good Tryz.prog (idxS 162 108 okWCl rdWCl idxMC presMC std) := by
  intro xs p r h hp
  unfold idxS at h
  simp only at h
  split at h
  rotate_left
  · cases h
  rename_i x k
  cases hk : nbeq k 108 with
  | false => rw [hk] at h; cases h
  | true =>
  rw [hk] at h
  obtain rfl : k = 108 := of_decide_eq_true hk
  cases h
  obtain ⟨ho, hz, ha⟩ := hp
  refine ac_w1 clV_ok ho ?_
  have hz : lenE (rdW clV x) := hz
  have ha : presMC (rdW clV x) := ha
  show ACalls _ _ _ (.int .i64 (idxW manyC (rdW clV x)))
  generalize rdW clV x = l at hz ha ⊢
  refine acalls_L' (T := tt) (S := fun L => sumOf [prS 108 okGCl rdGCl manyC preMC L]) (lo := fun L => ixA L noneMC l) (lb := noA) 5 (fn := Tryz.f162) (xs := fun L => [lstCl L l, .fn 108 [] []]) rfl rfl (by kernel_rfl) (by kernel_rfl) rfl tt_ok
    (sumOf_ok ⟨ih, trivial⟩) (by kernel_rfl) ?_
  intro L P' Q' hL hP hQ
  (cbv; try simp only [sat_need, sat_must, sat_ite, sat_done, sat_yes, sat_ex, sat_all, sat_sup, sat_and, sat_fail, true_and, and_true])
  refine ⟨⟨0, ?_⟩, fun i hi => ?_⟩
  · (cbv; try simp only [sat_need, sat_must, sat_ite, sat_done, sat_yes, sat_ex, sat_all, sat_sup, sat_and, sat_fail, true_and, and_true])
    (subst hL; subst hQ; simp only [L2, L3, std] at *; try simp only [sySet, reduceCtorEq, forall_const, Int.reduceToNat, Int.reduceAdd, Int.reduceSub, Int.cast_ofNat_Int, Int.toNat_natCast, Nat.le_eq, Nat.sub_eq, ne_eq, Decidable.not_not, implies_true, true_and, and_true, wadd, wsub, wmul, decide_eq_true_eq, decide_eq_false_iff_not, Nat.succ_eq_add_one, imp_false, not_false_eq_true, not_true_eq_false, false_imp_iff, true_imp_iff] at *)
    exact noneW_0 _ _
  · cbv at hi
    have hG : ∀ y : Cl, L rdGCl (.agg [.str (L Cl.n y), .lst 6 (L lenW (L Cl.es y)) (fun i => epC L (L (L nthEp (L Cl.es y)) i))]) = y := by subst hL; exact fun y => (gK clV_ok y _ rfl).2
    have hO : ∀ y : Cl, L okGCl (.agg [.str (L Cl.n y), .lst 6 (L lenW (L Cl.es y)) (fun i => epC L (L (L nthEp (L Cl.es y)) i))]) := by subst hL; exact fun y => (gK clV_ok y _ rfl).1
    (cbv; try simp only [sat_need, sat_must, sat_ite, sat_done, sat_yes, sat_ex, sat_all, sat_sup, sat_and, sat_fail, true_and, and_true])
    simp only [hG, hO, true_and]
    have hw : lenW l = l.length := rfl
    have hz : l.length ≤ 1000000 := hz
    refine ⟨fun hlt => ⟨?_, ?_, fun hb => ?_, fun hb => ⟨i + 1, ?_⟩⟩, fun hge => ?_⟩
    · (subst hL; subst hQ; simp only [L2, L3, std] at *; try simp only [sySet, reduceCtorEq, forall_const, Int.reduceToNat, Int.reduceAdd, Int.reduceSub, Int.cast_ofNat_Int, Int.toNat_natCast, Nat.le_eq, Nat.sub_eq, ne_eq, Decidable.not_not, implies_true, true_and, and_true, wadd, wsub, wmul, decide_eq_true_eq, decide_eq_false_iff_not, Nat.succ_eq_add_one, imp_false, not_false_eq_true, not_true_eq_false, false_imp_iff, true_imp_iff] at *)
      omega
    · (subst hL; subst hQ; simp only [L2, L3, std] at *; try simp only [sySet, reduceCtorEq, forall_const, Int.reduceToNat, Int.reduceAdd, Int.reduceSub, Int.cast_ofNat_Int, Int.toNat_natCast, Nat.le_eq, Nat.sub_eq, ne_eq, Decidable.not_not, implies_true, true_and, and_true, wadd, wsub, wmul, decide_eq_true_eq, decide_eq_false_iff_not, Nat.succ_eq_add_one, imp_false, not_false_eq_true, not_true_eq_false, false_imp_iff, true_imp_iff] at *)
      exact ha _ (by rw [nthCl, nthW_at (V := clV) (by omega)]; exact List.getElem_mem _)
    · (subst hL; subst hQ; simp only [L2, L3, std] at *; try simp only [sySet, reduceCtorEq, forall_const, Int.reduceToNat, Int.reduceAdd, Int.reduceSub, Int.cast_ofNat_Int, Int.toNat_natCast, Nat.le_eq, Nat.sub_eq, ne_eq, Decidable.not_not, implies_true, true_and, and_true, wadd, wsub, wmul, decide_eq_true_eq, decide_eq_false_iff_not, Nat.succ_eq_add_one, imp_false, not_false_eq_true, not_true_eq_false, false_imp_iff, true_imp_iff] at *)
      exact (noneW_yes (V := clV) hi (by omega) hb).symm
    · (cbv; try simp only [sat_need, sat_must, sat_ite, sat_done, sat_yes, sat_ex, sat_all, sat_sup, sat_and, sat_fail, true_and, and_true])
      try simp only [hG]
      (subst hL; subst hQ; simp only [L2, L3, std] at *; try simp only [sySet, reduceCtorEq, forall_const, Int.reduceToNat, Int.reduceAdd, Int.reduceSub, Int.cast_ofNat_Int, Int.toNat_natCast, Nat.le_eq, Nat.sub_eq, ne_eq, Decidable.not_not, implies_true, true_and, and_true, wadd, wsub, wmul, decide_eq_true_eq, decide_eq_false_iff_not, Nat.succ_eq_add_one, imp_false, not_false_eq_true, not_true_eq_false, false_imp_iff, true_imp_iff] at *)
      exact ⟨by omega, noneW_step (V := clV) hi (by omega) hb, by omega⟩
    · (subst hL; subst hQ; simp only [L2, L3, std] at *; try simp only [sySet, reduceCtorEq, forall_const, Int.reduceToNat, Int.reduceAdd, Int.reduceSub, Int.cast_ofNat_Int, Int.toNat_natCast, Nat.le_eq, Nat.sub_eq, ne_eq, Decidable.not_not, implies_true, true_and, and_true, wadd, wsub, wmul, decide_eq_true_eq, decide_eq_false_iff_not, Nat.succ_eq_add_one, imp_false, not_false_eq_true, not_true_eq_false, false_imp_iff, true_imp_iff] at *)
      exact (noneW_end hi (by omega)).symm
theorem anyMC_good (ih : Good Tryz.prog (prS 108 okGCl rdGCl manyC preMC std)) : Good Tryz.prog (anyS 107 108 okWCl rdWCl anyMC presMC std) := by
  intro xs p r h hp
  unfold anyS at h
  simp only at h
  split at h
  rotate_left
  · cases h
  rename_i x k
  cases hk : nbeq k 108 with
  | false => rw [hk] at h; cases h
  | true =>
  rw [hk] at h
  obtain rfl : k = 108 := of_decide_eq_true hk
  cases h
  obtain ⟨ho, hz, ha⟩ := hp
  refine ac_w1 clV_ok ho ?_
  have hz : lenE (rdW clV x) := hz
  have ha : presMC (rdW clV x) := ha
  show ACalls _ _ _ (.bool (anyMC (rdW clV x)))
  generalize rdW clV x = l at hz ha ⊢
  refine acalls_L' (T := tt) (S := fun L => sumOf [idxS 162 108 okWCl rdWCl idxMC presMC L]) (lo := fun _ => noA std) (lb := noA) 5 (fn := Tryz.f107) (xs := fun L => [lstCl L l, .fn 108 [] []]) rfl rfl (by kernel_rfl) (by kernel_rfl) rfl tt_ok
    (sumOf_ok ⟨idxMC_good ih, trivial⟩) (by kernel_rfl) ?_
  intro L P' Q' hL hP hQ
  (cbv; try simp only [sat_need, sat_must, sat_ite, sat_done, sat_yes, sat_ex, sat_all, sat_sup, sat_and, sat_fail, true_and, and_true])
  (subst hL; subst hQ; simp only [L2, L3, std] at *; try simp only [sySet, reduceCtorEq, forall_const, Int.reduceToNat, Int.reduceAdd, Int.reduceSub, Int.cast_ofNat_Int, Int.toNat_natCast, Nat.le_eq, Nat.sub_eq, ne_eq, Decidable.not_not, implies_true, true_and, and_true, wadd, wsub, wmul, decide_eq_true_eq, decide_eq_false_iff_not, Nat.succ_eq_add_one, imp_false, not_false_eq_true, not_true_eq_false, false_imp_iff, true_imp_iff] at *)
  simp only [rdwCl]
  refine ⟨⟨okwCl _, hz, ha⟩, ?_⟩
  have := idxW_any manyC l
  rw [ile_is, show anyMC l = l.any manyC from rfl, ← this]; rfl
def idxBE (l : List Ep) : Int := idxW belE l
def anyBE (l : List Ep) : Bool := l.any belE
def noneBE (l : List Ep) (i : Nat) : Prop := noneW belE l i
def presBE (l : List Ep) : Prop := allE preBE l
theorem idxBE_good (ih : Good Tryz.prog (prS 111 okGEp rdGEp belE preBE std)) : Good Tryz.prog (idxS 163 111 okWEp rdWEp idxBE presBE std) := by
  intro xs p r h hp
  unfold idxS at h
  simp only at h
  split at h
  rotate_left
  · cases h
  rename_i x k
  cases hk : nbeq k 111 with
  | false => rw [hk] at h; cases h
  | true =>
  rw [hk] at h
  obtain rfl : k = 111 := of_decide_eq_true hk
  cases h
  obtain ⟨ho, hz, ha⟩ := hp
  refine ac_w1 epV_ok ho ?_
  have hz : lenE (rdW epV x) := hz
  have ha : presBE (rdW epV x) := ha
  show ACalls _ _ _ (.int .i64 (idxW belE (rdW epV x)))
  generalize rdW epV x = l at hz ha ⊢
  refine acalls_L' (T := tt) (S := fun L => sumOf [prS 111 okGEp rdGEp belE preBE L]) (lo := fun L => ixA L noneBE l) (lb := noA) 5 (fn := Tryz.f163) (xs := fun L => [lstEp L l, .fn 111 [] []]) rfl rfl (by kernel_rfl) (by kernel_rfl) rfl tt_ok
    (sumOf_ok ⟨ih, trivial⟩) (by kernel_rfl) ?_
  intro L P' Q' hL hP hQ
  (cbv; try simp only [sat_need, sat_must, sat_ite, sat_done, sat_yes, sat_ex, sat_all, sat_sup, sat_and, sat_fail, true_and, and_true])
  refine ⟨⟨0, ?_⟩, fun i hi => ?_⟩
  · (cbv; try simp only [sat_need, sat_must, sat_ite, sat_done, sat_yes, sat_ex, sat_all, sat_sup, sat_and, sat_fail, true_and, and_true])
    (subst hL; subst hQ; simp only [L2, L3, std] at *; try simp only [sySet, reduceCtorEq, forall_const, Int.reduceToNat, Int.reduceAdd, Int.reduceSub, Int.cast_ofNat_Int, Int.toNat_natCast, Nat.le_eq, Nat.sub_eq, ne_eq, Decidable.not_not, implies_true, true_and, and_true, wadd, wsub, wmul, decide_eq_true_eq, decide_eq_false_iff_not, Nat.succ_eq_add_one, imp_false, not_false_eq_true, not_true_eq_false, false_imp_iff, true_imp_iff] at *)
    exact noneW_0 _ _
  · cbv at hi
    have hG : ∀ y : Ep, L rdGEp (.agg [.int .u8 (L Pl.a (L Ep.pl y)), .int .u8 (L Pl.b (L Ep.pl y)), .int .u8 (L Pl.c (L Ep.pl y)), .int .u8 (L Pl.d (L Ep.pl y)), .int .u16 (L Pl.p (L Ep.pl y)), .int .i64 (L Ep.w y)]) = y := by subst hL; exact fun y => (gK epV_ok y _ rfl).2
    have hO : ∀ y : Ep, L okGEp (.agg [.int .u8 (L Pl.a (L Ep.pl y)), .int .u8 (L Pl.b (L Ep.pl y)), .int .u8 (L Pl.c (L Ep.pl y)), .int .u8 (L Pl.d (L Ep.pl y)), .int .u16 (L Pl.p (L Ep.pl y)), .int .i64 (L Ep.w y)]) := by subst hL; exact fun y => (gK epV_ok y _ rfl).1
    (cbv; try simp only [sat_need, sat_must, sat_ite, sat_done, sat_yes, sat_ex, sat_all, sat_sup, sat_and, sat_fail, true_and, and_true])
    simp only [hG, hO, true_and]
    have hw : lenW l = l.length := rfl
    have hz : l.length ≤ 1000000 := hz
    refine ⟨fun hlt => ⟨?_, ?_, fun hb => ?_, fun hb => ⟨i + 1, ?_⟩⟩, fun hge => ?_⟩
    · (subst hL; subst hQ; simp only [L2, L3, std] at *; try simp only [sySet, reduceCtorEq, forall_const, Int.reduceToNat, Int.reduceAdd, Int.reduceSub, Int.cast_ofNat_Int, Int.toNat_natCast, Nat.le_eq, Nat.sub_eq, ne_eq, Decidable.not_not, implies_true, true_and, and_true, wadd, wsub, wmul, decide_eq_true_eq, decide_eq_false_iff_not, Nat.succ_eq_add_one, imp_false, not_false_eq_true, not_true_eq_false, false_imp_iff, true_imp_iff] at *)
      omega
    · (subst hL; subst hQ; simp only [L2, L3, std] at *; try simp only [sySet, reduceCtorEq, forall_const, Int.reduceToNat, Int.reduceAdd, Int.reduceSub, Int.cast_ofNat_Int, Int.toNat_natCast, Nat.le_eq, Nat.sub_eq, ne_eq, Decidable.not_not, implies_true, true_and, and_true, wadd, wsub, wmul, decide_eq_true_eq, decide_eq_false_iff_not, Nat.succ_eq_add_one, imp_false, not_false_eq_true, not_true_eq_false, false_imp_iff, true_imp_iff] at *)
      exact ha _ (by rw [nthEp, nthW_at (V := epV) (by omega)]; exact List.getElem_mem _)
    · (subst hL; subst hQ; simp only [L2, L3, std] at *; try simp only [sySet, reduceCtorEq, forall_const, Int.reduceToNat, Int.reduceAdd, Int.reduceSub, Int.cast_ofNat_Int, Int.toNat_natCast, Nat.le_eq, Nat.sub_eq, ne_eq, Decidable.not_not, implies_true, true_and, and_true, wadd, wsub, wmul, decide_eq_true_eq, decide_eq_false_iff_not, Nat.succ_eq_add_one, imp_false, not_false_eq_true, not_true_eq_false, false_imp_iff, true_imp_iff] at *)
      exact (noneW_yes (V := epV) hi (by omega) hb).symm
    · (cbv; try simp only [sat_need, sat_must, sat_ite, sat_done, sat_yes, sat_ex, sat_all, sat_sup, sat_and, sat_fail, true_and, and_true])
      try simp only [hG]
      (subst hL; subst hQ; simp only [L2, L3, std] at *; try simp only [sySet, reduceCtorEq, forall_const, Int.reduceToNat, Int.reduceAdd, Int.reduceSub, Int.cast_ofNat_Int, Int.toNat_natCast, Nat.le_eq, Nat.sub_eq, ne_eq, Decidable.not_not, implies_true, true_and, and_true, wadd, wsub, wmul, decide_eq_true_eq, decide_eq_false_iff_not, Nat.succ_eq_add_one, imp_false, not_false_eq_true, not_true_eq_false, false_imp_iff, true_imp_iff] at *)
      exact ⟨by omega, noneW_step (V := epV) hi (by omega) hb, by omega⟩
    · (subst hL; subst hQ; simp only [L2, L3, std] at *; try simp only [sySet, reduceCtorEq, forall_const, Int.reduceToNat, Int.reduceAdd, Int.reduceSub, Int.cast_ofNat_Int, Int.toNat_natCast, Nat.le_eq, Nat.sub_eq, ne_eq, Decidable.not_not, implies_true, true_and, and_true, wadd, wsub, wmul, decide_eq_true_eq, decide_eq_false_iff_not, Nat.succ_eq_add_one, imp_false, not_false_eq_true, not_true_eq_false, false_imp_iff, true_imp_iff] at *)
      exact (noneW_end hi (by omega)).symm
theorem anyBE_good (ih : Good Tryz.prog (prS 111 okGEp rdGEp belE preBE std)) : Good Tryz.prog (anyS 110 111 okWEp rdWEp anyBE presBE std) := by
  intro xs p r h hp
  unfold anyS at h
  simp only at h
  split at h
  rotate_left
  · cases h
  rename_i x k
  cases hk : nbeq k 111 with
  | false => rw [hk] at h; cases h
  | true =>
  rw [hk] at h
  obtain rfl : k = 111 := of_decide_eq_true hk
  cases h
  obtain ⟨ho, hz, ha⟩ := hp
  refine ac_w1 epV_ok ho ?_
  have hz : lenE (rdW epV x) := hz
  have ha : presBE (rdW epV x) := ha
  show ACalls _ _ _ (.bool (anyBE (rdW epV x)))
  generalize rdW epV x = l at hz ha ⊢
  refine acalls_L' (T := tt) (S := fun L => sumOf [idxS 163 111 okWEp rdWEp idxBE presBE L]) (lo := fun _ => noA std) (lb := noA) 5 (fn := Tryz.f110) (xs := fun L => [lstEp L l, .fn 111 [] []]) rfl rfl (by kernel_rfl) (by kernel_rfl) rfl tt_ok
    (sumOf_ok ⟨idxBE_good ih, trivial⟩) (by kernel_rfl) ?_
  intro L P' Q' hL hP hQ
  (cbv; try simp only [sat_need, sat_must, sat_ite, sat_done, sat_yes, sat_ex, sat_all, sat_sup, sat_and, sat_fail, true_and, and_true])
  (subst hL; subst hQ; simp only [L2, L3, std] at *; try simp only [sySet, reduceCtorEq, forall_const, Int.reduceToNat, Int.reduceAdd, Int.reduceSub, Int.cast_ofNat_Int, Int.toNat_natCast, Nat.le_eq, Nat.sub_eq, ne_eq, Decidable.not_not, implies_true, true_and, and_true, wadd, wsub, wmul, decide_eq_true_eq, decide_eq_false_iff_not, Nat.succ_eq_add_one, imp_false, not_false_eq_true, not_true_eq_false, false_imp_iff, true_imp_iff] at *)
  simp only [rdwEp]
  refine ⟨⟨okwEp _, hz, ha⟩, ?_⟩
  have := idxW_any belE l
  rw [ile_is, show anyBE l = l.any belE from rfl, ← this]; rfl
theorem bC_good : Good Tryz.prog (prS 109 okGCl rdGCl belC preBC std) := by
  intro xs p r h hp
  dsimp only [prS] at h ⊢
  split at h <;> cases h
  try simp only [L2, L3, std] at hp ⊢
  rename_i x
  refine ac_g clV_ok hp.1 ?_
  have hp := hp.2
  show ACalls _ _ _ (.bool (belC (rdG clV x)))
  have hp : preBC (rdG clV x) := hp
  generalize rdG clV x = y at hp ⊢
  refine acalls_L' (T := tt) (S := fun L => sumOf [anyS 110 111 okWEp rdWEp anyBE presBE L]) (lo := fun _ => noA std) (lb := noA) 5 (fn := Tryz.f109) (xs := fun L => [.agg [.str (L Cl.n y), lstEp L (L Cl.es y)]]) rfl rfl (by kernel_rfl) (by kernel_rfl) rfl tt_ok (sumOf_ok ⟨anyBE_good bE_good, trivial⟩) (by kernel_rfl) ?_
  intro L P' Q' hL hP hQ
  (cbv; try simp only [sat_need, sat_must, sat_ite, sat_done, sat_yes, sat_ex, sat_all, sat_sup, sat_and, sat_fail, true_and, and_true])
  (subst hL; subst hQ; simp only [L2, L3, std] at *; try simp only [sySet, reduceCtorEq, forall_const, Int.reduceToNat, Int.reduceAdd, Int.reduceSub, Int.cast_ofNat_Int, Int.toNat_natCast, Nat.le_eq, Nat.sub_eq, ne_eq, Decidable.not_not, implies_true, true_and, and_true, wadd, wsub, wmul, decide_eq_true_eq, decide_eq_false_iff_not, Nat.succ_eq_add_one, imp_false, not_false_eq_true, not_true_eq_false, false_imp_iff, true_imp_iff] at *)
  simp only [rdwEp]
  exact ⟨⟨okwEp _, hp, fun _ _ => trivial⟩, rfl⟩
def idxBC (l : List Cl) : Int := idxW belC l
def anyBC (l : List Cl) : Bool := l.any belC
def noneBC (l : List Cl) (i : Nat) : Prop := noneW belC l i
def presBC (l : List Cl) : Prop := allE preBC l
theorem idxBC_good (ih : Good Tryz.prog (prS 109 okGCl rdGCl belC preBC std)) : Good Tryz.prog (idxS 162 109 okWCl rdWCl idxBC presBC std) := by
  intro xs p r h hp
  unfold idxS at h
  simp only at h
  split at h
  rotate_left
  · cases h
  rename_i x k
  cases hk : nbeq k 109 with
  | false => rw [hk] at h; cases h
  | true =>
  rw [hk] at h
  obtain rfl : k = 109 := of_decide_eq_true hk
  cases h
  obtain ⟨ho, hz, ha⟩ := hp
  refine ac_w1 clV_ok ho ?_
  have hz : lenE (rdW clV x) := hz
  have ha : presBC (rdW clV x) := ha
  show ACalls _ _ _ (.int .i64 (idxW belC (rdW clV x)))
  generalize rdW clV x = l at hz ha ⊢
  refine acalls_L' (T := tt) (S := fun L => sumOf [prS 109 okGCl rdGCl belC preBC L]) (lo := fun L => ixA L noneBC l) (lb := noA) 5 (fn := Tryz.f162) (xs := fun L => [lstCl L l, .fn 109 [] []]) rfl rfl (by kernel_rfl) (by kernel_rfl) rfl tt_ok
    (sumOf_ok ⟨ih, trivial⟩) (by kernel_rfl) ?_
  intro L P' Q' hL hP hQ
  (cbv; try simp only [sat_need, sat_must, sat_ite, sat_done, sat_yes, sat_ex, sat_all, sat_sup, sat_and, sat_fail, true_and, and_true])
  refine ⟨⟨0, ?_⟩, fun i hi => ?_⟩
  · (cbv; try simp only [sat_need, sat_must, sat_ite, sat_done, sat_yes, sat_ex, sat_all, sat_sup, sat_and, sat_fail, true_and, and_true])
    (subst hL; subst hQ; simp only [L2, L3, std] at *; try simp only [sySet, reduceCtorEq, forall_const, Int.reduceToNat, Int.reduceAdd, Int.reduceSub, Int.cast_ofNat_Int, Int.toNat_natCast, Nat.le_eq, Nat.sub_eq, ne_eq, Decidable.not_not, implies_true, true_and, and_true, wadd, wsub, wmul, decide_eq_true_eq, decide_eq_false_iff_not, Nat.succ_eq_add_one, imp_false, not_false_eq_true, not_true_eq_false, false_imp_iff, true_imp_iff] at *)
    exact noneW_0 _ _
  · cbv at hi
    have hG : ∀ y : Cl, L rdGCl (.agg [.str (L Cl.n y), .lst 6 (L lenW (L Cl.es y)) (fun i => epC L (L (L nthEp (L Cl.es y)) i))]) = y := by subst hL; exact fun y => (gK clV_ok y _ rfl).2
    have hO : ∀ y : Cl, L okGCl (.agg [.str (L Cl.n y), .lst 6 (L lenW (L Cl.es y)) (fun i => epC L (L (L nthEp (L Cl.es y)) i))]) := by subst hL; exact fun y => (gK clV_ok y _ rfl).1
    (cbv; try simp only [sat_need, sat_must, sat_ite, sat_done, sat_yes, sat_ex, sat_all, sat_sup, sat_and, sat_fail, true_and, and_true])
    simp only [hG, hO, true_and]
    have hw : lenW l = l.length := rfl
    have hz : l.length ≤ 1000000 := hz
    refine ⟨fun hlt => ⟨?_, ?_, fun hb => ?_, fun hb => ⟨i + 1, ?_⟩⟩, fun hge => ?_⟩
    · (subst hL; subst hQ; simp only [L2, L3, std] at *; try simp only [sySet, reduceCtorEq, forall_const, Int.reduceToNat, Int.reduceAdd, Int.reduceSub, Int.cast_ofNat_Int, Int.toNat_natCast, Nat.le_eq, Nat.sub_eq, ne_eq, Decidable.not_not, implies_true, true_and, and_true, wadd, wsub, wmul, decide_eq_true_eq, decide_eq_false_iff_not, Nat.succ_eq_add_one, imp_false, not_false_eq_true, not_true_eq_false, false_imp_iff, true_imp_iff] at *)
      omega
    · (subst hL; subst hQ; simp only [L2, L3, std] at *; try simp only [sySet, reduceCtorEq, forall_const, Int.reduceToNat, Int.reduceAdd, Int.reduceSub, Int.cast_ofNat_Int, Int.toNat_natCast, Nat.le_eq, Nat.sub_eq, ne_eq, Decidable.not_not, implies_true, true_and, and_true, wadd, wsub, wmul, decide_eq_true_eq, decide_eq_false_iff_not, Nat.succ_eq_add_one, imp_false, not_false_eq_true, not_true_eq_false, false_imp_iff, true_imp_iff] at *)
      exact ha _ (by rw [nthCl, nthW_at (V := clV) (by omega)]; exact List.getElem_mem _)
    · (subst hL; subst hQ; simp only [L2, L3, std] at *; try simp only [sySet, reduceCtorEq, forall_const, Int.reduceToNat, Int.reduceAdd, Int.reduceSub, Int.cast_ofNat_Int, Int.toNat_natCast, Nat.le_eq, Nat.sub_eq, ne_eq, Decidable.not_not, implies_true, true_and, and_true, wadd, wsub, wmul, decide_eq_true_eq, decide_eq_false_iff_not, Nat.succ_eq_add_one, imp_false, not_false_eq_true, not_true_eq_false, false_imp_iff, true_imp_iff] at *)
      exact (noneW_yes (V := clV) hi (by omega) hb).symm
    · (cbv; try simp only [sat_need, sat_must, sat_ite, sat_done, sat_yes, sat_ex, sat_all, sat_sup, sat_and, sat_fail, true_and, and_true])
      try simp only [hG]
      (subst hL; subst hQ; simp only [L2, L3, std] at *; try simp only [sySet, reduceCtorEq, forall_const, Int.reduceToNat, Int.reduceAdd, Int.reduceSub, Int.cast_ofNat_Int, Int.toNat_natCast, Nat.le_eq, Nat.sub_eq, ne_eq, Decidable.not_not, implies_true, true_and, and_true, wadd, wsub, wmul, decide_eq_true_eq, decide_eq_false_iff_not, Nat.succ_eq_add_one, imp_false, not_false_eq_true, not_true_eq_false, false_imp_iff, true_imp_iff] at *)
      exact ⟨by omega, noneW_step (V := clV) hi (by omega) hb, by omega⟩
    · (subst hL; subst hQ; simp only [L2, L3, std] at *; try simp only [sySet, reduceCtorEq, forall_const, Int.reduceToNat, Int.reduceAdd, Int.reduceSub, Int.cast_ofNat_Int, Int.toNat_natCast, Nat.le_eq, Nat.sub_eq, ne_eq, Decidable.not_not, implies_true, true_and, and_true, wadd, wsub, wmul, decide_eq_true_eq, decide_eq_false_iff_not, Nat.succ_eq_add_one, imp_false, not_false_eq_true, not_true_eq_false, false_imp_iff, true_imp_iff] at *)
      exact (noneW_end hi (by omega)).symm
theorem anyBC_good (ih : Good Tryz.prog (prS 109 okGCl rdGCl belC preBC std)) : Good Tryz.prog (anyS 107 109 okWCl rdWCl anyBC presBC std) := by
  intro xs p r h hp
  unfold anyS at h
  simp only at h
  split at h
  rotate_left
  · cases h
  rename_i x k
  cases hk : nbeq k 109 with
  | false => rw [hk] at h; cases h
  | true =>
  rw [hk] at h
  obtain rfl : k = 109 := of_decide_eq_true hk
  cases h
  obtain ⟨ho, hz, ha⟩ := hp
  refine ac_w1 clV_ok ho ?_
  have hz : lenE (rdW clV x) := hz
  have ha : presBC (rdW clV x) := ha
  show ACalls _ _ _ (.bool (anyBC (rdW clV x)))
  generalize rdW clV x = l at hz ha ⊢
  refine acalls_L' (T := tt) (S := fun L => sumOf [idxS 162 109 okWCl rdWCl idxBC presBC L]) (lo := fun _ => noA std) (lb := noA) 5 (fn := Tryz.f107) (xs := fun L => [lstCl L l, .fn 109 [] []]) rfl rfl (by kernel_rfl) (by kernel_rfl) rfl tt_ok
    (sumOf_ok ⟨idxBC_good ih, trivial⟩) (by kernel_rfl) ?_
  intro L P' Q' hL hP hQ
  (cbv; try simp only [sat_need, sat_must, sat_ite, sat_done, sat_yes, sat_ex, sat_all, sat_sup, sat_and, sat_fail, true_and, and_true])
  (subst hL; subst hQ; simp only [L2, L3, std] at *; try simp only [sySet, reduceCtorEq, forall_const, Int.reduceToNat, Int.reduceAdd, Int.reduceSub, Int.cast_ofNat_Int, Int.toNat_natCast, Nat.le_eq, Nat.sub_eq, ne_eq, Decidable.not_not, implies_true, true_and, and_true, wadd, wsub, wmul, decide_eq_true_eq, decide_eq_false_iff_not, Nat.succ_eq_add_one, imp_false, not_false_eq_true, not_true_eq_false, false_imp_iff, true_imp_iff] at *)
  simp only [rdwCl]
  refine ⟨⟨okwCl _, hz, ha⟩, ?_⟩
  have := idxW_any belC l
  rw [ile_is, show anyBC l = l.any belC from rfl, ← this]; rfl
end Sy
end Go.Proofs.YtckbbcjbbmgmoaaGreatDoor
namespace Go.Proofs.YtckbbcjbbmgmoaaGreatDoor
namespace Sy
open Go Go.RowKit
set_option maxRecDepth 100000
set_option linter.unusedSimpArgs false
set_option linter.unusedVariables false

/-- A value's measure. -/
structure Fits (v : CV) (a b : Nat) : Prop where
  wf : wfV v
  sz : sizeC v ≤ a
  tx : (textV v).length ≤ b
theorem Fits.up {v : CV} {a b a' b' : Nat} (h : Fits v a b) (ha : a ≤ a') (hb : b ≤ b') : Fits v a' b' := ⟨h.wf, by have := h.sz; omega, by have := h.tx; omega⟩
theorem fit_num {n : Int} (h : shortOk n) : Fits (numV n) 1 11 := by
  refine ⟨?_, ?_, ?_⟩
  · rw [numV, wfV, wfLs]; exact ⟨h, by decide, trivial⟩
  · rw [numV, sizeC_mk, sizeCs_nil]; omega
  · rw [numV, textV_mk, if_pos rfl, List.length_append]
    have := shortZ_len h
    have e : (byteK 1).length = 1 := rfl
    omega
theorem fit_txt {s : List UInt8} {m : Nat} (h : s.length ≤ m) (hm : m ≤ 1000000) : Fits (txtV s) 1 (11 + m) := by
  refine ⟨?_, ?_, ?_⟩
  · rw [txtV, wfV, wfLs]; exact ⟨⟨by decide, by decide⟩, by omega, trivial⟩
  · rw [txtV, sizeC_mk, sizeCs_nil]; omega
  · rw [txtV, textV_mk, if_neg (by decide), if_pos rfl, List.length_append, List.length_append]
    have := shortZ_len (n := (s.length : Int)) ⟨by omega, by omega⟩
    have e : (byteK 2).length = 1 := rfl
    omega
theorem fit_ls {a b : Nat} : ∀ {l : List CV}, (∀ v ∈ l, Fits v a b) → wfLs l ∧ sizeCs l ≤ l.length * a ∧ (textLs l).length ≤ l.length * b
  | [], _ => by rw [wfLs, sizeCs_nil, textLs]; exact ⟨trivial, by simp, by simp⟩
  | v :: l, h => by
    obtain ⟨i1, i2, i3⟩ := fit_ls (l := l) fun w hw => h w (by simp [hw])
    have hv := h v (by simp)
    have h2 := hv.sz
    have h3 := hv.tx
    rw [wfLs, sizeCs_cons, textLs, List.length_append, List.length_cons, Nat.succ_mul, Nat.succ_mul]
    exact ⟨⟨hv.wf, i1⟩, by omega, by omega⟩
theorem fit_row {l : List CV} {a b : Nat} (m : Nat) (h : ∀ v ∈ l, Fits v a b) (hl : l.length ≤ m) (hm : m ≤ 1000) : Fits (rowV l) (m * a + 1) (11 + m * b) := by
  obtain ⟨i1, i2, i3⟩ := fit_ls h
  have e1 := Nat.mul_le_mul_right a hl
  have e2 := Nat.mul_le_mul_right b hl
  refine ⟨?_, ?_, ?_⟩
  · rw [rowV, wfV]; exact ⟨⟨by decide, by decide⟩, by decide, i1⟩
  · rw [rowV, sizeC_mk]; omega
  · rw [rowV, textV_mk, if_neg (by decide), if_neg (by decide), List.length_append, List.length_append]
    have := shortZ_len (n := (l.length : Int)) ⟨by omega, by omega⟩
    have e : (byteK 3).length = 1 := rfl
    omega
def lightR (x : Rt) : Bool := decide (x.h.length ≤ 300) && decide (x.p.length ≤ 300) && decide (x.c.length ≤ 300)
def lightL (x : Ls) : Bool := decide (x.n.length ≤ 300) && decide (x.rs.length ≤ 12) && x.rs.all lightR
def lightC (x : Cl) : Bool := decide (x.n.length ≤ 300) && decide (x.es.length ≤ 12)
def lightF (x : Cf) : Bool := decide (x.ls.length ≤ 12) && decide (x.cs.length ≤ 12) && x.ls.all lightL && x.cs.all lightC
def wfRt (x : Rt) : Prop := shortOk x.i
def wfEp (x : Ep) : Prop := plOk x.pl ∧ -9223372036854775808 ≤ x.w ∧ x.w ≤ 9223372036854775807
def wfLsn (x : Ls) : Prop := plOk x.pl ∧ ∀ r ∈ x.rs, wfRt r
def wfCl (x : Cl) : Prop := ∀ e ∈ x.es, wfEp e
def wfCf (x : Cf) : Prop := shortOk x.v ∧ (∀ l ∈ x.ls, wfLsn l) ∧ ∀ c ∈ x.cs, wfCl c
def cfVal (x : Cf) : CV := rowV [numV x.v, lssVal x.ls, clsVal x.cs]
theorem plB_len (x : Pl) : (plB x).length = 6 := rfl
theorem fit_rt {x : Rt} (hl : lightR x = true) (hw : wfRt x) : Fits (rtVal x) 5 1255 := by
  simp only [lightR, Bool.and_eq_true, decide_eq_true_eq] at hl
  refine fit_row (a := 1) (b := 311) 4 (fun v hv => ?_) (Nat.le_of_ble_eq_true rfl) (by decide)
  simp only [List.mem_cons, List.not_mem_nil, or_false] at hv
  rcases hv with rfl | rfl | rfl | rfl
  · exact fit_txt hl.1.1 (by omega)
  · exact fit_txt hl.1.2 (by omega)
  · exact fit_txt hl.2 (by omega)
  · exact (fit_num hw).up (by omega) (by omega)
theorem fit_each {α : Type} {val : α → CV} {l : List α} {a b : Nat} (m : Nat) (h : ∀ x ∈ l, Fits (val x) a b) (hl : l.length ≤ m) (hm : m ≤ 1000) : Fits (eachV val l) (m * a + 1) (11 + m * b) :=
  fit_row m (fun v hv => by obtain ⟨x, hx, rfl⟩ := List.mem_map.1 hv; exact h x hx) (by simpa using hl) hm
theorem fit_ep {x : Ep} (hw : wfEp x) : Fits (epVal x) 3 45 := by
  refine fit_row (a := 1) (b := 17) 2 (fun v hv => ?_) (Nat.le_of_ble_eq_true rfl) (by decide)
  simp only [List.mem_cons, List.not_mem_nil, or_false] at hv
  rcases hv with rfl | rfl
  · exact fit_txt (m := 6) (Nat.le_of_eq (plB_len _)) (by omega)
  · exact (fit_num ⟨by omega, by omega⟩).up (by omega) (by omega)
theorem fit_lsn {x : Ls} (hl : lightL x = true) (hw : wfLsn x) : Fits (lsVal x) 184 45224 := by
  simp only [lightL, Bool.and_eq_true, decide_eq_true_eq, List.all_eq_true] at hl
  refine fit_row (a := 61) (b := 15071) 3 (fun v hv => ?_) (Nat.le_of_ble_eq_true rfl) (by decide)
  simp only [List.mem_cons, List.not_mem_nil, or_false] at hv
  rcases hv with rfl | rfl | rfl
  · exact (fit_txt hl.1.1 (by omega)).up (by omega) (by omega)
  · exact (fit_txt (m := 6) (Nat.le_of_eq (plB_len _)) (by omega)).up (by omega) (by omega)
  · exact (fit_each (a := 5) (b := 1255) 12 (fun r hr => fit_rt (hl.2 r hr) (hw.2 r hr)) hl.1.2 (by omega)).up (by omega) (by omega)
theorem fit_cl {x : Cl} (hl : lightC x = true) (hw : wfCl x) : Fits (clVal x) 75 1113 := by
  simp only [lightC, Bool.and_eq_true, decide_eq_true_eq] at hl
  refine fit_row (a := 37) (b := 551) 2 (fun v hv => ?_) (Nat.le_of_ble_eq_true rfl) (by decide)
  simp only [List.mem_cons, List.not_mem_nil, or_false] at hv
  rcases hv with rfl | rfl
  · exact (fit_txt hl.1 (by omega)).up (by omega) (by omega)
  · exact (fit_each (a := 3) (b := 45) 12 (fun e he => fit_ep (hw e he)) hl.2 (by omega)).up (by omega) (by omega)
theorem fit_cf {x : Cf} (hl : lightF x = true) (hw : wfCf x) : Fits (cfVal x) 7000 2000000 := by
  simp only [lightF, Bool.and_eq_true, decide_eq_true_eq, List.all_eq_true] at hl
  refine (fit_row (a := 2209) (b := 542699) 3 (fun v hv => ?_) (Nat.le_of_ble_eq_true rfl) (by decide)).up (by decide) (by decide)
  simp only [List.mem_cons, List.not_mem_nil, or_false] at hv
  rcases hv with rfl | rfl | rfl
  · exact (fit_num hw.1).up (by omega) (by omega)
  · exact (fit_each (a := 184) (b := 45224) 12 (fun r hr => fit_lsn (hl.1.2 r hr) (hw.2.1 r hr)) hl.1.1.1 (by omega)).up (by omega) (by omega)
  · exact (fit_each (a := 75) (b := 1113) 12 (fun r hr => fit_cl (hl.2 r hr) (hw.2.2 r hr)) hl.1.1.2 (by omega)).up (by omega) (by omega)
/-! ### The writing says what was written -/
theorem text_inj {v w : CV} (hv : wfV v) (hw : wfV w) (pv : putE v = 0) (pw : putE w = 0) (h : putT v = putT w) : v = w := by
  obtain ⟨a1, a2, a3, a4⟩ := put_ok pv
  obtain ⟨b1, b2, b3, b4⟩ := put_ok pw
  rw [a4, b4] at h
  have e1 := next_of hv a1 a2 (s := []) (by simpa using a3)
  have e2 := next_of hw b1 b2 (s := []) (by simpa using b3)
  rw [h, e2] at e1
  injection e1 with e1 _ _
  exact e1.symm
theorem num_inj {a b : Int} (h : numV a = numV b) : a = b := by simpa [numV] using h
theorem txt_inj {a b : List UInt8} (h : txtV a = txtV b) : a = b := by simpa [txtV] using h
theorem row_inj {a b : List CV} (h : rowV a = rowV b) : a = b := by simpa [rowV] using h
theorem each_inj {α : Type} {val : α → CV} {p : α → Prop} (hv : ∀ x y, p x → p y → val x = val y → x = y) : ∀ {l m : List α}, (∀ x ∈ l, p x) → (∀ x ∈ m, p x) → eachV val l = eachV val m → l = m := by
  intro l m hl hm h
  have h := row_inj h
  induction l generalizing m with
  | nil => cases m with
    | nil => rfl
    | cons y m => simp at h
  | cons x l ih => cases m with
    | nil => simp at h
    | cons y m =>
      simp only [List.map_cons, List.cons.injEq] at h
      rw [hv x y (hl x (by simp)) (hm y (by simp)) h.1, ih (fun z hz => hl z (by simp [hz])) (fun z hz => hm z (by simp [hz])) (congrArg rowV h.2) h.2]
theorem ubs_inj {a b : Int} (ha : 0 ≤ a ∧ a ≤ 255) (hb : 0 ≤ b ∧ b ≤ 255) (h : ub a = ub b) : a = b := by
  rw [← ub_nat ha.1 ha.2, ← ub_nat hb.1 hb.2, h]
theorem plBs_inj {x y : Pl} (hx : plOk x) (hy : plOk y) (h : plB x = plB y) : x = y := by
  obtain ⟨a, b, c, d, p⟩ := x
  obtain ⟨a', b', c', d', p'⟩ := y
  obtain ⟨h1, h2, h3, h4, h5, h6⟩ := hx
  obtain ⟨k1, k2, k3, k4, k5, k6⟩ := hy
  simp only at h1 h2 h3 h4 h5 h6 k1 k2 k3 k4 k5 k6
  simp only [plB, List.cons.injEq, and_true] at h
  obtain ⟨e1, e2, e3, e4, e5, e6⟩ := h
  have e5 := ubs_inj (by omega) (by omega) e5
  have e6 := ubs_inj (by omega) (by omega) e6
  rw [Pl.mk.injEq]
  exact ⟨ubs_inj h1 k1 e1, ubs_inj h2 k2 e2, ubs_inj h3 k3 e3, ubs_inj h4 k4 e4, by omega⟩
theorem rt_inj {x y : Rt} (h : rtVal x = rtVal y) : x = y := by
  have h := row_inj h
  simp only [List.cons.injEq, and_true] at h
  obtain ⟨h1, h2, h3, h4⟩ := h
  cases x; cases y
  rw [Rt.mk.injEq]
  exact ⟨txt_inj h1, txt_inj h2, txt_inj h3, num_inj h4⟩
theorem ep_inj (x y : Ep) (hx : wfEp x ∧ 0 ≤ x.w) (hy : wfEp y ∧ 0 ≤ y.w) (h : epVal x = epVal y) : x = y := by
  have h := row_inj h
  simp only [List.cons.injEq, and_true] at h
  obtain ⟨h1, h2⟩ := h
  have h2 := num_inj h2
  obtain ⟨⟨x1, x2, x3⟩, x4⟩ := hx
  obtain ⟨⟨y1, y2, y3⟩, y4⟩ := hy
  have h1 := plBs_inj x1 y1 (txt_inj h1)
  cases x; cases y
  rw [Ep.mk.injEq]
  simp only at h1 h2 x2 x3 x4 y2 y3 y4
  exact ⟨h1, by omega⟩
theorem ls_inj (x y : Ls) (hx : wfLsn x) (hy : wfLsn y) (h : lsVal x = lsVal y) : x = y := by
  have h := row_inj h
  simp only [List.cons.injEq, and_true] at h
  obtain ⟨h1, h2, h3⟩ := h
  have h2 := plBs_inj hx.1 hy.1 (txt_inj h2)
  have h3 := each_inj (p := fun _ => True) (fun x y _ _ h => rt_inj h) (fun _ _ => trivial) (fun _ _ => trivial) h3
  cases x; cases y
  rw [Ls.mk.injEq]
  exact ⟨txt_inj h1, h2, h3⟩
theorem cl_inj (x y : Cl) (hx : wfCl x ∧ belC x = false) (hy : wfCl y ∧ belC y = false) (h : clVal x = clVal y) : x = y := by
  have h := row_inj h
  simp only [List.cons.injEq, and_true] at h
  obtain ⟨h1, h2⟩ := h
  have pos : ∀ z : Cl, wfCl z ∧ belC z = false → ∀ e ∈ z.es, wfEp e ∧ 0 ≤ e.w := by
    intro z hz e he
    refine ⟨hz.1 e he, ?_⟩
    have := hz.2
    simp only [belC, List.any_eq_false, belE, decide_eq_true_eq] at this
    have := this e he
    omega
  have h2 := each_inj (p := fun e => wfEp e ∧ 0 ≤ e.w) ep_inj (pos x hx) (pos y hy) h2
  cases x; cases y
  rw [Cl.mk.injEq]
  exact ⟨txt_inj h1, h2⟩
def manyF (x : Cf) : Bool := decide (8 < x.ls.length ∨ 8 < x.cs.length) || x.ls.any manyL || x.cs.any manyC
def belF (x : Cf) : Bool := x.cs.any belC
def cfE (x : Cf) : Int := if manyF x = true then 6 else if belF x = true then 7 else putE (cfVal x)
def cfT (x : Cf) : List UInt8 := if cfE x = 0 then putT (cfVal x) else []
theorem cf_inj {x y : Cf} (hx : wfCf x) (hy : wfCf y) (lx : lightF x = true) (ly : lightF y = true) (ex : cfE x = 0) (ey : cfE y = 0) (h : cfT x = cfT y) : x = y := by
  have h : putT (cfVal x) = putT (cfVal y) := by
    unfold cfT at h
    rwa [if_pos ex, if_pos ey] at h
  have bx : belF x = false ∧ putE (cfVal x) = 0 := by
    unfold cfE at ex
    split at ex
    · cases ex
    · split at ex
      · cases ex
      · rename_i h2; exact ⟨by simpa using h2, ex⟩
  have by' : belF y = false ∧ putE (cfVal y) = 0 := by
    unfold cfE at ey
    split at ey
    · cases ey
    · split at ey
      · cases ey
      · rename_i h2; exact ⟨by simpa using h2, ey⟩
  have h := text_inj (fit_cf lx hx).wf (fit_cf ly hy).wf bx.2 by'.2 h
  have h := row_inj h
  simp only [List.cons.injEq, and_true] at h
  obtain ⟨h1, h2, h3⟩ := h
  have h2 := each_inj (p := wfLsn) ls_inj hx.2.1 hy.2.1 h2
  have bel : ∀ z : Cf, wfCf z → belF z = false → ∀ c ∈ z.cs, wfCl c ∧ belC c = false := by
    intro z hz hb c hc
    refine ⟨hz.2.2 c hc, ?_⟩
    simp only [belF, List.any_eq_false] at hb
    simpa using hb c hc
  have h3 := each_inj (p := fun c => wfCl c ∧ belC c = false) cl_inj (bel x hx bx.1) (bel y hy by'.1) h3
  cases x; cases y
  rw [Cf.mk.injEq]
  exact ⟨num_inj h1, h2, h3⟩
theorem cfT_len {x : Cf} (hx : cfE x = 0) : (cfT x).length ≤ 8192 := by
  have h : putE (cfVal x) = 0 := by
    unfold cfE at hx
    split at hx
    · cases hx
    · split at hx
      · cases hx
      · exact hx
  rw [cfT, if_pos hx, (put_ok h).2.2.2]
  exact (put_ok h).2.2.1
end Sy
end Go.Proofs.YtckbbcjbbmgmoaaGreatDoor
