/- Chapter 6 (digest): Join, Repeat, Whole, the document's Pad and K, first, rot, rotr. -/
import Derived.Test.YthlggigjnpldcaaAgB
import Derived.Test.YthlggigjnpldcaaAcG
import Derived.Test.YthlggigjnpldcaaShelf
namespace Go.Proofs.Ythlggigjnpldcaa
namespace Sy
open Go Go.RowKit
set_option maxRecDepth 100000
set_option linter.unusedSimpArgs false
set_option linter.unusedVariables false

def toS : AV → List UInt8
  | .str s => s
  | _ => []
/-- The parts of a list of texts, one behind the other. -/
def partsOf (n : Nat) (get : Nat → Nat → AV) : List (List UInt8) := (List.range n).map fun i => toS (get i 0)
def joinZ (x : AV) : List UInt8 := match x with
  | .lst _ n get => (partsOf n get).flatten
  | _ => []
def joinOk (x : AV) : Prop := match x with
  | .lst 1 n get => (∀ i, i < n → ∃ s, get i 0 = .str s) ∧ n ≤ 1000000 ∧ (partsOf n get).flatten.length ≤ 1000000
  | .nils => True
  | _ => False
theorem inter_nil (l : List (List UInt8)) : Lib.join l [] = l.flatten := by
  unfold Lib.join
  induction l with
  | nil => rfl
  | cons x l ih =>
    cases l with
    | nil => simp
    | cons y l => rw [List.intercalate_cons_cons, ih]; simp
def join_s (L : Seal) : Ent1 := (63, fun xs => match xs with | [x, .str []] => some (L joinOk x, .str (L joinZ x)) | _ => none)
theorem args_2 {h : Array Obj} {D : Nat → Prop} {x y : AV} {vs : Array Value} (hr : RL h D noMu [x, y] vs) : ∃ a b, vs = #[a, b] ∧ R h D noMu x a ∧ R h D noMu y b := by
  obtain ⟨hl, hr⟩ := hr
  obtain ⟨a, b, ha⟩ : ∃ a b, vs.toList = [a, b] := by
    have hl : vs.toList.length = 2 := by simpa using hl.symm
    match vs.toList, hl with
    | [a, b], _ => exact ⟨a, b, rfl⟩
  have : vs = #[a, b] := by rw [← Array.toArray_toList (xs := vs), ha]
  subst this
  exact ⟨a, b, rfl, hr 0 x a rfl rfl, hr 1 y b rfl rfl⟩
theorem join_good : Good Try.prog (join_s std) := by
  intro xs p r h hp
  dsimp only [join_s] at h ⊢
  split at h <;> cases h
  try simp only [L2, L3, std] at hp ⊢
  rename_i x
  have hp : joinOk x := hp
  intro D w vs hD hxs
  obtain ⟨a, b, rfl, rx, ry⟩ := args_2 hxs
  obtain rfl := str_eq ry
  unfold CallTo
  rw [callFunc_run (fn := Try.f63) rfl (by kernel_rfl) rfl]
  have fin : ∀ (l : List UInt8), l = joinZ x → (∀ w', Below w.heap.size w w' → ∃ v D', Ending.returned (.string ⟨l.toArray⟩) = .returned v ∧ Below w.heap.size w w' ∧ (∀ b, D b → D' b) ∧ (∀ b, D' b → D b ∨ (w.heap.size ≤ b ∧ b < w'.heap.size)) ∧ R w'.heap D' noMu (.str (joinZ x)) v) := by
    rintro l rfl w' hw
    exact ⟨_, D, rfl, hw, fun _ h => h, fun b hb => .inl hb, str_r _ _ _ _⟩
  have none_ : joinZ x = [] → ∀ (a : Option Addr) (c : Nat), Calls Try.prog 63 #[.slice a 0 c, .string ⟨#[]⟩] w fun e w' => ∃ v D', e = .returned v ∧ Below w.heap.size w w' ∧ (∀ b, D b → D' b) ∧ (∀ b, D' b → D b ∨ (w.heap.size ≤ b ∧ b < w'.heap.size)) ∧ R w'.heap D' noMu (.str (joinZ x)) v := by
    intro h0 a c
    refine (Try.strings_Join_none a c ⟨#[]⟩ w).mono ?_
    rintro e w' ⟨rfl, rfl⟩
    exact fin [] h0.symm _ (Below.refl _ _)
  unfold joinOk at hp
  split at hp
  · rename_i n get _
    obtain ⟨h1, h2, h3⟩ := hp
    cases rx with
    | lst0 => exact none_ rfl _ _
    | lst _ _ _ b o cap us hD0 hc hv h1' hr =>
      have hl : (partsOf n get).length = n := by rw [partsOf, List.length_map, List.length_range]
      have hq : ∀ j x, ((partsOf n get).map (fun s : List UInt8 => (⟨s.toArray⟩ : ByteArray)))[j]? = some x → w.cell? ⟨b, o + j, none⟩ = some (.string x) := by
        intro j x hj
        have hjn : j < n := by
          have := (List.getElem?_eq_some_iff.1 hj).1
          rw [List.length_map, hl] at this
          exact this
        obtain ⟨s, hs⟩ := h1 j hjn
        have r := hr j 0 hjn (by omega)
        rw [hs] at r
        have hv := hv j 0 hjn (by omega)
        rw [str_eq r, Nat.mul_one, Nat.add_zero] at hv
        rw [cell_h, hv]
        have e2 : (partsOf n get)[j]? = some s := by rw [partsOf, List.getElem?_map, List.getElem?_range hjn, Option.map_some, hs]; rfl
        rw [List.getElem?_map, e2] at hj
        cases hj
        rfl
      have hm : ((partsOf n get).map (fun s : List UInt8 => (⟨s.toArray⟩ : ByteArray))).map (·.data.toList) = partsOf n get := by
        rw [List.map_map]
        exact List.map_id' _
      have := Try.strings_Join b o cap ((partsOf n get).map (fun s : List UInt8 => (⟨s.toArray⟩ : ByteArray))) ⟨#[]⟩ w hq (hD b hD0) (by rw [List.length_map, hl]; omega) (by rw [List.length_map, hl]; exact hc) (by rw [hm]; show (Lib.join _ []).length ≤ _; rw [inter_nil]; omega)
      rw [hm, List.length_map, hl] at this
      refine this.mono ?_
      rintro e w' ⟨rfl, hw⟩
      exact fin _ (by show Lib.join _ [] = _; rw [inter_nil]; rfl) _ hw
  · cases rx
    exact none_ rfl _ _
  · exact hp.elim
def repZ (s : List UInt8) (c : Int) : List UInt8 := (List.replicate c.toNat s).flatten
theorem repL_is (s : List UInt8) : ∀ c : Nat, Lib.repeatL s c = (List.replicate c s).flatten
  | 0 => rfl
  | c + 1 => by rw [Lib.repeatL, repL_is s c, List.replicate_succ, List.flatten_cons]
def repOk (s : List UInt8) (c : Int) : Prop := 0 ≤ c ∧ c ≤ 1000000 ∧ s.length ≤ 1000000
def rep_s (L : Seal) : Ent1 := (28, fun xs => match xs with | [.str s, .int .i64 c] => some (L2 L repOk s c, .str (L2 L repZ s c)) | _ => none)
theorem rep_good : Good Try.prog (rep_s std) := by
  intro xs p r h hp
  dsimp only [rep_s] at h ⊢
  split at h <;> cases h
  try simp only [L2, L3, std] at hp ⊢
  rename_i s c
  obtain ⟨h0, h1, h2⟩ : repOk s c := hp
  obtain ⟨k, rfl⟩ := nat_of h0
  refine ac_of_below (fn := Try.f28) rfl rfl (by kernel_rfl) (args2 (tells_str _) (tells_int _ _)) (fun h D => str_r h D _ _) (fun w => ?_)
  have hs : (⟨s.toArray⟩ : ByteArray).size = s.length := by show s.toArray.size = s.length; simp
  have := Try.strings_Repeat ⟨s.toArray⟩ k w (by omega) (by
    rw [hs]
    have : s.length * k ≤ 1000000 * 1000000 := Nat.mul_le_mul h2 (by omega)
    omega)
  refine this.mono ?_
  rintro e w' ⟨rfl, hw⟩
  refine ⟨?_, hw⟩
  show Ending.returned (.string ⟨(Lib.repeatL s k).toArray⟩) = _
  rw [repL_is]; rfl
/-- The document's padding. -/
def padZ (s : List UInt8) : List UInt8 := s ++ [128] ++ List.replicate ((64 - (s.length + 9) % 64) % 64) 0 ++ putZ (s.length * 8) 8
theorem repl_flat (n : Nat) : (List.replicate n [(0 : UInt8)]).flatten = List.replicate n 0 := by
  induction n with
  | zero => rfl
  | succ n ih => rw [List.replicate_succ, List.flatten_cons, ih, List.replicate_succ]; rfl
theorem put_len (e n : Int) (h0 : 0 ≤ n) (h8 : n ≤ 8) : (putZ e n).length = n.toNat := by
  rw [putZ, putL_length]
  unfold cl8
  omega
theorem pad_n (n : Nat) (h : n ≤ 1000000) : ((64 - ((((n : Int) + 1 + 9223372036854775808) % 18446744073709551616 - 9223372036854775808 + 8 + 9223372036854775808) % 18446744073709551616 - 9223372036854775808).tmod 64 + 9223372036854775808) % 18446744073709551616 - 9223372036854775808).tmod 64 = (((64 - (n + 9) % 64) % 64 : Nat) : Int) := by
  have h1 : ((((n : Int) + 1 + 9223372036854775808) % 18446744073709551616 - 9223372036854775808 + 8 + 9223372036854775808) % 18446744073709551616 - 9223372036854775808) = ((n + 9 : Nat) : Int) := by omega
  rw [h1, Int.tmod_eq_emod_of_nonneg (a := ((n + 9 : Nat) : Int)) (by omega)]
  have h2 : (64 - ((n + 9 : Nat) : Int) % 64 + 9223372036854775808) % 18446744073709551616 - 9223372036854775808 = ((64 - (n + 9) % 64 : Nat) : Int) := by omega
  rw [h2, Int.tmod_eq_emod_of_nonneg (by omega)]
  omega
theorem repOk_k {k : Nat} (h : k < 64) : repOk [0] (k : Int) := ⟨Int.natCast_nonneg _, by omega, by decide⟩
theorem len8 (n : Nat) (h : n ≤ 1000000) : (n : Int) % 18446744073709551616 * 8 % 18446744073709551616 = (n : Int) * 8 := by omega
def whole_s (L : Seal) : Ent1 := (26, fun xs => match xs with | [.str s] => some (L2 L upto 1000000 s, .str (L padZ s)) | _ => none)
theorem whole_good : Good Try.prog (whole_s std) := by
  intro xs p r h hp
  dsimp only [whole_s] at h ⊢
  split at h <;> cases h
  try simp only [L2, L3, std] at hp ⊢
  rename_i s
  refine acalls_L (T := tt) (S := fun L => sumOf [rep_s L, put_s L]) (lo := noA) (lb := noA) 5 (fn := Try.f26) rfl rfl (by kernel_rfl) (by kernel_rfl) rfl tt_ok (sumOf_ok ⟨rep_good, put_good, trivial⟩) (by kernel_rfl) ?_
  have hl : s.length ≤ 1000000 := hp
  have hpn := pad_n s.length hl
  have hl8 := len8 s.length hl
  (intro L P1 Q1 hL hP hQ; cbv; subst hL; simp only [L2, L3, std, sat_need, sat_must, sat_ite, sat_done, sat_yes, sat_ex, sat_all, sat_sup, sat_and, sat_fail]; subst hQ)
  (simp only [sySet, reduceCtorEq, forall_const, Int.reduceToNat, Int.reduceAdd, Int.reduceSub, Int.cast_ofNat_Int, Int.toNat_natCast, Nat.le_eq, Nat.sub_eq, ne_eq, Decidable.not_not, implies_true, true_and, and_true, wadd, wsub, wmul, decide_eq_true_eq, decide_eq_false_iff_not, Nat.succ_eq_add_one, imp_false, not_false_eq_true, not_true_eq_false, false_imp_iff, true_imp_iff])
  rw [hpn, hl8]
  have hz : padZ s = s ++ [128] ++ List.replicate ((64 - (s.length + 9) % 64) % 64) 0 ++ putZ (s.length * 8) 8 := rfl
  rw [hz]
  have hk : (64 - (s.length + 9) % 64) % 64 < 64 := Nat.mod_lt _ (by decide)
  generalize (64 - (s.length + 9) % 64) % 64 = k at hk ⊢
  have hr : repZ [0] (k : Int) = List.replicate k 0 := by
    rw [repZ, Int.toNat_natCast, repl_flat]
  rw [hr]
  have hput := put_len ((s.length : Int) * 8) 8 (by decide) (by decide)
  simp only [List.length_append, List.length_replicate, List.length_cons, List.length_nil, hput]
  refine ⟨by omega, by decide, by decide, repOk_k hk, by omega, ⟨by omega, by omega, by decide, by decide⟩, by omega, trivial⟩
def K_s (L : Seal) : Ent1 := (25, fun xs => match xs with | [] => some (True, .lst 1 64 (fun i _ => .int .u32 (L2 L nthI keysL i))) | _ => none)
theorem K_good : Good Try.prog (K_s std) := by
  intro xs p r h hp
  dsimp only [K_s] at h ⊢
  split at h <;> cases h
  try simp only [L2, L3, std] at hp ⊢
  refine acalls_L (T := tt) (S := noS) (lo := noA) (lb := noA) 5 (fn := Try.f25) rfl rfl (by kernel_rfl) (by kernel_rfl) rfl tt_ok (noS_ok _) (by kernel_rfl) ?_
  (intro L P1 Q1 hL hP hQ; cbv; subst hL; simp only [L2, L3, std, sat_need, sat_must, sat_ite, sat_done, sat_yes, sat_ex, sat_all, sat_sup, sat_and, sat_fail]; subst hQ)
  (simp only [sySet, reduceCtorEq, forall_const, Int.reduceToNat, Int.reduceAdd, Int.reduceSub, Int.cast_ofNat_Int, Int.toNat_natCast, Nat.le_eq, Nat.sub_eq, ne_eq, Decidable.not_not, implies_true, true_and, and_true, wadd, wsub, wmul, decide_eq_true_eq, decide_eq_false_iff_not, Nat.succ_eq_add_one, imp_false, not_false_eq_true, not_true_eq_false, false_imp_iff, true_imp_iff])
  exact fun i j _ _ => rfl
def padN (s : List UInt8) : Nat := (64 - (s.length + 9) % 64) % 64
def padA (s : List UInt8) (k : Nat) : List UInt8 := s ++ [128] ++ List.replicate k 0
def padB (s : List UInt8) (j : Nat) : List UInt8 := padA s (padN s) ++ (putZ (s.length * 8) 8).take j
theorem app1 {l l' : List UInt8} {c : Int} {b : UInt8} (hl : l' = l ++ [b]) (hc : c = (b.toNat : Int)) : l.length.add 1 = l'.length ∧ ∀ i : Nat, i < l'.length → sel1 std (nblt i l.length) (.int .u8 (byteAt l i)) (.int .u8 (nthI [c] (i - l.length))) = .int .u8 (byteAt l' i) := by
  subst hl
  subst hc
  refine ⟨by rw [List.length_append]; rfl, fun i hi => ?_⟩
  by_cases h : i < l.length
  · rw [blt_t h, byteAt_l h]; rfl
  · rw [blt_f h, byteAt_r h]
    rw [List.length_append] at hi
    have hi : i < l.length + 1 := hi
    rw [show i - l.length = 0 by omega]
    rfl
theorem padA_app {s : List UInt8} {k k' : Nat} (h : k' = k + 1) : padA s k' = padA s k ++ [0] := by
  subst h
  rw [padA, padA, List.replicate_succ', ← List.append_assoc]
theorem padA_len (s : List UInt8) (k : Nat) : (padA s k).length = s.length + 1 + k := by
  rw [padA, List.length_append, List.length_append, List.length_replicate]; rfl
theorem padB_0 {s : List UInt8} {j : Nat} (h : j = 0) : padB s j = padA s (padN s) := by
  subst h; rw [padB, List.take_zero, List.append_nil]
theorem padB_8 (s : List UInt8) : padB s 8 = padZ s := by
  rw [padB, List.take_of_length_le (by rw [put_len _ _ (by decide) (by decide)]; decide)]; rfl
theorem padB_len (s : List UInt8) {j : Nat} (h : j ≤ 8) : (padB s j).length = s.length + 1 + padN s + j := by
  rw [padB, List.length_append, padA_len, List.length_take, put_len _ _ (by decide) (by decide)]
  have : (8 : Int).toNat = 8 := rfl
  omega
theorem padN_lt (s : List UInt8) : padN s < 64 := Nat.mod_lt _ (by decide)
def dn7 (j : Nat) : Int := 7 - j
theorem dn7_0 {j : Nat} (h : j = 0) : 7 = dn7 j := by subst h; rfl
theorem dn7_lt {j : Nat} (h : 0 ≤ dn7 j) : j < 8 := by unfold dn7 at h; omega
theorem dn7_ge {j : Nat} (h : dn7 j < 0) (h8 : j ≤ 8) : j = 8 := by unfold dn7 at h; omega
theorem dn7_mul {j : Nat} (h : j < 8) : wmul .i64 8 (dn7 j) = 8 * (7 - (j : Int)) := by unfold dn7; rw [wmul, w_i64]; omega
theorem dn7_mul0 {j : Nat} (h : 0 ≤ dn7 j) : 0 ≤ wmul .i64 8 (dn7 j) := by have := dn7_lt h; rw [dn7_mul this]; omega
theorem dn7_next {j j' : Nat} (h : j < 8) (h' : j' = j + 1) : wsub .i64 (dn7 j) 1 = dn7 j' := by unfold dn7; subst h'; rw [wsub, w_i64]; omega
/-- The next byte of the length. -/
theorem padB_app {s : List UInt8} {j j' : Nat} (hj : j < 8) (h : j' = j + 1) (hs : s.length ≤ 1000000) : ∃ b : UInt8, padB s j' = padB s j ++ [b] ∧ IntKind.u8.wrap (wshr .u64 (wmul .u64 (IntKind.u64.wrap s.length) 8) (wmul .i64 8 (dn7 j))) = (b.toNat : Int) := by
  rw [dn7_mul hj]
  subst h
  have hl : j < (putL (s.length * 8) 8).length := by rw [putL_length]; exact hj
  refine ⟨(putL (s.length * 8) 8)[j], ?_, ?_⟩
  · rw [padB, padB, List.append_assoc]
    congr 1
    have : putZ ((s.length : Int) * 8) 8 = putL (s.length * 8) 8 := by
      rw [putZ]
      congr 1
    rw [this, List.take_succ_eq_append_getElem hl]
  · rw [putL_get _ _ _ hl]
    have h1 : wmul .u64 (IntKind.u64.wrap (s.length : Int)) 8 = ((s.length * 8 : Nat) : Int) := by
      rw [wmul, w_u64, w_u64]; omega
    rw [h1]
    generalize s.length * 8 = n
    have h2 : (8 * (7 - (j : Int))).toNat = 8 * (7 - j) := by omega
    rw [wshr, h2, Int.fdiv_eq_ediv_of_nonneg _ (Int.le_of_lt (Int.pow_pos (by decide)))]
    have h3 : min (8 * (7 - j)) IntKind.u64.bits = 8 * (7 - j) := by
      apply Nat.min_eq_left
      show 8 * (7 - j) ≤ 64
      omega
    have h4 : (2 : Int) ^ (8 * (7 - j)) = ((256 ^ (8 - 1 - j) : Nat) : Int) := by
      rw [show (256 : Nat) = 2 ^ 8 from rfl, ← Nat.pow_mul]
      push_cast
      rfl
    rw [h3, h4, ← Int.natCast_ediv, w_u8, UInt8.toNat_ofNat']
    rfl
theorem pad_end {s : List UInt8} {k : Nat} (hk : k ≤ padN s) (h : ((padA s k).length : Int).tmod 64 = 56) : k = padN s := by
  rw [padA_len, Int.tmod_eq_emod_of_nonneg (by omega)] at h
  unfold padN at hk ⊢
  omega
theorem pad_go {s : List UInt8} {k : Nat} (hk : k ≤ padN s) (h : ¬ ((padA s k).length : Int).tmod 64 = 56) : k + 1 ≤ padN s := by
  rcases Nat.lt_or_eq_of_le hk with h1 | h1
  · exact h1
  · exfalso
    apply h
    rw [padA_len, Int.tmod_eq_emod_of_nonneg (by omega), h1]
    unfold padN
    omega
def pdA (L : Seal) (s : List UInt8) : Nat → St → Option Ann := fun id st => match id with
  | 0 => some ⟨Nat, fun k => [(4, .sl 900 1 0 (L lenN (L2 L padA s k)))], fun k => [(900, .row 5 1 (L lenN (L2 L padA s k)) (fun i _ => .int .u8 (L2 L byteAt (L2 L padA s k) i)))], [0, 3], [],
      fun k => L2 L (fun (s : List UInt8) (k : Nat) => k ≤ padN s) s k, fun k => L2 L (fun (s : List UInt8) (k : Nat) => padN s - k) s k⟩
  | 2 => some ⟨Nat, fun j => [(4, .sl 901 1 0 (L lenN (L2 L padB s j))), (5, .int .i64 (L dn7 j))], fun j => [(901, .row 5 1 (L lenN (L2 L padB s j)) (fun i _ => .int .u8 (L2 L byteAt (L2 L padB s j) i)))], [0, 3], [],
      fun j => L (fun j : Nat => j ≤ 8) j, fun j => L (fun j : Nat => 8 - j) j⟩
  | _ => none
def pad_s (L : Seal) : Ent1 := (27, fun xs => match xs with | [.str s] => some (L2 L upto 1000000 s, .str (L padZ s)) | _ => none)
theorem pad_good : Good Try.prog (pad_s std) := by
  intro xs p r h hp
  dsimp only [pad_s] at h ⊢
  split at h <;> cases h
  try simp only [L2, L3, std] at hp ⊢
  rename_i s
  refine acalls_L (T := tt) (S := noS) (lo := fun L => pdA L s) (lb := noA) 5 (fn := Try.f27) rfl rfl (by kernel_rfl) (by kernel_rfl) rfl tt_ok (noS_ok _) (by kernel_rfl) ?_
  intro L P' Q' hL hP hQ
  (cbv; try simp only [sat_need, sat_must, sat_ite, sat_done, sat_yes, sat_ex, sat_all, sat_sup, sat_and, sat_fail, true_and, and_true])
  refine ⟨?_, ⟨0, ?_⟩, fun k hk => ?_⟩
  · (subst hL; subst hQ; simp only [L2, L3, std] at *; try simp only [sySet, reduceCtorEq, forall_const, Int.reduceToNat, Int.reduceAdd, Int.reduceSub, Int.cast_ofNat_Int, Int.toNat_natCast, Nat.le_eq, Nat.sub_eq, ne_eq, Decidable.not_not, implies_true, true_and, and_true, wadd, wsub, wmul, decide_eq_true_eq, decide_eq_false_iff_not, Nat.succ_eq_add_one, imp_false, not_false_eq_true, not_true_eq_false, false_imp_iff, true_imp_iff] at *)
    have hp : s.length ≤ 1000000 := hp
    omega
  · (cbv; try simp only [sat_need, sat_must, sat_ite, sat_done, sat_yes, sat_ex, sat_all, sat_sup, sat_and, sat_fail, true_and, and_true])
    (subst hL; subst hQ; simp only [L2, L3, std] at *; try simp only [sySet, reduceCtorEq, forall_const, Int.reduceToNat, Int.reduceAdd, Int.reduceSub, Int.cast_ofNat_Int, Int.toNat_natCast, Nat.le_eq, Nat.sub_eq, ne_eq, Decidable.not_not, implies_true, true_and, and_true, wadd, wsub, wmul, decide_eq_true_eq, decide_eq_false_iff_not, Nat.succ_eq_add_one, imp_false, not_false_eq_true, not_true_eq_false, false_imp_iff, true_imp_iff] at *)
    obtain ⟨e1, e2⟩ := app1 (l := s) (l' := padA s 0) (c := 128) (b := 128) (by rw [padA]; exact List.append_nil _) rfl
    exact ⟨⟨e1, fun i j hi _ => e2 i hi⟩, e1, Nat.zero_le _⟩
  · obtain ⟨k', hk'⟩ : ∃ k' : Nat, k' = k + 1 := ⟨_, rfl⟩
    obtain ⟨j0, hj0⟩ : ∃ j : Nat, j = 0 := ⟨_, rfl⟩
    (cbv; try simp only [sat_need, sat_must, sat_ite, sat_done, sat_yes, sat_ex, sat_all, sat_sup, sat_and, sat_fail, true_and, and_true])
    refine ⟨?_, fun h1 => ⟨?_, k', ?_⟩, fun h1 => ⟨⟨j0, ?_⟩, fun j hj => ?_⟩⟩
    · (subst hL; subst hQ; simp only [L2, L3, std] at *; try simp only [sySet, reduceCtorEq, forall_const, Int.reduceToNat, Int.reduceAdd, Int.reduceSub, Int.cast_ofNat_Int, Int.toNat_natCast, Nat.le_eq, Nat.sub_eq, ne_eq, Decidable.not_not, implies_true, true_and, and_true, wadd, wsub, wmul, decide_eq_true_eq, decide_eq_false_iff_not, Nat.succ_eq_add_one, imp_false, not_false_eq_true, not_true_eq_false, false_imp_iff, true_imp_iff] at *)
      decide
    · (subst hL; subst hQ; simp only [L2, L3, std] at *; try simp only [sySet, reduceCtorEq, forall_const, Int.reduceToNat, Int.reduceAdd, Int.reduceSub, Int.cast_ofNat_Int, Int.toNat_natCast, Nat.le_eq, Nat.sub_eq, ne_eq, Decidable.not_not, implies_true, true_and, and_true, wadd, wsub, wmul, decide_eq_true_eq, decide_eq_false_iff_not, Nat.succ_eq_add_one, imp_false, not_false_eq_true, not_true_eq_false, false_imp_iff, true_imp_iff] at *)
      have hp : s.length ≤ 1000000 := hp
      have := padN_lt s
      rw [padA_len]
      omega
    · (cbv; try simp only [sat_need, sat_must, sat_ite, sat_done, sat_yes, sat_ex, sat_all, sat_sup, sat_and, sat_fail, true_and, and_true])
      (subst hL; subst hQ; simp only [L2, L3, std] at *; try simp only [sySet, reduceCtorEq, forall_const, Int.reduceToNat, Int.reduceAdd, Int.reduceSub, Int.cast_ofNat_Int, Int.toNat_natCast, Nat.le_eq, Nat.sub_eq, ne_eq, Decidable.not_not, implies_true, true_and, and_true, wadd, wsub, wmul, decide_eq_true_eq, decide_eq_false_iff_not, Nat.succ_eq_add_one, imp_false, not_false_eq_true, not_true_eq_false, false_imp_iff, true_imp_iff] at *)
      obtain ⟨e1, e2⟩ := app1 (c := 0) (padA_app (s := s) hk') rfl
      have := pad_go hk h1
      exact ⟨⟨e1, fun i j hi _ => e2 i hi⟩, e1, by omega, by omega⟩
    · (cbv; try simp only [sat_need, sat_must, sat_ite, sat_done, sat_yes, sat_ex, sat_all, sat_sup, sat_and, sat_fail, true_and, and_true])
      (subst hL; subst hQ; simp only [L2, L3, std] at *; try simp only [sySet, reduceCtorEq, forall_const, Int.reduceToNat, Int.reduceAdd, Int.reduceSub, Int.cast_ofNat_Int, Int.toNat_natCast, Nat.le_eq, Nat.sub_eq, ne_eq, Decidable.not_not, implies_true, true_and, and_true, wadd, wsub, wmul, decide_eq_true_eq, decide_eq_false_iff_not, Nat.succ_eq_add_one, imp_false, not_false_eq_true, not_true_eq_false, false_imp_iff, true_imp_iff] at *)
      have e := pad_end hk h1
      have e2 := padB_0 (s := s) hj0
      rw [← e] at e2
      rw [e2]
      exact ⟨⟨rfl, fun i j _ _ => rfl⟩, dn7_0 hj0, rfl, by omega⟩
    · obtain ⟨j', hj'⟩ : ∃ j' : Nat, j' = j + 1 := ⟨_, rfl⟩
      (cbv; try simp only [sat_need, sat_must, sat_ite, sat_done, sat_yes, sat_ex, sat_all, sat_sup, sat_and, sat_fail, true_and, and_true])
      refine ⟨fun h2 => ⟨?_, ?_, j', ?_⟩, fun h2 => ⟨?_, ?_⟩⟩
      · subst hL
        exact decide_eq_true (dn7_mul0 (of_decide_eq_true h2))
      · (subst hL; subst hQ; simp only [L2, L3, std] at *; try simp only [sySet, reduceCtorEq, forall_const, Int.reduceToNat, Int.reduceAdd, Int.reduceSub, Int.cast_ofNat_Int, Int.toNat_natCast, Nat.le_eq, Nat.sub_eq, ne_eq, Decidable.not_not, implies_true, true_and, and_true, wadd, wsub, wmul, decide_eq_true_eq, decide_eq_false_iff_not, Nat.succ_eq_add_one, imp_false, not_false_eq_true, not_true_eq_false, false_imp_iff, true_imp_iff] at *)
        have hp : s.length ≤ 1000000 := hp
        have := padN_lt s
        rw [padB_len s hj]
        omega
      · (cbv; try simp only [sat_need, sat_must, sat_ite, sat_done, sat_yes, sat_ex, sat_all, sat_sup, sat_and, sat_fail, true_and, and_true])
        clear h1 hk
        subst hL; subst hQ
        have hj8 : j < 8 := dn7_lt (of_decide_eq_true h2)
        obtain ⟨b, b1, b2⟩ := padB_app hj8 hj' hp
        obtain ⟨e1, e2⟩ := app1 b1 b2
        refine ⟨⟨e1, fun i j hi hj => ?_⟩, dn7_next hj8 hj', e1, ?_, ?_⟩
        · have := e2 i hi
          simp only [L2, std, Nat.zero_add, Nat.add_eq, Nat.sub_eq] at this ⊢
          exact this
        · show j' ≤ 8
          omega
        · show 8 - j' + 1 ≤ 8 - j
          omega
      · (subst hL; subst hQ; simp only [L2, L3, std] at *; try simp only [sySet, reduceCtorEq, forall_const, Int.reduceToNat, Int.reduceAdd, Int.reduceSub, Int.cast_ofNat_Int, Int.toNat_natCast, Nat.le_eq, Nat.sub_eq, ne_eq, Decidable.not_not, implies_true, true_and, and_true, wadd, wsub, wmul, decide_eq_true_eq, decide_eq_false_iff_not, Nat.succ_eq_add_one, imp_false, not_false_eq_true, not_true_eq_false, false_imp_iff, true_imp_iff] at *)
        exact ⟨by omega, fun i _ => ⟨_, rfl⟩⟩
      · (subst hL; subst hQ; simp only [L2, L3, std] at *; try simp only [sySet, reduceCtorEq, forall_const, Int.reduceToNat, Int.reduceAdd, Int.reduceSub, Int.cast_ofNat_Int, Int.toNat_natCast, Nat.le_eq, Nat.sub_eq, ne_eq, Decidable.not_not, implies_true, true_and, and_true, wadd, wsub, wmul, decide_eq_true_eq, decide_eq_false_iff_not, Nat.succ_eq_add_one, imp_false, not_false_eq_true, not_true_eq_false, false_imp_iff, true_imp_iff] at *)
        rw [dn7_ge h2 hj]
        rw [← padB_8]
        simp only [Nat.zero_add]
        exact bytesOf_at _
/-- The first words. -/
def firstN (n : Nat) : List Int := firstL.take n
def frA (L : Seal) : Nat → St → Option Ann := fun id st => match id with
  | 0 => some ⟨Nat, fun n => [(5, .int .i64 (L natI n))], fun n => [(1, .row 130 1 8 (fun i _ => .int .u32 (L2 L nthI (L firstN n) i)))], [0, 1, 4], [0], fun n => L (fun n : Nat => n ≤ 8) n, fun n => L (fun n : Nat => 8 - n) n⟩
  | _ => none
def w8 (g : Nat → AV) : AV := .agg [g 0, g 1, g 2, g 3, g 4, g 5, g 6, g 7]
theorem first_at : ∀ n : _root_.Fin 8, leastZ (nthI [2, 3, 5, 7, 11, 13, 17, 19] n.val) false = nthI firstL n.val := by decide +kernel
theorem first_set {n n' i : Nat} (hn : n' = n + 1) (h : n < 8) (hi : i < 8) : over std n 0 1 [.int .u32 (leastZ (nthI [2, 3, 5, 7, 11, 13, 17, 19] n) false)] (fun i x => .int .u32 (nthI (firstN n) i)) i 0 = .int .u32 (nthI (firstN n') i) := by
  rw [over_get, if_pos ⟨Nat.le_refl _, by omega⟩, first_at ⟨n, h⟩]
  subst hn
  have hl : firstL.length = 8 := rfl
  by_cases hi2 : i = n
  · subst hi2
    rw [beq_same]
    show AV.int .u32 (nthI firstL i) = _
    rw [firstN, nthI, nthI, List.getD_eq_getElem?_getD, List.getD_eq_getElem?_getD, List.getElem?_take_of_lt (by omega)]
  · rw [beq_no hi2]
    show AV.int .u32 (nthI (firstN n) i) = _
    congr 1
    rw [firstN, firstN, nthI, nthI, List.getD_eq_getElem?_getD, List.getD_eq_getElem?_getD]
    by_cases hlt : i < n
    · rw [List.getElem?_take_of_lt hlt, List.getElem?_take_of_lt (by omega)]
    · rw [List.getElem?_eq_none (by rw [List.length_take]; omega), List.getElem?_eq_none (by rw [List.length_take]; omega)]
def first_s (L : Seal) : Ent1 := (64, fun xs => match xs with | [] => some (True, w8 fun i => .int .u32 (L2 L nthI firstL i)) | _ => none)
theorem first_good : Good Try.prog (first_s std) := by
  intro xs p r h hp
  dsimp only [first_s] at h ⊢
  split at h <;> cases h
  try simp only [L2, L3, std] at hp ⊢
  refine acalls_L (T := tt) (S := fun L => sumOf [least_s L]) (lo := frA) (lb := noA) 5 (fn := Try.f64) rfl rfl (by kernel_rfl) (by kernel_rfl) rfl tt_ok (sumOf_ok ⟨least_good, trivial⟩) (by kernel_rfl) ?_
  intro L P' Q' hL hP hQ
  (cbv; try simp only [sat_need, sat_must, sat_ite, sat_done, sat_yes, sat_ex, sat_all, sat_sup, sat_and, sat_fail, true_and, and_true])
  refine ⟨⟨0, ?_⟩, fun n hn => ?_⟩
  · (cbv; try simp only [sat_need, sat_must, sat_ite, sat_done, sat_yes, sat_ex, sat_all, sat_sup, sat_and, sat_fail, true_and, and_true])
    (subst hL; subst hQ; simp only [L2, L3, std] at *; try simp only [sySet, reduceCtorEq, forall_const, Int.reduceToNat, Int.reduceAdd, Int.reduceSub, Int.cast_ofNat_Int, Int.toNat_natCast, Nat.le_eq, Nat.sub_eq, ne_eq, Decidable.not_not, implies_true, true_and, and_true, wadd, wsub, wmul, decide_eq_true_eq, decide_eq_false_iff_not, Nat.succ_eq_add_one, imp_false, not_false_eq_true, not_true_eq_false, false_imp_iff, true_imp_iff] at *)
    exact ⟨fun i j hi hj => by
      have : j = 0 := by omega
      subst this
      simp [firstN, nthI]; rfl, by omega⟩
  · obtain ⟨n', hn'⟩ : ∃ n' : Nat, n' = n + 1 := ⟨_, rfl⟩
    (cbv; try simp only [sat_need, sat_must, sat_ite, sat_done, sat_yes, sat_ex, sat_all, sat_sup, sat_and, sat_fail, true_and, and_true])
    refine ⟨fun h1 => ⟨?_, ?_, n', ?_⟩, fun h1 => ?_⟩
    · (subst hL; subst hQ; simp only [L2, L3, std] at *; try simp only [sySet, reduceCtorEq, forall_const, Int.reduceToNat, Int.reduceAdd, Int.reduceSub, Int.cast_ofNat_Int, Int.toNat_natCast, Nat.le_eq, Nat.sub_eq, ne_eq, Decidable.not_not, implies_true, true_and, and_true, wadd, wsub, wmul, decide_eq_true_eq, decide_eq_false_iff_not, Nat.succ_eq_add_one, imp_false, not_false_eq_true, not_true_eq_false, false_imp_iff, true_imp_iff] at *)
      omega
    · (subst hL; subst hQ; simp only [L2, L3, std] at *; try simp only [sySet, reduceCtorEq, forall_const, Int.reduceToNat, Int.reduceAdd, Int.reduceSub, Int.cast_ofNat_Int, Int.toNat_natCast, Nat.le_eq, Nat.sub_eq, ne_eq, Decidable.not_not, implies_true, true_and, and_true, wadd, wsub, wmul, decide_eq_true_eq, decide_eq_false_iff_not, Nat.succ_eq_add_one, imp_false, not_false_eq_true, not_true_eq_false, false_imp_iff, true_imp_iff] at *)
      omega
    · (cbv; try simp only [sat_need, sat_must, sat_ite, sat_done, sat_yes, sat_ex, sat_all, sat_sup, sat_and, sat_fail, true_and, and_true])
      (subst hL; subst hQ; simp only [L2, L3, std] at *; try simp only [sySet, reduceCtorEq, forall_const, Int.reduceToNat, Int.reduceAdd, Int.reduceSub, Int.cast_ofNat_Int, Int.toNat_natCast, Nat.le_eq, Nat.sub_eq, ne_eq, Decidable.not_not, implies_true, true_and, and_true, wadd, wsub, wmul, decide_eq_true_eq, decide_eq_false_iff_not, Nat.succ_eq_add_one, imp_false, not_false_eq_true, not_true_eq_false, false_imp_iff, true_imp_iff] at *)
      have h1 : n < 8 := by omega
      refine ⟨fun i j hi hj => ?_, by omega, by omega, by omega⟩
      have : j = 0 := by omega
      subst this
      exact first_set hn' h1 hi
    · unfold w8 at hQ
      (subst hL; subst hQ; simp only [L2, L3, std] at *; try simp only [sySet, reduceCtorEq, forall_const, Int.reduceToNat, Int.reduceAdd, Int.reduceSub, Int.cast_ofNat_Int, Int.toNat_natCast, Nat.le_eq, Nat.sub_eq, ne_eq, Decidable.not_not, implies_true, true_and, and_true, wadd, wsub, wmul, decide_eq_true_eq, decide_eq_false_iff_not, Nat.succ_eq_add_one, imp_false, not_false_eq_true, not_true_eq_false, false_imp_iff, true_imp_iff] at *)
      have : n = 8 := by omega
      subst this
      exact ⟨rfl, rfl, rfl, rfl, rfl, rfl, rfl, rfl⟩
/-- A word turned to the left. -/
def rlS (k : Int) : Int := band .u64 (IntKind.u64.wrap k) 31
def rlZ (x k : Int) : Int := bor .u32 (wshl .u32 x (rlS k)) (wshr .u32 x (wsub .u64 32 (rlS k)))
def rl_s (L : Seal) : Ent1 := (106, fun xs => match xs with | [.int .u32 x, .int .i64 k] => some (True, .int .u32 (L2 L rlZ x k)) | _ => none)
theorem wrap_nonneg (a : Int) : 0 ≤ IntKind.u64.wrap a := Int.emod_nonneg _ (by decide)
theorem rlS_nonneg (k : Int) : 0 ≤ rlS k := wrap_nonneg _
theorem rl_good : Good Try.prog (rl_s std) := by
  intro xs p r h hp
  dsimp only [rl_s] at h ⊢
  split at h <;> cases h
  try simp only [L2, L3, std] at hp ⊢
  rename_i x k
  refine acalls_L (T := tt) (S := noS) (lo := noA) (lb := noA) 5 (fn := Try.f106) rfl rfl (by kernel_rfl) (by kernel_rfl) rfl tt_ok (noS_ok _) (by kernel_rfl) ?_
  (intro L P1 Q1 hL hP hQ; cbv; subst hL; simp only [L2, L3, std, sat_need, sat_must, sat_ite, sat_done, sat_yes, sat_ex, sat_all, sat_sup, sat_and, sat_fail]; subst hQ)
  refine ⟨decide_eq_true (rlS_nonneg k), decide_eq_true (wrap_nonneg _), ?_⟩
  rw [fits_int]
  rfl
/-- Three turns to the right. -/
def rotZ (x a b c : Int) (sh : Bool) : Int := bxor .u32 (bxor .u32 (rlZ x (wsub .i64 0 a)) (rlZ x (wsub .i64 0 b))) (if sh then wshr .u32 x c else rlZ x (wsub .i64 0 c))
def rot5 (t : Int × Int × Int × Int × Bool) : Int := rotZ t.1 t.2.1 t.2.2.1 t.2.2.2.1 t.2.2.2.2
def rot_s (L : Seal) : Ent1 := (93, fun xs => match xs with | [.int .u32 x, .int .i64 a, .int .i64 b, .int .i64 c, .bool sh] => some (L (fun c : Int => 0 ≤ c) c, .int .u32 (L rot5 (x, a, b, c, sh))) | _ => none)
theorem rot_good : Good Try.prog (rot_s std) := by
  intro xs p r h hp
  dsimp only [rot_s] at h ⊢
  split at h <;> cases h
  try simp only [L2, L3, std] at hp ⊢
  rename_i x a b c sh
  have hc : 0 ≤ c := hp
  refine acalls_L (T := tt) (S := fun L => sumOf [rl_s L]) (lo := noA) (lb := noA) 5 (fn := Try.f93) rfl rfl (by kernel_rfl) (by kernel_rfl) rfl tt_ok (sumOf_ok ⟨rl_good, trivial⟩) (by kernel_rfl) ?_
  (intro L P1 Q1 hL hP hQ; cbv; subst hL; simp only [L2, L3, std, sat_need, sat_must, sat_ite, sat_done, sat_yes, sat_ex, sat_all, sat_sup, sat_and, sat_fail]; subst hQ)
  refine ⟨trivial, fun h => ⟨decide_eq_true hc, trivial, trivial, ?_⟩, fun h => ⟨trivial, trivial, ?_⟩⟩
  · rw [fits_int]
    subst h; rfl
  · rw [fits_int]
    subst h; rfl
def rotrZ (x n : Int) : Int := bor .u32 (wshr .u32 x n) (wshl .u32 x (wsub .i64 32 n))
def rotr_s (L : Seal) : Ent1 := (66, fun xs => match xs with | [.int .u32 x, .int .i64 n] => some (L (fun n : Int => 0 ≤ n ∧ n ≤ 32) n, .int .u32 (L2 L rotrZ x n)) | _ => none)
theorem rotr_good : Good Try.prog (rotr_s std) := by
  intro xs p r h hp
  dsimp only [rotr_s] at h ⊢
  split at h <;> cases h
  try simp only [L2, L3, std] at hp ⊢
  rename_i x n
  have hn : 0 ≤ n ∧ n ≤ 32 := hp
  refine acalls_L (T := tt) (S := noS) (lo := noA) (lb := noA) 5 (fn := Try.f66) rfl rfl (by kernel_rfl) (by kernel_rfl) rfl tt_ok (noS_ok _) (by kernel_rfl) ?_
  (intro L P1 Q1 hL hP hQ; cbv; subst hL; simp only [L2, L3, std, sat_need, sat_must, sat_ite, sat_done, sat_yes, sat_ex, sat_all, sat_sup, sat_and, sat_fail]; subst hQ)
  refine ⟨decide_eq_true hn.1, ?_, ?_⟩
  · have : 0 ≤ wsub .i64 32 n := by
      rw [wsub, w_i64]
      omega
    exact decide_eq_true this
  · rw [fits_int]; rfl
end Sy
end Go.Proofs.Ythlggigjnpldcaa
