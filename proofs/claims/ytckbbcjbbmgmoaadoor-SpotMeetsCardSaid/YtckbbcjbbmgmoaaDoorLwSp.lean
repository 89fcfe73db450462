/- The laws of chapter 4 (spot): SpotTexts, SpotMeets, SpotOrder, SpotBytes. -/
import Derived.Test.YtckbbcjbbmgmoaaDoorSpC
import Derived.Test.YtckbbcjbbmgmoaaDoorAcB
import Derived.Test.YtckbbcjbbmgmoaaDoorOpn
namespace Go.Proofs.YtckbbcjbbmgmoaaDoor
namespace Sy
open Go Go.RowKit
set_option maxRecDepth 100000
set_option linter.unusedSimpArgs false
set_option linter.unusedVariables false

/-! ### The order of texts -/
theorem cb_lt : ∀ (a b : List UInt8), Lib.compareBytes a b < 0 ↔ Op.bytesLess a b = true
  | [], [] => by simp [Lib.compareBytes, Op.bytesLess]
  | [], _ :: _ => by simp [Lib.compareBytes, Op.bytesLess]
  | _ :: _, [] => by simp [Lib.compareBytes, Op.bytesLess]
  | x :: a, y :: b => by
    have ih := cb_lt a b
    unfold Lib.compareBytes Op.bytesLess
    by_cases h1 : x < y
    · simp [h1]
    · by_cases h2 : y < x
      · have hne : x ≠ y := by rintro rfl; exact UInt8.lt_irrefl _ h2
        simp [h1, h2, hne]
      · have he : x = y := UInt8.le_antisymm (UInt8.not_lt.1 h2) (UInt8.not_lt.1 h1)
        subst he
        simp [h1, ih]
theorem cb_eq : ∀ (a b : List UInt8), Lib.compareBytes a b = 0 ↔ a = b
  | [], [] => by simp [Lib.compareBytes]
  | [], _ :: _ => by simp [Lib.compareBytes]
  | _ :: _, [] => by simp [Lib.compareBytes]
  | x :: a, y :: b => by
    have ih := cb_eq a b
    unfold Lib.compareBytes
    by_cases h1 : x < y
    · have hne : x ≠ y := by rintro rfl; exact UInt8.lt_irrefl _ h1
      simp [h1, hne]
    · by_cases h2 : y < x
      · have hne : x ≠ y := by rintro rfl; exact UInt8.lt_irrefl _ h2
        simp [h1, h2, hne]
      · have he : x = y := UInt8.le_antisymm (UInt8.not_lt.1 h2) (UInt8.not_lt.1 h1)
        subst he
        simp [h1, ih]
theorem cb_neg : ∀ (a b : List UInt8), Lib.compareBytes b a = - Lib.compareBytes a b
  | [], [] => by simp [Lib.compareBytes]
  | [], _ :: _ => by simp [Lib.compareBytes]
  | _ :: _, [] => by simp [Lib.compareBytes]
  | x :: a, y :: b => by
    have ih := cb_neg a b
    unfold Lib.compareBytes
    by_cases h1 : x < y
    · have h2 : ¬ y < x := fun h => UInt8.lt_irrefl _ (UInt8.lt_trans h1 h)
      simp [h1, h2]
    · by_cases h2 : y < x
      · simp [h1, h2]
      · simp [h1, h2, ih]
theorem cb_one : ∀ (a b : List UInt8), Lib.compareBytes a b = -1 ∨ Lib.compareBytes a b = 0 ∨ Lib.compareBytes a b = 1
  | [], [] => by simp [Lib.compareBytes]
  | [], _ :: _ => by simp [Lib.compareBytes]
  | _ :: _, [] => by simp [Lib.compareBytes]
  | x :: a, y :: b => by
    have ih := cb_one a b
    unfold Lib.compareBytes
    by_cases h1 : x < y
    · simp [h1]
    · by_cases h2 : y < x
      · simp [h1, h2]
      · simpa [h1, h2] using ih
theorem cb_trans : ∀ (a b c : List UInt8), Lib.compareBytes a b ≤ 0 → Lib.compareBytes b c ≤ 0 → Lib.compareBytes a c ≤ 0
  | [], _, [], _, _ => by simp [Lib.compareBytes]
  | [], _, _ :: _, _, _ => by simp [Lib.compareBytes]
  | _ :: _, [], _, h, _ => by simp [Lib.compareBytes] at h
  | _ :: _, _ :: _, [], _, h => by simp [Lib.compareBytes] at h
  | x :: a, y :: b, z :: c, h1, h2 => by
    have ih := cb_trans a b c
    unfold Lib.compareBytes at h1 h2 ⊢
    by_cases xy : x < y
    · by_cases yz : y < z
      · simp [UInt8.lt_trans xy yz]
      · by_cases zy : z < y
        · simp [yz, zy] at h2
        · have he : y = z := UInt8.le_antisymm (UInt8.not_lt.1 zy) (UInt8.not_lt.1 yz)
          subst he; simp [xy]
    · by_cases yx : y < x
      · simp [xy, yx] at h1
      · have he : x = y := UInt8.le_antisymm (UInt8.not_lt.1 yx) (UInt8.not_lt.1 xy)
        subst he
        by_cases yz : x < z
        · simp [yz]
        · by_cases zy : z < x
          · simp [yz, zy] at h2
          · simp only [yz, zy, xy, if_false] at h1 h2 ⊢
            exact ih h1 h2
theorem ub_inj {a b : Int} (ha : 0 ≤ a ∧ a ≤ 255) (hb : 0 ≤ b ∧ b ≤ 255) (h : ub a = ub b) : a = b := by
  have h1 := ub_nat ha.1 ha.2
  have h2 := ub_nat hb.1 hb.2
  rw [h] at h1; omega
theorem plB_inj {x y : Pl} (hx : plOk x) (hy : plOk y) (h : plB x = plB y) : x = y := by
  obtain ⟨a, b, c, d, p⟩ := x
  obtain ⟨a', b', c', d', p'⟩ := y
  obtain ⟨h1, h2, h3, h4, h5⟩ := hx
  obtain ⟨g1, g2, g3, g4, g5⟩ := hy
  simp only at h1 h2 h3 h4 h5 g1 g2 g3 g4 g5
  simp only [plB, List.cons.injEq, and_true] at h
  obtain ⟨e1, e2, e3, e4, e5, e6⟩ := h
  have k1 := ub_inj h1 g1 e1
  have k2 := ub_inj h2 g2 e2
  have k3 := ub_inj h3 g3 e3
  have k4 := ub_inj h4 g4 e4
  have k5 := ub_inj (by omega) (by omega) e5
  have k6 := ub_inj (by omega) (by omega) e6
  have k7 : p = p' := by omega
  rw [k1, k2, k3, k4, k7]
theorem digZ_inj {a b : Int} (ha : u64In a) (hb : u64In b) (h : digZ a = digZ b) : a = b := by
  rw [← (num_of_dig ha).2, h, (num_of_dig hb).2]
theorem plT_inj {x y : Pl} (hx : plOk x) (hy : plOk y) (h : plT x = plT y) : x = y := by
  obtain ⟨c1, c2, -⟩ := cut_app (u := hostT x) (v := digZ x.p) (host_no x)
  obtain ⟨d1, d2, -⟩ := cut_app (u := hostT y) (v := digZ y.p) (host_no y)
  rw [← text_is] at c1 c2 d1 d2
  rw [h, d1] at c1
  rw [h, d2] at c2
  have hh := host_parts x
  rw [← c1, host_parts y] at hh
  simp only [List.cons.injEq, and_true] at hh
  obtain ⟨e1, e2, e3, e4⟩ := hh
  obtain ⟨a, b, c, d, p⟩ := x
  obtain ⟨a', b', c', d', p'⟩ := y
  obtain ⟨h1, h2, h3, h4, h5⟩ := hx
  obtain ⟨g1, g2, g3, g4, g5⟩ := hy
  simp only at h1 h2 h3 h4 h5 g1 g2 g3 g4 g5 e1 e2 e3 e4 c2
  rw [digZ_inj (u8_in h1) (u8_in g1) e1.symm, digZ_inj (u8_in h2) (u8_in g2) e2.symm, digZ_inj (u8_in h3) (u8_in g3) e3.symm, digZ_inj (u8_in h4) (u8_in g4) e4.symm, digZ_inj ⟨h5.1, by omega⟩ ⟨g5.1, by omega⟩ c2.symm]
/-! ### The chapter's example -/
theorem awT : plT ⟨127, 0, 0, 1, 80⟩ = [49, 50, 55, 46, 48, 46, 48, 46, 49, 58, 56, 48] := by
  have d1 := (dig_of_num (s := [49, 50, 55]) (by decide)).1
  have d2 := (dig_of_num (s := [48]) (by decide)).1
  have d3 := (dig_of_num (s := [49]) (by decide)).1
  have d4 := (dig_of_num (s := [56, 48]) (by decide)).1
  rw [show numV [49, 50, 55] = 127 by decide] at d1
  rw [show numV [48] = 0 by decide] at d2
  rw [show numV [49] = 1 by decide] at d3
  rw [show numV [56, 48] = 80 by decide] at d4
  rw [plT, d1, d2, d3, d4]; rfl
theorem awO : plOk ⟨127, 0, 0, 1, 80⟩ := ⟨⟨by decide, by decide⟩, ⟨by decide, by decide⟩, ⟨by decide, by decide⟩, ⟨by decide, by decide⟩, by decide, by decide⟩
theorem awake04_ac : ACalls Tryd.prog 7 [] (.bool true) := by
  refine acalls_L (T := tt) (S := fun L => sumOf [tru 20, par_s L, text_s L]) (lo := noA) (lb := noA) 5 (fn := Tryd.f7) rfl rfl (by kernel_rfl) (by kernel_rfl) rfl tt_ok (sumOf_ok ⟨tru_good Awake01_ac, par_good, text_good, trivial⟩) (by kernel_rfl) ?_
  have e := (sp_text awO).1 (by decide)
  rw [awT] at e
  (intro L P1 Q1 hL hP hQ; cbv; subst hL; simp only [L2, L3, std, sat_need, sat_must, sat_ite, sat_done, sat_yes, sat_ex, sat_all, sat_sup, sat_and, sat_fail]; subst hQ)
  (simp only [sySet, reduceCtorEq, forall_const, Int.reduceToNat, Int.reduceAdd, Int.reduceSub, Int.cast_ofNat_Int, Int.toNat_natCast, Nat.le_eq, Nat.sub_eq, ne_eq, Decidable.not_not, implies_true, true_and, and_true, wadd, wsub, wmul, decide_eq_true_eq, decide_eq_false_iff_not, Nat.succ_eq_add_one, imp_false, not_false_eq_true, not_true_eq_false, false_imp_iff, true_imp_iff])
  simp only [e.1, e.2]
  exact ⟨(by decide : (12 : Nat) ≤ 1000000), fun _ => ⟨fun _ => ⟨by omega, fun _ => ⟨awO, awT⟩, rfl⟩, trivial⟩, trivial⟩
/-! ### Facts that the laws ask -/
theorem mk_eta (a b c d p : Int) : mkPl std a b c d p = ⟨a, b, c, d, p⟩ := rfl
theorem pl_eta (x : Pl) : (⟨x.a, x.b, x.c, x.d, x.p⟩ : Pl) = x := rfl
theorem pl_eq (a b c d p e f g h q : Int) : (ieq a e && (ieq b f && (ieq c g && (ieq d h && true))) && (ieq p q && true)) = decide ((⟨a, b, c, d, p⟩ : Pl) = ⟨e, f, g, h, q⟩) := by
  simp [ieq, Bool.beq_eq_decide_eq, Bool.decide_and, Bool.and_assoc]
theorem seqB {x y : Pl} (hx : plOk x) (hy : plOk y) : seq (plB x) (plB y) = decide (x = y) := by
  by_cases h : x = y
  · subst h; simp [seq]
  · rw [decide_eq_false h]
    have : plB x ≠ plB y := fun e => h (plB_inj hx hy e)
    simp [seq, this]
theorem seqT {x y : Pl} (hx : plOk x) (hy : plOk y) : seq (plT x) (plT y) = decide (x = y) := by
  by_cases h : x = y
  · subst h; simp [seq]
  · rw [decide_eq_false h]
    have : plT x ≠ plT y := fun e => h (plT_inj hx hy e)
    simp [seq, this]
theorem cmp_slt (x y : Pl) : ilt (plCmp x y) 0 = slt (plB x) (plB y) := by
  have := cb_lt (plB x) (plB y)
  unfold ilt slt plCmp
  cases h : Op.bytesLess (plB x) (plB y) with
  | true => exact decide_eq_true (this.2 h)
  | false => exact decide_eq_false (fun e => by rw [this.1 e] at h; cases h)
theorem cmp_zero {x y : Pl} (hx : plOk x) (hy : plOk y) : ieq (plCmp x y) 0 = decide (x = y) := by
  by_cases h : x = y
  · subst h
    rw [decide_eq_true rfl, show plCmp x x = 0 from (cb_eq _ _).2 rfl]; rfl
  · rw [decide_eq_false h]
    have : plCmp x y ≠ 0 := fun e => h (plB_inj hx hy ((cb_eq _ _).1 e))
    simp [ieq, this]
theorem cmp_neg (x y : Pl) : plCmp x y = (0 - plCmp y x + 9223372036854775808) % 18446744073709551616 - 9223372036854775808 := by
  have h1 := cb_neg (plB x) (plB y)
  have h2 := cb_one (plB x) (plB y)
  have h1 : plCmp y x = - plCmp x y := h1
  have h2 : plCmp x y = -1 ∨ plCmp x y = 0 ∨ plCmp x y = 1 := h2
  omega
theorem cmp_trans {x y z : Pl} (h1 : plCmp x y ≤ 0) (h2 : plCmp y z ≤ 0) : plCmp x z ≤ 0 := cb_trans _ _ _ h1 h2
theorem any_0 (p : Int) : plAny ⟨0, 0, 0, 0, p⟩ = true := rfl
theorem meet_0 (x : Pl) : plMeet x ⟨0, 0, 0, 0, x.p⟩ = true := by simp [plMeet, any_0]
theorem meet_p {x y : Pl} (h : plMeet x y = true) : plMeet y ⟨0, 0, 0, 0, x.p⟩ = true := by
  have hp : x.p = y.p := by simp only [plMeet, Bool.and_eq_true, decide_eq_true_eq] at h; exact h.1
  rw [hp]; exact meet_0 y
theorem meet_self (x : Pl) : plMeet x x = true := by simp [plMeet]
theorem meet_sym (x y : Pl) : plMeet x y = plMeet y x := by
  have e1 : (x.p = y.p) = (y.p = x.p) := propext eq_comm
  have e2 : (x.a = y.a ∧ x.b = y.b ∧ x.c = y.c ∧ x.d = y.d) = (y.a = x.a ∧ y.b = x.b ∧ y.c = x.c ∧ y.d = x.d) := propext ⟨fun ⟨a, b, c, d⟩ => ⟨a.symm, b.symm, c.symm, d.symm⟩, fun ⟨a, b, c, d⟩ => ⟨a.symm, b.symm, c.symm, d.symm⟩⟩
  simp only [plMeet, e1, e2, Bool.or_comm (plAny x)]
theorem text_len {x : Pl} (h : plOk x) : (plT x).length ≤ 1000000 := by
  have l0 := dig_len (ip_in h 0)
  have l1 := dig_len (ip_in h 1)
  have l2 := dig_len (ip_in h 2)
  have l3 := dig_len (ip_in h 3)
  have hp5 : 0 ≤ x.p ∧ x.p ≤ 65535 := h.2.2.2.2
  have l4 := dig_len (n := x.p) ⟨hp5.1, by omega⟩
  simp only [nthI, ipL, List.getD_cons_zero, List.getD_cons_succ] at l0 l1 l2 l3
  simp only [plT, List.length_append, List.length_cons]
  omega
theorem spY_is (s : List UInt8) : ieq (spE s) 0 = spY s := by
  unfold spY
  rcases sp_err s with h | h <;> rw [h] <;> simp [ieq]
theorem tf {b : Bool} (h1 : b = true) (h2 : b = false) : False := by rw [h1] at h2; cases h2
theorem beqB_self (b : Bool) : beqB b b = true := by cases b <;> rfl
theorem of_is {s : List UInt8} (h : s.length = 6) : ofE s = 0 ↔ ¬ ((s.getD 4 0).toNat = 0 ∧ (s.getD 5 0).toNat = 0) := by
  match s, h with
  | [x0, x1, x2, x3, x4, x5], _ =>
    unfold ofE
    simp only [List.length_cons, List.length_nil, List.drop_succ_cons, List.drop_zero, List.getD_cons_zero, List.getD_cons_succ, ne_eq, List.cons.injEq, and_true, true_and]
    have e : ∀ u : UInt8, u.toNat = 0 ↔ u = 0 := fun u => ⟨fun h => UInt8.toNat_inj.1 h, fun h => (by rw [h]; rfl)⟩
    rw [e, e]
    split
    · rename_i hh; exact ⟨fun _ => hh, fun _ => rfl⟩
    · rename_i hh; exact ⟨fun h => (by cases h), fun h => absurd h hh⟩
theorem ofP_b {s : List UInt8} (h : ofE s = 0) : plOk (ofP s) ∧ plB (ofP s) = s := by
  have hl : s.length = 6 := by
    unfold ofE at h
    split at h
    · rename_i hh; exact hh.1
    · cases h
  rw [ofP, if_pos h]
  match s, hl with
  | [x0, x1, x2, x3, x4, x5], _ =>
    have t := fun u : UInt8 => u.toNat_lt
    have t0 := t x0
    have t1 := t x1
    have t2 := t x2
    have t3 := t x3
    have t4 := t x4
    have t5 := t x5
    have hg : getZ [x4, x5] = (x4.toNat : Int) * 256 + x5.toNat := by
      show (((0 * 256 + x4.toNat) * 256 + x5.toNat : Nat) : Int) = _
      omega
    have hb : ∀ u : UInt8, ub (u.toNat : Int) = u := fun u => by
      apply UInt8.toNat_inj.1
      rw [ub, UInt8.toNat_ofNat', Int.toNat_natCast]
      have := t u; omega
    show plOk ⟨(x0.toNat : Int), (x1.toNat : Int), (x2.toNat : Int), (x3.toNat : Int), getZ [x4, x5]⟩ ∧ plB ⟨(x0.toNat : Int), (x1.toNat : Int), (x2.toNat : Int), (x3.toNat : Int), getZ [x4, x5]⟩ = _
    rw [hg]
    refine ⟨⟨⟨?_, ?_⟩, ⟨?_, ?_⟩, ⟨?_, ?_⟩, ⟨?_, ?_⟩, ?_, ?_⟩, ?_⟩
    all_goals (try simp only; try omega)
    simp only [plB, hb]
    rw [show ((x4.toNat : Int) * 256 + x5.toNat) / 256 = x4.toNat by omega, show ((x4.toNat : Int) * 256 + x5.toNat) % 256 = x5.toNat by omega, hb, hb]
theorem beqB_bytes {a b c d p e f g h q : Int} (hx : plOk ⟨a, b, c, d, p⟩) (hy : plOk ⟨e, f, g, h, q⟩) : beqB (seq (plB ⟨a, b, c, d, p⟩) (plB ⟨e, f, g, h, q⟩)) ((ieq a e && (ieq b f && (ieq c g && (ieq d h && true))) && (ieq p q && true))) = true := by
  rw [pl_eq, seqB hx hy]; exact beqB_self _
theorem beqB_texts {a b c d p e f g h q : Int} (hx : plOk ⟨a, b, c, d, p⟩) (hy : plOk ⟨e, f, g, h, q⟩) : beqB (seq (plT ⟨a, b, c, d, p⟩) (plT ⟨e, f, g, h, q⟩)) ((ieq a e && (ieq b f && (ieq c g && (ieq d h && true))) && (ieq p q && true))) = true := by
  rw [pl_eq, seqT hx hy]; exact beqB_self _
theorem beqB_less (x y : Pl) : beqB (ilt (plCmp x y) 0) (slt (plB x) (plB y)) = true := by rw [cmp_slt]; exact beqB_self _
theorem beqB_cmp {a b c d p e f g h q : Int} (hx : plOk ⟨a, b, c, d, p⟩) (hy : plOk ⟨e, f, g, h, q⟩) : beqB (ieq (plCmp ⟨a, b, c, d, p⟩ ⟨e, f, g, h, q⟩) 0) ((ieq a e && (ieq b f && (ieq c g && (ieq d h && true))) && (ieq p q && true))) = true := by
  rw [pl_eq, cmp_zero hx hy]; exact beqB_self _
theorem beqB_sp (s : List UInt8) : beqB (ieq (spE s) 0) (spY s) = true := by rw [spY_is]; exact beqB_self _
theorem beqB_sym (x y : Pl) : beqB (plMeet x y) (plMeet y x) = true := by rw [meet_sym x y]; exact beqB_self _
theorem sp_4 {s : List UInt8} (h : spY s = false) : spE s = 4 := by
  rcases sp_err s with h1 | h1
  · unfold spY at h; rw [h1] at h; cases h
  · exact h1
theorem text_sp' {s : List UInt8} (h : spY s = true) : plT (spP s) = s := (text_sp (of_decide_eq_true h)).1
theorem of_n6 {s : List UInt8} (h : ¬ (s.length : Int) = 6) : ofE s = 4 := if_neg fun x => h (by omega)
theorem nat0 {n : Nat} (h : (n : Int) = 0) : n = 0 := by omega
theorem of_00 {s : List UInt8} (h4 : ((s.getD 4 0).toNat : Int) = 0) (h5 : ((s.getD 5 0).toNat : Int) = 0) : ofE s = 4 := by
  rcases of_err s with h | h
  · have hl : s.length = 6 := by
      unfold ofE at h
      split at h
      · rename_i hh; exact hh.1
      · cases h
    exact absurd ⟨nat0 h4, nat0 h5⟩ ((of_is hl).1 h)
  · exact h
theorem of_x4 {s : List UInt8} (hl : s.length = 6) (h : ¬ ((s.getD 4 0).toNat : Int) = 0) : ofE s = 0 := (of_is hl).2 fun x => h (by omega)
theorem of_x5 {s : List UInt8} (hl : s.length = 6) (h : ¬ ((s.getD 5 0).toNat : Int) = 0) : ofE s = 0 := (of_is hl).2 fun x => h (by omega)
theorem ofP_0 {s : List UInt8} (h : ofE s = 4) : ofP s = ⟨0, 0, 0, 0, 0⟩ := if_neg (by rw [h]; decide)
theorem cmp_1 {x y : Pl} (h1 : slt (plB x) (plB y) = true) : plCmp x y = -1 := by
  have h2 : plCmp x y < 0 := by
    have := cmp_slt x y
    rw [h1] at this
    exact of_decide_eq_true this
  have h3 : plCmp x y = -1 ∨ plCmp x y = 0 ∨ plCmp x y = 1 := cb_one _ _
  omega
theorem cmp_2 {x y : Pl} (h1 : slt (plB x) (plB y) = false) (h2 : plB x ≠ plB y) : plCmp x y = 1 := by
  have h4 : ¬ plCmp x y < 0 := by
    have := cmp_slt x y
    rw [h1] at this
    exact of_decide_eq_false this
  have h5 : plCmp x y ≠ 0 := fun e => h2 ((cb_eq _ _).1 e)
  have h3 : plCmp x y = -1 ∨ plCmp x y = 0 ∨ plCmp x y = 1 := cb_one _ _
  omega
theorem cmp_3 {x y : Pl} (h1 : slt (plB x) (plB y) = true ∨ plB x = plB y) (h2 : slt (plB x) (plB y) = false) : plCmp x y = 0 := by
  rcases h1 with h1 | h1
  · rw [h1] at h2; cases h2
  · exact (cb_eq _ _).2 h1
theorem spotBytes_ac (x y : Pl) (hx : plOk x) (hy : plOk y) : ACalls Tryd.prog 3 [plA std x, plA std y] (.bool true) := by
  obtain ⟨a, b, c, d, p⟩ := x
  obtain ⟨e, f, g, h, q⟩ := y
  show ACalls _ _ [.agg [.int .u8 a, .int .u8 b, .int .u8 c, .int .u8 d, .int .u16 p], .agg [.int .u8 e, .int .u8 f, .int .u8 g, .int .u8 h, .int .u16 q]] _
  refine acalls_L (T := tt) (S := fun L => sumOf [tru 7, bytes_s L, text_s L, cmpP_s L]) (lo := noA) (lb := noA) 5 (fn := Tryd.f3) rfl rfl (by kernel_rfl) (by kernel_rfl) rfl tt_ok (sumOf_ok ⟨tru_good awake04_ac, bytes_good, text_good, cmpP_good, trivial⟩) (by kernel_rfl) ?_
  intro L P' Q' hL hP hQ
  (cbv; try simp only [sat_need, sat_must, sat_ite, sat_done, sat_yes, sat_ex, sat_all, sat_sup, sat_and, sat_fail, true_and, and_true])
  repeat' first
    | refine And.intro ?_ ?_
    | (intro hh)
  all_goals (subst hL; subst hQ; simp only [L2, L3, std] at *; try simp only [sySet, reduceCtorEq, forall_const, Int.reduceToNat, Int.reduceAdd, Int.reduceSub, Int.cast_ofNat_Int, Int.toNat_natCast, Nat.le_eq, Nat.sub_eq, ne_eq, Decidable.not_not, implies_true, true_and, and_true, wadd, wsub, wmul, decide_eq_true_eq, decide_eq_false_iff_not, Nat.succ_eq_add_one, imp_false, not_false_eq_true, not_true_eq_false, false_imp_iff, true_imp_iff] at *)
  all_goals (try contradiction)
  all_goals (try simp only [mk_eta] at *)
  all_goals first
    | exact hx
    | exact hy
    | rfl
    | exact (tf (beqB_bytes hx hy) (by assumption)).elim
    | exact (tf (beqB_texts hx hy) (by assumption)).elim
    | exact (tf (beqB_less _ _) (by assumption)).elim
theorem spotOrder_ac (x y z : Pl) (hx : plOk x) (hy : plOk y) (hz : plOk z) : ACalls Tryd.prog 4 [plA std x, plA std y, plA std z] (.bool true) := by
  obtain ⟨a, b, c, d, p⟩ := x
  obtain ⟨e, f, g, h, q⟩ := y
  obtain ⟨i, j, k, l, r⟩ := z
  show ACalls _ _ [.agg [.int .u8 a, .int .u8 b, .int .u8 c, .int .u8 d, .int .u16 p], .agg [.int .u8 e, .int .u8 f, .int .u8 g, .int .u8 h, .int .u16 q], .agg [.int .u8 i, .int .u8 j, .int .u8 k, .int .u8 l, .int .u16 r]] _
  refine acalls_L (T := tt) (S := fun L => sumOf [tru 7, cmpP_s L, any_s L, meet_s L]) (lo := noA) (lb := noA) 5 (fn := Tryd.f4) rfl rfl (by kernel_rfl) (by kernel_rfl) rfl tt_ok (sumOf_ok ⟨tru_good awake04_ac, cmpP_good, any_good, meet_good, trivial⟩) (by kernel_rfl) ?_
  intro L P' Q' hL hP hQ
  (cbv; try simp only [sat_need, sat_must, sat_ite, sat_done, sat_yes, sat_ex, sat_all, sat_sup, sat_and, sat_fail, true_and, and_true])
  repeat' first
    | refine And.intro ?_ ?_
    | (intro hh)
  all_goals (subst hL; subst hQ; simp only [L2, L3, std] at *; try simp only [sySet, reduceCtorEq, forall_const, Int.reduceToNat, Int.reduceAdd, Int.reduceSub, Int.cast_ofNat_Int, Int.toNat_natCast, Nat.le_eq, Nat.sub_eq, ne_eq, Decidable.not_not, implies_true, true_and, and_true, wadd, wsub, wmul, decide_eq_true_eq, decide_eq_false_iff_not, Nat.succ_eq_add_one, imp_false, not_false_eq_true, not_true_eq_false, false_imp_iff, true_imp_iff] at *)
  all_goals (try contradiction)
  all_goals (try simp only [mk_eta] at *)
  all_goals first
    | exact hx
    | exact hy
    | exact hz
    | exact any_0 _
    | exact meet_0 ⟨a, b, c, d, p⟩
    | exact meet_p (x := ⟨a, b, c, d, p⟩) (by assumption)
    | exact (tf (beqB_cmp hx hy) (by assumption)).elim
    | exact (tf (any_0 _) (by assumption)).elim
    | exact (tf (meet_0 ⟨a, b, c, d, p⟩) (by assumption)).elim
    | exact absurd (cmp_neg _ _) (by assumption)
    | (have := cmp_trans (x := ⟨a, b, c, d, p⟩) (y := ⟨e, f, g, h, q⟩) (z := ⟨i, j, k, l, r⟩) (by assumption) (by assumption); omega)
theorem spotTexts_ac (s : List UInt8) (x : Pl) (hx : plOk x) : ACalls Tryd.prog 5 [.str s, plA std x] (.bool true) := by
  obtain ⟨a, b, c, d, p⟩ := x
  show ACalls _ _ [.str s, .agg [.int .u8 a, .int .u8 b, .int .u8 c, .int .u8 d, .int .u16 p]] _
  refine acalls_L (T := tt) (S := fun L => sumOf [tru 7, par_s L, rpar_s L, text_s L, rtext_s L, bytes_s L, rbytes_s L, of_s L]) (lo := noA) (lb := noA) 5 (fn := Tryd.f5) rfl rfl (by kernel_rfl) (by kernel_rfl) rfl tt_ok (sumOf_ok ⟨tru_good awake04_ac, par_good, rpar_good, text_good, rtext_good, bytes_good, rbytes_good, of_good, trivial⟩) (by kernel_rfl) ?_
  intro L P' Q' hL hP hQ
  (cbv; try simp only [sat_need, sat_must, sat_ite, sat_done, sat_yes, sat_ex, sat_all, sat_sup, sat_and, sat_fail, true_and, and_true])
  repeat' first
    | refine And.intro ?_ ?_
    | (intro hh)
  all_goals (subst hL; subst hQ; simp only [L2, L3, std] at *; try simp only [sySet, reduceCtorEq, forall_const, Int.reduceToNat, Int.reduceAdd, Int.reduceSub, Int.cast_ofNat_Int, Int.toNat_natCast, Nat.le_eq, Nat.sub_eq, ne_eq, Decidable.not_not, implies_true, true_and, and_true, wadd, wsub, wmul, decide_eq_true_eq, decide_eq_false_iff_not, Nat.succ_eq_add_one, imp_false, not_false_eq_true, not_true_eq_false, false_imp_iff, true_imp_iff] at *)
  all_goals (try contradiction)
  all_goals (try simp only [mk_eta, pl_eta] at *)
  all_goals (have hp1 : 0 ≤ p := hx.2.2.2.2.1; have T1 := fun h : ¬ p = 0 => (sp_text hx).1 (show 1 ≤ p by omega); have T2 := fun h : ¬ p = 0 => (of_bytes hx).1 (show 1 ≤ p by omega))
  all_goals first
    | exact hx
    | (show s.length ≤ 1000000; omega)
    | exact text_len hx
    | exact (by decide : 6 ≤ 1000000000)
    | exact (tf (b := spY s) (by assumption) (by assumption)).elim
    | exact (text_sp (of_decide_eq_true (by assumption))).2
    | exact (tf (beqB_sp _) (by assumption)).elim
    | exact absurd (sp_4 (by assumption)) (by assumption)
    | exact absurd (text_sp' (by assumption)) (by assumption)
    | exact absurd (((sp_text hx).2 (by assumption))) (by assumption)
    | exact absurd (((of_bytes hx).2 (by assumption))) (by assumption)
    | exact ((of_bytes hx).2 (by assumption))
    | exact absurd (T1 (by assumption)).1 (by assumption)
    | exact absurd (T2 (by assumption)).1 (by assumption)
    | (rw [(T2 (by assumption)).2]; exact ⟨⟨rfl, rfl, rfl, rfl⟩, rfl⟩)
    | exact absurd (show (spP (plT ⟨a, b, c, d, p⟩)).p = p by rw [(T1 (by assumption)).2]) ((by assumption : (spP (plT ⟨a, b, c, d, p⟩)).a = a ∧ (spP (plT ⟨a, b, c, d, p⟩)).b = b ∧ (spP (plT ⟨a, b, c, d, p⟩)).c = c ∧ (spP (plT ⟨a, b, c, d, p⟩)).d = d → ¬ (spP (plT ⟨a, b, c, d, p⟩)).p = p) (by rw [(T1 (by assumption)).2]; exact ⟨rfl, rfl, rfl, rfl⟩))
def cmp1 (x y : Pl) (z : Int) : Prop := z = if slt (plB x) (plB y) = true then -1 else 0
def cmp2 (x y : Pl) (z : Int) : Prop := z = plCmp x y
def spmA (L : Seal) (x y : Pl) : Nat → St → Option Ann := fun id st =>
  cond (nbeq id 1000023) (some ⟨Int, fun z => [(9, .int .i64 z)], fun _ => [], [2, 3, 4, 7, 8], [3, 4], fun z => L3 L cmp1 x y z, fun _ => 0⟩)
    (cond (nbeq id 1000026) (some ⟨Int, fun z => [(9, .int .i64 z)], fun _ => [], [2, 3, 4], [3, 4], fun z => L3 L cmp2 x y z, fun _ => 0⟩) none)
theorem spotMeets_ac (x y : Pl) (s : List UInt8) (hx : plOk x) (hy : plOk y) : ACalls Tryd.prog 6 [plA std x, plA std y, .str s] (.bool true) := by
  obtain ⟨a, b, c, d, p⟩ := x
  obtain ⟨e, f, g, h, q⟩ := y
  show ACalls _ _ [.agg [.int .u8 a, .int .u8 b, .int .u8 c, .int .u8 d, .int .u16 p], .agg [.int .u8 e, .int .u8 f, .int .u8 g, .int .u8 h, .int .u16 q], .str s] _
  refine acalls_L (T := tt) (S := fun L => sumOf [tru 7, rbytes_s L, of_s L, bytes_s L, meet_s L, rmeet_s L, cmpP_s L, any_s L, rany_s L]) (lo := fun L => spmA L ⟨a, b, c, d, p⟩ ⟨e, f, g, h, q⟩) (lb := noA) 5 (fn := Tryd.f6) rfl rfl (by kernel_rfl) (by kernel_rfl) rfl tt_ok (sumOf_ok ⟨tru_good awake04_ac, rbytes_good, of_good, bytes_good, meet_good, rmeet_good, cmpP_good, any_good, rany_good, trivial⟩) (by kernel_rfl) ?_
  intro L P' Q' hL hP hQ
  (cbv; try simp only [sat_need, sat_must, sat_ite, sat_done, sat_yes, sat_ex, sat_all, sat_sup, sat_and, sat_fail, true_and, and_true])
  refine ⟨fun h => ?_, fun _ => ⟨fun h => ?_, fun hl => ⟨?_, ?_, ⟨fun h1 => ⟨-1, ?_⟩, fun h1 => ⟨0, ?_⟩⟩, fun z hz => ?_⟩⟩⟩
  · (subst hL; subst hQ; simp only [L2, L3, std] at *; try simp only [sySet, reduceCtorEq, forall_const, Int.reduceToNat, Int.reduceAdd, Int.reduceSub, Int.cast_ofNat_Int, Int.toNat_natCast, Nat.le_eq, Nat.sub_eq, ne_eq, Decidable.not_not, implies_true, true_and, and_true, wadd, wsub, wmul, decide_eq_true_eq, decide_eq_false_iff_not, Nat.succ_eq_add_one, imp_false, not_false_eq_true, not_true_eq_false, false_imp_iff, true_imp_iff] at *)
  · (subst hL; subst hQ; simp only [L2, L3, std] at *; try simp only [sySet, reduceCtorEq, forall_const, Int.reduceToNat, Int.reduceAdd, Int.reduceSub, Int.cast_ofNat_Int, Int.toNat_natCast, Nat.le_eq, Nat.sub_eq, ne_eq, Decidable.not_not, implies_true, true_and, and_true, wadd, wsub, wmul, decide_eq_true_eq, decide_eq_false_iff_not, Nat.succ_eq_add_one, imp_false, not_false_eq_true, not_true_eq_false, false_imp_iff, true_imp_iff] at *)
  · (subst hL; subst hQ; simp only [L2, L3, std] at *; try simp only [sySet, reduceCtorEq, forall_const, Int.reduceToNat, Int.reduceAdd, Int.reduceSub, Int.cast_ofNat_Int, Int.toNat_natCast, Nat.le_eq, Nat.sub_eq, ne_eq, Decidable.not_not, implies_true, true_and, and_true, wadd, wsub, wmul, decide_eq_true_eq, decide_eq_false_iff_not, Nat.succ_eq_add_one, imp_false, not_false_eq_true, not_true_eq_false, false_imp_iff, true_imp_iff] at *)
    exact hx
  · (subst hL; subst hQ; simp only [L2, L3, std] at *; try simp only [sySet, reduceCtorEq, forall_const, Int.reduceToNat, Int.reduceAdd, Int.reduceSub, Int.cast_ofNat_Int, Int.toNat_natCast, Nat.le_eq, Nat.sub_eq, ne_eq, Decidable.not_not, implies_true, true_and, and_true, wadd, wsub, wmul, decide_eq_true_eq, decide_eq_false_iff_not, Nat.succ_eq_add_one, imp_false, not_false_eq_true, not_true_eq_false, false_imp_iff, true_imp_iff] at *)
    exact hy
  · (cbv; try simp only [sat_need, sat_must, sat_ite, sat_done, sat_yes, sat_ex, sat_all, sat_sup, sat_and, sat_fail, true_and, and_true])
    (subst hL; subst hQ; simp only [L2, L3, std] at *; try simp only [sySet, reduceCtorEq, forall_const, Int.reduceToNat, Int.reduceAdd, Int.reduceSub, Int.cast_ofNat_Int, Int.toNat_natCast, Nat.le_eq, Nat.sub_eq, ne_eq, Decidable.not_not, implies_true, true_and, and_true, wadd, wsub, wmul, decide_eq_true_eq, decide_eq_false_iff_not, Nat.succ_eq_add_one, imp_false, not_false_eq_true, not_true_eq_false, false_imp_iff, true_imp_iff] at *)
    exact (if_pos h1).symm
  · (cbv; try simp only [sat_need, sat_must, sat_ite, sat_done, sat_yes, sat_ex, sat_all, sat_sup, sat_and, sat_fail, true_and, and_true])
    (subst hL; subst hQ; simp only [L2, L3, std] at *; try simp only [sySet, reduceCtorEq, forall_const, Int.reduceToNat, Int.reduceAdd, Int.reduceSub, Int.cast_ofNat_Int, Int.toNat_natCast, Nat.le_eq, Nat.sub_eq, ne_eq, Decidable.not_not, implies_true, true_and, and_true, wadd, wsub, wmul, decide_eq_true_eq, decide_eq_false_iff_not, Nat.succ_eq_add_one, imp_false, not_false_eq_true, not_true_eq_false, false_imp_iff, true_imp_iff] at *)
    exact (if_neg (by rw [mk_eta, mk_eta] at h1; rw [h1]; decide)).symm
  cbv at hz
  (cbv; try simp only [sat_need, sat_must, sat_ite, sat_done, sat_yes, sat_ex, sat_all, sat_sup, sat_and, sat_fail, true_and, and_true])
  refine ⟨⟨fun h1 => ⟨1, ?_⟩, fun h1 => ⟨z, ?_⟩⟩, fun z hz => ?_⟩
  · (cbv; try simp only [sat_need, sat_must, sat_ite, sat_done, sat_yes, sat_ex, sat_all, sat_sup, sat_and, sat_fail, true_and, and_true])
    (subst hL; subst hQ; simp only [L2, L3, std] at *; try simp only [sySet, reduceCtorEq, forall_const, Int.reduceToNat, Int.reduceAdd, Int.reduceSub, Int.cast_ofNat_Int, Int.toNat_natCast, Nat.le_eq, Nat.sub_eq, ne_eq, Decidable.not_not, implies_true, true_and, and_true, wadd, wsub, wmul, decide_eq_true_eq, decide_eq_false_iff_not, Nat.succ_eq_add_one, imp_false, not_false_eq_true, not_true_eq_false, false_imp_iff, true_imp_iff] at *)
    simp only [mk_eta] at h1
    exact (cmp_2 h1.1 h1.2).symm
  · (cbv; try simp only [sat_need, sat_must, sat_ite, sat_done, sat_yes, sat_ex, sat_all, sat_sup, sat_and, sat_fail, true_and, and_true])
    (subst hL; subst hQ; simp only [L2, L3, std] at *; try simp only [sySet, reduceCtorEq, forall_const, Int.reduceToNat, Int.reduceAdd, Int.reduceSub, Int.cast_ofNat_Int, Int.toNat_natCast, Nat.le_eq, Nat.sub_eq, ne_eq, Decidable.not_not, implies_true, true_and, and_true, wadd, wsub, wmul, decide_eq_true_eq, decide_eq_false_iff_not, Nat.succ_eq_add_one, imp_false, not_false_eq_true, not_true_eq_false, false_imp_iff, true_imp_iff] at *)
    simp only [mk_eta] at h1
    have hz : z = if slt (plB ⟨a, b, c, d, p⟩) (plB ⟨e, f, g, h, q⟩) = true then -1 else 0 := hz
    by_cases hs : slt (plB ⟨a, b, c, d, p⟩) (plB ⟨e, f, g, h, q⟩) = true
    · rw [if_pos hs] at hz
      rw [hz]; exact (cmp_1 hs).symm
    · rw [if_neg hs] at hz
      rw [hz]; exact (cmp_3 h1 (by simpa using hs)).symm
  cbv at hz
  (cbv; try simp only [sat_need, sat_must, sat_ite, sat_done, sat_yes, sat_ex, sat_all, sat_sup, sat_and, sat_fail, true_and, and_true])
  repeat' first
    | refine And.intro ?_ ?_
    | (intro hh)
  all_goals (subst hL; subst hQ; simp only [L2, L3, std] at *; try simp only [sySet, reduceCtorEq, forall_const, Int.reduceToNat, Int.reduceAdd, Int.reduceSub, Int.cast_ofNat_Int, Int.toNat_natCast, Nat.le_eq, Nat.sub_eq, ne_eq, Decidable.not_not, implies_true, true_and, and_true, wadd, wsub, wmul, decide_eq_true_eq, decide_eq_false_iff_not, Nat.succ_eq_add_one, imp_false, not_false_eq_true, not_true_eq_false, false_imp_iff, true_imp_iff] at *)
  all_goals (try contradiction)
  all_goals (try simp only [mk_eta, pl_eta] at *)
  all_goals first
    | exact hx
    | exact hy
    | (show s.length ≤ _; omega)
    | omega
    | exact (ofP_b (by assumption)).1
    | exact beqB_self _
    | exact (tf (beqB_self _) (by assumption)).elim
    | exact (tf (beqB_sym _ _) (by assumption)).elim
    | exact (tf (meet_self _) (by assumption)).elim
    | exact absurd (ofP_b (by assumption)).2 (by assumption)
    | exact absurd (of_n6 (by assumption)) (by assumption)
    | exact absurd (of_00 (by assumption) (by assumption)) (by assumption)
    | exact absurd (of_x4 (s := s) (by omega) (by assumption)) (by assumption)
    | exact absurd (of_x5 (s := s) (by omega) (by assumption)) (by assumption)
    | exact absurd (show (ofP s).p = 0 by rw [ofP_0 (by assumption)]) ((by assumption : (ofP s).a = 0 ∧ (ofP s).b = 0 ∧ (ofP s).c = 0 ∧ (ofP s).d = 0 → ¬ (ofP s).p = 0) (by rw [ofP_0 (by assumption)]; exact ⟨rfl, rfl, rfl, rfl⟩))
    | exact absurd (Eq.symm (show z = plCmp _ _ from hz)) (by assumption)
/-! ### Places as arguments -/
def plAt (L : Seal) (x : Pl) : Nat → AV
  | 0 => .int .u8 (L Pl.a x)
  | 1 => .int .u8 (L Pl.b x)
  | 2 => .int .u8 (L Pl.c x)
  | 3 => .int .u8 (L Pl.d x)
  | _ => .int .u16 (L Pl.p x)
def plOf (y : List Int × Int × Unit) : Pl := ⟨nthI y.1 0, nthI y.1 1, nthI y.1 2, nthI y.1 3, y.2.1⟩
theorem opens_Pl {H : Type} {enc : TypeId × Value → H} {W : World} : Opens enc Tryd.prog W 25 Pl 5 (plAt std) plOk := by
  have O := (opens_struct (P := Tryd.prog) (enc := enc) (W := W) Tryd.underlying25 (by kernel_rfl) (opensF_cons rfl (opens_arr Tryd.underlying22 (by kernel_rfl) (opens_int Tryd.underlying5 (by kernel_rfl)) (by omega)) (opensF_cons rfl (opens_int Tryd.underlying23 (by kernel_rfl)) (opensF_nil _))))
  refine ⟨O.size, fun fuel cs x h => ?_⟩
  obtain ⟨y, ⟨⟨hl, hall⟩, hp, _⟩, hlen, hy⟩ := O.go fuel cs x h
  have hb : ∀ j, j < 4 → 0 ≤ nthI y.1 j ∧ nthI y.1 j ≤ 255 := fun j hj => by
    have hlt : j < y.1.length := by omega
    have := bounds_u8 (hall _ (List.getElem_mem hlt))
    rw [nthI, List.getD_eq_getElem?_getD, List.getElem?_eq_getElem hlt]
    exact this
  refine ⟨plOf y, ⟨hb 0 (by omega), hb 1 (by omega), hb 2 (by omega), hb 3 (by omega), bounds_u16 hp⟩, hlen, fun j hj => ?_⟩
  obtain ⟨v, v1, v2, v3⟩ := hy j hj
  refine ⟨v, v1, v2, ?_⟩
  have cell : ∀ k, k < 4 → avL (fun n (_ : Nat) => AV.int .u8 n) y.1 (k / 1) (k % 1) = .int .u8 (nthI y.1 k) := fun k hk => by
    rw [Nat.div_one, avL, nthI, List.getD_eq_getElem?_getD, List.getElem?_eq_getElem (by omega : k < y.1.length)]; rfl
  match j, hj with
  | 0, _ => simp only [Nat.mul_one, Nat.lt_add_one, show (0 : Nat) < 4 by omega, if_true, cell] at v3; exact v3
  | 1, _ => simp only [Nat.mul_one, show (1 : Nat) < 4 by omega, if_true, cell] at v3; exact v3
  | 2, _ => simp only [Nat.mul_one, show (2 : Nat) < 4 by omega, if_true, cell] at v3; exact v3
  | 3, _ => simp only [Nat.mul_one, show (3 : Nat) < 4 by omega, if_true, cell] at v3; exact v3
  | 4, _ => exact v3
theorem law_SpotBytes (x : Pl) (hx : plOk x) (y : Pl) (hy : plOk y) : ACalls Tryd.prog 3 [.agg ((List.range 5).map (plAt std x)), .agg ((List.range 5).map (plAt std y))] (.bool true) := spotBytes_ac x y hx hy
theorem law_SpotOrder (x : Pl) (hx : plOk x) (y : Pl) (hy : plOk y) (z : Pl) (hz : plOk z) : ACalls Tryd.prog 4 [.agg ((List.range 5).map (plAt std x)), .agg ((List.range 5).map (plAt std y)), .agg ((List.range 5).map (plAt std z))] (.bool true) := spotOrder_ac x y z hx hy hz
theorem law_SpotTexts (s : List UInt8) (hs : s.length ≤ maxLen) (x : Pl) (hx : plOk x) : ACalls Tryd.prog 5 [.str s, .agg ((List.range 5).map (plAt std x))] (.bool true) := spotTexts_ac s x hx
theorem law_SpotMeets (x : Pl) (hx : plOk x) (y : Pl) (hy : plOk y) (s : List UInt8) (hs : s.length ≤ maxLen) : ACalls Tryd.prog 6 [.agg ((List.range 5).map (plAt std x)), .agg ((List.range 5).map (plAt std y)), .str s] (.bool true) := spotMeets_ac x y s hx hy
end Sy
end Go.Proofs.YtckbbcjbbmgmoaaDoor
