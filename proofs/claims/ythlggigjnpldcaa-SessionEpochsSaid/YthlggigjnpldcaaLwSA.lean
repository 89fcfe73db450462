/- The law SessionEpochs: the rounds of a session. -/
import Derived.Test.YthlggigjnpldcaaAcY
import Derived.Test.YthlggigjnpldcaaOpn
namespace Go.Proofs.Ythlggigjnpldcaa
namespace Sy
open Go Go.RowKit
set_option maxRecDepth 100000
set_option linter.unusedSimpArgs false
set_option linter.unusedVariables false

def MEq (a : Int) (m : Nat) : Prop := a = m
/-- A round's session. -/
structure EpI (x : Ss) (i m : Nat) : Prop where
  ep : x.ep = i
  ver : u64Ok x.ver
  nxt : x.nxt = 2 * i
  opn : x.opn = false
  ba : x.ba = 2
  ca : x.ca = 9
  tr : 0 ≤ x.tr ∧ x.tr ≤ 64
  le : i ≤ m
def epInv (m : Nat) (x : Nat × Ss) : Prop := EpI x.2 x.1 m
def snd1 (x : Nat × Ss) : Ss := x.2
def fst1 (x : Nat × Ss) : Nat := x.1
def epA (L : Seal) (m : Nat) : Nat → St → Option Ann := fun id st => match id with
  | 0 => some ⟨Nat × Ss, fun x => [(32, .int .u8 (L natI (L fst1 x))), (6, .int .u64 (L Ss.nxt (L snd1 x))), (7, .int .u64 (L Ss.ver (L snd1 x))), (5, .ref 5 0)],
      fun x => [(5, .box 82 [.int .u64 (L Ss.ep (L snd1 x)), .int .u64 (L Ss.ver (L snd1 x)), .int .u64 (L Ss.non (L snd1 x)), .int .u64 (L Ss.nxt (L snd1 x)), .str (L Ss.rep (L snd1 x)), .bool (L Ss.opn (L snd1 x)), .int .u64 (L Ss.ba (L snd1 x)), .int .u64 (L Ss.ca (L snd1 x)), .int .i64 (L Ss.tr (L snd1 x))])], [1, 31], [],
      fun x => L2 L epInv m x, fun x => L2 L (fun m (x : Nat × Ss) => m - x.1) m x⟩
  | _ => none
theorem ep_tick (i b c : Int) (r : List UInt8) (g : Int) : tickS ⟨i, b, c, 2 * i, r, false, 2, 9, g⟩ (2 * i) = ⟨(i + 1) % 18446744073709551616, b, 0, 2 * i, [], true, 2, 9, g⟩ := if_neg (by simp)
theorem ep_tickT (i b c : Int) (r : List UInt8) (g : Int) : tickT ⟨i, b, c, 2 * i, r, false, 2, 9, g⟩ (2 * i) = msgT 1 ((i + 1) % 18446744073709551616) [] [b] := if_neg (by simp)
theorem ep_stale {i b d : Int} {r : List UInt8} {e f g : Int} {s : List UInt8} {k : Int} {l : List Int} (h : ReadIs s 2 k [120] l) (hk : k ≠ i) : takE ⟨i, b, 0, d, r, true, e, f, g⟩ s = 18 := by
  rw [takE, if_neg (by simp [h.E]), if_neg (by simp [h.K]), if_pos (.inr (.inl (by rw [h.P]; exact hk)))]
theorem ep_yes {i b d : Int} {r : List UInt8} {e f g : Int} {s : List UInt8} {v : Int} (h : ReadIs s 2 i [120] [v, 1]) : takE ⟨i, b, 0, d, r, true, e, f, g⟩ s = 0 ∧ takS ⟨i, b, 0, d, r, true, e, f, g⟩ s = ⟨i, b, 1, d, [], true, e, f, 0⟩ ∧ takO ⟨i, b, 0, d, r, true, e, f, g⟩ s = ⟨v, 1, [120]⟩ := by
  have e0 : takE ⟨i, b, 0, d, r, true, e, f, g⟩ s = 0 := by
    rw [takE, if_neg (by simp [h.E]), if_neg (by simp [h.K]), if_neg, if_neg]
    · rw [h.I]; show ¬ (1 : Int) = 0; decide
    · rw [h.I, h.P]
      rintro (x | x | x | x)
      · cases x
      · exact x rfl
      · exact absurd x (by show ¬ (1 : Int) < 0; decide)
      · exact absurd x.1 (by show ¬ (1 : Int) = 0; decide)
  refine ⟨e0, ?_, ?_⟩
  · rw [takS, if_pos e0, h.I]; rfl
  · rw [takO, if_pos e0, h.I, h.B]; rfl
theorem band1 (y : Int) : band .u16 y 1 = 0 ∨ band .u16 y 1 = 1 := by
  unfold band
  rw [BitVec.toNat_and, show (BitVec.ofInt IntKind.u16.bits 1).toNat = 1 from rfl, Nat.and_one_is_mod, w_u16]
  omega
def codeZ (c i : Int) : Int := (band .u16 (wshr .u16 c i) 1 + 9223372036854775808) % 18446744073709551616 - 9223372036854775808
theorem code_01 (c i : Int) : codeZ c i = 0 ∨ codeZ c i = 1 := by
  unfold codeZ
  have := band1 (wshr .u16 c i)
  omega
def epRep (c i b : Int) : List UInt8 := if codeZ c i = 0 then msgT 3 (i + 1) [] [100 + i, 1] else msgT 4 (i + 1) [] [b, 1, codeZ c i % 18446744073709551616]
def epVer (c i b : Int) : Int := if codeZ c i = 0 then 100 + i else b
def epNext (c : Int) (i : Nat) (b : Int) : Nat × Ss := (i + 1, ⟨(i : Int) + 1, epVer c i b, 1, 2 * i + 2, epRep c i b, false, 2, 9, 1⟩)
theorem ep_done (c i b d : Int) {e f : Int} : donS ⟨i + 1, b, 1, d, [], true, e, f, 0⟩ ⟨100 + i, 1, [120]⟩ (codeZ c i) = ⟨i + 1, epVer c i b, 1, d, epRep c i b, true, e, f, 0⟩ := by
  have hn : ¬ donN ⟨i + 1, b, 1, d, [], true, e, f, 0⟩ ⟨100 + i, 1, [120]⟩ := by
    rintro (x | x | x | x)
    · cases x.2.2
    · exact x rfl
    · exact x rfl
    · cases x
  unfold epVer epRep
  by_cases hz : codeZ c i = 0
  · rw [if_pos hz, if_pos hz, donS, if_neg hn, if_pos hz]
  · rw [if_neg hz, if_neg hz, donS, if_neg hn, if_neg hz]
theorem ep_lost {i b : Int} {r : List UInt8} {n : Int} (h0 : 0 ≤ n) (h1 : n ≤ 100) : lostS ⟨i, b, 1, n, r, true, 2, 9, 0⟩ n = ⟨i, b, 1, n + 2, r, false, 2, 9, 1⟩ := by
  rw [lostS, if_pos rfl, show dlyZ 2 9 0 = 2 by decide +kernel, show nxtT 0 = 1 by decide, show addS n 2 = n + 2 by unfold addS; omega]
theorem ep_late {i b n : Int} {r : List UInt8} : tickS ⟨i, b, 1, n + 2, r, false, 2, 9, 1⟩ (n + 2 - 1) = ⟨i, b, 1, n + 2, r, false, 2, 9, 1⟩ ∧ tickT ⟨i, b, 1, n + 2, r, false, 2, 9, 1⟩ (n + 2 - 1) = [] :=
  ⟨if_pos (.inr (by show n + 2 - 1 < n + 2; omega)), if_pos (.inr (by show n + 2 - 1 < n + 2; omega))⟩
theorem ep_mk {i : Nat} {v : Int} {r : List UInt8} {m : Nat} (h : u64Ok v) (hi : i + 1 ≤ m) : EpI ⟨(i : Int) + 1, v, 1, 2 * i + 2, r, false, 2, 9, 1⟩ (i + 1) m := by
  refine ⟨?_, h, ?_, rfl, rfl, rfl, ⟨(by decide : (0 : Int) ≤ 1), (by decide : (1 : Int) ≤ 64)⟩, hi⟩
  · show (i : Int) + 1 = ((i + 1 : Nat) : Int)
    omega
  · show 2 * (i : Int) + 2 = 2 * ((i + 1 : Nat) : Int)
    omega
set_option maxHeartbeats 2000000 in
theorem epochs_ac (r c : Int) (h0 : 0 ≤ r) (h1 : r < 256) (h2 : 0 ≤ c) (h3 : c < 65536) : ACalls Try.prog 9 [.int .u8 r, .int .u16 c] (.bool true) := by
  obtain ⟨m, hm⟩ : ∃ m : Nat, MEq (r.tmod 12) m := ⟨(r.tmod 12).toNat, by unfold MEq; rw [Int.tmod_eq_emod_of_nonneg h0]; omega⟩
  have hm11 : m ≤ 11 := by
    have hm' : r.tmod 12 = m := hm
    rw [Int.tmod_eq_emod_of_nonneg h0] at hm'; omega
  refine acalls_L (T := tt) (S := fun L => sumOf [tru 34, new_s L, tick_s L, rs_s L, msg_s L, tak_s L, don_s L, lost_s L]) (lo := fun L => epA L m) (lb := noA) 5 (fn := Try.f9) rfl rfl (by kernel_rfl) (by kernel_rfl) rfl tt_ok
    (sumOf_ok ⟨tru_good awake19_ac, new_good, tick_good, rs_good, msg_good, tak_good, don_good, lost_good, trivial⟩) (by kernel_rfl) ?_
  intro L P' Q' hL hP hQ
  (cbv; try simp only [sat_need, sat_must, sat_ite, sat_done, sat_yes, sat_ex, sat_all, sat_sup, sat_and, sat_fail, true_and, and_true])
  refine ⟨fun h => ?_, fun h => ⟨?_, ⟨(0, newS 2 9 0 7), ?_⟩, fun x hx => ?_⟩⟩
  · (subst hL; subst hQ; simp only [L2, L3, std] at *; try simp only [sySet, reduceCtorEq, forall_const, Int.reduceToNat, Int.reduceAdd, Int.reduceSub, Int.cast_ofNat_Int, Int.toNat_natCast, Nat.le_eq, Nat.sub_eq, ne_eq, Decidable.not_not, implies_true, true_and, and_true, wadd, wsub, wmul, decide_eq_true_eq, decide_eq_false_iff_not, Nat.succ_eq_add_one, imp_false, not_false_eq_true, not_true_eq_false, false_imp_iff, true_imp_iff] at *)
  · (subst hL; subst hQ; simp only [L2, L3, std] at *; try simp only [sySet, reduceCtorEq, forall_const, Int.reduceToNat, Int.reduceAdd, Int.reduceSub, Int.cast_ofNat_Int, Int.toNat_natCast, Nat.le_eq, Nat.sub_eq, ne_eq, Decidable.not_not, implies_true, true_and, and_true, wadd, wsub, wmul, decide_eq_true_eq, decide_eq_false_iff_not, Nat.succ_eq_add_one, imp_false, not_false_eq_true, not_true_eq_false, false_imp_iff, true_imp_iff] at *)
    decide
  · (cbv; try simp only [sat_need, sat_must, sat_ite, sat_done, sat_yes, sat_ex, sat_all, sat_sup, sat_and, sat_fail, true_and, and_true])
    (subst hL; subst hQ; simp only [L2, L3, std] at *; try simp only [sySet, reduceCtorEq, forall_const, Int.reduceToNat, Int.reduceAdd, Int.reduceSub, Int.cast_ofNat_Int, Int.toNat_natCast, Nat.le_eq, Nat.sub_eq, ne_eq, Decidable.not_not, implies_true, true_and, and_true, wadd, wsub, wmul, decide_eq_true_eq, decide_eq_false_iff_not, Nat.succ_eq_add_one, imp_false, not_false_eq_true, not_true_eq_false, false_imp_iff, true_imp_iff] at *)
    refine ⟨rfl, rfl, rfl, rfl, rfl, rfl, rfl, rfl, rfl, rfl, rfl, rfl, ?_⟩
    exact ⟨rfl, ⟨by decide, by decide⟩, rfl, rfl, rfl, rfl, ⟨by decide, by decide⟩, Nat.zero_le _⟩
  · cbv at hx
    obtain ⟨nx, hnx⟩ : ∃ nx, nx = epNext c x.1 x.2.ver := ⟨_, rfl⟩
    (cbv; try simp only [sat_need, sat_must, sat_ite, sat_done, sat_yes, sat_ex, sat_all, sat_sup, sat_and, sat_fail, true_and, and_true])
    refine ⟨fun hlt => ?_, fun hge => ?_⟩
    · have hh : True := trivial
      refine ⟨?_, ?_, fun hh => ?_, fun g1 => ⟨fun hh => ?_, fun g2 => ⟨fun hh => ?_, fun g3 => ⟨?_, fun hh => ?_, fun g4 => ⟨⟨?_, ?_⟩, ?_, fun hh => ?_, fun g5 => ⟨⟨?_, ?_⟩, ?_, ?_, ⟨?_, ?_, ?_, ?_⟩, fun hh => ?_, fun g6 => ⟨fun g7 => ⟨fun hh => ?_, fun g8 => ⟨⟨?_, ?_, ?_, ?_⟩, fun hh => ?_, fun g9 => ⟨fun hh => ?_, fun g10 => ⟨?_, fun hh => ?_, fun g11 => ⟨fun hh => ?_, fun g12 => ⟨nx, ?_⟩⟩⟩⟩⟩⟩, fun g7 => ⟨fun hh => ?_, fun g8 => ⟨⟨?_, ?_, ?_, ?_⟩, fun hh => ?_, fun g9 => ⟨fun hh => ?_, fun g10 => ⟨?_, fun hh => ?_, fun g11 => ⟨fun hh => ?_, fun g12 => ⟨nx, ?_⟩⟩⟩⟩⟩⟩⟩⟩⟩⟩⟩⟩⟩
      all_goals (try clear g1)
      all_goals (try clear g2)
      all_goals (try clear g3)
      all_goals (try clear g4)
      all_goals (try clear g5)
      all_goals (try clear g6)
      all_goals (try clear g9)
      all_goals (try clear g10)
      all_goals (try clear g11)
      all_goals (try clear g12)
      all_goals (try (cbv; try simp only [sat_need, sat_must, sat_ite, sat_done, sat_yes, sat_ex, sat_all, sat_sup, sat_and, sat_fail, true_and, and_true]))
      all_goals (obtain ⟨i, ⟨a, b, c', d, r', o, e, f, g⟩⟩ := x; (subst hL; subst hQ; simp only [L2, L3, std] at *; try simp only [sySet, reduceCtorEq, forall_const, Int.reduceToNat, Int.reduceAdd, Int.reduceSub, Int.cast_ofNat_Int, Int.toNat_natCast, Nat.le_eq, Nat.sub_eq, ne_eq, Decidable.not_not, implies_true, true_and, and_true, wadd, wsub, wmul, decide_eq_true_eq, decide_eq_false_iff_not, Nat.succ_eq_add_one, imp_false, not_false_eq_true, not_true_eq_false, false_imp_iff, true_imp_iff] at *))
      all_goals (try simp only [snd1, fst1] at *)
      all_goals obtain ⟨q1, q2, q3, q4, q5, q6, q7, q8⟩ := hx
      all_goals simp only at q1 q2 q3 q4 q5 q6 q7 q8
      all_goals subst q1 q3 q4 q5 q6
      all_goals have u1 : ((i : Nat) : Int) % 18446744073709551616 = i := by omega
      all_goals have u2 : ((i : Nat) + 1 : Int) % 18446744073709551616 = i + 1 := by omega
      all_goals have u3 : (100 + (i : Nat) : Int) % 18446744073709551616 = 100 + i := by omega
      all_goals have R1 := read_msg (k := 1) (e := i + 1) (b := []) (l := [b]) rfl (by decide) (by decide) ⟨by omega, by omega⟩ (by decide) (all1 q2)
      all_goals have R2 := read_msg (k := 2) (e := i) (b := [120]) (l := [1, 1]) rfl (by decide) (by decide) ⟨by omega, by omega⟩ (by decide) (all2 ⟨by decide, by decide⟩ ⟨by decide, by decide⟩)
      all_goals have R3 := read_msg (k := 2) (e := i + 1) (b := [120]) (l := [100 + i, 1]) rfl (by decide) (by decide) ⟨by omega, by omega⟩ (by decide) (all2 ⟨by omega, by omega⟩ ⟨by decide, by decide⟩)
      all_goals have E2 := ep_stale (i := i + 1) (b := b) (d := 2 * i) (r := []) (e := 2) (f := 9) (g := g) R2 (by omega)
      all_goals obtain ⟨E3, S3, O3⟩ := ep_yes (b := b) (d := 2 * i) (r := []) (e := 2) (f := 9) (g := g) R3
      all_goals have D3 := ep_done c i b (2 * i) (e := 2) (f := 9)
      all_goals have l3 := ep_lost (i := i + 1) (b := epVer c i b) (r := epRep c i b) (n := 2 * i) (by omega) (by omega)
      all_goals have hz := code_01 c i
      all_goals have v1 : codeZ c i = 0 → epVer c i b = 100 + i := fun h => if_pos h
      all_goals have v2 : ¬ codeZ c i = 0 → epVer c i b = b := fun h => if_neg h
      all_goals have v3 : nthI [b] 0 = b := rfl
      all_goals have u4 : (2 * (i : Nat) + 2 - 1 : Int) % 18446744073709551616 = 2 * i + 2 - 1 := by omega
      all_goals have w5 : msgOk i [120] [1, 1] := ⟨⟨by omega, by omega⟩, by decide, by decide, all2 ⟨by decide, by decide⟩ ⟨by decide, by decide⟩⟩
      all_goals have w6 : msgOk (i + 1) [120] [100 + (i : Int), 1] := ⟨⟨by omega, by omega⟩, by decide, by simp, all2 ⟨by omega, by omega⟩ ⟨by decide, by decide⟩⟩
      all_goals have w7 : u64Ok ((i : Int) + 1) := ⟨by omega, by omega⟩
      all_goals have w8 : u64Ok (100 + (i : Int)) := ⟨by omega, by omega⟩
      all_goals have w9 : u64Ok 1 := ⟨by decide, by decide⟩
      all_goals have w10 : u64Ok 2 := ⟨by decide, by decide⟩
      all_goals have w11 : u64Ok 9 := ⟨by decide, by decide⟩
      all_goals have w12 : u64Ok (epVer c i b) := hz.elim (fun h => by rw [v1 h]; exact w8) (fun h => by rw [v2 (by rw [h]; decide)]; exact q2)
      all_goals have w2 : u64Ok (2 * (i : Int)) := ⟨by omega, by omega⟩
      all_goals have w3 : (0 : Int) ≤ 0 ∧ (0 : Int) < ((lenI [b] : Nat) : Int) := ⟨by omega, by show (0 : Int) < ((1 : Nat) : Int); omega⟩
      all_goals have w4 : u64Ok (2 * (i : Int) + 2) := ⟨by omega, by omega⟩
      all_goals (try simp only [show (band .u16 (wshr .u16 c i) 1 + 9223372036854775808) % 18446744073709551616 - 9223372036854775808 = codeZ c i from rfl] at *)
      all_goals (try simp only [ep_tick, ep_tickT, u1, u2, u3, u4, R1.E, R1.K, R1.P, R1.I, show ((i : Nat) + 1 - 1 : Int) = i by omega, rd2, E2, E3, S3, O3, D3, l3, ep_late, not_true_eq_false, not_false_eq_true] at hh ⊢)
      · exact q2
      · have := R1.len; unfold upto; omega
      · exact w3
      · exact hh v3
      · exact okl1 _ _
      · exact w5
      · have := R2.len; unfold upto; omega
      · exact okl1 _ _
      · exact w6
      · have := R3.len; unfold upto; omega
      · omega
      · exact w7
      · exact q2
      · exact w8
      · exact w9
      · exact hh (v1 g7)
      · exact w2
      · exact w10
      · exact w11
      · decide
      · cases hh
      · omega
      · exact w12
      · cases hh
      · subst hnx
        have hlt' : i < m := by
          have h : ((i : Nat) : Int) < r.tmod 12 := hlt
          have h' : r.tmod 12 = m := hm
          rw [h'] at h
          clear hlt
          omega
        simp only [epNext, true_and]
        refine ⟨(v1 g7).symm, ?_, ?_, ?_⟩
        · show ((i : Int) + 1) % 256 = ((i + 1 : Nat) : Int)
          omega
        · show EpI ⟨(i : Int) + 1, epVer c i b, 1, 2 * i + 2, epRep c i b, false, 2, 9, 1⟩ (i + 1) m
          refine ep_mk w12 (by omega)
        · show m - (i + 1) + 1 ≤ m - i
          omega
      · exact hh (v2 g7)
      · exact w2
      · exact w10
      · exact w11
      · decide
      · cases hh
      · omega
      · exact w12
      · cases hh
      · subst hnx
        have hlt' : i < m := by
          have h : ((i : Nat) : Int) < r.tmod 12 := hlt
          have h' : r.tmod 12 = m := hm
          rw [h'] at h
          clear hlt
          omega
        simp only [epNext, true_and]
        refine ⟨(v2 g7).symm, ?_, ?_, ?_⟩
        · show ((i : Int) + 1) % 256 = ((i + 1 : Nat) : Int)
          omega
        · show EpI ⟨(i : Int) + 1, epVer c i b, 1, 2 * i + 2, epRep c i b, false, 2, 9, 1⟩ (i + 1) m
          refine ep_mk w12 (by omega)
        · show m - (i + 1) + 1 ≤ m - i
          omega
    · (subst hL; subst hQ; simp only [L2, L3, std] at *; try simp only [sySet, reduceCtorEq, forall_const, Int.reduceToNat, Int.reduceAdd, Int.reduceSub, Int.cast_ofNat_Int, Int.toNat_natCast, Nat.le_eq, Nat.sub_eq, ne_eq, Decidable.not_not, implies_true, true_and, and_true, wadd, wsub, wmul, decide_eq_true_eq, decide_eq_false_iff_not, Nat.succ_eq_add_one, imp_false, not_false_eq_true, not_true_eq_false, false_imp_iff, true_imp_iff] at *)
theorem sessionEpochs_ac (y0 : Int) (ok0 : (Lit.int .u8 y0).wf = true) (y1 : Int) (ok1 : (Lit.int .u16 y1).wf = true) : ACalls Try.prog 9 [.int .u8 y0, .int .u16 y1] (.bool true) := by
  simp [Lit.wf] at ok0 ok1
  have a0 : IntKind.u8.min = 0 := rfl
  have a1 : IntKind.u8.max = 255 := rfl
  have a2 : IntKind.u16.min = 0 := rfl
  have a3 : IntKind.u16.max = 65535 := rfl
  exact epochs_ac y0 y1 (by omega) (by omega) (by omega) (by omega)
end Sy
end Go.Proofs.Ythlggigjnpldcaa
