/-The law ControlReaches: whatever is lost, what is offered last is taken, or refused, by one exchange. strconv.FormatUint at base 10, out of the kit's contracts of its parts. Chapter 1 (word): numbers in decimal. Chapter 1 (word): Digits, Number, and the document's. Numbers in digits, and back: plain facts. Chapter 4 (spot): Text, Bytes, Of, Any, Meet, Cmp, Parse; the document's. Chapters 3 and 4: the document's Cut, Text, Bytes, Any, Meet, Parse. Chapter 4 (spot): plain facts: a place's text, bytes, and back; the order. The laws of chapter 4 (spot): SpotTexts, SpotMeets, SpotOrder, SpotBytes. Lists of structs, told by views: how an element is told in cells, and read back. Chapter 9 (config): routes, endpoints, listeners, clusters, told by views; their values. Chapter 9 (config): routes, endpoints, listeners, clusters as values. Chapter 9 (config): how many; weights. Chapter 9 (config), plain: how long the writing of a config may be; it says what the config was. Chapter 9 (config): a config's bytes; whether it is light. Chapter 9 (config): the same. Arguments that are structs with lists of structs, opened by views. The laws of chapter 9 (config): ConfigApart. Chapter 20 (control): its example. The laws ControlNonces, ControlReaches. From a row's listed variables to what the executor asks of them (GOk).-/
import Derived.Test.YtcgikjfloloekaaGreatDoorM5
import Derived.Test.YtcgikjfloloekaaGreatDoorShelf
import Derived.Shelf.Strconv.Itoa3
import Derived.Lib.AppendIntMem
import Derived.Lib.Walk
import Derived.WalkKit
import Derived.BigCall
import Derived.BigGuard
import Derived.Test.YtcgikjfloloekaaGreatDoorM4
import Derived.Lib.AtoiErrMem
import Derived.Lib.ParseIntBCases
import Derived.Test.YtcgikjfloloekaaGreatDoorM1
import Derived.ProofKit
import Derived.OpenShut
import Derived.LaidMore
import Derived.Lay
import Derived.Stop.Joined
import Derived.Lib.LaidTab
namespace Go.Proofs.YtcgikjfloloekaaGreatDoor
namespace Sy
open Go Go.RowKit
set_option maxRecDepth 100000
set_option linter.unusedSimpArgs false
set_option linter.unusedVariables false
structure Cr where
  i : Nat
  c : Ct
  s : Ss
structure SjI (k : Int) (s : Ss) : Prop where
  ep : s.ep = k + 1
  ver : u64Ok s.ver
  nxt : u64Ok s.nxt ∧ s.nxt ≤ 5 * k
  opn : s.opn = true
  ba : s.ba = 1
  ca : s.ca = 4
  tr : 0 ≤ s.tr ∧ s.tr ≤ 64
structure CjI (k : Int) (b : List UInt8) (c : Ct) : Prop where
  ep : 0 ≤ c.ep ∧ c.ep ≤ k + 1
  non : 0 ≤ c.non
  som : c.som = true
  ver : c.ver = k + 1
  bod : c.bod = b
structure CrI (l : List (List UInt8)) (y : Cr) : Prop where
  le : y.i ≤ l.length
  cep : 0 ≤ y.c.ep ∧ y.c.ep ≤ y.i
  non : 0 ≤ y.c.non
  som : 0 < y.i → y.c.som = true ∧ y.c.ver = y.i ∧ y.c.bod = nthS l (y.i - 1) ∧ y.c.bod.length ≤ 3000
  bod : y.c.bod.length ≤ 3000
  ver : u64Ok y.c.ver
  sep : y.s.ep = y.i
  sve : u64Ok y.s.ver
  nxt : u64Ok y.s.nxt ∧ y.s.nxt ≤ 5 * (y.i : Int)
  opn : y.s.opn = false
  ba : y.s.ba = 1
  ca : y.s.ca = 4
  tr : 0 ≤ y.s.tr ∧ y.s.tr ≤ 64
def crInv (l : List (List UInt8)) (y : Cr) : Prop := CrI l y
def crN (y : Cr) : Int := 5 * (y.i : Int)
def crMu (l : List (List UInt8)) (y : Cr) : Nat := l.length - y.i
theorem dly14 (t : Int) : 0 ≤ dlyZ 1 4 t ∧ dlyZ 1 4 t ≤ 4 := by
  unfold dlyZ
  rw [if_neg (by omega)]
  split
  · omega
  · have : 0 ≤ wshl .u64 1 (max t 0) := by
      unfold wshl
      rw [w_u64]
      exact Int.emod_nonneg _ (by decide)
    omega
theorem cr_raw {l : List (List UInt8)} {y : Cr} (hy : CrI l y) (hk : (y.i : Int) ≤ 10) {b : List UInt8} (hb : b.length ≤ 3000) :
    CjI y.i b (rawS y.c ((y.i : Int) + 1) b) ∧ (rawS y.c ((y.i : Int) + 1) b).ep ≤ y.i ∧ (rawT y.c ((y.i : Int) + 1) b).length ≤ 900000 := by
  obtain ⟨q1, q2, q3, q4, q5, q6, q7, q8, q9, q10, q11, q12, q13⟩ := hy
  unfold rawS rawT
  split
  · exact ⟨⟨⟨q2.1, by show y.c.ep ≤ _; omega⟩, q3, rfl, rfl, rfl⟩, q2.2, by simp⟩
  · refine ⟨⟨⟨q2.1, by show y.c.ep ≤ _; omega⟩, ?_, rfl, rfl, rfl⟩, q2.2, ?_⟩
    · show 0 ≤ inc64 y.c.non
      unfold inc64
      omega
    · show (msgT 2 y.c.ep b [(y.i : Int) + 1, inc64 y.c.non]).length ≤ 900000
      have R := read_msg (k := 2) (e := y.c.ep) (b := b) (l := [(y.i : Int) + 1, inc64 y.c.non]) rfl (by decide) (by decide) ⟨q2.1, by omega⟩ (by omega) (all2 ⟨by omega, by omega⟩ (mod_ok _))
      have := R.len
      omega
theorem cr_tick {l : List (List UInt8)} {y : Cr} (hy : CrI l y) (hk : (y.i : Int) ≤ 10) :
    SjI y.i (tickS y.s (5 * (y.i : Int))) ∧ (tickS y.s (5 * (y.i : Int))).non = 0 ∧ (tickS y.s (5 * (y.i : Int))).rep = [] ∧ tickT y.s (5 * (y.i : Int)) = msgT 1 ((y.i : Int) + 1) [] [y.s.ver] ∧ tickT y.s (5 * (y.i : Int)) ≠ [] ∧ (tickT y.s (5 * (y.i : Int))).length ≤ 900000 := by
  obtain ⟨q1, q2, q3, q4, q5, q6, q7, q8, q9, q10, q11, q12, q13⟩ := hy
  have h : ¬ (y.s.opn = true ∨ 5 * (y.i : Int) < y.s.nxt) := by
    rintro (h | h)
    · rw [q10] at h; cases h
    · omega
  have h2 : (y.s.ep + 1) % 18446744073709551616 = (y.i : Int) + 1 := by rw [q7]; omega
  have e1 : tickS y.s (5 * (y.i : Int)) = { y.s with opn := true, ep := (y.i : Int) + 1, non := 0, rep := [] } := by rw [tickS, if_neg h, h2]
  have e2 : tickT y.s (5 * (y.i : Int)) = msgT 1 ((y.i : Int) + 1) [] [y.s.ver] := by rw [tickT, if_neg h, h2]; rfl
  have R := read_msg (k := 1) (e := (y.i : Int) + 1) (b := []) (l := [y.s.ver]) rfl (by decide) (by decide) ⟨by omega, by omega⟩ (by decide) (all1 q8)
  rw [e1, e2]
  exact ⟨⟨rfl, q8, q9, rfl, q11, q12, q13⟩, rfl, rfl, rfl, R.some, by have := R.len; omega⟩
theorem cr_take {k : Int} {b : List UInt8} {c : Ct} {v : Int} (h0 : 0 ≤ k) (hk : k ≤ 10) (hc : CjI k b c) (he : c.ep ≤ k) (hb : b.length ≤ 3000) (hv : u64Ok v) :
    ctE c (msgT 1 (k + 1) [] [v]) = 0 ∧ CjI k b (ctS c (msgT 1 (k + 1) [] [v])) ∧ ctT c (msgT 1 (k + 1) [] [v]) = msgT 2 (k + 1) b [k + 1, 1] ∧ (ctT c (msgT 1 (k + 1) [] [v])).length ≤ 900000 ∧
      (ctS c (msgT 1 (k + 1) [] [v])).ep = k + 1 ∧ (ctS c (msgT 1 (k + 1) [] [v])).non = 1 := by
  obtain ⟨q1, q2, q3, q4, q5⟩ := hc
  obtain ⟨a1, a2, a3⟩ := ctk_sub (x := c) (e := k + 1) ⟨by omega, by omega⟩ hv
  obtain ⟨d1, d2, d3⟩ := sub_up (x := c) (e := k + 1) (by omega) (by omega) q3
  have R := read_msg (k := 2) (e := k + 1) (b := b) (l := [k + 1, 1]) rfl (by decide) (by decide) ⟨by omega, by omega⟩ (by omega) (all2 ⟨by omega, by omega⟩ ⟨by decide, by decide⟩)
  have e3 : ctT c (msgT 1 (k + 1) [] [v]) = msgT 2 (k + 1) b [k + 1, 1] := by
    rw [a3, d3]
    show msgT 2 (k + 1) c.bod [c.ver, 1] = _
    rw [q4, q5]
  refine ⟨by rw [a1, d1], ?_, e3, by rw [e3]; have := R.len; omega, by rw [a2, d2]; rfl, by rw [a2, d2]; rfl⟩
  rw [a2, d2]
  exact ⟨⟨by show 0 ≤ k + 1; omega, Int.le_refl _⟩, by show (0 : Int) ≤ 1; decide, q3, q4, q5⟩
theorem tko_ok (s : Ss) (u : List UInt8) : u64Ok (takO s u).v ∧ u64Ok (takO s u).n := by
  unfold takO
  split
  · exact ⟨nu_rs 0, nu_rs 1⟩
  · exact ⟨⟨by show (0 : Int) ≤ 0; decide, by show (0 : Int) < _; decide⟩, ⟨by show (0 : Int) ≤ 0; decide, by show (0 : Int) < _; decide⟩⟩
theorem sj_take {k : Int} {s : Ss} (hs : SjI k s) (u : List UInt8) : SjI k (takS s u) := by
  obtain ⟨q1, q2, q3, q4, q5, q6, q7⟩ := hs
  obtain ⟨a1, a2, a3, a4, a5, a6, a7⟩ := tak_keep s u
  refine ⟨by rw [a1]; exact q1, by rw [a2]; exact q2, by rw [a3]; exact q3, by rw [a4]; exact q4, by rw [a5]; exact q5, by rw [a6]; exact q6, ?_⟩
  rcases a7 with h | h
  · rw [h]; exact q7
  · rw [h]; omega
theorem sj_done {k : Int} {s : Ss} (hs : SjI k s) (u : List UInt8) (z : Int) : SjI k (donS (takS s u) (takO s u) z) := by
  obtain ⟨q1, q2, q3, q4, q5, q6, q7⟩ := sj_take hs u
  obtain ⟨a1, a2, a3, a4, a5, a6, a7⟩ := don_keep (takS s u) (takO s u) z
  refine ⟨by rw [a1]; exact q1, ?_, by rw [a3]; exact q3, by rw [a4]; exact q4, by rw [a5]; exact q5, by rw [a6]; exact q6, by rw [a7]; exact q7⟩
  rcases a2 with h | h
  · rw [h]; exact q2
  · rw [h]; exact (tko_ok s u).1
theorem sj_lost {k : Int} {s : Ss} (h0 : 0 ≤ k) (hk : k ≤ 10) (hs : SjI k s) : (lostS s (5 * k)).ep = k + 1 ∧ u64Ok (lostS s (5 * k)).ver ∧ (u64Ok (lostS s (5 * k)).nxt ∧ (lostS s (5 * k)).nxt ≤ 5 * (k + 1)) ∧ (lostS s (5 * k)).opn = false ∧ (lostS s (5 * k)).ba = 1 ∧ (lostS s (5 * k)).ca = 4 ∧ 0 ≤ (lostS s (5 * k)).tr ∧ (lostS s (5 * k)).tr ≤ 64 := by
  obtain ⟨q1, q2, q3, q4, q5, q6, q7⟩ := hs
  have hd := dly14 s.tr
  have e1 : lostS s (5 * k) = { s with opn := false, nxt := addS (5 * k) (dlyZ s.ba s.ca s.tr), tr := nxtT s.tr } := by rw [lostS, if_pos q4]
  rw [e1, q5, q6]
  refine ⟨q1, q2, ⟨⟨?_, ?_⟩, ?_⟩, rfl, rfl, rfl, ?_, ?_⟩
  · show 0 ≤ addS (5 * k) (dlyZ 1 4 s.tr)
    unfold addS; omega
  · show addS (5 * k) (dlyZ 1 4 s.tr) < _
    unfold addS; omega
  · show addS (5 * k) (dlyZ 1 4 s.tr) ≤ _
    unfold addS; omega
  · show 0 ≤ nxtT s.tr
    unfold nxtT; omega
  · show nxtT s.tr ≤ 64
    unfold nxtT; omega
theorem cr_end {l : List (List UInt8)} {i : Nat} {c : Ct} {s : Ss} (hi : i < l.length) (hk : (i : Int) ≤ 10) (hc : CjI i (nthS l i) c) (hs : SjI i s) (hb : (nthS l i).length ≤ 3000) : CrI l ⟨i + 1, c, lostS s (5 * (i : Int))⟩ := by
  obtain ⟨q1, q2, q3, q4, q5⟩ := hc
  obtain ⟨a1, a2, a3, a4, a5, a6, a7⟩ := sj_lost (by omega) hk hs
  have hi1 : ((i + 1 : Nat) : Int) = (i : Int) + 1 := by omega
  refine ⟨hi, ?_, q2, fun _ => ⟨q3, ?_, q5, by rw [q5]; exact hb⟩, by rw [q5]; exact hb, ?_, ?_, a2, ?_, a4, a5, a6, a7⟩
  · show 0 ≤ c.ep ∧ c.ep ≤ ((i + 1 : Nat) : Int)
    omega
  · show c.ver = ((i + 1 : Nat) : Int)
    omega
  · show u64Ok c.ver
    rw [q4]
    exact ⟨by omega, by omega⟩
  · show (lostS s (5 * (i : Int))).ep = ((i + 1 : Nat) : Int)
    omega
  · show u64Ok (lostS s (5 * (i : Int))).nxt ∧ (lostS s (5 * (i : Int))).nxt ≤ 5 * ((i + 1 : Nat) : Int)
    rw [hi1]
    exact a3
theorem sj_pre {k : Int} {s : Ss} (hs : SjI k s) (h0 : 0 ≤ k) (hk : k ≤ 10) : u64Ok s.ep ∧ u64Ok s.ver ∧ u64Ok s.ba ∧ u64Ok s.ca ∧ s.tr ≤ 1000000 := by
  obtain ⟨q1, q2, q3, q4, q5, q6, q7⟩ := hs
  exact ⟨⟨by omega, by omega⟩, q2, ⟨by omega, by omega⟩, ⟨by omega, by omega⟩, by omega⟩
structure CrF (l : List (List UInt8)) (y : Cr) (z : Int) (t u r : List UInt8) (s1 s2 s3 : Ss) (c2 c3 : Ct) (o : Of) : Prop where
  e1 : ctE y.c t = 0
  lu : u.length ≤ 900000
  e2 : takE s1 u = 0
  ov : o.v = y.i
  ob : o.b = nthS l (y.i - 1)
  lr : r.length ≤ 900000
  cb : c2.bod.length ≤ 1000000
  cv : u64Ok c2.ver
  e3 : ctE c2 r = 0
  yes : z = 0 → c3.ti = true ∧ c3.tv = y.i ∧ s3.ver = y.i
  no : ¬ z = 0 → c3.ri = true ∧ c3.rc = z
theorem cr_final {l : List (List UInt8)} {y : Cr} {z : Int} (hy : CrI l y) (h0 : 0 < y.i) (hk : (y.i : Int) ≤ 10) (hz : 0 ≤ z ∧ z < 256) :
    CrF l y z (tickT y.s (5 * (y.i : Int))) (ctT y.c (tickT y.s (5 * (y.i : Int)))) (donT (takS (tickS y.s (5 * (y.i : Int))) (ctT y.c (tickT y.s (5 * (y.i : Int))))) (takO (tickS y.s (5 * (y.i : Int))) (ctT y.c (tickT y.s (5 * (y.i : Int))))) z)
      (tickS y.s (5 * (y.i : Int))) (takS (tickS y.s (5 * (y.i : Int))) (ctT y.c (tickT y.s (5 * (y.i : Int))))) (donS (takS (tickS y.s (5 * (y.i : Int))) (ctT y.c (tickT y.s (5 * (y.i : Int))))) (takO (tickS y.s (5 * (y.i : Int))) (ctT y.c (tickT y.s (5 * (y.i : Int))))) z)
      (ctS y.c (tickT y.s (5 * (y.i : Int)))) (ctS (ctS y.c (tickT y.s (5 * (y.i : Int)))) (donT (takS (tickS y.s (5 * (y.i : Int))) (ctT y.c (tickT y.s (5 * (y.i : Int))))) (takO (tickS y.s (5 * (y.i : Int))) (ctT y.c (tickT y.s (5 * (y.i : Int))))) z))
      (takO (tickS y.s (5 * (y.i : Int))) (ctT y.c (tickT y.s (5 * (y.i : Int))))) := by
  obtain ⟨T1, T2, T3, T4, T5, T6⟩ := cr_tick hy hk
  obtain ⟨q1, q2, q3, q4, q5, q6, q7, q8, q9, q10, q11, q12, q13⟩ := hy
  obtain ⟨r1, r2, r3, r4⟩ := q4 h0
  generalize tickS y.s (5 * (y.i : Int)) = s1 at T1 T2 T3 ⊢
  rw [T4]
  clear T4 T5 T6
  generalize hc : y.c = c at *
  obtain ⟨a1, a2, a3⟩ := ctk_sub (x := c) (e := (y.i : Int) + 1) ⟨by omega, by omega⟩ q8
  obtain ⟨d1, d2, d3⟩ := sub_up (x := c) (e := (y.i : Int) + 1) (by omega) (by omega) r1
  have e3 : ctT c (msgT 1 ((y.i : Int) + 1) [] [y.s.ver]) = msgT 2 s1.ep c.bod [(y.i : Int), 1] := by
    rw [a3, d3, T1.ep]
    show msgT 2 ((y.i : Int) + 1) c.bod [c.ver, 1] = _
    rw [r2]
  have e2 : ctS c (msgT 1 ((y.i : Int) + 1) [] [y.s.ver]) = offS (newE c ((y.i : Int) + 1)) := by rw [a2, d2]
  have e1 : ctE c (msgT 1 ((y.i : Int) + 1) [] [y.s.ver]) = 0 := by rw [a1, d1]
  have uE : u64Ok s1.ep := by rw [T1.ep]; exact ⟨by omega, by omega⟩
  have uI : u64Ok (y.i : Int) := ⟨by omega, by omega⟩
  have R := read_msg (k := 2) (e := s1.ep) (b := c.bod) (l := [(y.i : Int), 1]) rfl (by decide) (by decide) uE (by omega) (all2 uI ⟨by decide, by decide⟩)
  obtain ⟨f1, f2, f3⟩ := tak_new (x := s1) (v := (y.i : Int)) (b := c.bod) T1.opn T2 uE uI (by omega)
  obtain ⟨g1, g2⟩ := don_new (x := { s1 with non := 1, rep := [], tr := 0 }) (v := (y.i : Int)) (c := z) (b := c.bod) rfl rfl
  have hzz : z % 18446744073709551616 = z := by omega
  have u1 : u64Ok 1 := ⟨by decide, by decide⟩
  rw [e2, e3, f2, f3, g1, g2, hzz]
  have E0 : (offS (newE c ((y.i : Int) + 1))).ep = s1.ep := T1.ep.symm
  have N0 : (offS (newE c ((y.i : Int) + 1))).non = 1 := rfl
  have lenu : (msgT 2 s1.ep c.bod [(y.i : Int), 1]).length ≤ 900000 := by have := R.len; omega
  have cbo : (offS (newE c ((y.i : Int) + 1))).bod.length ≤ 1000000 := by show c.bod.length ≤ _; omega
  by_cases hz0 : z = 0
  · rw [if_pos hz0, if_pos hz0]
    have R3 := read_msg (k := 3) (e := s1.ep) (b := []) (l := [(y.i : Int), 1]) rfl (by decide) (by decide) uE (by decide) (all2 uI u1)
    obtain ⟨k1, k2, k3⟩ := ctk_ack (x := offS (newE c ((y.i : Int) + 1))) (v := (y.i : Int)) (n := 1) (by rw [E0]; exact uE) uI u1 (Int.le_refl _) (Int.le_refl _)
    rw [E0] at k1 k2 k3
    exact ⟨by rw [hc]; exact e1, lenu, f1, rfl, r3, by have := R3.len; show (msgT 3 s1.ep [] [(y.i : Int), 1]).length ≤ 900000; omega, cbo, q6, k1, fun _ => by show (ctS _ (msgT 3 s1.ep [] [(y.i : Int), 1])).ti = true ∧ _; rw [k2]; exact ⟨rfl, rfl, rfl⟩, fun h => absurd hz0 h⟩
  · rw [if_neg hz0, if_neg hz0]
    have R3 := read_msg (k := 4) (e := s1.ep) (b := []) (l := [s1.ver, 1, z]) rfl (by decide) (by decide) uE (by decide) (all3 T1.ver u1 ⟨by omega, by omega⟩)
    obtain ⟨k1, k2, k3⟩ := ctk_nack (x := offS (newE c ((y.i : Int) + 1))) (v := s1.ver) (n := 1) (c := z) (by rw [E0]; exact uE) T1.ver u1 ⟨by omega, by omega⟩ (Int.le_refl _) (Int.le_refl _)
    rw [E0] at k1 k2 k3
    exact ⟨by rw [hc]; exact e1, lenu, f1, rfl, r3, by have := R3.len; show (msgT 4 s1.ep [] [s1.ver, 1, z]).length ≤ 900000; omega, cbo, q6, k1, fun h => absurd h hz0, fun _ => by show (ctS _ (msgT 4 s1.ep [] [s1.ver, 1, z])).ri = true ∧ _; rw [k2]; exact ⟨rfl, rfl⟩⟩
theorem cr_zero (l : List (List UInt8)) : CrI l ⟨0, zCt, newS 1 4 0 0⟩ :=
  ⟨Nat.zero_le _, ⟨Int.le_refl _, Int.le_refl _⟩, Int.le_refl _, fun h => absurd h (Nat.lt_irrefl 0), Nat.zero_le _, ⟨Int.le_refl _, (by decide : (0 : Int) < 18446744073709551616)⟩, rfl, ⟨Int.le_refl _, (by decide : (0 : Int) < 18446744073709551616)⟩,
    ⟨⟨Int.le_refl _, (by decide : (0 : Int) < 18446744073709551616)⟩, Int.le_refl _⟩, rfl, rfl, rfl, ⟨Int.le_refl _, (by decide : (0 : Int) ≤ 64)⟩⟩
theorem i64w {a : Int} (h0 : 0 ≤ a) (h1 : a ≤ 1000) : (a + 9223372036854775808) % 18446744073709551616 - 9223372036854775808 = a := by omega
theorem w1k {a : Int} (h0 : 0 ≤ a) (h1 : a ≤ 1000) : ((a + 1 + 9223372036854775808) % 18446744073709551616 - 9223372036854775808) % 18446744073709551616 = a + 1 := by omega
theorem w1i {i : Nat} (h1 : (i : Int) ≤ 1000) : ((i : Int) + 1 + 9223372036854775808) % 18446744073709551616 - 9223372036854775808 = ((i + 1 : Nat) : Int) := by omega
theorem wnow {i : Nat} (h1 : (i : Int) ≤ 1000) : (5 * (i : Int) + 5) % 18446744073709551616 = 5 * ((i + 1 : Nat) : Int) := by omega
def ctB (L : Seal) (c : Ct) : Ob := .box 27 [.int .u64 (L Ct.ver c), .str (L Ct.bod c), .bool (L Ct.som c), .int .u64 (L Ct.ep c), .int .u64 (L Ct.non c), .str (L Ct.las c), .int .u64 (L Ct.tv c), .int .u64 (L Ct.tc c), .bool (L Ct.ti c), .int .u64 (L Ct.rv c), .int .u64 (L Ct.rc c), .bool (L Ct.ri c)]
def ssB (L : Seal) (s : Ss) : Ob := .box 69 [.int .u64 (L Ss.ep s), .int .u64 (L Ss.ver s), .int .u64 (L Ss.non s), .int .u64 (L Ss.nxt s), .str (L Ss.rep s), .bool (L Ss.opn s), .int .u64 (L Ss.ba s), .int .u64 (L Ss.ca s), .int .i64 (L Ss.tr s)]
def crA (L : Seal) (l : List (List UInt8)) : Nat → St → Option Ann := fun id st => match id with
  | 0 => some ⟨Cr, fun y => [(43, .int .i64 (L natI (L Cr.i y))), (9, .int .u64 (L crN y)), (7, .ref 7 0), (8, .ref 8 0)], fun y => [(7, ctB L (L Cr.c y)), (8, ssB L (L Cr.s y))], [0, 1, 2, 41, 42], [], fun y => L2 L crInv l y, fun y => L2 L crMu l y⟩
  | _ => none
set_option maxHeartbeats 2000000 in
theorem reaches_ac (aw : ACalls Tryz.prog 6 [] (.bool true)) (l : List (List UInt8)) (w z : Int) (hw : 0 ≤ w ∧ w < 65536) (hz : 0 ≤ z ∧ z < 256) :
    ACalls Tryz.prog 5 [lstS std l, .int .u16 w, .int .u8 z] (.bool true) := by
  refine acalls_L' (T := tt) (S := fun L => sumOf [tru 6, raw_s L, ctk_s L, new_s L, tick_s L, tak_s L, don_s L, lost_s L, ctak_s L, cref_s L]) (lo := fun L => crA L l) (lb := noA) 5 (fn := Tryz.f5) (xs := fun L => [lstS L l, .int .u16 w, .int .u8 z]) rfl rfl (by kernel_rfl) (by kernel_rfl) rfl tt_ok
    (sumOf_ok ⟨tru_good aw, raw_good, ctk_good, new_good, tick_good, tak_good, don_good, lost_good, ctak_good, cref_good, trivial⟩) (by kernel_rfl) ?_
  intro L P' Q' hL hP hQ
  have hE : ∀ x : Ct, L (L (L (L (L (L (L (L (L (L (L (L Ct.mk (L Ct.ver x)) (L Ct.bod x)) (L Ct.som x)) (L Ct.ep x)) (L Ct.non x)) (L Ct.las x)) (L Ct.tv x)) (L Ct.tc x)) (L Ct.ti x)) (L Ct.rv x)) (L Ct.rc x)) (L Ct.ri x) = x := by subst hL; exact fun x => rfl
  have hF : ∀ x : Ss, L (L (L (L (L (L (L (L (L Ss.mk (L Ss.ep x)) (L Ss.ver x)) (L Ss.non x)) (L Ss.nxt x)) (L Ss.rep x)) (L Ss.opn x)) (L Ss.ba x)) (L Ss.ca x)) (L Ss.tr x) = x := by subst hL; exact fun x => rfl
  have hO : ∀ o : Of, L (L (L Of.mk (L Of.v o)) (L Of.n o)) (L Of.b o) = o := by subst hL; exact fun x => rfl
  (cbv; try simp only [sat_need, sat_must, sat_ite, sat_done, sat_yes, sat_ex, sat_all, sat_sup, sat_and, sat_fail, true_and, and_true])
  try simp only [hE, hF, hO]
  repeat' first | refine And.intro ?_ ?_ | refine fun (hh : (_ : Bool) = _) => ?_
  rotate_left 3
  · refine ⟨⟨0, zCt, newS 1 4 0 0⟩, ?_⟩
    (cbv; try simp only [sat_need, sat_must, sat_ite, sat_done, sat_yes, sat_ex, sat_all, sat_sup, sat_and, sat_fail, true_and, and_true])
    (subst hL; subst hQ; simp only [L2, L3, std] at *; try simp only [sySet, syB, reduceCtorEq, forall_const, Int.reduceToNat, Int.reduceAdd, Int.reduceSub, Int.cast_ofNat_Int, Int.toNat_natCast, Nat.le_eq, Nat.sub_eq, ne_eq, implies_true, wadd, wsub, wmul, Nat.succ_eq_add_one] at *)
    exact ⟨rfl, cr_zero l⟩
  · intro y hy
    cbv at hy
    obtain ⟨n1, hn1⟩ : ∃ n1 : Cr, n1 = ⟨y.i + 1, ctS (rawS y.c ((y.i : Int) + 1) (nthS l y.i)) (tickT y.s (5 * (y.i : Int))), lostS (donS (takS (tickS y.s (5 * (y.i : Int))) (ctT (rawS y.c ((y.i : Int) + 1) (nthS l y.i)) (tickT y.s (5 * (y.i : Int))))) (takO (tickS y.s (5 * (y.i : Int))) (ctT (rawS y.c ((y.i : Int) + 1) (nthS l y.i)) (tickT y.s (5 * (y.i : Int))))) z) (5 * (y.i : Int))⟩ := ⟨_, rfl⟩
    obtain ⟨n2, hn2⟩ : ∃ n2 : Cr, n2 = ⟨y.i + 1, ctS (rawS y.c ((y.i : Int) + 1) (nthS l y.i)) (tickT y.s (5 * (y.i : Int))), lostS (tickS y.s (5 * (y.i : Int))) (5 * (y.i : Int))⟩ := ⟨_, rfl⟩
    obtain ⟨n3, hn3⟩ : ∃ n3 : Cr, n3 = ⟨y.i + 1, rawS y.c ((y.i : Int) + 1) (nthS l y.i), lostS (donS (takS (tickS y.s (5 * (y.i : Int))) (rawT y.c ((y.i : Int) + 1) (nthS l y.i))) (takO (tickS y.s (5 * (y.i : Int))) (rawT y.c ((y.i : Int) + 1) (nthS l y.i))) z) (5 * (y.i : Int))⟩ := ⟨_, rfl⟩
    obtain ⟨n4, hn4⟩ : ∃ n4 : Cr, n4 = ⟨y.i + 1, rawS y.c ((y.i : Int) + 1) (nthS l y.i), lostS (tickS y.s (5 * (y.i : Int))) (5 * (y.i : Int))⟩ := ⟨_, rfl⟩
    (cbv; try simp only [sat_need, sat_must, sat_ite, sat_done, sat_yes, sat_ex, sat_all, sat_sup, sat_and, sat_fail, true_and, and_true])
    try simp only [hE, hF, hO]
    repeat' first | refine And.intro ?_ ?_ | refine fun (hh : (_ : Bool) = _) => ?_
    all_goals try
      (refine ⟨n1, ?_⟩
       (cbv; try simp only [sat_need, sat_must, sat_ite, sat_done, sat_yes, sat_ex, sat_all, sat_sup, sat_and, sat_fail, true_and, and_true])
       (subst hL; subst hQ; simp only [L2, L3, std] at *; try simp only [sySet, syB, reduceCtorEq, forall_const, Int.reduceToNat, Int.reduceAdd, Int.reduceSub, Int.cast_ofNat_Int, Int.toNat_natCast, Nat.le_eq, Nat.sub_eq, ne_eq, implies_true, wadd, wsub, wmul, Nat.succ_eq_add_one] at *)
       have hlt : ((y.i : Nat) : Int) < (lenSt l : Nat) := by assumption
       have hlen : ((lenSt l : Nat) : Int) ≤ 10 := by assumption
       have hb : ((nthS l y.i).length : Int) ≤ 3000 := by assumption
       have hls : lenSt l = l.length := rfl
       have hk : (y.i : Int) ≤ 10 := by omega
       obtain ⟨T1, T2, T3, T4, T5, T6⟩ := cr_tick hy hk
       obtain ⟨B1, B2, B3⟩ := cr_raw hy hk (b := nthS l y.i) (by omega)
       obtain ⟨K1, K2, K3, K4, K5, K6⟩ := cr_take (v := y.s.ver) (by omega : (0 : Int) ≤ (y.i : Int)) hk B1 B2 (by omega) hy.sve
       rw [← T4] at K2
       have W1 := w1k (a := (y.i : Int)) (by omega) (by omega)
       simp only [crN, W1, i64w hz.1 (by omega : z ≤ 1000)]
       subst hn1
       dsimp only
       refine ⟨by with_reducible rfl, by with_reducible rfl, by with_reducible rfl, by with_reducible rfl, by with_reducible rfl, by with_reducible rfl, by with_reducible rfl, by with_reducible rfl, by with_reducible rfl, by with_reducible rfl, by with_reducible rfl, by with_reducible rfl, by with_reducible rfl, by with_reducible rfl, by with_reducible rfl, by with_reducible rfl, by with_reducible rfl, by with_reducible rfl, by with_reducible rfl, by with_reducible rfl, by with_reducible rfl, ?_⟩
       refine ⟨wnow (by omega), w1i (by omega), cr_end (by omega) hk K2 (sj_done T1 _ _) (by omega), ?_⟩
       have h9 : l.length - (y.i + 1) + 1 ≤ l.length - y.i := by omega
       exact h9)
    all_goals try
      (refine ⟨n2, ?_⟩
       (cbv; try simp only [sat_need, sat_must, sat_ite, sat_done, sat_yes, sat_ex, sat_all, sat_sup, sat_and, sat_fail, true_and, and_true])
       (subst hL; subst hQ; simp only [L2, L3, std] at *; try simp only [sySet, syB, reduceCtorEq, forall_const, Int.reduceToNat, Int.reduceAdd, Int.reduceSub, Int.cast_ofNat_Int, Int.toNat_natCast, Nat.le_eq, Nat.sub_eq, ne_eq, implies_true, wadd, wsub, wmul, Nat.succ_eq_add_one] at *)
       have hlt : ((y.i : Nat) : Int) < (lenSt l : Nat) := by assumption
       have hlen : ((lenSt l : Nat) : Int) ≤ 10 := by assumption
       have hb : ((nthS l y.i).length : Int) ≤ 3000 := by assumption
       have hls : lenSt l = l.length := rfl
       have hk : (y.i : Int) ≤ 10 := by omega
       obtain ⟨T1, T2, T3, T4, T5, T6⟩ := cr_tick hy hk
       obtain ⟨B1, B2, B3⟩ := cr_raw hy hk (b := nthS l y.i) (by omega)
       obtain ⟨K1, K2, K3, K4, K5, K6⟩ := cr_take (v := y.s.ver) (by omega : (0 : Int) ≤ (y.i : Int)) hk B1 B2 (by omega) hy.sve
       rw [← T4] at K2
       have W1 := w1k (a := (y.i : Int)) (by omega) (by omega)
       simp only [crN, W1, i64w hz.1 (by omega : z ≤ 1000)]
       subst hn2
       dsimp only
       refine ⟨by with_reducible rfl, by with_reducible rfl, by with_reducible rfl, by with_reducible rfl, by with_reducible rfl, by with_reducible rfl, by with_reducible rfl, by with_reducible rfl, by with_reducible rfl, by with_reducible rfl, by with_reducible rfl, by with_reducible rfl, by with_reducible rfl, by with_reducible rfl, by with_reducible rfl, by with_reducible rfl, by with_reducible rfl, by with_reducible rfl, by with_reducible rfl, by with_reducible rfl, by with_reducible rfl, ?_⟩
       refine ⟨wnow (by omega), w1i (by omega), cr_end (by omega) hk K2 T1 (by omega), ?_⟩
       have h9 : l.length - (y.i + 1) + 1 ≤ l.length - y.i := by omega
       exact h9)
    all_goals try
      (refine ⟨n3, ?_⟩
       (cbv; try simp only [sat_need, sat_must, sat_ite, sat_done, sat_yes, sat_ex, sat_all, sat_sup, sat_and, sat_fail, true_and, and_true])
       (subst hL; subst hQ; simp only [L2, L3, std] at *; try simp only [sySet, syB, reduceCtorEq, forall_const, Int.reduceToNat, Int.reduceAdd, Int.reduceSub, Int.cast_ofNat_Int, Int.toNat_natCast, Nat.le_eq, Nat.sub_eq, ne_eq, implies_true, wadd, wsub, wmul, Nat.succ_eq_add_one] at *)
       have hlt : ((y.i : Nat) : Int) < (lenSt l : Nat) := by assumption
       have hlen : ((lenSt l : Nat) : Int) ≤ 10 := by assumption
       have hb : ((nthS l y.i).length : Int) ≤ 3000 := by assumption
       have hls : lenSt l = l.length := rfl
       have hk : (y.i : Int) ≤ 10 := by omega
       obtain ⟨T1, T2, T3, T4, T5, T6⟩ := cr_tick hy hk
       obtain ⟨B1, B2, B3⟩ := cr_raw hy hk (b := nthS l y.i) (by omega)
       obtain ⟨K1, K2, K3, K4, K5, K6⟩ := cr_take (v := y.s.ver) (by omega : (0 : Int) ≤ (y.i : Int)) hk B1 B2 (by omega) hy.sve
       rw [← T4] at K2
       have W1 := w1k (a := (y.i : Int)) (by omega) (by omega)
       simp only [crN, W1, i64w hz.1 (by omega : z ≤ 1000)]
       subst hn3
       dsimp only
       refine ⟨by with_reducible rfl, by with_reducible rfl, by with_reducible rfl, by with_reducible rfl, by with_reducible rfl, by with_reducible rfl, by with_reducible rfl, by with_reducible rfl, by with_reducible rfl, by with_reducible rfl, by with_reducible rfl, by with_reducible rfl, by with_reducible rfl, by with_reducible rfl, by with_reducible rfl, by with_reducible rfl, by with_reducible rfl, by with_reducible rfl, by with_reducible rfl, by with_reducible rfl, by with_reducible rfl, ?_⟩
       refine ⟨wnow (by omega), w1i (by omega), cr_end (by omega) hk B1 (sj_done T1 _ _) (by omega), ?_⟩
       have h9 : l.length - (y.i + 1) + 1 ≤ l.length - y.i := by omega
       exact h9)
    all_goals try
      (refine ⟨n4, ?_⟩
       (cbv; try simp only [sat_need, sat_must, sat_ite, sat_done, sat_yes, sat_ex, sat_all, sat_sup, sat_and, sat_fail, true_and, and_true])
       (subst hL; subst hQ; simp only [L2, L3, std] at *; try simp only [sySet, syB, reduceCtorEq, forall_const, Int.reduceToNat, Int.reduceAdd, Int.reduceSub, Int.cast_ofNat_Int, Int.toNat_natCast, Nat.le_eq, Nat.sub_eq, ne_eq, implies_true, wadd, wsub, wmul, Nat.succ_eq_add_one] at *)
       have hlt : ((y.i : Nat) : Int) < (lenSt l : Nat) := by assumption
       have hlen : ((lenSt l : Nat) : Int) ≤ 10 := by assumption
       have hb : ((nthS l y.i).length : Int) ≤ 3000 := by assumption
       have hls : lenSt l = l.length := rfl
       have hk : (y.i : Int) ≤ 10 := by omega
       obtain ⟨T1, T2, T3, T4, T5, T6⟩ := cr_tick hy hk
       obtain ⟨B1, B2, B3⟩ := cr_raw hy hk (b := nthS l y.i) (by omega)
       obtain ⟨K1, K2, K3, K4, K5, K6⟩ := cr_take (v := y.s.ver) (by omega : (0 : Int) ≤ (y.i : Int)) hk B1 B2 (by omega) hy.sve
       rw [← T4] at K2
       have W1 := w1k (a := (y.i : Int)) (by omega) (by omega)
       simp only [crN, W1, i64w hz.1 (by omega : z ≤ 1000)]
       subst hn4
       dsimp only
       refine ⟨by with_reducible rfl, by with_reducible rfl, by with_reducible rfl, by with_reducible rfl, by with_reducible rfl, by with_reducible rfl, by with_reducible rfl, by with_reducible rfl, by with_reducible rfl, by with_reducible rfl, by with_reducible rfl, by with_reducible rfl, by with_reducible rfl, by with_reducible rfl, by with_reducible rfl, by with_reducible rfl, by with_reducible rfl, by with_reducible rfl, by with_reducible rfl, by with_reducible rfl, by with_reducible rfl, ?_⟩
       refine ⟨wnow (by omega), w1i (by omega), cr_end (by omega) hk B1 T1 (by omega), ?_⟩
       have h9 : l.length - (y.i + 1) + 1 ≤ l.length - y.i := by omega
       exact h9)
    all_goals (subst hL; subst hQ; simp only [L2, L3, std] at *; try simp only [sySet, syB, reduceCtorEq, forall_const, Int.reduceToNat, Int.reduceAdd, Int.reduceSub, Int.cast_ofNat_Int, Int.toNat_natCast, Nat.le_eq, Nat.sub_eq, ne_eq, implies_true, wadd, wsub, wmul, Nat.succ_eq_add_one] at *)
    all_goals have hlen : ((lenSt l : Nat) : Int) ≤ 10 := by assumption
    all_goals have hln : ¬ ((lenSt l : Nat) : Int) = 0 := by assumption
    all_goals have hls : lenSt l = l.length := rfl
    all_goals have hle : y.i ≤ l.length := hy.le
    all_goals have hk : (y.i : Int) ≤ 10 := by omega
    all_goals obtain ⟨T1, T2, T3, T4, T5, T6⟩ := cr_tick hy hk
    all_goals first
      | exact absurd ‹tickT y.s (crN y) = []› T5
      | omega
      | exact ⟨by omega, by omega⟩
      | exact hy.sve
      | exact T6
      | exact (⟨hy.cep.1, by have := hy.cep.2; omega⟩ : u64Ok y.c.ep)
      | exact (⟨by show 0 ≤ 5 * (y.i : Int); omega, by show 5 * (y.i : Int) < _; omega⟩ : u64Ok (crN y))
      | skip
    all_goals first
      | (have hlt : ((y.i : Nat) : Int) < (lenSt l : Nat) := by assumption
         have hb : ((nthS l y.i).length : Int) ≤ 3000 := by assumption
         have h0 : (0 : Int) ≤ (y.i : Int) := Int.natCast_nonneg _
         obtain ⟨B1, B2, B3⟩ := cr_raw hy hk (b := nthS l y.i) (by omega)
         obtain ⟨K1, K2, K3, K4, K5, K6⟩ := cr_take (v := y.s.ver) h0 hk B1 B2 (by omega) hy.sve
         rw [← T4] at K4
         have W1 := w1k (a := (y.i : Int)) h0 (by omega)
         try simp only [crN, W1]
         first
           | exact K4
           | exact B3
           | exact (sj_pre (sj_take T1 _) h0 hk).1
           | exact (sj_pre (sj_take T1 _) h0 hk).2.1
           | exact (tko_ok _ _).1
           | exact (tko_ok _ _).2
           | exact (sj_pre (sj_done T1 _ _) h0 hk).2.2.1
           | exact (sj_pre (sj_done T1 _ _) h0 hk).2.2.2.1
           | exact (sj_pre (sj_done T1 _ _) h0 hk).2.2.2.2
           | exact (sj_pre T1 h0 hk).2.2.1
           | exact (sj_pre T1 h0 hk).2.2.2.1
           | exact (sj_pre T1 h0 hk).2.2.2.2
           | (rw [B1.ver]; exact ⟨by omega, by omega⟩)
           | (show (nthS l y.i).length ≤ 1000000; omega)
           | (show (rawS y.c ((y.i : Int) + 1) (nthS l y.i)).bod.length ≤ 1000000; rw [B1.bod]; omega))
      | (have hge : ((lenSt l : Nat) : Int) ≤ (y.i : Nat) := by assumption
         have h0 : (0 : Int) ≤ (y.i : Int) := Int.natCast_nonneg _
         have hi : y.i = l.length := by omega
         have F := cr_final hy (by omega) hk hz
         have Z1 := i64w hz.1 (by omega : z ≤ 1000)
         have L1 : ((lenSt l : Nat) : Int) % 18446744073709551616 = (y.i : Int) := by omega
         have L2 : (((lenSt l : Nat) : Int) - 1 + 9223372036854775808) % 18446744073709551616 - 9223372036854775808 = ((y.i - 1 : Nat) : Int) := by omega
         try simp only [crN, Z1, L1, L2, Int.toNat_natCast] at hh ⊢
         first
           | exact hy.ver
           | exact F.lu
           | exact F.lr
           | exact F.cv
           | exact F.cb
           | exact (sj_pre (sj_take T1 _) h0 hk).1
           | exact (sj_pre (sj_take T1 _) h0 hk).2.1
           | exact (tko_ok _ _).1
           | exact (tko_ok _ _).2
           | exact absurd F.e1 hh
           | exact absurd F.e2 hh
           | exact absurd F.ov hh
           | exact absurd F.ob hh
           | exact absurd F.e3 hh
           | exact ⟨by omega, by omega⟩
           | (have hb := hy.bod; show y.c.bod.length ≤ 1000000; omega)
           | (have Y := F.yes (by assumption); first | exact Y.2.2.trans Y.2.1.symm | exact absurd (Y.2.1.trans F.ov.symm) hh | (rw [Y.1] at hh; cases hh))
           | (have Y := F.no (by assumption); first | (rw [Y.2]; omega) | (rw [Y.1] at hh; cases hh)))
  all_goals (subst hL; subst hQ; simp only [L2, L3, std] at *; try simp only [sySet, syB, reduceCtorEq, forall_const, Int.reduceToNat, Int.reduceAdd, Int.reduceSub, Int.cast_ofNat_Int, Int.toNat_natCast, Nat.le_eq, Nat.sub_eq, ne_eq, implies_true, wadd, wsub, wmul, Nat.succ_eq_add_one] at *)
theorem avL_ss {l : List (List UInt8)} {i j : Nat} (hi : i < l.length) (hj : j < 1) : avL (fun x (_ : Nat) => AV.str x) l i j = .str (nthS l i) := by
  rw [avL, List.getElem?_eq_getElem hi, nthS, List.getD_eq_getElem?_getD, List.getElem?_eq_getElem hi]; rfl
end Sy
end Go.Proofs.YtcgikjfloloekaaGreatDoor
namespace Go.Proofs.YtcgikjfloloekaaGreatDoor
open Go Go.RowKit Go.Sort Go.Lib
set_option maxRecDepth 100000
set_option linter.unusedSimpArgs false
set_option linter.unusedVariables false
set_option maxHeartbeats 6400000 in
theorem fmt_in (u : Nat) (hu : u < 18446744073709551616) (w : World) (htab : Lib.TabIs Tryz.prog w "internal/strconv.uint64pow10" .u64 Lib.pow10Tab) :
    Calls Tryz.prog 146 #[.int .u64 u, .int .i64 10] w fun e w' => e = .returned (.string ⟨(Lib.decDigits u).toArray⟩) ∧ Below w.heap.size w w' := by
  by_cases hs : u < 100
  · have hw : IntKind.i64.wrap (u : Int) = (u : Int) := by rw [IntKind.wrap_i64]; omega
    go_enter Tryz.func146, Tryz.ntmps146
    go_wp2_with (go_at_call 161; refine (Tryz.internal_strconv_small u hs _).mono ?_; rintro e w' ⟨rfl, rfl⟩)
    go_ret
    exact ⟨rfl, Below.refl _ _⟩
  · have hu1 : 1 ≤ u := by omega
    have hnd20 : Lib.nDigits u ≤ 20 := by have := Lib.numDigits_eq u hu1 hu; split at this <;> omega
    have hal : Tryz.prog.arrayLen 234 = 24 := by kernel_rfl
    have hsl1 : ∀ W, (Instr.sliceAt 234 (.pointer (some ⟨w.heap.size, 0, none⟩)) none (some (.int .i64 (Lib.nDigits u : Int))) none).run Tryz.prog W = .ok (.slice (some ⟨w.heap.size, 0, none⟩) (Lib.nDigits u) 24) W := fun W => by
      rw [run_sliceAt_array_h W 234 ⟨w.heap.size, 0, none⟩ (by simp [Program.arrayLen, Program.elem, Tryz.underlying234]) .i64 (Lib.nDigits u : Int) (by omega) (by rw [hal]; omega)]
      go_simp
      first | done | omega
    have hH0 := Lib.holds_zero0 w 234 (Lib.nDigits u) (by omega)
    have hfmt := Tryz.internal_strconv_formatBase10 w.heap.size 0 24 u (Array.replicate (Lib.nDigits u) 0) (w.alloc (.cells Lib.zeros24 234)) hH0 (by rw [Array.size_replicate]; exact Lib.lt_pow_nDigits u) hu (by rw [Array.size_replicate]; omega)
    rw [Array.size_replicate] at hfmt
    have HH0 := Lib.hid hH0
    clear hH0 hal
    go_enter Tryz.func146, Tryz.ntmps146
    go_wp2_with (first
      | (go_at_call 162; refine (Tryz.internal_strconv_numDigits u hu1 hu _ (Lib.tabIs_alloc htab _)).mono ?_; rintro e w' ⟨rfl, rfl⟩))
    refine hfmt.mono ?_
    rintro e w' ⟨rfl, k, v', dk, rfl, hF⟩
    have hcv : (convert 139 9 (.slice (some ⟨w.heap.size, 0, none⟩) (Lib.nDigits u) 24)).run Tryz.prog ((putRow (fun (b : UInt8) => Value.int .u8 (b.toNat : Int)) (w.alloc (.cells Lib.zeros24 234)) w.heap.size 0 dk).drewN k) = .ok (.string ⟨(Lib.decDigits u).toArray⟩) ((putRow (fun (b : UInt8) => Value.int .u8 (b.toNat : Int)) (w.alloc (.cells Lib.zeros24 234)) w.heap.size 0 dk).drewN k) := by
      have h := run_convert_bytes_back (P := Tryz.prog) ((putRow (fun (b : UInt8) => Value.int .u8 (b.toNat : Int)) (w.alloc (.cells Lib.zeros24 234)) w.heap.size 0 dk).drewN k) 139 9 5 ⟨w.heap.size, 0, none⟩ 24 (Lib.decDigits u) Tryz.underlying139 Tryz.underlying5 Tryz.underlying9 (fun j hj => by
        rw [Lib.row_is_numeral hF j hj, Lib.add_plain, World.cell?_drewN]
        exact cell?_putRow (fun (b : UInt8) => Value.int .u8 (b.toNat : Int)) _ w.heap.size 0 _ dk HH0.out (by rw [hF.size, Array.size_replicate]) j (by rw [hF.size]; rw [Lib.decDigits_length] at hj; exact hj))
      rw [Lib.decDigits_length] at h
      exact h
    go_wp2
    go_ret
    obtain ⟨os, eo⟩ := Lib.fin_at w (.cells Lib.zeros24 234) dk k 0
    refine ⟨rfl, ?_⟩
    have := Lib.below_grow w.heap.size w (Nat.le_refl _) k os
    rw [← eo] at this
    exact this
theorem fmt_out (u : Nat) (hu : u < 18446744073709551616) (w : World) (htab : Lib.TabIs Tryz.prog w "internal/strconv.uint64pow10" .u64 Lib.pow10Tab) :
    Calls Tryz.prog 138 #[.int .u64 u, .int .i64 10] w fun e w' => e = .returned (.string ⟨(Lib.decDigits u).toArray⟩) ∧ Below w.heap.size w w' := by
  go_enter Tryz.func138, Tryz.ntmps138
  go_wp2_with (go_at_call 146; refine (fmt_in u hu _ htab).mono ?_; rintro e w' ⟨rfl, hw⟩)
  go_ret
  exact ⟨rfl, hw⟩
end Go.Proofs.YtcgikjfloloekaaGreatDoor
namespace Go.Proofs.YtcgikjfloloekaaGreatDoor
namespace Sy
open Go Go.RowKit
set_option maxRecDepth 100000
set_option linter.unusedSimpArgs false
set_option linter.unusedVariables false
theorem ac_of_belowG {P : Program} {f : FuncId} {fn : Func} {c : Code} {xs : List AV} {args : Array Value} {r : AV} (hf : P.funcs[f]? = some fn) (hb : fn.body = some c) (hn : (fn.name == "runtime.NumGoroutine") = false)
    (ha : ∀ h D vs, RL h D noMu xs vs → vs = args) (h : ∀ w, GOk w → Calls P f args w fun e w' => ∃ v, e = .returned v ∧ Below w.heap.size w w' ∧ ∀ h D, R h D noMu r v) : ACalls P f xs r := by
  intro D w vs hD hxs hg
  have := ha _ _ _ hxs
  subst this
  unfold CallTo
  rw [callFunc_run hf hn hb]
  refine (h w hg).mono ?_
  rintro e w' ⟨v, rfl, hw, hv⟩
  exact ⟨v, D, rfl, hw, fun _ h => h, fun b hb => .inl hb, hv _ _⟩
theorem args3 {x y z : AV} {v u t : Value} (hx : Tells x v) (hy : Tells y u) (hz : Tells z t) : ∀ h D vs, RL h D noMu [x, y, z] vs → vs = #[v, u, t] := by
  intro h D vs ⟨hl, hr⟩
  obtain ⟨a, b, c, ha⟩ : ∃ a b c, vs.toList = [a, b, c] := by
    have hl : vs.toList.length = 3 := by simpa using hl.symm
    match vs.toList, hl with
    | [a, b, c], _ => exact ⟨a, b, c, rfl⟩
  have : vs = #[a, b, c] := by rw [← Array.toArray_toList (xs := vs), ha]
  subst this
  rw [hx _ _ a (hr 0 x a rfl rfl), hy _ _ b (hr 1 y b rfl rfl), hz _ _ c (hr 2 z c rfl rfl)]
def digZ (n : Int) : List UInt8 := Lib.decDigits n.toNat
def u64In (n : Int) : Prop := 0 ≤ n ∧ n < 18446744073709551616
def fmt_s (L : Seal) : Ent1 := (138, fun xs => match xs with | [.int .u64 n, .int .i64 b] => some (L2 L (fun n b : Int => u64In n ∧ b = 10) n b, .str (L digZ n)) | _ => none)
theorem fmt_good : Good Tryz.prog (fmt_s std) := by
  intro xs p r h hp
  dsimp only [fmt_s] at h ⊢
  split at h <;> cases h
  try simp only [L2, L3, std] at hp ⊢
  rename_i n b
  obtain ⟨⟨h0, h1⟩, h2⟩ : u64In n ∧ b = 10 := hp
  subst h2
  obtain ⟨u, rfl⟩ := nat_of h0
  refine ac_of_belowG (fn := Tryz.f138) rfl rfl (by kernel_rfl) (args2 (tells_int _ _) (tells_int _ _)) (fun w hg => (fmt_out u (by omega) w hg.2.1).mono ?_)
  rintro e w' ⟨rfl, hw⟩
  exact ⟨_, rfl, hw, fun h D => str_r h D _ _⟩
def prsV (s : List UInt8) : Int := match Lib.parseUintB 64 s with | .ok u => u | .syntax => 0 | .range => 18446744073709551615
def prsN (s : List UInt8) : Bool := match Lib.parseUintB 64 s with | .ok _ => true | _ => false
def prs_s (L : Seal) : Ent1 := (137, fun xs => match xs with | [.str s, .int .i64 b, .int .i64 z] => some (L3 L (fun (s : List UInt8) (b z : Int) => s.length ≤ 140737488355328 ∧ b = 10 ∧ z = 64) s b z, .tup [.int .u64 (L prsV s), .ifb (L prsN s)]) | _ => none)
theorem tup2_R {x y : AV} {v u : Value} {h : Array Obj} {D : Nat → Prop} (hx : R h D noMu x v) (hy : R h D noMu y u) : R h D noMu (.tup [x, y]) (.tuple #[v, u]) := by
  refine .tup _ _ rfl ?_
  intro i z t hz ht
  match i with
  | 0 => simp at hz ht; subst hz ht; exact hx
  | 1 => simp at hz ht; subst hz ht; exact hy
  | i + 2 => simp at hz
theorem prs_good : Good Tryz.prog (prs_s std) := by
  intro xs p r h hp
  dsimp only [prs_s] at h ⊢
  split at h <;> cases h
  try simp only [L2, L3, std] at hp ⊢
  rename_i s b z
  obtain ⟨h0, h1, h2⟩ : s.length ≤ 140737488355328 ∧ b = 10 ∧ z = 64 := hp
  subst h1; subst h2
  have hs : (⟨s.toArray⟩ : ByteArray).size = s.length := by show s.toArray.size = s.length; simp
  have hd : (⟨s.toArray⟩ : ByteArray).data.toList = s := rfl
  refine ac_of_belowG (fn := Tryz.f137) rfl rfl (by kernel_rfl) (args3 (tells_str _) (tells_int _ _) (tells_int _ _)) (fun w hg => ?_)
  obtain ⟨-, -, ⟨t2, p2, g2⟩, t3, p3, g3⟩ := hg
  cases hq : Lib.parseUintB 64 s with
  | ok u =>
    refine (Tryz.strconv_ParseUint_10_at64_ok ⟨s.toArray⟩ (by rw [hs]; omega) u (by rw [hd]; exact hq) w).mono ?_
    rintro e w' ⟨rfl, hw⟩
    refine ⟨_, rfl, ?_, fun h D => tup2_R ?_ ?_⟩
    · rcases hw with rfl | rfl
      · exact Below.refl _ _
      · exact Lib.bytesWorld_below _ _ _
    · show R h D noMu (.int .u64 (prsV s)) _
      rw [prsV, hq]; exact .int _ _
    · show R h D noMu (.ifb (prsN s)) _
      rw [prsN, hq]; exact .ifn
  | «syntax» =>
    refine (Tryz.strconv_ParseUint_10_at64_syntax_var ⟨s.toArray⟩ (by rw [hs]; omega) (by rw [hd]; exact hq) t2 p2 w g2).mono ?_
    rintro e w' ⟨N, rfl, hN, hc, hw⟩
    refine ⟨_, rfl, hw, fun h D => tup2_R ?_ ?_⟩
    · show R h D noMu (.int .u64 (prsV s)) _
      rw [prsV, hq]; exact .int _ _
    · show R h D noMu (.ifb (prsN s)) _
      rw [prsN, hq]; exact .ifs _ _
  | range =>
    refine (Tryz.strconv_ParseUint_10_at64_range_var ⟨s.toArray⟩ (by rw [hs]; omega) (by rw [hd]; exact hq) t3 p3 w g3).mono ?_
    rintro e w' ⟨N, rfl, hN, hc, hw⟩
    refine ⟨_, rfl, hw, fun h D => tup2_R ?_ ?_⟩
    · show R h D noMu (.int .u64 (prsV s)) _
      rw [prsV, hq]; exact .int _ _
    · show R h D noMu (.ifb (prsN s)) _
      rw [prsN, hq]; exact .ifs _ _
end Sy
end Go.Proofs.YtcgikjfloloekaaGreatDoor
namespace Go.Proofs.YtcgikjfloloekaaGreatDoor
namespace Sy
open Go Go.RowKit
set_option maxRecDepth 100000
set_option linter.unusedSimpArgs false
set_option linter.unusedVariables false
def isD (c : UInt8) : Bool := decide (48 ≤ c.toNat) && decide (c.toNat ≤ 57)
def dcS (a : Nat) (c : UInt8) : Nat := a * 10 + (c.toNat - 48)
def decV (a : Nat) (l : List UInt8) : Nat := l.foldl dcS a
theorem decV_nil (a : Nat) : decV a [] = a := by unfold decV; exact List.foldl_nil
theorem decV_cons (a : Nat) (c : UInt8) (r : List UInt8) : decV a (c :: r) = decV (a * 10 + (c.toNat - 48)) r := by unfold decV; exact List.foldl_cons ..
theorem decV_app (l : List UInt8) (c : UInt8) (a : Nat) : decV a (l ++ [c]) = decV a l * 10 + (c.toNat - 48) := by
  unfold decV
  rw [List.foldl_append, List.foldl_cons, List.foldl_nil, dcS]
theorem decV_ge : ∀ (l : List UInt8) (a : Nat), a ≤ decV a l
  | [], a => by rw [decV_nil]; exact Nat.le_refl _
  | c :: r, a => by rw [decV_cons]; exact Nat.le_trans (by omega) (decV_ge r _)
theorem isD_iff {c : UInt8} : isD c = true ↔ 48 ≤ c.toNat ∧ c.toNat ≤ 57 := by
  simp [isD]
theorem prs_is : ∀ (l : List UInt8) (a : Nat), l.all isD = true → a < 18446744073709551616 → Lib.parseUintM 18446744073709551615 a l = if decV a l < 18446744073709551616 then .ok (decV a l) else .range
  | [], a, _, ha => by
    rw [decV_nil, if_pos ha, Lib.parseUintM]
  | c :: r, a, h, ha => by
    rw [List.all_cons, Bool.and_eq_true] at h
    obtain ⟨h1, h2⟩ := h
    rw [isD_iff] at h1
    rw [Lib.parseUintM, if_pos h1, decV_cons]
    have hge := decV_ge r (a * 10 + (c.toNat - 48))
    split
    · rw [if_neg (by omega)]
    · split
      · rw [if_neg (by omega)]
      · exact prs_is r _ h2 (by omega)
theorem prsB_is {l : List UInt8} (h : l.all isD = true) (h0 : l ≠ []) : Lib.parseUintB 64 l = if decV 0 l < 18446744073709551616 then .ok (decV 0 l) else .range := by
  rw [Lib.parseUintB, if_neg h0]
  exact prs_is l 0 h (by decide)
def numO (s : List UInt8) : Bool := s.all isD && !(s == []) && (!(sidx s 0 == 48) || s == [48])
def numE (s : List UInt8) : Int := if numO s = true then (if decV 0 s < 18446744073709551616 then 0 else 7) else 4
def wnV (s : List UInt8) : Int := if numE s = 0 then decV 0 s else 0
def dig_s (L : Seal) : Ent1 := (132, fun xs => match xs with | [.int .u64 n] => some (L u64In n, .str (L digZ n)) | _ => none)
theorem dig_good : Good Tryz.prog (dig_s std) := by
  intro xs p r h hp
  dsimp only [dig_s] at h ⊢
  split at h <;> cases h
  try simp only [L2, L3, std] at hp ⊢
  rename_i n
  have hn : u64In n := hp
  refine acalls_L (T := tt) (S := fun L => sumOf [fmt_s L]) (lo := noA) (lb := noA) 5 (fn := Tryz.f132) rfl rfl (by kernel_rfl) (by kernel_rfl) rfl tt_ok (sumOf_ok ⟨fmt_good, trivial⟩) (by kernel_rfl) ?_
  (intro L P1 Q1 hL hP hQ; cbv; subst hL; simp only [L2, L3, std, sat_need, sat_must, sat_ite, sat_done, sat_yes, sat_ex, sat_all, sat_sup, sat_and, sat_fail]; subst hQ)
  refine ⟨⟨hn, trivial⟩, ?_⟩
  rw [fits_str]
def nuInv (s : List UInt8) (i : Nat) : Prop := i ≤ s.length ∧ (s.take i).all isD = true
theorem fits_vi (a b c d : Int) : fits (.tup [.int .u64 a, .int .i64 b]) (.tup [.int .u64 c, .int .i64 d]) = (c = a ∧ d = b) := by
  simp [sySet]
theorem num_bad {s : List UInt8} (h : numO s = false) : 0 = wnV s ∧ 4 = numE s := by
  have e : numE s = 4 := by rw [numE, if_neg (by rw [h]; decide)]
  exact ⟨by rw [wnV, if_neg (by rw [e]; decide)], e.symm⟩
theorem not_all {s : List UInt8} {i : Nat} (hi : i < s.length) (h : sidx s (natI i) < 48 ∨ 57 < sidx s (natI i)) : numO s = false := by
  have : s.all isD = false := by
    rw [List.all_eq_false]
    refine ⟨s[i], List.getElem_mem hi, ?_⟩
    rw [isD_iff]
    rw [sidx, natI, Int.toNat_natCast, List.getD_eq_getElem?_getD, List.getElem?_eq_getElem hi, Option.getD_some] at h
    omega
  rw [numO, this]; rfl
theorem nu_step {s : List UInt8} {i i' : Nat} (hi' : i' = i + 1) (h : nuInv s i) (hi : i < s.length) (h1 : ¬ sidx s (natI i) < 48) (h2 : ¬ 57 < sidx s (natI i)) : nuInv s i' := by
  subst hi'
  refine ⟨hi, ?_⟩
  rw [List.take_succ_eq_append_getElem hi, List.all_append, h.2, List.all_cons, List.all_nil]
  rw [sidx, natI, Int.toNat_natCast, List.getD_eq_getElem?_getD, List.getElem?_eq_getElem hi, Option.getD_some] at h1 h2
  have : isD s[i] = true := isD_iff.2 (by omega)
  rw [this]; rfl
theorem nu_all {s : List UInt8} {i : Nat} (h : nuInv s i) (hi : ¬ i < s.length) : s.all isD = true := by
  have := h.2
  rw [List.take_of_length_le (by omega)] at this
  exact this
theorem num_fine {s : List UInt8} (h : s.all isD = true) (h0 : s ≠ []) (h1 : sidx s 0 ≠ 48 ∨ s = [48]) : ((!prsN s) = true → 0 = wnV s ∧ 7 = numE s) ∧ ((!prsN s) = false → prsV s = wnV s ∧ 0 = numE s) := by
  have ho : numO s = true := by
    rw [numO, h]
    rcases h1 with h1 | h1
    · simp [h0, h1]
    · subst h1; rfl
  have hB := prsB_is h h0
  rw [wnV, numE, if_pos ho, prsN, prsV, hB]
  by_cases hl : decV 0 s < 18446744073709551616
  · rw [if_pos hl, if_pos hl]
    exact ⟨fun h => by simp at h, fun _ => ⟨rfl, rfl⟩⟩
  · rw [if_neg hl, if_neg hl]
    exact ⟨fun _ => ⟨rfl, rfl⟩, fun h => by simp at h⟩
def nuA (L : Seal) (s : List UInt8) : Nat → St → Option Ann := fun id st => match id with
  | 0 => some ⟨Nat, fun i => [(9, .int .i64 (L natI i))], fun _ => [], [0, 8], [], fun i => L2 L nuInv s i, fun i => L2 L (fun (s : List UInt8) (i : Nat) => s.length - i) s i⟩
  | _ => none
def wnum_s (L : Seal) : Ent1 := (130, fun xs => match xs with | [.str s] => some (L2 L upto 1000000 s, .tup [.int .u64 (L wnV s), .int .i64 (L numE s)]) | _ => none)
theorem lt_of_ilt {n k : Nat} (h : ilt (natI n) (natI k) = true) : n < k := by
  have := of_decide_eq_true h
  unfold natI at this; omega
theorem ge_of_ilt {n k : Nat} (h : ilt (natI n) (natI k) = false) : ¬ n < k := by
  have := of_decide_eq_false h
  unfold natI at this; omega
theorem inR_nat {n k : Nat} (h : n < k) : inR (natI n) (natI k) = true := by rw [inR_t]; exact ⟨Int.natCast_nonneg _, by unfold natI; omega⟩
theorem natI_up' {n n' : Nat} (h : n' = n + 1) (h2 : n < 100000000) : wadd .i64 (natI n) 1 = natI n' := by
  subst h; unfold natI; rw [wadd, w_i64]; omega
theorem num_ne {s : List UInt8} (h : seq s [] = false) : s ≠ [] := by
  intro e; subst e; exact absurd h (by decide)
theorem num_e1 {s : List UInt8} (h : seq s [] = true) : numO s = false := by
  have : s = [] := by simpa [seq] using h
  subst this; rfl
theorem num_in {s : List UInt8} (h : seq s [] = false) : inR 0 (slen s) = true := by
  have := num_ne h
  rw [inR_t, slen]
  have : 0 < s.length := List.length_pos_iff.2 this
  omega
theorem num_z {s : List UInt8} (h : (!seq s [48]) = false) : s = [48] := by
  have : seq s [48] = true := by simpa using h
  simpa [seq] using this
theorem num_nz {s : List UInt8} (h : ieq (sidx s 0) 48 = false) : sidx s 0 ≠ 48 := by
  simpa [ieq] using h
theorem num_e2 {s : List UInt8} (h : ieq (sidx s 0) 48 = true) (h2 : (!seq s [48]) = true) : numO s = false := by
  have h1 : sidx s 0 = 48 := by simpa [ieq] using h
  have h3 : ¬ s = [48] := by
    intro e; subst e; exact absurd h2 (by decide)
  rw [numO, h1]
  simp [h3]
theorem wnum_good : Good Tryz.prog (wnum_s std) := by
  intro xs p r h hp
  dsimp only [wnum_s] at h ⊢
  split at h <;> cases h
  try simp only [L2, L3, std] at hp ⊢
  rename_i s
  have hs : s.length ≤ 1000000 := hp
  refine acalls_L (T := tt) (S := fun L => sumOf [prs_s L]) (lo := fun L => nuA L s) (lb := noA) 5 (fn := Tryz.f130) rfl rfl (by kernel_rfl) (by kernel_rfl) rfl tt_ok (sumOf_ok ⟨prs_good, trivial⟩) (by kernel_rfl) ?_
  obtain ⟨n0, hn0⟩ : ∃ n : Nat, n = 0 := ⟨_, rfl⟩
  intro L P' Q' hL hP hQ
  (cbv; try simp only [sat_need, sat_must, sat_ite, sat_done, sat_yes, sat_ex, sat_all, sat_sup, sat_and, sat_fail, true_and, and_true])
  refine ⟨⟨n0, ?_⟩, fun i hi => ?_⟩
  · (cbv; try simp only [sat_need, sat_must, sat_ite, sat_done, sat_yes, sat_ex, sat_all, sat_sup, sat_and, sat_fail, true_and, and_true])
    subst hL; subst hQ; subst hn0
    exact ⟨rfl, Nat.zero_le _, by rw [List.take_zero]; rfl⟩
  obtain ⟨i', hi'⟩ : ∃ i' : Nat, i' = i + 1 := ⟨_, rfl⟩
  (cbv; try simp only [sat_need, sat_must, sat_ite, sat_done, sat_yes, sat_ex, sat_all, sat_sup, sat_and, sat_fail, true_and, and_true])
  refine ⟨fun h1 => ⟨?_, fun h2 => ?_, fun h2 => ⟨?_, fun h3 => ?_, fun h3 => ⟨i', ?_⟩⟩⟩, fun h1 => ⟨fun h2 => ?_, fun h2 => ⟨?_, fun h3 => ⟨fun h4 => ?_, fun h4 => ⟨?_, fun h5 => ?_, fun h5 => ?_⟩⟩, fun h3 => ⟨?_, fun h5 => ?_, fun h5 => ?_⟩⟩⟩⟩
  all_goals (try (cbv; try simp only [sat_need, sat_must, sat_ite, sat_done, sat_yes, sat_ex, sat_all, sat_sup, sat_and, sat_fail, true_and, and_true]))
  all_goals (subst hL; subst hQ)
  all_goals (try rw [fits_vi])
  · exact inR_nat (k := s.length) (lt_of_ilt h1)
  · exact num_bad (not_all (lt_of_ilt (k := s.length) h1) (.inl (of_decide_eq_true h2)))
  · exact inR_nat (k := s.length) (lt_of_ilt h1)
  · exact num_bad (not_all (lt_of_ilt (k := s.length) h1) (.inr (of_decide_eq_true h3)))
  · have hlt : i < s.length := lt_of_ilt (k := s.length) h1
    refine ⟨natI_up' hi' (by omega), nu_step hi' hi hlt (of_decide_eq_false h2) (of_decide_eq_false h3), ?_⟩
    show s.length - i' + 1 ≤ s.length - i
    omega
  · exact num_bad (num_e1 h2)
  · exact num_in h2
  · exact num_bad (num_e2 h3 h4)
  · exact ⟨by omega, rfl, rfl⟩
  · exact (num_fine (nu_all hi (ge_of_ilt (k := s.length) h1)) (num_ne h2) (.inr (num_z h4))).1 h5
  · exact (num_fine (nu_all hi (ge_of_ilt (k := s.length) h1)) (num_ne h2) (.inr (num_z h4))).2 h5
  · exact ⟨by omega, rfl, rfl⟩
  · exact (num_fine (nu_all hi (ge_of_ilt (k := s.length) h1)) (num_ne h2) (.inl (num_nz h3))).1 h5
  · exact (num_fine (nu_all hi (ge_of_ilt (k := s.length) h1)) (num_ne h2) (.inl (num_nz h3))).2 h5
theorem u64_nat {N : Nat} (h : (N : Int) < 18446744073709551616) : N < 18446744073709551616 := by omega
end Sy
end Go.Proofs.YtcgikjfloloekaaGreatDoor
namespace Go.Proofs.YtcgikjfloloekaaGreatDoor
namespace Sy
open Go Go.RowKit
set_option maxRecDepth 100000
set_option linter.unusedSimpArgs false
set_option linter.unusedVariables false
theorem dig_c {n : Nat} (h : n < 10) : (UInt8.ofNat (48 + n)).toNat = 48 + n := by
  rw [UInt8.toNat_ofNat']; omega
theorem dec_is (u : Nat) : (Lib.decDigits u).all isD = true ∧ Lib.decDigits u ≠ [] ∧ decV 0 (Lib.decDigits u) = u ∧ (1 ≤ u → sidx (Lib.decDigits u) 0 ≠ 48) := by
  induction u using Nat.strongRecOn with
  | _ u ih =>
    by_cases h : u < 10
    · rw [Lib.decDigits_one h]
      have hc := dig_c h
      refine ⟨?_, by simp, ?_, fun h1 => ?_⟩
      · rw [List.all_cons, List.all_nil, Bool.and_true, isD_iff, hc]; omega
      · rw [decV_cons, decV_nil, hc]; omega
      · show ((UInt8.ofNat (48 + u)).toNat : Int) ≠ 48
        rw [hc]; omega
    · obtain ⟨a1, a2, a3, a4⟩ := ih (u / 10) (by omega)
      have hc := dig_c (show u % 10 < 10 by omega)
      rw [Lib.decDigits, dif_neg h]
      refine ⟨?_, by simp, ?_, fun _ => ?_⟩
      · rw [List.all_append, a1, List.all_cons, List.all_nil, Bool.and_true, Bool.true_and, isD_iff, hc]; omega
      · rw [decV_app, a3, hc]; omega
      · have := a4 (by omega)
        have h0 : 0 < (Lib.decDigits (u / 10)).length := List.length_pos_iff.2 a2
        rw [sidx, List.getD_eq_getElem?_getD] at this ⊢
        rw [List.getElem?_append_left (by simpa using h0)]
        exact this
theorem num_of_dig {n : Int} (h : u64In n) : numE (digZ n) = 0 ∧ wnV (digZ n) = n := by
  obtain ⟨u, rfl⟩ := nat_of h.1
  have hu : u < 18446744073709551616 := u64_nat h.2
  obtain ⟨a1, a2, a3, a4⟩ := dec_is u
  have ho : numO (digZ (u : Int)) = true := by
    rw [digZ, Int.toNat_natCast, numO, a1]
    by_cases h0 : 1 ≤ u
    · simp [a2, a4 h0]
    · have : u = 0 := by omega
      subst this
      rw [Lib.decDigits_one (by decide)]; rfl
  have e : numE (digZ (u : Int)) = 0 := by
    rw [numE, if_pos ho, digZ, Int.toNat_natCast, a3, if_pos hu]
  refine ⟨e, ?_⟩
  rw [wnV, if_pos e, digZ, Int.toNat_natCast, a3]
theorem dec_of : ∀ (n : Nat) (s : List UInt8), s.length = n → s.all isD = true → s ≠ [] → (sidx s 0 ≠ 48 ∨ s = [48]) → Lib.decDigits (decV 0 s) = s
  | 0, s, hl, _, h0, _ => absurd (List.eq_nil_of_length_eq_zero hl) h0
  | n + 1, s, hl, ha, h0, hz => by
    obtain ⟨t, c, rfl⟩ : ∃ t c, s = t ++ [c] := ⟨s.dropLast, s.getLast h0, (List.dropLast_concat_getLast h0).symm⟩
    rw [List.all_append, List.all_cons, List.all_nil, Bool.and_true, Bool.and_eq_true] at ha
    obtain ⟨ht, hc⟩ := ha
    rw [isD_iff] at hc
    rw [decV_app]
    have back : UInt8.ofNat (48 + (c.toNat - 48)) = c := by
      apply UInt8.toNat_inj.1
      rw [UInt8.toNat_ofNat']
      have := c.toNat_lt
      omega
    by_cases htn : t = []
    · subst htn
      rw [decV_nil, Nat.zero_mul, Nat.zero_add, Lib.decDigits_one (by omega), back]; rfl
    · have hlt : t.length = n := by simpa using hl
      obtain ⟨x, r, rfl⟩ := List.exists_cons_of_ne_nil htn
      have hx : sidx (x :: r) 0 ≠ 48 := by
        rcases hz with hz | hz
        · exact hz
        · have := congrArg List.length hz
          simp at this
      have h1 : 1 ≤ decV 0 (x :: r) := by
        rw [decV_cons]
        refine Nat.le_trans ?_ (decV_ge r _)
        rw [List.all_cons, Bool.and_eq_true, isD_iff] at ht
        have : x.toNat ≠ 48 := fun e => hx (by show ((x.toNat : Nat) : Int) = 48; omega)
        omega
      have ih := dec_of n (x :: r) hlt ht htn (.inl hx)
      generalize decV 0 (x :: r) = v at h1 ih ⊢
      rw [Lib.decDigits, dif_neg (by omega), show (v * 10 + (c.toNat - 48)) / 10 = v by omega, show (v * 10 + (c.toNat - 48)) % 10 = c.toNat - 48 by omega, ih, back]
theorem num_o {s : List UInt8} (h : numO s = true) : s.all isD = true ∧ s ≠ [] ∧ (sidx s 0 ≠ 48 ∨ s = [48]) := by
  simp only [numO, Bool.and_eq_true, Bool.not_eq_true', Bool.or_eq_true, beq_iff_eq, beq_eq_false_iff_ne, ne_eq] at h
  exact ⟨h.1.1, h.1.2, h.2⟩
theorem dig_of_num {s : List UInt8} (h : numE s = 0) : digZ (wnV s) = s ∧ u64In (wnV s) := by
  have ho : numO s = true := by
    cases hq : numO s with
    | true => rfl
    | false => rw [numE, hq, if_neg (by decide)] at h; exact absurd h (by decide)
  have hl : decV 0 s < 18446744073709551616 := by
    rw [numE, if_pos ho] at h
    split at h
    · assumption
    · exact absurd h (by decide)
  obtain ⟨h1, h2, h3⟩ := num_o ho
  rw [wnV, if_pos h, digZ, Int.toNat_natCast, dec_of _ s rfl h1 h2 h3]
  exact ⟨rfl, by unfold u64In; omega⟩
theorem dig_len {n : Int} (h : u64In n) : (digZ n).length ≤ 20 := by
  obtain ⟨u, rfl⟩ := nat_of h.1
  have hu : u < 18446744073709551616 := u64_nat h.2
  rw [digZ, Int.toNat_natCast, Lib.decDigits_length]
  by_cases h0 : u = 0
  · subst h0; rw [Lib.nDigits_small (by decide)]; decide
  · have := Lib.numDigits_eq u (by omega) hu
    split at this <;> omega
end Sy
end Go.Proofs.YtcgikjfloloekaaGreatDoor
namespace Go.Proofs.YtcgikjfloloekaaGreatDoor
namespace Sy
open Go Go.RowKit
set_option maxRecDepth 100000
set_option linter.unusedSimpArgs false
set_option linter.unusedVariables false
structure Pl where
  a : Int
  b : Int
  c : Int
  d : Int
  p : Int
  deriving DecidableEq
def plA (L : Seal) (x : Pl) : AV := .agg [.int .u8 (L Pl.a x), .int .u8 (L Pl.b x), .int .u8 (L Pl.c x), .int .u8 (L Pl.d x), .int .u16 (L Pl.p x)]
def mkPl (L : Seal) (a b c d p : Int) : Pl := L (L (L (L (L Pl.mk a) b) c) d) p
def plOk (x : Pl) : Prop := (0 ≤ x.a ∧ x.a ≤ 255) ∧ (0 ≤ x.b ∧ x.b ≤ 255) ∧ (0 ≤ x.c ∧ x.c ≤ 255) ∧ (0 ≤ x.d ∧ x.d ≤ 255) ∧ 0 ≤ x.p ∧ x.p ≤ 65535
def ub (n : Int) : UInt8 := UInt8.ofNat n.toNat
def plB (x : Pl) : List UInt8 := [ub x.a, ub x.b, ub x.c, ub x.d, ub (x.p / 256), ub (x.p % 256)]
def plT (x : Pl) : List UInt8 := digZ x.a ++ 46 :: (digZ x.b ++ 46 :: (digZ x.c ++ 46 :: (digZ x.d ++ 58 :: digZ x.p)))
theorem ub_mod (n : Nat) : UInt8.ofNat n = UInt8.ofNat (n % 256) := by
  apply UInt8.toNat_inj.1
  rw [UInt8.toNat_ofNat', UInt8.toNat_ofNat']; omega
theorem put_2 {p : Int} (h0 : 0 ≤ p) (h1 : p ≤ 65535) : putZ p 2 = [ub (p / 256), ub (p % 256)] := by
  obtain ⟨n, rfl⟩ := nat_of h0
  show putL n 2 = _
  rw [putL, putL, putL, Nat.pow_one, Nat.pow_zero, Nat.div_one, ub_mod n]
  show _ = [UInt8.ofNat ((n : Int) / 256).toNat, UInt8.ofNat ((n : Int) % 256).toNat]
  rw [show ((n : Int) / 256).toNat = n / 256 by omega, show ((n : Int) % 256).toNat = n % 256 by omega]
def bytes_s (L : Seal) : Ent1 := (102, fun xs => match xs with
  | [.agg [.int .u8 a, .int .u8 b, .int .u8 c, .int .u8 d, .int .u16 p]] => some (L plOk (mkPl L a b c d p), .str (L plB (mkPl L a b c d p)))
  | _ => none)
theorem bytes_good : Good Tryz.prog (bytes_s std) := by
  intro xs p r h hp
  dsimp only [bytes_s] at h ⊢
  split at h <;> cases h
  try simp only [L2, L3, std] at hp ⊢
  rename_i a b c d p
  have hp : plOk ⟨a, b, c, d, p⟩ := hp
  refine acalls_L (T := tt) (S := fun L => sumOf [put_s L]) (lo := noA) (lb := noA) 5 (fn := Tryz.f102) rfl rfl (by kernel_rfl) (by kernel_rfl) rfl tt_ok (sumOf_ok ⟨put_good, trivial⟩) (by kernel_rfl) ?_
  (intro L P1 Q1 hL hP hQ; cbv; subst hL; simp only [L2, L3, std, sat_need, sat_must, sat_ite, sat_done, sat_yes, sat_ex, sat_all, sat_sup, sat_and, sat_fail]; subst hQ)
  (simp only [sySet, syB, reduceCtorEq, forall_const, Int.reduceToNat, Int.reduceAdd, Int.reduceSub, Int.cast_ofNat_Int, Int.toNat_natCast, Nat.le_eq, Nat.sub_eq, ne_eq, implies_true, wadd, wsub, wmul, Nat.succ_eq_add_one])
  obtain ⟨-, -, -, -, h1, h2⟩ := hp
  simp only at h1 h2
  have h2 : p ≤ 65535 := h2
  rw [show p % 18446744073709551616 = p by omega, put_2 h1 h2]
  exact ⟨fun i _ => ⟨_, rfl⟩, ⟨by omega, by omega, by decide, by decide⟩, by simp [bytesOf], rfl⟩
def ipL (x : Pl) : List Int := [x.a, x.b, x.c, x.d]
def ipT (x : Pl) (j : Nat) : List UInt8 := digZ (nthI (ipL x) j)
def le4s (i : Nat) : Prop := i ≤ 4
def to4 (i : Nat) : Nat := 4 - i
def txtA (L : Seal) (x : Pl) : Nat → St → Option Ann := fun id st => match id with
  | 0 => some ⟨Nat, fun i => [(8, .int .i64 (L natI i)), (3, .sl 900 1 0 i)], fun i => [(900, .row 9 1 i (fun j _ => .str (L2 L ipT x j)))], [1, 7], [1], fun i => L le4s i, fun i => L to4 i⟩
  | _ => none
theorem ip_in {x : Pl} (h : plOk x) (j : Nat) : u64In (nthI (ipL x) j) := by
  obtain ⟨h1, h2, h3, h4, -⟩ := h
  match j with
  | 0 => exact ⟨h1.1, by have := h1.2; show x.a < _; omega⟩
  | 1 => exact ⟨h2.1, by have := h2.2; show x.b < _; omega⟩
  | 2 => exact ⟨h3.1, by have := h3.2; show x.c < _; omega⟩
  | 3 => exact ⟨h4.1, by have := h4.2; show x.d < _; omega⟩
  | j + 4 => exact ⟨Int.le_refl 0, (by decide : (0 : Int) < 18446744073709551616)⟩
theorem join4 (x : Pl) : Lib.join [digZ x.a, digZ x.b, digZ x.c, digZ x.d] [46] = digZ x.a ++ 46 :: (digZ x.b ++ 46 :: (digZ x.c ++ 46 :: digZ x.d)) := by
  simp [Lib.join, List.intercalate]
def ptext_s (L : Seal) : Ent1 := (125, fun xs => match xs with
  | [.agg [.int .u8 a, .int .u8 b, .int .u8 c, .int .u8 d, .int .u16 p]] => some (L plOk (mkPl L a b c d p), .str (L plT (mkPl L a b c d p)))
  | _ => none)
theorem ptext_good : Good Tryz.prog (ptext_s std) := by
  intro xs p r h hp
  dsimp only [ptext_s] at h ⊢
  split at h <;> cases h
  try simp only [L2, L3, std] at hp ⊢
  rename_i a b c d p
  have hp : plOk ⟨a, b, c, d, p⟩ := hp
  refine acalls_L (T := tt) (S := fun L => sumOf [dig_s L, jn_s L]) (lo := fun L => txtA L ⟨a, b, c, d, p⟩) (lb := noA) 5 (fn := Tryz.f125) rfl rfl (by kernel_rfl) (by kernel_rfl) rfl tt_ok (sumOf_ok ⟨dig_good, jn_good, trivial⟩) (by kernel_rfl) ?_
  intro L P' Q' hL hP hQ
  (cbv; try simp only [sat_need, sat_must, sat_ite, sat_done, sat_yes, sat_ex, sat_all, sat_sup, sat_and, sat_fail, true_and, and_true])
  refine ⟨⟨0, ?_⟩, fun i hi => ?_⟩
  · (cbv; try simp only [sat_need, sat_must, sat_ite, sat_done, sat_yes, sat_ex, sat_all, sat_sup, sat_and, sat_fail, true_and, and_true])
    (subst hL; subst hQ; simp only [L2, L3, std] at *; try simp only [sySet, syB, reduceCtorEq, forall_const, Int.reduceToNat, Int.reduceAdd, Int.reduceSub, Int.cast_ofNat_Int, Int.toNat_natCast, Nat.le_eq, Nat.sub_eq, ne_eq, implies_true, wadd, wsub, wmul, Nat.succ_eq_add_one] at *)
    exact Nat.zero_le _
  · (cbv; try simp only [sat_need, sat_must, sat_ite, sat_done, sat_yes, sat_ex, sat_all, sat_sup, sat_and, sat_fail, true_and, and_true])
    have hi4 : i ≤ 4 := by
      have hi' := hi
      rw [hL] at hi'
      exact hi'
    refine ⟨fun h1 => ⟨?_, ?_, ?_, i + 1, ?_⟩, fun h1 => ⟨?_, ?_, ?_, ?_, ?_⟩⟩
    · (subst hL; subst hQ; simp only [L2, L3, std] at *; try simp only [sySet, syB, reduceCtorEq, forall_const, Int.reduceToNat, Int.reduceAdd, Int.reduceSub, Int.cast_ofNat_Int, Int.toNat_natCast, Nat.le_eq, Nat.sub_eq, ne_eq, implies_true, wadd, wsub, wmul, Nat.succ_eq_add_one] at *)
      omega
    · (subst hL; subst hQ; simp only [L2, L3, std] at *; try simp only [sySet, syB, reduceCtorEq, forall_const, Int.reduceToNat, Int.reduceAdd, Int.reduceSub, Int.cast_ofNat_Int, Int.toNat_natCast, Nat.le_eq, Nat.sub_eq, ne_eq, implies_true, wadd, wsub, wmul, Nat.succ_eq_add_one] at *)
      have := ip_in hp i
      show u64In (_ % _)
      rw [show nthI [a, b, c, d] i % 18446744073709551616 = nthI (ipL ⟨a, b, c, d, p⟩) i from Int.emod_eq_of_lt this.1 this.2]
      exact this
    · (subst hL; subst hQ; simp only [L2, L3, std] at *; try simp only [sySet, syB, reduceCtorEq, forall_const, Int.reduceToNat, Int.reduceAdd, Int.reduceSub, Int.cast_ofNat_Int, Int.toNat_natCast, Nat.le_eq, Nat.sub_eq, ne_eq, implies_true, wadd, wsub, wmul, Nat.succ_eq_add_one] at *)
      omega
    · (cbv; try simp only [sat_need, sat_must, sat_ite, sat_done, sat_yes, sat_ex, sat_all, sat_sup, sat_and, sat_fail, true_and, and_true])
      (subst hL; subst hQ; simp only [L2, L3, std] at *; try simp only [sySet, syB, reduceCtorEq, forall_const, Int.reduceToNat, Int.reduceAdd, Int.reduceSub, Int.cast_ofNat_Int, Int.toNat_natCast, Nat.le_eq, Nat.sub_eq, ne_eq, implies_true, wadd, wsub, wmul, Nat.succ_eq_add_one] at *)
      refine ⟨fun k j hk hj => ?_, by omega, by show i + 1 ≤ 4; omega, by show 4 - (i + 1) + 1 ≤ 4 - i; omega⟩
      by_cases hk' : k < i
      · rw [blt_t hk', show k - i = 0 by omega]; rfl
      · have : k = i := by omega
        subst this
        rw [blt_f (by omega), show k - k = 0 by omega]
        match j, hj with
        | 0, _ =>
          have := ip_in hp k
          show AV.str (digZ (nthI [a, b, c, d] k % 18446744073709551616)) = .str (digZ (nthI (ipL ⟨a, b, c, d, p⟩) k))
          rw [show nthI [a, b, c, d] k % 18446744073709551616 = nthI (ipL ⟨a, b, c, d, p⟩) k from Int.emod_eq_of_lt this.1 this.2]
    all_goals
      (subst hL; subst hQ; simp only [L2, L3, std] at *; try simp only [sySet, syB, reduceCtorEq, forall_const, Int.reduceToNat, Int.reduceAdd, Int.reduceSub, Int.cast_ofNat_Int, Int.toNat_natCast, Nat.le_eq, Nat.sub_eq, ne_eq, implies_true, wadd, wsub, wmul, Nat.succ_eq_add_one] at *)
      have h4 : i = 4 := by omega
      subst h4
      have l1 := dig_len (ip_in hp 0)
      have l2 := dig_len (ip_in hp 1)
      have l3 := dig_len (ip_in hp 2)
      have l4 := dig_len (ip_in hp 3)
      have hp5 : 0 ≤ p ∧ p ≤ 65535 := hp.2.2.2.2
      have l5 := dig_len (n := p) ⟨hp5.1, by omega⟩
      have hj : jnZ [46] (.lst 1 4 fun i x => AV.str (ipT ⟨a, b, c, d, p⟩ i)) = digZ a ++ 46 :: (digZ b ++ 46 :: (digZ c ++ 46 :: digZ d)) := join4 ⟨a, b, c, d, p⟩
      have hm : p % 18446744073709551616 = p := by omega
      simp only [nthI, ipL, List.getD_cons_zero, List.getD_cons_succ] at l1 l2 l3 l4
      have hl : (digZ a ++ 46 :: (digZ b ++ 46 :: (digZ c ++ 46 :: digZ d))).length ≤ 100 := by
        simp only [List.length_append, List.length_cons]; omega
    · refine ⟨fun k hk => ⟨_, rfl⟩, by omega, ?_⟩
      have : Lib.join (partsOf 4 fun i x => AV.str (ipT ⟨a, b, c, d, p⟩ i)) [46] = digZ a ++ 46 :: (digZ b ++ 46 :: (digZ c ++ 46 :: digZ d)) := hj
      rw [this]; omega
    · rw [hj, List.length_singleton]; omega
    · rw [hm]; exact ⟨hp5.1, by omega⟩
    · rw [hj, hm, List.length_append, List.length_singleton]; omega
    · rw [hj, hm]
      show _ = plT ⟨a, b, c, d, p⟩
      simp [plT]
theorem pl_fit {x : Pl} {a b c d p : Int} (h : x = ⟨a, b, c, d, p⟩) : fits1 (plA std x) (.agg [.int .u8 a, .int .u8 b, .int .u8 c, .int .u8 d, .int .u16 p]) := by
  subst h
  show fits1 (.agg [.int .u8 a, .int .u8 b, .int .u8 c, .int .u8 d, .int .u16 p]) _
  simp only [fits1_aggi, fits1_agg0, and_self]
def hostS (s : List UInt8) : List (List UInt8) := splitS (cutA s [58]) [46]
def portS (s : List UInt8) : List UInt8 := cutB s [58]
def prtV (s : List UInt8) (k : Nat) : Int := wnV (nthS (hostS s) k)
def prtE (s : List UInt8) (k : Nat) : Int := numE (nthS (hostS s) k)
def prtO (s : List UInt8) (k : Nat) : Prop := prtE s k = 0 ∧ prtV s k ≤ 255
def spOk (s : List UInt8) : Prop := cutY s [58] = true ∧ (hostS s).length = 4 ∧ (∀ k, k < 4 → prtO s k) ∧ numE (portS s) = 0 ∧ 1 ≤ wnV (portS s) ∧ wnV (portS s) ≤ 65535
open Classical in
noncomputable def spE (s : List UInt8) : Int := if spOk s then 0 else 4
noncomputable def spP (s : List UInt8) : Pl := if spE s = 0 then ⟨prtV s 0, prtV s 1, prtV s 2, prtV s 3, wnV (portS s)⟩ else ⟨0, 0, 0, 0, 0⟩
theorem split_mem {c : UInt8} : ∀ {s : List UInt8} {x : List UInt8}, x ∈ splitC c s → x.length ≤ s.length
  | [], x, h => by simp [splitC] at h; subst h; exact Nat.le_refl _
  | y :: s, x, h => by
    have ih := fun x h => split_mem (c := c) (s := s) (x := x) h
    unfold splitC at h
    split at h
    · rcases List.mem_cons.1 h with rfl | h
      · exact Nat.zero_le _
      · have := ih x h; simp; omega
    · split at h
      · rename_i z r hs
        rcases List.mem_cons.1 h with rfl | h
        · have := ih z (by rw [hs]; simp); simp; omega
        · have := ih x (by rw [hs]; simp [h]); simp; omega
      · rename_i hs; exact absurd hs (splitC_ne _ _)
theorem nth_len (c : UInt8) (s : List UInt8) (k : Nat) : (nthS (splitC c s) k).length ≤ s.length := by
  rw [nthS, List.getD_eq_getElem?_getD]
  cases h : (splitC c s)[k]? with
  | none => exact Nat.zero_le _
  | some x => exact split_mem (List.mem_of_getElem? h)
theorem num_ge (s : List UInt8) : 0 ≤ wnV s := by
  unfold wnV
  split
  · exact Int.natCast_nonneg _
  · exact Int.le_refl _
theorem cutA_len (s sep : List UInt8) : (cutA s sep).length ≤ s.length := by
  unfold cutA
  split
  · exact Nat.le_refl _
  · rw [List.length_take]; omega
theorem cutB_len (s sep : List UInt8) : (cutB s sep).length ≤ s.length := by
  unfold cutB
  split
  · exact Nat.zero_le _
  · rw [List.length_drop]; omega
theorem sp_bad {s : List UInt8} (h : ¬ spOk s) : fits1 (plA std (spP s)) (.agg [.int .u8 0, .int .u8 0, .int .u8 0, .int .u8 0, .int .u16 0]) ∧ 4 = spE s := by
  have e : spE s = 4 := if_neg h
  exact ⟨pl_fit (if_neg (by rw [e]; decide)), e.symm⟩
noncomputable def par_s (L : Seal) : Ent1 := (123, fun xs => match xs with
  | [.str s] => some (L2 L upto 1000000 s, .tup [plA L (L spP s), .int .i64 (L spE s)])
  | _ => none)
def ipZ (s : List UInt8) (i k : Nat) : Int := if k < i then prtV s k else 0
def parInv (s : List UInt8) (i : Nat) : Prop := i ≤ 4 ∧ ∀ k, k < i → prtO s k
def parA (L : Seal) (s : List UInt8) : Nat → St → Option Ann := fun id st => match id with
  | 0 => some ⟨Nat, fun i => [(30, .int .i64 (L natI i)), (2, .ref 2 0), (4, .ref 4 0)],
      fun i => [(2, .box 105 [.int .u8 0, .int .u8 0, .int .u8 0, .int .u8 0, .int .u16 0]), (4, .box 105 [.int .u8 (L (L2 L ipZ s i) 0), .int .u8 (L (L2 L ipZ s i) 1), .int .u8 (L (L2 L ipZ s i) 2), .int .u8 (L (L2 L ipZ s i) 3), .int .u16 0])], [8, 28, 29], [],
      fun i => L2 L parInv s i, fun i => L to4 i⟩
  | _ => none
theorem par_good : Good Tryz.prog (par_s std) := by
  intro xs p r h hp
  dsimp only [par_s] at h ⊢
  split at h <;> cases h
  try simp only [L2, L3, std] at hp ⊢
  rename_i s
  have hp : s.length ≤ 1000000 := hp
  refine acalls_L (T := tt) (S := fun L => sumOf [cut_s L, spl_s L, wnum_s L]) (lo := fun L => parA L s) (lb := noA) 5 (fn := Tryz.f123) rfl rfl (by kernel_rfl) (by kernel_rfl) rfl tt_ok (sumOf_ok ⟨cut_good, spl_good, wnum_good, trivial⟩) (by kernel_rfl) ?_
  intro L P' Q' hL hP hQ
  have hcl := cutA_len s [58]
  have hbl := cutB_len s [58]
  (cbv; try simp only [sat_need, sat_must, sat_ite, sat_done, sat_yes, sat_ex, sat_all, sat_sup, sat_and, sat_fail, true_and, and_true])
  refine ⟨?_, ?_, fun h => ?_, fun h1 => ⟨fun h => ?_, fun h2 => ⟨⟨0, ?_⟩, fun i hi => ?_⟩⟩⟩
  · (subst hL; subst hQ; simp only [L2, L3, std] at *; try simp only [sySet, syB, reduceCtorEq, forall_const, Int.reduceToNat, Int.reduceAdd, Int.reduceSub, Int.cast_ofNat_Int, Int.toNat_natCast, Nat.le_eq, Nat.sub_eq, ne_eq, implies_true, wadd, wsub, wmul, Nat.succ_eq_add_one] at *)
    exact ⟨rfl, by show s.length ≤ _; omega⟩
  · (subst hL; subst hQ; simp only [L2, L3, std] at *; try simp only [sySet, syB, reduceCtorEq, forall_const, Int.reduceToNat, Int.reduceAdd, Int.reduceSub, Int.cast_ofNat_Int, Int.toNat_natCast, Nat.le_eq, Nat.sub_eq, ne_eq, implies_true, wadd, wsub, wmul, Nat.succ_eq_add_one] at *)
    exact ⟨rfl, by show (cutA s [58]).length ≤ _; omega⟩
  · (subst hL; subst hQ; simp only [L2, L3, std] at *; try simp only [sySet, syB, reduceCtorEq, forall_const, Int.reduceToNat, Int.reduceAdd, Int.reduceSub, Int.cast_ofNat_Int, Int.toNat_natCast, Nat.le_eq, Nat.sub_eq, ne_eq, implies_true, wadd, wsub, wmul, Nat.succ_eq_add_one] at *)
    exact sp_bad fun x => by rw [x.1] at h; cases h
  · (subst hL; subst hQ; simp only [L2, L3, std] at *; try simp only [sySet, syB, reduceCtorEq, forall_const, Int.reduceToNat, Int.reduceAdd, Int.reduceSub, Int.cast_ofNat_Int, Int.toNat_natCast, Nat.le_eq, Nat.sub_eq, ne_eq, implies_true, wadd, wsub, wmul, Nat.succ_eq_add_one] at *)
    exact sp_bad fun x => h (by have := x.2.1; show ((hostS s).length : Int) = 4; omega)
  · (cbv; try simp only [sat_need, sat_must, sat_ite, sat_done, sat_yes, sat_ex, sat_all, sat_sup, sat_and, sat_fail, true_and, and_true])
    (subst hL; subst hQ; simp only [L2, L3, std] at *; try simp only [sySet, syB, reduceCtorEq, forall_const, Int.reduceToNat, Int.reduceAdd, Int.reduceSub, Int.cast_ofNat_Int, Int.toNat_natCast, Nat.le_eq, Nat.sub_eq, ne_eq, implies_true, wadd, wsub, wmul, Nat.succ_eq_add_one] at *)
    exact ⟨rfl, rfl, rfl, rfl, Nat.zero_le _, fun k hk => by omega⟩
  · cbv at hi
    (cbv; try simp only [sat_need, sat_must, sat_ite, sat_done, sat_yes, sat_ex, sat_all, sat_sup, sat_and, sat_fail, true_and, and_true])
    have hpl : ∀ k, (nthS (hostS s) k).length ≤ 1000000 := fun k => Nat.le_trans (nth_len _ _ k) (by omega)
    refine ⟨fun h3 => ⟨?_, ?_, fun h4 => ?_, fun h4 => ⟨fun h5 => ?_, fun h5 => ⟨?_, i + 1, ?_⟩⟩⟩, fun h3 => ⟨?_, fun h4 => ⟨fun h5 => ⟨fun h6 => ?_, fun h6 => ?_⟩, fun h5 => ?_⟩, fun h4 => ?_⟩⟩
    · (subst hL; subst hQ; simp only [L2, L3, std] at *; try simp only [sySet, syB, reduceCtorEq, forall_const, Int.reduceToNat, Int.reduceAdd, Int.reduceSub, Int.cast_ofNat_Int, Int.toNat_natCast, Nat.le_eq, Nat.sub_eq, ne_eq, implies_true, wadd, wsub, wmul, Nat.succ_eq_add_one] at *)
      omega
    · (subst hL; subst hQ; simp only [L2, L3, std] at *; try simp only [sySet, syB, reduceCtorEq, forall_const, Int.reduceToNat, Int.reduceAdd, Int.reduceSub, Int.cast_ofNat_Int, Int.toNat_natCast, Nat.le_eq, Nat.sub_eq, ne_eq, implies_true, wadd, wsub, wmul, Nat.succ_eq_add_one] at *)
      exact hpl i
    · (subst hL; subst hQ; simp only [L2, L3, std] at *; try simp only [sySet, syB, reduceCtorEq, forall_const, Int.reduceToNat, Int.reduceAdd, Int.reduceSub, Int.cast_ofNat_Int, Int.toNat_natCast, Nat.le_eq, Nat.sub_eq, ne_eq, implies_true, wadd, wsub, wmul, Nat.succ_eq_add_one] at *)
      exact sp_bad fun x => h4 (x.2.2.1 i (by omega)).1
    · (subst hL; subst hQ; simp only [L2, L3, std] at *; try simp only [sySet, syB, reduceCtorEq, forall_const, Int.reduceToNat, Int.reduceAdd, Int.reduceSub, Int.cast_ofNat_Int, Int.toNat_natCast, Nat.le_eq, Nat.sub_eq, ne_eq, implies_true, wadd, wsub, wmul, Nat.succ_eq_add_one] at *)
      have h5 : 255 < prtV s i := h5
      exact sp_bad fun x => by have := (x.2.2.1 i (by omega)).2; omega
    · (subst hL; subst hQ; simp only [L2, L3, std] at *; try simp only [sySet, syB, reduceCtorEq, forall_const, Int.reduceToNat, Int.reduceAdd, Int.reduceSub, Int.cast_ofNat_Int, Int.toNat_natCast, Nat.le_eq, Nat.sub_eq, ne_eq, implies_true, wadd, wsub, wmul, Nat.succ_eq_add_one] at *)
      omega
    · (cbv; try simp only [sat_need, sat_must, sat_ite, sat_done, sat_yes, sat_ex, sat_all, sat_sup, sat_and, sat_fail, true_and, and_true])
      (subst hL; subst hQ; simp only [L2, L3, std] at *; try simp only [sySet, syB, reduceCtorEq, forall_const, Int.reduceToNat, Int.reduceAdd, Int.reduceSub, Int.cast_ofNat_Int, Int.toNat_natCast, Nat.le_eq, Nat.sub_eq, ne_eq, implies_true, wadd, wsub, wmul, Nat.succ_eq_add_one] at *)
      have h4 : prtE s i = 0 := h4
      have h5 : prtV s i ≤ 255 := h5
      have h0 : 0 ≤ prtV s i := num_ge _
      have hm : wnV (nthS (splitS (cutA s [58]) [46]) i) % 256 = prtV s i := by
        show prtV s i % 256 = prtV s i
        omega
      rw [hm]
      have cell : ∀ k, (cond (nbeq i k) (prtV s i) (ipZ s i k)) = ipZ s (i + 1) k := by
        intro k
        by_cases hik : i = k
        · subst hik
          rw [beq_same, ipZ, ipZ, if_pos (show i < i + 1 by omega)]; rfl
        · rw [beq_no hik]
          show ipZ s i k = _
          rw [ipZ, ipZ]
          by_cases hlt : k < i
          · rw [if_pos hlt, if_pos (by omega)]
          · rw [if_neg hlt, if_neg (by omega)]
      have hi4 : i < 4 := by omega
      refine ⟨cell 3, cell 2, cell 1, cell 0, by omega, ⟨by omega, fun k hk => ?_⟩, by show 4 - (i + 1) + 1 ≤ 4 - i; omega⟩
      by_cases hki : k = i
      · rw [hki]; exact ⟨h4, h5⟩
      · exact hi.2 k (by omega)
    · (subst hL; subst hQ; simp only [L2, L3, std] at *; try simp only [sySet, syB, reduceCtorEq, forall_const, Int.reduceToNat, Int.reduceAdd, Int.reduceSub, Int.cast_ofNat_Int, Int.toNat_natCast, Nat.le_eq, Nat.sub_eq, ne_eq, implies_true, wadd, wsub, wmul, Nat.succ_eq_add_one] at *)
      show (cutB s [58]).length ≤ 1000000
      omega
    all_goals
      (subst hL; subst hQ; simp only [L2, L3, std] at *; try simp only [sySet, syB, reduceCtorEq, forall_const, Int.reduceToNat, Int.reduceAdd, Int.reduceSub, Int.cast_ofNat_Int, Int.toNat_natCast, Nat.le_eq, Nat.sub_eq, ne_eq, implies_true, wadd, wsub, wmul, Nat.succ_eq_add_one] at *)
      have hi4 : i = 4 := by have := hi.1; omega
      subst hi4
    · have hok : spOk s := ⟨h1, by show lenSt (hostS s) = 4; have h2 : ((lenSt (hostS s) : Nat) : Int) = 4 := h2; omega, hi.2, h4, h5, h6⟩
      have hE : spE s = 0 := if_pos hok
      refine ⟨pl_fit ?_, hE.symm⟩
      rw [spP, if_pos hE, show wnV (cutB s [58]) % 65536 = wnV (cutB s [58]) by omega]
      rfl
    · exact sp_bad fun x => by have := x.2.2.2.2.2; have h6 : 65535 < wnV (portS s) := h6; omega
    · exact sp_bad fun x => by have := x.2.2.2.2.1; have h5 : wnV (portS s) < 1 := h5; omega
    · exact sp_bad fun x => h4 x.2.2.2.1
end Sy
end Go.Proofs.YtcgikjfloloekaaGreatDoor
namespace Go.Proofs.YtcgikjfloloekaaGreatDoor
namespace Sy
open Go Go.RowKit
set_option maxRecDepth 100000
set_option linter.unusedSimpArgs false
set_option linter.unusedVariables false
end Sy
end Go.Proofs.YtcgikjfloloekaaGreatDoor
namespace Go.Proofs.YtcgikjfloloekaaGreatDoor
namespace Sy
open Go Go.RowKit
set_option maxRecDepth 100000
set_option linter.unusedSimpArgs false
set_option linter.unusedVariables false
theorem splitC_app {c : UInt8} : ∀ {u : List UInt8} {v : List UInt8}, (∀ x ∈ u, x ≠ c) → splitC c (u ++ c :: v) = u :: splitC c v
  | [], v, _ => by simp [splitC]
  | x :: u, v, h => by
    have ih := splitC_app (u := u) (v := v) (fun y hy => h y (by simp [hy]))
    rw [List.cons_append, splitC, if_neg (h x (by simp)), ih]
theorem splitC_one {c : UInt8} {u : List UInt8} (h : ∀ x ∈ u, x ≠ c) : splitC c u = [u] := splitC_no fun k hk => h c (List.mem_of_getElem? hk) rfl
theorem idx_of {s : List UInt8} {c : UInt8} {m : Nat} (h0 : ∀ k, k < m → s[k]? ≠ some c) (h : s[m]? = some c) : Lib.indexByte s c = m := by
  by_cases hn : Lib.indexByte s c < 0
  · exact absurd h (idx_no hn m)
  · obtain ⟨h1, h2, h3⟩ := idx_at hn
    rcases Nat.lt_trichotomy (Lib.indexByte s c).toNat m with hlt | heq | hgt
    · exact absurd h1 (h0 _ hlt)
    · omega
    · exact absurd h (h2 _ hgt)
theorem idx_app {u v : List UInt8} {c : UInt8} (h : ∀ x ∈ u, x ≠ c) : Lib.indexByte (u ++ c :: v) c = u.length := by
  refine idx_of (fun k hk => ?_) (by simp)
  rw [List.getElem?_append_left hk]
  intro e
  exact h c (List.mem_of_getElem? e) rfl
theorem cut_app {u v : List UInt8} (h : ∀ x ∈ u, x ≠ 58) : cutA (u ++ 58 :: v) [58] = u ∧ cutB (u ++ 58 :: v) [58] = v ∧ cutY (u ++ 58 :: v) [58] = true := by
  have e : idxZ (u ++ 58 :: v) [58] = u.length := idx_app h
  rw [cutA, cutB, cutY, e, if_neg (by omega), if_neg (by omega)]
  refine ⟨by simp, by simp, by simp⟩
theorem isD_no {u : List UInt8} (h : u.all isD = true) (c : UInt8) (hc : isD c = false) : ∀ x ∈ u, x ≠ c := by
  intro x hx e
  subst e
  rw [List.all_eq_true.1 h x hx] at hc
  cases hc
theorem dig_no {n : Int} (c : UInt8) (hc : isD c = false) : ∀ x ∈ digZ n, x ≠ c := isD_no (dec_is n.toNat).1 c hc
def hostT (x : Pl) : List UInt8 := digZ x.a ++ 46 :: (digZ x.b ++ 46 :: (digZ x.c ++ 46 :: digZ x.d))
theorem text_is (x : Pl) : plT x = hostT x ++ 58 :: digZ x.p := by simp [plT, hostT]
theorem host_no (x : Pl) : ∀ y ∈ hostT x, y ≠ 58 := by
  have hd : isD 58 = false := by decide
  intro y hy
  simp only [hostT, List.mem_append, List.mem_cons] at hy
  rcases hy with h | rfl | h | rfl | h | rfl | h
  · exact dig_no 58 hd y h
  · decide
  · exact dig_no 58 hd y h
  · decide
  · exact dig_no 58 hd y h
  · decide
  · exact dig_no 58 hd y h
theorem host_parts (x : Pl) : splitS (hostT x) [46] = [digZ x.a, digZ x.b, digZ x.c, digZ x.d] := by
  have hd : isD 46 = false := by decide
  show splitC 46 (hostT x) = _
  rw [hostT, splitC_app (dig_no 46 hd), splitC_app (dig_no 46 hd), splitC_app (dig_no 46 hd), splitC_one (dig_no 46 hd)]
theorem u8_in {n : Int} (h : 0 ≤ n ∧ n ≤ 255) : u64In n := ⟨h.1, by omega⟩
theorem sp_text {x : Pl} (h : plOk x) : (1 ≤ x.p → spE (plT x) = 0 ∧ spP (plT x) = x) ∧ (x.p = 0 → spE (plT x) = 4) := by
  obtain ⟨c1, c2, c3⟩ := cut_app (u := hostT x) (v := digZ x.p) (host_no x)
  rw [← text_is] at c1 c2 c3
  obtain ⟨ha, hb, hc, hd, hp⟩ := h
  have hh : hostS (plT x) = [digZ x.a, digZ x.b, digZ x.c, digZ x.d] := by rw [hostS, c1, host_parts]
  have na := num_of_dig (u8_in ha)
  have nb := num_of_dig (u8_in hb)
  have nc := num_of_dig (u8_in hc)
  have nd := num_of_dig (u8_in hd)
  have np := num_of_dig (n := x.p) ⟨hp.1, by omega⟩
  have hport : portS (plT x) = digZ x.p := c2
  have v0 : prtV (plT x) 0 = x.a := by rw [prtV, hh]; exact na.2
  have v1 : prtV (plT x) 1 = x.b := by rw [prtV, hh]; exact nb.2
  have v2 : prtV (plT x) 2 = x.c := by rw [prtV, hh]; exact nc.2
  have v3 : prtV (plT x) 3 = x.d := by rw [prtV, hh]; exact nd.2
  have e0 : prtE (plT x) 0 = 0 := by rw [prtE, hh]; exact na.1
  have e1 : prtE (plT x) 1 = 0 := by rw [prtE, hh]; exact nb.1
  have e2 : prtE (plT x) 2 = 0 := by rw [prtE, hh]; exact nc.1
  have e3 : prtE (plT x) 3 = 0 := by rw [prtE, hh]; exact nd.1
  refine ⟨fun h1 => ?_, fun h0 => if_neg fun hk => ?_⟩
  · have hok : spOk (plT x) := by
      refine ⟨c3, by rw [hh]; rfl, fun k hk => ?_, by rw [hport]; exact np.1, by rw [hport, np.2]; exact h1, by rw [hport, np.2]; exact hp.2⟩
      match k, hk with
      | 0, _ => exact ⟨e0, by rw [v0]; exact ha.2⟩
      | 1, _ => exact ⟨e1, by rw [v1]; exact hb.2⟩
      | 2, _ => exact ⟨e2, by rw [v2]; exact hc.2⟩
      | 3, _ => exact ⟨e3, by rw [v3]; exact hd.2⟩
    have hE : spE (plT x) = 0 := if_pos hok
    refine ⟨hE, ?_⟩
    rw [spP, if_pos hE, v0, v1, v2, v3, hport, np.2]
  · have := hk.2.2.2.2.1
    rw [hport, np.2, h0] at this
    omega
end Sy
end Go.Proofs.YtcgikjfloloekaaGreatDoor
namespace Go.Proofs.YtcgikjfloloekaaGreatDoor
namespace Sy
open Go Go.RowKit
set_option maxRecDepth 100000
set_option linter.unusedSimpArgs false
set_option linter.unusedVariables false
theorem awT : plT ⟨127, 0, 0, 1, 80⟩ = [49, 50, 55, 46, 48, 46, 48, 46, 49, 58, 56, 48] := by
  have d1 := (dig_of_num (s := [49, 50, 55]) (by decide)).1
  have d2 := (dig_of_num (s := [48]) (by decide)).1
  have d3 := (dig_of_num (s := [49]) (by decide)).1
  have d4 := (dig_of_num (s := [56, 48]) (by decide)).1
  rw [show wnV [49, 50, 55] = 127 by decide] at d1
  rw [show wnV [48] = 0 by decide] at d2
  rw [show wnV [49] = 1 by decide] at d3
  rw [show wnV [56, 48] = 80 by decide] at d4
  rw [plT, d1, d2, d3, d4]; rfl
theorem awO : plOk ⟨127, 0, 0, 1, 80⟩ := ⟨⟨by decide, by decide⟩, ⟨by decide, by decide⟩, ⟨by decide, by decide⟩, ⟨by decide, by decide⟩, by decide, by decide⟩
theorem awake04_ac : ACalls Tryz.prog 112 [] (.bool true) := by
  refine acalls_L (T := tt) (S := fun L => sumOf [tru 124, par_s L, ptext_s L]) (lo := noA) (lb := noA) 5 (fn := Tryz.f112) rfl rfl (by kernel_rfl) (by kernel_rfl) rfl tt_ok (sumOf_ok ⟨tru_good Awake01_ac, par_good, ptext_good, trivial⟩) (by kernel_rfl) ?_
  have e := (sp_text awO).1 (by decide)
  rw [awT] at e
  (intro L P1 Q1 hL hP hQ; cbv; subst hL; simp only [L2, L3, std, sat_need, sat_must, sat_ite, sat_done, sat_yes, sat_ex, sat_all, sat_sup, sat_and, sat_fail]; subst hQ)
  (simp only [sySet, syB, reduceCtorEq, forall_const, Int.reduceToNat, Int.reduceAdd, Int.reduceSub, Int.cast_ofNat_Int, Int.toNat_natCast, Nat.le_eq, Nat.sub_eq, ne_eq, implies_true, wadd, wsub, wmul, Nat.succ_eq_add_one])
  simp only [e.1, e.2]
  exact ⟨(by decide : (12 : Nat) ≤ 1000000), fun _ => ⟨fun _ => ⟨by omega, fun _ => ⟨awO, awT⟩, rfl⟩, trivial⟩, trivial⟩
theorem Awake04_ac : ACalls Tryz.prog 79 [] (.bool true) := by
  refine acalls_L (T := tt) (S := fun L => sumOf [tru 112]) (lo := noA) (lb := noA) 5 (fn := Tryz.f79) rfl rfl (by kernel_rfl) (by kernel_rfl) rfl tt_ok (sumOf_ok ⟨tru_good awake04_ac, trivial⟩) (by kernel_rfl) ?_
  (intro L P1 Q1 hL hP hQ; cbv; subst hL; simp only [L2, L3, std, sat_need, sat_must, sat_ite, sat_done, sat_yes, sat_ex, sat_all, sat_sup, sat_and, sat_fail]; subst hQ)
  (simp only [sySet, syB, reduceCtorEq, forall_const, Int.reduceToNat, Int.reduceAdd, Int.reduceSub, Int.cast_ofNat_Int, Int.toNat_natCast, Nat.le_eq, Nat.sub_eq, ne_eq, implies_true, wadd, wsub, wmul, Nat.succ_eq_add_one])
end Sy
end Go.Proofs.YtcgikjfloloekaaGreatDoor
namespace Go.Proofs.YtcgikjfloloekaaGreatDoor
namespace Sy
open Go Go.RowKit
set_option maxRecDepth 100000
set_option linter.unusedSimpArgs false
set_option linter.unusedVariables false
structure Vw (α : Type) where
  sz : Nat
  cell : Seal → α → Nat → AV
  rd : (Nat → AV) → α
  ok : (Nat → AV) → Prop
  d : α
structure VwOk {α : Type} (V : Vw α) : Prop where
  turn : ∀ c, V.ok c → ∀ j, j < V.sz → ∀ (h : Array Obj) (D : Nat → Prop) (μ : Mu) (v : Value), R h D μ (c j) v → R h D μ (V.cell std (V.rd c) j) v
  back : ∀ c x, (∀ j, j < V.sz → c j = V.cell std x j) → V.ok c ∧ V.rd c = x
def nthW {α : Type} (V : Vw α) (l : List α) (i : Nat) : α := l.getD i V.d
def lenW {α : Type} (l : List α) : Nat := l.length
def getW {α : Type} (L : Seal) (V : Vw α) (l : List α) : Nat → Nat → AV := fun i j => V.cell L (L (L (nthW V) l) i) j
def lstW {α : Type} (L : Seal) (V : Vw α) (l : List α) : AV := .lst V.sz (L lenW l) (getW L V l)
def rdW {α : Type} (V : Vw α) : AV → List α
  | .lst _ n get => (List.range n).map fun i => V.rd (get i)
  | _ => []
def okW {α : Type} (V : Vw α) : AV → Prop
  | .lst sz n get => sz = V.sz ∧ ∀ i, i < n → V.ok (get i)
  | .nils => True
  | _ => False
theorem nthW_at {α : Type} {V : Vw α} {l : List α} {i : Nat} (h : i < l.length) : nthW V l i = l[i] := by
  rw [nthW, List.getD_eq_getElem?_getD, List.getElem?_eq_getElem h]; rfl
theorem rdW_len {α : Type} (V : Vw α) (sz n : Nat) (get : Nat → Nat → AV) : (rdW V (.lst sz n get)).length = n := by simp [rdW]
theorem rdW_at {α : Type} {V : Vw α} {sz n : Nat} {get : Nat → Nat → AV} {i : Nat} (h : i < n) : nthW V (rdW V (.lst sz n get)) i = V.rd (get i) := by
  rw [nthW_at (by rw [rdW_len]; exact h)]
  simp [rdW]
theorem okW_R {α : Type} {V : Vw α} (K : VwOk V) {h : Array Obj} {D : Nat → Prop} {μ : Mu} {x : AV} {v : Value} (ho : okW V x) (r : R h D μ x v) : R h D μ (lstW std V (rdW V x)) v := by
  match x, ho with
  | .nils, _ => cases r; exact .lst0 _ _ none 0 (fun _ => rfl)
  | .lst sz n get, ho =>
    obtain ⟨rfl, ho⟩ := ho
    have e : lstW std V (rdW V (.lst V.sz n get)) = .lst V.sz n (getW std V (rdW V (.lst V.sz n get))) := by
      show AV.lst V.sz (lenW (rdW V (.lst V.sz n get))) _ = _
      rw [show lenW (rdW V (.lst V.sz n get)) = n from rdW_len _ _ _ _]
    rw [e]
    cases r with
    | lst0 _ _ a cap hn => exact .lst0 _ _ a cap hn
    | lst _ _ _ b o cap vs hD hc hv h1 hr =>
      refine .lst _ _ _ b o cap vs hD hc hv h1 (fun i j hi hj => ?_)
      show R h D noMu (V.cell std (nthW V (rdW V (.lst V.sz n get)) i) j) (vs i j)
      rw [rdW_at hi]
      exact K.turn _ (ho i hi) j hj _ _ _ _ (hr i j hi hj)
theorem rdW_back {α : Type} {V : Vw α} (K : VwOk V) {n : Nat} {get : Nat → Nat → AV} {l : List α} (hn : n = l.length) (h : ∀ i j, i < n → j < V.sz → get i j = V.cell std (nthW V l i) j) : okW V (.lst V.sz n get) ∧ rdW V (.lst V.sz n get) = l := by
  subst hn
  refine ⟨⟨rfl, fun i hi => (K.back _ _ (fun j hj => h i j hi hj)).1⟩, ?_⟩
  apply List.ext_getElem
  · rw [rdW_len]
  · intro i h1 h2
    have := rdW_at (V := V) (sz := V.sz) (get := get) h2
    rw [nthW_at h1] at this
    rw [this, (K.back _ _ (fun j hj => h i j h2 hj)).2, nthW_at h2]
theorem rdW_lst {α : Type} {V : Vw α} (K : VwOk V) (l : List α) : okW V (lstW std V l) ∧ rdW V (lstW std V l) = l := rdW_back K rfl (fun i j hi hj => rfl)
theorem ac_w1 {α : Type} {V : Vw α} (K : VwOk V) {P : Program} {f : FuncId} {x r : AV} {xs : List AV} (ho : okW V x) (h : ACalls P f (lstW std V (rdW V x) :: xs) r) : ACalls P f (x :: xs) r :=
  ac_args (fun hp D vs hr => by
    refine ⟨by rw [← hr.1]; rfl, fun i z v hz hv => ?_⟩
    cases i with
    | zero => cases hz; exact okW_R K ho (hr.2 0 x v rfl hv)
    | succ i => exact hr.2 (i + 1) z v hz hv) h
def rdSt (x : AV) : List UInt8 := match x with | .str s => s | _ => []
def isS (x : AV) : Prop := ∃ s, x = .str s
def isI (k : IntKind) (x : AV) : Prop := ∃ n, x = .int k n
theorem isS_R {x : AV} (h : isS x) {hp : Array Obj} {D : Nat → Prop} {μ : Mu} {v : Value} (r : R hp D μ x v) : R hp D μ (.str (rdSt x)) v := by obtain ⟨s, rfl⟩ := h; exact r
theorem isI_R {k : IntKind} {x : AV} (h : isI k x) {hp : Array Obj} {D : Nat → Prop} {μ : Mu} {v : Value} (r : R hp D μ x v) : R hp D μ (.int k x.toI) v := by obtain ⟨s, rfl⟩ := h; exact r
def idxW {α : Type} (p : α → Bool) : List α → Int
  | [] => -1
  | x :: l => if p x = true then 0 else if idxW p l < 0 then -1 else idxW p l + 1
theorem idxW_any {α : Type} (p : α → Bool) : ∀ l : List α, decide (0 ≤ idxW p l) = l.any p
  | [] => by simp [idxW]
  | x :: l => by
    have ih := idxW_any p l
    unfold idxW
    by_cases h : p x = true
    · simp [h]
    · have h' : p x = false := by simpa using h
      rw [if_neg h, List.any_cons, h', Bool.false_or, ← ih]
      split
      · rename_i h2; rw [decide_eq_false (by omega), decide_eq_false (by omega)]
      · rename_i h2; rw [decide_eq_true (by omega), decide_eq_true (by omega)]
theorem idxW_at {α : Type} {p : α → Bool} : ∀ {l : List α} {i : Nat} (hi : i < l.length), (∀ k (hk : k < i), p (l[k]'(by omega)) = false) → p l[i] = true → idxW p l = i
  | [], i, hi, _, _ => by simp at hi
  | x :: l, 0, hi, _, h => by simp at h; simp [idxW, h]
  | x :: l, i + 1, hi, h0, h => by
    have hx : p x = false := by simpa using h0 0 (by omega)
    have ih := idxW_at (p := p) (l := l) (i := i) (by simpa using hi) (fun k hk => by have := h0 (k + 1) (by omega); simpa using this) (by simpa using h)
    rw [idxW, if_neg (by rw [hx]; decide), if_neg (by omega), ih]; simp
theorem idxW_no {α : Type} {p : α → Bool} : ∀ {l : List α}, (∀ x ∈ l, p x = false) → idxW p l = -1
  | [], _ => rfl
  | x :: l, h => by
    have hx := h x (by simp)
    have ih := idxW_no (p := p) (l := l) (fun y hy => h y (by simp [hy]))
    rw [idxW, if_neg (by rw [hx]; decide), if_pos (by omega)]
def noneW {α : Type} (p : α → Bool) (l : List α) (i : Nat) : Prop := i ≤ l.length ∧ ∀ x ∈ l.take i, p x = false
theorem noneW_0 {α : Type} (p : α → Bool) (l : List α) : noneW p l 0 := ⟨Nat.zero_le _, fun x hx => by simp at hx⟩
theorem noneW_step {α : Type} {V : Vw α} {p : α → Bool} {l : List α} {i : Nat} (h : noneW p l i) (hi : i < l.length) (hp : p (nthW V l i) = false) : noneW p l (i + 1) := by
  refine ⟨hi, fun x hx => ?_⟩
  rw [List.take_succ_eq_append_getElem hi, List.mem_append] at hx
  rcases hx with hx | hx
  · exact h.2 x hx
  · rw [List.mem_singleton.1 hx, ← nthW_at (V := V) hi]; exact hp
theorem noneW_yes {α : Type} {V : Vw α} {p : α → Bool} {l : List α} {i : Nat} (h : noneW p l i) (hi : i < l.length) (hp : p (nthW V l i) = true) : idxW p l = i := by
  rw [nthW_at hi] at hp
  refine idxW_at hi (fun k hk => h.2 _ ?_) hp
  rw [List.mem_take_iff_getElem]
  exact ⟨k, by omega, rfl⟩
theorem noneW_end {α : Type} {p : α → Bool} {l : List α} {i : Nat} (h : noneW p l i) (hi : ¬ i < l.length) : idxW p l = -1 := by
  have := h.2
  rw [List.take_of_length_le (by omega)] at this
  exact idxW_no this
end Sy
end Go.Proofs.YtcgikjfloloekaaGreatDoor
namespace Go.Proofs.YtcgikjfloloekaaGreatDoor
namespace Sy
open Go Go.RowKit
set_option maxRecDepth 100000
set_option linter.unusedSimpArgs false
set_option linter.unusedVariables false
def okG {α : Type} (V : Vw α) : AV → Prop
  | .agg cs => cs.length = V.sz ∧ V.ok (fun j => lget .dead cs j)
  | _ => False
def rdG {α : Type} (V : Vw α) : AV → α
  | .agg cs => V.rd (fun j => lget .dead cs j)
  | _ => V.d
theorem lget_is (cs : List AV) (j : Nat) : lget .dead cs j = (cs[j]?).getD .dead := by
  induction cs generalizing j with
  | nil => cases j <;> rfl
  | cons x l ih => cases j with
    | zero => rfl
    | succ j => exact ih j
theorem gK {α : Type} {V : Vw α} (K : VwOk V) (x : α) (cs : List AV) (h : cs = (List.range V.sz).map (V.cell std x)) : okG V (.agg cs) ∧ rdG V (.agg cs) = x := by
  have h1 : ∀ j, j < V.sz → lget .dead cs j = V.cell std x j := fun j hj => by rw [lget_is, h]; simp [hj]
  have h2 := K.back _ x h1
  exact ⟨⟨by simp [h], h2.1⟩, h2.2⟩
theorem G_R {α : Type} {V : Vw α} (K : VwOk V) {x : AV} (ho : okG V x) {h : Array Obj} {D : Nat → Prop} {μ : Mu} {v : Value} (r : R h D μ x v) : R h D μ (.agg ((List.range V.sz).map (V.cell std (rdG V x)))) v := by
  match x, ho with
  | .agg cs, ho =>
    obtain ⟨us, rfl, o1, s1, hr⟩ := r.inv_agg
    refine .agg _ _ (by rw [← s1]; simp [ho.1]) o1 fun i y w hy hw => ?_
    have hi : i < V.sz := by
      have := (List.getElem?_eq_some_iff.1 hy).1
      simpa using this
    simp [hi] at hy
    subst hy
    have hc : cs[i]? = some (lget .dead cs i) := by
      rw [lget_is, List.getElem?_eq_getElem (by rw [ho.1]; exact hi)]; rfl
    exact K.turn _ ho.2 i hi _ _ _ _ (hr i _ w hc hw)
theorem ac_g {α : Type} {V : Vw α} (K : VwOk V) {P : Program} {f : FuncId} {x r : AV} {q : List AV} (ho : okG V x) (h : ACalls P f (.agg ((List.range V.sz).map (V.cell std (rdG V x))) :: q) r) : ACalls P f (x :: q) r :=
  ac_args' (fun h D vs hr => rl_1 (fun v => G_R K ho) hr) h
structure Rt where
  h : List UInt8
  p : List UInt8
  c : List UInt8
  i : Int
  deriving DecidableEq
structure Ep where
  pl : Pl
  w : Int
  deriving DecidableEq
structure Ls where
  n : List UInt8
  pl : Pl
  rs : List Rt
  deriving DecidableEq
structure Cl where
  n : List UInt8
  es : List Ep
  deriving DecidableEq
structure Cf where
  v : Int
  ls : List Ls
  cs : List Cl
  deriving DecidableEq
def plC (L : Seal) (x : Pl) : Nat → AV
  | 0 => .int .u8 (L Pl.a x)
  | 1 => .int .u8 (L Pl.b x)
  | 2 => .int .u8 (L Pl.c x)
  | 3 => .int .u8 (L Pl.d x)
  | _ => .int .u16 (L Pl.p x)
def rdP (c : Nat → AV) : Pl := ⟨(c 0).toI, (c 1).toI, (c 2).toI, (c 3).toI, (c 4).toI⟩
def okP5 (c : Nat → AV) : Prop := isI .u8 (c 0) ∧ isI .u8 (c 1) ∧ isI .u8 (c 2) ∧ isI .u8 (c 3) ∧ isI .u16 (c 4)
def rtC (L : Seal) (x : Rt) : Nat → AV
  | 0 => .str (L Rt.h x)
  | 1 => .str (L Rt.p x)
  | 2 => .str (L Rt.c x)
  | _ => .int .u64 (L Rt.i x)
def rtV : Vw Rt := ⟨4, rtC, fun c => ⟨rdSt (c 0), rdSt (c 1), rdSt (c 2), (c 3).toI⟩, fun c => isS (c 0) ∧ isS (c 1) ∧ isS (c 2) ∧ isI .u64 (c 3), ⟨[], [], [], 0⟩⟩
def nthRt (l : List Rt) (i : Nat) : Rt := nthW rtV l i
def lstRt (L : Seal) (l : List Rt) : AV := .lst 4 (L lenW l) (fun i => rtC L (L (L nthRt l) i))
def okWRt (x : AV) : Prop := okW rtV x
def rdWRt (x : AV) : List Rt := rdW rtV x
def okGRt (x : AV) : Prop := okG rtV x
def rdGRt (x : AV) : Rt := rdG rtV x
def epC (L : Seal) (x : Ep) : Nat → AV
  | 5 => .int .i64 (L Ep.w x)
  | j => plC L (L Ep.pl x) j
def epV : Vw Ep := ⟨6, epC, fun c => ⟨rdP c, (c 5).toI⟩, fun c => okP5 c ∧ isI .i64 (c 5), ⟨⟨0, 0, 0, 0, 0⟩, 0⟩⟩
def nthEp (l : List Ep) (i : Nat) : Ep := nthW epV l i
def lstEp (L : Seal) (l : List Ep) : AV := .lst 6 (L lenW l) (fun i => epC L (L (L nthEp l) i))
def okWEp (x : AV) : Prop := okW epV x
def rdWEp (x : AV) : List Ep := rdW epV x
def okGEp (x : AV) : Prop := okG epV x
def rdGEp (x : AV) : Ep := rdG epV x
def lsC (L : Seal) (x : Ls) : Nat → AV
  | 0 => .str (L Ls.n x)
  | 6 => lstRt L (L Ls.rs x)
  | j + 1 => plC L (L Ls.pl x) j
def lsV : Vw Ls := ⟨7, lsC, fun c => ⟨rdSt (c 0), rdP (fun j => c (j + 1)), rdW rtV (c 6)⟩, fun c => isS (c 0) ∧ okP5 (fun j => c (j + 1)) ∧ okW rtV (c 6), ⟨[], ⟨0, 0, 0, 0, 0⟩, []⟩⟩
def nthLs (l : List Ls) (i : Nat) : Ls := nthW lsV l i
def lstLs (L : Seal) (l : List Ls) : AV := .lst 7 (L lenW l) (fun i => lsC L (L (L nthLs l) i))
def okWLs (x : AV) : Prop := okW lsV x
def rdWLs (x : AV) : List Ls := rdW lsV x
def okGLs (x : AV) : Prop := okG lsV x
def rdGLs (x : AV) : Ls := rdG lsV x
def clC (L : Seal) (x : Cl) : Nat → AV
  | 0 => .str (L Cl.n x)
  | _ => lstEp L (L Cl.es x)
def clV : Vw Cl := ⟨2, clC, fun c => ⟨rdSt (c 0), rdW epV (c 1)⟩, fun c => isS (c 0) ∧ okW epV (c 1), ⟨[], []⟩⟩
def nthCl (l : List Cl) (i : Nat) : Cl := nthW clV l i
def lstCl (L : Seal) (l : List Cl) : AV := .lst 2 (L lenW l) (fun i => clC L (L (L nthCl l) i))
def okWCl (x : AV) : Prop := okW clV x
def rdWCl (x : AV) : List Cl := rdW clV x
def okGCl (x : AV) : Prop := okG clV x
def rdGCl (x : AV) : Cl := rdG clV x
def cfC (L : Seal) (x : Cf) : Nat → AV
  | 0 => .int .u64 (L Cf.v x)
  | 1 => lstLs L (L Cf.ls x)
  | _ => lstCl L (L Cf.cs x)
def cfV : Vw Cf := ⟨3, cfC, fun c => ⟨(c 0).toI, rdW lsV (c 1), rdW clV (c 2)⟩, fun c => isI .u64 (c 0) ∧ okW lsV (c 1) ∧ okW clV (c 2), ⟨0, [], []⟩⟩
def okGCf (x : AV) : Prop := okG cfV x
def rdGCf (x : AV) : Cf := rdG cfV x
theorem rtV_ok : VwOk rtV := by
  refine ⟨fun c hc j hj h D μ v r => ?_, fun c x hx => ?_⟩
  · obtain ⟨h0, h1, h2, h3⟩ := hc
    match j, hj with
    | 0, _ => exact isS_R h0 r
    | 1, _ => exact isS_R h1 r
    | 2, _ => exact isS_R h2 r
    | 3, _ => exact isI_R h3 r
  · have e0 := hx 0 (by decide)
    have e1 := hx 1 (by decide)
    have e2 := hx 2 (by decide)
    have e3 := hx 3 (by decide)
    refine ⟨⟨⟨_, e0⟩, ⟨_, e1⟩, ⟨_, e2⟩, ⟨_, e3⟩⟩, ?_⟩
    show Rt.mk (rdSt (c 0)) (rdSt (c 1)) (rdSt (c 2)) (c 3).toI = x
    rw [e0, e1, e2, e3]; rfl
theorem pl_turn {c : Nat → AV} (hc : okP5 c) {j : Nat} (hj : j < 5) {h : Array Obj} {D : Nat → Prop} {μ : Mu} {v : Value} (r : R h D μ (c j) v) : R h D μ (plC std (rdP c) j) v := by
  obtain ⟨h0, h1, h2, h3, h4⟩ := hc
  match j, hj with
  | 0, _ => exact isI_R h0 r
  | 1, _ => exact isI_R h1 r
  | 2, _ => exact isI_R h2 r
  | 3, _ => exact isI_R h3 r
  | 4, _ => exact isI_R h4 r
theorem pl_back {c : Nat → AV} {x : Pl} (hx : ∀ j, j < 5 → c j = plC std x j) : okP5 c ∧ rdP c = x := by
  have e0 := hx 0 (by decide)
  have e1 := hx 1 (by decide)
  have e2 := hx 2 (by decide)
  have e3 := hx 3 (by decide)
  have e4 := hx 4 (by decide)
  refine ⟨⟨⟨_, e0⟩, ⟨_, e1⟩, ⟨_, e2⟩, ⟨_, e3⟩, ⟨_, e4⟩⟩, ?_⟩
  unfold rdP
  rw [e0, e1, e2, e3, e4]; rfl
theorem epV_ok : VwOk epV := by
  refine ⟨fun c hc j hj h D μ v r => ?_, fun c x hx => ?_⟩
  · obtain ⟨h0, h1⟩ := hc
    match j, hj with
    | 0, _ => exact pl_turn h0 (by omega) r
    | 1, _ => exact pl_turn h0 (by omega) r
    | 2, _ => exact pl_turn h0 (by omega) r
    | 3, _ => exact pl_turn h0 (by omega) r
    | 4, _ => exact pl_turn h0 (by omega) r
    | 5, _ => exact isI_R h1 r
  · have e5 := hx 5 (by decide)
    have hp := pl_back (c := c) (x := x.pl) (fun j hj => by
      match j, hj with
      | 0, _ => exact hx 0 (by decide)
      | 1, _ => exact hx 1 (by decide)
      | 2, _ => exact hx 2 (by decide)
      | 3, _ => exact hx 3 (by decide)
      | 4, _ => exact hx 4 (by decide))
    refine ⟨⟨hp.1, ⟨_, e5⟩⟩, ?_⟩
    show Ep.mk (rdP c) (c 5).toI = x
    rw [hp.2, e5]; rfl
theorem lsV_ok : VwOk lsV := by
  refine ⟨fun c hc j hj h D μ v r => ?_, fun c x hx => ?_⟩
  · obtain ⟨h0, h1, h2⟩ := hc
    match j, hj with
    | 0, _ => exact isS_R h0 r
    | 1, _ => exact pl_turn (c := fun j => c (j + 1)) h1 (j := 0) (by omega) r
    | 2, _ => exact pl_turn (c := fun j => c (j + 1)) h1 (j := 1) (by omega) r
    | 3, _ => exact pl_turn (c := fun j => c (j + 1)) h1 (j := 2) (by omega) r
    | 4, _ => exact pl_turn (c := fun j => c (j + 1)) h1 (j := 3) (by omega) r
    | 5, _ => exact pl_turn (c := fun j => c (j + 1)) h1 (j := 4) (by omega) r
    | 6, _ => exact okW_R rtV_ok h2 r
  · have e0 := hx 0 (by decide)
    have e6 := hx 6 (by decide)
    have hp := pl_back (c := fun j => c (j + 1)) (x := x.pl) (fun j hj => by
      match j, hj with
      | 0, _ => exact hx 1 (by decide)
      | 1, _ => exact hx 2 (by decide)
      | 2, _ => exact hx 3 (by decide)
      | 3, _ => exact hx 4 (by decide)
      | 4, _ => exact hx 5 (by decide))
    have e6 : c 6 = lstW std rtV x.rs := e6
    obtain ⟨k1, k2⟩ := rdW_lst rtV_ok x.rs
    rw [← e6] at k1 k2
    refine ⟨⟨⟨_, e0⟩, hp.1, k1⟩, ?_⟩
    show Ls.mk (rdSt (c 0)) (rdP fun j => c (j + 1)) (rdW rtV (c 6)) = x
    rw [hp.2, k2, e0]; rfl
theorem clV_ok : VwOk clV := by
  refine ⟨fun c hc j hj h D μ v r => ?_, fun c x hx => ?_⟩
  · obtain ⟨h0, h1⟩ := hc
    match j, hj with
    | 0, _ => exact isS_R h0 r
    | 1, _ => exact okW_R epV_ok h1 r
  · have e0 := hx 0 (by decide)
    have e1 : c 1 = lstW std epV x.es := hx 1 (by decide)
    obtain ⟨k1, k2⟩ := rdW_lst epV_ok x.es
    rw [← e1] at k1 k2
    refine ⟨⟨⟨_, e0⟩, k1⟩, ?_⟩
    show Cl.mk (rdSt (c 0)) (rdW epV (c 1)) = x
    rw [k2, e0]; rfl
theorem cfV_ok : VwOk cfV := by
  refine ⟨fun c hc j hj h D μ v r => ?_, fun c x hx => ?_⟩
  · obtain ⟨h0, h1, h2⟩ := hc
    match j, hj with
    | 0, _ => exact isI_R h0 r
    | 1, _ => exact okW_R lsV_ok h1 r
    | 2, _ => exact okW_R clV_ok h2 r
  · have e0 := hx 0 (by decide)
    have e1 : c 1 = lstW std lsV x.ls := hx 1 (by decide)
    have e2 : c 2 = lstW std clV x.cs := hx 2 (by decide)
    obtain ⟨k1, k2⟩ := rdW_lst lsV_ok x.ls
    obtain ⟨k3, k4⟩ := rdW_lst clV_ok x.cs
    rw [← e1] at k1 k2
    rw [← e2] at k3 k4
    refine ⟨⟨⟨_, e0⟩, k1, k3⟩, ?_⟩
    show Cf.mk (c 0).toI (rdW lsV (c 1)) (rdW clV (c 2)) = x
    rw [k2, k4, e0]; rfl
end Sy
end Go.Proofs.YtcgikjfloloekaaGreatDoor
namespace Go.Proofs.YtcgikjfloloekaaGreatDoor
namespace Sy
open Go Go.RowKit
set_option maxRecDepth 100000
set_option linter.unusedSimpArgs false
set_option linter.unusedVariables false
def valS {α : Type} (f : Nat) (ok : AV → Prop) (rd : AV → α) (pre : α → Prop) (val : α → CV) (L : Seal) : Ent1 := (f, fun xs => match xs with
  | [x] => some (L ok x ∧ L pre (L rd x), cvA L (L val (L rd x)))
  | _ => none)
def lenE {α : Type} (l : List α) : Prop := l.length ≤ 1000000
def allE {α : Type} (p : α → Prop) (l : List α) : Prop := ∀ x ∈ l, p x
def eachV {α : Type} (val : α → CV) (l : List α) : CV := rowV (l.map val)
def eachS {α : Type} (f g : Nat) (ok : AV → Prop) (rd : AV → List α) (pre : List α → Prop) (val : List α → CV) (L : Seal) : Ent1 := (f, fun xs => match xs with
  | [x, .fn k [] []] => match nbeq k g with
    | true => some (L ok x ∧ L lenE (L rd x) ∧ L pre (L rd x), cvA L (L val (L rd x)))
    | false => none
  | _ => none)
def eachA {α : Type} (L : Seal) (nth : List α → Nat → α) (val : α → CV) (l : List α) : Nat → St → Option Ann := fun id st => match id with
  | 0 => some ⟨Nat, fun i => [(10, .int .i64 (L natI i)), (4, .ref 4 0), (5, .sl 900 4 0 i)], fun i => [(900, .row 89 4 i (fun q j => cv1 L (L val (L (L nth l) q)) j)), (4, .box 89 [.dead, .dead, .dead, .dead])], [0, 1, 8, 9], [],
      fun i => L2 L (fun (l : List α) i => i ≤ l.length) l i, fun i => L2 L (fun (l : List α) (i : Nat) => l.length - i) l i⟩
  | _ => none
theorem nthV_map {α : Type} {V : Vw α} (val : α → CV) {l : List α} {i : Nat} (h : i < l.length) : nthV (l.map val) i = val (nthW V l i) := by
  rw [nthW_at h, nthV, List.getD_eq_getElem?_getD, List.getElem?_eq_getElem (by simpa using h)]; simp
theorem each_end {α : Type} {V : Vw α} {val : α → CV} {l : List α} {n : Nat} (h : n = l.length) :
    rdL (.lst 4 n fun q j => cv1 std (val (nthW V l q)) j) = l.map val ∧ okL (.lst 4 n fun q j => cv1 std (val (nthW V l q)) j) :=
  rd_cells (by simpa using h) fun i j hi hj => by rw [cv1_std _ _ hj, nthV_map (V := V) val (by omega)]
def rtVal (x : Rt) : CV := rowV [txtV x.h, txtV x.p, txtV x.c, numV x.i]
def epVal (x : Ep) : CV := rowV [txtV (plB x.pl), numV (x.w % 18446744073709551616)]
def rtPre (x : Rt) : Prop := True
def epPre (x : Ep) : Prop := plOk x.pl
def rtsVal (l : List Rt) : CV := eachV rtVal l
def epsVal (l : List Ep) : CV := eachV epVal l
def rtsPre (l : List Rt) : Prop := allE rtPre l
def epsPre (l : List Ep) : Prop := allE epPre l
def cells4 : List CV → List AV
  | [] => []
  | v :: l => .int .i64 v.kd :: .int .u64 v.nn :: .str v.tx :: .lst 4 (lenV v) (cvIn v) :: cells4 l
theorem cells4_at : ∀ (l : List CV) (i j : Nat), i < l.length → j < 4 → lget .dead (cells4 l) (i * 4 + j) = cvCell (nthV l i) j
  | [], i, j, hi, _ => by simp at hi
  | v :: l, 0, j, _, hj => by
    match j, hj with
    | 0, _ => exact (cvCell_0 v).symm
    | 1, _ => exact (cvCell_1 v).symm
    | 2, _ => exact (cvCell_2 v).symm
    | 3, _ => exact (cvCell_3 v).symm
  | v :: l, i + 1, j, hi, hj => by
    rw [show (i + 1) * 4 + j = i * 4 + j + 4 by omega]
    exact cells4_at l i j (by simpa using hi) hj
theorem cells4_rd (l : List CV) {n : Nat} {cs : List AV} (hn : n = l.length) (h : cs = cells4 l) : rdL (.lst 4 n fun i j => lget .dead cs (i * 4 + j)) = l ∧ okL (.lst 4 n fun i j => lget .dead cs (i * 4 + j)) :=
  rd_cells hn fun i j hi hj => by rw [h]; exact cells4_at l i j (by omega) hj
theorem cv_fit {v w : CV} (h : v = w) : fits (cvA std v) (.agg [.int .i64 w.kd, .int .u64 w.nn, .str w.tx, .lst 4 (lenV w) (cvIn w)]) := by
  subst h
  show fits (.agg [.int .i64 v.kd, .int .u64 v.nn, .str v.tx, .lst 4 (lenV v) (cvIn v)]) _
  simp [fits_aggi, fits1_aggi, fits1_aggs, fits1_aggl, fits1_agg0]
theorem row_fit (l : List CV) {v : CV} {n : Nat} {cs : List AV} (hv : v = rowV l) (hn : n = l.length) (hl : l.length ≤ 4) (h : cs = cells4 l) :
    (okL (.lst 4 n fun i j => lget .dead cs (i * 4 + j)) ∧ lenOk (rdL (.lst 4 n fun i j => lget .dead cs (i * 4 + j)))) ∧
    ∀ {w : CV}, w = rowV (rdL (.lst 4 n fun i j => lget .dead cs (i * 4 + j))) → fits (cvA std v) (.agg [.int .i64 w.kd, .int .u64 w.nn, .str w.tx, .lst 4 (lenV w) (cvIn w)]) := by
  obtain ⟨k1, k2⟩ := cells4_rd l hn h
  refine ⟨⟨k2, ?_⟩, fun {w} hw => cv_fit ?_⟩
  · rw [k1]
    show l.length ≤ 1000000
    omega
  · rw [hw, k1, hv]
theorem route_good : Good Tryz.prog (valS 104 okGRt rdGRt rtPre rtVal std) := by
  intro xs p r h hp
  dsimp only [valS] at h ⊢
  split at h <;> cases h
  try simp only [L2, L3, std] at hp ⊢
  rename_i x
  refine ac_g rtV_ok hp.1 ?_
  have hp := hp.2
  show ACalls _ _ _ (cvA std (rtVal (rdG rtV x)))
  have hp : rtPre (rdG rtV x) := hp
  generalize rdG rtV x = y at hp ⊢
  refine acalls_L' (T := tt) (S := fun L => sumOf [txt_s L, num_s L, list_s L]) (lo := fun _ => noA std) (lb := noA) 5 (fn := Tryz.f104) (xs := fun L => [.agg [.str (L Rt.h y), .str (L Rt.p y), .str (L Rt.c y), .int .u64 (L Rt.i y)]]) rfl rfl (by kernel_rfl) (by kernel_rfl) rfl tt_ok (sumOf_ok ⟨txt_good, num_good, list_good, trivial⟩) (by kernel_rfl) ?_
  intro L P' Q' hL hP hQ
  (cbv; try simp only [sat_need, sat_must, sat_ite, sat_done, sat_yes, sat_ex, sat_all, sat_sup, sat_and, sat_fail, true_and, and_true])
  (subst hL; subst hQ; simp only [L2, L3, std] at *; try simp only [sySet, syB, reduceCtorEq, forall_const, Int.reduceToNat, Int.reduceAdd, Int.reduceSub, Int.cast_ofNat_Int, Int.toNat_natCast, Nat.le_eq, Nat.sub_eq, ne_eq, implies_true, wadd, wsub, wmul, Nat.succ_eq_add_one] at *)
  exact ⟨(row_fit [txtV y.h, txtV y.p, txtV y.c, numV y.i] (v := rtVal y) (n := 4) rfl rfl (Nat.le_of_ble_eq_true rfl) rfl).1, (row_fit [txtV y.h, txtV y.p, txtV y.c, numV y.i] (v := rtVal y) (n := 4) rfl rfl (Nat.le_of_ble_eq_true rfl) rfl).2 rfl⟩
theorem endpoint_good : Good Tryz.prog (valS 106 okGEp rdGEp epPre epVal std) := by
  intro xs p r h hp
  dsimp only [valS] at h ⊢
  split at h <;> cases h
  try simp only [L2, L3, std] at hp ⊢
  rename_i x
  refine ac_g epV_ok hp.1 ?_
  have hp := hp.2
  show ACalls _ _ _ (cvA std (epVal (rdG epV x)))
  have hp : epPre (rdG epV x) := hp
  generalize rdG epV x = y at hp ⊢
  refine acalls_L' (T := tt) (S := fun L => sumOf [txt_s L, num_s L, list_s L, bytes_s L]) (lo := fun _ => noA std) (lb := noA) 5 (fn := Tryz.f106) (xs := fun L => [.agg [.int .u8 (L Pl.a (L Ep.pl y)), .int .u8 (L Pl.b (L Ep.pl y)), .int .u8 (L Pl.c (L Ep.pl y)), .int .u8 (L Pl.d (L Ep.pl y)), .int .u16 (L Pl.p (L Ep.pl y)), .int .i64 (L Ep.w y)]]) rfl rfl (by kernel_rfl) (by kernel_rfl) rfl tt_ok (sumOf_ok ⟨txt_good, num_good, list_good, bytes_good, trivial⟩) (by kernel_rfl) ?_
  intro L P' Q' hL hP hQ
  (cbv; try simp only [sat_need, sat_must, sat_ite, sat_done, sat_yes, sat_ex, sat_all, sat_sup, sat_and, sat_fail, true_and, and_true])
  (subst hL; subst hQ; simp only [L2, L3, std] at *; try simp only [sySet, syB, reduceCtorEq, forall_const, Int.reduceToNat, Int.reduceAdd, Int.reduceSub, Int.cast_ofNat_Int, Int.toNat_natCast, Nat.le_eq, Nat.sub_eq, ne_eq, implies_true, wadd, wsub, wmul, Nat.succ_eq_add_one] at *)
  refine ⟨hp, (row_fit [txtV (plB y.pl), numV (y.w % 18446744073709551616)] (v := epVal y) (n := 2) rfl rfl (Nat.le_of_ble_eq_true rfl) rfl).1, (row_fit [txtV (plB y.pl), numV (y.w % 18446744073709551616)] (v := epVal y) (n := 2) rfl rfl (Nat.le_of_ble_eq_true rfl) rfl).2 rfl⟩
theorem eachRt_good (ih : Good Tryz.prog (valS 104 okGRt rdGRt rtPre rtVal std)) : Good Tryz.prog (eachS 103 104 okWRt rdWRt rtsPre rtsVal std) := by
  intro xs p r h hp
  unfold eachS at h
  simp only at h
  split at h
  rotate_left
  · cases h
  rename_i x k
  cases hk : nbeq k 104 with
  | false => rw [hk] at h; cases h
  | true =>
  rw [hk] at h
  obtain rfl : k = 104 := of_decide_eq_true hk
  cases h
  obtain ⟨ho, hz, ha⟩ := hp
  refine ac_w1 rtV_ok ho ?_
  have hz : lenE (rdW rtV x) := hz
  have ha : allE rtPre (rdW rtV x) := ha
  show ACalls _ _ _ (cvA std (eachV rtVal (rdW rtV x)))
  generalize rdW rtV x = l at hz ha ⊢
  refine acalls_L' (T := tt) (S := fun L => sumOf [valS 104 okGRt rdGRt rtPre rtVal L, list_s L]) (lo := fun L => eachA L nthRt rtVal l) (lb := noA) 5 (fn := Tryz.f103) (xs := fun L => [lstRt L l, .fn 104 [] []]) rfl rfl (by kernel_rfl) (by kernel_rfl) rfl tt_ok
    (sumOf_ok ⟨ih, list_good, trivial⟩) (by kernel_rfl) ?_
  intro L P' Q' hL hP hQ
  (cbv; try simp only [sat_need, sat_must, sat_ite, sat_done, sat_yes, sat_ex, sat_all, sat_sup, sat_and, sat_fail, true_and, and_true])
  refine ⟨⟨0, ?_⟩, fun i hi => ?_⟩
  · (cbv; try simp only [sat_need, sat_must, sat_ite, sat_done, sat_yes, sat_ex, sat_all, sat_sup, sat_and, sat_fail, true_and, and_true])
    (subst hL; subst hQ; simp only [L2, L3, std] at *; try simp only [sySet, syB, reduceCtorEq, forall_const, Int.reduceToNat, Int.reduceAdd, Int.reduceSub, Int.cast_ofNat_Int, Int.toNat_natCast, Nat.le_eq, Nat.sub_eq, ne_eq, implies_true, wadd, wsub, wmul, Nat.succ_eq_add_one] at *)
    exact Nat.zero_le _
  · cbv at hi
    have hG : ∀ y : Rt, L rdGRt (.agg [.str (L Rt.h y), .str (L Rt.p y), .str (L Rt.c y), .int .u64 (L Rt.i y)]) = y := by subst hL; exact fun y => (gK rtV_ok y _ rfl).2
    have hO : ∀ y : Rt, L okGRt (.agg [.str (L Rt.h y), .str (L Rt.p y), .str (L Rt.c y), .int .u64 (L Rt.i y)]) := by subst hL; exact fun y => (gK rtV_ok y _ rfl).1
    (cbv; try simp only [sat_need, sat_must, sat_ite, sat_done, sat_yes, sat_ex, sat_all, sat_sup, sat_and, sat_fail, true_and, and_true])
    simp only [hG, hO, true_and]
    refine ⟨fun hlt => ⟨?_, ?_, ?_, ⟨i + 1, ?_⟩⟩, fun hge => ?_⟩
    · (subst hL; subst hQ; simp only [L2, L3, std] at *; try simp only [sySet, syB, reduceCtorEq, forall_const, Int.reduceToNat, Int.reduceAdd, Int.reduceSub, Int.cast_ofNat_Int, Int.toNat_natCast, Nat.le_eq, Nat.sub_eq, ne_eq, implies_true, wadd, wsub, wmul, Nat.succ_eq_add_one] at *)
      omega
    · (subst hL; subst hQ; simp only [L2, L3, std] at *; try simp only [sySet, syB, reduceCtorEq, forall_const, Int.reduceToNat, Int.reduceAdd, Int.reduceSub, Int.cast_ofNat_Int, Int.toNat_natCast, Nat.le_eq, Nat.sub_eq, ne_eq, implies_true, wadd, wsub, wmul, Nat.succ_eq_add_one] at *)
      exact ha _ (by rw [nthRt, nthW_at (V := rtV) (by have : lenW l = l.length := rfl; omega)]; exact List.getElem_mem _)
    · (subst hL; subst hQ; simp only [L2, L3, std] at *; try simp only [sySet, syB, reduceCtorEq, forall_const, Int.reduceToNat, Int.reduceAdd, Int.reduceSub, Int.cast_ofNat_Int, Int.toNat_natCast, Nat.le_eq, Nat.sub_eq, ne_eq, implies_true, wadd, wsub, wmul, Nat.succ_eq_add_one] at *)
      have : lenW l = l.length := rfl
      have : l.length ≤ 1000000 := hz
      omega
    · (cbv; try simp only [sat_need, sat_must, sat_ite, sat_done, sat_yes, sat_ex, sat_all, sat_sup, sat_and, sat_fail, true_and, and_true])
      try simp only [hG]
      (subst hL; subst hQ; simp only [L2, L3, std] at *; try simp only [sySet, syB, reduceCtorEq, forall_const, Int.reduceToNat, Int.reduceAdd, Int.reduceSub, Int.cast_ofNat_Int, Int.toNat_natCast, Nat.le_eq, Nat.sub_eq, ne_eq, implies_true, wadd, wsub, wmul, Nat.succ_eq_add_one] at *)
      have : lenW l = l.length := rfl
      have : l.length ≤ 1000000 := hz
      exact ⟨fun q j hq hj => cv_push (fun q => rtVal (nthRt l q)) hq hj, by omega, by omega, by omega⟩
    · (subst hL; subst hQ; simp only [L2, L3, std] at *; try simp only [sySet, syB, reduceCtorEq, forall_const, Int.reduceToNat, Int.reduceAdd, Int.reduceSub, Int.cast_ofNat_Int, Int.toNat_natCast, Nat.le_eq, Nat.sub_eq, ne_eq, implies_true, wadd, wsub, wmul, Nat.succ_eq_add_one] at *)
      have : lenW l = l.length := rfl
      obtain ⟨k1, k2⟩ := each_end (V := rtV) (val := rtVal) (l := l) (n := i) (by omega)
      refine ⟨⟨k2, ?_⟩, cv_fit ?_⟩
      · show List.length _ ≤ 1000000
        have k1 : rdL (.lst 4 i fun q j => cv1 std (rtVal (nthRt l q)) j) = l.map rtVal := k1
        rw [k1, List.length_map]; exact hz
      · exact (congrArg rowV k1).symm
theorem eachEp_good (ih : Good Tryz.prog (valS 106 okGEp rdGEp epPre epVal std)) : Good Tryz.prog (eachS 105 106 okWEp rdWEp epsPre epsVal std) := by
  intro xs p r h hp
  unfold eachS at h
  simp only at h
  split at h
  rotate_left
  · cases h
  rename_i x k
  cases hk : nbeq k 106 with
  | false => rw [hk] at h; cases h
  | true =>
  rw [hk] at h
  obtain rfl : k = 106 := of_decide_eq_true hk
  cases h
  obtain ⟨ho, hz, ha⟩ := hp
  refine ac_w1 epV_ok ho ?_
  have hz : lenE (rdW epV x) := hz
  have ha : allE epPre (rdW epV x) := ha
  show ACalls _ _ _ (cvA std (eachV epVal (rdW epV x)))
  generalize rdW epV x = l at hz ha ⊢
  refine acalls_L' (T := tt) (S := fun L => sumOf [valS 106 okGEp rdGEp epPre epVal L, list_s L]) (lo := fun L => eachA L nthEp epVal l) (lb := noA) 5 (fn := Tryz.f105) (xs := fun L => [lstEp L l, .fn 106 [] []]) rfl rfl (by kernel_rfl) (by kernel_rfl) rfl tt_ok
    (sumOf_ok ⟨ih, list_good, trivial⟩) (by kernel_rfl) ?_
  intro L P' Q' hL hP hQ
  (cbv; try simp only [sat_need, sat_must, sat_ite, sat_done, sat_yes, sat_ex, sat_all, sat_sup, sat_and, sat_fail, true_and, and_true])
  refine ⟨⟨0, ?_⟩, fun i hi => ?_⟩
  · (cbv; try simp only [sat_need, sat_must, sat_ite, sat_done, sat_yes, sat_ex, sat_all, sat_sup, sat_and, sat_fail, true_and, and_true])
    (subst hL; subst hQ; simp only [L2, L3, std] at *; try simp only [sySet, syB, reduceCtorEq, forall_const, Int.reduceToNat, Int.reduceAdd, Int.reduceSub, Int.cast_ofNat_Int, Int.toNat_natCast, Nat.le_eq, Nat.sub_eq, ne_eq, implies_true, wadd, wsub, wmul, Nat.succ_eq_add_one] at *)
    exact Nat.zero_le _
  · cbv at hi
    have hG : ∀ y : Ep, L rdGEp (.agg [.int .u8 (L Pl.a (L Ep.pl y)), .int .u8 (L Pl.b (L Ep.pl y)), .int .u8 (L Pl.c (L Ep.pl y)), .int .u8 (L Pl.d (L Ep.pl y)), .int .u16 (L Pl.p (L Ep.pl y)), .int .i64 (L Ep.w y)]) = y := by subst hL; exact fun y => (gK epV_ok y _ rfl).2
    have hO : ∀ y : Ep, L okGEp (.agg [.int .u8 (L Pl.a (L Ep.pl y)), .int .u8 (L Pl.b (L Ep.pl y)), .int .u8 (L Pl.c (L Ep.pl y)), .int .u8 (L Pl.d (L Ep.pl y)), .int .u16 (L Pl.p (L Ep.pl y)), .int .i64 (L Ep.w y)]) := by subst hL; exact fun y => (gK epV_ok y _ rfl).1
    (cbv; try simp only [sat_need, sat_must, sat_ite, sat_done, sat_yes, sat_ex, sat_all, sat_sup, sat_and, sat_fail, true_and, and_true])
    simp only [hG, hO, true_and]
    refine ⟨fun hlt => ⟨?_, ?_, ?_, ⟨i + 1, ?_⟩⟩, fun hge => ?_⟩
    · (subst hL; subst hQ; simp only [L2, L3, std] at *; try simp only [sySet, syB, reduceCtorEq, forall_const, Int.reduceToNat, Int.reduceAdd, Int.reduceSub, Int.cast_ofNat_Int, Int.toNat_natCast, Nat.le_eq, Nat.sub_eq, ne_eq, implies_true, wadd, wsub, wmul, Nat.succ_eq_add_one] at *)
      omega
    · (subst hL; subst hQ; simp only [L2, L3, std] at *; try simp only [sySet, syB, reduceCtorEq, forall_const, Int.reduceToNat, Int.reduceAdd, Int.reduceSub, Int.cast_ofNat_Int, Int.toNat_natCast, Nat.le_eq, Nat.sub_eq, ne_eq, implies_true, wadd, wsub, wmul, Nat.succ_eq_add_one] at *)
      exact ha _ (by rw [nthEp, nthW_at (V := epV) (by have : lenW l = l.length := rfl; omega)]; exact List.getElem_mem _)
    · (subst hL; subst hQ; simp only [L2, L3, std] at *; try simp only [sySet, syB, reduceCtorEq, forall_const, Int.reduceToNat, Int.reduceAdd, Int.reduceSub, Int.cast_ofNat_Int, Int.toNat_natCast, Nat.le_eq, Nat.sub_eq, ne_eq, implies_true, wadd, wsub, wmul, Nat.succ_eq_add_one] at *)
      have : lenW l = l.length := rfl
      have : l.length ≤ 1000000 := hz
      omega
    · (cbv; try simp only [sat_need, sat_must, sat_ite, sat_done, sat_yes, sat_ex, sat_all, sat_sup, sat_and, sat_fail, true_and, and_true])
      try simp only [hG]
      (subst hL; subst hQ; simp only [L2, L3, std] at *; try simp only [sySet, syB, reduceCtorEq, forall_const, Int.reduceToNat, Int.reduceAdd, Int.reduceSub, Int.cast_ofNat_Int, Int.toNat_natCast, Nat.le_eq, Nat.sub_eq, ne_eq, implies_true, wadd, wsub, wmul, Nat.succ_eq_add_one] at *)
      have : lenW l = l.length := rfl
      have : l.length ≤ 1000000 := hz
      exact ⟨fun q j hq hj => cv_push (fun q => epVal (nthEp l q)) hq hj, by omega, by omega, by omega⟩
    · (subst hL; subst hQ; simp only [L2, L3, std] at *; try simp only [sySet, syB, reduceCtorEq, forall_const, Int.reduceToNat, Int.reduceAdd, Int.reduceSub, Int.cast_ofNat_Int, Int.toNat_natCast, Nat.le_eq, Nat.sub_eq, ne_eq, implies_true, wadd, wsub, wmul, Nat.succ_eq_add_one] at *)
      have : lenW l = l.length := rfl
      obtain ⟨k1, k2⟩ := each_end (V := epV) (val := epVal) (l := l) (n := i) (by omega)
      refine ⟨⟨k2, ?_⟩, cv_fit ?_⟩
      · show List.length _ ≤ 1000000
        have k1 : rdL (.lst 4 i fun q j => cv1 std (epVal (nthEp l q)) j) = l.map epVal := k1
        rw [k1, List.length_map]; exact hz
      · exact (congrArg rowV k1).symm
def lsVal (x : Ls) : CV := rowV [txtV x.n, txtV (plB x.pl), rtsVal x.rs]
def clVal (x : Cl) : CV := rowV [txtV x.n, epsVal x.es]
def lsPre (x : Ls) : Prop := plOk x.pl ∧ lenE x.rs
def clPre (x : Cl) : Prop := lenE x.es ∧ epsPre x.es
def lssVal (l : List Ls) : CV := eachV lsVal l
def clsVal (l : List Cl) : CV := eachV clVal l
def lssPre (l : List Ls) : Prop := allE lsPre l
def clsPre (l : List Cl) : Prop := allE clPre l
theorem rdwRt (l : List Rt) : rdWRt (.lst 4 (lenW l) fun i => rtC std (nthRt l i)) = l := (rdW_lst rtV_ok l).2
theorem okwRt (l : List Rt) : okWRt (.lst 4 (lenW l) fun i => rtC std (nthRt l i)) := (rdW_lst rtV_ok l).1
theorem rdwEp (l : List Ep) : rdWEp (.lst 6 (lenW l) fun i => epC std (nthEp l i)) = l := (rdW_lst epV_ok l).2
theorem okwEp (l : List Ep) : okWEp (.lst 6 (lenW l) fun i => epC std (nthEp l i)) := (rdW_lst epV_ok l).1
theorem rdwLs (l : List Ls) : rdWLs (.lst 7 (lenW l) fun i => lsC std (nthLs l i)) = l := (rdW_lst lsV_ok l).2
theorem okwLs (l : List Ls) : okWLs (.lst 7 (lenW l) fun i => lsC std (nthLs l i)) := (rdW_lst lsV_ok l).1
theorem rdwCl (l : List Cl) : rdWCl (.lst 2 (lenW l) fun i => clC std (nthCl l i)) = l := (rdW_lst clV_ok l).2
theorem okwCl (l : List Cl) : okWCl (.lst 2 (lenW l) fun i => clC std (nthCl l i)) := (rdW_lst clV_ok l).1
theorem listener_good : Good Tryz.prog (valS 65 okGLs rdGLs lsPre lsVal std) := by
  intro xs p r h hp
  dsimp only [valS] at h ⊢
  split at h <;> cases h
  try simp only [L2, L3, std] at hp ⊢
  rename_i x
  refine ac_g lsV_ok hp.1 ?_
  have hp := hp.2
  show ACalls _ _ _ (cvA std (lsVal (rdG lsV x)))
  have hp : lsPre (rdG lsV x) := hp
  generalize rdG lsV x = y at hp ⊢
  refine acalls_L' (T := tt) (S := fun L => sumOf [txt_s L, list_s L, bytes_s L, eachS 103 104 okWRt rdWRt rtsPre rtsVal L]) (lo := fun _ => noA std) (lb := noA) 5 (fn := Tryz.f65) (xs := fun L => [.agg [.str (L Ls.n y), .int .u8 (L Pl.a (L Ls.pl y)), .int .u8 (L Pl.b (L Ls.pl y)), .int .u8 (L Pl.c (L Ls.pl y)), .int .u8 (L Pl.d (L Ls.pl y)), .int .u16 (L Pl.p (L Ls.pl y)), lstRt L (L Ls.rs y)]]) rfl rfl (by kernel_rfl) (by kernel_rfl) rfl tt_ok (sumOf_ok ⟨txt_good, list_good, bytes_good, eachRt_good route_good, trivial⟩) (by kernel_rfl) ?_
  intro L P' Q' hL hP hQ
  (cbv; try simp only [sat_need, sat_must, sat_ite, sat_done, sat_yes, sat_ex, sat_all, sat_sup, sat_and, sat_fail, true_and, and_true])
  (subst hL; subst hQ; simp only [L2, L3, std] at *; try simp only [sySet, syB, reduceCtorEq, forall_const, Int.reduceToNat, Int.reduceAdd, Int.reduceSub, Int.cast_ofNat_Int, Int.toNat_natCast, Nat.le_eq, Nat.sub_eq, ne_eq, implies_true, wadd, wsub, wmul, Nat.succ_eq_add_one] at *)
  simp only [rdwRt]
  obtain ⟨k1, k2⟩ := row_fit [txtV y.n, txtV (plB y.pl), rtsVal y.rs] (v := lsVal y) (n := 3) rfl rfl (Nat.le_of_ble_eq_true rfl) rfl
  exact ⟨hp.1, ⟨okwRt _, hp.2, fun _ _ => trivial⟩, k1, k2 rfl⟩
theorem cluster_good : Good Tryz.prog (valS 67 okGCl rdGCl clPre clVal std) := by
  intro xs p r h hp
  dsimp only [valS] at h ⊢
  split at h <;> cases h
  try simp only [L2, L3, std] at hp ⊢
  rename_i x
  refine ac_g clV_ok hp.1 ?_
  have hp := hp.2
  show ACalls _ _ _ (cvA std (clVal (rdG clV x)))
  have hp : clPre (rdG clV x) := hp
  generalize rdG clV x = y at hp ⊢
  refine acalls_L' (T := tt) (S := fun L => sumOf [txt_s L, list_s L, eachS 105 106 okWEp rdWEp epsPre epsVal L]) (lo := fun _ => noA std) (lb := noA) 5 (fn := Tryz.f67) (xs := fun L => [.agg [.str (L Cl.n y), lstEp L (L Cl.es y)]]) rfl rfl (by kernel_rfl) (by kernel_rfl) rfl tt_ok (sumOf_ok ⟨txt_good, list_good, eachEp_good endpoint_good, trivial⟩) (by kernel_rfl) ?_
  intro L P' Q' hL hP hQ
  (cbv; try simp only [sat_need, sat_must, sat_ite, sat_done, sat_yes, sat_ex, sat_all, sat_sup, sat_and, sat_fail, true_and, and_true])
  (subst hL; subst hQ; simp only [L2, L3, std] at *; try simp only [sySet, syB, reduceCtorEq, forall_const, Int.reduceToNat, Int.reduceAdd, Int.reduceSub, Int.cast_ofNat_Int, Int.toNat_natCast, Nat.le_eq, Nat.sub_eq, ne_eq, implies_true, wadd, wsub, wmul, Nat.succ_eq_add_one] at *)
  simp only [rdwEp]
  obtain ⟨k1, k2⟩ := row_fit [txtV y.n, epsVal y.es] (v := clVal y) (n := 2) rfl rfl (Nat.le_of_ble_eq_true rfl) rfl
  exact ⟨⟨okwEp _, hp.1, hp.2⟩, k1, k2 rfl⟩
theorem eachLs_good (ih : Good Tryz.prog (valS 65 okGLs rdGLs lsPre lsVal std)) : Good Tryz.prog (eachS 64 65 okWLs rdWLs lssPre lssVal std) := by
  intro xs p r h hp
  unfold eachS at h
  simp only at h
  split at h
  rotate_left
  · cases h
  rename_i x k
  cases hk : nbeq k 65 with
  | false => rw [hk] at h; cases h
  | true =>
  rw [hk] at h
  obtain rfl : k = 65 := of_decide_eq_true hk
  cases h
  obtain ⟨ho, hz, ha⟩ := hp
  refine ac_w1 lsV_ok ho ?_
  have hz : lenE (rdW lsV x) := hz
  have ha : allE lsPre (rdW lsV x) := ha
  show ACalls _ _ _ (cvA std (eachV lsVal (rdW lsV x)))
  generalize rdW lsV x = l at hz ha ⊢
  refine acalls_L' (T := tt) (S := fun L => sumOf [valS 65 okGLs rdGLs lsPre lsVal L, list_s L]) (lo := fun L => eachA L nthLs lsVal l) (lb := noA) 5 (fn := Tryz.f64) (xs := fun L => [lstLs L l, .fn 65 [] []]) rfl rfl (by kernel_rfl) (by kernel_rfl) rfl tt_ok
    (sumOf_ok ⟨ih, list_good, trivial⟩) (by kernel_rfl) ?_
  intro L P' Q' hL hP hQ
  (cbv; try simp only [sat_need, sat_must, sat_ite, sat_done, sat_yes, sat_ex, sat_all, sat_sup, sat_and, sat_fail, true_and, and_true])
  refine ⟨⟨0, ?_⟩, fun i hi => ?_⟩
  · (cbv; try simp only [sat_need, sat_must, sat_ite, sat_done, sat_yes, sat_ex, sat_all, sat_sup, sat_and, sat_fail, true_and, and_true])
    (subst hL; subst hQ; simp only [L2, L3, std] at *; try simp only [sySet, syB, reduceCtorEq, forall_const, Int.reduceToNat, Int.reduceAdd, Int.reduceSub, Int.cast_ofNat_Int, Int.toNat_natCast, Nat.le_eq, Nat.sub_eq, ne_eq, implies_true, wadd, wsub, wmul, Nat.succ_eq_add_one] at *)
    exact Nat.zero_le _
  · cbv at hi
    have hG : ∀ y : Ls, L rdGLs (.agg [.str (L Ls.n y), .int .u8 (L Pl.a (L Ls.pl y)), .int .u8 (L Pl.b (L Ls.pl y)), .int .u8 (L Pl.c (L Ls.pl y)), .int .u8 (L Pl.d (L Ls.pl y)), .int .u16 (L Pl.p (L Ls.pl y)), .lst 4 (L lenW (L Ls.rs y)) (fun i => rtC L (L (L nthRt (L Ls.rs y)) i))]) = y := by subst hL; exact fun y => (gK lsV_ok y _ rfl).2
    have hO : ∀ y : Ls, L okGLs (.agg [.str (L Ls.n y), .int .u8 (L Pl.a (L Ls.pl y)), .int .u8 (L Pl.b (L Ls.pl y)), .int .u8 (L Pl.c (L Ls.pl y)), .int .u8 (L Pl.d (L Ls.pl y)), .int .u16 (L Pl.p (L Ls.pl y)), .lst 4 (L lenW (L Ls.rs y)) (fun i => rtC L (L (L nthRt (L Ls.rs y)) i))]) := by subst hL; exact fun y => (gK lsV_ok y _ rfl).1
    (cbv; try simp only [sat_need, sat_must, sat_ite, sat_done, sat_yes, sat_ex, sat_all, sat_sup, sat_and, sat_fail, true_and, and_true])
    simp only [hG, hO, true_and]
    refine ⟨fun hlt => ⟨?_, ?_, ?_, ⟨i + 1, ?_⟩⟩, fun hge => ?_⟩
    · (subst hL; subst hQ; simp only [L2, L3, std] at *; try simp only [sySet, syB, reduceCtorEq, forall_const, Int.reduceToNat, Int.reduceAdd, Int.reduceSub, Int.cast_ofNat_Int, Int.toNat_natCast, Nat.le_eq, Nat.sub_eq, ne_eq, implies_true, wadd, wsub, wmul, Nat.succ_eq_add_one] at *)
      omega
    · (subst hL; subst hQ; simp only [L2, L3, std] at *; try simp only [sySet, syB, reduceCtorEq, forall_const, Int.reduceToNat, Int.reduceAdd, Int.reduceSub, Int.cast_ofNat_Int, Int.toNat_natCast, Nat.le_eq, Nat.sub_eq, ne_eq, implies_true, wadd, wsub, wmul, Nat.succ_eq_add_one] at *)
      exact ha _ (by rw [nthLs, nthW_at (V := lsV) (by have : lenW l = l.length := rfl; omega)]; exact List.getElem_mem _)
    · (subst hL; subst hQ; simp only [L2, L3, std] at *; try simp only [sySet, syB, reduceCtorEq, forall_const, Int.reduceToNat, Int.reduceAdd, Int.reduceSub, Int.cast_ofNat_Int, Int.toNat_natCast, Nat.le_eq, Nat.sub_eq, ne_eq, implies_true, wadd, wsub, wmul, Nat.succ_eq_add_one] at *)
      have : lenW l = l.length := rfl
      have : l.length ≤ 1000000 := hz
      omega
    · (cbv; try simp only [sat_need, sat_must, sat_ite, sat_done, sat_yes, sat_ex, sat_all, sat_sup, sat_and, sat_fail, true_and, and_true])
      try simp only [hG]
      (subst hL; subst hQ; simp only [L2, L3, std] at *; try simp only [sySet, syB, reduceCtorEq, forall_const, Int.reduceToNat, Int.reduceAdd, Int.reduceSub, Int.cast_ofNat_Int, Int.toNat_natCast, Nat.le_eq, Nat.sub_eq, ne_eq, implies_true, wadd, wsub, wmul, Nat.succ_eq_add_one] at *)
      have : lenW l = l.length := rfl
      have : l.length ≤ 1000000 := hz
      exact ⟨fun q j hq hj => cv_push (fun q => lsVal (nthLs l q)) hq hj, by omega, by omega, by omega⟩
    · (subst hL; subst hQ; simp only [L2, L3, std] at *; try simp only [sySet, syB, reduceCtorEq, forall_const, Int.reduceToNat, Int.reduceAdd, Int.reduceSub, Int.cast_ofNat_Int, Int.toNat_natCast, Nat.le_eq, Nat.sub_eq, ne_eq, implies_true, wadd, wsub, wmul, Nat.succ_eq_add_one] at *)
      have : lenW l = l.length := rfl
      obtain ⟨k1, k2⟩ := each_end (V := lsV) (val := lsVal) (l := l) (n := i) (by omega)
      refine ⟨⟨k2, ?_⟩, cv_fit ?_⟩
      · show List.length _ ≤ 1000000
        have k1 : rdL (.lst 4 i fun q j => cv1 std (lsVal (nthLs l q)) j) = l.map lsVal := k1
        rw [k1, List.length_map]; exact hz
      · exact (congrArg rowV k1).symm
theorem eachCl_good (ih : Good Tryz.prog (valS 67 okGCl rdGCl clPre clVal std)) : Good Tryz.prog (eachS 66 67 okWCl rdWCl clsPre clsVal std) := by
  intro xs p r h hp
  unfold eachS at h
  simp only at h
  split at h
  rotate_left
  · cases h
  rename_i x k
  cases hk : nbeq k 67 with
  | false => rw [hk] at h; cases h
  | true =>
  rw [hk] at h
  obtain rfl : k = 67 := of_decide_eq_true hk
  cases h
  obtain ⟨ho, hz, ha⟩ := hp
  refine ac_w1 clV_ok ho ?_
  have hz : lenE (rdW clV x) := hz
  have ha : allE clPre (rdW clV x) := ha
  show ACalls _ _ _ (cvA std (eachV clVal (rdW clV x)))
  generalize rdW clV x = l at hz ha ⊢
  refine acalls_L' (T := tt) (S := fun L => sumOf [valS 67 okGCl rdGCl clPre clVal L, list_s L]) (lo := fun L => eachA L nthCl clVal l) (lb := noA) 5 (fn := Tryz.f66) (xs := fun L => [lstCl L l, .fn 67 [] []]) rfl rfl (by kernel_rfl) (by kernel_rfl) rfl tt_ok
    (sumOf_ok ⟨ih, list_good, trivial⟩) (by kernel_rfl) ?_
  intro L P' Q' hL hP hQ
  (cbv; try simp only [sat_need, sat_must, sat_ite, sat_done, sat_yes, sat_ex, sat_all, sat_sup, sat_and, sat_fail, true_and, and_true])
  refine ⟨⟨0, ?_⟩, fun i hi => ?_⟩
  · (cbv; try simp only [sat_need, sat_must, sat_ite, sat_done, sat_yes, sat_ex, sat_all, sat_sup, sat_and, sat_fail, true_and, and_true])
    (subst hL; subst hQ; simp only [L2, L3, std] at *; try simp only [sySet, syB, reduceCtorEq, forall_const, Int.reduceToNat, Int.reduceAdd, Int.reduceSub, Int.cast_ofNat_Int, Int.toNat_natCast, Nat.le_eq, Nat.sub_eq, ne_eq, implies_true, wadd, wsub, wmul, Nat.succ_eq_add_one] at *)
    exact Nat.zero_le _
  · cbv at hi
    have hG : ∀ y : Cl, L rdGCl (.agg [.str (L Cl.n y), .lst 6 (L lenW (L Cl.es y)) (fun i => epC L (L (L nthEp (L Cl.es y)) i))]) = y := by subst hL; exact fun y => (gK clV_ok y _ rfl).2
    have hO : ∀ y : Cl, L okGCl (.agg [.str (L Cl.n y), .lst 6 (L lenW (L Cl.es y)) (fun i => epC L (L (L nthEp (L Cl.es y)) i))]) := by subst hL; exact fun y => (gK clV_ok y _ rfl).1
    (cbv; try simp only [sat_need, sat_must, sat_ite, sat_done, sat_yes, sat_ex, sat_all, sat_sup, sat_and, sat_fail, true_and, and_true])
    simp only [hG, hO, true_and]
    refine ⟨fun hlt => ⟨?_, ?_, ?_, ⟨i + 1, ?_⟩⟩, fun hge => ?_⟩
    · (subst hL; subst hQ; simp only [L2, L3, std] at *; try simp only [sySet, syB, reduceCtorEq, forall_const, Int.reduceToNat, Int.reduceAdd, Int.reduceSub, Int.cast_ofNat_Int, Int.toNat_natCast, Nat.le_eq, Nat.sub_eq, ne_eq, implies_true, wadd, wsub, wmul, Nat.succ_eq_add_one] at *)
      omega
    · (subst hL; subst hQ; simp only [L2, L3, std] at *; try simp only [sySet, syB, reduceCtorEq, forall_const, Int.reduceToNat, Int.reduceAdd, Int.reduceSub, Int.cast_ofNat_Int, Int.toNat_natCast, Nat.le_eq, Nat.sub_eq, ne_eq, implies_true, wadd, wsub, wmul, Nat.succ_eq_add_one] at *)
      exact ha _ (by rw [nthCl, nthW_at (V := clV) (by have : lenW l = l.length := rfl; omega)]; exact List.getElem_mem _)
    · (subst hL; subst hQ; simp only [L2, L3, std] at *; try simp only [sySet, syB, reduceCtorEq, forall_const, Int.reduceToNat, Int.reduceAdd, Int.reduceSub, Int.cast_ofNat_Int, Int.toNat_natCast, Nat.le_eq, Nat.sub_eq, ne_eq, implies_true, wadd, wsub, wmul, Nat.succ_eq_add_one] at *)
      have : lenW l = l.length := rfl
      have : l.length ≤ 1000000 := hz
      omega
    · (cbv; try simp only [sat_need, sat_must, sat_ite, sat_done, sat_yes, sat_ex, sat_all, sat_sup, sat_and, sat_fail, true_and, and_true])
      try simp only [hG]
      (subst hL; subst hQ; simp only [L2, L3, std] at *; try simp only [sySet, syB, reduceCtorEq, forall_const, Int.reduceToNat, Int.reduceAdd, Int.reduceSub, Int.cast_ofNat_Int, Int.toNat_natCast, Nat.le_eq, Nat.sub_eq, ne_eq, implies_true, wadd, wsub, wmul, Nat.succ_eq_add_one] at *)
      have : lenW l = l.length := rfl
      have : l.length ≤ 1000000 := hz
      exact ⟨fun q j hq hj => cv_push (fun q => clVal (nthCl l q)) hq hj, by omega, by omega, by omega⟩
    · (subst hL; subst hQ; simp only [L2, L3, std] at *; try simp only [sySet, syB, reduceCtorEq, forall_const, Int.reduceToNat, Int.reduceAdd, Int.reduceSub, Int.cast_ofNat_Int, Int.toNat_natCast, Nat.le_eq, Nat.sub_eq, ne_eq, implies_true, wadd, wsub, wmul, Nat.succ_eq_add_one] at *)
      have : lenW l = l.length := rfl
      obtain ⟨k1, k2⟩ := each_end (V := clV) (val := clVal) (l := l) (n := i) (by omega)
      refine ⟨⟨k2, ?_⟩, cv_fit ?_⟩
      · show List.length _ ≤ 1000000
        have k1 : rdL (.lst 4 i fun q j => cv1 std (clVal (nthCl l q)) j) = l.map clVal := k1
        rw [k1, List.length_map]; exact hz
      · exact (congrArg rowV k1).symm
end Sy
end Go.Proofs.YtcgikjfloloekaaGreatDoor
namespace Go.Proofs.YtcgikjfloloekaaGreatDoor
namespace Sy
open Go Go.RowKit
set_option maxRecDepth 100000
set_option linter.unusedSimpArgs false
set_option linter.unusedVariables false
def prS {α : Type} (f : Nat) (ok : AV → Prop) (rd : AV → α) (p : α → Bool) (pre : α → Prop) (L : Seal) : Ent1 := (f, fun xs => match xs with
  | [x] => some (L ok x ∧ L pre (L rd x), .bool (L p (L rd x)))
  | _ => none)
def idxS {α : Type} (f g : Nat) (ok : AV → Prop) (rd : AV → List α) (idx : List α → Int) (pre : List α → Prop) (L : Seal) : Ent1 := (f, fun xs => match xs with
  | [x, .fn k [] []] => match nbeq k g with
    | true => some (L ok x ∧ L lenE (L rd x) ∧ L pre (L rd x), .int .i64 (L idx (L rd x)))
    | false => none
  | _ => none)
def anyS {α : Type} (f g : Nat) (ok : AV → Prop) (rd : AV → List α) (any : List α → Bool) (pre : List α → Prop) (L : Seal) : Ent1 := (f, fun xs => match xs with
  | [x, .fn k [] []] => match nbeq k g with
    | true => some (L ok x ∧ L lenE (L rd x) ∧ L pre (L rd x), .bool (L any (L rd x)))
    | false => none
  | _ => none)
def ixA {α : Type} (L : Seal) (none : List α → Nat → Prop) (l : List α) : Nat → St → Option Ann := fun id st => match id with
  | 0 => some ⟨Nat, fun i => [(8, .int .i64 (L natI i))], fun i => [], [0, 1, 6, 7], [],
      fun i => L2 L none l i, fun i => L2 L (fun (l : List α) (i : Nat) => l.length - i) l i⟩
  | _ => Option.none
theorem ile_is (a b : Int) : ile a b = decide (a ≤ b) := by simp [ile]
def manyL (x : Ls) : Bool := decide (8 < x.rs.length)
def manyC (x : Cl) : Bool := decide (8 < x.es.length)
def belE (x : Ep) : Bool := decide (x.w < 0)
def belC (x : Cl) : Bool := x.es.any belE
def preML (x : Ls) : Prop := True
def preMC (x : Cl) : Prop := True
def preBE (x : Ep) : Prop := True
def preBC (x : Cl) : Prop := lenE x.es
theorem mL_good : Good Tryz.prog (prS 96 okGLs rdGLs manyL preML std) := by
  intro xs p r h hp
  dsimp only [prS] at h ⊢
  split at h <;> cases h
  try simp only [L2, L3, std] at hp ⊢
  rename_i x
  refine ac_g lsV_ok hp.1 ?_
  have hp := hp.2
  show ACalls _ _ _ (.bool (manyL (rdG lsV x)))
  have hp : preML (rdG lsV x) := hp
  generalize rdG lsV x = y at hp ⊢
  refine acalls_L' (T := tt) (S := noS) (lo := fun _ => noA std) (lb := noA) 5 (fn := Tryz.f96) (xs := fun L => [.agg [.str (L Ls.n y), .int .u8 (L Pl.a (L Ls.pl y)), .int .u8 (L Pl.b (L Ls.pl y)), .int .u8 (L Pl.c (L Ls.pl y)), .int .u8 (L Pl.d (L Ls.pl y)), .int .u16 (L Pl.p (L Ls.pl y)), lstRt L (L Ls.rs y)]]) rfl rfl (by kernel_rfl) (by kernel_rfl) rfl tt_ok (noS_ok _) (by kernel_rfl) ?_
  intro L P' Q' hL hP hQ
  (cbv; try simp only [sat_need, sat_must, sat_ite, sat_done, sat_yes, sat_ex, sat_all, sat_sup, sat_and, sat_fail, true_and, and_true])
  (subst hL; subst hQ; simp only [L2, L3, std] at *; try simp only [sySet, syB, reduceCtorEq, forall_const, Int.reduceToNat, Int.reduceAdd, Int.reduceSub, Int.cast_ofNat_Int, Int.toNat_natCast, Nat.le_eq, Nat.sub_eq, ne_eq, implies_true, wadd, wsub, wmul, Nat.succ_eq_add_one] at *)
  show ilt 8 ((y.rs.length : Nat) : Int) = _
  simp only [ilt, manyL]
  congr 1
  simp
  omega
theorem mC_good : Good Tryz.prog (prS 98 okGCl rdGCl manyC preMC std) := by
  intro xs p r h hp
  dsimp only [prS] at h ⊢
  split at h <;> cases h
  try simp only [L2, L3, std] at hp ⊢
  rename_i x
  refine ac_g clV_ok hp.1 ?_
  have hp := hp.2
  show ACalls _ _ _ (.bool (manyC (rdG clV x)))
  have hp : preMC (rdG clV x) := hp
  generalize rdG clV x = y at hp ⊢
  refine acalls_L' (T := tt) (S := noS) (lo := fun _ => noA std) (lb := noA) 5 (fn := Tryz.f98) (xs := fun L => [.agg [.str (L Cl.n y), lstEp L (L Cl.es y)]]) rfl rfl (by kernel_rfl) (by kernel_rfl) rfl tt_ok (noS_ok _) (by kernel_rfl) ?_
  intro L P' Q' hL hP hQ
  (cbv; try simp only [sat_need, sat_must, sat_ite, sat_done, sat_yes, sat_ex, sat_all, sat_sup, sat_and, sat_fail, true_and, and_true])
  (subst hL; subst hQ; simp only [L2, L3, std] at *; try simp only [sySet, syB, reduceCtorEq, forall_const, Int.reduceToNat, Int.reduceAdd, Int.reduceSub, Int.cast_ofNat_Int, Int.toNat_natCast, Nat.le_eq, Nat.sub_eq, ne_eq, implies_true, wadd, wsub, wmul, Nat.succ_eq_add_one] at *)
  show ilt 8 ((y.es.length : Nat) : Int) = _
  simp only [ilt, manyC]
  congr 1
  simp
  omega
theorem bE_good : Good Tryz.prog (prS 101 okGEp rdGEp belE preBE std) := by
  intro xs p r h hp
  dsimp only [prS] at h ⊢
  split at h <;> cases h
  try simp only [L2, L3, std] at hp ⊢
  rename_i x
  refine ac_g epV_ok hp.1 ?_
  have hp := hp.2
  show ACalls _ _ _ (.bool (belE (rdG epV x)))
  have hp : preBE (rdG epV x) := hp
  generalize rdG epV x = y at hp ⊢
  refine acalls_L' (T := tt) (S := noS) (lo := fun _ => noA std) (lb := noA) 5 (fn := Tryz.f101) (xs := fun L => [.agg [.int .u8 (L Pl.a (L Ep.pl y)), .int .u8 (L Pl.b (L Ep.pl y)), .int .u8 (L Pl.c (L Ep.pl y)), .int .u8 (L Pl.d (L Ep.pl y)), .int .u16 (L Pl.p (L Ep.pl y)), .int .i64 (L Ep.w y)]]) rfl rfl (by kernel_rfl) (by kernel_rfl) rfl tt_ok (noS_ok _) (by kernel_rfl) ?_
  intro L P' Q' hL hP hQ
  (cbv; try simp only [sat_need, sat_must, sat_ite, sat_done, sat_yes, sat_ex, sat_all, sat_sup, sat_and, sat_fail, true_and, and_true])
  (subst hL; subst hQ; simp only [L2, L3, std] at *; try simp only [sySet, syB, reduceCtorEq, forall_const, Int.reduceToNat, Int.reduceAdd, Int.reduceSub, Int.cast_ofNat_Int, Int.toNat_natCast, Nat.le_eq, Nat.sub_eq, ne_eq, implies_true, wadd, wsub, wmul, Nat.succ_eq_add_one] at *)
  simp [ilt, belE]
def idxML (l : List Ls) : Int := idxW manyL l
def anyML (l : List Ls) : Bool := l.any manyL
def noneML (l : List Ls) (i : Nat) : Prop := noneW manyL l i
def presML (l : List Ls) : Prop := allE preML l
theorem idxML_good (ih : Good Tryz.prog (prS 96 okGLs rdGLs manyL preML std)) : Good Tryz.prog (idxS 120 96 okWLs rdWLs idxML presML std) := by
  intro xs p r h hp
  unfold idxS at h
  simp only at h
  split at h
  rotate_left
  · cases h
  rename_i x k
  cases hk : nbeq k 96 with
  | false => rw [hk] at h; cases h
  | true =>
  rw [hk] at h
  obtain rfl : k = 96 := of_decide_eq_true hk
  cases h
  obtain ⟨ho, hz, ha⟩ := hp
  refine ac_w1 lsV_ok ho ?_
  have hz : lenE (rdW lsV x) := hz
  have ha : presML (rdW lsV x) := ha
  show ACalls _ _ _ (.int .i64 (idxW manyL (rdW lsV x)))
  generalize rdW lsV x = l at hz ha ⊢
  refine acalls_L' (T := tt) (S := fun L => sumOf [prS 96 okGLs rdGLs manyL preML L]) (lo := fun L => ixA L noneML l) (lb := noA) 5 (fn := Tryz.f120) (xs := fun L => [lstLs L l, .fn 96 [] []]) rfl rfl (by kernel_rfl) (by kernel_rfl) rfl tt_ok
    (sumOf_ok ⟨ih, trivial⟩) (by kernel_rfl) ?_
  intro L P' Q' hL hP hQ
  (cbv; try simp only [sat_need, sat_must, sat_ite, sat_done, sat_yes, sat_ex, sat_all, sat_sup, sat_and, sat_fail, true_and, and_true])
  refine ⟨⟨0, ?_⟩, fun i hi => ?_⟩
  · (cbv; try simp only [sat_need, sat_must, sat_ite, sat_done, sat_yes, sat_ex, sat_all, sat_sup, sat_and, sat_fail, true_and, and_true])
    (subst hL; subst hQ; simp only [L2, L3, std] at *; try simp only [sySet, syB, reduceCtorEq, forall_const, Int.reduceToNat, Int.reduceAdd, Int.reduceSub, Int.cast_ofNat_Int, Int.toNat_natCast, Nat.le_eq, Nat.sub_eq, ne_eq, implies_true, wadd, wsub, wmul, Nat.succ_eq_add_one] at *)
    exact noneW_0 _ _
  · cbv at hi
    have hG : ∀ y : Ls, L rdGLs (.agg [.str (L Ls.n y), .int .u8 (L Pl.a (L Ls.pl y)), .int .u8 (L Pl.b (L Ls.pl y)), .int .u8 (L Pl.c (L Ls.pl y)), .int .u8 (L Pl.d (L Ls.pl y)), .int .u16 (L Pl.p (L Ls.pl y)), .lst 4 (L lenW (L Ls.rs y)) (fun i => rtC L (L (L nthRt (L Ls.rs y)) i))]) = y := by subst hL; exact fun y => (gK lsV_ok y _ rfl).2
    have hO : ∀ y : Ls, L okGLs (.agg [.str (L Ls.n y), .int .u8 (L Pl.a (L Ls.pl y)), .int .u8 (L Pl.b (L Ls.pl y)), .int .u8 (L Pl.c (L Ls.pl y)), .int .u8 (L Pl.d (L Ls.pl y)), .int .u16 (L Pl.p (L Ls.pl y)), .lst 4 (L lenW (L Ls.rs y)) (fun i => rtC L (L (L nthRt (L Ls.rs y)) i))]) := by subst hL; exact fun y => (gK lsV_ok y _ rfl).1
    (cbv; try simp only [sat_need, sat_must, sat_ite, sat_done, sat_yes, sat_ex, sat_all, sat_sup, sat_and, sat_fail, true_and, and_true])
    simp only [hG, hO, true_and]
    have hw : lenW l = l.length := rfl
    have hz : l.length ≤ 1000000 := hz
    refine ⟨fun hlt => ⟨?_, ?_, fun hb => ?_, fun hb => ⟨i + 1, ?_⟩⟩, fun hge => ?_⟩
    · (subst hL; subst hQ; simp only [L2, L3, std] at *; try simp only [sySet, syB, reduceCtorEq, forall_const, Int.reduceToNat, Int.reduceAdd, Int.reduceSub, Int.cast_ofNat_Int, Int.toNat_natCast, Nat.le_eq, Nat.sub_eq, ne_eq, implies_true, wadd, wsub, wmul, Nat.succ_eq_add_one] at *)
      omega
    · (subst hL; subst hQ; simp only [L2, L3, std] at *; try simp only [sySet, syB, reduceCtorEq, forall_const, Int.reduceToNat, Int.reduceAdd, Int.reduceSub, Int.cast_ofNat_Int, Int.toNat_natCast, Nat.le_eq, Nat.sub_eq, ne_eq, implies_true, wadd, wsub, wmul, Nat.succ_eq_add_one] at *)
      exact ha _ (by rw [nthLs, nthW_at (V := lsV) (by omega)]; exact List.getElem_mem _)
    · (subst hL; subst hQ; simp only [L2, L3, std] at *; try simp only [sySet, syB, reduceCtorEq, forall_const, Int.reduceToNat, Int.reduceAdd, Int.reduceSub, Int.cast_ofNat_Int, Int.toNat_natCast, Nat.le_eq, Nat.sub_eq, ne_eq, implies_true, wadd, wsub, wmul, Nat.succ_eq_add_one] at *)
      exact (noneW_yes (V := lsV) hi (by omega) hb).symm
    · (cbv; try simp only [sat_need, sat_must, sat_ite, sat_done, sat_yes, sat_ex, sat_all, sat_sup, sat_and, sat_fail, true_and, and_true])
      try simp only [hG]
      (subst hL; subst hQ; simp only [L2, L3, std] at *; try simp only [sySet, syB, reduceCtorEq, forall_const, Int.reduceToNat, Int.reduceAdd, Int.reduceSub, Int.cast_ofNat_Int, Int.toNat_natCast, Nat.le_eq, Nat.sub_eq, ne_eq, implies_true, wadd, wsub, wmul, Nat.succ_eq_add_one] at *)
      exact ⟨by omega, noneW_step (V := lsV) hi (by omega) hb, by omega⟩
    · (subst hL; subst hQ; simp only [L2, L3, std] at *; try simp only [sySet, syB, reduceCtorEq, forall_const, Int.reduceToNat, Int.reduceAdd, Int.reduceSub, Int.cast_ofNat_Int, Int.toNat_natCast, Nat.le_eq, Nat.sub_eq, ne_eq, implies_true, wadd, wsub, wmul, Nat.succ_eq_add_one] at *)
      exact (noneW_end hi (by omega)).symm
theorem anyML_good (ih : Good Tryz.prog (prS 96 okGLs rdGLs manyL preML std)) : Good Tryz.prog (anyS 95 96 okWLs rdWLs anyML presML std) := by
  intro xs p r h hp
  unfold anyS at h
  simp only at h
  split at h
  rotate_left
  · cases h
  rename_i x k
  cases hk : nbeq k 96 with
  | false => rw [hk] at h; cases h
  | true =>
  rw [hk] at h
  obtain rfl : k = 96 := of_decide_eq_true hk
  cases h
  obtain ⟨ho, hz, ha⟩ := hp
  refine ac_w1 lsV_ok ho ?_
  have hz : lenE (rdW lsV x) := hz
  have ha : presML (rdW lsV x) := ha
  show ACalls _ _ _ (.bool (anyML (rdW lsV x)))
  generalize rdW lsV x = l at hz ha ⊢
  refine acalls_L' (T := tt) (S := fun L => sumOf [idxS 120 96 okWLs rdWLs idxML presML L]) (lo := fun _ => noA std) (lb := noA) 5 (fn := Tryz.f95) (xs := fun L => [lstLs L l, .fn 96 [] []]) rfl rfl (by kernel_rfl) (by kernel_rfl) rfl tt_ok
    (sumOf_ok ⟨idxML_good ih, trivial⟩) (by kernel_rfl) ?_
  intro L P' Q' hL hP hQ
  (cbv; try simp only [sat_need, sat_must, sat_ite, sat_done, sat_yes, sat_ex, sat_all, sat_sup, sat_and, sat_fail, true_and, and_true])
  (subst hL; subst hQ; simp only [L2, L3, std] at *; try simp only [sySet, syB, reduceCtorEq, forall_const, Int.reduceToNat, Int.reduceAdd, Int.reduceSub, Int.cast_ofNat_Int, Int.toNat_natCast, Nat.le_eq, Nat.sub_eq, ne_eq, implies_true, wadd, wsub, wmul, Nat.succ_eq_add_one] at *)
  simp only [rdwLs]
  refine ⟨⟨okwLs _, hz, ha⟩, ?_⟩
  have := idxW_any manyL l
  rw [ile_is, show anyML l = l.any manyL from rfl, ← this]; rfl
def idxMC (l : List Cl) : Int := idxW manyC l
def anyMC (l : List Cl) : Bool := l.any manyC
def noneMC (l : List Cl) (i : Nat) : Prop := noneW manyC l i
def presMC (l : List Cl) : Prop := allE preMC l
theorem idxMC_good (ih : Good Tryz.prog (prS 98 okGCl rdGCl manyC preMC std)) : Good Tryz.prog (idxS 121 98 okWCl rdWCl idxMC presMC std) := by
  intro xs p r h hp
  unfold idxS at h
  simp only at h
  split at h
  rotate_left
  · cases h
  rename_i x k
  cases hk : nbeq k 98 with
  | false => rw [hk] at h; cases h
  | true =>
  rw [hk] at h
  obtain rfl : k = 98 := of_decide_eq_true hk
  cases h
  obtain ⟨ho, hz, ha⟩ := hp
  refine ac_w1 clV_ok ho ?_
  have hz : lenE (rdW clV x) := hz
  have ha : presMC (rdW clV x) := ha
  show ACalls _ _ _ (.int .i64 (idxW manyC (rdW clV x)))
  generalize rdW clV x = l at hz ha ⊢
  refine acalls_L' (T := tt) (S := fun L => sumOf [prS 98 okGCl rdGCl manyC preMC L]) (lo := fun L => ixA L noneMC l) (lb := noA) 5 (fn := Tryz.f121) (xs := fun L => [lstCl L l, .fn 98 [] []]) rfl rfl (by kernel_rfl) (by kernel_rfl) rfl tt_ok
    (sumOf_ok ⟨ih, trivial⟩) (by kernel_rfl) ?_
  intro L P' Q' hL hP hQ
  (cbv; try simp only [sat_need, sat_must, sat_ite, sat_done, sat_yes, sat_ex, sat_all, sat_sup, sat_and, sat_fail, true_and, and_true])
  refine ⟨⟨0, ?_⟩, fun i hi => ?_⟩
  · (cbv; try simp only [sat_need, sat_must, sat_ite, sat_done, sat_yes, sat_ex, sat_all, sat_sup, sat_and, sat_fail, true_and, and_true])
    (subst hL; subst hQ; simp only [L2, L3, std] at *; try simp only [sySet, syB, reduceCtorEq, forall_const, Int.reduceToNat, Int.reduceAdd, Int.reduceSub, Int.cast_ofNat_Int, Int.toNat_natCast, Nat.le_eq, Nat.sub_eq, ne_eq, implies_true, wadd, wsub, wmul, Nat.succ_eq_add_one] at *)
    exact noneW_0 _ _
  · cbv at hi
    have hG : ∀ y : Cl, L rdGCl (.agg [.str (L Cl.n y), .lst 6 (L lenW (L Cl.es y)) (fun i => epC L (L (L nthEp (L Cl.es y)) i))]) = y := by subst hL; exact fun y => (gK clV_ok y _ rfl).2
    have hO : ∀ y : Cl, L okGCl (.agg [.str (L Cl.n y), .lst 6 (L lenW (L Cl.es y)) (fun i => epC L (L (L nthEp (L Cl.es y)) i))]) := by subst hL; exact fun y => (gK clV_ok y _ rfl).1
    (cbv; try simp only [sat_need, sat_must, sat_ite, sat_done, sat_yes, sat_ex, sat_all, sat_sup, sat_and, sat_fail, true_and, and_true])
    simp only [hG, hO, true_and]
    have hw : lenW l = l.length := rfl
    have hz : l.length ≤ 1000000 := hz
    refine ⟨fun hlt => ⟨?_, ?_, fun hb => ?_, fun hb => ⟨i + 1, ?_⟩⟩, fun hge => ?_⟩
    · (subst hL; subst hQ; simp only [L2, L3, std] at *; try simp only [sySet, syB, reduceCtorEq, forall_const, Int.reduceToNat, Int.reduceAdd, Int.reduceSub, Int.cast_ofNat_Int, Int.toNat_natCast, Nat.le_eq, Nat.sub_eq, ne_eq, implies_true, wadd, wsub, wmul, Nat.succ_eq_add_one] at *)
      omega
    · (subst hL; subst hQ; simp only [L2, L3, std] at *; try simp only [sySet, syB, reduceCtorEq, forall_const, Int.reduceToNat, Int.reduceAdd, Int.reduceSub, Int.cast_ofNat_Int, Int.toNat_natCast, Nat.le_eq, Nat.sub_eq, ne_eq, implies_true, wadd, wsub, wmul, Nat.succ_eq_add_one] at *)
      exact ha _ (by rw [nthCl, nthW_at (V := clV) (by omega)]; exact List.getElem_mem _)
    · (subst hL; subst hQ; simp only [L2, L3, std] at *; try simp only [sySet, syB, reduceCtorEq, forall_const, Int.reduceToNat, Int.reduceAdd, Int.reduceSub, Int.cast_ofNat_Int, Int.toNat_natCast, Nat.le_eq, Nat.sub_eq, ne_eq, implies_true, wadd, wsub, wmul, Nat.succ_eq_add_one] at *)
      exact (noneW_yes (V := clV) hi (by omega) hb).symm
    · (cbv; try simp only [sat_need, sat_must, sat_ite, sat_done, sat_yes, sat_ex, sat_all, sat_sup, sat_and, sat_fail, true_and, and_true])
      try simp only [hG]
      (subst hL; subst hQ; simp only [L2, L3, std] at *; try simp only [sySet, syB, reduceCtorEq, forall_const, Int.reduceToNat, Int.reduceAdd, Int.reduceSub, Int.cast_ofNat_Int, Int.toNat_natCast, Nat.le_eq, Nat.sub_eq, ne_eq, implies_true, wadd, wsub, wmul, Nat.succ_eq_add_one] at *)
      exact ⟨by omega, noneW_step (V := clV) hi (by omega) hb, by omega⟩
    · (subst hL; subst hQ; simp only [L2, L3, std] at *; try simp only [sySet, syB, reduceCtorEq, forall_const, Int.reduceToNat, Int.reduceAdd, Int.reduceSub, Int.cast_ofNat_Int, Int.toNat_natCast, Nat.le_eq, Nat.sub_eq, ne_eq, implies_true, wadd, wsub, wmul, Nat.succ_eq_add_one] at *)
      exact (noneW_end hi (by omega)).symm
theorem anyMC_good (ih : Good Tryz.prog (prS 98 okGCl rdGCl manyC preMC std)) : Good Tryz.prog (anyS 97 98 okWCl rdWCl anyMC presMC std) := by
  intro xs p r h hp
  unfold anyS at h
  simp only at h
  split at h
  rotate_left
  · cases h
  rename_i x k
  cases hk : nbeq k 98 with
  | false => rw [hk] at h; cases h
  | true =>
  rw [hk] at h
  obtain rfl : k = 98 := of_decide_eq_true hk
  cases h
  obtain ⟨ho, hz, ha⟩ := hp
  refine ac_w1 clV_ok ho ?_
  have hz : lenE (rdW clV x) := hz
  have ha : presMC (rdW clV x) := ha
  show ACalls _ _ _ (.bool (anyMC (rdW clV x)))
  generalize rdW clV x = l at hz ha ⊢
  refine acalls_L' (T := tt) (S := fun L => sumOf [idxS 121 98 okWCl rdWCl idxMC presMC L]) (lo := fun _ => noA std) (lb := noA) 5 (fn := Tryz.f97) (xs := fun L => [lstCl L l, .fn 98 [] []]) rfl rfl (by kernel_rfl) (by kernel_rfl) rfl tt_ok
    (sumOf_ok ⟨idxMC_good ih, trivial⟩) (by kernel_rfl) ?_
  intro L P' Q' hL hP hQ
  (cbv; try simp only [sat_need, sat_must, sat_ite, sat_done, sat_yes, sat_ex, sat_all, sat_sup, sat_and, sat_fail, true_and, and_true])
  (subst hL; subst hQ; simp only [L2, L3, std] at *; try simp only [sySet, syB, reduceCtorEq, forall_const, Int.reduceToNat, Int.reduceAdd, Int.reduceSub, Int.cast_ofNat_Int, Int.toNat_natCast, Nat.le_eq, Nat.sub_eq, ne_eq, implies_true, wadd, wsub, wmul, Nat.succ_eq_add_one] at *)
  simp only [rdwCl]
  refine ⟨⟨okwCl _, hz, ha⟩, ?_⟩
  have := idxW_any manyC l
  rw [ile_is, show anyMC l = l.any manyC from rfl, ← this]; rfl
def idxBE (l : List Ep) : Int := idxW belE l
def anyBE (l : List Ep) : Bool := l.any belE
def noneBE (l : List Ep) (i : Nat) : Prop := noneW belE l i
def presBE (l : List Ep) : Prop := allE preBE l
theorem idxBE_good (ih : Good Tryz.prog (prS 101 okGEp rdGEp belE preBE std)) : Good Tryz.prog (idxS 122 101 okWEp rdWEp idxBE presBE std) := by
  intro xs p r h hp
  unfold idxS at h
  simp only at h
  split at h
  rotate_left
  · cases h
  rename_i x k
  cases hk : nbeq k 101 with
  | false => rw [hk] at h; cases h
  | true =>
  rw [hk] at h
  obtain rfl : k = 101 := of_decide_eq_true hk
  cases h
  obtain ⟨ho, hz, ha⟩ := hp
  refine ac_w1 epV_ok ho ?_
  have hz : lenE (rdW epV x) := hz
  have ha : presBE (rdW epV x) := ha
  show ACalls _ _ _ (.int .i64 (idxW belE (rdW epV x)))
  generalize rdW epV x = l at hz ha ⊢
  refine acalls_L' (T := tt) (S := fun L => sumOf [prS 101 okGEp rdGEp belE preBE L]) (lo := fun L => ixA L noneBE l) (lb := noA) 5 (fn := Tryz.f122) (xs := fun L => [lstEp L l, .fn 101 [] []]) rfl rfl (by kernel_rfl) (by kernel_rfl) rfl tt_ok
    (sumOf_ok ⟨ih, trivial⟩) (by kernel_rfl) ?_
  intro L P' Q' hL hP hQ
  (cbv; try simp only [sat_need, sat_must, sat_ite, sat_done, sat_yes, sat_ex, sat_all, sat_sup, sat_and, sat_fail, true_and, and_true])
  refine ⟨⟨0, ?_⟩, fun i hi => ?_⟩
  · (cbv; try simp only [sat_need, sat_must, sat_ite, sat_done, sat_yes, sat_ex, sat_all, sat_sup, sat_and, sat_fail, true_and, and_true])
    (subst hL; subst hQ; simp only [L2, L3, std] at *; try simp only [sySet, syB, reduceCtorEq, forall_const, Int.reduceToNat, Int.reduceAdd, Int.reduceSub, Int.cast_ofNat_Int, Int.toNat_natCast, Nat.le_eq, Nat.sub_eq, ne_eq, implies_true, wadd, wsub, wmul, Nat.succ_eq_add_one] at *)
    exact noneW_0 _ _
  · cbv at hi
    have hG : ∀ y : Ep, L rdGEp (.agg [.int .u8 (L Pl.a (L Ep.pl y)), .int .u8 (L Pl.b (L Ep.pl y)), .int .u8 (L Pl.c (L Ep.pl y)), .int .u8 (L Pl.d (L Ep.pl y)), .int .u16 (L Pl.p (L Ep.pl y)), .int .i64 (L Ep.w y)]) = y := by subst hL; exact fun y => (gK epV_ok y _ rfl).2
    have hO : ∀ y : Ep, L okGEp (.agg [.int .u8 (L Pl.a (L Ep.pl y)), .int .u8 (L Pl.b (L Ep.pl y)), .int .u8 (L Pl.c (L Ep.pl y)), .int .u8 (L Pl.d (L Ep.pl y)), .int .u16 (L Pl.p (L Ep.pl y)), .int .i64 (L Ep.w y)]) := by subst hL; exact fun y => (gK epV_ok y _ rfl).1
    (cbv; try simp only [sat_need, sat_must, sat_ite, sat_done, sat_yes, sat_ex, sat_all, sat_sup, sat_and, sat_fail, true_and, and_true])
    simp only [hG, hO, true_and]
    have hw : lenW l = l.length := rfl
    have hz : l.length ≤ 1000000 := hz
    refine ⟨fun hlt => ⟨?_, ?_, fun hb => ?_, fun hb => ⟨i + 1, ?_⟩⟩, fun hge => ?_⟩
    · (subst hL; subst hQ; simp only [L2, L3, std] at *; try simp only [sySet, syB, reduceCtorEq, forall_const, Int.reduceToNat, Int.reduceAdd, Int.reduceSub, Int.cast_ofNat_Int, Int.toNat_natCast, Nat.le_eq, Nat.sub_eq, ne_eq, implies_true, wadd, wsub, wmul, Nat.succ_eq_add_one] at *)
      omega
    · (subst hL; subst hQ; simp only [L2, L3, std] at *; try simp only [sySet, syB, reduceCtorEq, forall_const, Int.reduceToNat, Int.reduceAdd, Int.reduceSub, Int.cast_ofNat_Int, Int.toNat_natCast, Nat.le_eq, Nat.sub_eq, ne_eq, implies_true, wadd, wsub, wmul, Nat.succ_eq_add_one] at *)
      exact ha _ (by rw [nthEp, nthW_at (V := epV) (by omega)]; exact List.getElem_mem _)
    · (subst hL; subst hQ; simp only [L2, L3, std] at *; try simp only [sySet, syB, reduceCtorEq, forall_const, Int.reduceToNat, Int.reduceAdd, Int.reduceSub, Int.cast_ofNat_Int, Int.toNat_natCast, Nat.le_eq, Nat.sub_eq, ne_eq, implies_true, wadd, wsub, wmul, Nat.succ_eq_add_one] at *)
      exact (noneW_yes (V := epV) hi (by omega) hb).symm
    · (cbv; try simp only [sat_need, sat_must, sat_ite, sat_done, sat_yes, sat_ex, sat_all, sat_sup, sat_and, sat_fail, true_and, and_true])
      try simp only [hG]
      (subst hL; subst hQ; simp only [L2, L3, std] at *; try simp only [sySet, syB, reduceCtorEq, forall_const, Int.reduceToNat, Int.reduceAdd, Int.reduceSub, Int.cast_ofNat_Int, Int.toNat_natCast, Nat.le_eq, Nat.sub_eq, ne_eq, implies_true, wadd, wsub, wmul, Nat.succ_eq_add_one] at *)
      exact ⟨by omega, noneW_step (V := epV) hi (by omega) hb, by omega⟩
    · (subst hL; subst hQ; simp only [L2, L3, std] at *; try simp only [sySet, syB, reduceCtorEq, forall_const, Int.reduceToNat, Int.reduceAdd, Int.reduceSub, Int.cast_ofNat_Int, Int.toNat_natCast, Nat.le_eq, Nat.sub_eq, ne_eq, implies_true, wadd, wsub, wmul, Nat.succ_eq_add_one] at *)
      exact (noneW_end hi (by omega)).symm
theorem anyBE_good (ih : Good Tryz.prog (prS 101 okGEp rdGEp belE preBE std)) : Good Tryz.prog (anyS 100 101 okWEp rdWEp anyBE presBE std) := by
  intro xs p r h hp
  unfold anyS at h
  simp only at h
  split at h
  rotate_left
  · cases h
  rename_i x k
  cases hk : nbeq k 101 with
  | false => rw [hk] at h; cases h
  | true =>
  rw [hk] at h
  obtain rfl : k = 101 := of_decide_eq_true hk
  cases h
  obtain ⟨ho, hz, ha⟩ := hp
  refine ac_w1 epV_ok ho ?_
  have hz : lenE (rdW epV x) := hz
  have ha : presBE (rdW epV x) := ha
  show ACalls _ _ _ (.bool (anyBE (rdW epV x)))
  generalize rdW epV x = l at hz ha ⊢
  refine acalls_L' (T := tt) (S := fun L => sumOf [idxS 122 101 okWEp rdWEp idxBE presBE L]) (lo := fun _ => noA std) (lb := noA) 5 (fn := Tryz.f100) (xs := fun L => [lstEp L l, .fn 101 [] []]) rfl rfl (by kernel_rfl) (by kernel_rfl) rfl tt_ok
    (sumOf_ok ⟨idxBE_good ih, trivial⟩) (by kernel_rfl) ?_
  intro L P' Q' hL hP hQ
  (cbv; try simp only [sat_need, sat_must, sat_ite, sat_done, sat_yes, sat_ex, sat_all, sat_sup, sat_and, sat_fail, true_and, and_true])
  (subst hL; subst hQ; simp only [L2, L3, std] at *; try simp only [sySet, syB, reduceCtorEq, forall_const, Int.reduceToNat, Int.reduceAdd, Int.reduceSub, Int.cast_ofNat_Int, Int.toNat_natCast, Nat.le_eq, Nat.sub_eq, ne_eq, implies_true, wadd, wsub, wmul, Nat.succ_eq_add_one] at *)
  simp only [rdwEp]
  refine ⟨⟨okwEp _, hz, ha⟩, ?_⟩
  have := idxW_any belE l
  rw [ile_is, show anyBE l = l.any belE from rfl, ← this]; rfl
theorem bC_good : Good Tryz.prog (prS 99 okGCl rdGCl belC preBC std) := by
  intro xs p r h hp
  dsimp only [prS] at h ⊢
  split at h <;> cases h
  try simp only [L2, L3, std] at hp ⊢
  rename_i x
  refine ac_g clV_ok hp.1 ?_
  have hp := hp.2
  show ACalls _ _ _ (.bool (belC (rdG clV x)))
  have hp : preBC (rdG clV x) := hp
  generalize rdG clV x = y at hp ⊢
  refine acalls_L' (T := tt) (S := fun L => sumOf [anyS 100 101 okWEp rdWEp anyBE presBE L]) (lo := fun _ => noA std) (lb := noA) 5 (fn := Tryz.f99) (xs := fun L => [.agg [.str (L Cl.n y), lstEp L (L Cl.es y)]]) rfl rfl (by kernel_rfl) (by kernel_rfl) rfl tt_ok (sumOf_ok ⟨anyBE_good bE_good, trivial⟩) (by kernel_rfl) ?_
  intro L P' Q' hL hP hQ
  (cbv; try simp only [sat_need, sat_must, sat_ite, sat_done, sat_yes, sat_ex, sat_all, sat_sup, sat_and, sat_fail, true_and, and_true])
  (subst hL; subst hQ; simp only [L2, L3, std] at *; try simp only [sySet, syB, reduceCtorEq, forall_const, Int.reduceToNat, Int.reduceAdd, Int.reduceSub, Int.cast_ofNat_Int, Int.toNat_natCast, Nat.le_eq, Nat.sub_eq, ne_eq, implies_true, wadd, wsub, wmul, Nat.succ_eq_add_one] at *)
  simp only [rdwEp]
  exact ⟨⟨okwEp _, hp, fun _ _ => trivial⟩, rfl⟩
def idxBC (l : List Cl) : Int := idxW belC l
def anyBC (l : List Cl) : Bool := l.any belC
def noneBC (l : List Cl) (i : Nat) : Prop := noneW belC l i
def presBC (l : List Cl) : Prop := allE preBC l
theorem idxBC_good (ih : Good Tryz.prog (prS 99 okGCl rdGCl belC preBC std)) : Good Tryz.prog (idxS 121 99 okWCl rdWCl idxBC presBC std) := by
  intro xs p r h hp
  unfold idxS at h
  simp only at h
  split at h
  rotate_left
  · cases h
  rename_i x k
  cases hk : nbeq k 99 with
  | false => rw [hk] at h; cases h
  | true =>
  rw [hk] at h
  obtain rfl : k = 99 := of_decide_eq_true hk
  cases h
  obtain ⟨ho, hz, ha⟩ := hp
  refine ac_w1 clV_ok ho ?_
  have hz : lenE (rdW clV x) := hz
  have ha : presBC (rdW clV x) := ha
  show ACalls _ _ _ (.int .i64 (idxW belC (rdW clV x)))
  generalize rdW clV x = l at hz ha ⊢
  refine acalls_L' (T := tt) (S := fun L => sumOf [prS 99 okGCl rdGCl belC preBC L]) (lo := fun L => ixA L noneBC l) (lb := noA) 5 (fn := Tryz.f121) (xs := fun L => [lstCl L l, .fn 99 [] []]) rfl rfl (by kernel_rfl) (by kernel_rfl) rfl tt_ok
    (sumOf_ok ⟨ih, trivial⟩) (by kernel_rfl) ?_
  intro L P' Q' hL hP hQ
  (cbv; try simp only [sat_need, sat_must, sat_ite, sat_done, sat_yes, sat_ex, sat_all, sat_sup, sat_and, sat_fail, true_and, and_true])
  refine ⟨⟨0, ?_⟩, fun i hi => ?_⟩
  · (cbv; try simp only [sat_need, sat_must, sat_ite, sat_done, sat_yes, sat_ex, sat_all, sat_sup, sat_and, sat_fail, true_and, and_true])
    (subst hL; subst hQ; simp only [L2, L3, std] at *; try simp only [sySet, syB, reduceCtorEq, forall_const, Int.reduceToNat, Int.reduceAdd, Int.reduceSub, Int.cast_ofNat_Int, Int.toNat_natCast, Nat.le_eq, Nat.sub_eq, ne_eq, implies_true, wadd, wsub, wmul, Nat.succ_eq_add_one] at *)
    exact noneW_0 _ _
  · cbv at hi
    have hG : ∀ y : Cl, L rdGCl (.agg [.str (L Cl.n y), .lst 6 (L lenW (L Cl.es y)) (fun i => epC L (L (L nthEp (L Cl.es y)) i))]) = y := by subst hL; exact fun y => (gK clV_ok y _ rfl).2
    have hO : ∀ y : Cl, L okGCl (.agg [.str (L Cl.n y), .lst 6 (L lenW (L Cl.es y)) (fun i => epC L (L (L nthEp (L Cl.es y)) i))]) := by subst hL; exact fun y => (gK clV_ok y _ rfl).1
    (cbv; try simp only [sat_need, sat_must, sat_ite, sat_done, sat_yes, sat_ex, sat_all, sat_sup, sat_and, sat_fail, true_and, and_true])
    simp only [hG, hO, true_and]
    have hw : lenW l = l.length := rfl
    have hz : l.length ≤ 1000000 := hz
    refine ⟨fun hlt => ⟨?_, ?_, fun hb => ?_, fun hb => ⟨i + 1, ?_⟩⟩, fun hge => ?_⟩
    · (subst hL; subst hQ; simp only [L2, L3, std] at *; try simp only [sySet, syB, reduceCtorEq, forall_const, Int.reduceToNat, Int.reduceAdd, Int.reduceSub, Int.cast_ofNat_Int, Int.toNat_natCast, Nat.le_eq, Nat.sub_eq, ne_eq, implies_true, wadd, wsub, wmul, Nat.succ_eq_add_one] at *)
      omega
    · (subst hL; subst hQ; simp only [L2, L3, std] at *; try simp only [sySet, syB, reduceCtorEq, forall_const, Int.reduceToNat, Int.reduceAdd, Int.reduceSub, Int.cast_ofNat_Int, Int.toNat_natCast, Nat.le_eq, Nat.sub_eq, ne_eq, implies_true, wadd, wsub, wmul, Nat.succ_eq_add_one] at *)
      exact ha _ (by rw [nthCl, nthW_at (V := clV) (by omega)]; exact List.getElem_mem _)
    · (subst hL; subst hQ; simp only [L2, L3, std] at *; try simp only [sySet, syB, reduceCtorEq, forall_const, Int.reduceToNat, Int.reduceAdd, Int.reduceSub, Int.cast_ofNat_Int, Int.toNat_natCast, Nat.le_eq, Nat.sub_eq, ne_eq, implies_true, wadd, wsub, wmul, Nat.succ_eq_add_one] at *)
      exact (noneW_yes (V := clV) hi (by omega) hb).symm
    · (cbv; try simp only [sat_need, sat_must, sat_ite, sat_done, sat_yes, sat_ex, sat_all, sat_sup, sat_and, sat_fail, true_and, and_true])
      try simp only [hG]
      (subst hL; subst hQ; simp only [L2, L3, std] at *; try simp only [sySet, syB, reduceCtorEq, forall_const, Int.reduceToNat, Int.reduceAdd, Int.reduceSub, Int.cast_ofNat_Int, Int.toNat_natCast, Nat.le_eq, Nat.sub_eq, ne_eq, implies_true, wadd, wsub, wmul, Nat.succ_eq_add_one] at *)
      exact ⟨by omega, noneW_step (V := clV) hi (by omega) hb, by omega⟩
    · (subst hL; subst hQ; simp only [L2, L3, std] at *; try simp only [sySet, syB, reduceCtorEq, forall_const, Int.reduceToNat, Int.reduceAdd, Int.reduceSub, Int.cast_ofNat_Int, Int.toNat_natCast, Nat.le_eq, Nat.sub_eq, ne_eq, implies_true, wadd, wsub, wmul, Nat.succ_eq_add_one] at *)
      exact (noneW_end hi (by omega)).symm
theorem anyBC_good (ih : Good Tryz.prog (prS 99 okGCl rdGCl belC preBC std)) : Good Tryz.prog (anyS 97 99 okWCl rdWCl anyBC presBC std) := by
  intro xs p r h hp
  unfold anyS at h
  simp only at h
  split at h
  rotate_left
  · cases h
  rename_i x k
  cases hk : nbeq k 99 with
  | false => rw [hk] at h; cases h
  | true =>
  rw [hk] at h
  obtain rfl : k = 99 := of_decide_eq_true hk
  cases h
  obtain ⟨ho, hz, ha⟩ := hp
  refine ac_w1 clV_ok ho ?_
  have hz : lenE (rdW clV x) := hz
  have ha : presBC (rdW clV x) := ha
  show ACalls _ _ _ (.bool (anyBC (rdW clV x)))
  generalize rdW clV x = l at hz ha ⊢
  refine acalls_L' (T := tt) (S := fun L => sumOf [idxS 121 99 okWCl rdWCl idxBC presBC L]) (lo := fun _ => noA std) (lb := noA) 5 (fn := Tryz.f97) (xs := fun L => [lstCl L l, .fn 99 [] []]) rfl rfl (by kernel_rfl) (by kernel_rfl) rfl tt_ok
    (sumOf_ok ⟨idxBC_good ih, trivial⟩) (by kernel_rfl) ?_
  intro L P' Q' hL hP hQ
  (cbv; try simp only [sat_need, sat_must, sat_ite, sat_done, sat_yes, sat_ex, sat_all, sat_sup, sat_and, sat_fail, true_and, and_true])
  (subst hL; subst hQ; simp only [L2, L3, std] at *; try simp only [sySet, syB, reduceCtorEq, forall_const, Int.reduceToNat, Int.reduceAdd, Int.reduceSub, Int.cast_ofNat_Int, Int.toNat_natCast, Nat.le_eq, Nat.sub_eq, ne_eq, implies_true, wadd, wsub, wmul, Nat.succ_eq_add_one] at *)
  simp only [rdwCl]
  refine ⟨⟨okwCl _, hz, ha⟩, ?_⟩
  have := idxW_any belC l
  rw [ile_is, show anyBC l = l.any belC from rfl, ← this]; rfl
end Sy
end Go.Proofs.YtcgikjfloloekaaGreatDoor
namespace Go.Proofs.YtcgikjfloloekaaGreatDoor
namespace Sy
open Go Go.RowKit
set_option maxRecDepth 100000
set_option linter.unusedSimpArgs false
set_option linter.unusedVariables false
structure Fits (v : CV) (a b : Nat) : Prop where
  wf : wfV v
  sz : sizeC v ≤ a
  tx : (textV v).length ≤ b
theorem Fits.up {v : CV} {a b a' b' : Nat} (h : Fits v a b) (ha : a ≤ a') (hb : b ≤ b') : Fits v a' b' := ⟨h.wf, by have := h.sz; omega, by have := h.tx; omega⟩
theorem fit_num {n : Int} (h : shortOk n) : Fits (numV n) 1 11 := by
  refine ⟨?_, ?_, ?_⟩
  · rw [numV, wfV, wfLs]; exact ⟨h, by decide, trivial⟩
  · rw [numV, sizeC_mk, sizeCs_nil]; omega
  · rw [numV, textV_mk, if_pos rfl, List.length_append]
    have := shortZ_len h
    have e : (byteK 1).length = 1 := rfl
    omega
theorem fit_txt {s : List UInt8} {m : Nat} (h : s.length ≤ m) (hm : m ≤ 1000000) : Fits (txtV s) 1 (11 + m) := by
  refine ⟨?_, ?_, ?_⟩
  · rw [txtV, wfV, wfLs]; exact ⟨⟨by decide, by decide⟩, by omega, trivial⟩
  · rw [txtV, sizeC_mk, sizeCs_nil]; omega
  · rw [txtV, textV_mk, if_neg (by decide), if_pos rfl, List.length_append, List.length_append]
    have := shortZ_len (n := (s.length : Int)) ⟨by omega, by omega⟩
    have e : (byteK 2).length = 1 := rfl
    omega
theorem fit_ls {a b : Nat} : ∀ {l : List CV}, (∀ v ∈ l, Fits v a b) → wfLs l ∧ sizeCs l ≤ l.length * a ∧ (textLs l).length ≤ l.length * b
  | [], _ => by rw [wfLs, sizeCs_nil, textLs]; exact ⟨trivial, by simp, by simp⟩
  | v :: l, h => by
    obtain ⟨i1, i2, i3⟩ := fit_ls (l := l) fun w hw => h w (by simp [hw])
    have hv := h v (by simp)
    have h2 := hv.sz
    have h3 := hv.tx
    rw [wfLs, sizeCs_cons, textLs, List.length_append, List.length_cons, Nat.succ_mul, Nat.succ_mul]
    exact ⟨⟨hv.wf, i1⟩, by omega, by omega⟩
theorem fit_row {l : List CV} {a b : Nat} (m : Nat) (h : ∀ v ∈ l, Fits v a b) (hl : l.length ≤ m) (hm : m ≤ 1000) : Fits (rowV l) (m * a + 1) (11 + m * b) := by
  obtain ⟨i1, i2, i3⟩ := fit_ls h
  have e1 := Nat.mul_le_mul_right a hl
  have e2 := Nat.mul_le_mul_right b hl
  refine ⟨?_, ?_, ?_⟩
  · rw [rowV, wfV]; exact ⟨⟨by decide, by decide⟩, by decide, i1⟩
  · rw [rowV, sizeC_mk]; omega
  · rw [rowV, textV_mk, if_neg (by decide), if_neg (by decide), List.length_append, List.length_append]
    have := shortZ_len (n := (l.length : Int)) ⟨by omega, by omega⟩
    have e : (byteK 3).length = 1 := rfl
    omega
def lightR (x : Rt) : Bool := decide (x.h.length ≤ 300) && decide (x.p.length ≤ 300) && decide (x.c.length ≤ 300)
def lightL (x : Ls) : Bool := decide (x.n.length ≤ 300) && decide (x.rs.length ≤ 12) && x.rs.all lightR
def lightC (x : Cl) : Bool := decide (x.n.length ≤ 300) && decide (x.es.length ≤ 12)
def lightF (x : Cf) : Bool := decide (x.ls.length ≤ 12) && decide (x.cs.length ≤ 12) && x.ls.all lightL && x.cs.all lightC
def wfRt (x : Rt) : Prop := shortOk x.i
def wfEp (x : Ep) : Prop := plOk x.pl ∧ -9223372036854775808 ≤ x.w ∧ x.w ≤ 9223372036854775807
def wfLsn (x : Ls) : Prop := plOk x.pl ∧ ∀ r ∈ x.rs, wfRt r
def wfCl (x : Cl) : Prop := ∀ e ∈ x.es, wfEp e
def wfCf (x : Cf) : Prop := shortOk x.v ∧ (∀ l ∈ x.ls, wfLsn l) ∧ ∀ c ∈ x.cs, wfCl c
def cfVal (x : Cf) : CV := rowV [numV x.v, lssVal x.ls, clsVal x.cs]
theorem plB_len (x : Pl) : (plB x).length = 6 := rfl
theorem fit_rt {x : Rt} (hl : lightR x = true) (hw : wfRt x) : Fits (rtVal x) 5 1255 := by
  simp only [lightR, Bool.and_eq_true, decide_eq_true_eq] at hl
  refine fit_row (a := 1) (b := 311) 4 (fun v hv => ?_) (Nat.le_of_ble_eq_true rfl) (by decide)
  simp only [List.mem_cons, List.not_mem_nil, or_false] at hv
  rcases hv with rfl | rfl | rfl | rfl
  · exact fit_txt hl.1.1 (by omega)
  · exact fit_txt hl.1.2 (by omega)
  · exact fit_txt hl.2 (by omega)
  · exact (fit_num hw).up (by omega) (by omega)
theorem fit_each {α : Type} {val : α → CV} {l : List α} {a b : Nat} (m : Nat) (h : ∀ x ∈ l, Fits (val x) a b) (hl : l.length ≤ m) (hm : m ≤ 1000) : Fits (eachV val l) (m * a + 1) (11 + m * b) :=
  fit_row m (fun v hv => by obtain ⟨x, hx, rfl⟩ := List.mem_map.1 hv; exact h x hx) (by simpa using hl) hm
theorem fit_ep {x : Ep} (hw : wfEp x) : Fits (epVal x) 3 45 := by
  refine fit_row (a := 1) (b := 17) 2 (fun v hv => ?_) (Nat.le_of_ble_eq_true rfl) (by decide)
  simp only [List.mem_cons, List.not_mem_nil, or_false] at hv
  rcases hv with rfl | rfl
  · exact fit_txt (m := 6) (Nat.le_of_eq (plB_len _)) (by omega)
  · exact (fit_num ⟨by omega, by omega⟩).up (by omega) (by omega)
theorem fit_lsn {x : Ls} (hl : lightL x = true) (hw : wfLsn x) : Fits (lsVal x) 184 45224 := by
  simp only [lightL, Bool.and_eq_true, decide_eq_true_eq, List.all_eq_true] at hl
  refine fit_row (a := 61) (b := 15071) 3 (fun v hv => ?_) (Nat.le_of_ble_eq_true rfl) (by decide)
  simp only [List.mem_cons, List.not_mem_nil, or_false] at hv
  rcases hv with rfl | rfl | rfl
  · exact (fit_txt hl.1.1 (by omega)).up (by omega) (by omega)
  · exact (fit_txt (m := 6) (Nat.le_of_eq (plB_len _)) (by omega)).up (by omega) (by omega)
  · exact (fit_each (a := 5) (b := 1255) 12 (fun r hr => fit_rt (hl.2 r hr) (hw.2 r hr)) hl.1.2 (by omega)).up (by omega) (by omega)
theorem fit_cl {x : Cl} (hl : lightC x = true) (hw : wfCl x) : Fits (clVal x) 75 1113 := by
  simp only [lightC, Bool.and_eq_true, decide_eq_true_eq] at hl
  refine fit_row (a := 37) (b := 551) 2 (fun v hv => ?_) (Nat.le_of_ble_eq_true rfl) (by decide)
  simp only [List.mem_cons, List.not_mem_nil, or_false] at hv
  rcases hv with rfl | rfl
  · exact (fit_txt hl.1 (by omega)).up (by omega) (by omega)
  · exact (fit_each (a := 3) (b := 45) 12 (fun e he => fit_ep (hw e he)) hl.2 (by omega)).up (by omega) (by omega)
theorem fit_cf {x : Cf} (hl : lightF x = true) (hw : wfCf x) : Fits (cfVal x) 7000 2000000 := by
  simp only [lightF, Bool.and_eq_true, decide_eq_true_eq, List.all_eq_true] at hl
  refine (fit_row (a := 2209) (b := 542699) 3 (fun v hv => ?_) (Nat.le_of_ble_eq_true rfl) (by decide)).up (by decide) (by decide)
  simp only [List.mem_cons, List.not_mem_nil, or_false] at hv
  rcases hv with rfl | rfl | rfl
  · exact (fit_num hw.1).up (by omega) (by omega)
  · exact (fit_each (a := 184) (b := 45224) 12 (fun r hr => fit_lsn (hl.1.2 r hr) (hw.2.1 r hr)) hl.1.1.1 (by omega)).up (by omega) (by omega)
  · exact (fit_each (a := 75) (b := 1113) 12 (fun r hr => fit_cl (hl.2 r hr) (hw.2.2 r hr)) hl.1.1.2 (by omega)).up (by omega) (by omega)
def manyF (x : Cf) : Bool := decide (8 < x.ls.length ∨ 8 < x.cs.length) || x.ls.any manyL || x.cs.any manyC
def belF (x : Cf) : Bool := x.cs.any belC
def cfE (x : Cf) : Int := if manyF x = true then 6 else if belF x = true then 7 else putE (cfVal x)
def cfT (x : Cf) : List UInt8 := if cfE x = 0 then putT (cfVal x) else []
end Sy
end Go.Proofs.YtcgikjfloloekaaGreatDoor
namespace Go.Proofs.YtcgikjfloloekaaGreatDoor
namespace Sy
open Go Go.RowKit
set_option maxRecDepth 100000
set_option linter.unusedSimpArgs false
set_option linter.unusedVariables false
theorem lit3 (a b c : CV) : rdL (.lst 4 3 fun i j => lget .dead [.int .i64 a.kd, .int .u64 a.nn, .str a.tx, .lst 4 (lenV a) (cvIn a), .int .i64 b.kd, .int .u64 b.nn, .str b.tx, .lst 4 (lenV b) (cvIn b), .int .i64 c.kd, .int .u64 c.nn, .str c.tx, .lst 4 (lenV c) (cvIn c)] (i * 4 + j)) = [a, b, c] := (cells4_rd [a, b, c] (n := 3) rfl rfl).1
theorem lit3_ok (a b c : CV) : okL (.lst 4 3 fun i j => lget .dead [.int .i64 a.kd, .int .u64 a.nn, .str a.tx, .lst 4 (lenV a) (cvIn a), .int .i64 b.kd, .int .u64 b.nn, .str b.tx, .lst 4 (lenV b) (cvIn b), .int .i64 c.kd, .int .u64 c.nn, .str c.tx, .lst 4 (lenV c) (cvIn c)] (i * 4 + j)) := (cells4_rd [a, b, c] (n := 3) rfl rfl).2
def lens12 (n : Nat) (x : Cf) : Prop := x.ls.length ≤ n ∧ x.cs.length ≤ n
def preMF (x : Cf) : Prop := lens12 1000000 x
def preBF (x : Cf) : Prop := lenE x.cs ∧ ∀ c ∈ x.cs, preBC c
theorem manyF_good : Good Tryz.prog (prS 62 okGCf rdGCf manyF preMF std) := by
  intro xs p r h hp
  dsimp only [prS] at h ⊢
  split at h <;> cases h
  try simp only [L2, L3, std] at hp ⊢
  rename_i x
  refine ac_g cfV_ok hp.1 ?_
  have hp := hp.2
  show ACalls _ _ _ (.bool (manyF (rdG cfV x)))
  have hp : preMF (rdG cfV x) := hp
  generalize rdG cfV x = y at hp ⊢
  refine acalls_L' (T := tt) (S := fun L => sumOf [anyS 95 96 okWLs rdWLs anyML presML L, anyS 97 98 okWCl rdWCl anyMC presMC L]) (lo := fun _ => noA std) (lb := noA) 5 (fn := Tryz.f62) (xs := fun L => [.agg [.int .u64 (L Cf.v y), lstLs L (L Cf.ls y), lstCl L (L Cf.cs y)]]) rfl rfl (by kernel_rfl) (by kernel_rfl) rfl tt_ok (sumOf_ok ⟨anyML_good mL_good, anyMC_good mC_good, trivial⟩) (by kernel_rfl) ?_
  intro L P' Q' hL hP hQ
  (cbv; try simp only [sat_need, sat_must, sat_ite, sat_done, sat_yes, sat_ex, sat_all, sat_sup, sat_and, sat_fail, true_and, and_true])
  (subst hL; subst hQ; simp only [L2, L3, std] at *; try simp only [sySet, syB, reduceCtorEq, forall_const, Int.reduceToNat, Int.reduceAdd, Int.reduceSub, Int.cast_ofNat_Int, Int.toNat_natCast, Nat.le_eq, Nat.sub_eq, ne_eq, implies_true, wadd, wsub, wmul, Nat.succ_eq_add_one] at *)
  simp only [rdwLs, rdwCl]
  have e1 : lenW y.ls = y.ls.length := rfl
  have e2 : lenW y.cs = y.cs.length := rfl
  refine ⟨fun h => ?_, fun h => ⟨⟨okwLs _, hp.1, fun _ _ => trivial⟩, fun h2 => ?_, fun h2 => ⟨⟨okwCl _, hp.2, fun _ _ => trivial⟩, ?_⟩⟩⟩
  · unfold manyF; rw [decide_eq_true (by omega)]; rfl
  · unfold manyF; rw [show y.ls.any manyL = true from h2]; simp
  · unfold manyF; rw [show y.ls.any manyL = false from h2, decide_eq_false (by omega)]; simp; rfl
theorem belF_good : Good Tryz.prog (prS 63 okGCf rdGCf belF preBF std) := by
  intro xs p r h hp
  dsimp only [prS] at h ⊢
  split at h <;> cases h
  try simp only [L2, L3, std] at hp ⊢
  rename_i x
  refine ac_g cfV_ok hp.1 ?_
  have hp := hp.2
  show ACalls _ _ _ (.bool (belF (rdG cfV x)))
  have hp : preBF (rdG cfV x) := hp
  generalize rdG cfV x = y at hp ⊢
  refine acalls_L' (T := tt) (S := fun L => sumOf [anyS 97 99 okWCl rdWCl anyBC presBC L]) (lo := fun _ => noA std) (lb := noA) 5 (fn := Tryz.f63) (xs := fun L => [.agg [.int .u64 (L Cf.v y), lstLs L (L Cf.ls y), lstCl L (L Cf.cs y)]]) rfl rfl (by kernel_rfl) (by kernel_rfl) rfl tt_ok (sumOf_ok ⟨anyBC_good bC_good, trivial⟩) (by kernel_rfl) ?_
  intro L P' Q' hL hP hQ
  (cbv; try simp only [sat_need, sat_must, sat_ite, sat_done, sat_yes, sat_ex, sat_all, sat_sup, sat_and, sat_fail, true_and, and_true])
  (subst hL; subst hQ; simp only [L2, L3, std] at *; try simp only [sySet, syB, reduceCtorEq, forall_const, Int.reduceToNat, Int.reduceAdd, Int.reduceSub, Int.cast_ofNat_Int, Int.toNat_natCast, Nat.le_eq, Nat.sub_eq, ne_eq, implies_true, wadd, wsub, wmul, Nat.succ_eq_add_one] at *)
  simp only [rdwCl]
  exact ⟨⟨okwCl _, hp.1, hp.2⟩, rfl⟩
def bytPre (x : Cf) : Prop := lightF x = true ∧ wfCf x
def byt_s (L : Seal) : Ent1 := (39, fun xs => match xs with
  | [x] => some (L okGCf x ∧ L bytPre (L rdGCf x), .tup [.str (L cfT (L rdGCf x)), .int .i64 (L cfE (L rdGCf x))])
  | _ => none)
theorem byt_good : Good Tryz.prog (byt_s std) := by
  intro xs p r h hp
  dsimp only [byt_s] at h ⊢
  split at h <;> cases h
  try simp only [L2, L3, std] at hp ⊢
  rename_i x
  refine ac_g cfV_ok hp.1 ?_
  have hp := hp.2
  show ACalls _ _ _ (.tup [.str (cfT (rdG cfV x)), .int .i64 (cfE (rdG cfV x))])
  have hp : bytPre (rdG cfV x) := hp
  generalize rdG cfV x = y at hp ⊢
  refine acalls_L' (T := tt) (S := fun L => sumOf [prS 62 okGCf rdGCf manyF preMF L, prS 63 okGCf rdGCf belF preBF L, num_s L, list_s L, cput_s 7000 L, eachS 64 65 okWLs rdWLs lssPre lssVal L, eachS 66 67 okWCl rdWCl clsPre clsVal L]) (lo := fun _ => noA std) (lb := noA) 5 (fn := Tryz.f39) (xs := fun L => [.agg [.int .u64 (L Cf.v y), lstLs L (L Cf.ls y), lstCl L (L Cf.cs y)]]) rfl rfl (by kernel_rfl) (by kernel_rfl) rfl tt_ok (sumOf_ok ⟨manyF_good, belF_good, num_good, list_good, cput2_good 7000, eachLs_good listener_good, eachCl_good cluster_good, trivial⟩) (by kernel_rfl) ?_
  intro L P' Q' hL hP hQ
  have hG : L rdGCf (.agg [.int .u64 (L Cf.v y), .lst 7 (L lenW (L Cf.ls y)) (fun i => lsC L (L (L nthLs (L Cf.ls y)) i)), .lst 2 (L lenW (L Cf.cs y)) (fun i => clC L (L (L nthCl (L Cf.cs y)) i))]) = y := by subst hL; exact (gK cfV_ok y _ rfl).2
  have hO : L okGCf (.agg [.int .u64 (L Cf.v y), .lst 7 (L lenW (L Cf.ls y)) (fun i => lsC L (L (L nthLs (L Cf.ls y)) i)), .lst 2 (L lenW (L Cf.cs y)) (fun i => clC L (L (L nthCl (L Cf.cs y)) i))]) := by subst hL; exact (gK cfV_ok y _ rfl).1
  (cbv; try simp only [sat_need, sat_must, sat_ite, sat_done, sat_yes, sat_ex, sat_all, sat_sup, sat_and, sat_fail, true_and, and_true])
  simp only [hG, hO, true_and]
  (subst hL; subst hQ; simp only [L2, L3, std] at *; try simp only [sySet, syB, reduceCtorEq, forall_const, Int.reduceToNat, Int.reduceAdd, Int.reduceSub, Int.cast_ofNat_Int, Int.toNat_natCast, Nat.le_eq, Nat.sub_eq, ne_eq, implies_true, wadd, wsub, wmul, Nat.succ_eq_add_one] at *)
  simp only [rdwLs, rdwCl]
  simp only [lit3, mk_parts, mkV_parts]
  obtain ⟨hl, hw⟩ := hp
  have hf := fit_cf hl hw
  have hl' := hl
  simp only [lightF, Bool.and_eq_true, decide_eq_true_eq, List.all_eq_true, lightL, lightC] at hl'
  obtain ⟨⟨⟨l1, l2⟩, l3⟩, l4⟩ := hl'
  have sz1 : ∀ {α : Type} {l : List α} (n : Nat), n ≤ 12 → l.length ≤ n → lenE l := fun n hn hl => by show _ ≤ 1000000; omega
  refine ⟨⟨by omega, by omega⟩, fun h => ?_, fun h => ⟨⟨sz1 12 (by omega) l2, fun c hc => sz1 12 (by omega) (l4 c hc).2⟩, fun h2 => ?_, fun h2 => ⟨⟨okwLs _, sz1 12 (by omega) l1, fun x hx => ⟨(hw.2.1 x hx).1, sz1 12 (by omega) (l3 x hx).1.2⟩⟩, ⟨okwCl _, sz1 12 (by omega) l2, fun c hc => ⟨sz1 12 (by omega) (l4 c hc).2, fun e he => (hw.2.2 c hc e he).1⟩⟩, ⟨lit3_ok _ _ _, by show (3 : Nat) ≤ 1000000; omega⟩, ⟨(rd_in _).2, ⟨hf.sz, by omega⟩, hf.wf, ?_⟩, ?_⟩⟩⟩
  · have e : cfE y = 6 := by unfold cfE; rw [if_pos h]
    exact ⟨by rw [cfT, if_neg (by rw [e]; decide)], e.symm⟩
  · have e : cfE y = 7 := by unfold cfE; rw [if_neg (by rw [h]; decide), if_pos h2]
    exact ⟨by rw [cfT, if_neg (by rw [e]; decide)], e.symm⟩
  · have := hf.tx
    show (textV (cfVal y)).length ≤ 90000000
    omega
  · have e : cfE y = putE (cfVal y) := by unfold cfE; rw [if_neg (by rw [h]; decide), if_neg (by rw [h2]; decide)]
    refine ⟨?_, e.symm⟩
    show putT (cfVal y) = cfT y
    unfold cfT
    rw [e]
    split
    · rfl
    · rename_i h3
      unfold putT; rw [if_neg h3]
end Sy
end Go.Proofs.YtcgikjfloloekaaGreatDoor
namespace Go.Proofs.YtcgikjfloloekaaGreatDoor
namespace Sy
open Go Go.RowKit
set_option maxRecDepth 100000
set_option linter.unusedSimpArgs false
set_option linter.unusedVariables false
end Sy
end Go.Proofs.YtcgikjfloloekaaGreatDoor
namespace Go.Proofs.YtcgikjfloloekaaGreatDoor
namespace Sy
open Go Go.RowKit
set_option maxRecDepth 100000
set_option linter.unusedSimpArgs false
set_option linter.unusedVariables false
theorem Opens.turn {H : Type} {enc : TypeId × Value → H} {P : Program} {W : World} {t : TypeId} {α β : Type} {sz : Nat} {av : α → Nat → AV} {av' : β → Nat → AV} {ok : α → Prop} {ok' : β → Prop} (O : Opens enc P W t α sz av ok) (f : α → β) (h2 : ∀ y, ok y → ok' (f y))
    (h1 : ∀ y, ok y → ∀ j, j < sz → ∀ v, R W.heap (DW W) noMu (av y j) v → R W.heap (DW W) noMu (av' (f y) j) v) : Opens enc P W t β sz av' ok' := by
  refine ⟨O.size, fun fuel cs x h => ?_⟩
  obtain ⟨y, y1, y2, y3⟩ := O.go fuel cs x h
  refine ⟨f y, h2 y y1, y2, fun j hj => ?_⟩
  obtain ⟨v, v1, v2, v3⟩ := y3 j hj
  exact ⟨v, v1, v2, h1 y y1 j hj v v3⟩
end Sy
end Go.Proofs.YtcgikjfloloekaaGreatDoor
namespace Go.Proofs.YtcgikjfloloekaaGreatDoor
namespace Sy
open Go Go.RowKit
set_option maxRecDepth 100000
set_option linter.unusedSimpArgs false
set_option linter.unusedVariables false
theorem short3 : shortZ 3 = [3] := by rw [shortZ, show (3 : Int).toNat = 3 from rfl, shortL_small (by decide)]; rfl
theorem short0 : shortZ 0 = [0] := by rw [shortZ, show (0 : Int).toNat = 0 from rfl, shortL_small (by decide)]; rfl
theorem e9_row : textV (rowV []) = [3, 0] := by
  rw [rowV, textV_mk, if_neg (by decide), if_neg (by decide), textLs]
  show _ ++ (shortZ 0 ++ _) = _
  rw [short0]; rfl
theorem e9_text {n : Int} {b : UInt8} (h : shortZ n = [b]) : textV (rowV [numV n, rowV [], rowV []]) = [3, 3, 1, b, 3, 0, 3, 0] := by
  rw [rowV, textV_mk, if_neg (by decide), if_neg (by decide), textLs, textLs, textLs, textLs]
  show _ ++ (shortZ 3 ++ (_ ++ (_ ++ (_ ++ _)))) = _
  have e : textV (numV n) = [1, b] := by rw [numV, textV_mk, if_pos rfl, h]; rfl
  have e' : textV (.mk 3 0 [] []) = [3, 0] := e9_row
  rw [short3, e, show textV (rowV []) = [3, 0] from e9_row]; rfl
theorem e9_bare (n : Int) : bareV (rowV [numV n, rowV [], rowV []]) = true := by simp [rowV, numV, bareV, bareLs]
theorem e9_deep (n : Int) : deepV (rowV [numV n, rowV [], rowV []]) ≤ 6 := by
  simp only [rowV, numV, deepV, deepLs]
  split <;> decide
theorem e9_cf {n : Int} {b : UInt8} (h : shortZ n = [b]) : cfE ⟨n, [], []⟩ = 0 ∧ cfT ⟨n, [], []⟩ = [3, 3, 1, b, 3, 0, 3, 0] := by
  have h1 : putE (cfVal ⟨n, [], []⟩) = 0 := by
    show putE (rowV [numV n, rowV [], rowV []]) = 0
    have := e9_deep n
    rw [putE, if_pos (e9_bare n), if_neg (by omega), e9_text h]; rfl
  have h2 : cfE ⟨n, [], []⟩ = 0 := h1
  refine ⟨h2, ?_⟩
  rw [cfT, if_pos h2, (put_ok h1).2.2.2]
  exact e9_text h
theorem rd_new (n : Int) : rdGCf (.agg [.int .u64 n, .nils, .nils]) = ⟨n, [], []⟩ := rfl
theorem ok_new (n : Int) : okGCf (.agg [.int .u64 n, .nils, .nils]) := ⟨rfl, ⟨_, rfl⟩, trivial, trivial⟩
theorem pre_new {n : Int} (h : shortOk n) : bytPre ⟨n, [], []⟩ := ⟨rfl, h, (fun l hl => nomatch hl), (fun l hl => nomatch hl)⟩
theorem awake09_ac : ACalls Tryz.prog 50 [] (.bool true) := by
  refine acalls_L (T := tt) (S := fun L => sumOf [byt_s L, tru 79, tru 80]) (lo := noA) (lb := noA) 5 (fn := Tryz.f50) rfl rfl (by kernel_rfl) (by kernel_rfl) rfl tt_ok (sumOf_ok ⟨byt_good, tru_good Awake04_ac, tru_good Awake07_ac, trivial⟩) (by kernel_rfl) ?_
  intro L P' Q' hL hP hQ
  (cbv; try simp only [sat_need, sat_must, sat_ite, sat_done, sat_yes, sat_ex, sat_all, sat_sup, sat_and, sat_fail, true_and, and_true])
  (subst hL; subst hQ; simp only [L2, L3, std] at *; try simp only [sySet, syB, reduceCtorEq, forall_const, Int.reduceToNat, Int.reduceAdd, Int.reduceSub, Int.cast_ofNat_Int, Int.toNat_natCast, Nat.le_eq, Nat.sub_eq, ne_eq, implies_true, wadd, wsub, wmul, Nat.succ_eq_add_one] at *)
  simp only [rd_new, (e9_cf short1).1, (e9_cf short1).2, (e9_cf short0).1, (e9_cf short0).2]
  exact ⟨⟨ok_new 1, pre_new ⟨by decide, by decide⟩⟩, ⟨ok_new 0, pre_new ⟨by decide, by decide⟩⟩, fun _ => ⟨fun _ => ⟨fun _ => trivial, trivial⟩, trivial⟩, trivial⟩
end Sy
end Go.Proofs.YtcgikjfloloekaaGreatDoor
namespace Go.Proofs.YtcgikjfloloekaaGreatDoor
namespace Sy
open Go Go.RowKit
set_option maxRecDepth 100000
set_option linter.unusedSimpArgs false
set_option linter.unusedVariables false
theorem Awake09_ac : ACalls Tryz.prog 26 [] (.bool true) := by
  refine acalls_L (T := tt) (S := fun L => sumOf [tru 50]) (lo := noA) (lb := noA) 5 (fn := Tryz.f26) rfl rfl (by kernel_rfl) (by kernel_rfl) rfl tt_ok (sumOf_ok ⟨tru_good awake09_ac, trivial⟩) (by kernel_rfl) ?_
  (intro L P1 Q1 hL hP hQ; cbv; subst hL; simp only [L2, L3, std, sat_need, sat_must, sat_ite, sat_done, sat_yes, sat_ex, sat_all, sat_sup, sat_and, sat_fail]; subst hQ)
  (simp only [sySet, syB, reduceCtorEq, forall_const, Int.reduceToNat, Int.reduceAdd, Int.reduceSub, Int.cast_ofNat_Int, Int.toNat_natCast, Nat.le_eq, Nat.sub_eq, ne_eq, implies_true, wadd, wsub, wmul, Nat.succ_eq_add_one])
theorem Awake19_ac : ACalls Tryz.prog 27 [] (.bool true) := by
  refine acalls_L (T := tt) (S := fun L => sumOf [tru 51]) (lo := noA) (lb := noA) 5 (fn := Tryz.f27) rfl rfl (by kernel_rfl) (by kernel_rfl) rfl tt_ok (sumOf_ok ⟨tru_good awake19_ac, trivial⟩) (by kernel_rfl) ?_
  (intro L P1 Q1 hL hP hQ; cbv; subst hL; simp only [L2, L3, std, sat_need, sat_must, sat_ite, sat_done, sat_yes, sat_ex, sat_all, sat_sup, sat_and, sat_fail]; subst hQ)
  (simp only [sySet, syB, reduceCtorEq, forall_const, Int.reduceToNat, Int.reduceAdd, Int.reduceSub, Int.cast_ofNat_Int, Int.toNat_natCast, Nat.le_eq, Nat.sub_eq, ne_eq, implies_true, wadd, wsub, wmul, Nat.succ_eq_add_one])
theorem ex_sub : ctE ⟨0, [], false, 0, 0, [], 0, 0, false, 0, 0, false⟩ (msgT 1 1 [] [0]) = 0 ∧ ctS ⟨0, [], false, 0, 0, [], 0, 0, false, 0, 0, false⟩ (msgT 1 1 [] [0]) = ⟨0, [], false, 1, 0, [], 0, 0, false, 0, 0, false⟩ ∧ ctT ⟨0, [], false, 0, 0, [], 0, 0, false, 0, 0, false⟩ (msgT 1 1 [] [0]) = [] := by
  obtain ⟨a, b, c⟩ := ctk_sub (x := ⟨0, [], false, 0, 0, [], 0, 0, false, 0, 0, false⟩) (e := 1) (v := 0) ⟨by decide, by decide⟩ ⟨by decide, by decide⟩
  rw [a, b, c]
  exact ⟨rfl, rfl, rfl⟩
theorem awake20_ac : ACalls Tryz.prog 6 [] (.bool true) := by
  refine acalls_L (T := tt) (S := fun L => sumOf [msg_s L, ctk_s L, raw_s L, cep_s L, tru 26, tru 27]) (lo := noA) (lb := noA) 5 (fn := Tryz.f6) rfl rfl (by kernel_rfl) (by kernel_rfl) rfl tt_ok (sumOf_ok ⟨msg_good, ctk_good, raw_good, cep_good, tru_good Awake09_ac, tru_good Awake19_ac, trivial⟩) (by kernel_rfl) ?_
  intro L P' Q' hL hP hQ
  (cbv; try simp only [sat_need, sat_must, sat_ite, sat_done, sat_yes, sat_ex, sat_all, sat_sup, sat_and, sat_fail, true_and, and_true])
  repeat' first | refine And.intro ?_ ?_ | refine fun (hh : (_ : Bool) = _) => ?_
  all_goals (try (subst hL; subst hQ; simp only [L2, L3, std] at *; try simp only [sySet, syB, reduceCtorEq, forall_const, Int.reduceToNat, Int.reduceAdd, Int.reduceSub, Int.cast_ofNat_Int, Int.toNat_natCast, Nat.le_eq, Nat.sub_eq, ne_eq, implies_true, wadd, wsub, wmul, Nat.succ_eq_add_one] at *))
  all_goals (try simp only [ct_eta, rd1, ex_sub.1, ex_sub.2.1, ex_sub.2.2])
  all_goals first
    | exact absurd hh (by decide)
    | exact okl1 _ _
    | exact (sub_msg ⟨by decide, by decide⟩).2
    | exact (sub_msg ⟨by decide, by decide⟩).1
    | exact ⟨by decide, by decide⟩
    | (unfold upto; decide)
    | skip
  have R := read_msg (k := 2) (e := 1) (b := [120]) (l := [3, 1]) rfl (by decide) (by decide) ⟨by decide, by decide⟩ (by decide) (all2 ⟨by decide, by decide⟩ ⟨by decide, by decide⟩)
  have hr : rawT ⟨0, [], false, 1, 0, [], 0, 0, false, 0, 0, false⟩ 3 [120] = msgT 2 1 [120] [3, 1] := if_neg (by decide)
  rw [hr]
  exact ⟨fun _ => ⟨fun _ => ⟨fun _ => R.some, trivial⟩, trivial⟩, trivial⟩
end Sy
end Go.Proofs.YtcgikjfloloekaaGreatDoor
namespace Go.Proofs.YtcgikjfloloekaaGreatDoor
namespace Sy
open Go Go.RowKit
set_option maxRecDepth 100000
set_option linter.unusedSimpArgs false
set_option linter.unusedVariables false
theorem law_ControlReaches (s : List (List UInt8)) (hs : s.length ≤ maxLen ∧ ∀ y ∈ s, y.length ≤ maxLen) (a : Int) (ha : (Lit.int .u16 a).wf = true) (b : Int) (hb : (Lit.int .u8 b).wf = true) : ACalls Tryz.prog 5 [.lst 1 s.length (avL (fun x (_ : Nat) => .str x) s), .int .u16 a, .int .u8 b] (.bool true) := by
  simp [Lit.wf] at ha hb
  have a0 : IntKind.u8.min = 0 := rfl
  have a1 : IntKind.u8.max = 255 := rfl
  have a2 : IntKind.u16.min = 0 := rfl
  have a3 : IntKind.u16.max = 65535 := rfl
  refine ac_args (fun hp D vs hr => ?_) (reaches_ac awake20_ac s a b ⟨by omega, by omega⟩ ⟨by omega, by omega⟩)
  refine ⟨by rw [← hr.1]; rfl, fun i z v hz hv => ?_⟩
  match i, hz with
  | 0, hz => cases hz; exact lst_same (hr.2 0 _ v rfl hv) (fun i j hi hj => avL_ss hi hj)
  | 1, hz => exact hr.2 1 z v hz hv
  | 2, hz => exact hr.2 2 z v hz hv
end Sy
end Go.Proofs.YtcgikjfloloekaaGreatDoor
namespace Go.Proofs.YtcgikjfloloekaaGreatDoor
namespace Sy
open Go
set_option linter.unusedVariables false
theorem laid_at {P : Program} {w : World} {n : String} {d : DataW Unit} : ∀ {l : List (String × DataW Unit)} {ps : List MemPlace}, DataW.LaidVars P w l ps → (n, d) ∈ l →
    ∃ g t cs fuel p, P.globalNamed n = some g ∧ (P.globals[g]?).map (·.type) = some t ∧ w.var? P n = some cs ∧ DataW.trod (fun _ => ()) P w 0 (fun _ => true) false fuel t cs.toList = some (d, p)
  | x :: r, ps, h, hm => by
    obtain ⟨n', d'⟩ := x
    obtain ⟨g, t, cs, fuel, p, q, h1, h2, h3, h4, h5, _⟩ := h
    rcases List.mem_cons.1 hm with e | hm
    · cases e
      exact ⟨g, t, cs, fuel, p, h1, h2, h3, h4⟩
    · exact laid_at h5 hm
theorem laid_tab {P : Program} {w : World} {name : String} {k : IntKind} {zs : List Int} {l : List (String × DataW Unit)} (h : laidMet P l w) (hm : (name, Lib.tabData k zs) ∈ l) {g : Nat} {t e : TypeId} {n : Nat}
    (hg : P.globalNamed name = some g) (hty : (P.globals[g]?).map (·.type) = some t) (ht : P.underlying t = some (.array n e)) (he : P.underlying e = some (.int k)) (hce : P.cellsOf e = 1) (hct : P.cellsOf t = n) : Lib.TabIs P w name k zs := by
  obtain ⟨ps, hv, _⟩ := h
  obtain ⟨g', t', cs, fuel, p, hg', ht', hvar, hd⟩ := laid_at hv hm
  obtain rfl := Option.some.inj (hg.symm.trans hg')
  obtain rfl := Option.some.inj (hty.symm.trans ht')
  unfold Lib.TabIs
  rw [hvar, ← Lib.cells_of_tab ht he hce hct hd]
theorem laid_ifc {P : Program} {w : World} {name nm : String} {d : DataW Unit} {l : List (String × DataW Unit)} (h : laidMet P l w) (hm : (name, .iface nm d) ∈ l) {g : Nat} {t : TypeId} {ms : Array (String × TypeId)}
    (hg : P.globalNamed name = some g) (hty : (P.globals[g]?).map (·.type) = some t) (ht : P.underlying t = some (.interface ms)) : ∃ te pe, w.var? P name = some #[.iface te pe] := by
  obtain ⟨ps, hv, _⟩ := h
  obtain ⟨g', t', cs, fuel, p, hg', ht', hvar, hd⟩ := laid_at hv hm
  obtain rfl := Option.some.inj (hg.symm.trans hg')
  obtain rfl := Option.some.inj (hty.symm.trans ht')
  obtain ⟨f2, u, v, e, _, _⟩ := iface_of_trod ht hd
  refine ⟨u, v, ?_⟩
  rw [hvar]
  obtain ⟨l0⟩ := cs
  have e : l0 = [.iface u v] := e
  rw [e]
end Sy
end Go.Proofs.YtcgikjfloloekaaGreatDoor
