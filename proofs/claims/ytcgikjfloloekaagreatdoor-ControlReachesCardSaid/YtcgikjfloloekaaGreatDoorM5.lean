/-Chapter 7 (codec): the value that a text begins with: what the code does. Chapter 7 (codec): what is written is read as it was; Get. Chapter 7 (codec): Get. Chapter 7 (codec): values in rows, told cell by cell. Chapter 19 (session): how many numbers a kind has; a message's writing. Chapter 19 (session): a message read. Chapter 19 (session): New, Tick, Lost, Take, Done. Chapter 20 (control): offer, Raw, subscribed, Take, and what a control is asked. Chapter 19 (session): a message is read as it was written; the chapter's example. Chapter 20 (control): what comes of the messages (plain). The symbolic executor: the arguments of a law, opened: what the given data says of them, as abstract values. The law ControlNonces: what is offered in an epoch has rising nonces. What is read of a message are numbers of 64 bits (plain). strings.Index, Count (of one byte), Compare, Join: the kit's contracts as summaries; Cut, Split; a text parted by a byte.-/
import Derived.Test.YtcgikjfloloekaaGreatDoorM4
import Derived.Test.YtcgikjfloloekaaGreatDoorM3
import Derived.ChangeArms
import Derived.ChangeSlices
import Derived.OpenShut
import Derived.WideShapes
import Derived.Test.YtcgikjfloloekaaGreatDoorShelf
namespace Go.Proofs.YtcgikjfloloekaaGreatDoor
namespace Sy
open Go Go.RowKit
set_option maxRecDepth 100000
set_option linter.unusedSimpArgs false
set_option linter.unusedVariables false
structure Lv where
  left : Int
  l : List CV
structure NR where
  v : CV
  r : List UInt8
  e : Int
structure NX where
  st : List Lv
  s : List UInt8
  f : Nat
  v : CV
def nrBad (e : Int) : NR := ⟨.mk 0 0 [] [], [], e⟩
def nxtDone (val : List Lv → List UInt8 → NR) : List Lv → CV → List UInt8 → NR
  | [], v, s => ⟨v, s, 0⟩
  | a :: st, v, s => if a.left - 1 = 0 then nxtDone val st (.mk 3 0 [] (a.l ++ [v])) s else val (⟨a.left - 1, a.l ++ [v]⟩ :: st) s
def nxtShut (val : List Lv → List UInt8 → NR) : List Lv → List UInt8 → NR
  | [], s => nrBad 0
  | a :: st, s => if a.left = 0 then nxtDone val st (.mk 3 0 [] a.l) s else val (a :: st) s
def nxtRest (s : List UInt8) : List UInt8 := (s.drop 1).drop (lngK (s.drop 1)).toNat
def nxtVal : Nat → List Lv → List UInt8 → NR
  | 0, _, _ => nrBad 0
  | f + 1, st, s =>
    if s = [] then nrBad 3
    else if cb s 0 < 1 ∨ 3 < cb s 0 then nrBad 10
    else if lngE (s.drop 1) ≠ 0 then nrBad (lngE (s.drop 1))
    else if cb s 0 = 1 then nxtDone (nxtVal f) st (.mk 1 (lngN (s.drop 1)) [] []) (nxtRest s)
    else if cb s 0 = 2 then
      if ((nxtRest s).length : Int) < lngN (s.drop 1) then nrBad 3
      else nxtDone (nxtVal f) st (.mk 2 0 ((nxtRest s).take (lngN (s.drop 1)).toNat) []) ((nxtRest s).drop (lngN (s.drop 1)).toNat)
    else if st.length = 6 then nrBad 8
    else nxtShut (nxtVal f) (⟨lngN (s.drop 1), []⟩ :: st) (nxtRest s)
def nxtTop (s : List UInt8) : NR := if 8192 < s.length then nrBad 5 else nxtVal (s.length + 1) [] s
def sumSt : List Lv → Nat
  | [] => 0
  | a :: r => a.l.length + 1 + sumSt r
def lvOk (st : List Lv) : Prop := ∀ a ∈ st, 1 ≤ a.left ∧ a.left < 18446744073709551616
def nInv1 (s0 : List UInt8) (x : NX) : Prop := x.st.length ≤ 6 ∧ lvOk x.st ∧ x.s.length < x.f ∧ x.s.length + sumSt x.st ≤ 8192 ∧ nxtVal x.f x.st x.s = nxtTop s0
def nInv2 (s0 : List UInt8) (x : NX) : Prop := x.st.length ≤ 6 ∧ (∃ a r, x.st = a :: r ∧ 0 ≤ a.left ∧ a.left < 18446744073709551616 ∧ lvOk r) ∧ x.s.length < x.f ∧ x.s.length + sumSt x.st ≤ 8192 ∧ nxtShut (nxtVal x.f) x.st x.s = nxtTop s0
def nInv3 (s0 : List UInt8) (x : NX) : Prop := x.st.length ≤ 6 ∧ lvOk x.st ∧ x.s.length < x.f ∧ x.s.length + sumSt x.st + 1 ≤ 8192 ∧ nxtDone (nxtVal x.f) x.st x.v x.s = nxtTop s0
def nMu (c : Nat) (x : NX) : Nat := 20 * x.s.length + 3 * x.st.length + c
theorem lng_fact {s : List UInt8} : ∀ (f i n : Nat), f + i = 10 → n < 2 ^ (7 * i) → i ≤ s.length → (lng s f i n).2.1 ≤ 10 ∧ ((lng s f i n).2.2 = 0 → 1 ≤ (lng s f i n).2.1 ∧ (lng s f i n).2.1 ≤ s.length ∧ (lng s f i n).1 < 2 ^ 64)
  | 0, i, n, hf, hn, hi => by simp [lng]
  | f + 1, i, n, hf, hn, hi => by
    rw [lng]
    by_cases h1 : s.length ≤ i
    · rw [if_pos h1]; simp
    · rw [if_neg h1]
      by_cases h2 : i = 9 ∧ 1 < cb s i
      · rw [if_pos h2]; simp
      · rw [if_neg h2]
        have hb := lng_bits (by omega) hn (cb_lt s i) h2
        by_cases h3 : 128 ≤ cb s i
        · rw [if_pos h3]
          by_cases h9 : i = 9
          · omega
          · exact lng_fact f (i + 1) _ (by omega) hb.1 (by omega)
        · rw [if_neg h3]
          by_cases h4 : 0 < cb s i ∨ i = 0
          · rw [if_pos h4]
            exact ⟨by show i + 1 ≤ 10; omega, fun _ => ⟨by show 1 ≤ i + 1; omega, by show i + 1 ≤ s.length; omega, hb.2.1⟩⟩
          · rw [if_neg h4]; simp
theorem lngK_le (s : List UInt8) : 0 ≤ lngK s ∧ lngK s ≤ 10 := by
  have := (lng_fact (s := s) 10 0 0 rfl (by simp) (Nat.zero_le _)).1
  unfold lngK
  omega
theorem lng_yes {s : List UInt8} (h : lngE s = 0) : 1 ≤ lngK s ∧ lngK s ≤ (s.length : Int) ∧ 0 ≤ lngN s ∧ lngN s < 18446744073709551616 := by
  have := (lng_fact (s := s) 10 0 0 rfl (by simp) (Nat.zero_le _)).2
  unfold lngE at h
  unfold lngK lngN
  have := this (by omega)
  omega
theorem k_is (s : List UInt8) : (((s.getD 0 0).toNat : Int) + 9223372036854775808) % 18446744073709551616 - 9223372036854775808 = (cb s 0 : Int) := by
  have := cb_lt s 0
  unfold cb at *
  omega
theorem rest_is (s : List UInt8) : s.drop ((1 + lngK (s.drop 1) + 9223372036854775808) % 18446744073709551616 - 9223372036854775808).toNat = nxtRest s ∧ (1 + lngK (s.drop 1) + 9223372036854775808) % 18446744073709551616 - 9223372036854775808 = 1 + lngK (s.drop 1) := by
  have := lngK_le (s.drop 1)
  have e : (1 + lngK (s.drop 1) + 9223372036854775808) % 18446744073709551616 - 9223372036854775808 = 1 + lngK (s.drop 1) := by omega
  rw [e]
  refine ⟨?_, rfl⟩
  unfold nxtRest
  rw [List.drop_drop]
  congr 1
theorem rest_len {s : List UInt8} (h0 : ¬ s = []) (h : lngE (s.drop 1) = 0) : (nxtRest s).length + 2 ≤ s.length ∧ 1 + lngK (s.drop 1) ≤ (s.length : Int) := by
  have h1 := lng_yes h
  have : 0 < s.length := List.length_pos_iff.2 h0
  have hl : (s.drop 1).length = s.length - 1 := List.length_drop
  unfold nxtRest
  rw [List.length_drop]
  omega
theorem nr_bad {s0 : List UInt8} {e : Int} (h : nxtTop s0 = nrBad e) : fits (.tup [cvA std (nxtTop s0).v, .str (nxtTop s0).r, .int .i64 (nxtTop s0).e]) (.tup [.agg [.int .i64 0, .int .u64 0, .str [], .nils], .str [], .int .i64 e]) := by
  rw [h]
  show fits (.tup [.agg [.int .i64 0, .int .u64 0, .str [], .lst 4 0 (cvIn (.mk 0 0 [] []))], .str [], .int .i64 e]) _
  simp [sySet]
theorem nr_good {s0 : List UInt8} {v : CV} {s : List UInt8} (h : nxtTop s0 = ⟨v, s, 0⟩) : fits (.tup [cvA std (nxtTop s0).v, .str (nxtTop s0).r, .int .i64 (nxtTop s0).e]) (.tup [.agg [.int .i64 v.kd, .int .u64 v.nn, .str v.tx, .lst 4 (lenV v) (cvIn v)], .str s, .int .i64 0]) := by
  rw [h]
  show fits (.tup [.agg [.int .i64 v.kd, .int .u64 v.nn, .str v.tx, .lst 4 (lenV v) (cvIn v)], .str s, .int .i64 0]) _
  simp [sySet]
section
variable {s0 s : List UInt8} {st : List Lv} {f : Nat} {v : CV}
theorem nx_un (h : nInv1 s0 ⟨st, s, f, v⟩) : nxtTop s0 =
    if s = [] then nrBad 3
    else if cb s 0 < 1 ∨ 3 < cb s 0 then nrBad 10
    else if lngE (s.drop 1) ≠ 0 then nrBad (lngE (s.drop 1))
    else if cb s 0 = 1 then nxtDone (nxtVal (f - 1)) st (.mk 1 (lngN (s.drop 1)) [] []) (nxtRest s)
    else if cb s 0 = 2 then
      if ((nxtRest s).length : Int) < lngN (s.drop 1) then nrBad 3
      else nxtDone (nxtVal (f - 1)) st (.mk 2 0 ((nxtRest s).take (lngN (s.drop 1)).toNat) []) ((nxtRest s).drop (lngN (s.drop 1)).toNat)
    else if st.length = 6 then nrBad 8
    else nxtShut (nxtVal (f - 1)) (⟨lngN (s.drop 1), []⟩ :: st) (nxtRest s) := by
  obtain ⟨_, _, h3, _, h5⟩ := h
  simp only at h3 h5
  rw [← h5]
  obtain ⟨g, rfl⟩ : ∃ g, f = g + 1 := ⟨f - 1, by omega⟩
  rw [nxtVal]
  rfl
variable (h : nInv1 s0 ⟨st, s, f, v⟩)
include h
theorem nx_0 (h1 : s = []) : nxtTop s0 = nrBad 3 := by rw [nx_un h, if_pos h1]
theorem nx_1 (h1 : ¬ s = []) (h2 : (cb s 0 : Int) < 1 ∨ 3 < (cb s 0 : Int)) : nxtTop s0 = nrBad 10 := by rw [nx_un h, if_neg h1, if_pos (by omega)]
theorem nx_2 (h1 : ¬ s = []) (h2 : 1 ≤ (cb s 0 : Int)) (h3 : (cb s 0 : Int) ≤ 3) (h4 : ¬ lngE (s.drop 1) = 0) : nxtTop s0 = nrBad (lngE (s.drop 1)) := by rw [nx_un h, if_neg h1, if_neg (by omega), if_pos h4]
omit h in
theorem nx_in (h1 : ¬ s = []) (h4 : lngE (s.drop 1) = 0) : 0 ≤ 1 + lngK (s.drop 1) ∧ 1 + lngK (s.drop 1) ≤ (s.length : Int) := by
  have := lng_yes h4
  exact ⟨by omega, (rest_len h1 h4).2⟩
theorem nx_3 (h1 : ¬ s = []) (h4 : lngE (s.drop 1) = 0) (h5 : (cb s 0 : Int) = 1) : nInv3 s0 ⟨st, nxtRest s, f - 1, .mk 1 (lngN (s.drop 1)) [] []⟩ ∧ 20 * (nxtRest s).length + 3 * st.length + 2 + 1 ≤ 20 * s.length + 3 * st.length + 0 := by
  have e := nx_un h
  rw [if_neg h1, if_neg (by omega), if_neg (by simpa using h4), if_pos (by omega)] at e
  obtain ⟨a1, a2, a3, a4, a5⟩ := h
  have hr := rest_len h1 h4
  simp only at a1 a2 a3 a4
  exact ⟨⟨a1, a2, by show (nxtRest s).length < f - 1; omega, by show (nxtRest s).length + sumSt st + 1 ≤ 8192; omega, e.symm⟩, by omega⟩
theorem nx_4 (h1 : ¬ s = []) (h4 : lngE (s.drop 1) = 0) (h6 : (cb s 0 : Int) = 2) (h7 : ((nxtRest s).length : Int) % 18446744073709551616 < lngN (s.drop 1)) : nxtTop s0 = nrBad 3 := by
  have e := nx_un h
  obtain ⟨a1, a2, a3, a4, a5⟩ := h
  have hr := rest_len h1 h4
  simp only at a4
  rw [if_neg h1, if_neg (by omega), if_neg (by simpa using h4), if_neg (by omega), if_pos (by omega), if_pos (by omega)] at e
  exact e
theorem nx_5 (h1 : ¬ s = []) (h4 : lngE (s.drop 1) = 0) (h7 : lngN (s.drop 1) ≤ ((nxtRest s).length : Int) % 18446744073709551616) : 0 ≤ lngN (s.drop 1) ∧ lngN (s.drop 1) ≤ ((nxtRest s).length : Int) := by
  obtain ⟨a1, a2, a3, a4, a5⟩ := h
  have hr := rest_len h1 h4
  have := lng_yes h4
  simp only at a4
  omega
theorem nx_6 (h1 : ¬ s = []) (h4 : lngE (s.drop 1) = 0) (h6 : (cb s 0 : Int) = 2) (h7 : lngN (s.drop 1) ≤ ((nxtRest s).length : Int) % 18446744073709551616) :
    nInv3 s0 ⟨st, (nxtRest s).drop (lngN (s.drop 1)).toNat, f - 1, .mk 2 0 ((nxtRest s).take (lngN (s.drop 1)).toNat) []⟩ ∧ 20 * ((nxtRest s).drop (lngN (s.drop 1)).toNat).length + 3 * st.length + 2 + 1 ≤ 20 * s.length + 3 * st.length + 0 := by
  have e := nx_un h
  obtain ⟨a1, a2, a3, a4, a5⟩ := h
  have hr := rest_len h1 h4
  simp only at a1 a2 a3 a4
  rw [if_neg h1, if_neg (by omega), if_neg (by simpa using h4), if_neg (by omega), if_pos (by omega), if_neg (by omega)] at e
  have hl : ((nxtRest s).drop (lngN (s.drop 1)).toNat).length ≤ (nxtRest s).length := by rw [List.length_drop]; omega
  exact ⟨⟨a1, a2, by show ((nxtRest s).drop (lngN (s.drop 1)).toNat).length < f - 1; omega, by show ((nxtRest s).drop (lngN (s.drop 1)).toNat).length + sumSt st + 1 ≤ 8192; omega, e.symm⟩, by omega⟩
theorem nx_7 (h1 : ¬ s = []) (h4 : lngE (s.drop 1) = 0) (h7 : (cb s 0 : Int) = 3) (h8 : st.length = 6) : nxtTop s0 = nrBad 8 := by
  have e := nx_un h
  rw [if_neg h1, if_neg (by omega), if_neg (by simpa using h4), if_neg (by omega), if_neg (by omega), if_pos h8] at e
  exact e
theorem nx_8 (h1 : ¬ s = []) (h4 : lngE (s.drop 1) = 0) (h7 : (cb s 0 : Int) = 3) (h8 : ¬ st.length = 6) : nInv2 s0 ⟨⟨lngN (s.drop 1), []⟩ :: st, nxtRest s, f - 1, v⟩ ∧ 20 * (nxtRest s).length + 3 * (st.length + 1) + 1 + 1 ≤ 20 * s.length + 3 * st.length + 0 := by
  have e := nx_un h
  rw [if_neg h1, if_neg (by omega), if_neg (by simpa using h4), if_neg (by omega), if_neg (by omega), if_neg h8] at e
  obtain ⟨a1, a2, a3, a4, a5⟩ := h
  have hr := rest_len h1 h4
  have hn := lng_yes h4
  simp only at a1 a2 a3 a4
  refine ⟨⟨by show st.length + 1 ≤ 6; omega, ⟨_, _, rfl, hn.2.2.1, hn.2.2.2, a2⟩, by show (nxtRest s).length < f - 1; omega, ?_, e.symm⟩, by omega⟩
  show (nxtRest s).length + (0 + 1 + sumSt st) ≤ 8192
  omega
end
section
variable {s0 s : List UInt8} {st : List Lv} {f : Nat} {v : CV} {a : Lv}
theorem nd_0 (h : nInv3 s0 ⟨[], s, f, v⟩) : nxtTop s0 = ⟨v, s, 0⟩ := h.2.2.2.2.symm
theorem nd_1 (h : nInv3 s0 ⟨a :: st, s, f, v⟩) : nInv2 s0 ⟨⟨a.left - 1, a.l ++ [v]⟩ :: st, s, f, v⟩ ∧ a.l.length ≤ 8192 ∧ 1 ≤ a.left ∧ a.left < 18446744073709551616 ∧ 20 * s.length + 3 * (st.length + 1) + 1 + 1 ≤ 20 * s.length + 3 * (st.length + 1) + 2 := by
  obtain ⟨a1, a2, a3, a4, a5⟩ := h
  simp only at a1 a2 a3 a4 a5
  have h1 := a2 a (by simp)
  have e4 : sumSt (a :: st) = a.l.length + 1 + sumSt st := rfl
  refine ⟨⟨a1, ⟨_, _, rfl, by show 0 ≤ a.left - 1; omega, by show a.left - 1 < _; omega, fun b hb => a2 b (by simp [hb])⟩, a3, ?_, ?_⟩, by omega, h1.1, h1.2, by omega⟩
  · show s.length + ((a.l ++ [v]).length + 1 + sumSt st) ≤ 8192
    rw [List.length_append, List.length_singleton]
    omega
  · rw [← a5]; rfl
theorem ns_0 (h : nInv2 s0 ⟨a :: st, s, f, v⟩) (h0 : a.left = 0) : nInv3 s0 ⟨st, s, f, .mk 3 0 [] a.l⟩ ∧ 20 * s.length + 3 * st.length + 2 + 1 ≤ 20 * s.length + 3 * (st.length + 1) + 1 := by
  obtain ⟨a1, ⟨b, r, e1, b1, b2, b3⟩, a3, a4, a5⟩ := h
  simp only at a1 a3 a4 a5 e1
  cases e1
  have e4 : sumSt (a :: st) = a.l.length + 1 + sumSt st := rfl
  have e5 : (a :: st).length = st.length + 1 := rfl
  refine ⟨⟨by show st.length ≤ 6; omega, b3, a3, by show s.length + sumSt st + 1 ≤ 8192; omega, ?_⟩, by omega⟩
  rw [← a5, nxtShut, if_pos h0]
theorem ns_1 (h : nInv2 s0 ⟨a :: st, s, f, v⟩) (h0 : ¬ a.left = 0) : nInv1 s0 ⟨a :: st, s, f, v⟩ := by
  obtain ⟨a1, ⟨b, r, e1, b1, b2, b3⟩, a3, a4, a5⟩ := h
  simp only at a1 a3 a4 a5 e1
  cases e1
  refine ⟨a1, fun c hc => ?_, a3, a4, ?_⟩
  · rcases List.mem_cons.1 hc with rfl | hc
    · exact ⟨by omega, b2⟩
    · exact b3 c hc
  · rw [← a5, nxtShut, if_neg h0]
end
theorem nm_1 (s0 : List UInt8) (h : ¬ 8192 < (s0.length : Int)) (v : CV) : nInv1 s0 ⟨[], s0, s0.length + 1, v⟩ := by
  refine ⟨by simp, fun a ha => by simp at ha, by simp, by simp [sumSt]; omega, ?_⟩
  unfold nxtTop
  rw [if_neg (by omega)]
theorem nm_0 (s0 : List UInt8) (h : 8192 < (s0.length : Int)) : nxtTop s0 = nrBad 5 := by
  unfold nxtTop
  rw [if_pos (by omega)]
theorem nx_9 {s0 s : List UInt8} {st : List Lv} {f f1 : Nat} {v : CV} {a1 : Lv} {s1 : List UInt8} (hx : nInv1 s0 ⟨st, s, f, v⟩) (h1 : ¬ s = []) (h4 : lngE (s.drop 1) = 0) (h7 : (cb s 0 : Int) = 3) (h8 : ¬ st.length = 6)
    (ha1 : a1 = ⟨lngN (s.drop 1), []⟩) (hs1 : s1 = nxtRest s) (hf1 : f1 = f - 1) : 0 = lenL a1.l ∧ 0 = lenL a1.l ∧ lngN (s.drop 1) = a1.left ∧ nxtRest s = s1 ∧ nInv2 s0 ⟨a1 :: st, s1, f1, v⟩ ∧ nMu 1 ⟨a1 :: st, s1, f1, v⟩ + 1 ≤ nMu 0 ⟨st, s, f, v⟩ := by
  obtain ⟨q1, q2⟩ := nx_8 hx h1 h4 h7 h8
  subst ha1 hs1 hf1
  exact ⟨rfl, rfl, rfl, rfl, q1, q2⟩
theorem cv_push4 (a : List CV) (v : CV) {p j : Nat} (hp : p < a.length + 1) (hj : j < 4) :
    over std a.length 0 4 [.int .i64 v.kd, .int .u64 v.nn, .str v.tx, .lst 4 (lenV v) (cvIn v)] (fun i j => sel1 std (nblt i a.length) (cvGet a i j) (lget .dead [.int .i64 0, .int .u64 0, .str [], .nils] ((i - a.length) * 4 + j))) p j = cvGet (a ++ [v]) p j := by
  rw [← cv_push3 a v hp hj, over_get, if_pos ⟨Nat.zero_le _, by omega⟩, Nat.sub_zero]
  have e0 : p - a.length = 0 := by omega
  rw [e0, Nat.zero_mul, Nat.zero_add]
  by_cases h : p < a.length
  · rw [blt_t h, beq_no (show p ≠ a.length by omega), cvGet_nth a p j h, ← cv1_std _ j hj]
    match j, hj with
    | 0, _ => rfl
    | 1, _ => rfl
    | 2, _ => rfl
    | 3, _ => rfl
  · rw [blt_f h, show nbeq p a.length = true by rw [show p = a.length by omega, beq_same], cvGet_far a p j (by omega)]
    match j, hj with
    | 0, _ => rfl
    | 1, _ => rfl
    | 2, _ => rfl
    | 3, _ => rfl
theorem nd_room {a : Lv} (h : a.l.length ≤ 8192) : (lenL a.l + 1) * 56 ≤ 140737488355328 ∧ lenL a.l + 1 ≤ 9223372036854775807 := by
  have : lenL a.l = a.l.length := rfl
  omega
theorem nd_in (n : Nat) : 0 ≤ (n : Int) ∧ (n : Int) < ((n.add 1 : Nat) : Int) := by
  have : n.add 1 = n + 1 := rfl
  omega
def stCells (L : Seal) : List Lv → List AV
  | [] => []
  | a :: r => lapp (stCells L r) [.int .u64 (L Lv.left a), .sl (911 + llen r) 4 0 (L lenL (L Lv.l a))]
def stRows (L : Seal) : List Lv → List (Nat × Ob)
  | [] => []
  | a :: r => (911 + llen r, .row 89 4 (L lenL (L Lv.l a)) (L cvGet (L Lv.l a))) :: stRows L r
def stV : List Lv → AV
  | [] => .nils
  | _ :: r => .sl 910 2 0 (llen r + 1)
def stOs (L : Seal) : List Lv → List (Nat × Ob)
  | [] => []
  | a :: r => (910, .spr 188 (stCells L (a :: r))) :: stRows L (a :: r)
def deadV : Nat × Ob := (6, .box 89 [.dead, .dead, .dead, .dead])
def nextA (L : Seal) (s0 : List UInt8) : Nat → St → Option Ann := fun id _ => match id with
  | 1 => some ⟨NX, fun x => [(0, .str (L NX.s x)), (6, .ref 6 0), (5, stV x.st)], fun x => deadV :: stOs L x.st, [2], [2],
      fun x => L2 L nInv1 s0 x, fun x => L (nMu 0) x⟩
  | 2 => some ⟨NX, fun x => [(0, .str (L NX.s x)), (6, .ref 6 0), (5, stV x.st)], fun x => deadV :: stOs L x.st, [2], [2],
      fun x => L2 L nInv2 s0 x, fun x => L (nMu 1) x⟩
  | 3 => some ⟨NX, fun x => [(0, .str (L NX.s x)), (6, .ref 6 0), (5, .sl 910 2 0 (llen x.st))],
      fun x => (6, .box 89 [.int .i64 (L CV.kd (L NX.v x)), .int .u64 (L CV.nn (L NX.v x)), .str (L CV.tx (L NX.v x)), .sl 909 4 0 (L lenV (L NX.v x))]) ::
        (909, .row 89 4 (L lenV (L NX.v x)) (L cvIn (L NX.v x))) :: (910, .spr 188 (stCells L x.st)) :: stRows L x.st, [2], [2],
      fun x => L2 L nInv3 s0 x, fun x => L (nMu 2) x⟩
  | _ => none
def nrA (L : Seal) (r : NR) : AV := .tup [cvA L (L NR.v r), .str (L NR.r r), .int .i64 (L NR.e r)]
def next_s (L : Seal) : Ent1 := (61, fun xs => match xs with | [.str s] => some (True, nrA L (L nxtTop s)) | _ => none)
set_option maxHeartbeats 4000000 in
theorem next_good : Good Tryz.prog (next_s std) := by
  intro xs p r h hp
  dsimp only [next_s] at h ⊢
  split at h <;> cases h
  try simp only [L2, L3, std] at hp ⊢
  rename_i s0
  refine acalls_L (T := tt) (S := fun L => sumOf [lng_s L]) (lo := noA) (lb := fun L => nextA L s0) 5 (fn := Tryz.f61) rfl rfl (by kernel_rfl) (by kernel_rfl) rfl tt_ok (sumOf_ok ⟨lng_good, trivial⟩) (by kernel_rfl) ?_
  intro L P' Q' hL hP hQ
  (cbv; try simp only [sat_need, sat_must, sat_ite, sat_done, sat_yes, sat_ex, sat_all, sat_sup, sat_and, sat_fail, true_and, and_true])
  refine ⟨fun x hx => ?_, fun x hx => ?_, fun x hx => ?_, ?_⟩
  · obtain ⟨st, s, f, v⟩ := x
    cbv at hx
    match st, hx with
    | [], hx =>
      (cbv; try simp only [sat_need, sat_must, sat_ite, sat_done, sat_yes, sat_ex, sat_all, sat_sup, sat_and, sat_fail, true_and, and_true])
      obtain ⟨s1, hs1⟩ : ∃ s1, s1 = nxtRest s := ⟨_, rfl⟩
      obtain ⟨s2, hs2⟩ : ∃ s2, s2 = (nxtRest s).drop (lngN (s.drop 1)).toNat := ⟨_, rfl⟩
      obtain ⟨v1, hv1⟩ : ∃ v1, v1 = CV.mk 1 (lngN (s.drop 1)) [] [] := ⟨_, rfl⟩
      obtain ⟨v2, hv2⟩ : ∃ v2, v2 = CV.mk 2 0 ((nxtRest s).take (lngN (s.drop 1)).toNat) [] := ⟨_, rfl⟩
      obtain ⟨a1, ha1⟩ : ∃ a1, a1 = Lv.mk (lngN (s.drop 1)) [] := ⟨_, rfl⟩
      obtain ⟨f1, hf1⟩ : ∃ f1, f1 = f - 1 := ⟨_, rfl⟩
      refine ⟨fun h1 => ?_, fun h1 => ⟨?_, fun h2 => ?_, fun h2 => ⟨fun h3 => ?_, fun h3 => ⟨?_, fun h4 => ?_, fun h4 => ⟨?_, fun h5 => ⟨⟨[], s1, f1, v1⟩, ?_⟩, fun h5 => ⟨fun h6 => ⟨fun h7 => ?_, fun h7 => ⟨?_, ?_, ⟨[], s2, f1, v2⟩, ?_⟩⟩, fun h6 => ⟨fun h7 => ⟨fun h8 => ?_, fun h8 => ⟨?_, ⟨[a1], s1, f1, v⟩, ?_⟩⟩, fun h7 => ?_⟩⟩⟩⟩⟩⟩⟩
      · (subst hL; subst hQ; simp only [L2, L3, std] at *; try simp only [sySet, syB, reduceCtorEq, forall_const, Int.reduceToNat, Int.reduceAdd, Int.reduceSub, Int.cast_ofNat_Int, Int.toNat_natCast, Nat.le_eq, Nat.sub_eq, ne_eq, implies_true, wadd, wsub, wmul, Nat.succ_eq_add_one] at *)
        exact nr_bad (nx_0 hx h1)
      · (subst hL; subst hQ; simp only [L2, L3, std] at *; try simp only [sySet, syB, reduceCtorEq, forall_const, Int.reduceToNat, Int.reduceAdd, Int.reduceSub, Int.cast_ofNat_Int, Int.toNat_natCast, Nat.le_eq, Nat.sub_eq, ne_eq, implies_true, wadd, wsub, wmul, Nat.succ_eq_add_one] at *)
        have := List.length_pos_iff.2 h1
        omega
      · (subst hL; subst hQ; simp only [L2, L3, std] at *; try simp only [sySet, syB, reduceCtorEq, forall_const, Int.reduceToNat, Int.reduceAdd, Int.reduceSub, Int.cast_ofNat_Int, Int.toNat_natCast, Nat.le_eq, Nat.sub_eq, ne_eq, implies_true, wadd, wsub, wmul, Nat.succ_eq_add_one] at *)
        rw [k_is] at h2
        exact nr_bad (nx_1 hx h1 (.inl h2))
      · (subst hL; subst hQ; simp only [L2, L3, std] at *; try simp only [sySet, syB, reduceCtorEq, forall_const, Int.reduceToNat, Int.reduceAdd, Int.reduceSub, Int.cast_ofNat_Int, Int.toNat_natCast, Nat.le_eq, Nat.sub_eq, ne_eq, implies_true, wadd, wsub, wmul, Nat.succ_eq_add_one] at *)
        rw [k_is] at h3
        exact nr_bad (nx_1 hx h1 (.inr h3))
      · (subst hL; subst hQ; simp only [L2, L3, std] at *; try simp only [sySet, syB, reduceCtorEq, forall_const, Int.reduceToNat, Int.reduceAdd, Int.reduceSub, Int.cast_ofNat_Int, Int.toNat_natCast, Nat.le_eq, Nat.sub_eq, ne_eq, implies_true, wadd, wsub, wmul, Nat.succ_eq_add_one] at *)
        have := List.length_pos_iff.2 h1
        omega
      · (subst hL; subst hQ; simp only [L2, L3, std] at *; try simp only [sySet, syB, reduceCtorEq, forall_const, Int.reduceToNat, Int.reduceAdd, Int.reduceSub, Int.cast_ofNat_Int, Int.toNat_natCast, Nat.le_eq, Nat.sub_eq, ne_eq, implies_true, wadd, wsub, wmul, Nat.succ_eq_add_one] at *)
        rw [k_is] at h2 h3
        exact nr_bad (nx_2 hx h1 h2 h3 h4)
      · (subst hL; subst hQ; simp only [L2, L3, std] at *; try simp only [sySet, syB, reduceCtorEq, forall_const, Int.reduceToNat, Int.reduceAdd, Int.reduceSub, Int.cast_ofNat_Int, Int.toNat_natCast, Nat.le_eq, Nat.sub_eq, ne_eq, implies_true, wadd, wsub, wmul, Nat.succ_eq_add_one] at *)
        rw [(rest_is s).2]
        exact nx_in h1 h4
      · (cbv; try simp only [sat_need, sat_must, sat_ite, sat_done, sat_yes, sat_ex, sat_all, sat_sup, sat_and, sat_fail, true_and, and_true])
        (subst hL; subst hQ; simp only [L2, L3, std] at *; try simp only [sySet, syB, reduceCtorEq, forall_const, Int.reduceToNat, Int.reduceAdd, Int.reduceSub, Int.cast_ofNat_Int, Int.toNat_natCast, Nat.le_eq, Nat.sub_eq, ne_eq, implies_true, wadd, wsub, wmul, Nat.succ_eq_add_one] at *)
        simp only [k_is, (rest_is s).1] at h5 ⊢
        obtain ⟨q1, q2⟩ := nx_3 hx h1 h4 h5
        rw [hv1, hs1, hf1]
        exact ⟨rfl, rfl, rfl, rfl, h5, rfl, q1, q2⟩
      · (subst hL; subst hQ; simp only [L2, L3, std] at *; try simp only [sySet, syB, reduceCtorEq, forall_const, Int.reduceToNat, Int.reduceAdd, Int.reduceSub, Int.cast_ofNat_Int, Int.toNat_natCast, Nat.le_eq, Nat.sub_eq, ne_eq, implies_true, wadd, wsub, wmul, Nat.succ_eq_add_one] at *)
        simp only [k_is, (rest_is s).1] at h6 h7
        exact nr_bad (nx_4 hx h1 h4 h6 h7)
      · (subst hL; subst hQ; simp only [L2, L3, std] at *; try simp only [sySet, syB, reduceCtorEq, forall_const, Int.reduceToNat, Int.reduceAdd, Int.reduceSub, Int.cast_ofNat_Int, Int.toNat_natCast, Nat.le_eq, Nat.sub_eq, ne_eq, implies_true, wadd, wsub, wmul, Nat.succ_eq_add_one] at *)
        simp only [k_is, (rest_is s).1] at h7 ⊢
        exact nx_5 hx h1 h4 h7
      · (subst hL; subst hQ; simp only [L2, L3, std] at *; try simp only [sySet, syB, reduceCtorEq, forall_const, Int.reduceToNat, Int.reduceAdd, Int.reduceSub, Int.cast_ofNat_Int, Int.toNat_natCast, Nat.le_eq, Nat.sub_eq, ne_eq, implies_true, wadd, wsub, wmul, Nat.succ_eq_add_one] at *)
        simp only [k_is, (rest_is s).1] at h7 ⊢
        exact nx_5 hx h1 h4 h7
      · (cbv; try simp only [sat_need, sat_must, sat_ite, sat_done, sat_yes, sat_ex, sat_all, sat_sup, sat_and, sat_fail, true_and, and_true])
        (subst hL; subst hQ; simp only [L2, L3, std] at *; try simp only [sySet, syB, reduceCtorEq, forall_const, Int.reduceToNat, Int.reduceAdd, Int.reduceSub, Int.cast_ofNat_Int, Int.toNat_natCast, Nat.le_eq, Nat.sub_eq, ne_eq, implies_true, wadd, wsub, wmul, Nat.succ_eq_add_one] at *)
        simp only [k_is, (rest_is s).1] at h6 h7 ⊢
        obtain ⟨q1, q2⟩ := nx_6 hx h1 h4 h6 h7
        rw [hv2, hs2, hf1]
        exact ⟨rfl, rfl, rfl, rfl, h6, rfl, q1, q2⟩
      · (subst hL; subst hQ; simp only [L2, L3, std] at *; try simp only [sySet, syB, reduceCtorEq, forall_const, Int.reduceToNat, Int.reduceAdd, Int.reduceSub, Int.cast_ofNat_Int, Int.toNat_natCast, Nat.le_eq, Nat.sub_eq, ne_eq, implies_true, wadd, wsub, wmul, Nat.succ_eq_add_one] at *)
        simp only [k_is] at h7
        exact absurd h8 (by decide)
      · (subst hL; subst hQ; simp only [L2, L3, std] at *; try simp only [sySet, syB, reduceCtorEq, forall_const, Int.reduceToNat, Int.reduceAdd, Int.reduceSub, Int.cast_ofNat_Int, Int.toNat_natCast, Nat.le_eq, Nat.sub_eq, ne_eq, implies_true, wadd, wsub, wmul, Nat.succ_eq_add_one] at *)
        omega
      · (cbv; try simp only [sat_need, sat_must, sat_ite, sat_done, sat_yes, sat_ex, sat_all, sat_sup, sat_and, sat_fail, true_and, and_true])
        (subst hL; subst hQ; simp only [L2, L3, std] at *; try simp only [sySet, syB, reduceCtorEq, forall_const, Int.reduceToNat, Int.reduceAdd, Int.reduceSub, Int.cast_ofNat_Int, Int.toNat_natCast, Nat.le_eq, Nat.sub_eq, ne_eq, implies_true, wadd, wsub, wmul, Nat.succ_eq_add_one] at *)
        simp only [k_is, (rest_is s).1] at h7 ⊢; obtain ⟨q1, q2, q3, q4⟩ := nx_9 hx h1 h4 h7 (by decide) ha1 hs1 hf1; exact ⟨q1, q2, congrArg _ q3, q4⟩
      · (subst hL; subst hQ; simp only [L2, L3, std] at *; try simp only [sySet, syB, reduceCtorEq, forall_const, Int.reduceToNat, Int.reduceAdd, Int.reduceSub, Int.cast_ofNat_Int, Int.toNat_natCast, Nat.le_eq, Nat.sub_eq, ne_eq, implies_true, wadd, wsub, wmul, Nat.succ_eq_add_one] at *)
        simp only [k_is] at h2 h3 h5 h6 h7
        omega
    | [a], hx =>
      (cbv; try simp only [sat_need, sat_must, sat_ite, sat_done, sat_yes, sat_ex, sat_all, sat_sup, sat_and, sat_fail, true_and, and_true])
      obtain ⟨s1, hs1⟩ : ∃ s1, s1 = nxtRest s := ⟨_, rfl⟩
      obtain ⟨s2, hs2⟩ : ∃ s2, s2 = (nxtRest s).drop (lngN (s.drop 1)).toNat := ⟨_, rfl⟩
      obtain ⟨v1, hv1⟩ : ∃ v1, v1 = CV.mk 1 (lngN (s.drop 1)) [] [] := ⟨_, rfl⟩
      obtain ⟨v2, hv2⟩ : ∃ v2, v2 = CV.mk 2 0 ((nxtRest s).take (lngN (s.drop 1)).toNat) [] := ⟨_, rfl⟩
      obtain ⟨a1, ha1⟩ : ∃ a1, a1 = Lv.mk (lngN (s.drop 1)) [] := ⟨_, rfl⟩
      obtain ⟨f1, hf1⟩ : ∃ f1, f1 = f - 1 := ⟨_, rfl⟩
      refine ⟨fun h1 => ?_, fun h1 => ⟨?_, fun h2 => ?_, fun h2 => ⟨fun h3 => ?_, fun h3 => ⟨?_, fun h4 => ?_, fun h4 => ⟨?_, fun h5 => ⟨⟨[a], s1, f1, v1⟩, ?_⟩, fun h5 => ⟨fun h6 => ⟨fun h7 => ?_, fun h7 => ⟨?_, ?_, ⟨[a], s2, f1, v2⟩, ?_⟩⟩, fun h6 => ⟨fun h7 => ⟨fun h8 => ?_, fun h8 => ⟨?_, ⟨[a1, a], s1, f1, v⟩, ?_⟩⟩, fun h7 => ?_⟩⟩⟩⟩⟩⟩⟩
      · (subst hL; subst hQ; simp only [L2, L3, std] at *; try simp only [sySet, syB, reduceCtorEq, forall_const, Int.reduceToNat, Int.reduceAdd, Int.reduceSub, Int.cast_ofNat_Int, Int.toNat_natCast, Nat.le_eq, Nat.sub_eq, ne_eq, implies_true, wadd, wsub, wmul, Nat.succ_eq_add_one] at *)
        exact nr_bad (nx_0 hx h1)
      · (subst hL; subst hQ; simp only [L2, L3, std] at *; try simp only [sySet, syB, reduceCtorEq, forall_const, Int.reduceToNat, Int.reduceAdd, Int.reduceSub, Int.cast_ofNat_Int, Int.toNat_natCast, Nat.le_eq, Nat.sub_eq, ne_eq, implies_true, wadd, wsub, wmul, Nat.succ_eq_add_one] at *)
        have := List.length_pos_iff.2 h1
        omega
      · (subst hL; subst hQ; simp only [L2, L3, std] at *; try simp only [sySet, syB, reduceCtorEq, forall_const, Int.reduceToNat, Int.reduceAdd, Int.reduceSub, Int.cast_ofNat_Int, Int.toNat_natCast, Nat.le_eq, Nat.sub_eq, ne_eq, implies_true, wadd, wsub, wmul, Nat.succ_eq_add_one] at *)
        rw [k_is] at h2
        exact nr_bad (nx_1 hx h1 (.inl h2))
      · (subst hL; subst hQ; simp only [L2, L3, std] at *; try simp only [sySet, syB, reduceCtorEq, forall_const, Int.reduceToNat, Int.reduceAdd, Int.reduceSub, Int.cast_ofNat_Int, Int.toNat_natCast, Nat.le_eq, Nat.sub_eq, ne_eq, implies_true, wadd, wsub, wmul, Nat.succ_eq_add_one] at *)
        rw [k_is] at h3
        exact nr_bad (nx_1 hx h1 (.inr h3))
      · (subst hL; subst hQ; simp only [L2, L3, std] at *; try simp only [sySet, syB, reduceCtorEq, forall_const, Int.reduceToNat, Int.reduceAdd, Int.reduceSub, Int.cast_ofNat_Int, Int.toNat_natCast, Nat.le_eq, Nat.sub_eq, ne_eq, implies_true, wadd, wsub, wmul, Nat.succ_eq_add_one] at *)
        have := List.length_pos_iff.2 h1
        omega
      · (subst hL; subst hQ; simp only [L2, L3, std] at *; try simp only [sySet, syB, reduceCtorEq, forall_const, Int.reduceToNat, Int.reduceAdd, Int.reduceSub, Int.cast_ofNat_Int, Int.toNat_natCast, Nat.le_eq, Nat.sub_eq, ne_eq, implies_true, wadd, wsub, wmul, Nat.succ_eq_add_one] at *)
        rw [k_is] at h2 h3
        exact nr_bad (nx_2 hx h1 h2 h3 h4)
      · (subst hL; subst hQ; simp only [L2, L3, std] at *; try simp only [sySet, syB, reduceCtorEq, forall_const, Int.reduceToNat, Int.reduceAdd, Int.reduceSub, Int.cast_ofNat_Int, Int.toNat_natCast, Nat.le_eq, Nat.sub_eq, ne_eq, implies_true, wadd, wsub, wmul, Nat.succ_eq_add_one] at *)
        rw [(rest_is s).2]
        exact nx_in h1 h4
      · (cbv; try simp only [sat_need, sat_must, sat_ite, sat_done, sat_yes, sat_ex, sat_all, sat_sup, sat_and, sat_fail, true_and, and_true])
        (subst hL; subst hQ; simp only [L2, L3, std] at *; try simp only [sySet, syB, reduceCtorEq, forall_const, Int.reduceToNat, Int.reduceAdd, Int.reduceSub, Int.cast_ofNat_Int, Int.toNat_natCast, Nat.le_eq, Nat.sub_eq, ne_eq, implies_true, wadd, wsub, wmul, Nat.succ_eq_add_one] at *)
        simp only [k_is, (rest_is s).1] at h5 ⊢
        obtain ⟨q1, q2⟩ := nx_3 hx h1 h4 h5
        rw [hv1, hs1, hf1]
        exact ⟨rfl, rfl, rfl, rfl, h5, rfl, q1, q2⟩
      · (subst hL; subst hQ; simp only [L2, L3, std] at *; try simp only [sySet, syB, reduceCtorEq, forall_const, Int.reduceToNat, Int.reduceAdd, Int.reduceSub, Int.cast_ofNat_Int, Int.toNat_natCast, Nat.le_eq, Nat.sub_eq, ne_eq, implies_true, wadd, wsub, wmul, Nat.succ_eq_add_one] at *)
        simp only [k_is, (rest_is s).1] at h6 h7
        exact nr_bad (nx_4 hx h1 h4 h6 h7)
      · (subst hL; subst hQ; simp only [L2, L3, std] at *; try simp only [sySet, syB, reduceCtorEq, forall_const, Int.reduceToNat, Int.reduceAdd, Int.reduceSub, Int.cast_ofNat_Int, Int.toNat_natCast, Nat.le_eq, Nat.sub_eq, ne_eq, implies_true, wadd, wsub, wmul, Nat.succ_eq_add_one] at *)
        simp only [k_is, (rest_is s).1] at h7 ⊢
        exact nx_5 hx h1 h4 h7
      · (subst hL; subst hQ; simp only [L2, L3, std] at *; try simp only [sySet, syB, reduceCtorEq, forall_const, Int.reduceToNat, Int.reduceAdd, Int.reduceSub, Int.cast_ofNat_Int, Int.toNat_natCast, Nat.le_eq, Nat.sub_eq, ne_eq, implies_true, wadd, wsub, wmul, Nat.succ_eq_add_one] at *)
        simp only [k_is, (rest_is s).1] at h7 ⊢
        exact nx_5 hx h1 h4 h7
      · (cbv; try simp only [sat_need, sat_must, sat_ite, sat_done, sat_yes, sat_ex, sat_all, sat_sup, sat_and, sat_fail, true_and, and_true])
        (subst hL; subst hQ; simp only [L2, L3, std] at *; try simp only [sySet, syB, reduceCtorEq, forall_const, Int.reduceToNat, Int.reduceAdd, Int.reduceSub, Int.cast_ofNat_Int, Int.toNat_natCast, Nat.le_eq, Nat.sub_eq, ne_eq, implies_true, wadd, wsub, wmul, Nat.succ_eq_add_one] at *)
        simp only [k_is, (rest_is s).1] at h6 h7 ⊢
        obtain ⟨q1, q2⟩ := nx_6 hx h1 h4 h6 h7
        rw [hv2, hs2, hf1]
        exact ⟨rfl, rfl, rfl, rfl, h6, rfl, q1, q2⟩
      · (subst hL; subst hQ; simp only [L2, L3, std] at *; try simp only [sySet, syB, reduceCtorEq, forall_const, Int.reduceToNat, Int.reduceAdd, Int.reduceSub, Int.cast_ofNat_Int, Int.toNat_natCast, Nat.le_eq, Nat.sub_eq, ne_eq, implies_true, wadd, wsub, wmul, Nat.succ_eq_add_one] at *)
        simp only [k_is] at h7
        exact absurd h8 (by decide)
      · (subst hL; subst hQ; simp only [L2, L3, std] at *; try simp only [sySet, syB, reduceCtorEq, forall_const, Int.reduceToNat, Int.reduceAdd, Int.reduceSub, Int.cast_ofNat_Int, Int.toNat_natCast, Nat.le_eq, Nat.sub_eq, ne_eq, implies_true, wadd, wsub, wmul, Nat.succ_eq_add_one] at *)
        omega
      · (cbv; try simp only [sat_need, sat_must, sat_ite, sat_done, sat_yes, sat_ex, sat_all, sat_sup, sat_and, sat_fail, true_and, and_true])
        (subst hL; subst hQ; simp only [L2, L3, std] at *; try simp only [sySet, syB, reduceCtorEq, forall_const, Int.reduceToNat, Int.reduceAdd, Int.reduceSub, Int.cast_ofNat_Int, Int.toNat_natCast, Nat.le_eq, Nat.sub_eq, ne_eq, implies_true, wadd, wsub, wmul, Nat.succ_eq_add_one] at *)
        simp only [k_is, (rest_is s).1] at h7 ⊢; exact nx_9 hx h1 h4 h7 (by simp) ha1 hs1 hf1
      · (subst hL; subst hQ; simp only [L2, L3, std] at *; try simp only [sySet, syB, reduceCtorEq, forall_const, Int.reduceToNat, Int.reduceAdd, Int.reduceSub, Int.cast_ofNat_Int, Int.toNat_natCast, Nat.le_eq, Nat.sub_eq, ne_eq, implies_true, wadd, wsub, wmul, Nat.succ_eq_add_one] at *)
        simp only [k_is] at h2 h3 h5 h6 h7
        omega
    | [a, b], hx =>
      (cbv; try simp only [sat_need, sat_must, sat_ite, sat_done, sat_yes, sat_ex, sat_all, sat_sup, sat_and, sat_fail, true_and, and_true])
      obtain ⟨s1, hs1⟩ : ∃ s1, s1 = nxtRest s := ⟨_, rfl⟩
      obtain ⟨s2, hs2⟩ : ∃ s2, s2 = (nxtRest s).drop (lngN (s.drop 1)).toNat := ⟨_, rfl⟩
      obtain ⟨v1, hv1⟩ : ∃ v1, v1 = CV.mk 1 (lngN (s.drop 1)) [] [] := ⟨_, rfl⟩
      obtain ⟨v2, hv2⟩ : ∃ v2, v2 = CV.mk 2 0 ((nxtRest s).take (lngN (s.drop 1)).toNat) [] := ⟨_, rfl⟩
      obtain ⟨a1, ha1⟩ : ∃ a1, a1 = Lv.mk (lngN (s.drop 1)) [] := ⟨_, rfl⟩
      obtain ⟨f1, hf1⟩ : ∃ f1, f1 = f - 1 := ⟨_, rfl⟩
      refine ⟨fun h1 => ?_, fun h1 => ⟨?_, fun h2 => ?_, fun h2 => ⟨fun h3 => ?_, fun h3 => ⟨?_, fun h4 => ?_, fun h4 => ⟨?_, fun h5 => ⟨⟨[a, b], s1, f1, v1⟩, ?_⟩, fun h5 => ⟨fun h6 => ⟨fun h7 => ?_, fun h7 => ⟨?_, ?_, ⟨[a, b], s2, f1, v2⟩, ?_⟩⟩, fun h6 => ⟨fun h7 => ⟨fun h8 => ?_, fun h8 => ⟨?_, ⟨[a1, a, b], s1, f1, v⟩, ?_⟩⟩, fun h7 => ?_⟩⟩⟩⟩⟩⟩⟩
      · (subst hL; subst hQ; simp only [L2, L3, std] at *; try simp only [sySet, syB, reduceCtorEq, forall_const, Int.reduceToNat, Int.reduceAdd, Int.reduceSub, Int.cast_ofNat_Int, Int.toNat_natCast, Nat.le_eq, Nat.sub_eq, ne_eq, implies_true, wadd, wsub, wmul, Nat.succ_eq_add_one] at *)
        exact nr_bad (nx_0 hx h1)
      · (subst hL; subst hQ; simp only [L2, L3, std] at *; try simp only [sySet, syB, reduceCtorEq, forall_const, Int.reduceToNat, Int.reduceAdd, Int.reduceSub, Int.cast_ofNat_Int, Int.toNat_natCast, Nat.le_eq, Nat.sub_eq, ne_eq, implies_true, wadd, wsub, wmul, Nat.succ_eq_add_one] at *)
        have := List.length_pos_iff.2 h1
        omega
      · (subst hL; subst hQ; simp only [L2, L3, std] at *; try simp only [sySet, syB, reduceCtorEq, forall_const, Int.reduceToNat, Int.reduceAdd, Int.reduceSub, Int.cast_ofNat_Int, Int.toNat_natCast, Nat.le_eq, Nat.sub_eq, ne_eq, implies_true, wadd, wsub, wmul, Nat.succ_eq_add_one] at *)
        rw [k_is] at h2
        exact nr_bad (nx_1 hx h1 (.inl h2))
      · (subst hL; subst hQ; simp only [L2, L3, std] at *; try simp only [sySet, syB, reduceCtorEq, forall_const, Int.reduceToNat, Int.reduceAdd, Int.reduceSub, Int.cast_ofNat_Int, Int.toNat_natCast, Nat.le_eq, Nat.sub_eq, ne_eq, implies_true, wadd, wsub, wmul, Nat.succ_eq_add_one] at *)
        rw [k_is] at h3
        exact nr_bad (nx_1 hx h1 (.inr h3))
      · (subst hL; subst hQ; simp only [L2, L3, std] at *; try simp only [sySet, syB, reduceCtorEq, forall_const, Int.reduceToNat, Int.reduceAdd, Int.reduceSub, Int.cast_ofNat_Int, Int.toNat_natCast, Nat.le_eq, Nat.sub_eq, ne_eq, implies_true, wadd, wsub, wmul, Nat.succ_eq_add_one] at *)
        have := List.length_pos_iff.2 h1
        omega
      · (subst hL; subst hQ; simp only [L2, L3, std] at *; try simp only [sySet, syB, reduceCtorEq, forall_const, Int.reduceToNat, Int.reduceAdd, Int.reduceSub, Int.cast_ofNat_Int, Int.toNat_natCast, Nat.le_eq, Nat.sub_eq, ne_eq, implies_true, wadd, wsub, wmul, Nat.succ_eq_add_one] at *)
        rw [k_is] at h2 h3
        exact nr_bad (nx_2 hx h1 h2 h3 h4)
      · (subst hL; subst hQ; simp only [L2, L3, std] at *; try simp only [sySet, syB, reduceCtorEq, forall_const, Int.reduceToNat, Int.reduceAdd, Int.reduceSub, Int.cast_ofNat_Int, Int.toNat_natCast, Nat.le_eq, Nat.sub_eq, ne_eq, implies_true, wadd, wsub, wmul, Nat.succ_eq_add_one] at *)
        rw [(rest_is s).2]
        exact nx_in h1 h4
      · (cbv; try simp only [sat_need, sat_must, sat_ite, sat_done, sat_yes, sat_ex, sat_all, sat_sup, sat_and, sat_fail, true_and, and_true])
        (subst hL; subst hQ; simp only [L2, L3, std] at *; try simp only [sySet, syB, reduceCtorEq, forall_const, Int.reduceToNat, Int.reduceAdd, Int.reduceSub, Int.cast_ofNat_Int, Int.toNat_natCast, Nat.le_eq, Nat.sub_eq, ne_eq, implies_true, wadd, wsub, wmul, Nat.succ_eq_add_one] at *)
        simp only [k_is, (rest_is s).1] at h5 ⊢
        obtain ⟨q1, q2⟩ := nx_3 hx h1 h4 h5
        rw [hv1, hs1, hf1]
        exact ⟨rfl, rfl, rfl, rfl, h5, rfl, q1, q2⟩
      · (subst hL; subst hQ; simp only [L2, L3, std] at *; try simp only [sySet, syB, reduceCtorEq, forall_const, Int.reduceToNat, Int.reduceAdd, Int.reduceSub, Int.cast_ofNat_Int, Int.toNat_natCast, Nat.le_eq, Nat.sub_eq, ne_eq, implies_true, wadd, wsub, wmul, Nat.succ_eq_add_one] at *)
        simp only [k_is, (rest_is s).1] at h6 h7
        exact nr_bad (nx_4 hx h1 h4 h6 h7)
      · (subst hL; subst hQ; simp only [L2, L3, std] at *; try simp only [sySet, syB, reduceCtorEq, forall_const, Int.reduceToNat, Int.reduceAdd, Int.reduceSub, Int.cast_ofNat_Int, Int.toNat_natCast, Nat.le_eq, Nat.sub_eq, ne_eq, implies_true, wadd, wsub, wmul, Nat.succ_eq_add_one] at *)
        simp only [k_is, (rest_is s).1] at h7 ⊢
        exact nx_5 hx h1 h4 h7
      · (subst hL; subst hQ; simp only [L2, L3, std] at *; try simp only [sySet, syB, reduceCtorEq, forall_const, Int.reduceToNat, Int.reduceAdd, Int.reduceSub, Int.cast_ofNat_Int, Int.toNat_natCast, Nat.le_eq, Nat.sub_eq, ne_eq, implies_true, wadd, wsub, wmul, Nat.succ_eq_add_one] at *)
        simp only [k_is, (rest_is s).1] at h7 ⊢
        exact nx_5 hx h1 h4 h7
      · (cbv; try simp only [sat_need, sat_must, sat_ite, sat_done, sat_yes, sat_ex, sat_all, sat_sup, sat_and, sat_fail, true_and, and_true])
        (subst hL; subst hQ; simp only [L2, L3, std] at *; try simp only [sySet, syB, reduceCtorEq, forall_const, Int.reduceToNat, Int.reduceAdd, Int.reduceSub, Int.cast_ofNat_Int, Int.toNat_natCast, Nat.le_eq, Nat.sub_eq, ne_eq, implies_true, wadd, wsub, wmul, Nat.succ_eq_add_one] at *)
        simp only [k_is, (rest_is s).1] at h6 h7 ⊢
        obtain ⟨q1, q2⟩ := nx_6 hx h1 h4 h6 h7
        rw [hv2, hs2, hf1]
        exact ⟨rfl, rfl, rfl, rfl, h6, rfl, q1, q2⟩
      · (subst hL; subst hQ; simp only [L2, L3, std] at *; try simp only [sySet, syB, reduceCtorEq, forall_const, Int.reduceToNat, Int.reduceAdd, Int.reduceSub, Int.cast_ofNat_Int, Int.toNat_natCast, Nat.le_eq, Nat.sub_eq, ne_eq, implies_true, wadd, wsub, wmul, Nat.succ_eq_add_one] at *)
        simp only [k_is] at h7
        exact absurd h8 (by decide)
      · (subst hL; subst hQ; simp only [L2, L3, std] at *; try simp only [sySet, syB, reduceCtorEq, forall_const, Int.reduceToNat, Int.reduceAdd, Int.reduceSub, Int.cast_ofNat_Int, Int.toNat_natCast, Nat.le_eq, Nat.sub_eq, ne_eq, implies_true, wadd, wsub, wmul, Nat.succ_eq_add_one] at *)
        omega
      · (cbv; try simp only [sat_need, sat_must, sat_ite, sat_done, sat_yes, sat_ex, sat_all, sat_sup, sat_and, sat_fail, true_and, and_true])
        (subst hL; subst hQ; simp only [L2, L3, std] at *; try simp only [sySet, syB, reduceCtorEq, forall_const, Int.reduceToNat, Int.reduceAdd, Int.reduceSub, Int.cast_ofNat_Int, Int.toNat_natCast, Nat.le_eq, Nat.sub_eq, ne_eq, implies_true, wadd, wsub, wmul, Nat.succ_eq_add_one] at *)
        simp only [k_is, (rest_is s).1] at h7 ⊢; exact nx_9 hx h1 h4 h7 (by simp) ha1 hs1 hf1
      · (subst hL; subst hQ; simp only [L2, L3, std] at *; try simp only [sySet, syB, reduceCtorEq, forall_const, Int.reduceToNat, Int.reduceAdd, Int.reduceSub, Int.cast_ofNat_Int, Int.toNat_natCast, Nat.le_eq, Nat.sub_eq, ne_eq, implies_true, wadd, wsub, wmul, Nat.succ_eq_add_one] at *)
        simp only [k_is] at h2 h3 h5 h6 h7
        omega
    | [a, b, c], hx =>
      (cbv; try simp only [sat_need, sat_must, sat_ite, sat_done, sat_yes, sat_ex, sat_all, sat_sup, sat_and, sat_fail, true_and, and_true])
      obtain ⟨s1, hs1⟩ : ∃ s1, s1 = nxtRest s := ⟨_, rfl⟩
      obtain ⟨s2, hs2⟩ : ∃ s2, s2 = (nxtRest s).drop (lngN (s.drop 1)).toNat := ⟨_, rfl⟩
      obtain ⟨v1, hv1⟩ : ∃ v1, v1 = CV.mk 1 (lngN (s.drop 1)) [] [] := ⟨_, rfl⟩
      obtain ⟨v2, hv2⟩ : ∃ v2, v2 = CV.mk 2 0 ((nxtRest s).take (lngN (s.drop 1)).toNat) [] := ⟨_, rfl⟩
      obtain ⟨a1, ha1⟩ : ∃ a1, a1 = Lv.mk (lngN (s.drop 1)) [] := ⟨_, rfl⟩
      obtain ⟨f1, hf1⟩ : ∃ f1, f1 = f - 1 := ⟨_, rfl⟩
      refine ⟨fun h1 => ?_, fun h1 => ⟨?_, fun h2 => ?_, fun h2 => ⟨fun h3 => ?_, fun h3 => ⟨?_, fun h4 => ?_, fun h4 => ⟨?_, fun h5 => ⟨⟨[a, b, c], s1, f1, v1⟩, ?_⟩, fun h5 => ⟨fun h6 => ⟨fun h7 => ?_, fun h7 => ⟨?_, ?_, ⟨[a, b, c], s2, f1, v2⟩, ?_⟩⟩, fun h6 => ⟨fun h7 => ⟨fun h8 => ?_, fun h8 => ⟨?_, ⟨[a1, a, b, c], s1, f1, v⟩, ?_⟩⟩, fun h7 => ?_⟩⟩⟩⟩⟩⟩⟩
      · (subst hL; subst hQ; simp only [L2, L3, std] at *; try simp only [sySet, syB, reduceCtorEq, forall_const, Int.reduceToNat, Int.reduceAdd, Int.reduceSub, Int.cast_ofNat_Int, Int.toNat_natCast, Nat.le_eq, Nat.sub_eq, ne_eq, implies_true, wadd, wsub, wmul, Nat.succ_eq_add_one] at *)
        exact nr_bad (nx_0 hx h1)
      · (subst hL; subst hQ; simp only [L2, L3, std] at *; try simp only [sySet, syB, reduceCtorEq, forall_const, Int.reduceToNat, Int.reduceAdd, Int.reduceSub, Int.cast_ofNat_Int, Int.toNat_natCast, Nat.le_eq, Nat.sub_eq, ne_eq, implies_true, wadd, wsub, wmul, Nat.succ_eq_add_one] at *)
        have := List.length_pos_iff.2 h1
        omega
      · (subst hL; subst hQ; simp only [L2, L3, std] at *; try simp only [sySet, syB, reduceCtorEq, forall_const, Int.reduceToNat, Int.reduceAdd, Int.reduceSub, Int.cast_ofNat_Int, Int.toNat_natCast, Nat.le_eq, Nat.sub_eq, ne_eq, implies_true, wadd, wsub, wmul, Nat.succ_eq_add_one] at *)
        rw [k_is] at h2
        exact nr_bad (nx_1 hx h1 (.inl h2))
      · (subst hL; subst hQ; simp only [L2, L3, std] at *; try simp only [sySet, syB, reduceCtorEq, forall_const, Int.reduceToNat, Int.reduceAdd, Int.reduceSub, Int.cast_ofNat_Int, Int.toNat_natCast, Nat.le_eq, Nat.sub_eq, ne_eq, implies_true, wadd, wsub, wmul, Nat.succ_eq_add_one] at *)
        rw [k_is] at h3
        exact nr_bad (nx_1 hx h1 (.inr h3))
      · (subst hL; subst hQ; simp only [L2, L3, std] at *; try simp only [sySet, syB, reduceCtorEq, forall_const, Int.reduceToNat, Int.reduceAdd, Int.reduceSub, Int.cast_ofNat_Int, Int.toNat_natCast, Nat.le_eq, Nat.sub_eq, ne_eq, implies_true, wadd, wsub, wmul, Nat.succ_eq_add_one] at *)
        have := List.length_pos_iff.2 h1
        omega
      · (subst hL; subst hQ; simp only [L2, L3, std] at *; try simp only [sySet, syB, reduceCtorEq, forall_const, Int.reduceToNat, Int.reduceAdd, Int.reduceSub, Int.cast_ofNat_Int, Int.toNat_natCast, Nat.le_eq, Nat.sub_eq, ne_eq, implies_true, wadd, wsub, wmul, Nat.succ_eq_add_one] at *)
        rw [k_is] at h2 h3
        exact nr_bad (nx_2 hx h1 h2 h3 h4)
      · (subst hL; subst hQ; simp only [L2, L3, std] at *; try simp only [sySet, syB, reduceCtorEq, forall_const, Int.reduceToNat, Int.reduceAdd, Int.reduceSub, Int.cast_ofNat_Int, Int.toNat_natCast, Nat.le_eq, Nat.sub_eq, ne_eq, implies_true, wadd, wsub, wmul, Nat.succ_eq_add_one] at *)
        rw [(rest_is s).2]
        exact nx_in h1 h4
      · (cbv; try simp only [sat_need, sat_must, sat_ite, sat_done, sat_yes, sat_ex, sat_all, sat_sup, sat_and, sat_fail, true_and, and_true])
        (subst hL; subst hQ; simp only [L2, L3, std] at *; try simp only [sySet, syB, reduceCtorEq, forall_const, Int.reduceToNat, Int.reduceAdd, Int.reduceSub, Int.cast_ofNat_Int, Int.toNat_natCast, Nat.le_eq, Nat.sub_eq, ne_eq, implies_true, wadd, wsub, wmul, Nat.succ_eq_add_one] at *)
        simp only [k_is, (rest_is s).1] at h5 ⊢
        obtain ⟨q1, q2⟩ := nx_3 hx h1 h4 h5
        rw [hv1, hs1, hf1]
        exact ⟨rfl, rfl, rfl, rfl, h5, rfl, q1, q2⟩
      · (subst hL; subst hQ; simp only [L2, L3, std] at *; try simp only [sySet, syB, reduceCtorEq, forall_const, Int.reduceToNat, Int.reduceAdd, Int.reduceSub, Int.cast_ofNat_Int, Int.toNat_natCast, Nat.le_eq, Nat.sub_eq, ne_eq, implies_true, wadd, wsub, wmul, Nat.succ_eq_add_one] at *)
        simp only [k_is, (rest_is s).1] at h6 h7
        exact nr_bad (nx_4 hx h1 h4 h6 h7)
      · (subst hL; subst hQ; simp only [L2, L3, std] at *; try simp only [sySet, syB, reduceCtorEq, forall_const, Int.reduceToNat, Int.reduceAdd, Int.reduceSub, Int.cast_ofNat_Int, Int.toNat_natCast, Nat.le_eq, Nat.sub_eq, ne_eq, implies_true, wadd, wsub, wmul, Nat.succ_eq_add_one] at *)
        simp only [k_is, (rest_is s).1] at h7 ⊢
        exact nx_5 hx h1 h4 h7
      · (subst hL; subst hQ; simp only [L2, L3, std] at *; try simp only [sySet, syB, reduceCtorEq, forall_const, Int.reduceToNat, Int.reduceAdd, Int.reduceSub, Int.cast_ofNat_Int, Int.toNat_natCast, Nat.le_eq, Nat.sub_eq, ne_eq, implies_true, wadd, wsub, wmul, Nat.succ_eq_add_one] at *)
        simp only [k_is, (rest_is s).1] at h7 ⊢
        exact nx_5 hx h1 h4 h7
      · (cbv; try simp only [sat_need, sat_must, sat_ite, sat_done, sat_yes, sat_ex, sat_all, sat_sup, sat_and, sat_fail, true_and, and_true])
        (subst hL; subst hQ; simp only [L2, L3, std] at *; try simp only [sySet, syB, reduceCtorEq, forall_const, Int.reduceToNat, Int.reduceAdd, Int.reduceSub, Int.cast_ofNat_Int, Int.toNat_natCast, Nat.le_eq, Nat.sub_eq, ne_eq, implies_true, wadd, wsub, wmul, Nat.succ_eq_add_one] at *)
        simp only [k_is, (rest_is s).1] at h6 h7 ⊢
        obtain ⟨q1, q2⟩ := nx_6 hx h1 h4 h6 h7
        rw [hv2, hs2, hf1]
        exact ⟨rfl, rfl, rfl, rfl, h6, rfl, q1, q2⟩
      · (subst hL; subst hQ; simp only [L2, L3, std] at *; try simp only [sySet, syB, reduceCtorEq, forall_const, Int.reduceToNat, Int.reduceAdd, Int.reduceSub, Int.cast_ofNat_Int, Int.toNat_natCast, Nat.le_eq, Nat.sub_eq, ne_eq, implies_true, wadd, wsub, wmul, Nat.succ_eq_add_one] at *)
        simp only [k_is] at h7
        exact absurd h8 (by decide)
      · (subst hL; subst hQ; simp only [L2, L3, std] at *; try simp only [sySet, syB, reduceCtorEq, forall_const, Int.reduceToNat, Int.reduceAdd, Int.reduceSub, Int.cast_ofNat_Int, Int.toNat_natCast, Nat.le_eq, Nat.sub_eq, ne_eq, implies_true, wadd, wsub, wmul, Nat.succ_eq_add_one] at *)
        omega
      · (cbv; try simp only [sat_need, sat_must, sat_ite, sat_done, sat_yes, sat_ex, sat_all, sat_sup, sat_and, sat_fail, true_and, and_true])
        (subst hL; subst hQ; simp only [L2, L3, std] at *; try simp only [sySet, syB, reduceCtorEq, forall_const, Int.reduceToNat, Int.reduceAdd, Int.reduceSub, Int.cast_ofNat_Int, Int.toNat_natCast, Nat.le_eq, Nat.sub_eq, ne_eq, implies_true, wadd, wsub, wmul, Nat.succ_eq_add_one] at *)
        simp only [k_is, (rest_is s).1] at h7 ⊢; exact nx_9 hx h1 h4 h7 (by simp) ha1 hs1 hf1
      · (subst hL; subst hQ; simp only [L2, L3, std] at *; try simp only [sySet, syB, reduceCtorEq, forall_const, Int.reduceToNat, Int.reduceAdd, Int.reduceSub, Int.cast_ofNat_Int, Int.toNat_natCast, Nat.le_eq, Nat.sub_eq, ne_eq, implies_true, wadd, wsub, wmul, Nat.succ_eq_add_one] at *)
        simp only [k_is] at h2 h3 h5 h6 h7
        omega
    | [a, b, c, d], hx =>
      (cbv; try simp only [sat_need, sat_must, sat_ite, sat_done, sat_yes, sat_ex, sat_all, sat_sup, sat_and, sat_fail, true_and, and_true])
      obtain ⟨s1, hs1⟩ : ∃ s1, s1 = nxtRest s := ⟨_, rfl⟩
      obtain ⟨s2, hs2⟩ : ∃ s2, s2 = (nxtRest s).drop (lngN (s.drop 1)).toNat := ⟨_, rfl⟩
      obtain ⟨v1, hv1⟩ : ∃ v1, v1 = CV.mk 1 (lngN (s.drop 1)) [] [] := ⟨_, rfl⟩
      obtain ⟨v2, hv2⟩ : ∃ v2, v2 = CV.mk 2 0 ((nxtRest s).take (lngN (s.drop 1)).toNat) [] := ⟨_, rfl⟩
      obtain ⟨a1, ha1⟩ : ∃ a1, a1 = Lv.mk (lngN (s.drop 1)) [] := ⟨_, rfl⟩
      obtain ⟨f1, hf1⟩ : ∃ f1, f1 = f - 1 := ⟨_, rfl⟩
      refine ⟨fun h1 => ?_, fun h1 => ⟨?_, fun h2 => ?_, fun h2 => ⟨fun h3 => ?_, fun h3 => ⟨?_, fun h4 => ?_, fun h4 => ⟨?_, fun h5 => ⟨⟨[a, b, c, d], s1, f1, v1⟩, ?_⟩, fun h5 => ⟨fun h6 => ⟨fun h7 => ?_, fun h7 => ⟨?_, ?_, ⟨[a, b, c, d], s2, f1, v2⟩, ?_⟩⟩, fun h6 => ⟨fun h7 => ⟨fun h8 => ?_, fun h8 => ⟨?_, ⟨[a1, a, b, c, d], s1, f1, v⟩, ?_⟩⟩, fun h7 => ?_⟩⟩⟩⟩⟩⟩⟩
      · (subst hL; subst hQ; simp only [L2, L3, std] at *; try simp only [sySet, syB, reduceCtorEq, forall_const, Int.reduceToNat, Int.reduceAdd, Int.reduceSub, Int.cast_ofNat_Int, Int.toNat_natCast, Nat.le_eq, Nat.sub_eq, ne_eq, implies_true, wadd, wsub, wmul, Nat.succ_eq_add_one] at *)
        exact nr_bad (nx_0 hx h1)
      · (subst hL; subst hQ; simp only [L2, L3, std] at *; try simp only [sySet, syB, reduceCtorEq, forall_const, Int.reduceToNat, Int.reduceAdd, Int.reduceSub, Int.cast_ofNat_Int, Int.toNat_natCast, Nat.le_eq, Nat.sub_eq, ne_eq, implies_true, wadd, wsub, wmul, Nat.succ_eq_add_one] at *)
        have := List.length_pos_iff.2 h1
        omega
      · (subst hL; subst hQ; simp only [L2, L3, std] at *; try simp only [sySet, syB, reduceCtorEq, forall_const, Int.reduceToNat, Int.reduceAdd, Int.reduceSub, Int.cast_ofNat_Int, Int.toNat_natCast, Nat.le_eq, Nat.sub_eq, ne_eq, implies_true, wadd, wsub, wmul, Nat.succ_eq_add_one] at *)
        rw [k_is] at h2
        exact nr_bad (nx_1 hx h1 (.inl h2))
      · (subst hL; subst hQ; simp only [L2, L3, std] at *; try simp only [sySet, syB, reduceCtorEq, forall_const, Int.reduceToNat, Int.reduceAdd, Int.reduceSub, Int.cast_ofNat_Int, Int.toNat_natCast, Nat.le_eq, Nat.sub_eq, ne_eq, implies_true, wadd, wsub, wmul, Nat.succ_eq_add_one] at *)
        rw [k_is] at h3
        exact nr_bad (nx_1 hx h1 (.inr h3))
      · (subst hL; subst hQ; simp only [L2, L3, std] at *; try simp only [sySet, syB, reduceCtorEq, forall_const, Int.reduceToNat, Int.reduceAdd, Int.reduceSub, Int.cast_ofNat_Int, Int.toNat_natCast, Nat.le_eq, Nat.sub_eq, ne_eq, implies_true, wadd, wsub, wmul, Nat.succ_eq_add_one] at *)
        have := List.length_pos_iff.2 h1
        omega
      · (subst hL; subst hQ; simp only [L2, L3, std] at *; try simp only [sySet, syB, reduceCtorEq, forall_const, Int.reduceToNat, Int.reduceAdd, Int.reduceSub, Int.cast_ofNat_Int, Int.toNat_natCast, Nat.le_eq, Nat.sub_eq, ne_eq, implies_true, wadd, wsub, wmul, Nat.succ_eq_add_one] at *)
        rw [k_is] at h2 h3
        exact nr_bad (nx_2 hx h1 h2 h3 h4)
      · (subst hL; subst hQ; simp only [L2, L3, std] at *; try simp only [sySet, syB, reduceCtorEq, forall_const, Int.reduceToNat, Int.reduceAdd, Int.reduceSub, Int.cast_ofNat_Int, Int.toNat_natCast, Nat.le_eq, Nat.sub_eq, ne_eq, implies_true, wadd, wsub, wmul, Nat.succ_eq_add_one] at *)
        rw [(rest_is s).2]
        exact nx_in h1 h4
      · (cbv; try simp only [sat_need, sat_must, sat_ite, sat_done, sat_yes, sat_ex, sat_all, sat_sup, sat_and, sat_fail, true_and, and_true])
        (subst hL; subst hQ; simp only [L2, L3, std] at *; try simp only [sySet, syB, reduceCtorEq, forall_const, Int.reduceToNat, Int.reduceAdd, Int.reduceSub, Int.cast_ofNat_Int, Int.toNat_natCast, Nat.le_eq, Nat.sub_eq, ne_eq, implies_true, wadd, wsub, wmul, Nat.succ_eq_add_one] at *)
        simp only [k_is, (rest_is s).1] at h5 ⊢
        obtain ⟨q1, q2⟩ := nx_3 hx h1 h4 h5
        rw [hv1, hs1, hf1]
        exact ⟨rfl, rfl, rfl, rfl, h5, rfl, q1, q2⟩
      · (subst hL; subst hQ; simp only [L2, L3, std] at *; try simp only [sySet, syB, reduceCtorEq, forall_const, Int.reduceToNat, Int.reduceAdd, Int.reduceSub, Int.cast_ofNat_Int, Int.toNat_natCast, Nat.le_eq, Nat.sub_eq, ne_eq, implies_true, wadd, wsub, wmul, Nat.succ_eq_add_one] at *)
        simp only [k_is, (rest_is s).1] at h6 h7
        exact nr_bad (nx_4 hx h1 h4 h6 h7)
      · (subst hL; subst hQ; simp only [L2, L3, std] at *; try simp only [sySet, syB, reduceCtorEq, forall_const, Int.reduceToNat, Int.reduceAdd, Int.reduceSub, Int.cast_ofNat_Int, Int.toNat_natCast, Nat.le_eq, Nat.sub_eq, ne_eq, implies_true, wadd, wsub, wmul, Nat.succ_eq_add_one] at *)
        simp only [k_is, (rest_is s).1] at h7 ⊢
        exact nx_5 hx h1 h4 h7
      · (subst hL; subst hQ; simp only [L2, L3, std] at *; try simp only [sySet, syB, reduceCtorEq, forall_const, Int.reduceToNat, Int.reduceAdd, Int.reduceSub, Int.cast_ofNat_Int, Int.toNat_natCast, Nat.le_eq, Nat.sub_eq, ne_eq, implies_true, wadd, wsub, wmul, Nat.succ_eq_add_one] at *)
        simp only [k_is, (rest_is s).1] at h7 ⊢
        exact nx_5 hx h1 h4 h7
      · (cbv; try simp only [sat_need, sat_must, sat_ite, sat_done, sat_yes, sat_ex, sat_all, sat_sup, sat_and, sat_fail, true_and, and_true])
        (subst hL; subst hQ; simp only [L2, L3, std] at *; try simp only [sySet, syB, reduceCtorEq, forall_const, Int.reduceToNat, Int.reduceAdd, Int.reduceSub, Int.cast_ofNat_Int, Int.toNat_natCast, Nat.le_eq, Nat.sub_eq, ne_eq, implies_true, wadd, wsub, wmul, Nat.succ_eq_add_one] at *)
        simp only [k_is, (rest_is s).1] at h6 h7 ⊢
        obtain ⟨q1, q2⟩ := nx_6 hx h1 h4 h6 h7
        rw [hv2, hs2, hf1]
        exact ⟨rfl, rfl, rfl, rfl, h6, rfl, q1, q2⟩
      · (subst hL; subst hQ; simp only [L2, L3, std] at *; try simp only [sySet, syB, reduceCtorEq, forall_const, Int.reduceToNat, Int.reduceAdd, Int.reduceSub, Int.cast_ofNat_Int, Int.toNat_natCast, Nat.le_eq, Nat.sub_eq, ne_eq, implies_true, wadd, wsub, wmul, Nat.succ_eq_add_one] at *)
        simp only [k_is] at h7
        exact absurd h8 (by decide)
      · (subst hL; subst hQ; simp only [L2, L3, std] at *; try simp only [sySet, syB, reduceCtorEq, forall_const, Int.reduceToNat, Int.reduceAdd, Int.reduceSub, Int.cast_ofNat_Int, Int.toNat_natCast, Nat.le_eq, Nat.sub_eq, ne_eq, implies_true, wadd, wsub, wmul, Nat.succ_eq_add_one] at *)
        omega
      · (cbv; try simp only [sat_need, sat_must, sat_ite, sat_done, sat_yes, sat_ex, sat_all, sat_sup, sat_and, sat_fail, true_and, and_true])
        (subst hL; subst hQ; simp only [L2, L3, std] at *; try simp only [sySet, syB, reduceCtorEq, forall_const, Int.reduceToNat, Int.reduceAdd, Int.reduceSub, Int.cast_ofNat_Int, Int.toNat_natCast, Nat.le_eq, Nat.sub_eq, ne_eq, implies_true, wadd, wsub, wmul, Nat.succ_eq_add_one] at *)
        simp only [k_is, (rest_is s).1] at h7 ⊢; exact nx_9 hx h1 h4 h7 (by simp) ha1 hs1 hf1
      · (subst hL; subst hQ; simp only [L2, L3, std] at *; try simp only [sySet, syB, reduceCtorEq, forall_const, Int.reduceToNat, Int.reduceAdd, Int.reduceSub, Int.cast_ofNat_Int, Int.toNat_natCast, Nat.le_eq, Nat.sub_eq, ne_eq, implies_true, wadd, wsub, wmul, Nat.succ_eq_add_one] at *)
        simp only [k_is] at h2 h3 h5 h6 h7
        omega
    | [a, b, c, d, e], hx =>
      (cbv; try simp only [sat_need, sat_must, sat_ite, sat_done, sat_yes, sat_ex, sat_all, sat_sup, sat_and, sat_fail, true_and, and_true])
      obtain ⟨s1, hs1⟩ : ∃ s1, s1 = nxtRest s := ⟨_, rfl⟩
      obtain ⟨s2, hs2⟩ : ∃ s2, s2 = (nxtRest s).drop (lngN (s.drop 1)).toNat := ⟨_, rfl⟩
      obtain ⟨v1, hv1⟩ : ∃ v1, v1 = CV.mk 1 (lngN (s.drop 1)) [] [] := ⟨_, rfl⟩
      obtain ⟨v2, hv2⟩ : ∃ v2, v2 = CV.mk 2 0 ((nxtRest s).take (lngN (s.drop 1)).toNat) [] := ⟨_, rfl⟩
      obtain ⟨a1, ha1⟩ : ∃ a1, a1 = Lv.mk (lngN (s.drop 1)) [] := ⟨_, rfl⟩
      obtain ⟨f1, hf1⟩ : ∃ f1, f1 = f - 1 := ⟨_, rfl⟩
      refine ⟨fun h1 => ?_, fun h1 => ⟨?_, fun h2 => ?_, fun h2 => ⟨fun h3 => ?_, fun h3 => ⟨?_, fun h4 => ?_, fun h4 => ⟨?_, fun h5 => ⟨⟨[a, b, c, d, e], s1, f1, v1⟩, ?_⟩, fun h5 => ⟨fun h6 => ⟨fun h7 => ?_, fun h7 => ⟨?_, ?_, ⟨[a, b, c, d, e], s2, f1, v2⟩, ?_⟩⟩, fun h6 => ⟨fun h7 => ⟨fun h8 => ?_, fun h8 => ⟨?_, ⟨[a1, a, b, c, d, e], s1, f1, v⟩, ?_⟩⟩, fun h7 => ?_⟩⟩⟩⟩⟩⟩⟩
      · (subst hL; subst hQ; simp only [L2, L3, std] at *; try simp only [sySet, syB, reduceCtorEq, forall_const, Int.reduceToNat, Int.reduceAdd, Int.reduceSub, Int.cast_ofNat_Int, Int.toNat_natCast, Nat.le_eq, Nat.sub_eq, ne_eq, implies_true, wadd, wsub, wmul, Nat.succ_eq_add_one] at *)
        exact nr_bad (nx_0 hx h1)
      · (subst hL; subst hQ; simp only [L2, L3, std] at *; try simp only [sySet, syB, reduceCtorEq, forall_const, Int.reduceToNat, Int.reduceAdd, Int.reduceSub, Int.cast_ofNat_Int, Int.toNat_natCast, Nat.le_eq, Nat.sub_eq, ne_eq, implies_true, wadd, wsub, wmul, Nat.succ_eq_add_one] at *)
        have := List.length_pos_iff.2 h1
        omega
      · (subst hL; subst hQ; simp only [L2, L3, std] at *; try simp only [sySet, syB, reduceCtorEq, forall_const, Int.reduceToNat, Int.reduceAdd, Int.reduceSub, Int.cast_ofNat_Int, Int.toNat_natCast, Nat.le_eq, Nat.sub_eq, ne_eq, implies_true, wadd, wsub, wmul, Nat.succ_eq_add_one] at *)
        rw [k_is] at h2
        exact nr_bad (nx_1 hx h1 (.inl h2))
      · (subst hL; subst hQ; simp only [L2, L3, std] at *; try simp only [sySet, syB, reduceCtorEq, forall_const, Int.reduceToNat, Int.reduceAdd, Int.reduceSub, Int.cast_ofNat_Int, Int.toNat_natCast, Nat.le_eq, Nat.sub_eq, ne_eq, implies_true, wadd, wsub, wmul, Nat.succ_eq_add_one] at *)
        rw [k_is] at h3
        exact nr_bad (nx_1 hx h1 (.inr h3))
      · (subst hL; subst hQ; simp only [L2, L3, std] at *; try simp only [sySet, syB, reduceCtorEq, forall_const, Int.reduceToNat, Int.reduceAdd, Int.reduceSub, Int.cast_ofNat_Int, Int.toNat_natCast, Nat.le_eq, Nat.sub_eq, ne_eq, implies_true, wadd, wsub, wmul, Nat.succ_eq_add_one] at *)
        have := List.length_pos_iff.2 h1
        omega
      · (subst hL; subst hQ; simp only [L2, L3, std] at *; try simp only [sySet, syB, reduceCtorEq, forall_const, Int.reduceToNat, Int.reduceAdd, Int.reduceSub, Int.cast_ofNat_Int, Int.toNat_natCast, Nat.le_eq, Nat.sub_eq, ne_eq, implies_true, wadd, wsub, wmul, Nat.succ_eq_add_one] at *)
        rw [k_is] at h2 h3
        exact nr_bad (nx_2 hx h1 h2 h3 h4)
      · (subst hL; subst hQ; simp only [L2, L3, std] at *; try simp only [sySet, syB, reduceCtorEq, forall_const, Int.reduceToNat, Int.reduceAdd, Int.reduceSub, Int.cast_ofNat_Int, Int.toNat_natCast, Nat.le_eq, Nat.sub_eq, ne_eq, implies_true, wadd, wsub, wmul, Nat.succ_eq_add_one] at *)
        rw [(rest_is s).2]
        exact nx_in h1 h4
      · (cbv; try simp only [sat_need, sat_must, sat_ite, sat_done, sat_yes, sat_ex, sat_all, sat_sup, sat_and, sat_fail, true_and, and_true])
        (subst hL; subst hQ; simp only [L2, L3, std] at *; try simp only [sySet, syB, reduceCtorEq, forall_const, Int.reduceToNat, Int.reduceAdd, Int.reduceSub, Int.cast_ofNat_Int, Int.toNat_natCast, Nat.le_eq, Nat.sub_eq, ne_eq, implies_true, wadd, wsub, wmul, Nat.succ_eq_add_one] at *)
        simp only [k_is, (rest_is s).1] at h5 ⊢
        obtain ⟨q1, q2⟩ := nx_3 hx h1 h4 h5
        rw [hv1, hs1, hf1]
        exact ⟨rfl, rfl, rfl, rfl, h5, rfl, q1, q2⟩
      · (subst hL; subst hQ; simp only [L2, L3, std] at *; try simp only [sySet, syB, reduceCtorEq, forall_const, Int.reduceToNat, Int.reduceAdd, Int.reduceSub, Int.cast_ofNat_Int, Int.toNat_natCast, Nat.le_eq, Nat.sub_eq, ne_eq, implies_true, wadd, wsub, wmul, Nat.succ_eq_add_one] at *)
        simp only [k_is, (rest_is s).1] at h6 h7
        exact nr_bad (nx_4 hx h1 h4 h6 h7)
      · (subst hL; subst hQ; simp only [L2, L3, std] at *; try simp only [sySet, syB, reduceCtorEq, forall_const, Int.reduceToNat, Int.reduceAdd, Int.reduceSub, Int.cast_ofNat_Int, Int.toNat_natCast, Nat.le_eq, Nat.sub_eq, ne_eq, implies_true, wadd, wsub, wmul, Nat.succ_eq_add_one] at *)
        simp only [k_is, (rest_is s).1] at h7 ⊢
        exact nx_5 hx h1 h4 h7
      · (subst hL; subst hQ; simp only [L2, L3, std] at *; try simp only [sySet, syB, reduceCtorEq, forall_const, Int.reduceToNat, Int.reduceAdd, Int.reduceSub, Int.cast_ofNat_Int, Int.toNat_natCast, Nat.le_eq, Nat.sub_eq, ne_eq, implies_true, wadd, wsub, wmul, Nat.succ_eq_add_one] at *)
        simp only [k_is, (rest_is s).1] at h7 ⊢
        exact nx_5 hx h1 h4 h7
      · (cbv; try simp only [sat_need, sat_must, sat_ite, sat_done, sat_yes, sat_ex, sat_all, sat_sup, sat_and, sat_fail, true_and, and_true])
        (subst hL; subst hQ; simp only [L2, L3, std] at *; try simp only [sySet, syB, reduceCtorEq, forall_const, Int.reduceToNat, Int.reduceAdd, Int.reduceSub, Int.cast_ofNat_Int, Int.toNat_natCast, Nat.le_eq, Nat.sub_eq, ne_eq, implies_true, wadd, wsub, wmul, Nat.succ_eq_add_one] at *)
        simp only [k_is, (rest_is s).1] at h6 h7 ⊢
        obtain ⟨q1, q2⟩ := nx_6 hx h1 h4 h6 h7
        rw [hv2, hs2, hf1]
        exact ⟨rfl, rfl, rfl, rfl, h6, rfl, q1, q2⟩
      · (subst hL; subst hQ; simp only [L2, L3, std] at *; try simp only [sySet, syB, reduceCtorEq, forall_const, Int.reduceToNat, Int.reduceAdd, Int.reduceSub, Int.cast_ofNat_Int, Int.toNat_natCast, Nat.le_eq, Nat.sub_eq, ne_eq, implies_true, wadd, wsub, wmul, Nat.succ_eq_add_one] at *)
        simp only [k_is] at h7
        exact absurd h8 (by decide)
      · (subst hL; subst hQ; simp only [L2, L3, std] at *; try simp only [sySet, syB, reduceCtorEq, forall_const, Int.reduceToNat, Int.reduceAdd, Int.reduceSub, Int.cast_ofNat_Int, Int.toNat_natCast, Nat.le_eq, Nat.sub_eq, ne_eq, implies_true, wadd, wsub, wmul, Nat.succ_eq_add_one] at *)
        omega
      · (cbv; try simp only [sat_need, sat_must, sat_ite, sat_done, sat_yes, sat_ex, sat_all, sat_sup, sat_and, sat_fail, true_and, and_true])
        (subst hL; subst hQ; simp only [L2, L3, std] at *; try simp only [sySet, syB, reduceCtorEq, forall_const, Int.reduceToNat, Int.reduceAdd, Int.reduceSub, Int.cast_ofNat_Int, Int.toNat_natCast, Nat.le_eq, Nat.sub_eq, ne_eq, implies_true, wadd, wsub, wmul, Nat.succ_eq_add_one] at *)
        simp only [k_is, (rest_is s).1] at h7 ⊢; exact nx_9 hx h1 h4 h7 (by simp) ha1 hs1 hf1
      · (subst hL; subst hQ; simp only [L2, L3, std] at *; try simp only [sySet, syB, reduceCtorEq, forall_const, Int.reduceToNat, Int.reduceAdd, Int.reduceSub, Int.cast_ofNat_Int, Int.toNat_natCast, Nat.le_eq, Nat.sub_eq, ne_eq, implies_true, wadd, wsub, wmul, Nat.succ_eq_add_one] at *)
        simp only [k_is] at h2 h3 h5 h6 h7
        omega
    | [a, b, c, d, e, k], hx =>
      (cbv; try simp only [sat_need, sat_must, sat_ite, sat_done, sat_yes, sat_ex, sat_all, sat_sup, sat_and, sat_fail, true_and, and_true])
      obtain ⟨s1, hs1⟩ : ∃ s1, s1 = nxtRest s := ⟨_, rfl⟩
      obtain ⟨s2, hs2⟩ : ∃ s2, s2 = (nxtRest s).drop (lngN (s.drop 1)).toNat := ⟨_, rfl⟩
      obtain ⟨v1, hv1⟩ : ∃ v1, v1 = CV.mk 1 (lngN (s.drop 1)) [] [] := ⟨_, rfl⟩
      obtain ⟨v2, hv2⟩ : ∃ v2, v2 = CV.mk 2 0 ((nxtRest s).take (lngN (s.drop 1)).toNat) [] := ⟨_, rfl⟩
      obtain ⟨a1, ha1⟩ : ∃ a1, a1 = Lv.mk (lngN (s.drop 1)) [] := ⟨_, rfl⟩
      obtain ⟨f1, hf1⟩ : ∃ f1, f1 = f - 1 := ⟨_, rfl⟩
      refine ⟨fun h1 => ?_, fun h1 => ⟨?_, fun h2 => ?_, fun h2 => ⟨fun h3 => ?_, fun h3 => ⟨?_, fun h4 => ?_, fun h4 => ⟨?_, fun h5 => ⟨⟨[a, b, c, d, e, k], s1, f1, v1⟩, ?_⟩, fun h5 => ⟨fun h6 => ⟨fun h7 => ?_, fun h7 => ⟨?_, ?_, ⟨[a, b, c, d, e, k], s2, f1, v2⟩, ?_⟩⟩, fun h6 => ⟨fun h7 => ⟨fun h8 => ?_, fun h8 => ⟨?_, ⟨[a1, a, b, c, d, e, k], s1, f1, v⟩, ?_⟩⟩, fun h7 => ?_⟩⟩⟩⟩⟩⟩⟩
      · (subst hL; subst hQ; simp only [L2, L3, std] at *; try simp only [sySet, syB, reduceCtorEq, forall_const, Int.reduceToNat, Int.reduceAdd, Int.reduceSub, Int.cast_ofNat_Int, Int.toNat_natCast, Nat.le_eq, Nat.sub_eq, ne_eq, implies_true, wadd, wsub, wmul, Nat.succ_eq_add_one] at *)
        exact nr_bad (nx_0 hx h1)
      · (subst hL; subst hQ; simp only [L2, L3, std] at *; try simp only [sySet, syB, reduceCtorEq, forall_const, Int.reduceToNat, Int.reduceAdd, Int.reduceSub, Int.cast_ofNat_Int, Int.toNat_natCast, Nat.le_eq, Nat.sub_eq, ne_eq, implies_true, wadd, wsub, wmul, Nat.succ_eq_add_one] at *)
        have := List.length_pos_iff.2 h1
        omega
      · (subst hL; subst hQ; simp only [L2, L3, std] at *; try simp only [sySet, syB, reduceCtorEq, forall_const, Int.reduceToNat, Int.reduceAdd, Int.reduceSub, Int.cast_ofNat_Int, Int.toNat_natCast, Nat.le_eq, Nat.sub_eq, ne_eq, implies_true, wadd, wsub, wmul, Nat.succ_eq_add_one] at *)
        rw [k_is] at h2
        exact nr_bad (nx_1 hx h1 (.inl h2))
      · (subst hL; subst hQ; simp only [L2, L3, std] at *; try simp only [sySet, syB, reduceCtorEq, forall_const, Int.reduceToNat, Int.reduceAdd, Int.reduceSub, Int.cast_ofNat_Int, Int.toNat_natCast, Nat.le_eq, Nat.sub_eq, ne_eq, implies_true, wadd, wsub, wmul, Nat.succ_eq_add_one] at *)
        rw [k_is] at h3
        exact nr_bad (nx_1 hx h1 (.inr h3))
      · (subst hL; subst hQ; simp only [L2, L3, std] at *; try simp only [sySet, syB, reduceCtorEq, forall_const, Int.reduceToNat, Int.reduceAdd, Int.reduceSub, Int.cast_ofNat_Int, Int.toNat_natCast, Nat.le_eq, Nat.sub_eq, ne_eq, implies_true, wadd, wsub, wmul, Nat.succ_eq_add_one] at *)
        have := List.length_pos_iff.2 h1
        omega
      · (subst hL; subst hQ; simp only [L2, L3, std] at *; try simp only [sySet, syB, reduceCtorEq, forall_const, Int.reduceToNat, Int.reduceAdd, Int.reduceSub, Int.cast_ofNat_Int, Int.toNat_natCast, Nat.le_eq, Nat.sub_eq, ne_eq, implies_true, wadd, wsub, wmul, Nat.succ_eq_add_one] at *)
        rw [k_is] at h2 h3
        exact nr_bad (nx_2 hx h1 h2 h3 h4)
      · (subst hL; subst hQ; simp only [L2, L3, std] at *; try simp only [sySet, syB, reduceCtorEq, forall_const, Int.reduceToNat, Int.reduceAdd, Int.reduceSub, Int.cast_ofNat_Int, Int.toNat_natCast, Nat.le_eq, Nat.sub_eq, ne_eq, implies_true, wadd, wsub, wmul, Nat.succ_eq_add_one] at *)
        rw [(rest_is s).2]
        exact nx_in h1 h4
      · (cbv; try simp only [sat_need, sat_must, sat_ite, sat_done, sat_yes, sat_ex, sat_all, sat_sup, sat_and, sat_fail, true_and, and_true])
        (subst hL; subst hQ; simp only [L2, L3, std] at *; try simp only [sySet, syB, reduceCtorEq, forall_const, Int.reduceToNat, Int.reduceAdd, Int.reduceSub, Int.cast_ofNat_Int, Int.toNat_natCast, Nat.le_eq, Nat.sub_eq, ne_eq, implies_true, wadd, wsub, wmul, Nat.succ_eq_add_one] at *)
        simp only [k_is, (rest_is s).1] at h5 ⊢
        obtain ⟨q1, q2⟩ := nx_3 hx h1 h4 h5
        rw [hv1, hs1, hf1]
        exact ⟨rfl, rfl, rfl, rfl, h5, rfl, q1, q2⟩
      · (subst hL; subst hQ; simp only [L2, L3, std] at *; try simp only [sySet, syB, reduceCtorEq, forall_const, Int.reduceToNat, Int.reduceAdd, Int.reduceSub, Int.cast_ofNat_Int, Int.toNat_natCast, Nat.le_eq, Nat.sub_eq, ne_eq, implies_true, wadd, wsub, wmul, Nat.succ_eq_add_one] at *)
        simp only [k_is, (rest_is s).1] at h6 h7
        exact nr_bad (nx_4 hx h1 h4 h6 h7)
      · (subst hL; subst hQ; simp only [L2, L3, std] at *; try simp only [sySet, syB, reduceCtorEq, forall_const, Int.reduceToNat, Int.reduceAdd, Int.reduceSub, Int.cast_ofNat_Int, Int.toNat_natCast, Nat.le_eq, Nat.sub_eq, ne_eq, implies_true, wadd, wsub, wmul, Nat.succ_eq_add_one] at *)
        simp only [k_is, (rest_is s).1] at h7 ⊢
        exact nx_5 hx h1 h4 h7
      · (subst hL; subst hQ; simp only [L2, L3, std] at *; try simp only [sySet, syB, reduceCtorEq, forall_const, Int.reduceToNat, Int.reduceAdd, Int.reduceSub, Int.cast_ofNat_Int, Int.toNat_natCast, Nat.le_eq, Nat.sub_eq, ne_eq, implies_true, wadd, wsub, wmul, Nat.succ_eq_add_one] at *)
        simp only [k_is, (rest_is s).1] at h7 ⊢
        exact nx_5 hx h1 h4 h7
      · (cbv; try simp only [sat_need, sat_must, sat_ite, sat_done, sat_yes, sat_ex, sat_all, sat_sup, sat_and, sat_fail, true_and, and_true])
        (subst hL; subst hQ; simp only [L2, L3, std] at *; try simp only [sySet, syB, reduceCtorEq, forall_const, Int.reduceToNat, Int.reduceAdd, Int.reduceSub, Int.cast_ofNat_Int, Int.toNat_natCast, Nat.le_eq, Nat.sub_eq, ne_eq, implies_true, wadd, wsub, wmul, Nat.succ_eq_add_one] at *)
        simp only [k_is, (rest_is s).1] at h6 h7 ⊢
        obtain ⟨q1, q2⟩ := nx_6 hx h1 h4 h6 h7
        rw [hv2, hs2, hf1]
        exact ⟨rfl, rfl, rfl, rfl, h6, rfl, q1, q2⟩
      · (subst hL; subst hQ; simp only [L2, L3, std] at *; try simp only [sySet, syB, reduceCtorEq, forall_const, Int.reduceToNat, Int.reduceAdd, Int.reduceSub, Int.cast_ofNat_Int, Int.toNat_natCast, Nat.le_eq, Nat.sub_eq, ne_eq, implies_true, wadd, wsub, wmul, Nat.succ_eq_add_one] at *)
        simp only [k_is] at h7
        exact nr_bad (nx_7 hx h1 h4 h7 rfl)
      · (subst hL; subst hQ; simp only [L2, L3, std] at *; try simp only [sySet, syB, reduceCtorEq, forall_const, Int.reduceToNat, Int.reduceAdd, Int.reduceSub, Int.cast_ofNat_Int, Int.toNat_natCast, Nat.le_eq, Nat.sub_eq, ne_eq, implies_true, wadd, wsub, wmul, Nat.succ_eq_add_one] at *)
        all_goals omega
      · all_goals skip
        (subst hL; subst hQ; simp only [L2, L3, std] at *; try simp only [sySet, syB, reduceCtorEq, forall_const, Int.reduceToNat, Int.reduceAdd, Int.reduceSub, Int.cast_ofNat_Int, Int.toNat_natCast, Nat.le_eq, Nat.sub_eq, ne_eq, implies_true, wadd, wsub, wmul, Nat.succ_eq_add_one] at *)
        all_goals omega
      · (subst hL; subst hQ; simp only [L2, L3, std] at *; try simp only [sySet, syB, reduceCtorEq, forall_const, Int.reduceToNat, Int.reduceAdd, Int.reduceSub, Int.cast_ofNat_Int, Int.toNat_natCast, Nat.le_eq, Nat.sub_eq, ne_eq, implies_true, wadd, wsub, wmul, Nat.succ_eq_add_one] at *)
        simp only [k_is] at h2 h3 h5 h6 h7
        omega
    | a :: b :: c :: d :: e :: k :: m :: r, hx =>
      have h7 : (a :: b :: c :: d :: e :: k :: m :: r).length ≤ 6 := by { (subst hL; subst hQ; simp only [L2, L3, std] at *; try simp only [sySet, syB, reduceCtorEq, forall_const, Int.reduceToNat, Int.reduceAdd, Int.reduceSub, Int.cast_ofNat_Int, Int.toNat_natCast, Nat.le_eq, Nat.sub_eq, ne_eq, implies_true, wadd, wsub, wmul, Nat.succ_eq_add_one] at *); exact hx.1 }
      exact absurd h7 (by simp)
  · obtain ⟨st, s, f, v⟩ := x
    cbv at hx
    match st, hx with
    | [], hx =>
      (cbv; try simp only [sat_need, sat_must, sat_ite, sat_done, sat_yes, sat_ex, sat_all, sat_sup, sat_and, sat_fail, true_and, and_true])
      refine ⟨fun h0 => ?_, fun h0 => ?_⟩
      · (subst hL; subst hQ; simp only [L2, L3, std] at *; try simp only [sySet, syB, reduceCtorEq, forall_const, Int.reduceToNat, Int.reduceAdd, Int.reduceSub, Int.cast_ofNat_Int, Int.toNat_natCast, Nat.le_eq, Nat.sub_eq, ne_eq, implies_true, wadd, wsub, wmul, Nat.succ_eq_add_one] at *)
        exact nr_good (nd_0 hx)
      · (subst hL; subst hQ; simp only [L2, L3, std] at *; try simp only [sySet, syB, reduceCtorEq, forall_const, Int.reduceToNat, Int.reduceAdd, Int.reduceSub, Int.cast_ofNat_Int, Int.toNat_natCast, Nat.le_eq, Nat.sub_eq, ne_eq, implies_true, wadd, wsub, wmul, Nat.succ_eq_add_one] at *)
    | [a], hx =>
      (cbv; try simp only [sat_need, sat_must, sat_ite, sat_done, sat_yes, sat_ex, sat_all, sat_sup, sat_and, sat_fail, true_and, and_true])
      obtain ⟨a', ha'⟩ : ∃ a', a' = Lv.mk (a.left - 1) (a.l ++ [v]) := ⟨_, rfl⟩
      refine ⟨fun h0 => ?_, fun h0 => ⟨⟨?_, ?_, ?_, ?_, ?_, ⟨[a'], s, f, v⟩, ?_⟩, ?_, ?_, ?_, ?_, ?_, ?_, ⟨[a'], s, f, v⟩, ?_⟩⟩
      · (subst hL; subst hQ; simp only [L2, L3, std] at *; try simp only [sySet, syB, reduceCtorEq, forall_const, Int.reduceToNat, Int.reduceAdd, Int.reduceSub, Int.cast_ofNat_Int, Int.toNat_natCast, Nat.le_eq, Nat.sub_eq, ne_eq, implies_true, wadd, wsub, wmul, Nat.succ_eq_add_one] at *)
        exact absurd h0 (by decide)
      · (subst hL; subst hQ; simp only [L2, L3, std]; try simp only [sySet, syB, reduceCtorEq, forall_const, Int.reduceToNat, Int.reduceAdd, Int.reduceSub, Int.cast_ofNat_Int, Int.toNat_natCast, Nat.le_eq, Nat.sub_eq, ne_eq, implies_true, wadd, wsub, wmul, Nat.succ_eq_add_one]) <;> decide
      · (subst hL; subst hQ; simp only [L2, L3, std] at *; try simp only [sySet, syB, reduceCtorEq, forall_const, Int.reduceToNat, Int.reduceAdd, Int.reduceSub, Int.cast_ofNat_Int, Int.toNat_natCast, Nat.le_eq, Nat.sub_eq, ne_eq, implies_true, wadd, wsub, wmul, Nat.succ_eq_add_one] at *)
        exact nd_room (nd_1 hx).2.1
      · (subst hL; subst hQ; simp only [L2, L3, std]; try simp only [sySet, syB, reduceCtorEq, forall_const, Int.reduceToNat, Int.reduceAdd, Int.reduceSub, Int.cast_ofNat_Int, Int.toNat_natCast, Nat.le_eq, Nat.sub_eq, ne_eq, implies_true, wadd, wsub, wmul, Nat.succ_eq_add_one]) <;> decide
      · (subst hL; subst hQ; simp only [L2, L3, std]; try simp only [sySet, syB, reduceCtorEq, forall_const, Int.reduceToNat, Int.reduceAdd, Int.reduceSub, Int.cast_ofNat_Int, Int.toNat_natCast, Nat.le_eq, Nat.sub_eq, ne_eq, implies_true, wadd, wsub, wmul, Nat.succ_eq_add_one]) <;> decide
      · (subst hL; subst hQ; simp only [L2, L3, std]; try simp only [sySet, syB, reduceCtorEq, forall_const, Int.reduceToNat, Int.reduceAdd, Int.reduceSub, Int.cast_ofNat_Int, Int.toNat_natCast, Nat.le_eq, Nat.sub_eq, ne_eq, implies_true, wadd, wsub, wmul, Nat.succ_eq_add_one]) <;> decide
      · (cbv; try simp only [sat_need, sat_must, sat_ite, sat_done, sat_yes, sat_ex, sat_all, sat_sup, sat_and, sat_fail, true_and, and_true])
        (subst hL; subst hQ; simp only [L2, L3, std] at *; try simp only [sySet, syB, reduceCtorEq, forall_const, Int.reduceToNat, Int.reduceAdd, Int.reduceSub, Int.cast_ofNat_Int, Int.toNat_natCast, Nat.le_eq, Nat.sub_eq, ne_eq, implies_true, wadd, wsub, wmul, Nat.succ_eq_add_one] at *)
        obtain ⟨q1, q2, q3, q4, q5⟩ := nd_1 hx
        subst ha'
        have e : lenL (a.l ++ [v]) = a.l.length + 1 := by unfold lenL; simp
        exact ⟨⟨e.symm, fun i j hi hj => cv_push3 a.l v (by rw [← e]; exact hi) hj⟩, e.symm, Int.emod_eq_of_lt (by omega) (by omega), q1, q5⟩
      · (subst hL; subst hQ; simp only [L2, L3, std]; try simp only [sySet, syB, reduceCtorEq, forall_const, Int.reduceToNat, Int.reduceAdd, Int.reduceSub, Int.cast_ofNat_Int, Int.toNat_natCast, Nat.le_eq, Nat.sub_eq, ne_eq, implies_true, wadd, wsub, wmul, Nat.succ_eq_add_one]) <;> decide
      · (subst hL; subst hQ; simp only [L2, L3, std] at *; try simp only [sySet, syB, reduceCtorEq, forall_const, Int.reduceToNat, Int.reduceAdd, Int.reduceSub, Int.cast_ofNat_Int, Int.toNat_natCast, Nat.le_eq, Nat.sub_eq, ne_eq, implies_true, wadd, wsub, wmul, Nat.succ_eq_add_one] at *)
        exact nd_room (nd_1 hx).2.1
      · (subst hL; subst hQ; simp only [L2, L3, std]; try simp only [sySet, syB, reduceCtorEq, forall_const, Int.reduceToNat, Int.reduceAdd, Int.reduceSub, Int.cast_ofNat_Int, Int.toNat_natCast, Nat.le_eq, Nat.sub_eq, ne_eq, implies_true, wadd, wsub, wmul, Nat.succ_eq_add_one]) <;> decide
      · (subst hL; subst hQ; simp only [L2, L3, std] at *; try simp only [sySet, syB, reduceCtorEq, forall_const, Int.reduceToNat, Int.reduceAdd, Int.reduceSub, Int.cast_ofNat_Int, Int.toNat_natCast, Nat.le_eq, Nat.sub_eq, ne_eq, implies_true, wadd, wsub, wmul, Nat.succ_eq_add_one] at *)
        exact nd_in _
      · (subst hL; subst hQ; simp only [L2, L3, std]; try simp only [sySet, syB, reduceCtorEq, forall_const, Int.reduceToNat, Int.reduceAdd, Int.reduceSub, Int.cast_ofNat_Int, Int.toNat_natCast, Nat.le_eq, Nat.sub_eq, ne_eq, implies_true, wadd, wsub, wmul, Nat.succ_eq_add_one]) <;> decide
      · (subst hL; subst hQ; simp only [L2, L3, std]; try simp only [sySet, syB, reduceCtorEq, forall_const, Int.reduceToNat, Int.reduceAdd, Int.reduceSub, Int.cast_ofNat_Int, Int.toNat_natCast, Nat.le_eq, Nat.sub_eq, ne_eq, implies_true, wadd, wsub, wmul, Nat.succ_eq_add_one]) <;> decide
      · (cbv; try simp only [sat_need, sat_must, sat_ite, sat_done, sat_yes, sat_ex, sat_all, sat_sup, sat_and, sat_fail, true_and, and_true])
        (subst hL; subst hQ; simp only [L2, L3, std] at *; try simp only [sySet, syB, reduceCtorEq, forall_const, Int.reduceToNat, Int.reduceAdd, Int.reduceSub, Int.cast_ofNat_Int, Int.toNat_natCast, Nat.le_eq, Nat.sub_eq, ne_eq, implies_true, wadd, wsub, wmul, Nat.succ_eq_add_one] at *)
        obtain ⟨q1, q2, q3, q4, q5⟩ := nd_1 hx
        subst ha'
        have e : lenL (a.l ++ [v]) = a.l.length + 1 := by unfold lenL; simp
        exact ⟨⟨e.symm, fun i j hi hj => cv_push4 a.l v (by rw [← e]; exact hi) hj⟩, e.symm, Int.emod_eq_of_lt (by omega) (by omega), q1, q5⟩
    | [a, b], hx =>
      (cbv; try simp only [sat_need, sat_must, sat_ite, sat_done, sat_yes, sat_ex, sat_all, sat_sup, sat_and, sat_fail, true_and, and_true])
      obtain ⟨a', ha'⟩ : ∃ a', a' = Lv.mk (a.left - 1) (a.l ++ [v]) := ⟨_, rfl⟩
      refine ⟨fun h0 => ?_, fun h0 => ⟨⟨?_, ?_, ?_, ?_, ?_, ⟨[a', b], s, f, v⟩, ?_⟩, ?_, ?_, ?_, ?_, ?_, ?_, ⟨[a', b], s, f, v⟩, ?_⟩⟩
      · (subst hL; subst hQ; simp only [L2, L3, std] at *; try simp only [sySet, syB, reduceCtorEq, forall_const, Int.reduceToNat, Int.reduceAdd, Int.reduceSub, Int.cast_ofNat_Int, Int.toNat_natCast, Nat.le_eq, Nat.sub_eq, ne_eq, implies_true, wadd, wsub, wmul, Nat.succ_eq_add_one] at *)
        exact absurd h0 (by decide)
      · (subst hL; subst hQ; simp only [L2, L3, std]; try simp only [sySet, syB, reduceCtorEq, forall_const, Int.reduceToNat, Int.reduceAdd, Int.reduceSub, Int.cast_ofNat_Int, Int.toNat_natCast, Nat.le_eq, Nat.sub_eq, ne_eq, implies_true, wadd, wsub, wmul, Nat.succ_eq_add_one]) <;> decide
      · (subst hL; subst hQ; simp only [L2, L3, std] at *; try simp only [sySet, syB, reduceCtorEq, forall_const, Int.reduceToNat, Int.reduceAdd, Int.reduceSub, Int.cast_ofNat_Int, Int.toNat_natCast, Nat.le_eq, Nat.sub_eq, ne_eq, implies_true, wadd, wsub, wmul, Nat.succ_eq_add_one] at *)
        exact nd_room (nd_1 hx).2.1
      · (subst hL; subst hQ; simp only [L2, L3, std]; try simp only [sySet, syB, reduceCtorEq, forall_const, Int.reduceToNat, Int.reduceAdd, Int.reduceSub, Int.cast_ofNat_Int, Int.toNat_natCast, Nat.le_eq, Nat.sub_eq, ne_eq, implies_true, wadd, wsub, wmul, Nat.succ_eq_add_one]) <;> decide
      · (subst hL; subst hQ; simp only [L2, L3, std]; try simp only [sySet, syB, reduceCtorEq, forall_const, Int.reduceToNat, Int.reduceAdd, Int.reduceSub, Int.cast_ofNat_Int, Int.toNat_natCast, Nat.le_eq, Nat.sub_eq, ne_eq, implies_true, wadd, wsub, wmul, Nat.succ_eq_add_one]) <;> decide
      · (subst hL; subst hQ; simp only [L2, L3, std]; try simp only [sySet, syB, reduceCtorEq, forall_const, Int.reduceToNat, Int.reduceAdd, Int.reduceSub, Int.cast_ofNat_Int, Int.toNat_natCast, Nat.le_eq, Nat.sub_eq, ne_eq, implies_true, wadd, wsub, wmul, Nat.succ_eq_add_one]) <;> decide
      · (cbv; try simp only [sat_need, sat_must, sat_ite, sat_done, sat_yes, sat_ex, sat_all, sat_sup, sat_and, sat_fail, true_and, and_true])
        (subst hL; subst hQ; simp only [L2, L3, std] at *; try simp only [sySet, syB, reduceCtorEq, forall_const, Int.reduceToNat, Int.reduceAdd, Int.reduceSub, Int.cast_ofNat_Int, Int.toNat_natCast, Nat.le_eq, Nat.sub_eq, ne_eq, implies_true, wadd, wsub, wmul, Nat.succ_eq_add_one] at *)
        obtain ⟨q1, q2, q3, q4, q5⟩ := nd_1 hx
        subst ha'
        have e : lenL (a.l ++ [v]) = a.l.length + 1 := by unfold lenL; simp
        exact ⟨⟨e.symm, fun i j hi hj => cv_push3 a.l v (by rw [← e]; exact hi) hj⟩, e.symm, Int.emod_eq_of_lt (by omega) (by omega), q1, q5⟩
      · (subst hL; subst hQ; simp only [L2, L3, std]; try simp only [sySet, syB, reduceCtorEq, forall_const, Int.reduceToNat, Int.reduceAdd, Int.reduceSub, Int.cast_ofNat_Int, Int.toNat_natCast, Nat.le_eq, Nat.sub_eq, ne_eq, implies_true, wadd, wsub, wmul, Nat.succ_eq_add_one]) <;> decide
      · (subst hL; subst hQ; simp only [L2, L3, std] at *; try simp only [sySet, syB, reduceCtorEq, forall_const, Int.reduceToNat, Int.reduceAdd, Int.reduceSub, Int.cast_ofNat_Int, Int.toNat_natCast, Nat.le_eq, Nat.sub_eq, ne_eq, implies_true, wadd, wsub, wmul, Nat.succ_eq_add_one] at *)
        exact nd_room (nd_1 hx).2.1
      · (subst hL; subst hQ; simp only [L2, L3, std]; try simp only [sySet, syB, reduceCtorEq, forall_const, Int.reduceToNat, Int.reduceAdd, Int.reduceSub, Int.cast_ofNat_Int, Int.toNat_natCast, Nat.le_eq, Nat.sub_eq, ne_eq, implies_true, wadd, wsub, wmul, Nat.succ_eq_add_one]) <;> decide
      · (subst hL; subst hQ; simp only [L2, L3, std] at *; try simp only [sySet, syB, reduceCtorEq, forall_const, Int.reduceToNat, Int.reduceAdd, Int.reduceSub, Int.cast_ofNat_Int, Int.toNat_natCast, Nat.le_eq, Nat.sub_eq, ne_eq, implies_true, wadd, wsub, wmul, Nat.succ_eq_add_one] at *)
        exact nd_in _
      · (subst hL; subst hQ; simp only [L2, L3, std]; try simp only [sySet, syB, reduceCtorEq, forall_const, Int.reduceToNat, Int.reduceAdd, Int.reduceSub, Int.cast_ofNat_Int, Int.toNat_natCast, Nat.le_eq, Nat.sub_eq, ne_eq, implies_true, wadd, wsub, wmul, Nat.succ_eq_add_one]) <;> decide
      · (subst hL; subst hQ; simp only [L2, L3, std]; try simp only [sySet, syB, reduceCtorEq, forall_const, Int.reduceToNat, Int.reduceAdd, Int.reduceSub, Int.cast_ofNat_Int, Int.toNat_natCast, Nat.le_eq, Nat.sub_eq, ne_eq, implies_true, wadd, wsub, wmul, Nat.succ_eq_add_one]) <;> decide
      · (cbv; try simp only [sat_need, sat_must, sat_ite, sat_done, sat_yes, sat_ex, sat_all, sat_sup, sat_and, sat_fail, true_and, and_true])
        (subst hL; subst hQ; simp only [L2, L3, std] at *; try simp only [sySet, syB, reduceCtorEq, forall_const, Int.reduceToNat, Int.reduceAdd, Int.reduceSub, Int.cast_ofNat_Int, Int.toNat_natCast, Nat.le_eq, Nat.sub_eq, ne_eq, implies_true, wadd, wsub, wmul, Nat.succ_eq_add_one] at *)
        obtain ⟨q1, q2, q3, q4, q5⟩ := nd_1 hx
        subst ha'
        have e : lenL (a.l ++ [v]) = a.l.length + 1 := by unfold lenL; simp
        exact ⟨⟨e.symm, fun i j hi hj => cv_push4 a.l v (by rw [← e]; exact hi) hj⟩, e.symm, Int.emod_eq_of_lt (by omega) (by omega), q1, q5⟩
    | [a, b, c], hx =>
      (cbv; try simp only [sat_need, sat_must, sat_ite, sat_done, sat_yes, sat_ex, sat_all, sat_sup, sat_and, sat_fail, true_and, and_true])
      obtain ⟨a', ha'⟩ : ∃ a', a' = Lv.mk (a.left - 1) (a.l ++ [v]) := ⟨_, rfl⟩
      refine ⟨fun h0 => ?_, fun h0 => ⟨⟨?_, ?_, ?_, ?_, ?_, ⟨[a', b, c], s, f, v⟩, ?_⟩, ?_, ?_, ?_, ?_, ?_, ?_, ⟨[a', b, c], s, f, v⟩, ?_⟩⟩
      · (subst hL; subst hQ; simp only [L2, L3, std] at *; try simp only [sySet, syB, reduceCtorEq, forall_const, Int.reduceToNat, Int.reduceAdd, Int.reduceSub, Int.cast_ofNat_Int, Int.toNat_natCast, Nat.le_eq, Nat.sub_eq, ne_eq, implies_true, wadd, wsub, wmul, Nat.succ_eq_add_one] at *)
        exact absurd h0 (by decide)
      · (subst hL; subst hQ; simp only [L2, L3, std]; try simp only [sySet, syB, reduceCtorEq, forall_const, Int.reduceToNat, Int.reduceAdd, Int.reduceSub, Int.cast_ofNat_Int, Int.toNat_natCast, Nat.le_eq, Nat.sub_eq, ne_eq, implies_true, wadd, wsub, wmul, Nat.succ_eq_add_one]) <;> decide
      · (subst hL; subst hQ; simp only [L2, L3, std] at *; try simp only [sySet, syB, reduceCtorEq, forall_const, Int.reduceToNat, Int.reduceAdd, Int.reduceSub, Int.cast_ofNat_Int, Int.toNat_natCast, Nat.le_eq, Nat.sub_eq, ne_eq, implies_true, wadd, wsub, wmul, Nat.succ_eq_add_one] at *)
        exact nd_room (nd_1 hx).2.1
      · (subst hL; subst hQ; simp only [L2, L3, std]; try simp only [sySet, syB, reduceCtorEq, forall_const, Int.reduceToNat, Int.reduceAdd, Int.reduceSub, Int.cast_ofNat_Int, Int.toNat_natCast, Nat.le_eq, Nat.sub_eq, ne_eq, implies_true, wadd, wsub, wmul, Nat.succ_eq_add_one]) <;> decide
      · (subst hL; subst hQ; simp only [L2, L3, std]; try simp only [sySet, syB, reduceCtorEq, forall_const, Int.reduceToNat, Int.reduceAdd, Int.reduceSub, Int.cast_ofNat_Int, Int.toNat_natCast, Nat.le_eq, Nat.sub_eq, ne_eq, implies_true, wadd, wsub, wmul, Nat.succ_eq_add_one]) <;> decide
      · (subst hL; subst hQ; simp only [L2, L3, std]; try simp only [sySet, syB, reduceCtorEq, forall_const, Int.reduceToNat, Int.reduceAdd, Int.reduceSub, Int.cast_ofNat_Int, Int.toNat_natCast, Nat.le_eq, Nat.sub_eq, ne_eq, implies_true, wadd, wsub, wmul, Nat.succ_eq_add_one]) <;> decide
      · (cbv; try simp only [sat_need, sat_must, sat_ite, sat_done, sat_yes, sat_ex, sat_all, sat_sup, sat_and, sat_fail, true_and, and_true])
        (subst hL; subst hQ; simp only [L2, L3, std] at *; try simp only [sySet, syB, reduceCtorEq, forall_const, Int.reduceToNat, Int.reduceAdd, Int.reduceSub, Int.cast_ofNat_Int, Int.toNat_natCast, Nat.le_eq, Nat.sub_eq, ne_eq, implies_true, wadd, wsub, wmul, Nat.succ_eq_add_one] at *)
        obtain ⟨q1, q2, q3, q4, q5⟩ := nd_1 hx
        subst ha'
        have e : lenL (a.l ++ [v]) = a.l.length + 1 := by unfold lenL; simp
        exact ⟨⟨e.symm, fun i j hi hj => cv_push3 a.l v (by rw [← e]; exact hi) hj⟩, e.symm, Int.emod_eq_of_lt (by omega) (by omega), q1, q5⟩
      · (subst hL; subst hQ; simp only [L2, L3, std]; try simp only [sySet, syB, reduceCtorEq, forall_const, Int.reduceToNat, Int.reduceAdd, Int.reduceSub, Int.cast_ofNat_Int, Int.toNat_natCast, Nat.le_eq, Nat.sub_eq, ne_eq, implies_true, wadd, wsub, wmul, Nat.succ_eq_add_one]) <;> decide
      · (subst hL; subst hQ; simp only [L2, L3, std] at *; try simp only [sySet, syB, reduceCtorEq, forall_const, Int.reduceToNat, Int.reduceAdd, Int.reduceSub, Int.cast_ofNat_Int, Int.toNat_natCast, Nat.le_eq, Nat.sub_eq, ne_eq, implies_true, wadd, wsub, wmul, Nat.succ_eq_add_one] at *)
        exact nd_room (nd_1 hx).2.1
      · (subst hL; subst hQ; simp only [L2, L3, std]; try simp only [sySet, syB, reduceCtorEq, forall_const, Int.reduceToNat, Int.reduceAdd, Int.reduceSub, Int.cast_ofNat_Int, Int.toNat_natCast, Nat.le_eq, Nat.sub_eq, ne_eq, implies_true, wadd, wsub, wmul, Nat.succ_eq_add_one]) <;> decide
      · (subst hL; subst hQ; simp only [L2, L3, std] at *; try simp only [sySet, syB, reduceCtorEq, forall_const, Int.reduceToNat, Int.reduceAdd, Int.reduceSub, Int.cast_ofNat_Int, Int.toNat_natCast, Nat.le_eq, Nat.sub_eq, ne_eq, implies_true, wadd, wsub, wmul, Nat.succ_eq_add_one] at *)
        exact nd_in _
      · (subst hL; subst hQ; simp only [L2, L3, std]; try simp only [sySet, syB, reduceCtorEq, forall_const, Int.reduceToNat, Int.reduceAdd, Int.reduceSub, Int.cast_ofNat_Int, Int.toNat_natCast, Nat.le_eq, Nat.sub_eq, ne_eq, implies_true, wadd, wsub, wmul, Nat.succ_eq_add_one]) <;> decide
      · (subst hL; subst hQ; simp only [L2, L3, std]; try simp only [sySet, syB, reduceCtorEq, forall_const, Int.reduceToNat, Int.reduceAdd, Int.reduceSub, Int.cast_ofNat_Int, Int.toNat_natCast, Nat.le_eq, Nat.sub_eq, ne_eq, implies_true, wadd, wsub, wmul, Nat.succ_eq_add_one]) <;> decide
      · (cbv; try simp only [sat_need, sat_must, sat_ite, sat_done, sat_yes, sat_ex, sat_all, sat_sup, sat_and, sat_fail, true_and, and_true])
        (subst hL; subst hQ; simp only [L2, L3, std] at *; try simp only [sySet, syB, reduceCtorEq, forall_const, Int.reduceToNat, Int.reduceAdd, Int.reduceSub, Int.cast_ofNat_Int, Int.toNat_natCast, Nat.le_eq, Nat.sub_eq, ne_eq, implies_true, wadd, wsub, wmul, Nat.succ_eq_add_one] at *)
        obtain ⟨q1, q2, q3, q4, q5⟩ := nd_1 hx
        subst ha'
        have e : lenL (a.l ++ [v]) = a.l.length + 1 := by unfold lenL; simp
        exact ⟨⟨e.symm, fun i j hi hj => cv_push4 a.l v (by rw [← e]; exact hi) hj⟩, e.symm, Int.emod_eq_of_lt (by omega) (by omega), q1, q5⟩
    | [a, b, c, d], hx =>
      (cbv; try simp only [sat_need, sat_must, sat_ite, sat_done, sat_yes, sat_ex, sat_all, sat_sup, sat_and, sat_fail, true_and, and_true])
      obtain ⟨a', ha'⟩ : ∃ a', a' = Lv.mk (a.left - 1) (a.l ++ [v]) := ⟨_, rfl⟩
      refine ⟨fun h0 => ?_, fun h0 => ⟨⟨?_, ?_, ?_, ?_, ?_, ⟨[a', b, c, d], s, f, v⟩, ?_⟩, ?_, ?_, ?_, ?_, ?_, ?_, ⟨[a', b, c, d], s, f, v⟩, ?_⟩⟩
      · (subst hL; subst hQ; simp only [L2, L3, std] at *; try simp only [sySet, syB, reduceCtorEq, forall_const, Int.reduceToNat, Int.reduceAdd, Int.reduceSub, Int.cast_ofNat_Int, Int.toNat_natCast, Nat.le_eq, Nat.sub_eq, ne_eq, implies_true, wadd, wsub, wmul, Nat.succ_eq_add_one] at *)
        exact absurd h0 (by decide)
      · (subst hL; subst hQ; simp only [L2, L3, std]; try simp only [sySet, syB, reduceCtorEq, forall_const, Int.reduceToNat, Int.reduceAdd, Int.reduceSub, Int.cast_ofNat_Int, Int.toNat_natCast, Nat.le_eq, Nat.sub_eq, ne_eq, implies_true, wadd, wsub, wmul, Nat.succ_eq_add_one]) <;> decide
      · (subst hL; subst hQ; simp only [L2, L3, std] at *; try simp only [sySet, syB, reduceCtorEq, forall_const, Int.reduceToNat, Int.reduceAdd, Int.reduceSub, Int.cast_ofNat_Int, Int.toNat_natCast, Nat.le_eq, Nat.sub_eq, ne_eq, implies_true, wadd, wsub, wmul, Nat.succ_eq_add_one] at *)
        exact nd_room (nd_1 hx).2.1
      · (subst hL; subst hQ; simp only [L2, L3, std]; try simp only [sySet, syB, reduceCtorEq, forall_const, Int.reduceToNat, Int.reduceAdd, Int.reduceSub, Int.cast_ofNat_Int, Int.toNat_natCast, Nat.le_eq, Nat.sub_eq, ne_eq, implies_true, wadd, wsub, wmul, Nat.succ_eq_add_one]) <;> decide
      · (subst hL; subst hQ; simp only [L2, L3, std]; try simp only [sySet, syB, reduceCtorEq, forall_const, Int.reduceToNat, Int.reduceAdd, Int.reduceSub, Int.cast_ofNat_Int, Int.toNat_natCast, Nat.le_eq, Nat.sub_eq, ne_eq, implies_true, wadd, wsub, wmul, Nat.succ_eq_add_one]) <;> decide
      · (subst hL; subst hQ; simp only [L2, L3, std]; try simp only [sySet, syB, reduceCtorEq, forall_const, Int.reduceToNat, Int.reduceAdd, Int.reduceSub, Int.cast_ofNat_Int, Int.toNat_natCast, Nat.le_eq, Nat.sub_eq, ne_eq, implies_true, wadd, wsub, wmul, Nat.succ_eq_add_one]) <;> decide
      · (cbv; try simp only [sat_need, sat_must, sat_ite, sat_done, sat_yes, sat_ex, sat_all, sat_sup, sat_and, sat_fail, true_and, and_true])
        (subst hL; subst hQ; simp only [L2, L3, std] at *; try simp only [sySet, syB, reduceCtorEq, forall_const, Int.reduceToNat, Int.reduceAdd, Int.reduceSub, Int.cast_ofNat_Int, Int.toNat_natCast, Nat.le_eq, Nat.sub_eq, ne_eq, implies_true, wadd, wsub, wmul, Nat.succ_eq_add_one] at *)
        obtain ⟨q1, q2, q3, q4, q5⟩ := nd_1 hx
        subst ha'
        have e : lenL (a.l ++ [v]) = a.l.length + 1 := by unfold lenL; simp
        exact ⟨⟨e.symm, fun i j hi hj => cv_push3 a.l v (by rw [← e]; exact hi) hj⟩, e.symm, Int.emod_eq_of_lt (by omega) (by omega), q1, q5⟩
      · (subst hL; subst hQ; simp only [L2, L3, std]; try simp only [sySet, syB, reduceCtorEq, forall_const, Int.reduceToNat, Int.reduceAdd, Int.reduceSub, Int.cast_ofNat_Int, Int.toNat_natCast, Nat.le_eq, Nat.sub_eq, ne_eq, implies_true, wadd, wsub, wmul, Nat.succ_eq_add_one]) <;> decide
      · (subst hL; subst hQ; simp only [L2, L3, std] at *; try simp only [sySet, syB, reduceCtorEq, forall_const, Int.reduceToNat, Int.reduceAdd, Int.reduceSub, Int.cast_ofNat_Int, Int.toNat_natCast, Nat.le_eq, Nat.sub_eq, ne_eq, implies_true, wadd, wsub, wmul, Nat.succ_eq_add_one] at *)
        exact nd_room (nd_1 hx).2.1
      · (subst hL; subst hQ; simp only [L2, L3, std]; try simp only [sySet, syB, reduceCtorEq, forall_const, Int.reduceToNat, Int.reduceAdd, Int.reduceSub, Int.cast_ofNat_Int, Int.toNat_natCast, Nat.le_eq, Nat.sub_eq, ne_eq, implies_true, wadd, wsub, wmul, Nat.succ_eq_add_one]) <;> decide
      · (subst hL; subst hQ; simp only [L2, L3, std] at *; try simp only [sySet, syB, reduceCtorEq, forall_const, Int.reduceToNat, Int.reduceAdd, Int.reduceSub, Int.cast_ofNat_Int, Int.toNat_natCast, Nat.le_eq, Nat.sub_eq, ne_eq, implies_true, wadd, wsub, wmul, Nat.succ_eq_add_one] at *)
        exact nd_in _
      · (subst hL; subst hQ; simp only [L2, L3, std]; try simp only [sySet, syB, reduceCtorEq, forall_const, Int.reduceToNat, Int.reduceAdd, Int.reduceSub, Int.cast_ofNat_Int, Int.toNat_natCast, Nat.le_eq, Nat.sub_eq, ne_eq, implies_true, wadd, wsub, wmul, Nat.succ_eq_add_one]) <;> decide
      · (subst hL; subst hQ; simp only [L2, L3, std]; try simp only [sySet, syB, reduceCtorEq, forall_const, Int.reduceToNat, Int.reduceAdd, Int.reduceSub, Int.cast_ofNat_Int, Int.toNat_natCast, Nat.le_eq, Nat.sub_eq, ne_eq, implies_true, wadd, wsub, wmul, Nat.succ_eq_add_one]) <;> decide
      · (cbv; try simp only [sat_need, sat_must, sat_ite, sat_done, sat_yes, sat_ex, sat_all, sat_sup, sat_and, sat_fail, true_and, and_true])
        (subst hL; subst hQ; simp only [L2, L3, std] at *; try simp only [sySet, syB, reduceCtorEq, forall_const, Int.reduceToNat, Int.reduceAdd, Int.reduceSub, Int.cast_ofNat_Int, Int.toNat_natCast, Nat.le_eq, Nat.sub_eq, ne_eq, implies_true, wadd, wsub, wmul, Nat.succ_eq_add_one] at *)
        obtain ⟨q1, q2, q3, q4, q5⟩ := nd_1 hx
        subst ha'
        have e : lenL (a.l ++ [v]) = a.l.length + 1 := by unfold lenL; simp
        exact ⟨⟨e.symm, fun i j hi hj => cv_push4 a.l v (by rw [← e]; exact hi) hj⟩, e.symm, Int.emod_eq_of_lt (by omega) (by omega), q1, q5⟩
    | [a, b, c, d, e], hx =>
      (cbv; try simp only [sat_need, sat_must, sat_ite, sat_done, sat_yes, sat_ex, sat_all, sat_sup, sat_and, sat_fail, true_and, and_true])
      obtain ⟨a', ha'⟩ : ∃ a', a' = Lv.mk (a.left - 1) (a.l ++ [v]) := ⟨_, rfl⟩
      refine ⟨fun h0 => ?_, fun h0 => ⟨⟨?_, ?_, ?_, ?_, ?_, ⟨[a', b, c, d, e], s, f, v⟩, ?_⟩, ?_, ?_, ?_, ?_, ?_, ?_, ⟨[a', b, c, d, e], s, f, v⟩, ?_⟩⟩
      · (subst hL; subst hQ; simp only [L2, L3, std] at *; try simp only [sySet, syB, reduceCtorEq, forall_const, Int.reduceToNat, Int.reduceAdd, Int.reduceSub, Int.cast_ofNat_Int, Int.toNat_natCast, Nat.le_eq, Nat.sub_eq, ne_eq, implies_true, wadd, wsub, wmul, Nat.succ_eq_add_one] at *)
        exact absurd h0 (by decide)
      · (subst hL; subst hQ; simp only [L2, L3, std]; try simp only [sySet, syB, reduceCtorEq, forall_const, Int.reduceToNat, Int.reduceAdd, Int.reduceSub, Int.cast_ofNat_Int, Int.toNat_natCast, Nat.le_eq, Nat.sub_eq, ne_eq, implies_true, wadd, wsub, wmul, Nat.succ_eq_add_one]) <;> decide
      · (subst hL; subst hQ; simp only [L2, L3, std] at *; try simp only [sySet, syB, reduceCtorEq, forall_const, Int.reduceToNat, Int.reduceAdd, Int.reduceSub, Int.cast_ofNat_Int, Int.toNat_natCast, Nat.le_eq, Nat.sub_eq, ne_eq, implies_true, wadd, wsub, wmul, Nat.succ_eq_add_one] at *)
        exact nd_room (nd_1 hx).2.1
      · (subst hL; subst hQ; simp only [L2, L3, std]; try simp only [sySet, syB, reduceCtorEq, forall_const, Int.reduceToNat, Int.reduceAdd, Int.reduceSub, Int.cast_ofNat_Int, Int.toNat_natCast, Nat.le_eq, Nat.sub_eq, ne_eq, implies_true, wadd, wsub, wmul, Nat.succ_eq_add_one]) <;> decide
      · (subst hL; subst hQ; simp only [L2, L3, std]; try simp only [sySet, syB, reduceCtorEq, forall_const, Int.reduceToNat, Int.reduceAdd, Int.reduceSub, Int.cast_ofNat_Int, Int.toNat_natCast, Nat.le_eq, Nat.sub_eq, ne_eq, implies_true, wadd, wsub, wmul, Nat.succ_eq_add_one]) <;> decide
      · (subst hL; subst hQ; simp only [L2, L3, std]; try simp only [sySet, syB, reduceCtorEq, forall_const, Int.reduceToNat, Int.reduceAdd, Int.reduceSub, Int.cast_ofNat_Int, Int.toNat_natCast, Nat.le_eq, Nat.sub_eq, ne_eq, implies_true, wadd, wsub, wmul, Nat.succ_eq_add_one]) <;> decide
      · (cbv; try simp only [sat_need, sat_must, sat_ite, sat_done, sat_yes, sat_ex, sat_all, sat_sup, sat_and, sat_fail, true_and, and_true])
        (subst hL; subst hQ; simp only [L2, L3, std] at *; try simp only [sySet, syB, reduceCtorEq, forall_const, Int.reduceToNat, Int.reduceAdd, Int.reduceSub, Int.cast_ofNat_Int, Int.toNat_natCast, Nat.le_eq, Nat.sub_eq, ne_eq, implies_true, wadd, wsub, wmul, Nat.succ_eq_add_one] at *)
        obtain ⟨q1, q2, q3, q4, q5⟩ := nd_1 hx
        subst ha'
        have e : lenL (a.l ++ [v]) = a.l.length + 1 := by unfold lenL; simp
        exact ⟨⟨e.symm, fun i j hi hj => cv_push3 a.l v (by rw [← e]; exact hi) hj⟩, e.symm, Int.emod_eq_of_lt (by omega) (by omega), q1, q5⟩
      · (subst hL; subst hQ; simp only [L2, L3, std]; try simp only [sySet, syB, reduceCtorEq, forall_const, Int.reduceToNat, Int.reduceAdd, Int.reduceSub, Int.cast_ofNat_Int, Int.toNat_natCast, Nat.le_eq, Nat.sub_eq, ne_eq, implies_true, wadd, wsub, wmul, Nat.succ_eq_add_one]) <;> decide
      · (subst hL; subst hQ; simp only [L2, L3, std] at *; try simp only [sySet, syB, reduceCtorEq, forall_const, Int.reduceToNat, Int.reduceAdd, Int.reduceSub, Int.cast_ofNat_Int, Int.toNat_natCast, Nat.le_eq, Nat.sub_eq, ne_eq, implies_true, wadd, wsub, wmul, Nat.succ_eq_add_one] at *)
        exact nd_room (nd_1 hx).2.1
      · (subst hL; subst hQ; simp only [L2, L3, std]; try simp only [sySet, syB, reduceCtorEq, forall_const, Int.reduceToNat, Int.reduceAdd, Int.reduceSub, Int.cast_ofNat_Int, Int.toNat_natCast, Nat.le_eq, Nat.sub_eq, ne_eq, implies_true, wadd, wsub, wmul, Nat.succ_eq_add_one]) <;> decide
      · (subst hL; subst hQ; simp only [L2, L3, std] at *; try simp only [sySet, syB, reduceCtorEq, forall_const, Int.reduceToNat, Int.reduceAdd, Int.reduceSub, Int.cast_ofNat_Int, Int.toNat_natCast, Nat.le_eq, Nat.sub_eq, ne_eq, implies_true, wadd, wsub, wmul, Nat.succ_eq_add_one] at *)
        exact nd_in _
      · (subst hL; subst hQ; simp only [L2, L3, std]; try simp only [sySet, syB, reduceCtorEq, forall_const, Int.reduceToNat, Int.reduceAdd, Int.reduceSub, Int.cast_ofNat_Int, Int.toNat_natCast, Nat.le_eq, Nat.sub_eq, ne_eq, implies_true, wadd, wsub, wmul, Nat.succ_eq_add_one]) <;> decide
      · (subst hL; subst hQ; simp only [L2, L3, std]; try simp only [sySet, syB, reduceCtorEq, forall_const, Int.reduceToNat, Int.reduceAdd, Int.reduceSub, Int.cast_ofNat_Int, Int.toNat_natCast, Nat.le_eq, Nat.sub_eq, ne_eq, implies_true, wadd, wsub, wmul, Nat.succ_eq_add_one]) <;> decide
      · (cbv; try simp only [sat_need, sat_must, sat_ite, sat_done, sat_yes, sat_ex, sat_all, sat_sup, sat_and, sat_fail, true_and, and_true])
        (subst hL; subst hQ; simp only [L2, L3, std] at *; try simp only [sySet, syB, reduceCtorEq, forall_const, Int.reduceToNat, Int.reduceAdd, Int.reduceSub, Int.cast_ofNat_Int, Int.toNat_natCast, Nat.le_eq, Nat.sub_eq, ne_eq, implies_true, wadd, wsub, wmul, Nat.succ_eq_add_one] at *)
        obtain ⟨q1, q2, q3, q4, q5⟩ := nd_1 hx
        subst ha'
        have e : lenL (a.l ++ [v]) = a.l.length + 1 := by unfold lenL; simp
        exact ⟨⟨e.symm, fun i j hi hj => cv_push4 a.l v (by rw [← e]; exact hi) hj⟩, e.symm, Int.emod_eq_of_lt (by omega) (by omega), q1, q5⟩
    | [a, b, c, d, e, k], hx =>
      (cbv; try simp only [sat_need, sat_must, sat_ite, sat_done, sat_yes, sat_ex, sat_all, sat_sup, sat_and, sat_fail, true_and, and_true])
      obtain ⟨a', ha'⟩ : ∃ a', a' = Lv.mk (a.left - 1) (a.l ++ [v]) := ⟨_, rfl⟩
      refine ⟨fun h0 => ?_, fun h0 => ⟨⟨?_, ?_, ?_, ?_, ?_, ⟨[a', b, c, d, e, k], s, f, v⟩, ?_⟩, ?_, ?_, ?_, ?_, ?_, ?_, ⟨[a', b, c, d, e, k], s, f, v⟩, ?_⟩⟩
      · (subst hL; subst hQ; simp only [L2, L3, std] at *; try simp only [sySet, syB, reduceCtorEq, forall_const, Int.reduceToNat, Int.reduceAdd, Int.reduceSub, Int.cast_ofNat_Int, Int.toNat_natCast, Nat.le_eq, Nat.sub_eq, ne_eq, implies_true, wadd, wsub, wmul, Nat.succ_eq_add_one] at *)
        exact absurd h0 (by decide)
      · (subst hL; subst hQ; simp only [L2, L3, std]; try simp only [sySet, syB, reduceCtorEq, forall_const, Int.reduceToNat, Int.reduceAdd, Int.reduceSub, Int.cast_ofNat_Int, Int.toNat_natCast, Nat.le_eq, Nat.sub_eq, ne_eq, implies_true, wadd, wsub, wmul, Nat.succ_eq_add_one]) <;> decide
      · (subst hL; subst hQ; simp only [L2, L3, std] at *; try simp only [sySet, syB, reduceCtorEq, forall_const, Int.reduceToNat, Int.reduceAdd, Int.reduceSub, Int.cast_ofNat_Int, Int.toNat_natCast, Nat.le_eq, Nat.sub_eq, ne_eq, implies_true, wadd, wsub, wmul, Nat.succ_eq_add_one] at *)
        exact nd_room (nd_1 hx).2.1
      · (subst hL; subst hQ; simp only [L2, L3, std]; try simp only [sySet, syB, reduceCtorEq, forall_const, Int.reduceToNat, Int.reduceAdd, Int.reduceSub, Int.cast_ofNat_Int, Int.toNat_natCast, Nat.le_eq, Nat.sub_eq, ne_eq, implies_true, wadd, wsub, wmul, Nat.succ_eq_add_one]) <;> decide
      · (subst hL; subst hQ; simp only [L2, L3, std]; try simp only [sySet, syB, reduceCtorEq, forall_const, Int.reduceToNat, Int.reduceAdd, Int.reduceSub, Int.cast_ofNat_Int, Int.toNat_natCast, Nat.le_eq, Nat.sub_eq, ne_eq, implies_true, wadd, wsub, wmul, Nat.succ_eq_add_one]) <;> decide
      · (subst hL; subst hQ; simp only [L2, L3, std]; try simp only [sySet, syB, reduceCtorEq, forall_const, Int.reduceToNat, Int.reduceAdd, Int.reduceSub, Int.cast_ofNat_Int, Int.toNat_natCast, Nat.le_eq, Nat.sub_eq, ne_eq, implies_true, wadd, wsub, wmul, Nat.succ_eq_add_one]) <;> decide
      · (cbv; try simp only [sat_need, sat_must, sat_ite, sat_done, sat_yes, sat_ex, sat_all, sat_sup, sat_and, sat_fail, true_and, and_true])
        (subst hL; subst hQ; simp only [L2, L3, std] at *; try simp only [sySet, syB, reduceCtorEq, forall_const, Int.reduceToNat, Int.reduceAdd, Int.reduceSub, Int.cast_ofNat_Int, Int.toNat_natCast, Nat.le_eq, Nat.sub_eq, ne_eq, implies_true, wadd, wsub, wmul, Nat.succ_eq_add_one] at *)
        obtain ⟨q1, q2, q3, q4, q5⟩ := nd_1 hx
        subst ha'
        have e : lenL (a.l ++ [v]) = a.l.length + 1 := by unfold lenL; simp
        exact ⟨⟨e.symm, fun i j hi hj => cv_push3 a.l v (by rw [← e]; exact hi) hj⟩, e.symm, Int.emod_eq_of_lt (by omega) (by omega), q1, q5⟩
      · (subst hL; subst hQ; simp only [L2, L3, std]; try simp only [sySet, syB, reduceCtorEq, forall_const, Int.reduceToNat, Int.reduceAdd, Int.reduceSub, Int.cast_ofNat_Int, Int.toNat_natCast, Nat.le_eq, Nat.sub_eq, ne_eq, implies_true, wadd, wsub, wmul, Nat.succ_eq_add_one]) <;> decide
      · (subst hL; subst hQ; simp only [L2, L3, std] at *; try simp only [sySet, syB, reduceCtorEq, forall_const, Int.reduceToNat, Int.reduceAdd, Int.reduceSub, Int.cast_ofNat_Int, Int.toNat_natCast, Nat.le_eq, Nat.sub_eq, ne_eq, implies_true, wadd, wsub, wmul, Nat.succ_eq_add_one] at *)
        exact nd_room (nd_1 hx).2.1
      · (subst hL; subst hQ; simp only [L2, L3, std]; try simp only [sySet, syB, reduceCtorEq, forall_const, Int.reduceToNat, Int.reduceAdd, Int.reduceSub, Int.cast_ofNat_Int, Int.toNat_natCast, Nat.le_eq, Nat.sub_eq, ne_eq, implies_true, wadd, wsub, wmul, Nat.succ_eq_add_one]) <;> decide
      · (subst hL; subst hQ; simp only [L2, L3, std] at *; try simp only [sySet, syB, reduceCtorEq, forall_const, Int.reduceToNat, Int.reduceAdd, Int.reduceSub, Int.cast_ofNat_Int, Int.toNat_natCast, Nat.le_eq, Nat.sub_eq, ne_eq, implies_true, wadd, wsub, wmul, Nat.succ_eq_add_one] at *)
        exact nd_in _
      · (subst hL; subst hQ; simp only [L2, L3, std]; try simp only [sySet, syB, reduceCtorEq, forall_const, Int.reduceToNat, Int.reduceAdd, Int.reduceSub, Int.cast_ofNat_Int, Int.toNat_natCast, Nat.le_eq, Nat.sub_eq, ne_eq, implies_true, wadd, wsub, wmul, Nat.succ_eq_add_one]) <;> decide
      · (subst hL; subst hQ; simp only [L2, L3, std]; try simp only [sySet, syB, reduceCtorEq, forall_const, Int.reduceToNat, Int.reduceAdd, Int.reduceSub, Int.cast_ofNat_Int, Int.toNat_natCast, Nat.le_eq, Nat.sub_eq, ne_eq, implies_true, wadd, wsub, wmul, Nat.succ_eq_add_one]) <;> decide
      · (cbv; try simp only [sat_need, sat_must, sat_ite, sat_done, sat_yes, sat_ex, sat_all, sat_sup, sat_and, sat_fail, true_and, and_true])
        (subst hL; subst hQ; simp only [L2, L3, std] at *; try simp only [sySet, syB, reduceCtorEq, forall_const, Int.reduceToNat, Int.reduceAdd, Int.reduceSub, Int.cast_ofNat_Int, Int.toNat_natCast, Nat.le_eq, Nat.sub_eq, ne_eq, implies_true, wadd, wsub, wmul, Nat.succ_eq_add_one] at *)
        obtain ⟨q1, q2, q3, q4, q5⟩ := nd_1 hx
        subst ha'
        have e : lenL (a.l ++ [v]) = a.l.length + 1 := by unfold lenL; simp
        exact ⟨⟨e.symm, fun i j hi hj => cv_push4 a.l v (by rw [← e]; exact hi) hj⟩, e.symm, Int.emod_eq_of_lt (by omega) (by omega), q1, q5⟩
    | a :: b :: c :: d :: e :: k :: m :: r, hx =>
      have h7 : (a :: b :: c :: d :: e :: k :: m :: r).length ≤ 6 := by { (subst hL; subst hQ; simp only [L2, L3, std] at *; try simp only [sySet, syB, reduceCtorEq, forall_const, Int.reduceToNat, Int.reduceAdd, Int.reduceSub, Int.cast_ofNat_Int, Int.toNat_natCast, Nat.le_eq, Nat.sub_eq, ne_eq, implies_true, wadd, wsub, wmul, Nat.succ_eq_add_one] at *); exact hx.1 }
      exact absurd h7 (by simp)
  · obtain ⟨st, s, f, v⟩ := x
    cbv at hx
    match st, hx with
    | [], hx =>
      obtain ⟨_, ⟨a, r, h, _⟩, _⟩ : nInv2 s0 ⟨[], s, f, v⟩ := by (subst hL; subst hQ; simp only [L2, L3, std] at *; try simp only [sySet, syB, reduceCtorEq, forall_const, Int.reduceToNat, Int.reduceAdd, Int.reduceSub, Int.cast_ofNat_Int, Int.toNat_natCast, Nat.le_eq, Nat.sub_eq, ne_eq, implies_true, wadd, wsub, wmul, Nat.succ_eq_add_one] at *); exact hx
      cases h
    | [a], hx =>
      (cbv; try simp only [sat_need, sat_must, sat_ite, sat_done, sat_yes, sat_ex, sat_all, sat_sup, sat_and, sat_fail, true_and, and_true])
      obtain ⟨v', hv'⟩ : ∃ v', v' = CV.mk 3 0 [] a.l := ⟨_, rfl⟩
      refine ⟨?_, fun h0 => ⟨?_, ⟨[], s, f, v'⟩, ?_⟩, fun h0 => ⟨⟨[a], s, f, v⟩, ?_⟩⟩
      · (subst hL; subst hQ; simp only [L2, L3, std]; try simp only [sySet, syB, reduceCtorEq, forall_const, Int.reduceToNat, Int.reduceAdd, Int.reduceSub, Int.cast_ofNat_Int, Int.toNat_natCast, Nat.le_eq, Nat.sub_eq, ne_eq, implies_true, wadd, wsub, wmul, Nat.succ_eq_add_one]) <;> decide
      · (subst hL; subst hQ; simp only [L2, L3, std] at *; try simp only [sySet, syB, reduceCtorEq, forall_const, Int.reduceToNat, Int.reduceAdd, Int.reduceSub, Int.cast_ofNat_Int, Int.toNat_natCast, Nat.le_eq, Nat.sub_eq, ne_eq, implies_true, wadd, wsub, wmul, Nat.succ_eq_add_one] at *)
        decide
      · (cbv; try simp only [sat_need, sat_must, sat_ite, sat_done, sat_yes, sat_ex, sat_all, sat_sup, sat_and, sat_fail, true_and, and_true])
        (subst hL; subst hQ; simp only [L2, L3, std] at *; try simp only [sySet, syB, reduceCtorEq, forall_const, Int.reduceToNat, Int.reduceAdd, Int.reduceSub, Int.cast_ofNat_Int, Int.toNat_natCast, Nat.le_eq, Nat.sub_eq, ne_eq, implies_true, wadd, wsub, wmul, Nat.succ_eq_add_one] at *)
        obtain ⟨q1, q2⟩ := ns_0 hx h0
        subst hv'
        exact ⟨⟨rfl, fun i j hi hj => rfl⟩, rfl, rfl, rfl, rfl, by decide, q1, q2⟩
      · (cbv; try simp only [sat_need, sat_must, sat_ite, sat_done, sat_yes, sat_ex, sat_all, sat_sup, sat_and, sat_fail, true_and, and_true])
        (subst hL; subst hQ; simp only [L2, L3, std] at *; try simp only [sySet, syB, reduceCtorEq, forall_const, Int.reduceToNat, Int.reduceAdd, Int.reduceSub, Int.cast_ofNat_Int, Int.toNat_natCast, Nat.le_eq, Nat.sub_eq, ne_eq, implies_true, wadd, wsub, wmul, Nat.succ_eq_add_one] at *)
        exact ⟨ns_1 hx h0, Nat.le_refl _⟩
    | [a, b], hx =>
      (cbv; try simp only [sat_need, sat_must, sat_ite, sat_done, sat_yes, sat_ex, sat_all, sat_sup, sat_and, sat_fail, true_and, and_true])
      obtain ⟨v', hv'⟩ : ∃ v', v' = CV.mk 3 0 [] a.l := ⟨_, rfl⟩
      refine ⟨?_, fun h0 => ⟨?_, ⟨[b], s, f, v'⟩, ?_⟩, fun h0 => ⟨⟨[a, b], s, f, v⟩, ?_⟩⟩
      · (subst hL; subst hQ; simp only [L2, L3, std]; try simp only [sySet, syB, reduceCtorEq, forall_const, Int.reduceToNat, Int.reduceAdd, Int.reduceSub, Int.cast_ofNat_Int, Int.toNat_natCast, Nat.le_eq, Nat.sub_eq, ne_eq, implies_true, wadd, wsub, wmul, Nat.succ_eq_add_one]) <;> decide
      · (subst hL; subst hQ; simp only [L2, L3, std] at *; try simp only [sySet, syB, reduceCtorEq, forall_const, Int.reduceToNat, Int.reduceAdd, Int.reduceSub, Int.cast_ofNat_Int, Int.toNat_natCast, Nat.le_eq, Nat.sub_eq, ne_eq, implies_true, wadd, wsub, wmul, Nat.succ_eq_add_one] at *)
        decide
      · (cbv; try simp only [sat_need, sat_must, sat_ite, sat_done, sat_yes, sat_ex, sat_all, sat_sup, sat_and, sat_fail, true_and, and_true])
        (subst hL; subst hQ; simp only [L2, L3, std] at *; try simp only [sySet, syB, reduceCtorEq, forall_const, Int.reduceToNat, Int.reduceAdd, Int.reduceSub, Int.cast_ofNat_Int, Int.toNat_natCast, Nat.le_eq, Nat.sub_eq, ne_eq, implies_true, wadd, wsub, wmul, Nat.succ_eq_add_one] at *)
        obtain ⟨q1, q2⟩ := ns_0 hx h0
        subst hv'
        exact ⟨⟨rfl, fun i j hi hj => rfl⟩, rfl, rfl, rfl, rfl, by decide, q1, q2⟩
      · (cbv; try simp only [sat_need, sat_must, sat_ite, sat_done, sat_yes, sat_ex, sat_all, sat_sup, sat_and, sat_fail, true_and, and_true])
        (subst hL; subst hQ; simp only [L2, L3, std] at *; try simp only [sySet, syB, reduceCtorEq, forall_const, Int.reduceToNat, Int.reduceAdd, Int.reduceSub, Int.cast_ofNat_Int, Int.toNat_natCast, Nat.le_eq, Nat.sub_eq, ne_eq, implies_true, wadd, wsub, wmul, Nat.succ_eq_add_one] at *)
        exact ⟨ns_1 hx h0, Nat.le_refl _⟩
    | [a, b, c], hx =>
      (cbv; try simp only [sat_need, sat_must, sat_ite, sat_done, sat_yes, sat_ex, sat_all, sat_sup, sat_and, sat_fail, true_and, and_true])
      obtain ⟨v', hv'⟩ : ∃ v', v' = CV.mk 3 0 [] a.l := ⟨_, rfl⟩
      refine ⟨?_, fun h0 => ⟨?_, ⟨[b, c], s, f, v'⟩, ?_⟩, fun h0 => ⟨⟨[a, b, c], s, f, v⟩, ?_⟩⟩
      · (subst hL; subst hQ; simp only [L2, L3, std]; try simp only [sySet, syB, reduceCtorEq, forall_const, Int.reduceToNat, Int.reduceAdd, Int.reduceSub, Int.cast_ofNat_Int, Int.toNat_natCast, Nat.le_eq, Nat.sub_eq, ne_eq, implies_true, wadd, wsub, wmul, Nat.succ_eq_add_one]) <;> decide
      · (subst hL; subst hQ; simp only [L2, L3, std] at *; try simp only [sySet, syB, reduceCtorEq, forall_const, Int.reduceToNat, Int.reduceAdd, Int.reduceSub, Int.cast_ofNat_Int, Int.toNat_natCast, Nat.le_eq, Nat.sub_eq, ne_eq, implies_true, wadd, wsub, wmul, Nat.succ_eq_add_one] at *)
        decide
      · (cbv; try simp only [sat_need, sat_must, sat_ite, sat_done, sat_yes, sat_ex, sat_all, sat_sup, sat_and, sat_fail, true_and, and_true])
        (subst hL; subst hQ; simp only [L2, L3, std] at *; try simp only [sySet, syB, reduceCtorEq, forall_const, Int.reduceToNat, Int.reduceAdd, Int.reduceSub, Int.cast_ofNat_Int, Int.toNat_natCast, Nat.le_eq, Nat.sub_eq, ne_eq, implies_true, wadd, wsub, wmul, Nat.succ_eq_add_one] at *)
        obtain ⟨q1, q2⟩ := ns_0 hx h0
        subst hv'
        exact ⟨⟨rfl, fun i j hi hj => rfl⟩, rfl, rfl, rfl, rfl, by decide, q1, q2⟩
      · (cbv; try simp only [sat_need, sat_must, sat_ite, sat_done, sat_yes, sat_ex, sat_all, sat_sup, sat_and, sat_fail, true_and, and_true])
        (subst hL; subst hQ; simp only [L2, L3, std] at *; try simp only [sySet, syB, reduceCtorEq, forall_const, Int.reduceToNat, Int.reduceAdd, Int.reduceSub, Int.cast_ofNat_Int, Int.toNat_natCast, Nat.le_eq, Nat.sub_eq, ne_eq, implies_true, wadd, wsub, wmul, Nat.succ_eq_add_one] at *)
        exact ⟨ns_1 hx h0, Nat.le_refl _⟩
    | [a, b, c, d], hx =>
      (cbv; try simp only [sat_need, sat_must, sat_ite, sat_done, sat_yes, sat_ex, sat_all, sat_sup, sat_and, sat_fail, true_and, and_true])
      obtain ⟨v', hv'⟩ : ∃ v', v' = CV.mk 3 0 [] a.l := ⟨_, rfl⟩
      refine ⟨?_, fun h0 => ⟨?_, ⟨[b, c, d], s, f, v'⟩, ?_⟩, fun h0 => ⟨⟨[a, b, c, d], s, f, v⟩, ?_⟩⟩
      · (subst hL; subst hQ; simp only [L2, L3, std]; try simp only [sySet, syB, reduceCtorEq, forall_const, Int.reduceToNat, Int.reduceAdd, Int.reduceSub, Int.cast_ofNat_Int, Int.toNat_natCast, Nat.le_eq, Nat.sub_eq, ne_eq, implies_true, wadd, wsub, wmul, Nat.succ_eq_add_one]) <;> decide
      · (subst hL; subst hQ; simp only [L2, L3, std] at *; try simp only [sySet, syB, reduceCtorEq, forall_const, Int.reduceToNat, Int.reduceAdd, Int.reduceSub, Int.cast_ofNat_Int, Int.toNat_natCast, Nat.le_eq, Nat.sub_eq, ne_eq, implies_true, wadd, wsub, wmul, Nat.succ_eq_add_one] at *)
        decide
      · (cbv; try simp only [sat_need, sat_must, sat_ite, sat_done, sat_yes, sat_ex, sat_all, sat_sup, sat_and, sat_fail, true_and, and_true])
        (subst hL; subst hQ; simp only [L2, L3, std] at *; try simp only [sySet, syB, reduceCtorEq, forall_const, Int.reduceToNat, Int.reduceAdd, Int.reduceSub, Int.cast_ofNat_Int, Int.toNat_natCast, Nat.le_eq, Nat.sub_eq, ne_eq, implies_true, wadd, wsub, wmul, Nat.succ_eq_add_one] at *)
        obtain ⟨q1, q2⟩ := ns_0 hx h0
        subst hv'
        exact ⟨⟨rfl, fun i j hi hj => rfl⟩, rfl, rfl, rfl, rfl, by decide, q1, q2⟩
      · (cbv; try simp only [sat_need, sat_must, sat_ite, sat_done, sat_yes, sat_ex, sat_all, sat_sup, sat_and, sat_fail, true_and, and_true])
        (subst hL; subst hQ; simp only [L2, L3, std] at *; try simp only [sySet, syB, reduceCtorEq, forall_const, Int.reduceToNat, Int.reduceAdd, Int.reduceSub, Int.cast_ofNat_Int, Int.toNat_natCast, Nat.le_eq, Nat.sub_eq, ne_eq, implies_true, wadd, wsub, wmul, Nat.succ_eq_add_one] at *)
        exact ⟨ns_1 hx h0, Nat.le_refl _⟩
    | [a, b, c, d, e], hx =>
      (cbv; try simp only [sat_need, sat_must, sat_ite, sat_done, sat_yes, sat_ex, sat_all, sat_sup, sat_and, sat_fail, true_and, and_true])
      obtain ⟨v', hv'⟩ : ∃ v', v' = CV.mk 3 0 [] a.l := ⟨_, rfl⟩
      refine ⟨?_, fun h0 => ⟨?_, ⟨[b, c, d, e], s, f, v'⟩, ?_⟩, fun h0 => ⟨⟨[a, b, c, d, e], s, f, v⟩, ?_⟩⟩
      · (subst hL; subst hQ; simp only [L2, L3, std]; try simp only [sySet, syB, reduceCtorEq, forall_const, Int.reduceToNat, Int.reduceAdd, Int.reduceSub, Int.cast_ofNat_Int, Int.toNat_natCast, Nat.le_eq, Nat.sub_eq, ne_eq, implies_true, wadd, wsub, wmul, Nat.succ_eq_add_one]) <;> decide
      · (subst hL; subst hQ; simp only [L2, L3, std] at *; try simp only [sySet, syB, reduceCtorEq, forall_const, Int.reduceToNat, Int.reduceAdd, Int.reduceSub, Int.cast_ofNat_Int, Int.toNat_natCast, Nat.le_eq, Nat.sub_eq, ne_eq, implies_true, wadd, wsub, wmul, Nat.succ_eq_add_one] at *)
        decide
      · (cbv; try simp only [sat_need, sat_must, sat_ite, sat_done, sat_yes, sat_ex, sat_all, sat_sup, sat_and, sat_fail, true_and, and_true])
        (subst hL; subst hQ; simp only [L2, L3, std] at *; try simp only [sySet, syB, reduceCtorEq, forall_const, Int.reduceToNat, Int.reduceAdd, Int.reduceSub, Int.cast_ofNat_Int, Int.toNat_natCast, Nat.le_eq, Nat.sub_eq, ne_eq, implies_true, wadd, wsub, wmul, Nat.succ_eq_add_one] at *)
        obtain ⟨q1, q2⟩ := ns_0 hx h0
        subst hv'
        exact ⟨⟨rfl, fun i j hi hj => rfl⟩, rfl, rfl, rfl, rfl, by decide, q1, q2⟩
      · (cbv; try simp only [sat_need, sat_must, sat_ite, sat_done, sat_yes, sat_ex, sat_all, sat_sup, sat_and, sat_fail, true_and, and_true])
        (subst hL; subst hQ; simp only [L2, L3, std] at *; try simp only [sySet, syB, reduceCtorEq, forall_const, Int.reduceToNat, Int.reduceAdd, Int.reduceSub, Int.cast_ofNat_Int, Int.toNat_natCast, Nat.le_eq, Nat.sub_eq, ne_eq, implies_true, wadd, wsub, wmul, Nat.succ_eq_add_one] at *)
        exact ⟨ns_1 hx h0, Nat.le_refl _⟩
    | [a, b, c, d, e, k], hx =>
      (cbv; try simp only [sat_need, sat_must, sat_ite, sat_done, sat_yes, sat_ex, sat_all, sat_sup, sat_and, sat_fail, true_and, and_true])
      obtain ⟨v', hv'⟩ : ∃ v', v' = CV.mk 3 0 [] a.l := ⟨_, rfl⟩
      refine ⟨?_, fun h0 => ⟨?_, ⟨[b, c, d, e, k], s, f, v'⟩, ?_⟩, fun h0 => ⟨⟨[a, b, c, d, e, k], s, f, v⟩, ?_⟩⟩
      · (subst hL; subst hQ; simp only [L2, L3, std]; try simp only [sySet, syB, reduceCtorEq, forall_const, Int.reduceToNat, Int.reduceAdd, Int.reduceSub, Int.cast_ofNat_Int, Int.toNat_natCast, Nat.le_eq, Nat.sub_eq, ne_eq, implies_true, wadd, wsub, wmul, Nat.succ_eq_add_one]) <;> decide
      · (subst hL; subst hQ; simp only [L2, L3, std] at *; try simp only [sySet, syB, reduceCtorEq, forall_const, Int.reduceToNat, Int.reduceAdd, Int.reduceSub, Int.cast_ofNat_Int, Int.toNat_natCast, Nat.le_eq, Nat.sub_eq, ne_eq, implies_true, wadd, wsub, wmul, Nat.succ_eq_add_one] at *)
        decide
      · (cbv; try simp only [sat_need, sat_must, sat_ite, sat_done, sat_yes, sat_ex, sat_all, sat_sup, sat_and, sat_fail, true_and, and_true])
        (subst hL; subst hQ; simp only [L2, L3, std] at *; try simp only [sySet, syB, reduceCtorEq, forall_const, Int.reduceToNat, Int.reduceAdd, Int.reduceSub, Int.cast_ofNat_Int, Int.toNat_natCast, Nat.le_eq, Nat.sub_eq, ne_eq, implies_true, wadd, wsub, wmul, Nat.succ_eq_add_one] at *)
        obtain ⟨q1, q2⟩ := ns_0 hx h0
        subst hv'
        exact ⟨⟨rfl, fun i j hi hj => rfl⟩, rfl, rfl, rfl, rfl, by decide, q1, q2⟩
      · (cbv; try simp only [sat_need, sat_must, sat_ite, sat_done, sat_yes, sat_ex, sat_all, sat_sup, sat_and, sat_fail, true_and, and_true])
        (subst hL; subst hQ; simp only [L2, L3, std] at *; try simp only [sySet, syB, reduceCtorEq, forall_const, Int.reduceToNat, Int.reduceAdd, Int.reduceSub, Int.cast_ofNat_Int, Int.toNat_natCast, Nat.le_eq, Nat.sub_eq, ne_eq, implies_true, wadd, wsub, wmul, Nat.succ_eq_add_one] at *)
        exact ⟨ns_1 hx h0, Nat.le_refl _⟩
    | a :: b :: c :: d :: e :: k :: m :: r, hx =>
      have h7 : (a :: b :: c :: d :: e :: k :: m :: r).length ≤ 6 := by { (subst hL; subst hQ; simp only [L2, L3, std] at *; try simp only [sySet, syB, reduceCtorEq, forall_const, Int.reduceToNat, Int.reduceAdd, Int.reduceSub, Int.cast_ofNat_Int, Int.toNat_natCast, Nat.le_eq, Nat.sub_eq, ne_eq, implies_true, wadd, wsub, wmul, Nat.succ_eq_add_one] at *); exact hx.1 }
      exact absurd h7 (by simp)
  · (cbv; try simp only [sat_need, sat_must, sat_ite, sat_done, sat_yes, sat_ex, sat_all, sat_sup, sat_and, sat_fail, true_and, and_true])
    obtain ⟨f, hf⟩ : ∃ f, f = s0.length + 1 := ⟨_, rfl⟩
    refine ⟨fun h => ?_, fun h => ⟨⟨[], s0, f, .mk 0 0 [] []⟩, ?_⟩⟩
    · (subst hL; subst hQ; simp only [L2, L3, std] at *; try simp only [sySet, syB, reduceCtorEq, forall_const, Int.reduceToNat, Int.reduceAdd, Int.reduceSub, Int.cast_ofNat_Int, Int.toNat_natCast, Nat.le_eq, Nat.sub_eq, ne_eq, implies_true, wadd, wsub, wmul, Nat.succ_eq_add_one] at *)
      exact nr_bad (nm_0 s0 h)
    · (cbv; try simp only [sat_need, sat_must, sat_ite, sat_done, sat_yes, sat_ex, sat_all, sat_sup, sat_and, sat_fail, true_and, and_true])
      (subst hL; subst hQ; simp only [L2, L3, std] at *; try simp only [sySet, syB, reduceCtorEq, forall_const, Int.reduceToNat, Int.reduceAdd, Int.reduceSub, Int.cast_ofNat_Int, Int.toNat_natCast, Nat.le_eq, Nat.sub_eq, ne_eq, implies_true, wadd, wsub, wmul, Nat.succ_eq_add_one] at *)
      rw [hf]
      exact nm_1 s0 (by omega) _
end Sy
end Go.Proofs.YtcgikjfloloekaaGreatDoor
namespace Go.Proofs.YtcgikjfloloekaaGreatDoor
namespace Sy
open Go Go.RowKit
set_option maxRecDepth 100000
set_option linter.unusedSimpArgs false
set_option linter.unusedVariables false
theorem cb_at (p : List UInt8) (c : UInt8) (r : List UInt8) : cb (p ++ c :: r) p.length = c.toNat := by
  unfold cb
  rw [List.getD_eq_getElem?_getD, List.getElem?_append_right (Nat.le_refl _), Nat.sub_self]
  rfl
theorem lng_short (r : List UInt8) : ∀ (f m n0 : Nat) (p : List UInt8), f + p.length = 10 → m * 2 ^ (7 * p.length) < 2 ^ 64 → (0 < m ∨ p.length = 0) →
    lng (p ++ (shortL m ++ r)) f p.length n0 = (n0 + m * 2 ^ (7 * p.length), p.length + (shortL m).length, 0)
  | 0, m, n0, p, hf, hm, h0 => by
    have : p.length = 10 := by omega
    rw [this] at hm h0
    have : 2 ^ (7 * 10) ≤ m * 2 ^ (7 * 10) := Nat.le_mul_of_pos_left _ (by omega)
    omega
  | f + 1, m, n0, p, hf, hm, h0 => by
    by_cases hb : 128 ≤ m
    · rw [shortL_big hb]
      have hc : cb (p ++ (UInt8.ofNat (m % 128 + 128) :: shortL (m / 128) ++ r)) p.length = m % 128 + 128 := by
        rw [List.cons_append, cb_at]
        simp; omega
      have h9 : p.length ≠ 9 := by
        intro h
        rw [h] at hm
        have : 128 * 2 ^ (7 * 9) ≤ m * 2 ^ (7 * 9) := Nat.mul_le_mul_right _ hb
        omega
      rw [lng, if_neg (by simp), hc, if_neg (by omega), if_pos (by omega)]
      have e : p ++ (UInt8.ofNat (m % 128 + 128) :: shortL (m / 128) ++ r) = (p ++ [UInt8.ofNat (m % 128 + 128)]) ++ (shortL (m / 128) ++ r) := by simp
      have hl : (p ++ [UInt8.ofNat (m % 128 + 128)]).length = p.length + 1 := by simp
      have hp : 2 ^ (7 * (p.length + 1)) = 128 * 2 ^ (7 * p.length) := by rw [show 7 * (p.length + 1) = 7 + 7 * p.length by omega, Nat.pow_add]
      have hd : m / 128 * (128 * 2 ^ (7 * p.length)) + m % 128 * 2 ^ (7 * p.length) = m * 2 ^ (7 * p.length) := by
        rw [← Nat.mul_assoc, ← Nat.add_mul]
        congr 1; omega
      have ih := lng_short r f (m / 128) (n0 + (m % 128 + 128) % 128 * 2 ^ (7 * p.length)) (p ++ [UInt8.ofNat (m % 128 + 128)]) (by rw [hl]; omega) (by rw [hl, hp]; omega) (.inl (by omega))
      rw [hl] at ih
      rw [e, ih, hp, List.length_cons, show (m % 128 + 128) % 128 = m % 128 by omega]
      refine Prod.ext ?_ (Prod.ext ?_ rfl)
      · show n0 + m % 128 * 2 ^ (7 * p.length) + m / 128 * (128 * 2 ^ (7 * p.length)) = n0 + m * 2 ^ (7 * p.length)
        omega
      · show p.length + 1 + _ = p.length + (_ + 1)
        omega
    · rw [shortL_small (by omega)]
      have hc : cb (p ++ ([UInt8.ofNat m] ++ r)) p.length = m := by
        rw [List.singleton_append, cb_at]
        simp; omega
      have h9 : ¬ (p.length = 9 ∧ 1 < m) := by
        rintro ⟨h, h1⟩
        rw [h] at hm
        have : 2 * 2 ^ (7 * 9) ≤ m * 2 ^ (7 * 9) := Nat.mul_le_mul_right _ h1
        omega
      rw [lng, if_neg (by simp), hc, if_neg h9, if_neg (by omega), if_pos h0, Nat.mod_eq_of_lt (by omega)]
      rfl
theorem lng_of {m : Int} (h : shortOk m) (r : List UInt8) : lngN (shortZ m ++ r) = m ∧ lngK (shortZ m ++ r) = ((shortZ m).length : Int) ∧ lngE (shortZ m ++ r) = 0 := by
  have h0 := h.1
  have h1 := h.2
  have := lng_short r 10 m.toNat 0 [] rfl (by simp; omega) (.inr rfl)
  simp only [List.nil_append, List.length_nil, Nat.zero_add, Nat.mul_zero, Nat.pow_zero, Nat.mul_one] at this
  unfold lngN lngK lngE shortZ
  rw [this]
  refine ⟨?_, rfl, rfl⟩
  show ((m.toNat : Nat) : Int) = m
  omega
theorem nxt_head {m : Int} (h : shortOk m) (g : Nat) (st : List Lv) (c : UInt8) (r : List UInt8) (hc : 1 ≤ c.toNat ∧ c.toNat ≤ 3) : nxtVal (g + 1) st (c :: (shortZ m ++ r)) =
    if c.toNat = 1 then nxtDone (nxtVal g) st (.mk 1 m [] []) r
    else if c.toNat = 2 then
      if (r.length : Int) < m then nrBad 3
      else nxtDone (nxtVal g) st (.mk 2 0 (r.take m.toNat) []) (r.drop m.toNat)
    else if st.length = 6 then nrBad 8
    else nxtShut (nxtVal g) (⟨m, []⟩ :: st) r := by
  obtain ⟨e1, e2, e3⟩ := lng_of h r
  have hcb : cb (c :: (shortZ m ++ r)) 0 = c.toNat := rfl
  have hr : nxtRest (c :: (shortZ m ++ r)) = r := by
    unfold nxtRest
    rw [List.drop_succ_cons, List.drop_zero, e2]
    simp
  rw [nxtVal, if_neg (by simp), hcb, if_neg (by omega), List.drop_succ_cons, List.drop_zero, e1, e3, hr, if_neg (by simp)]
theorem deep_nn (v : CV) : 0 ≤ deepV v ∧ 0 ≤ deepLs v.ls := by
  have h0 : ∀ b : List CV, 0 ≤ deepLs b := by
    intro b
    induction b with
    | nil => rw [deepLs]; omega
    | cons v l ih => rw [deepLs]; omega
  refine ⟨?_, h0 _⟩
  cases v with
  | mk k n s l =>
    rw [deepV]
    have := h0 l
    split <;> omega
def Reads (v : CV) : Prop := ∀ (st : List Lv) (s : List UInt8) (f : Nat), wfV v → bareV v = true → (st.length : Int) + deepV v ≤ 6 → (textV v).length ≤ 90000000 → (textV v).length + s.length < f →
  ∃ f', s.length < f' ∧ nxtVal f st (textV v ++ s) = nxtDone (nxtVal f') st v s
theorem text_pos (v : CV) : 0 < (textV v).length := by
  cases v with
  | mk k n s l =>
    rw [textV_mk, List.length_append]
    show 0 < 1 + _
    omega
theorem texts_len : ∀ l : List CV, l.length ≤ (textLs l).length
  | [] => by simp
  | v :: l => by
    have := texts_len l
    have := text_pos v
    rw [textLs, List.length_append, List.length_cons]
    omega
theorem nxt_list (st : List Lv) (s : List UInt8) : ∀ (l : List CV) (acc : List CV) (f : Nat), (∀ w ∈ l, Reads w) → wfLs l → bareLs l = true → (st.length : Int) + 1 + deepLs l ≤ 6 → (textLs l).length ≤ 90000000 → (textLs l).length + s.length < f →
    ∃ f', s.length < f' ∧ nxtShut (nxtVal f) (⟨(l.length : Int), acc⟩ :: st) (textLs l ++ s) = nxtDone (nxtVal f') st (.mk 3 0 [] (acc ++ l)) s
  | [], acc, f, hr, hw, hb, hd, ht, hf => by
    refine ⟨f, by rw [textLs] at hf; simpa using hf, ?_⟩
    rw [nxtShut, if_pos (show ((List.length ([] : List CV) : Nat) : Int) = 0 from rfl), textLs, List.nil_append, List.append_nil]
  | v :: l, acc, f, hr, hw, hb, hd, ht, hf => by
    rw [wfLs] at hw
    rw [bareLs, Bool.and_eq_true] at hb
    rw [deepLs] at hd
    rw [textLs, List.length_append] at ht hf
    obtain ⟨f1, h1, e1⟩ := hr v (by simp) (⟨((v :: l).length : Int), acc⟩ :: st) (textLs l ++ s) f hw.1 hb.1 (by rw [List.length_cons]; omega) (by omega) (by rw [List.length_append]; omega)
    rw [List.length_append] at h1
    obtain ⟨f2, h2, e2⟩ := nxt_list st s l (acc ++ [v]) f1 (fun w hw => hr w (by simp [hw])) hw.2 hb.2 (by omega) (by omega) h1
    refine ⟨f2, h2, ?_⟩
    rw [nxtShut, if_neg (by simp; omega), textLs, List.append_assoc, e1]
    have e3 : (((v :: l).length : Int) - 1) = (l.length : Int) := by simp
    rw [nxtShut] at e2
    rw [nxtDone]
    simp only [e3]
    rw [e2, List.append_assoc, List.singleton_append]
theorem reads (v : CV) : Reads v := by
  refine cv_all (p := Reads) (fun k n s l ih => ?_) v
  intro st r f hw hb hd ht hf
  rw [wfV] at hw
  obtain ⟨g, rfl⟩ : ∃ g, f = g + 1 := ⟨f - 1, by omega⟩
  rw [textV_mk] at ht hf ⊢
  rw [bareV] at hb
  by_cases h1 : k = 1
  · subst h1
    rw [if_pos rfl] at hb ht hf ⊢
    simp only [Bool.and_eq_true, decide_eq_true_eq, List.isEmpty_iff] at hb
    obtain ⟨rfl, rfl⟩ := hb
    rw [List.length_append] at hf
    have e : byteK 1 = [1] := rfl
    rw [e] at hf ⊢
    refine ⟨g, by simp at hf; omega, ?_⟩
    rw [List.singleton_append, List.cons_append, nxt_head hw.1 g st 1 r (by decide)]
    rfl
  · rw [if_neg h1] at hb ht hf ⊢
    by_cases h2 : k = 2
    · subst h2
      rw [if_pos rfl] at hb ht hf ⊢
      simp only [Bool.and_eq_true, decide_eq_true_eq, List.isEmpty_iff] at hb
      obtain ⟨rfl, rfl⟩ := hb
      rw [List.length_append, List.length_append] at ht hf
      have e : byteK 2 = [2] := rfl
      rw [e] at hf ⊢
      refine ⟨g, by simp at hf; omega, ?_⟩
      rw [List.singleton_append, List.cons_append, List.append_assoc, nxt_head ⟨by omega, by omega⟩ g st 2 (s ++ r) (by decide)]
      rw [if_neg (by decide), if_pos (by decide), if_neg (by simp; omega)]
      rw [Int.toNat_natCast, List.take_left, List.drop_left]
    · rw [if_neg h2] at hb ht hf ⊢
      by_cases h3 : k = 3
      · subst h3
        rw [if_pos rfl] at hb
        simp only [Bool.and_eq_true, decide_eq_true_eq] at hb
        obtain ⟨⟨rfl, rfl⟩, hb⟩ := hb
        rw [deepV, if_pos rfl] at hd
        rw [List.length_append, List.length_append] at ht hf
        have e : byteK 3 = [3] := rfl
        rw [e] at hf ⊢
        have hll := texts_len l
        have hdn := (deep_nn (.mk 3 0 [] l)).2
        have hdn : 0 ≤ deepLs l := hdn
        obtain ⟨f', h5, h6⟩ := nxt_list st r l [] g ih hw.2.2 hb (by omega) (by omega) (by simp at hf; omega)
        refine ⟨f', h5, ?_⟩
        rw [List.singleton_append, List.cons_append, List.append_assoc, nxt_head ⟨by omega, by omega⟩ g st 3 (textLs l ++ r) (by decide)]
        rw [if_neg (by decide), if_neg (by decide), if_neg (by omega), h6, List.nil_append]
      · rw [if_neg h3] at hb; cases hb
theorem next_of {v : CV} (hw : wfV v) (hb : bareV v = true) (hd : deepV v ≤ 6) {s : List UInt8} (hl : (textV v).length + s.length ≤ 8192) : nxtTop (textV v ++ s) = ⟨v, s, 0⟩ := by
  unfold nxtTop
  rw [if_neg (by rw [List.length_append]; omega)]
  obtain ⟨f', h1, h2⟩ := reads v [] s ((textV v ++ s).length + 1) hw hb (by simp; exact hd) (by omega) (by rw [List.length_append]; exact Nat.lt_succ_self _)
  rw [h2, nxtDone]
end Sy
end Go.Proofs.YtcgikjfloloekaaGreatDoor
namespace Go.Proofs.YtcgikjfloloekaaGreatDoor
namespace Sy
open Go Go.RowKit
set_option maxRecDepth 100000
set_option linter.unusedSimpArgs false
set_option linter.unusedVariables false
def getE (s : List UInt8) : Int := if (nxtTop s).e = 0 ∧ ¬ (nxtTop s).r = [] then 4 else (nxtTop s).e
def getV (s : List UInt8) : CV := if getE s = 0 then (nxtTop s).v else .mk 0 0 [] []
theorem get_of {v : CV} (hw : wfV v) (hb : bareV v = true) (hd : deepV v ≤ 6) (hl : (textV v).length ≤ 8192) : getV (textV v) = v ∧ getE (textV v) = 0 := by
  have h := next_of hw hb hd (s := []) (by simpa using hl)
  rw [List.append_nil] at h
  have e : getE (textV v) = 0 := by unfold getE; rw [h]; rfl
  exact ⟨by unfold getV; rw [if_pos e, h], e⟩
theorem put_ok {v : CV} (h : putE v = 0) : bareV v = true ∧ deepV v ≤ 6 ∧ (textV v).length ≤ 8192 ∧ putT v = textV v := by
  have ht : putT v = textV v := by unfold putT; rw [if_pos h]
  unfold putE at h
  split at h
  · rename_i h1
    split at h
    · cases h
    · rename_i h2
      split at h
      · cases h
      · rename_i h3
        exact ⟨h1, by omega, by omega, ht⟩
  · cases h
end Sy
end Go.Proofs.YtcgikjfloloekaaGreatDoor
namespace Go.Proofs.YtcgikjfloloekaaGreatDoor
namespace Sy
open Go Go.RowKit
set_option maxRecDepth 100000
set_option linter.unusedSimpArgs false
set_option linter.unusedVariables false
theorem rd_cells {n : Nat} {get : Nat → Nat → AV} {l : List CV} (hn : n = l.length) (h : ∀ i j, i < n → j < 4 → get i j = cvCell (nthV l i) j) : rdL (.lst 4 n get) = l ∧ okL (.lst 4 n get) := by
  constructor
  · apply List.ext_getElem
    · rw [rd_len, hn]
    · intro i h1 h2
      have hi : i < n := by omega
      have e : ∀ m : List CV, ∀ hm : i < m.length, m[i] = nthV m i := fun m hm => by rw [nthV, List.getD_eq_getElem?_getD, List.getElem?_eq_getElem hm]; rfl
      rw [e _ h1, e _ h2, rd_nth hi, h i 0 hi (by omega), h i 1 hi (by omega), h i 2 hi (by omega), h i 3 hi (by omega), cvCell_0, cvCell_1, cvCell_2, cvCell_3]
      show CV.mk _ _ _ (rdL (.lst 4 (lenV (nthV l i)) (cvIn (nthV l i)))) = _
      exact mk_parts _
  · refine ⟨rfl, fun i hi => ?_⟩
    rw [h i 0 hi (by omega), h i 1 hi (by omega), h i 2 hi (by omega), h i 3 hi (by omega), cvCell_0, cvCell_1, cvCell_2, cvCell_3]
    exact ⟨⟨_, rfl⟩, ⟨_, rfl⟩, ⟨_, rfl⟩, (rd_in (nthV l i)).2⟩
theorem nthV_app_l {a b : List CV} {i : Nat} (h : i < a.length) : nthV (a ++ b) i = nthV a i := by
  rw [nthV, nthV, List.getD_eq_getElem?_getD, List.getD_eq_getElem?_getD, List.getElem?_append_left h]
theorem nthV_app_r (a : List CV) (v : CV) : nthV (a ++ [v]) a.length = v := by
  rw [nthV, List.getD_eq_getElem?_getD, List.getElem?_append_right (Nat.le_refl _)]; simp
theorem push_cells {l : List CV} {v : CV} {i : Nat} (hi : i = l.length) :
    rdL (.lst 4 (i.add 1) fun q j => sel1 std (nblt q i) (cv1 std (nthV l q) j) (lget .dead [.int .i64 v.kd, .int .u64 v.nn, .str v.tx, .lst 4 (lenV v) (cvIn v)] ((q - i) * 4 + j))) = l ++ [v] ∧
    okL (.lst 4 (i.add 1) fun q j => sel1 std (nblt q i) (cv1 std (nthV l q) j) (lget .dead [.int .i64 v.kd, .int .u64 v.nn, .str v.tx, .lst 4 (lenV v) (cvIn v)] ((q - i) * 4 + j))) := by
  subst hi
  refine rd_cells (by simp) fun q j hq hj => ?_
  have hq : q < l.length + 1 := hq
  by_cases h : q < l.length
  · rw [nthV_app_l h, ← cv1_std _ _ hj, blt_t h, show q - l.length = 0 by omega, Nat.zero_mul, Nat.zero_add]
    match j, hj with
    | 0, _ => rfl
    | 1, _ => rfl
    | 2, _ => rfl
    | 3, _ => rfl
  · have : q = l.length := by omega
    subst this
    rw [nthV_app_r, ← cv1_std _ _ hj, blt_f (by omega), show l.length - l.length = 0 by omega, Nat.zero_mul, Nat.zero_add]
    match j, hj with
    | 0, _ => rfl
    | 1, _ => rfl
    | 2, _ => rfl
    | 3, _ => rfl
theorem sizeCs_app (a b : List CV) : sizeCs (a ++ b) = sizeCs a + sizeCs b := by
  induction a with
  | nil => rw [List.nil_append, sizeCs_nil]; omega
  | cons x l ih => rw [List.cons_append, sizeCs_cons, sizeCs_cons, ih]; omega
theorem wfLs_app (a b : List CV) : wfLs (a ++ b) ↔ wfLs a ∧ wfLs b := by
  induction a with
  | nil => rw [List.nil_append, wfLs]; simp
  | cons x l ih => rw [List.cons_append, wfLs, wfLs, ih]; exact ⟨fun h => ⟨⟨h.1, h.2.1⟩, h.2.2⟩, fun h => ⟨h.1.1, h.1.2, h.2⟩⟩
def cvB (L : Seal) (v : CV) : AV := .agg [.int .i64 (L CV.kd v), .int .u64 (L CV.nn v), .str (L CV.tx v), .lst 4 (L lenV v) (fun i j => cv1 L (L2 L nthV (L CV.ls v) i) j)]
def cgetB_s (L : Seal) : Ent1 := (38, fun xs => match xs with | [.str s] => some (True, .tup [cvB L (L getV s), .int .i64 (L getE s)]) | _ => none)
theorem cgetB_bad {s : List UInt8} {e : Int} (h : getE s = e) (he : ¬ e = 0) : fits1 (cvB std (getV s)) (.agg [.int .i64 0, .int .u64 0, .str [], .nils]) ∧ e = getE s := by
  have e0 : getV s = .mk 0 0 [] [] := by unfold getV; rw [if_neg (by rw [h]; exact he)]
  rw [e0]
  refine ⟨?_, h.symm⟩
  show fits1 (.agg [.int .i64 0, .int .u64 0, .str [], .lst 4 0 _]) _
  simp [fits1_aggi, fits1_aggs, fits1_aggn, fits1_agg0]
theorem cgetB_yes {s : List UInt8} {v : CV} (hv : (nxtTop s).v = v) (h : getE s = 0) : fits1 (cvB std (getV s)) (.agg [.int .i64 v.kd, .int .u64 v.nn, .str v.tx, .lst 4 (lenV v) (cvIn v)]) ∧ 0 = getE s := by
  have e0 : getV s = v := by unfold getV; rw [if_pos h, hv]
  rw [e0]
  refine ⟨?_, h.symm⟩
  show fits1 (.agg [.int .i64 v.kd, .int .u64 v.nn, .str v.tx, .lst 4 (lenV v) (fun i j => cv1 std (nthV v.ls i) j)]) _
  simp only [fits1_aggi, fits1_aggs, fits1_aggl, fits1_agg0, true_and, and_true]
  exact fun i j hi hj => by rw [cv1_std _ _ hj]; exact cvGet_nth _ _ _ hi
theorem cgetB_good : Good Tryz.prog (cgetB_s std) := by
  intro xs p r h hp
  dsimp only [cgetB_s] at h ⊢
  split at h <;> cases h
  try simp only [L2, L3, std] at hp ⊢
  rename_i s
  refine acalls_L (T := tt) (S := fun L => sumOf [next_s L]) (lo := noA) (lb := noA) 5 (fn := Tryz.f38) rfl rfl (by kernel_rfl) (by kernel_rfl) rfl tt_ok (sumOf_ok ⟨next_good, trivial⟩) (by kernel_rfl) ?_
  (intro L P1 Q1 hL hP hQ; cbv; subst hL; simp only [L2, L3, std, sat_need, sat_must, sat_ite, sat_done, sat_yes, sat_ex, sat_all, sat_sup, sat_and, sat_fail]; subst hQ)
  (simp only [sySet, syB, reduceCtorEq, forall_const, Int.reduceToNat, Int.reduceAdd, Int.reduceSub, Int.cast_ofNat_Int, Int.toNat_natCast, Nat.le_eq, Nat.sub_eq, ne_eq, implies_true, wadd, wsub, wmul, Nat.succ_eq_add_one])
  refine ⟨fun h1 => ⟨fun h2 => ⟨fun _ => ?_, fun h => absurd h (by decide)⟩, fun h2 => ⟨fun h => absurd h1 h, fun _ => ?_⟩⟩, fun h1 => ⟨fun _ => ?_, fun h => absurd h h1⟩⟩
  · exact cgetB_bad (by unfold getE; rw [if_pos ⟨h1, h2⟩]) (by decide)
  · exact cgetB_yes rfl (by unfold getE; rw [if_neg (fun h => h.2 h2)]; exact h1)
  · exact cgetB_bad (by unfold getE; rw [if_neg (fun h => h1 h.1)]) h1
end Sy
end Go.Proofs.YtcgikjfloloekaaGreatDoor
namespace Go.Proofs.YtcgikjfloloekaaGreatDoor
namespace Sy
open Go Go.RowKit
set_option maxRecDepth 100000
set_option linter.unusedSimpArgs false
set_option linter.unusedVariables false
def lenI (l : List Int) : Nat := l.length
def rdI : AV → List Int
  | .lst _ n get => (List.range n).map fun i => (get i 0).toI
  | _ => []
def okI : AV → Prop
  | .lst sz n get => sz = 1 ∧ ∀ i, i < n → ∃ x, get i 0 = .int .u64 x
  | .nils => True
  | _ => False
def lstI (L : Seal) (l : List Int) : AV := .lst 1 (L lenI l) (fun i _ => .int .u64 (L2 L nthI l i))
theorem nthI_map (n i : Nat) (f : Nat → Int) (h : i < n) : nthI ((List.range n).map f) i = f i := by
  rw [nthI, List.getD_eq_getElem?_getD, List.getElem?_map, List.getElem?_range h]; rfl
theorem okI_R {h : Array Obj} {D : Nat → Prop} {μ : Mu} {x : AV} {v : Value} (ho : okI x) (r : R h D μ x v) : R h D μ (lstI std (rdI x)) v := by
  match x, ho with
  | .nils, _ => cases r; exact .lst0 _ _ none 0 (fun _ => rfl)
  | .lst sz n get, ho =>
    obtain ⟨rfl, ho⟩ := ho
    have e : lstI std (rdI (.lst 1 n get)) = .lst 1 n (fun i _ => .int .u64 (nthI (rdI (.lst 1 n get)) i)) := by
      show AV.lst 1 (lenI (rdI (.lst 1 n get))) _ = _
      rw [show lenI (rdI (.lst 1 n get)) = n by simp [rdI, lenI]]; rfl
    rw [e]
    refine lst_same r fun i j hi hj => ?_
    have : j = 0 := by omega
    subst this
    obtain ⟨x, hx⟩ := ho i hi
    rw [hx, rdI, nthI_map _ _ _ hi, hx]; rfl
theorem rl_4 {h : Array Obj} {D : Nat → Prop} {μ : Mu} {a b c x y : AV} {r : List AV} {vs : Array Value} (e : ∀ v, R h D μ x v → R h D μ y v) (hr : RL h D μ (a :: b :: c :: x :: r) vs) : RL h D μ (a :: b :: c :: y :: r) vs := by
  refine ⟨by rw [← hr.1]; rfl, fun i z v hz hv => ?_⟩
  match i, hz with
  | 0, hz => exact hr.2 0 z v hz hv
  | 1, hz => exact hr.2 1 z v hz hv
  | 2, hz => exact hr.2 2 z v hz hv
  | 3, hz => cases hz; exact e v (hr.2 3 x v rfl hv)
  | i + 4, hz => exact hr.2 (i + 4) z v hz hv
theorem ac_li {P : Program} {f : FuncId} {a b c x r : AV} (ho : okI x) (h : ACalls P f [a, b, c, lstI std (rdI x)] r) : ACalls P f [a, b, c, x] r :=
  ac_args' (fun h D vs hr => rl_4 (fun v => okI_R ho) hr) h
def numsZ (k : Int) : Int := if k = 1 then 1 else if k = 2 ∨ k = 3 then 2 else if k = 4 then 3 else 0
def nums_s (L : Seal) : Ent1 := (37, fun xs => match xs with | [.int .i64 k] => some (True, .int .i64 (L numsZ k)) | _ => none)
theorem nums_good : Good Tryz.prog (nums_s std) := by
  intro xs p r h hp
  dsimp only [nums_s] at h ⊢
  split at h <;> cases h
  try simp only [L2, L3, std] at hp ⊢
  rename_i k
  refine acalls_L (T := tt) (S := noS) (lo := noA) (lb := noA) 5 (fn := Tryz.f37) rfl rfl (by kernel_rfl) (by kernel_rfl) rfl tt_ok (noS_ok _) (by kernel_rfl) ?_
  (intro L P1 Q1 hL hP hQ; cbv; subst hL; simp only [L2, L3, std, sat_need, sat_must, sat_ite, sat_done, sat_yes, sat_ex, sat_all, sat_sup, sat_and, sat_fail]; subst hQ)
  (simp only [sySet, syB, reduceCtorEq, forall_const, Int.reduceToNat, Int.reduceAdd, Int.reduceSub, Int.cast_ofNat_Int, Int.toNat_natCast, Nat.le_eq, Nat.sub_eq, ne_eq, implies_true, wadd, wsub, wmul, Nat.succ_eq_add_one])
  refine ⟨fun h => by simp [numsZ, h], fun h1 => ⟨fun h => by simp [numsZ, h], fun h2 => ⟨fun h => by simp [numsZ, h], fun h3 => ⟨fun h => by simp [numsZ, h], fun h4 => by simp [numsZ, h1, h2, h3, h4]⟩⟩⟩⟩
def numVs (l : List Int) : List CV := l.map numV
def itemsV (k : Int) (b : List UInt8) (l : List Int) : List CV := if k = 2 then numVs l ++ [txtV b] else numVs l
def msgV (k : Int) (b : List UInt8) (l : List Int) : CV := rowV (itemsV k b l)
def msgT (k e : Int) (b : List UInt8) (l : List Int) : List UInt8 := if putE (msgV k b l) = 0 then byT k e (putT (msgV k b l)) else []
def msgOk (e : Int) (b : List UInt8) (l : List Int) : Prop := u64Ok e ∧ b.length ≤ 1000000 ∧ l.length ≤ 1000 ∧ ∀ x ∈ l, shortOk x
theorem numVs_len (l : List Int) : (numVs l).length = l.length := List.length_map _
theorem numVs_size (l : List Int) : sizeCs (numVs l) = l.length := by
  induction l with
  | nil => rw [numVs, List.map_nil, sizeCs_nil]; rfl
  | cons x l ih => rw [numVs, List.map_cons, sizeCs_cons, show l.map numV = numVs l from rfl, ih, numV, sizeC_mk, sizeCs_nil, List.length_cons]; omega
theorem numVs_wf {l : List Int} (h : ∀ x ∈ l, shortOk x) : wfLs (numVs l) ∧ (textLs (numVs l)).length ≤ 11 * l.length := by
  induction l with
  | nil => rw [numVs, List.map_nil, textLs, wfLs]; exact ⟨trivial, Nat.zero_le _⟩
  | cons x l ih =>
    obtain ⟨a, b⟩ := ih (fun y hy => h y (List.mem_cons_of_mem _ hy))
    have hx := h x List.mem_cons_self
    have := shortZ_len hx
    rw [numVs, List.map_cons, textLs, wfLs, show l.map numV = numVs l from rfl, numV, wfV, textV_mk, if_pos rfl, wfLs]
    refine ⟨⟨⟨hx, Nat.zero_le _, trivial⟩, a⟩, ?_⟩
    simp only [List.length_append, List.length_cons, byteK, List.length_nil]
    omega
theorem msgV_ok {e k : Int} {b : List UInt8} {l : List Int} (h : msgOk e b l) : szOk 2000 (msgV k b l) ∧ txOk (msgV k b l) ∧ lenOk (itemsV k b l) := by
  obtain ⟨h0, h1, h2, h3⟩ := h
  obtain ⟨w, t⟩ := numVs_wf h3
  have sb : shortOk (b.length : Nat) := ⟨by omega, by omega⟩
  have sz : shortOk 0 := ⟨by omega, by omega⟩
  have tl := shortZ_len sb
  have il : (itemsV k b l).length ≤ l.length + 1 := by
    unfold itemsV
    split <;> simp [numVs_len]
  have sl : shortOk ((itemsV k b l).length : Nat) := ⟨by omega, by omega⟩
  have tl2 := shortZ_len sl
  have ws : wfLs (itemsV k b l) ∧ (textLs (itemsV k b l)).length ≤ 11 * l.length + b.length + 11 ∧ sizeCs (itemsV k b l) ≤ l.length + 1 := by
    unfold itemsV
    split
    · rw [wfLs_app, textLs_app, sizeCs_app, numVs_size, sizeCs_cons, sizeCs_nil, List.length_append, wfLs, wfLs, textLs, textLs, txtV, wfV, textV_mk, if_neg (by decide), if_pos rfl, sizeC_mk, sizeCs_nil, wfLs]
      refine ⟨⟨w, ⟨sz, by omega, trivial⟩, trivial⟩, ?_, by omega⟩
      simp only [List.length_append, List.length_cons, byteK, List.length_nil]
      omega
    · rw [numVs_size]
      exact ⟨w, by omega, by omega⟩
  refine ⟨?_, ?_, ?_⟩
  · unfold szOk msgV rowV
    rw [sizeC_mk]; omega
  · unfold txOk msgV rowV
    rw [wfV, textV_mk, if_neg (by decide), if_neg (by decide)]
    refine ⟨⟨sz, Nat.zero_le _, ws.1⟩, ?_⟩
    simp only [List.length_append, List.length_cons, byteK, List.length_nil]
    omega
  · unfold lenOk; omega
theorem msg_end {e k : Int} {b : List UInt8} {l : List Int} (h : msgOk e b l) (x : Nat → Nat → AV) (n : Nat) (hr : rdL (.lst 4 n x) = itemsV k b l) (ho : okL (.lst 4 n x)) :
    (okL (.lst 4 n x) ∧ lenOk (rdL (.lst 4 n x))) ∧
    (okL (.lst 4 (lenV (rowV (rdL (.lst 4 n x)))) (cvIn (rowV (rdL (.lst 4 n x))))) ∧ szOk 2000 (mkV std (rowV (rdL (.lst 4 n x))).kd (rowV (rdL (.lst 4 n x))).nn (rowV (rdL (.lst 4 n x))).tx (.lst 4 (lenV (rowV (rdL (.lst 4 n x)))) (cvIn (rowV (rdL (.lst 4 n x)))))) ∧
      txOk (mkV std (rowV (rdL (.lst 4 n x))).kd (rowV (rdL (.lst 4 n x))).nn (rowV (rdL (.lst 4 n x))).tx (.lst 4 (lenV (rowV (rdL (.lst 4 n x)))) (cvIn (rowV (rdL (.lst 4 n x))))))) ∧
    (¬ putE (mkV std (rowV (rdL (.lst 4 n x))).kd (rowV (rdL (.lst 4 n x))).nn (rowV (rdL (.lst 4 n x))).tx (.lst 4 (lenV (rowV (rdL (.lst 4 n x)))) (cvIn (rowV (rdL (.lst 4 n x)))))) = 0 → [] = msgT k e b l) ∧
    (putE (mkV std (rowV (rdL (.lst 4 n x))).kd (rowV (rdL (.lst 4 n x))).nn (rowV (rdL (.lst 4 n x))).tx (.lst 4 (lenV (rowV (rdL (.lst 4 n x)))) (cvIn (rowV (rdL (.lst 4 n x)))))) = 0 →
      byOk e (putT (mkV std (rowV (rdL (.lst 4 n x))).kd (rowV (rdL (.lst 4 n x))).nn (rowV (rdL (.lst 4 n x))).tx (.lst 4 (lenV (rowV (rdL (.lst 4 n x)))) (cvIn (rowV (rdL (.lst 4 n x))))))) ∧
      byT k e (putT (mkV std (rowV (rdL (.lst 4 n x))).kd (rowV (rdL (.lst 4 n x))).nn (rowV (rdL (.lst 4 n x))).tx (.lst 4 (lenV (rowV (rdL (.lst 4 n x)))) (cvIn (rowV (rdL (.lst 4 n x))))))) = msgT k e b l) := by
  rw [hr, mkV_parts, show rowV (itemsV k b l) = msgV k b l from rfl]
  obtain ⟨m1, m2, m3⟩ := msgV_ok (k := k) h
  refine ⟨⟨ho, m3⟩, ⟨(rd_in _).2, m1, m2⟩, fun hE => by rw [msgT, if_neg hE], fun hE => ⟨⟨h.1.1, h.1.2, ?_⟩, by rw [msgT, if_pos hE]⟩⟩
  have := m2.2
  rw [putT, if_pos hE]
  omega
def msgA (L : Seal) (l : List Int) : Nat → St → Option Ann := fun id st => match id with
  | 0 => some ⟨Nat, fun i => [(18, .int .i64 (L natI i)), (9, .sl 900 4 0 i)], fun i => [(900, .row 89 4 i (fun i j => cv1 L (L2 L nthV (L numVs l) i) j))], [0, 1, 2, 16, 17], [],
      fun i => L2 L (fun (l : List Int) i => i ≤ l.length) l i, fun i => L2 L (fun (l : List Int) (i : Nat) => l.length - i) l i⟩
  | _ => none
def msg_s (L : Seal) : Ent1 := (9, fun xs => match xs with
  | [.int .i64 k, .int .u64 e, .str b, x] => some (L okI x ∧ L3 L msgOk e b (L rdI x), .str (L (L3 L msgT k e b) (L rdI x)))
  | _ => none)
theorem msg_good : Good Tryz.prog (msg_s std) := by
  intro xs p r h hp
  dsimp only [msg_s] at h ⊢
  split at h <;> cases h
  try simp only [L2, L3, std] at hp ⊢
  rename_i k e b x
  obtain ⟨ho, hz⟩ := hp
  refine ac_li ho ?_
  have hz : msgOk e b (rdI x) := hz
  show ACalls _ _ [.int .i64 k, .int .u64 e, .str b, lstI std (rdI x)] (.str (msgT k e b (rdI x)))
  generalize rdI x = l at hz ⊢
  refine acalls_L' (T := tt) (S := fun L => sumOf [num_s L, txt_s L, list_s L, cput_s 2000 L, by_s L]) (lo := fun L => msgA L l) (lb := noA) 5 (fn := Tryz.f9) (xs := fun L => [.int .i64 k, .int .u64 e, .str b, lstI L l]) rfl rfl (by kernel_rfl) (by kernel_rfl) rfl tt_ok
    (sumOf_ok ⟨num_good, txt_good, list_good, cput2_good _, by_good, trivial⟩) (by kernel_rfl) ?_
  intro L P' Q' hL hP hQ
  (cbv; try simp only [sat_need, sat_must, sat_ite, sat_done, sat_yes, sat_ex, sat_all, sat_sup, sat_and, sat_fail, true_and, and_true])
  refine ⟨⟨0, ?_⟩, fun i hi => ?_⟩
  · (cbv; try simp only [sat_need, sat_must, sat_ite, sat_done, sat_yes, sat_ex, sat_all, sat_sup, sat_and, sat_fail, true_and, and_true])
    (subst hL; subst hQ; simp only [L2, L3, std] at *; try simp only [sySet, syB, reduceCtorEq, forall_const, Int.reduceToNat, Int.reduceAdd, Int.reduceSub, Int.cast_ofNat_Int, Int.toNat_natCast, Nat.le_eq, Nat.sub_eq, ne_eq, implies_true, wadd, wsub, wmul, Nat.succ_eq_add_one] at *)
    exact Nat.zero_le _
  · cbv at hi
    (cbv; try simp only [sat_need, sat_must, sat_ite, sat_done, sat_yes, sat_ex, sat_all, sat_sup, sat_and, sat_fail, true_and, and_true])
    refine ⟨fun hlt => ⟨?_, ?_, ⟨i + 1, ?_⟩⟩, fun hge => ⟨fun h2 => ?_, fun h2 => ?_⟩⟩
    · (subst hL; subst hQ; simp only [L2, L3, std] at *; try simp only [sySet, syB, reduceCtorEq, forall_const, Int.reduceToNat, Int.reduceAdd, Int.reduceSub, Int.cast_ofNat_Int, Int.toNat_natCast, Nat.le_eq, Nat.sub_eq, ne_eq, implies_true, wadd, wsub, wmul, Nat.succ_eq_add_one] at *)
      omega
    · (subst hL; subst hQ; simp only [L2, L3, std] at *; try simp only [sySet, syB, reduceCtorEq, forall_const, Int.reduceToNat, Int.reduceAdd, Int.reduceSub, Int.cast_ofNat_Int, Int.toNat_natCast, Nat.le_eq, Nat.sub_eq, ne_eq, implies_true, wadd, wsub, wmul, Nat.succ_eq_add_one] at *)
      have : lenI l = l.length := rfl
      have := hz.2.2.1
      omega
    · (cbv; try simp only [sat_need, sat_must, sat_ite, sat_done, sat_yes, sat_ex, sat_all, sat_sup, sat_and, sat_fail, true_and, and_true])
      (subst hL; subst hQ; simp only [L2, L3, std] at *; try simp only [sySet, syB, reduceCtorEq, forall_const, Int.reduceToNat, Int.reduceAdd, Int.reduceSub, Int.cast_ofNat_Int, Int.toNat_natCast, Nat.le_eq, Nat.sub_eq, ne_eq, implies_true, wadd, wsub, wmul, Nat.succ_eq_add_one] at *)
      have : lenI l = l.length := rfl
      have := hz.2.2.1
      have e1 : numV (nthI l i) = nthV (numVs l) i := by
        rw [nthV, numVs, List.getD_eq_getElem?_getD, List.getElem?_map, nthI, List.getD_eq_getElem?_getD, List.getElem?_eq_getElem (by omega)]; rfl
      rw [e1]
      exact ⟨fun q j hq hj => cv_push (nthV (numVs l)) hq hj, by omega, by omega, by omega⟩
    · (subst hL; subst hQ; simp only [L2, L3, std] at *; try simp only [sySet, syB, reduceCtorEq, forall_const, Int.reduceToNat, Int.reduceAdd, Int.reduceSub, Int.cast_ofNat_Int, Int.toNat_natCast, Nat.le_eq, Nat.sub_eq, ne_eq, implies_true, wadd, wsub, wmul, Nat.succ_eq_add_one] at *)
      have : lenI l = l.length := rfl
      have := hz.2.2.1
      subst h2
      obtain ⟨e1, e2⟩ := push_cells (l := numVs l) (v := txtV b) (i := i) (by rw [numVs_len]; omega)
      refine ⟨by omega, msg_end hz _ _ ?_ e2⟩
      rw [e1, itemsV, if_pos rfl]
    · (subst hL; subst hQ; simp only [L2, L3, std] at *; try simp only [sySet, syB, reduceCtorEq, forall_const, Int.reduceToNat, Int.reduceAdd, Int.reduceSub, Int.cast_ofNat_Int, Int.toNat_natCast, Nat.le_eq, Nat.sub_eq, ne_eq, implies_true, wadd, wsub, wmul, Nat.succ_eq_add_one] at *)
      have : lenI l = l.length := rfl
      obtain ⟨e1, e2⟩ := rd_cells (n := i) (get := fun q j => cv1 std (nthV (numVs l) q) j) (l := numVs l) (by rw [numVs_len]; omega) (fun q j hq hj => cv1_std _ j hj)
      refine msg_end hz _ _ ?_ e2
      rw [e1, itemsV, if_neg h2]
end Sy
end Go.Proofs.YtcgikjfloloekaaGreatDoor
namespace Go.Proofs.YtcgikjfloloekaaGreatDoor
namespace Sy
open Go Go.RowKit
set_option maxRecDepth 100000
set_option linter.unusedSimpArgs false
set_option linter.unusedVariables false
def rsL (s : List UInt8) : List CV := (getV (paB s)).ls
def rsN (s : List UInt8) : Int := numsZ (paK s)
def rsM (s : List UInt8) : Nat := (rsN s).toNat
def numTo (l : List CV) (i : Nat) : Prop := i ≤ l.length ∧ ∀ j, j < i → (nthV l j).kd = 1
def rsOk (s : List UInt8) : Prop := paE s = 0 ∧ rsN s ≠ 0 ∧ getE (paB s) = 0 ∧ (getV (paB s)).kd = 3 ∧ (paK s = 2 → ((rsL s).length : Int) = rsN s + 1 ∧ (nthV (rsL s) (rsM s)).kd = 2) ∧ (paK s ≠ 2 → ((rsL s).length : Int) = rsN s) ∧ numTo (rsL s) (rsM s)
open Classical in
noncomputable def rsE (s : List UInt8) : Int := if rsOk s then 0 else 4
noncomputable def rsK (s : List UInt8) : Int := if rsE s = 0 then paK s else 0
noncomputable def rsP (s : List UInt8) : Int := if rsE s = 0 then paP s else 0
def nnsV (l : List CV) : List Int := l.map CV.nn
noncomputable def rsI (s : List UInt8) : List Int := if rsE s = 0 then nnsV ((rsL s).take (rsM s)) else []
noncomputable def rsB (s : List UInt8) : List UInt8 := if rsE s = 0 ∧ paK s = 2 then (nthV (rsL s) (rsM s)).tx else []
noncomputable def rs_s (L : Seal) : Ent1 := (10, fun xs => match xs with
  | [.str s] => some (L2 L upto 900000 s, .tup [.int .i64 (L rsK s), .int .u64 (L rsP s), lstI L (L rsI s), .str (L rsB s), .int .i64 (L rsE s)])
  | _ => none)
def nnAt (l : List CV) (i : Nat) : Int := (nthV l i).nn
def rsA (L : Seal) (s : List UInt8) : Nat → St → Option Ann := fun id st => match id with
  | 0 => some ⟨Nat, fun i => [(79, .int .i64 (L natI i)), (7, .sl 901 1 0 i)], fun i => [(901, .row 22 1 i (fun i _ => .int .u64 (L2 L nnAt (L rsL s) i)))], [9, 10, 77, 78], [10],
      fun i => L2 L (fun (s : List UInt8) i => numTo (rsL s) i ∧ i ≤ rsM s) s i, fun i => L2 L (fun (s : List UInt8) (i : Nat) => rsM s - i) s i⟩
  | _ => none
theorem nums_le (k : Int) : 0 ≤ numsZ k ∧ numsZ k ≤ 3 := by
  unfold numsZ
  split
  · omega
  · split
    · omega
    · split <;> omega
theorem rs_yes {s : List UInt8} {i : Nat} (h : rsOk s) (hi : i = rsM s) : paK s = rsK s ∧ paP s = rsP s ∧ fits1 (lstI std (rsI s)) (.lst 1 i fun i x => .int .u64 (nnAt (rsL s) i)) ∧ (if paK s = 2 then (nthV (rsL s) (rsM s)).tx else []) = rsB s ∧ 0 = rsE s := by
  have e : rsE s = 0 := if_pos h
  have hl : (rsI s).length = rsM s := by
    rw [rsI, if_pos e, nnsV, List.length_map, List.length_take]
    have := h.2.2.2.2.2.2.1
    omega
  refine ⟨by rw [rsK, if_pos e], by rw [rsP, if_pos e], ?_, ?_, e.symm⟩
  · show fits1 (.lst 1 (rsI s).length fun i _ => .int .u64 (nthI (rsI s) i)) _
    rw [fits1_lst]
    refine ⟨by omega, fun q j hq hj => ?_⟩
    rw [rsI, if_pos e, nnsV, nthI, List.getD_eq_getElem?_getD, List.getElem?_map, List.getElem?_take_of_lt (by omega), nnAt, nthV, List.getD_eq_getElem?_getD]
    have := h.2.2.2.2.2.2.1
    rw [List.getElem?_eq_getElem (by omega)]; rfl
  · rw [rsB]
    by_cases hk : paK s = 2
    · rw [if_pos hk, if_pos ⟨e, hk⟩]
    · rw [if_neg hk, if_neg (fun h => hk h.2)]
theorem rs_good : Good Tryz.prog (rs_s std) := by
  intro xs p r h hp
  dsimp only [rs_s] at h ⊢
  split at h <;> cases h
  try simp only [L2, L3, std] at hp ⊢
  rename_i s
  refine acalls_L (T := tt) (S := fun L => sumOf [parse_s L, nums_s L, cgetB_s L]) (lo := fun L => rsA L s) (lb := noA) 5 (fn := Tryz.f10) rfl rfl (by kernel_rfl) (by kernel_rfl) rfl tt_ok (sumOf_ok ⟨parse_good, nums_good, cgetB_good, trivial⟩) (by kernel_rfl) ?_
  intro L P' Q' hL hP hQ
  have bad : ¬ rsOk s → fits (.tup [.int .i64 (rsK s), .int .u64 (rsP s), lstI std (rsI s), .str (rsB s), .int .i64 (rsE s)]) (.tup [.int .i64 0, .int .u64 0, .nils, .str [], .int .i64 4]) := by
    intro h
    have e : rsE s = 4 := if_neg h
    simp only [rsK, rsP, rsI, rsB, e]
    show fits (.tup [.int .i64 0, .int .u64 0, .lst 1 0 _, .str [], .int .i64 4]) _
    simp only [sySet]
    trivial
  have yes : rsOk s → rsE s = 0 := fun h => if_pos h
  have nb := nums_le (paK s)
  have eN : numsZ (paK s) = rsN s := rfl
  have eL : (getV (paB s)).ls = rsL s := rfl
  have eM : (rsN s).toNat = rsM s := rfl
  have eV : lenV (getV (paB s)) = (rsL s).length := rfl
  (cbv; try simp only [sat_need, sat_must, sat_ite, sat_done, sat_yes, sat_ex, sat_all, sat_sup, sat_and, sat_fail, true_and, and_true])
  refine ⟨?_, fun h1 => ?_, fun h1 => ⟨fun h2 => ?_, fun h2 => ⟨fun h3 => ?_, fun h3 => ⟨fun h4 => ?_, fun h4 => ⟨fun h5 => ⟨fun h6 => ?_, fun h6 => ⟨?_, fun h7 => ?_, fun h7 => ⟨?_, ?_, fun h8 => ?_, fun h8 => ⟨⟨0, ?_⟩, fun i hi => ?_⟩⟩⟩⟩, fun h5 => ⟨fun h6 => ?_, fun h6 => ⟨⟨0, ?_⟩, fun i hi => ?_⟩⟩⟩⟩⟩⟩⟩
  · subst hL; exact hp
  · (subst hL; subst hQ; simp only [L2, L3, std] at *; try simp only [sySet, syB, reduceCtorEq, forall_const, Int.reduceToNat, Int.reduceAdd, Int.reduceSub, Int.cast_ofNat_Int, Int.toNat_natCast, Nat.le_eq, Nat.sub_eq, ne_eq, implies_true, wadd, wsub, wmul, Nat.succ_eq_add_one] at *); exact bad fun h => h1 h.1
  · (subst hL; subst hQ; simp only [L2, L3, std] at *; try simp only [sySet, syB, reduceCtorEq, forall_const, Int.reduceToNat, Int.reduceAdd, Int.reduceSub, Int.cast_ofNat_Int, Int.toNat_natCast, Nat.le_eq, Nat.sub_eq, ne_eq, implies_true, wadd, wsub, wmul, Nat.succ_eq_add_one] at *); exact bad fun h => h.2.1 h2
  · (subst hL; subst hQ; simp only [L2, L3, std] at *; try simp only [sySet, syB, reduceCtorEq, forall_const, Int.reduceToNat, Int.reduceAdd, Int.reduceSub, Int.cast_ofNat_Int, Int.toNat_natCast, Nat.le_eq, Nat.sub_eq, ne_eq, implies_true, wadd, wsub, wmul, Nat.succ_eq_add_one] at *); exact bad fun h => h3 h.2.2.1
  · (subst hL; subst hQ; simp only [L2, L3, std] at *; try simp only [sySet, syB, reduceCtorEq, forall_const, Int.reduceToNat, Int.reduceAdd, Int.reduceSub, Int.cast_ofNat_Int, Int.toNat_natCast, Nat.le_eq, Nat.sub_eq, ne_eq, implies_true, wadd, wsub, wmul, Nat.succ_eq_add_one] at *); exact bad fun h => h4 h.2.2.2.1
  · (subst hL; subst hQ; simp only [L2, L3, std] at *; try simp only [sySet, syB, reduceCtorEq, forall_const, Int.reduceToNat, Int.reduceAdd, Int.reduceSub, Int.cast_ofNat_Int, Int.toNat_natCast, Nat.le_eq, Nat.sub_eq, ne_eq, implies_true, wadd, wsub, wmul, Nat.succ_eq_add_one] at *)
    exact bad fun h => by
      have := (h.2.2.2.2.1 h5).1
      omega
  · (subst hL; subst hQ; simp only [L2, L3, std] at *; try simp only [sySet, syB, reduceCtorEq, forall_const, Int.reduceToNat, Int.reduceAdd, Int.reduceSub, Int.cast_ofNat_Int, Int.toNat_natCast, Nat.le_eq, Nat.sub_eq, ne_eq, implies_true, wadd, wsub, wmul, Nat.succ_eq_add_one] at *)
    omega
  · (subst hL; subst hQ; simp only [L2, L3, std] at *; try simp only [sySet, syB, reduceCtorEq, forall_const, Int.reduceToNat, Int.reduceAdd, Int.reduceSub, Int.cast_ofNat_Int, Int.toNat_natCast, Nat.le_eq, Nat.sub_eq, ne_eq, implies_true, wadd, wsub, wmul, Nat.succ_eq_add_one] at *); exact bad fun h => h7 (h.2.2.2.2.1 h5).2
  · (subst hL; subst hQ; simp only [L2, L3, std] at *; try simp only [sySet, syB, reduceCtorEq, forall_const, Int.reduceToNat, Int.reduceAdd, Int.reduceSub, Int.cast_ofNat_Int, Int.toNat_natCast, Nat.le_eq, Nat.sub_eq, ne_eq, implies_true, wadd, wsub, wmul, Nat.succ_eq_add_one] at *)
    omega
  · (subst hL; subst hQ; simp only [L2, L3, std] at *; try simp only [sySet, syB, reduceCtorEq, forall_const, Int.reduceToNat, Int.reduceAdd, Int.reduceSub, Int.cast_ofNat_Int, Int.toNat_natCast, Nat.le_eq, Nat.sub_eq, ne_eq, implies_true, wadd, wsub, wmul, Nat.succ_eq_add_one] at *)
    omega
  · (subst hL; subst hQ; simp only [L2, L3, std] at *; try simp only [sySet, syB, reduceCtorEq, forall_const, Int.reduceToNat, Int.reduceAdd, Int.reduceSub, Int.cast_ofNat_Int, Int.toNat_natCast, Nat.le_eq, Nat.sub_eq, ne_eq, implies_true, wadd, wsub, wmul, Nat.succ_eq_add_one] at *)
    omega
  · (cbv; try simp only [sat_need, sat_must, sat_ite, sat_done, sat_yes, sat_ex, sat_all, sat_sup, sat_and, sat_fail, true_and, and_true])
    (subst hL; subst hQ; simp only [L2, L3, std] at *; try simp only [sySet, syB, reduceCtorEq, forall_const, Int.reduceToNat, Int.reduceAdd, Int.reduceSub, Int.cast_ofNat_Int, Int.toNat_natCast, Nat.le_eq, Nat.sub_eq, ne_eq, implies_true, wadd, wsub, wmul, Nat.succ_eq_add_one] at *)
    exact ⟨⟨Nat.zero_le _, fun j hj => by omega⟩, Nat.zero_le _⟩
  · cbv at hi
    (cbv; try simp only [sat_need, sat_must, sat_ite, sat_done, sat_yes, sat_ex, sat_all, sat_sup, sat_and, sat_fail, true_and, and_true])
    refine ⟨fun hlt => ⟨?_, fun h9 => ?_, fun h9 => ⟨?_, ⟨i + 1, ?_⟩⟩⟩, fun hge => ?_⟩
    · (subst hL; subst hQ; simp only [L2, L3, std] at *; try simp only [sySet, syB, reduceCtorEq, forall_const, Int.reduceToNat, Int.reduceAdd, Int.reduceSub, Int.cast_ofNat_Int, Int.toNat_natCast, Nat.le_eq, Nat.sub_eq, ne_eq, implies_true, wadd, wsub, wmul, Nat.succ_eq_add_one] at *)
      omega
    · (subst hL; subst hQ; simp only [L2, L3, std] at *; try simp only [sySet, syB, reduceCtorEq, forall_const, Int.reduceToNat, Int.reduceAdd, Int.reduceSub, Int.cast_ofNat_Int, Int.toNat_natCast, Nat.le_eq, Nat.sub_eq, ne_eq, implies_true, wadd, wsub, wmul, Nat.succ_eq_add_one] at *)
      exact bad fun h => h9 (h.2.2.2.2.2.2.2 i (by omega))
    · (subst hL; subst hQ; simp only [L2, L3, std] at *; try simp only [sySet, syB, reduceCtorEq, forall_const, Int.reduceToNat, Int.reduceAdd, Int.reduceSub, Int.cast_ofNat_Int, Int.toNat_natCast, Nat.le_eq, Nat.sub_eq, ne_eq, implies_true, wadd, wsub, wmul, Nat.succ_eq_add_one] at *)
      omega
    · (cbv; try simp only [sat_need, sat_must, sat_ite, sat_done, sat_yes, sat_ex, sat_all, sat_sup, sat_and, sat_fail, true_and, and_true])
      (subst hL; subst hQ; simp only [L2, L3, std] at *; try simp only [sySet, syB, reduceCtorEq, forall_const, Int.reduceToNat, Int.reduceAdd, Int.reduceSub, Int.cast_ofNat_Int, Int.toNat_natCast, Nat.le_eq, Nat.sub_eq, ne_eq, implies_true, wadd, wsub, wmul, Nat.succ_eq_add_one] at *)
      have hl : i + 1 ≤ (rsL s).length := by omega
      refine ⟨fun q j hq hj => ?_, by omega, ⟨⟨hl, fun j hj => ?_⟩, by omega⟩, by omega⟩
      · by_cases h : q < i
        · rw [blt_t h, show q - i = 0 by omega]; rfl
        · have : q = i := by omega
          subst this
          rw [blt_f (by omega), show q - q = 0 by omega]; rfl
      · by_cases h : j < i
        · exact hi.1.2 j h
        · have : j = i := by omega
          subst this
          exact h9
    · (subst hL; subst hQ; simp only [L2, L3, std] at *; try simp only [sySet, syB, reduceCtorEq, forall_const, Int.reduceToNat, Int.reduceAdd, Int.reduceSub, Int.cast_ofNat_Int, Int.toNat_natCast, Nat.le_eq, Nat.sub_eq, ne_eq, implies_true, wadd, wsub, wmul, Nat.succ_eq_add_one] at *)
      have hM : i = rsM s := by omega
      have hok : rsOk s := ⟨h1, h2, h3, h4, fun _ => ⟨by omega, h7⟩, fun h => absurd h5 h, by rw [← hM]; exact hi.1⟩
      have := rs_yes hok hM
      obtain ⟨y1, y2, y3, y4, y5⟩ := this
      refine ⟨y1, y2, y3, ?_, y5⟩
      rw [← y4, if_pos h5]
      try rfl
  · (subst hL; subst hQ; simp only [L2, L3, std] at *; try simp only [sySet, syB, reduceCtorEq, forall_const, Int.reduceToNat, Int.reduceAdd, Int.reduceSub, Int.cast_ofNat_Int, Int.toNat_natCast, Nat.le_eq, Nat.sub_eq, ne_eq, implies_true, wadd, wsub, wmul, Nat.succ_eq_add_one] at *); exact bad fun h => h6 (h.2.2.2.2.2.1 h5)
  · (cbv; try simp only [sat_need, sat_must, sat_ite, sat_done, sat_yes, sat_ex, sat_all, sat_sup, sat_and, sat_fail, true_and, and_true])
    (subst hL; subst hQ; simp only [L2, L3, std] at *; try simp only [sySet, syB, reduceCtorEq, forall_const, Int.reduceToNat, Int.reduceAdd, Int.reduceSub, Int.cast_ofNat_Int, Int.toNat_natCast, Nat.le_eq, Nat.sub_eq, ne_eq, implies_true, wadd, wsub, wmul, Nat.succ_eq_add_one] at *)
    exact ⟨⟨Nat.zero_le _, fun j hj => by omega⟩, Nat.zero_le _⟩
  · cbv at hi
    (cbv; try simp only [sat_need, sat_must, sat_ite, sat_done, sat_yes, sat_ex, sat_all, sat_sup, sat_and, sat_fail, true_and, and_true])
    refine ⟨fun hlt => ⟨?_, fun h9 => ?_, fun h9 => ⟨?_, ⟨i + 1, ?_⟩⟩⟩, fun hge => ?_⟩
    · (subst hL; subst hQ; simp only [L2, L3, std] at *; try simp only [sySet, syB, reduceCtorEq, forall_const, Int.reduceToNat, Int.reduceAdd, Int.reduceSub, Int.cast_ofNat_Int, Int.toNat_natCast, Nat.le_eq, Nat.sub_eq, ne_eq, implies_true, wadd, wsub, wmul, Nat.succ_eq_add_one] at *)
      omega
    · (subst hL; subst hQ; simp only [L2, L3, std] at *; try simp only [sySet, syB, reduceCtorEq, forall_const, Int.reduceToNat, Int.reduceAdd, Int.reduceSub, Int.cast_ofNat_Int, Int.toNat_natCast, Nat.le_eq, Nat.sub_eq, ne_eq, implies_true, wadd, wsub, wmul, Nat.succ_eq_add_one] at *)
      exact bad fun h => h9 (h.2.2.2.2.2.2.2 i (by omega))
    · (subst hL; subst hQ; simp only [L2, L3, std] at *; try simp only [sySet, syB, reduceCtorEq, forall_const, Int.reduceToNat, Int.reduceAdd, Int.reduceSub, Int.cast_ofNat_Int, Int.toNat_natCast, Nat.le_eq, Nat.sub_eq, ne_eq, implies_true, wadd, wsub, wmul, Nat.succ_eq_add_one] at *)
      omega
    · (cbv; try simp only [sat_need, sat_must, sat_ite, sat_done, sat_yes, sat_ex, sat_all, sat_sup, sat_and, sat_fail, true_and, and_true])
      (subst hL; subst hQ; simp only [L2, L3, std] at *; try simp only [sySet, syB, reduceCtorEq, forall_const, Int.reduceToNat, Int.reduceAdd, Int.reduceSub, Int.cast_ofNat_Int, Int.toNat_natCast, Nat.le_eq, Nat.sub_eq, ne_eq, implies_true, wadd, wsub, wmul, Nat.succ_eq_add_one] at *)
      have hl : i + 1 ≤ (rsL s).length := by omega
      refine ⟨fun q j hq hj => ?_, by omega, ⟨⟨hl, fun j hj => ?_⟩, by omega⟩, by omega⟩
      · by_cases h : q < i
        · rw [blt_t h, show q - i = 0 by omega]; rfl
        · have : q = i := by omega
          subst this
          rw [blt_f (by omega), show q - q = 0 by omega]; rfl
      · by_cases h : j < i
        · exact hi.1.2 j h
        · have : j = i := by omega
          subst this
          exact h9
    · (subst hL; subst hQ; simp only [L2, L3, std] at *; try simp only [sySet, syB, reduceCtorEq, forall_const, Int.reduceToNat, Int.reduceAdd, Int.reduceSub, Int.cast_ofNat_Int, Int.toNat_natCast, Nat.le_eq, Nat.sub_eq, ne_eq, implies_true, wadd, wsub, wmul, Nat.succ_eq_add_one] at *)
      have hM : i = rsM s := by omega
      have hok : rsOk s := ⟨h1, h2, h3, h4, fun h => absurd h h5, fun _ => by omega, by rw [← hM]; exact hi.1⟩
      have := rs_yes hok hM
      obtain ⟨y1, y2, y3, y4, y5⟩ := this
      refine ⟨y1, y2, y3, ?_, y5⟩
      rw [← y4, if_neg h5]
      try rfl
end Sy
end Go.Proofs.YtcgikjfloloekaaGreatDoor
namespace Go.Proofs.YtcgikjfloloekaaGreatDoor
namespace Sy
open Go Go.RowKit
set_option maxRecDepth 100000
set_option linter.unusedSimpArgs false
set_option linter.unusedVariables false
def addS (a b : Int) : Int := min (a + b) 18446744073709551615
def add_s (L : Seal) : Ent1 := (47, fun xs => match xs with | [.int .u64 a, .int .u64 b] => some (L u64Ok a ∧ L u64Ok b, .int .u64 (L2 L addS a b)) | _ => none)
theorem add_good : Good Tryz.prog (add_s std) := by
  intro xs p r h hp
  dsimp only [add_s] at h ⊢
  split at h <;> cases h
  try simp only [L2, L3, std] at hp ⊢
  rename_i a b
  refine acalls_L (T := tt) (S := noS) (lo := noA) (lb := noA) 5 (fn := Tryz.f47) rfl rfl (by kernel_rfl) (by kernel_rfl) rfl tt_ok (noS_ok _) (by kernel_rfl) ?_
  obtain ⟨⟨h0, h1⟩, ⟨h2, h3⟩⟩ : u64Ok a ∧ u64Ok b := hp
  (intro L P1 Q1 hL hP hQ; cbv; subst hL; simp only [L2, L3, std, sat_need, sat_must, sat_ite, sat_done, sat_yes, sat_ex, sat_all, sat_sup, sat_and, sat_fail]; subst hQ)
  (simp only [sySet, syB, reduceCtorEq, forall_const, Int.reduceToNat, Int.reduceAdd, Int.reduceSub, Int.cast_ofNat_Int, Int.toNat_natCast, Nat.le_eq, Nat.sub_eq, ne_eq, implies_true, wadd, wsub, wmul, Nat.succ_eq_add_one])
  unfold addS
  refine ⟨fun h => by omega, fun h => by omega⟩
structure Ss where
  ep : Int
  ver : Int
  non : Int
  nxt : Int
  rep : List UInt8
  opn : Bool
  ba : Int
  ca : Int
  tr : Int
structure Of where
  v : Int
  n : Int
  b : List UInt8
def ssA (L : Seal) (x : Ss) : AV := .agg [.int .u64 (L Ss.ep x), .int .u64 (L Ss.ver x), .int .u64 (L Ss.non x), .int .u64 (L Ss.nxt x), .str (L Ss.rep x), .bool (L Ss.opn x), .int .u64 (L Ss.ba x), .int .u64 (L Ss.ca x), .int .i64 (L Ss.tr x)]
def ofA (L : Seal) (o : Of) : AV := .agg [.int .u64 (L Of.v o), .int .u64 (L Of.n o), .str (L Of.b o)]
def mkSs (L : Seal) (a b c d : Int) (r : List UInt8) (o : Bool) (e f g : Int) : Ss := L (L (L (L (L (L (L (L (L Ss.mk a) b) c) d) r) o) e) f) g
def mkOf (L : Seal) (v n : Int) (b : List UInt8) : Of := L (L (L Of.mk v) n) b
theorem ss_fit {x : Ss} {a b c d : Int} {r : List UInt8} {o : Bool} {e f g : Int} (h : x = ⟨a, b, c, d, r, o, e, f, g⟩) : fits1 (ssA std x) (.agg [.int .u64 a, .int .u64 b, .int .u64 c, .int .u64 d, .str r, .bool o, .int .u64 e, .int .u64 f, .int .i64 g]) := by
  subst h
  show fits1 (.agg [.int .u64 a, .int .u64 b, .int .u64 c, .int .u64 d, .str r, .bool o, .int .u64 e, .int .u64 f, .int .i64 g]) _
  simp only [fits1_aggi, fits1_aggs, fits1_aggb, fits1_agg0, and_self]
theorem ss_fit0 {x : Ss} {a b c d : Int} {r : List UInt8} {o : Bool} {e f g : Int} (h : x = ⟨a, b, c, d, r, o, e, f, g⟩) : fits (ssA std x) (.agg [.int .u64 a, .int .u64 b, .int .u64 c, .int .u64 d, .str r, .bool o, .int .u64 e, .int .u64 f, .int .i64 g]) := by
  subst h
  show fits (.agg [.int .u64 a, .int .u64 b, .int .u64 c, .int .u64 d, .str r, .bool o, .int .u64 e, .int .u64 f, .int .i64 g]) _
  simp only [fits_aggi, fits1_aggi, fits1_aggs, fits1_aggb, fits1_agg0, and_self]
theorem of_fit {x : Of} {v n : Int} {b : List UInt8} (h : x = ⟨v, n, b⟩) : fits1 (ofA std x) (.agg [.int .u64 v, .int .u64 n, .str b]) := by
  subst h
  show fits1 (.agg [.int .u64 v, .int .u64 n, .str b]) _
  simp only [fits1_aggi, fits1_aggs, fits1_agg0, and_self]
theorem rd1 (a : Int) : rdI (.lst 1 1 fun i x => .int .u64 (nthI [a] i)) = [a] := rfl
theorem rd2 (a b : Int) : rdI (.lst 1 2 fun i x => .int .u64 (nthI [a, b] i)) = [a, b] := rfl
theorem rd3 (a b c : Int) : rdI (.lst 1 3 fun i x => .int .u64 (nthI [a, b, c] i)) = [a, b, c] := rfl
theorem okl1 (n : Nat) (g : Nat → Int) : okI (.lst 1 n fun i x => .int .u64 (g i)) := ⟨rfl, fun i _ => ⟨_, rfl⟩⟩
theorem msg_ok0 {a : Int} {l : List Int} (h : u64Ok a) (hl : l.length ≤ 10) (hs : ∀ x ∈ l, u64Ok x) : msgOk a [] l := ⟨h, Nat.zero_le _, by omega, hs⟩
theorem all1 {a : Int} (h : u64Ok a) : ∀ x ∈ [a], u64Ok x := fun x hx => by simp at hx; rw [hx]; exact h
theorem all2 {a b : Int} (h : u64Ok a) (h2 : u64Ok b) : ∀ x ∈ [a, b], u64Ok x := fun x hx => by
  simp at hx
  rcases hx with rfl | rfl
  · exact h
  · exact h2
theorem all3 {a b c : Int} (h : u64Ok a) (h2 : u64Ok b) (h3 : u64Ok c) : ∀ x ∈ [a, b, c], u64Ok x := fun x hx => by
  simp at hx
  rcases hx with rfl | rfl | rfl
  · exact h
  · exact h2
  · exact h3
theorem mod_ok (a : Int) : u64Ok (a % 18446744073709551616) := ⟨by omega, by omega⟩
def newS (ba ca tr v : Int) : Ss := ⟨0, v, 0, 0, [], false, ba, ca, tr⟩
def new_s (L : Seal) : Ent1 := (19, fun xs => match xs with | [.agg [.int .u64 b, .int .u64 c, .int .i64 t], .int .u64 v] => some (True, .agg [.int .u64 0, .int .u64 v, .int .u64 0, .int .u64 0, .str [], .bool false, .int .u64 b, .int .u64 c, .int .i64 t]) | _ => none)
theorem new_good : Good Tryz.prog (new_s std) := by
  intro xs p r h hp
  dsimp only [new_s] at h ⊢
  split at h <;> cases h
  try simp only [L2, L3, std] at hp ⊢
  refine acalls_L (T := tt) (S := noS) (lo := noA) (lb := noA) 5 (fn := Tryz.f19) rfl rfl (by kernel_rfl) (by kernel_rfl) rfl tt_ok (noS_ok _) (by kernel_rfl) ?_
  (intro L P1 Q1 hL hP hQ; cbv; subst hL; simp only [L2, L3, std, sat_need, sat_must, sat_ite, sat_done, sat_yes, sat_ex, sat_all, sat_sup, sat_and, sat_fail]; subst hQ)
  (simp only [sySet, syB, reduceCtorEq, forall_const, Int.reduceToNat, Int.reduceAdd, Int.reduceSub, Int.cast_ofNat_Int, Int.toNat_natCast, Nat.le_eq, Nat.sub_eq, ne_eq, implies_true, wadd, wsub, wmul, Nat.succ_eq_add_one])
def subT (e v : Int) : List UInt8 := msgT 1 e [] [v]
def tickS (x : Ss) (now : Int) : Ss := if x.opn = true ∨ now < x.nxt then x else { x with opn := true, ep := (x.ep + 1) % 18446744073709551616, non := 0, rep := [] }
def tickT (x : Ss) (now : Int) : List UInt8 := if x.opn = true ∨ now < x.nxt then [] else subT ((x.ep + 1) % 18446744073709551616) x.ver
def tick_s (L : Seal) : Ent1 := (20, fun xs => match xs with
  | [.agg [.int .u64 a, .int .u64 b, .int .u64 c, .int .u64 d, .str r, .bool o, .int .u64 e, .int .u64 f, .int .i64 g], .int .u64 now] => some (L u64Ok b, .tup [ssA L (L2 L tickS (mkSs L a b c d r o e f g) now), .str (L2 L tickT (mkSs L a b c d r o e f g) now)])
  | _ => none)
theorem tick_good : Good Tryz.prog (tick_s std) := by
  intro xs p r h hp
  dsimp only [tick_s] at h ⊢
  split at h <;> cases h
  try simp only [L2, L3, std] at hp ⊢
  rename_i a b c d r o e f g now
  refine acalls_L (T := tt) (S := fun L => sumOf [msg_s L]) (lo := noA) (lb := noA) 5 (fn := Tryz.f20) rfl rfl (by kernel_rfl) (by kernel_rfl) rfl tt_ok (sumOf_ok ⟨msg_good, trivial⟩) (by kernel_rfl) ?_
  (intro L P1 Q1 hL hP hQ; cbv; subst hL; simp only [L2, L3, std, sat_need, sat_must, sat_ite, sat_done, sat_yes, sat_ex, sat_all, sat_sup, sat_and, sat_fail]; subst hQ)
  (simp only [sySet, syB, reduceCtorEq, forall_const, Int.reduceToNat, Int.reduceAdd, Int.reduceSub, Int.cast_ofNat_Int, Int.toNat_natCast, Nat.le_eq, Nat.sub_eq, ne_eq, implies_true, wadd, wsub, wmul, Nat.succ_eq_add_one])
  have eX : mkSs std a b c d r o e f g = ⟨a, b, c, d, r, o, e, f, g⟩ := rfl
  rw [eX]
  refine ⟨fun h => ⟨ss_fit (if_pos (.inl h)), (if_pos (.inl h)).symm⟩, fun h => ⟨fun h1 => ⟨ss_fit (if_pos (.inr h1)), (if_pos (.inr h1)).symm⟩, fun h1 => ?_⟩⟩
  have hn : ¬ (o = true ∨ now < d) := by
    rintro (h2 | h2)
    · rw [h] at h2; cases h2
    · omega
  rw [rd1]
  exact ⟨⟨okl1 _ _, msg_ok0 (mod_ok _) (by simp) (all1 hp)⟩, ss_fit (if_neg hn), (if_neg hn).symm⟩
def lostS (x : Ss) (now : Int) : Ss := if x.opn = true then { x with opn := false, nxt := addS now (dlyZ x.ba x.ca x.tr), tr := nxtT x.tr } else x
def lost_s (L : Seal) : Ent1 := (23, fun xs => match xs with
  | [.agg [.int .u64 a, .int .u64 b, .int .u64 c, .int .u64 d, .str r, .bool o, .int .u64 e, .int .u64 f, .int .i64 g], .int .u64 now] => some (L u64Ok now ∧ L u64Ok e ∧ L u64Ok f ∧ L (fun t : Int => t ≤ 1000000) g, ssA L (L2 L lostS (mkSs L a b c d r o e f g) now))
  | _ => none)
theorem dly_ok {b c t : Int} (h1 : u64Ok c) : u64Ok (dlyZ b c t) := by
  obtain ⟨h1, h2⟩ := h1
  unfold dlyZ u64Ok
  split
  · omega
  · split
    · omega
    · have : 0 ≤ wshl .u64 b (max t 0) := by
        unfold wshl
        rw [w_u64]
        exact Int.emod_nonneg _ (by decide)
      omega
theorem lost_good : Good Tryz.prog (lost_s std) := by
  intro xs p r h hp
  dsimp only [lost_s] at h ⊢
  split at h <;> cases h
  try simp only [L2, L3, std] at hp ⊢
  rename_i a b c d r o e f g now
  refine acalls_L (T := tt) (S := fun L => sumOf [dly_s L, add_s L, wnext_s L]) (lo := noA) (lb := noA) 5 (fn := Tryz.f23) rfl rfl (by kernel_rfl) (by kernel_rfl) rfl tt_ok (sumOf_ok ⟨dly_good, add_good, wnext_good, trivial⟩) (by kernel_rfl) ?_
  obtain ⟨p1, p2, p3, p4⟩ : u64Ok now ∧ u64Ok e ∧ u64Ok f ∧ g ≤ 1000000 := hp
  intro L P' Q' hL hP hQ
  (cbv; try simp only [sat_need, sat_must, sat_ite, sat_done, sat_yes, sat_ex, sat_all, sat_sup, sat_and, sat_fail, true_and, and_true])
  refine ⟨fun h => ⟨?_, ⟨?_, ?_⟩, ?_, ?_⟩, fun h => ?_⟩
  · subst hL; exact p2
  · subst hL; exact p1
  · subst hL; exact dly_ok p3
  · subst hL; exact p4
  · subst hL; subst hQ; exact ss_fit0 (if_pos h)
  · subst hL; subst hQ; exact ss_fit0 (if_neg (by show ¬ o = true; rw [h]; decide))
noncomputable def takE (x : Ss) (s : List UInt8) : Int :=
  if rsE s ≠ 0 then rsE s else if rsK s ≠ 2 then 10 else if x.opn = false ∨ rsP s ≠ x.ep ∨ nthI (rsI s) 1 < x.non ∨ (nthI (rsI s) 1 = x.non ∧ x.rep = []) then 18 else if nthI (rsI s) 1 = x.non then 11 else 0
noncomputable def takS (x : Ss) (s : List UInt8) : Ss := if takE x s = 0 then { x with non := nthI (rsI s) 1, rep := [], tr := 0 } else x
noncomputable def takO (x : Ss) (s : List UInt8) : Of := if takE x s = 0 then ⟨nthI (rsI s) 0, nthI (rsI s) 1, rsB s⟩ else ⟨0, 0, []⟩
noncomputable def takA (x : Ss) (s : List UInt8) : List UInt8 := if takE x s = 11 then x.rep else []
noncomputable def tak_s (L : Seal) : Ent1 := (21, fun xs => match xs with
  | [.agg [.int .u64 a, .int .u64 b, .int .u64 c, .int .u64 d, .str r, .bool o, .int .u64 e, .int .u64 f, .int .i64 g], .str s] => some (L2 L upto 900000 s, .tup [ssA L (L2 L takS (mkSs L a b c d r o e f g) s), ofA L (L2 L takO (mkSs L a b c d r o e f g) s), .str (L2 L takA (mkSs L a b c d r o e f g) s), .int .i64 (L2 L takE (mkSs L a b c d r o e f g) s)])
  | _ => none)
theorem rs_4 {s : List UInt8} (h : ¬ rsE s = 0) : rsE s = 4 := by
  unfold rsE at h ⊢
  split at h
  · exact absurd rfl h
  · rename_i hn
    exact if_neg hn
theorem rs_ok {s : List UInt8} (h : rsE s = 0) : rsOk s := by
  unfold rsE at h
  split at h
  · assumption
  · cases h
theorem rsI_len {s : List UInt8} (h : rsE s = 0) : (rsI s).length = rsM s := by
  rw [rsI, if_pos h, nnsV, List.length_map, List.length_take]
  have := (rs_ok h).2.2.2.2.2.2.1
  omega
theorem rs_len {s : List UInt8} (h : rsE s = 0) (h2 : rsK s = 2) : lenI (rsI s) = 2 := by
  show (rsI s).length = 2
  rw [rsI_len h, rsM, rsN]
  rw [rsK, if_pos h] at h2
  rw [h2]; rfl
theorem tak_good : Good Tryz.prog (tak_s std) := by
  intro xs p r h hp
  dsimp only [tak_s] at h ⊢
  split at h <;> cases h
  try simp only [L2, L3, std] at hp ⊢
  rename_i a b c d r o e f g s
  refine acalls_L (T := tt) (S := fun L => sumOf [rs_s L, wreset_s L]) (lo := noA) (lb := noA) 5 (fn := Tryz.f21) rfl rfl (by kernel_rfl) (by kernel_rfl) rfl tt_ok (sumOf_ok ⟨rs_good, wreset_good, trivial⟩) (by kernel_rfl) ?_
  (intro L P1 Q1 hL hP hQ; cbv; subst hL; simp only [L2, L3, std, sat_need, sat_must, sat_ite, sat_done, sat_yes, sat_ex, sat_all, sat_sup, sat_and, sat_fail]; subst hQ)
  (simp only [sySet, syB, reduceCtorEq, forall_const, Int.reduceToNat, Int.reduceAdd, Int.reduceSub, Int.cast_ofNat_Int, Int.toNat_natCast, Nat.le_eq, Nat.sub_eq, ne_eq, implies_true, wadd, wsub, wmul, Nat.succ_eq_add_one])
  have eX : mkSs std a b c d r o e f g = ⟨a, b, c, d, r, o, e, f, g⟩ := rfl
  rw [eX]
  have no : ∀ z, takE ⟨a, b, c, d, r, o, e, f, g⟩ s = z → z ≠ 0 → z ≠ 11 → fits1 (ssA std (takS ⟨a, b, c, d, r, o, e, f, g⟩ s)) (.agg [.int .u64 a, .int .u64 b, .int .u64 c, .int .u64 d, .str r, .bool o, .int .u64 e, .int .u64 f, .int .i64 g]) ∧
      fits1 (ofA std (takO ⟨a, b, c, d, r, o, e, f, g⟩ s)) (.agg [.int .u64 0, .int .u64 0, .str []]) ∧ [] = takA ⟨a, b, c, d, r, o, e, f, g⟩ s ∧ z = takE ⟨a, b, c, d, r, o, e, f, g⟩ s := fun z h h1 h2 =>
    ⟨ss_fit (if_neg (by rw [h]; exact h1)), of_fit (if_neg (by rw [h]; exact h1)), (if_neg (by rw [h]; exact h2)).symm, h.symm⟩
  have el : takE ⟨a, b, c, d, r, o, e, f, g⟩ s = 11 → fits1 (ssA std (takS ⟨a, b, c, d, r, o, e, f, g⟩ s)) (.agg [.int .u64 a, .int .u64 b, .int .u64 c, .int .u64 d, .str r, .bool o, .int .u64 e, .int .u64 f, .int .i64 g]) ∧
      fits1 (ofA std (takO ⟨a, b, c, d, r, o, e, f, g⟩ s)) (.agg [.int .u64 0, .int .u64 0, .str []]) ∧ r = takA ⟨a, b, c, d, r, o, e, f, g⟩ s ∧ 11 = takE ⟨a, b, c, d, r, o, e, f, g⟩ s := fun h =>
    ⟨ss_fit (if_neg (by rw [h]; decide)), of_fit (if_neg (by rw [h]; decide)), (if_pos h).symm, h.symm⟩
  have yes : takE ⟨a, b, c, d, r, o, e, f, g⟩ s = 0 → fits1 (ssA std (takS ⟨a, b, c, d, r, o, e, f, g⟩ s)) (.agg [.int .u64 a, .int .u64 b, .int .u64 (nthI (rsI s) 1), .int .u64 d, .str [], .bool o, .int .u64 e, .int .u64 f, .int .i64 0]) ∧
      fits1 (ofA std (takO ⟨a, b, c, d, r, o, e, f, g⟩ s)) (.agg [.int .u64 (nthI (rsI s) 0), .int .u64 (nthI (rsI s) 1), .str (rsB s)]) ∧ [] = takA ⟨a, b, c, d, r, o, e, f, g⟩ s ∧ 0 = takE ⟨a, b, c, d, r, o, e, f, g⟩ s := fun h =>
    ⟨ss_fit (if_pos h), of_fit (if_pos h), (if_neg (by rw [h]; decide)).symm, h.symm⟩
  generalize hE : takE ⟨a, b, c, d, r, o, e, f, g⟩ s = E at no el yes ⊢
  unfold takE at hE
  simp only at hE
  refine ⟨hp, fun h1 => ?_, fun h1 => ?_⟩
  · rw [if_pos h1] at hE
    rw [hE]
    have h2 := rs_4 h1
    exact no E rfl (by omega) (by omega)
  rw [if_neg (by simpa using h1)] at hE
  refine ⟨fun h2 => ?_, fun h2 => ?_⟩
  · rw [if_pos h2] at hE
    exact no 10 hE.symm (by decide) (by decide)
  rw [if_neg (by simpa using h2)] at hE
  have hl := rs_len h1 h2
  refine ⟨fun h3 => ?_, fun h3 => ⟨fun h4 => ?_, fun h4 => ⟨by omega, fun h5 => ?_, fun h5 => ⟨by omega, fun h6 => ⟨fun h7 => ?_, fun h7 => ?_⟩, fun h6 => ?_⟩⟩⟩⟩
  · rw [if_pos (.inl h3)] at hE
    exact no 18 hE.symm (by decide) (by decide)
  · rw [if_pos (.inr (.inl h4))] at hE
    exact no 18 hE.symm (by decide) (by decide)
  · rw [if_pos (.inr (.inr (.inl h5)))] at hE
    exact no 18 hE.symm (by decide) (by decide)
  · rw [if_pos (.inr (.inr (.inr ⟨h6, h7⟩)))] at hE
    exact no 18 hE.symm (by decide) (by decide)
  · rw [if_neg (by rintro (x | x | x | x); · rw [h3] at x; cases x
                   · exact x h4
                   · omega
                   · exact h7 x.2), if_pos h6] at hE
    exact ⟨by omega, fun _ => el hE.symm, fun x => absurd h6 x⟩
  · rw [if_neg (by rintro (x | x | x | x); · rw [h3] at x; cases x
                   · exact x h4
                   · omega
                   · exact h6 x.1), if_neg h6] at hE
    exact ⟨by omega, fun x => absurd x h6, fun _ => ⟨by omega, by omega, by omega, yes hE.symm⟩⟩
def donN (x : Ss) (o : Of) : Prop := (o.v = 0 ∧ o.n = 0 ∧ o.b = []) ∨ o.n ≠ x.non ∨ x.rep ≠ [] ∨ x.non = 0
open Classical in
noncomputable def donS (x : Ss) (o : Of) (c : Int) : Ss :=
  if donN x o then x else if c = 0 then { x with ver := o.v, rep := msgT 3 x.ep [] [o.v, o.n] } else { x with rep := msgT 4 x.ep [] [x.ver, o.n, c % 18446744073709551616] }
open Classical in
noncomputable def donT (x : Ss) (o : Of) (c : Int) : List UInt8 := if donN x o then [] else (donS x o c).rep
noncomputable def don_s (L : Seal) : Ent1 := (22, fun xs => match xs with
  | [.agg [.int .u64 a, .int .u64 b, .int .u64 c, .int .u64 d, .str r, .bool o, .int .u64 e, .int .u64 f, .int .i64 g], .agg [.int .u64 v, .int .u64 n, .str t], .int .i64 z] =>
    some (L u64Ok a ∧ L u64Ok b ∧ L u64Ok v ∧ L u64Ok n, .tup [ssA L (L3 L donS (mkSs L a b c d r o e f g) (mkOf L v n t) z), .str (L3 L donT (mkSs L a b c d r o e f g) (mkOf L v n t) z)])
  | _ => none)
theorem don_good : Good Tryz.prog (don_s std) := by
  intro xs p r h hp
  dsimp only [don_s] at h ⊢
  split at h <;> cases h
  try simp only [L2, L3, std] at hp ⊢
  rename_i a b c d r o e f g v n t z
  refine acalls_L (T := tt) (S := fun L => sumOf [msg_s L]) (lo := noA) (lb := noA) 5 (fn := Tryz.f22) rfl rfl (by kernel_rfl) (by kernel_rfl) rfl tt_ok (sumOf_ok ⟨msg_good, trivial⟩) (by kernel_rfl) ?_
  obtain ⟨p1, p2, p3, p4⟩ : u64Ok a ∧ u64Ok b ∧ u64Ok v ∧ u64Ok n := hp
  (intro L P1 Q1 hL hP hQ; cbv; subst hL; simp only [L2, L3, std, sat_need, sat_must, sat_ite, sat_done, sat_yes, sat_ex, sat_all, sat_sup, sat_and, sat_fail]; subst hQ)
  (simp only [sySet, syB, reduceCtorEq, forall_const, Int.reduceToNat, Int.reduceAdd, Int.reduceSub, Int.cast_ofNat_Int, Int.toNat_natCast, Nat.le_eq, Nat.sub_eq, ne_eq, implies_true, wadd, wsub, wmul, Nat.succ_eq_add_one])
  have eX : mkSs std a b c d r o e f g = ⟨a, b, c, d, r, o, e, f, g⟩ := rfl
  have eO : mkOf std v n t = ⟨v, n, t⟩ := rfl
  rw [eX, eO]
  have no : donN ⟨a, b, c, d, r, o, e, f, g⟩ ⟨v, n, t⟩ → fits1 (ssA std (donS ⟨a, b, c, d, r, o, e, f, g⟩ ⟨v, n, t⟩ z)) (.agg [.int .u64 a, .int .u64 b, .int .u64 c, .int .u64 d, .str r, .bool o, .int .u64 e, .int .u64 f, .int .i64 g]) ∧
      [] = donT ⟨a, b, c, d, r, o, e, f, g⟩ ⟨v, n, t⟩ z := fun h => ⟨ss_fit (if_pos h), (if_pos h).symm⟩
  refine ⟨fun h1 => no (.inl h1), fun h1 => ⟨fun h2 => no (.inr (.inl h2)), fun h2 => ⟨fun h3 => no (.inr (.inr (.inl h3))), fun h3 => ⟨fun h4 => no (.inr (.inr (.inr h4))), fun h4 => ?_⟩⟩⟩⟩
  have hn : ¬ donN ⟨a, b, c, d, r, o, e, f, g⟩ ⟨v, n, t⟩ := by
    rintro (x | x | x | x)
    · exact h1 x.1 x.2.1 x.2.2
    · exact x h2
    · exact x h3
    · exact h4 x
  refine ⟨fun h5 => ?_, fun h5 => ?_⟩
  · rw [rd2]
    have e1 : donS ⟨a, b, c, d, r, o, e, f, g⟩ ⟨v, n, t⟩ z = ⟨a, v, c, d, msgT 3 a [] [v, n], o, e, f, g⟩ := by rw [donS, if_neg hn, if_pos h5]
    exact ⟨⟨okl1 _ _, msg_ok0 p1 (by simp) (all2 p3 p4)⟩, ss_fit e1, by rw [donT, if_neg hn, e1]⟩
  · rw [rd3]
    have e1 : donS ⟨a, b, c, d, r, o, e, f, g⟩ ⟨v, n, t⟩ z = ⟨a, b, c, d, msgT 4 a [] [b, n, z % 18446744073709551616], o, e, f, g⟩ := by rw [donS, if_neg hn, if_neg h5]
    exact ⟨⟨okl1 _ _, msg_ok0 p1 (by simp) (all3 p2 p4 (mod_ok z))⟩, ss_fit e1, by rw [donT, if_neg hn, e1]⟩
end Sy
end Go.Proofs.YtcgikjfloloekaaGreatDoor
namespace Go.Proofs.YtcgikjfloloekaaGreatDoor
namespace Sy
open Go Go.RowKit
set_option maxRecDepth 100000
set_option linter.unusedSimpArgs false
set_option linter.unusedVariables false
structure Ct where
  ver : Int
  bod : List UInt8
  som : Bool
  ep : Int
  non : Int
  las : List UInt8
  tv : Int
  tc : Int
  ti : Bool
  rv : Int
  rc : Int
  ri : Bool
def ctA (L : Seal) (x : Ct) : AV := .agg [.int .u64 (L Ct.ver x), .str (L Ct.bod x), .bool (L Ct.som x), .int .u64 (L Ct.ep x), .int .u64 (L Ct.non x), .str (L Ct.las x), .int .u64 (L Ct.tv x), .int .u64 (L Ct.tc x), .bool (L Ct.ti x), .int .u64 (L Ct.rv x), .int .u64 (L Ct.rc x), .bool (L Ct.ri x)]
def mkCt (L : Seal) (a : Int) (b : List UInt8) (s : Bool) (e n : Int) (l : List UInt8) (p q : Int) (r : Bool) (t u : Int) (v : Bool) : Ct := L (L (L (L (L (L (L (L (L (L (L (L Ct.mk a) b) s) e) n) l) p) q) r) t) u) v
theorem ct_fit {x : Ct} {a : Int} {b : List UInt8} {s : Bool} {e n : Int} {l : List UInt8} {p q : Int} {r : Bool} {t u : Int} {v : Bool} (h : x = ⟨a, b, s, e, n, l, p, q, r, t, u, v⟩) :
    fits1 (ctA std x) (.agg [.int .u64 a, .str b, .bool s, .int .u64 e, .int .u64 n, .str l, .int .u64 p, .int .u64 q, .bool r, .int .u64 t, .int .u64 u, .bool v]) := by
  subst h
  show fits1 (.agg [.int .u64 a, .str b, .bool s, .int .u64 e, .int .u64 n, .str l, .int .u64 p, .int .u64 q, .bool r, .int .u64 t, .int .u64 u, .bool v]) _
  simp only [fits1_aggi, fits1_aggs, fits1_aggb, fits1_agg0, and_self]
def inc64 (n : Int) : Int := (n + 1) % 18446744073709551616
def offS (x : Ct) : Ct := { x with non := inc64 x.non, las := msgT 2 x.ep x.bod [x.ver, inc64 x.non] }
def ctOk (x : Ct) : Prop := u64Ok x.ep ∧ x.bod.length ≤ 1000000 ∧ u64Ok x.ver
def off_s (L : Seal) : Ent1 := (29, fun xs => match xs with
  | [.agg [.int .u64 a, .str b, .bool s, .int .u64 e, .int .u64 n, .str l, .int .u64 p, .int .u64 q, .bool r, .int .u64 t, .int .u64 u, .bool v]] =>
    some (L ctOk (mkCt L a b s e n l p q r t u v), .tup [ctA L (L offS (mkCt L a b s e n l p q r t u v)), .str (L Ct.las (L offS (mkCt L a b s e n l p q r t u v)))])
  | _ => none)
theorem off_good : Good Tryz.prog (off_s std) := by
  intro xs p r h hp
  dsimp only [off_s] at h ⊢
  split at h <;> cases h
  try simp only [L2, L3, std] at hp ⊢
  rename_i a b s e n l p q r t u v
  refine acalls_L (T := tt) (S := fun L => sumOf [msg_s L]) (lo := noA) (lb := noA) 5 (fn := Tryz.f29) rfl rfl (by kernel_rfl) (by kernel_rfl) rfl tt_ok (sumOf_ok ⟨msg_good, trivial⟩) (by kernel_rfl) ?_
  obtain ⟨p1, p2, p3⟩ : u64Ok e ∧ b.length ≤ 1000000 ∧ u64Ok a := hp
  (intro L P1 Q1 hL hP hQ; cbv; subst hL; simp only [L2, L3, std, sat_need, sat_must, sat_ite, sat_done, sat_yes, sat_ex, sat_all, sat_sup, sat_and, sat_fail]; subst hQ)
  (simp only [sySet, syB, reduceCtorEq, forall_const, Int.reduceToNat, Int.reduceAdd, Int.reduceSub, Int.cast_ofNat_Int, Int.toNat_natCast, Nat.le_eq, Nat.sub_eq, ne_eq, implies_true, wadd, wsub, wmul, Nat.succ_eq_add_one])
  rw [rd2]
  exact ⟨⟨okl1 _ _, p1, p2, by simp, all2 p3 (mod_ok _)⟩, ct_fit rfl, rfl⟩
def setC (x : Ct) (v : Int) (b : List UInt8) : Ct := { x with ver := v, bod := b, som := true }
def rawS (x : Ct) (v : Int) (b : List UInt8) : Ct := if x.ep = 0 then setC x v b else offS (setC x v b)
def rawT (x : Ct) (v : Int) (b : List UInt8) : List UInt8 := if x.ep = 0 then [] else (offS (setC x v b)).las
def raw_s (L : Seal) : Ent1 := (7, fun xs => match xs with
  | [.agg [.int .u64 a, .str b, .bool s, .int .u64 e, .int .u64 n, .str l, .int .u64 p, .int .u64 q, .bool r, .int .u64 t, .int .u64 u, .bool v], .int .u64 w, .str x] =>
    some (L u64Ok e ∧ L2 L upto 1000000 x ∧ L u64Ok w, .tup [ctA L (L3 L rawS (mkCt L a b s e n l p q r t u v) w x), .str (L3 L rawT (mkCt L a b s e n l p q r t u v) w x)])
  | _ => none)
theorem raw_good : Good Tryz.prog (raw_s std) := by
  intro xs p r h hp
  dsimp only [raw_s] at h ⊢
  split at h <;> cases h
  try simp only [L2, L3, std] at hp ⊢
  rename_i a b s e n l p q r t u v w x
  refine acalls_L (T := tt) (S := fun L => sumOf [off_s L]) (lo := noA) (lb := noA) 5 (fn := Tryz.f7) rfl rfl (by kernel_rfl) (by kernel_rfl) rfl tt_ok (sumOf_ok ⟨off_good, trivial⟩) (by kernel_rfl) ?_
  obtain ⟨p1, p2, p3⟩ : u64Ok e ∧ upto 1000000 x ∧ u64Ok w := hp
  (intro L P1 Q1 hL hP hQ; cbv; subst hL; simp only [L2, L3, std, sat_need, sat_must, sat_ite, sat_done, sat_yes, sat_ex, sat_all, sat_sup, sat_and, sat_fail]; subst hQ)
  (simp only [sySet, syB, reduceCtorEq, forall_const, Int.reduceToNat, Int.reduceAdd, Int.reduceSub, Int.cast_ofNat_Int, Int.toNat_natCast, Nat.le_eq, Nat.sub_eq, ne_eq, implies_true, wadd, wsub, wmul, Nat.succ_eq_add_one])
  have eX : mkCt std a b s e n l p q r t u v = ⟨a, b, s, e, n, l, p, q, r, t, u, v⟩ := rfl
  rw [eX]
  refine ⟨fun h => ⟨ct_fit (if_pos h), (if_pos h).symm⟩, fun h => ⟨⟨p1, p2, p3⟩, ct_fit (if_neg h), (if_neg h).symm⟩⟩
def newE (x : Ct) (e : Int) : Ct := { x with ep := e, non := 0, las := [] }
def subE (x : Ct) (e : Int) : Int := if e < x.ep ∨ e = 0 then 18 else 0
def subS (x : Ct) (e : Int) : Ct := if e < x.ep ∨ e = 0 ∨ e = x.ep then x else if x.som = true then offS (newE x e) else newE x e
def subA (x : Ct) (e : Int) : List UInt8 := if e < x.ep ∨ e = 0 then [] else if e = x.ep then x.las else if x.som = true then (offS (newE x e)).las else []
def subd_s (L : Seal) : Ent1 := (30, fun xs => match xs with
  | [.agg [.int .u64 a, .str b, .bool s, .int .u64 e, .int .u64 n, .str l, .int .u64 p, .int .u64 q, .bool r, .int .u64 t, .int .u64 u, .bool v], .int .u64 w] =>
    some (L u64Ok w ∧ L2 L upto 1000000 b ∧ L u64Ok a, .tup [ctA L (L2 L subS (mkCt L a b s e n l p q r t u v) w), .str (L2 L subA (mkCt L a b s e n l p q r t u v) w), .int .i64 (L2 L subE (mkCt L a b s e n l p q r t u v) w)])
  | _ => none)
theorem subd_good : Good Tryz.prog (subd_s std) := by
  intro xs p r h hp
  dsimp only [subd_s] at h ⊢
  split at h <;> cases h
  try simp only [L2, L3, std] at hp ⊢
  rename_i a b s e n l p q r t u v w
  refine acalls_L (T := tt) (S := fun L => sumOf [off_s L]) (lo := noA) (lb := noA) 5 (fn := Tryz.f30) rfl rfl (by kernel_rfl) (by kernel_rfl) rfl tt_ok (sumOf_ok ⟨off_good, trivial⟩) (by kernel_rfl) ?_
  obtain ⟨p1, p2, p3⟩ : u64Ok w ∧ upto 1000000 b ∧ u64Ok a := hp
  (intro L P1 Q1 hL hP hQ; cbv; subst hL; simp only [L2, L3, std, sat_need, sat_must, sat_ite, sat_done, sat_yes, sat_ex, sat_all, sat_sup, sat_and, sat_fail]; subst hQ)
  (simp only [sySet, syB, reduceCtorEq, forall_const, Int.reduceToNat, Int.reduceAdd, Int.reduceSub, Int.cast_ofNat_Int, Int.toNat_natCast, Nat.le_eq, Nat.sub_eq, ne_eq, implies_true, wadd, wsub, wmul, Nat.succ_eq_add_one])
  have eX : mkCt std a b s e n l p q r t u v = ⟨a, b, s, e, n, l, p, q, r, t, u, v⟩ := rfl
  have eY : mkCt std a b s w 0 [] p q r t u v = ⟨a, b, s, w, 0, [], p, q, r, t, u, v⟩ := rfl
  rw [eX, eY]
  refine ⟨fun h => ⟨ct_fit (if_pos (.inl h)), (if_pos (.inl h)).symm, (if_pos (.inl h)).symm⟩, fun h => ⟨fun h1 => ⟨ct_fit (if_pos (.inr (.inl h1))), (if_pos (.inr h1)).symm, (if_pos (.inr h1)).symm⟩, fun h1 => ?_⟩⟩
  have hn : ¬ (w < e ∨ w = 0) := by
    rintro (q | q)
    · omega
    · exact h1 q
  refine ⟨fun h2 => ⟨ct_fit (if_pos (.inr (.inr h2))), ?_, (if_neg hn).symm⟩, fun h2 => ?_⟩
  · unfold subA
    rw [if_neg hn, if_pos h2]
  have hm : ¬ (w < e ∨ w = 0 ∨ w = e) := by
    rintro (q | q | q)
    · omega
    · exact h1 q
    · exact h2 q
  refine ⟨fun h3 => ⟨ct_fit ?_, ?_, (if_neg hn).symm⟩, fun h3 => ⟨⟨p1, p2, p3⟩, ct_fit ?_, ?_, (if_neg hn).symm⟩⟩
  · unfold subS
    rw [if_neg hm, if_neg (by show ¬ s = true; rw [h3]; decide)]; rfl
  · unfold subA
    rw [if_neg hn, if_neg h2, if_neg (by show ¬ s = true; rw [h3]; decide)]
  · unfold subS
    rw [if_neg hm, if_pos h3]; rfl
  · unfold subA
    rw [if_neg hn, if_neg h2, if_pos h3]; rfl
theorem sub_bad {x : Ct} {e : Int} (h : ¬ subE x e = 0) : subS x e = x ∧ subA x e = [] := by
  unfold subE at h
  split at h
  · rename_i q
    refine ⟨if_pos ?_, if_pos q⟩
    rcases q with q | q
    · exact .inl q
    · exact .inr (.inl q)
  · exact absurd rfl h
theorem rs_lens {s : List UInt8} (h : rsE s = 0) (h1 : ¬ rsK s = 1) : 2 ≤ (lenI (rsI s) : Int) ∧ (¬ rsK s = 2 → ¬ rsK s = 3 → (lenI (rsI s) : Int) = 3) := by
  have hl : lenI (rsI s) = rsM s := rsI_len h
  have hN := (rs_ok h).2.1
  rw [rsK, if_pos h] at h1
  rw [hl, rsK, if_pos h, rsM]
  unfold rsN numsZ at hN ⊢
  rw [if_neg h1] at hN ⊢
  split
  · rename_i q
    exact ⟨by decide, fun a b => by rcases q with q | q; · exact absurd q a
                                    · exact absurd q b⟩
  · rename_i q
    rw [if_neg q] at hN
    split
    · exact ⟨by decide, fun _ _ => rfl⟩
    · rename_i q2
      rw [if_neg q2] at hN
      exact absurd rfl hN
theorem rsP_ok (s : List UInt8) : u64Ok (rsP s) := by
  unfold rsP paP nxP
  split
  · split
    · split
      · exact nxP_bound s
      · exact ⟨by decide, by decide⟩
    · exact ⟨by decide, by decide⟩
  · exact ⟨by decide, by decide⟩
noncomputable def ctE (x : Ct) (s : List UInt8) : Int :=
  if rsE s ≠ 0 then rsE s else if rsK s = 1 then subE x (rsP s) else if rsK s = 2 then 10 else if rsP s ≠ x.ep ∨ nthI (rsI s) 1 < 1 ∨ x.non < nthI (rsI s) 1 then 18 else 0
noncomputable def ctS (x : Ct) (s : List UInt8) : Ct :=
  if ctE x s ≠ 0 then x else if rsK s = 1 then subS x (rsP s) else if rsK s = 3 then { x with tv := nthI (rsI s) 0, tc := 0, ti := true } else { x with rv := nthI (rsI s) 0, rc := nthI (rsI s) 2, ri := true }
noncomputable def ctT (x : Ct) (s : List UInt8) : List UInt8 := if ctE x s ≠ 0 then [] else if rsK s = 1 then subA x (rsP s) else []
noncomputable def ctk_s (L : Seal) : Ent1 := (8, fun xs => match xs with
  | [.agg [.int .u64 a, .str b, .bool s, .int .u64 e, .int .u64 n, .str l, .int .u64 p, .int .u64 q, .bool r, .int .u64 t, .int .u64 u, .bool v], .str w] =>
    some (L2 L upto 900000 w ∧ L2 L upto 1000000 b ∧ L u64Ok a, .tup [ctA L (L2 L ctS (mkCt L a b s e n l p q r t u v) w), .str (L2 L ctT (mkCt L a b s e n l p q r t u v) w), .int .i64 (L2 L ctE (mkCt L a b s e n l p q r t u v) w)])
  | _ => none)
theorem ctk_good : Good Tryz.prog (ctk_s std) := by
  intro xs p r h hp
  dsimp only [ctk_s] at h ⊢
  split at h <;> cases h
  try simp only [L2, L3, std] at hp ⊢
  rename_i a b s e n l p q r t u v w
  refine acalls_L (T := tt) (S := fun L => sumOf [rs_s L, subd_s L]) (lo := noA) (lb := noA) 5 (fn := Tryz.f8) rfl rfl (by kernel_rfl) (by kernel_rfl) rfl tt_ok (sumOf_ok ⟨rs_good, subd_good, trivial⟩) (by kernel_rfl) ?_
  obtain ⟨p1, p2, p3⟩ : upto 900000 w ∧ upto 1000000 b ∧ u64Ok a := hp
  (intro L P1 Q1 hL hP hQ; cbv; subst hL; simp only [L2, L3, std, sat_need, sat_must, sat_ite, sat_done, sat_yes, sat_ex, sat_all, sat_sup, sat_and, sat_fail]; subst hQ)
  (simp only [sySet, syB, reduceCtorEq, forall_const, Int.reduceToNat, Int.reduceAdd, Int.reduceSub, Int.cast_ofNat_Int, Int.toNat_natCast, Nat.le_eq, Nat.sub_eq, ne_eq, implies_true, wadd, wsub, wmul, Nat.succ_eq_add_one])
  have eX : mkCt std a b s e n l p q r t u v = ⟨a, b, s, e, n, l, p, q, r, t, u, v⟩ := rfl
  rw [eX]
  have no : ∀ z, ctE ⟨a, b, s, e, n, l, p, q, r, t, u, v⟩ w = z → z ≠ 0 → ¬ rsK w = 1 ∨ ¬ rsE w = 0 → fits1 (ctA std (ctS ⟨a, b, s, e, n, l, p, q, r, t, u, v⟩ w)) (.agg [.int .u64 a, .str b, .bool s, .int .u64 e, .int .u64 n, .str l, .int .u64 p, .int .u64 q, .bool r, .int .u64 t, .int .u64 u, .bool v]) ∧
      [] = ctT ⟨a, b, s, e, n, l, p, q, r, t, u, v⟩ w ∧ z = ctE ⟨a, b, s, e, n, l, p, q, r, t, u, v⟩ w := fun z h h1 h2 =>
    ⟨ct_fit (if_pos (by rw [h]; exact h1)), (if_pos (by rw [h]; exact h1)).symm, h.symm⟩
  refine ⟨p1, fun h1 => ?_, fun h1 => ⟨fun h2 => ?_, fun h2 => ⟨fun h3 => ?_, fun h3 => ⟨fun h4 => ?_, fun h4 => ?_⟩⟩⟩⟩
  · refine no _ (if_pos h1) h1 (.inr h1)
  · have e1 : ctE ⟨a, b, s, e, n, l, p, q, r, t, u, v⟩ w = subE ⟨a, b, s, e, n, l, p, q, r, t, u, v⟩ (rsP w) := by rw [ctE, if_neg (by rw [h1]; decide), if_pos h2]
    have e2 : ctS ⟨a, b, s, e, n, l, p, q, r, t, u, v⟩ w = subS ⟨a, b, s, e, n, l, p, q, r, t, u, v⟩ (rsP w) := by
      rw [ctS, e1]
      by_cases q : subE ⟨a, b, s, e, n, l, p, q, r, t, u, v⟩ (rsP w) = 0
      · rw [if_neg (by rw [q]; decide), if_pos h2]
      · rw [if_pos q, (sub_bad q).1]
    have e3 : ctT ⟨a, b, s, e, n, l, p, q, r, t, u, v⟩ w = subA ⟨a, b, s, e, n, l, p, q, r, t, u, v⟩ (rsP w) := by
      rw [ctT, e1]
      by_cases q : subE ⟨a, b, s, e, n, l, p, q, r, t, u, v⟩ (rsP w) = 0
      · rw [if_neg (by rw [q]; decide), if_pos h2]
      · rw [if_pos q, (sub_bad q).2]
    exact ⟨⟨rsP_ok w, p2, p3⟩, ct_fit e2, e3.symm, e1.symm⟩
  · exact no 10 (by rw [ctE, if_neg (by rw [h1]; decide), if_neg h2, if_pos h3]) (by decide) (.inl h2)
  · exact no 18 (by rw [ctE, if_neg (by rw [h1]; decide), if_neg h2, if_neg h3, if_pos (.inl h4)]) (by decide) (.inl h2)
  obtain ⟨l2, l3⟩ := rs_lens h1 h2
  refine ⟨⟨by omega, by omega⟩, fun h5 => ?_, fun h5 => ⟨⟨by omega, by omega⟩, fun h6 => ?_, fun h6 => ?_⟩⟩
  · exact no 18 (by rw [ctE, if_neg (by rw [h1]; decide), if_neg h2, if_neg h3, if_pos (.inr (.inl h5))]) (by decide) (.inl h2)
  · exact no 18 (by rw [ctE, if_neg (by rw [h1]; decide), if_neg h2, if_neg h3, if_pos (.inr (.inr h6))]) (by decide) (.inl h2)
  have e1 : ctE ⟨a, b, s, e, n, l, p, q, r, t, u, v⟩ w = 0 := by
    rw [ctE, if_neg (by rw [h1]; decide), if_neg h2, if_neg h3, if_neg]
    rintro (q | q | q)
    · exact q h4
    · omega
    · have q : n < nthI (rsI w) 1 := q
      omega
  have e3 : ctT ⟨a, b, s, e, n, l, p, q, r, t, u, v⟩ w = [] := by rw [ctT, if_neg (by rw [e1]; decide), if_neg h2]
  refine ⟨fun h7 => ⟨⟨by omega, by omega⟩, ct_fit ?_, e3.symm, e1.symm⟩, fun h7 => ?_⟩
  · rw [ctS, if_neg (by rw [e1]; decide), if_neg h2, if_pos h7]
  · have l3 := l3 h3 h7
    refine ⟨⟨by omega, by omega⟩, ⟨by omega, by omega⟩, ct_fit ?_, e3.symm, e1.symm⟩
    rw [ctS, if_neg (by rw [e1]; decide), if_neg h2, if_neg h7]
def cep_s (L : Seal) : Ent1 := (28, fun xs => match xs with
  | [.agg [.int .u64 a, .str b, .bool s, .int .u64 e, .int .u64 n, .str l, .int .u64 p, .int .u64 q, .bool r, .int .u64 t, .int .u64 u, .bool v]] => some (True, .int .u64 e)
  | _ => none)
theorem cep_good : Good Tryz.prog (cep_s std) := by
  intro xs p r h hp
  dsimp only [cep_s] at h ⊢
  split at h <;> cases h
  try simp only [L2, L3, std] at hp ⊢
  refine acalls_L (T := tt) (S := noS) (lo := noA) (lb := noA) 5 (fn := Tryz.f28) rfl rfl (by kernel_rfl) (by kernel_rfl) rfl tt_ok (noS_ok _) (by kernel_rfl) ?_
  (intro L P1 Q1 hL hP hQ; cbv; subst hL; simp only [L2, L3, std, sat_need, sat_must, sat_ite, sat_done, sat_yes, sat_ex, sat_all, sat_sup, sat_and, sat_fail]; subst hQ)
  (simp only [sySet, syB, reduceCtorEq, forall_const, Int.reduceToNat, Int.reduceAdd, Int.reduceSub, Int.cast_ofNat_Int, Int.toNat_natCast, Nat.le_eq, Nat.sub_eq, ne_eq, implies_true, wadd, wsub, wmul, Nat.succ_eq_add_one])
def ctak_s (L : Seal) : Ent1 := (24, fun xs => match xs with
  | [.agg [.int .u64 a, .str b, .bool s, .int .u64 e, .int .u64 n, .str l, .int .u64 p, .int .u64 q, .bool r, .int .u64 t, .int .u64 u, .bool v]] => some (True, .tup [.int .u64 p, .bool r])
  | _ => none)
theorem ctak_good : Good Tryz.prog (ctak_s std) := by
  intro xs p r h hp
  dsimp only [ctak_s] at h ⊢
  split at h <;> cases h
  try simp only [L2, L3, std] at hp ⊢
  refine acalls_L (T := tt) (S := noS) (lo := noA) (lb := noA) 5 (fn := Tryz.f24) rfl rfl (by kernel_rfl) (by kernel_rfl) rfl tt_ok (noS_ok _) (by kernel_rfl) ?_
  (intro L P1 Q1 hL hP hQ; cbv; subst hL; simp only [L2, L3, std, sat_need, sat_must, sat_ite, sat_done, sat_yes, sat_ex, sat_all, sat_sup, sat_and, sat_fail]; subst hQ)
  (simp only [sySet, syB, reduceCtorEq, forall_const, Int.reduceToNat, Int.reduceAdd, Int.reduceSub, Int.cast_ofNat_Int, Int.toNat_natCast, Nat.le_eq, Nat.sub_eq, ne_eq, implies_true, wadd, wsub, wmul, Nat.succ_eq_add_one])
def cref_s (L : Seal) : Ent1 := (25, fun xs => match xs with
  | [.agg [.int .u64 a, .str b, .bool s, .int .u64 e, .int .u64 n, .str l, .int .u64 p, .int .u64 q, .bool r, .int .u64 t, .int .u64 u, .bool v]] => some (True, .tup [.int .u64 t, .int .u64 u, .bool v])
  | _ => none)
theorem cref_good : Good Tryz.prog (cref_s std) := by
  intro xs p r h hp
  dsimp only [cref_s] at h ⊢
  split at h <;> cases h
  try simp only [L2, L3, std] at hp ⊢
  refine acalls_L (T := tt) (S := noS) (lo := noA) (lb := noA) 5 (fn := Tryz.f25) rfl rfl (by kernel_rfl) (by kernel_rfl) rfl tt_ok (noS_ok _) (by kernel_rfl) ?_
  (intro L P1 Q1 hL hP hQ; cbv; subst hL; simp only [L2, L3, std, sat_need, sat_must, sat_ite, sat_done, sat_yes, sat_ex, sat_all, sat_sup, sat_and, sat_fail]; subst hQ)
  (simp only [sySet, syB, reduceCtorEq, forall_const, Int.reduceToNat, Int.reduceAdd, Int.reduceSub, Int.cast_ofNat_Int, Int.toNat_natCast, Nat.le_eq, Nat.sub_eq, ne_eq, implies_true, wadd, wsub, wmul, Nat.succ_eq_add_one])
end Sy
end Go.Proofs.YtcgikjfloloekaaGreatDoor
namespace Go.Proofs.YtcgikjfloloekaaGreatDoor
namespace Sy
open Go Go.RowKit
set_option maxRecDepth 100000
set_option linter.unusedSimpArgs false
set_option linter.unusedVariables false
theorem numVs_bare : ∀ l : List Int, bareLs (numVs l) = true
  | [] => by rw [numVs, List.map_nil, bareLs]
  | x :: l => by
    have := numVs_bare l
    rw [numVs, List.map_cons, bareLs, show l.map numV = numVs l from rfl, this, numV, bareV, if_pos rfl]; rfl
theorem bareLs_app (a b : List CV) : bareLs (a ++ b) = (bareLs a && bareLs b) := by
  induction a with
  | nil => rw [List.nil_append, bareLs]; rfl
  | cons x l ih => rw [List.cons_append, bareLs, bareLs, ih, Bool.and_assoc]
theorem txt_bare (b : List UInt8) : bareLs [txtV b] = true := by rw [bareLs, bareLs, txtV, bareV, if_neg (by decide), if_pos rfl]; rfl
theorem items_bare (k : Int) (b : List UInt8) (l : List Int) : bareLs (itemsV k b l) = true := by
  unfold itemsV
  split
  · rw [bareLs_app, numVs_bare, txt_bare]; rfl
  · exact numVs_bare l
theorem msgV_bare (k : Int) (b : List UInt8) (l : List Int) : bareV (msgV k b l) = true := by
  rw [msgV, rowV, bareV, if_neg (by decide), if_neg (by decide), if_pos rfl, items_bare]; rfl
theorem numVs_deep : ∀ l : List Int, deepLs (numVs l) = 0
  | [] => by rw [numVs, List.map_nil, deepLs]
  | x :: l => by
    have := numVs_deep l
    rw [numVs, List.map_cons, deepLs, show l.map numV = numVs l from rfl, this, numV, deepV, if_neg (by decide)]; rfl
theorem items_deep (k : Int) (b : List UInt8) (l : List Int) : deepLs (itemsV k b l) = 0 := by
  unfold itemsV
  split
  · rw [deepLs_app, numVs_deep, deepLs, deepLs, txtV, deepV, if_neg (by decide)]; rfl
  · exact numVs_deep l
theorem msgV_deep (k : Int) (b : List UInt8) (l : List Int) : deepV (msgV k b l) = 1 := by
  rw [msgV, rowV, deepV, if_pos rfl, items_deep]; rfl
theorem msgV_len {k : Int} {b : List UInt8} {l : List Int} (hb : b.length ≤ 8000) (hl : l.length ≤ 10) (hs : ∀ x ∈ l, shortOk x) : (textV (msgV k b l)).length ≤ 8192 := by
  obtain ⟨w, t⟩ := numVs_wf hs
  have sb : shortOk (b.length : Nat) := ⟨by omega, by omega⟩
  have tl := shortZ_len sb
  have il : (itemsV k b l).length ≤ l.length + 1 := by
    unfold itemsV
    split <;> simp [numVs_len]
  have sl : shortOk ((itemsV k b l).length : Nat) := ⟨by omega, by omega⟩
  have tl2 := shortZ_len sl
  have ws : (textLs (itemsV k b l)).length ≤ 11 * l.length + b.length + 11 := by
    unfold itemsV
    split
    · rw [textLs_app, textLs, textLs, txtV, textV_mk, if_neg (by decide), if_pos rfl]
      simp only [List.length_append, List.length_cons, byteK, List.length_nil]
      omega
    · omega
  rw [msgV, rowV, textV_mk, if_neg (by decide), if_neg (by decide)]
  simp only [List.length_append, List.length_cons, byteK, List.length_nil]
  omega
structure ReadIs (t : List UInt8) (k e : Int) (b : List UInt8) (l : List Int) : Prop where
  E : rsE t = 0
  K : rsK t = k
  P : rsP t = e
  I : rsI t = l
  B : rsB t = if k = 2 then b else []
  len : t.length ≤ 8300
  some : t ≠ []
theorem nns_num (l : List Int) : nnsV (numVs l) = l := by
  rw [nnsV, numVs, List.map_map]
  exact List.map_id' l
theorem nth_num {l : List Int} {i : Nat} (h : i < l.length) : nthV (numVs l) i = numV l[i] := by
  rw [nthV, numVs, List.getD_eq_getElem?_getD, List.getElem?_map, List.getElem?_eq_getElem h]; rfl
theorem read_msg {k e : Int} {b : List UInt8} {l : List Int} (hk : numsZ k = l.length) (k1 : 1 ≤ k) (k2 : k ≤ 4) (he : u64Ok e) (hb : b.length ≤ 8000) (hs : ∀ x ∈ l, shortOk x) : ReadIs (msgT k e b l) k e b l := by
  have hl : l.length ≤ 3 := by have := nums_le k; omega
  have tl := msgV_len (k := k) hb (by omega) hs
  have hE : putE (msgV k b l) = 0 := by rw [putE, if_pos (msgV_bare _ _ _), if_neg (by rw [msgV_deep]; omega), if_neg (by omega)]
  have hT : putT (msgV k b l) = textV (msgV k b l) := by rw [putT, if_pos hE]
  have ht : msgT k e b l = byT k e (textV (msgV k b l)) := by rw [msgT, if_pos hE, hT]
  obtain ⟨m1, m2, m3⟩ := msgV_ok (e := e) (k := k) (b := b) (l := l) ⟨he, by omega, by omega, hs⟩
  obtain ⟨g1, g2⟩ := get_of m2.1 (msgV_bare k b l) (by rw [msgV_deep]; omega) tl
  have bE : byE k (textV (msgV k b l)) = 0 := by rw [byE, if_neg (by omega), if_neg (by omega)]
  have G := frame_is k e _ [] bE he.1 he.2
  rw [List.append_nil, ← ht] at G
  have pe : paE (msgT k e b l) = 0 := by rw [paE, if_neg (fun h => h.2 G.R), G.E]
  have pK : paK (msgT k e b l) = k := by rw [paK, if_pos pe, G.K]
  have pP : paP (msgT k e b l) = e := by rw [paP, if_pos pe, G.P]
  have pB : paB (msgT k e b l) = textV (msgV k b l) := by rw [paB, if_pos pe, G.B]
  have gV : getV (paB (msgT k e b l)) = msgV k b l := by rw [pB, g1]
  have eL : rsL (msgT k e b l) = itemsV k b l := by rw [rsL, gV]; rfl
  have eN : rsN (msgT k e b l) = l.length := by rw [rsN, pK, hk]
  have eM : rsM (msgT k e b l) = l.length := by rw [rsM, eN]; simp
  have hi : ∀ j, j < l.length → nthV (itemsV k b l) j = nthV (numVs l) j := by
    intro j hj
    unfold itemsV
    split
    · exact nthV_app_l (by rw [numVs_len]; exact hj)
    · rfl
  have il : (itemsV k b l).length = if k = 2 then l.length + 1 else l.length := by
    unfold itemsV
    split
    · simp [numVs_len]
    · exact numVs_len l
  have ok : rsOk (msgT k e b l) := by
    refine ⟨pe, ?_, by rw [pB]; exact g2, by rw [gV]; rfl, ?_, ?_, ?_⟩
    · rw [rsN, pK]
      unfold numsZ
      split
      · decide
      · split
        · decide
        · split <;> omega
    · intro h2
      rw [pK] at h2
      rw [eL, eM, eN, il, if_pos h2]
      refine ⟨by omega, ?_⟩
      rw [itemsV, if_pos h2, ← numVs_len l, nthV_app_r]; rfl
    · intro h2
      rw [pK] at h2
      rw [eL, eN, il, if_neg h2]
    · rw [eL, eM]
      refine ⟨by rw [il]; split <;> omega, fun j hj => ?_⟩
      rw [hi j hj, nth_num hj]; rfl
  have rE : rsE (msgT k e b l) = 0 := if_pos ok
  have hlen := G.len
  simp only [List.length_nil, Nat.add_zero] at hlen
  refine ⟨rE, by rw [rsK, if_pos rE, pK], by rw [rsP, if_pos rE, pP], ?_, ?_, by omega, ?_⟩
  · rw [rsI, if_pos rE, eL, eM]
    unfold itemsV
    split
    · rw [List.take_left' (numVs_len l), nns_num]
    · rw [List.take_of_length_le (by rw [numVs_len]; omega), nns_num]
  · rw [rsB, pK]
    by_cases h2 : k = 2
    · rw [if_pos ⟨rE, h2⟩, if_pos h2, eL, eM, itemsV, if_pos h2, ← numVs_len l, nthV_app_r]; rfl
    · rw [if_neg (fun h => h2 h.2), if_neg h2]
  · intro h
    rw [h] at hlen
    simp at hlen
theorem awake19_ac : ACalls Tryz.prog 51 [] (.bool true) := by
  refine acalls_L (T := tt) (S := fun L => sumOf [new_s L, tick_s L, rs_s L, tru 80, tru 81, tru 82]) (lo := noA) (lb := noA) 5 (fn := Tryz.f51) rfl rfl (by kernel_rfl) (by kernel_rfl) rfl tt_ok (sumOf_ok ⟨new_good, tick_good, rs_good, tru_good Awake07_ac, tru_good Awake08_ac, tru_good Awake18_ac, trivial⟩) (by kernel_rfl) ?_
  (intro L P1 Q1 hL hP hQ; cbv; subst hL; simp only [L2, L3, std, sat_need, sat_must, sat_ite, sat_done, sat_yes, sat_ex, sat_all, sat_sup, sat_and, sat_fail]; subst hQ)
  (simp only [sySet, syB, reduceCtorEq, forall_const, Int.reduceToNat, Int.reduceAdd, Int.reduceSub, Int.cast_ofNat_Int, Int.toNat_natCast, Nat.le_eq, Nat.sub_eq, ne_eq, implies_true, wadd, wsub, wmul, Nat.succ_eq_add_one])
  have tT : tickT ⟨0, 5, 0, 0, [], false, 1, 8, 0⟩ 0 = msgT 1 1 [] [5] := if_neg (by simp)
  have tS : (tickS ⟨0, 5, 0, 0, [], false, 1, 8, 0⟩ 0).opn = true := by rw [tickS, if_neg (by simp)]
  have R := read_msg (k := 1) (e := 1) (b := []) (l := [5]) rfl (by decide) (by decide) ⟨by decide, by decide⟩ (by decide) (by intro x hx; simp at hx; subst hx; exact ⟨by decide, by decide⟩)
  rw [tT, tS, R.E, R.K, R.P, R.I]
  have hl := R.len
  exact ⟨⟨by decide, by decide⟩, by unfold upto; omega, fun _ => ⟨fun _ => ⟨fun _ => ⟨fun _ => ⟨fun _ => ⟨⟨by omega, by decide⟩, rfl⟩, rfl⟩, rfl⟩, rfl⟩, rfl⟩, by decide⟩
end Sy
end Go.Proofs.YtcgikjfloloekaaGreatDoor
namespace Go.Proofs.YtcgikjfloloekaaGreatDoor
namespace Sy
open Go Go.RowKit
set_option maxRecDepth 100000
set_option linter.unusedSimpArgs false
set_option linter.unusedVariables false
theorem ctk_sub {x : Ct} {e v : Int} (he : u64Ok e) (hv : u64Ok v) : ctE x (msgT 1 e [] [v]) = subE x e ∧ ctS x (msgT 1 e [] [v]) = subS x e ∧ ctT x (msgT 1 e [] [v]) = subA x e := by
  have R := read_msg (k := 1) (e := e) (b := []) (l := [v]) rfl (by decide) (by decide) he (by decide) (all1 hv)
  have h0 : ctE x (msgT 1 e [] [v]) = subE x e := by rw [ctE, if_neg (by rw [R.E]; decide), if_pos R.K, R.P]
  refine ⟨h0, ?_, ?_⟩
  · rw [ctS, h0, R.K, R.P]
    by_cases h : subE x e = 0
    · rw [if_neg (by rw [h]; decide), if_pos rfl]
    · rw [if_pos h]
      unfold subE at h
      unfold subS
      rw [if_pos]
      split at h
      · rename_i q
        rcases q with q | q
        · exact .inl q
        · exact .inr (.inl q)
      · exact absurd rfl h
  · rw [ctT, h0, R.K, R.P]
    by_cases h : subE x e = 0
    · rw [if_neg (by rw [h]; decide), if_pos rfl]
    · rw [if_pos h]
      unfold subE at h
      unfold subA
      rw [if_pos]
      split at h
      · assumption
      · exact absurd rfl h
theorem ctk_ack {x : Ct} {v n : Int} (he : u64Ok x.ep) (hv : u64Ok v) (hn : u64Ok n) (h1 : 1 ≤ n) (h2 : n ≤ x.non) :
    ctE x (msgT 3 x.ep [] [v, n]) = 0 ∧ ctS x (msgT 3 x.ep [] [v, n]) = { x with tv := v, tc := 0, ti := true } ∧ ctT x (msgT 3 x.ep [] [v, n]) = [] := by
  have R := read_msg (k := 3) (e := x.ep) (b := []) (l := [v, n]) rfl (by decide) (by decide) he (by decide) (all2 hv hn)
  have e0 : nthI [v, n] 0 = v := rfl
  have e1 : nthI [v, n] 1 = n := rfl
  have h0 : ctE x (msgT 3 x.ep [] [v, n]) = 0 := by
    rw [ctE, if_neg (by rw [R.E]; decide), if_neg (by rw [R.K]; decide), if_neg (by rw [R.K]; decide), if_neg]
    rw [R.P, R.I, e1]
    rintro (q | q | q)
    · exact q rfl
    · omega
    · omega
  refine ⟨h0, ?_, ?_⟩
  · rw [ctS, if_neg (by rw [h0]; decide), if_neg (by rw [R.K]; decide), if_pos R.K, R.I, e0]
  · rw [ctT, if_neg (by rw [h0]; decide), if_neg (by rw [R.K]; decide)]
theorem ctk_nack {x : Ct} {v n c : Int} (he : u64Ok x.ep) (hv : u64Ok v) (hn : u64Ok n) (hc : u64Ok c) (h1 : 1 ≤ n) (h2 : n ≤ x.non) :
    ctE x (msgT 4 x.ep [] [v, n, c]) = 0 ∧ ctS x (msgT 4 x.ep [] [v, n, c]) = { x with rv := v, rc := c, ri := true } ∧ ctT x (msgT 4 x.ep [] [v, n, c]) = [] := by
  have R := read_msg (k := 4) (e := x.ep) (b := []) (l := [v, n, c]) rfl (by decide) (by decide) he (by decide) (all3 hv hn hc)
  have e0 : nthI [v, n, c] 0 = v := rfl
  have e1 : nthI [v, n, c] 1 = n := rfl
  have e2 : nthI [v, n, c] 2 = c := rfl
  have h0 : ctE x (msgT 4 x.ep [] [v, n, c]) = 0 := by
    rw [ctE, if_neg (by rw [R.E]; decide), if_neg (by rw [R.K]; decide), if_neg (by rw [R.K]; decide), if_neg]
    rw [R.P, R.I, e1]
    rintro (q | q | q)
    · exact q rfl
    · omega
    · omega
  refine ⟨h0, ?_, ?_⟩
  · rw [ctS, if_neg (by rw [h0]; decide), if_neg (by rw [R.K]; decide), if_neg (by rw [R.K]; decide), R.I, e0, e2]
  · rw [ctT, if_neg (by rw [h0]; decide), if_neg (by rw [R.K]; decide)]
theorem tak_keep (x : Ss) (s : List UInt8) : (takS x s).ep = x.ep ∧ (takS x s).ver = x.ver ∧ (takS x s).nxt = x.nxt ∧ (takS x s).opn = x.opn ∧ (takS x s).ba = x.ba ∧ (takS x s).ca = x.ca ∧ ((takS x s).tr = x.tr ∨ (takS x s).tr = 0) := by
  unfold takS
  split
  · exact ⟨rfl, rfl, rfl, rfl, rfl, rfl, .inr rfl⟩
  · exact ⟨rfl, rfl, rfl, rfl, rfl, rfl, .inl rfl⟩
theorem don_keep (x : Ss) (o : Of) (c : Int) : (donS x o c).ep = x.ep ∧ ((donS x o c).ver = x.ver ∨ (donS x o c).ver = o.v) ∧ (donS x o c).nxt = x.nxt ∧ (donS x o c).opn = x.opn ∧ (donS x o c).ba = x.ba ∧ (donS x o c).ca = x.ca ∧ (donS x o c).tr = x.tr := by
  unfold donS
  split
  · exact ⟨rfl, .inl rfl, rfl, rfl, rfl, rfl, rfl⟩
  · split
    · exact ⟨rfl, .inr rfl, rfl, rfl, rfl, rfl, rfl⟩
    · exact ⟨rfl, .inl rfl, rfl, rfl, rfl, rfl, rfl⟩
theorem tak_new {x : Ss} {v : Int} {b : List UInt8} (ho : x.opn = true) (hn : x.non = 0) (he : u64Ok x.ep) (hv : u64Ok v) (hb : b.length ≤ 8000) :
    takE x (msgT 2 x.ep b [v, 1]) = 0 ∧ takS x (msgT 2 x.ep b [v, 1]) = { x with non := 1, rep := [], tr := 0 } ∧ takO x (msgT 2 x.ep b [v, 1]) = ⟨v, 1, b⟩ := by
  have R := read_msg (k := 2) (e := x.ep) (b := b) (l := [v, 1]) rfl (by decide) (by decide) he hb (all2 hv ⟨by decide, by decide⟩)
  have e0 : nthI [v, 1] 0 = v := rfl
  have e1 : nthI [v, 1] 1 = 1 := rfl
  have h0 : takE x (msgT 2 x.ep b [v, 1]) = 0 := by
    rw [takE, if_neg (by rw [R.E]; decide), if_neg (by rw [R.K]; decide), if_neg, if_neg]
    · rw [R.I, e1, hn]; decide
    · rw [R.P, R.I, e1, hn, ho]
      rintro (q | q | q | q)
      · cases q
      · exact q rfl
      · exact absurd q (by decide)
      · exact absurd q.1 (by decide)
  refine ⟨h0, ?_, ?_⟩
  · rw [takS, if_pos h0, R.I, e1]
  · rw [takO, if_pos h0, R.I, R.B, e0, e1]; rfl
theorem don_new {x : Ss} {v c : Int} {b : List UInt8} (hn : x.non = 1) (hr : x.rep = []) :
    donS x ⟨v, 1, b⟩ c = (if c = 0 then { x with ver := v, rep := msgT 3 x.ep [] [v, 1] } else { x with rep := msgT 4 x.ep [] [x.ver, 1, c % 18446744073709551616] }) ∧ donT x ⟨v, 1, b⟩ c = (if c = 0 then msgT 3 x.ep [] [v, 1] else msgT 4 x.ep [] [x.ver, 1, c % 18446744073709551616]) := by
  have hN : ¬ donN x ⟨v, 1, b⟩ := by
    rintro (q | q | q | q)
    · exact absurd q.2.1 (by show ¬ (1 : Int) = 0; decide)
    · exact q hn.symm
    · exact q hr
    · rw [hn] at q; exact absurd q (by decide)
  have h0 : donS x ⟨v, 1, b⟩ c = (if c = 0 then { x with ver := v, rep := msgT 3 x.ep [] [v, 1] } else { x with rep := msgT 4 x.ep [] [x.ver, 1, c % 18446744073709551616] }) := by rw [donS, if_neg hN]
  refine ⟨h0, ?_⟩
  rw [donT, if_neg hN, h0]
  split <;> rfl
end Sy
end Go.Proofs.YtcgikjfloloekaaGreatDoor
namespace Go.Proofs.YtcgikjfloloekaaGreatDoor
namespace Sy
open Go Go.RowKit
set_option linter.unusedVariables false
def DW (W : World) : Nat → Prop := fun b => b < W.heap.size
structure Opens {H : Type} (enc : TypeId × Value → H) (P : Program) (W : World) (t : TypeId) (α : Type) (sz : Nat) (av : α → Nat → AV) (ok : α → Prop) : Prop where
  size : P.cellsOf t = sz
  go : ∀ fuel cs x, DataW.trod enc P W 0 (fun _ => true) true fuel t cs = some x → ∃ y : α, ok y ∧ cs.length = sz ∧ ∀ j, j < sz → ∃ v, cs[j]? = some v ∧ one v ∧ R W.heap (DW W) noMu (av y j) v
theorem sgl {h : Array Obj} {D : Nat → Prop} {f : Nat → AV} {v : Value} (h1 : one v) (h2 : R h D noMu (f 0) v) : ∀ j, j < 1 → ∃ u, [v][j]? = some u ∧ one u ∧ R h D noMu (f j) u := by
  intro j hj
  obtain rfl : j = 0 := by omega
  exact ⟨v, rfl, h1, h2⟩
theorem list_of {α : Type} (p : Nat → α → Prop) : ∀ n, (∀ i, i < n → ∃ y, p i y) → ∃ l : List α, l.length = n ∧ ∀ i, i < n → ∃ y, l[i]? = some y ∧ p i y
  | 0, _ => ⟨[], rfl, fun i hi => by omega⟩
  | m + 1, h => by
    obtain ⟨l, e1, e2⟩ := list_of p m (fun i hi => h i (by omega))
    obtain ⟨y, hy⟩ := h m (by omega)
    refine ⟨l ++ [y], by simp [e1], fun i hi => ?_⟩
    by_cases hi' : i < m
    · obtain ⟨z, z1, z2⟩ := e2 i hi'
      exact ⟨z, by rw [List.getElem?_append_left (by omega)]; exact z1, z2⟩
    · have : i = m := by omega
      subst this
      exact ⟨y, by rw [← e1]; simp, hy⟩
section
variable {H : Type} {enc : TypeId × Value → H} {P : Program} {W : World}
theorem opens_int {t : TypeId} {k : IntKind} (ht : P.underlying t = some (.int k)) (hc : P.cellsOf t = 1) : Opens enc P W t Int 1 (fun n _ => .int k n) (fun n => (Lit.int k n).wf = true) := by
  refine ⟨hc, fun fuel cs x h => ?_⟩
  obtain ⟨n, rfl, rfl, hw⟩ := DataW.trod_int ht h
  exact ⟨n, hw, rfl, sgl rfl (.int k n)⟩
theorem opens_str {t : TypeId} (ht : P.underlying t = some .string) (hc : P.cellsOf t = 1) : Opens enc P W t (List UInt8) 1 (fun l _ => .str l) (fun l => l.length ≤ maxLen) := by
  refine ⟨hc, fun fuel cs x h => ?_⟩
  obtain ⟨s, rfl, rfl, hs⟩ := DataW.trod_string ht h
  exact ⟨s.data.toList, by rw [Array.length_toList]; exact hs, rfl, sgl rfl (.str _ _ rfl)⟩
def avL {α : Type} (av : α → Nat → AV) (l : List α) (i j : Nat) : AV := match l[i]? with | some y => av y j | none => .dead
theorem opens_slice {t e : TypeId} {α : Type} {sz : Nat} {av : α → Nat → AV} {ok : α → Prop} (ht : P.underlying t = some (.slice e)) (hc : P.cellsOf t = 1) (he : Opens enc P W e α sz av ok) (hs : 0 < sz) :
    Opens enc P W t (List α) 1 (fun l _ => .lst sz l.length (avL av l)) (fun l => l.length ≤ maxLen ∧ ∀ y ∈ l, ok y) := by
  refine ⟨hc, fun fuel cs x h => ?_⟩
  rcases DataW.trod_slice ht h with ⟨rfl, rfl⟩ | ⟨a, len, cap, elems, rest, n, _, rfl, rfl, hb, hl, hm, hlen, hel, _, _⟩
  · exact ⟨[], ⟨Nat.zero_le _, fun y hy => by cases hy⟩, rfl, sgl rfl (.lst0 _ _ _ _ (fun _ => rfl))⟩
  · have each : ∀ i, i < len → ∃ y : α, ok y ∧ ∀ j, j < sz → ∃ v, W.cell? ((a.add (i * sz)).add j) = some v ∧ one v ∧ R W.heap (DW W) noMu (av y j) v := by
      intro i hi
      have h1 := hel i hi
      rw [he.size] at h1
      obtain ⟨z, hz⟩ : ∃ z, elems[i]? = some z := ⟨elems[i], by simp [hlen, hi]⟩
      rw [hz, Option.bind_eq_some_iff] at h1
      obtain ⟨cs', h2, h3⟩ := h1
      obtain ⟨y, y1, y2, y3⟩ := he.go _ _ _ h3
      refine ⟨y, y1, fun j hj => ?_⟩
      obtain ⟨v, v1, v2, v3⟩ := y3 j hj
      exact ⟨v, by rw [(World.cells?_some h2).2.2 j hj]; exact v1, v2, v3⟩
    obtain ⟨l, hl1, hl2⟩ : ∃ l : List α, l.length = len ∧ ∀ i, i < len → ∃ y, l[i]? = some y ∧ ok y ∧ ∀ j, j < sz → ∃ v, W.cell? ((a.add (i * sz)).add j) = some v ∧ one v ∧ R W.heap (DW W) noMu (av y j) v :=
      list_of (fun i y => ok y ∧ ∀ j, j < sz → ∃ v, W.cell? ((a.add (i * sz)).add j) = some v ∧ one v ∧ R W.heap (DW W) noMu (av y j) v) len each
    refine ⟨l, ⟨by omega, fun y hy => ?_⟩, rfl, sgl rfl ?_⟩
    · obtain ⟨i, hi, rfl⟩ := List.getElem_of_mem hy
      obtain ⟨z, z1, z2, _⟩ := hl2 i (by omega)
      rw [List.getElem?_eq_getElem hi] at z1
      cases z1; exact z2
    · show R W.heap (DW W) noMu (.lst sz l.length (avL av l)) _
      by_cases h0 : len = 0
      · subst h0; rw [hl1]; exact .lst0 _ _ _ _ (fun h => by cases h)
      · have cell : ∀ i j, i < len → j < sz → ∃ v, hcell W.heap a.block (a.off + i * sz + j) = some v ∧ one v ∧ R W.heap (DW W) noMu (avL av l i j) v := by
          intro i j hi hj
          obtain ⟨y, y1, _, y3⟩ := hl2 i hi
          obtain ⟨v, v1, v2, v3⟩ := y3 j hj
          refine ⟨v, ?_, v2, by rw [avL, y1]; exact v3⟩
          rw [← cell_h]
          have hsp : ∀ p : Addr, W.cell? p = some v → p.spot = none := by
            intro p hp
            unfold World.cell? at hp
            split at hp
            · split at hp
              · cases hp
              · rename_i hn; simpa using hn
            · cases hp
          have h1 := hsp _ v1
          have e : (a.add (i * sz)).add j = ⟨a.block, a.off + i * sz + j, none⟩ := by
            have hb1 : ((a.add (i * sz)).add j).block = a.block := by simp only [Addr.add]; split <;> split <;> rfl
            have hb2 : ((a.add (i * sz)).add j).off = a.off + i * sz + j := by simp only [Addr.add]; split <;> split <;> simp_all
            cases hq : (a.add (i * sz)).add j with
            | mk b o s => rw [hq] at h1 hb1 hb2; simp_all
          rw [← e]; exact v1
        have hsp0 : a.spot = none := by
          obtain ⟨y, _, _, y3⟩ := hl2 0 (by omega)
          obtain ⟨v, v1, _⟩ := y3 0 hs
          rw [Nat.zero_mul] at v1
          simp only [Addr.add, if_true] at v1
          unfold World.cell? at v1
          split at v1
          · split at v1
            · cases v1
            · rename_i hn; simpa using hn
          · cases v1
        have hD : DW W a.block := by
          obtain ⟨v, v1, _⟩ := cell 0 0 (by omega) hs
          refine Classical.byContradiction fun hn => ?_
          unfold hcell at v1
          rw [Array.getElem?_eq_none (by unfold DW at hn; omega)] at v1
          cases v1
        have ea : a = ⟨a.block, a.off, none⟩ := by cases a; simp_all
        rw [ea, ← hl1]
        refine .lst sz l.length (avL av l) a.block a.off cap (fun i j => (hcell W.heap a.block (a.off + i * sz + j)).getD undef) hD (by omega) (fun i j hi hj => ?_) (fun i j hi hj => ?_) (fun i j hi hj => ?_)
        all_goals
          obtain ⟨v, v1, v2, v3⟩ := cell i j (by omega) hj
          rw [v1]
          first | rfl | exact v2 | exact v3
theorem Opens.map {t : TypeId} {α β : Type} {sz : Nat} {av : α → Nat → AV} {av' : β → Nat → AV} {ok : α → Prop} {ok' : β → Prop} (O : Opens enc P W t α sz av ok) (f : α → β) (h1 : ∀ y j, j < sz → av y j = av' (f y) j) (h2 : ∀ y, ok y → ok' (f y)) : Opens enc P W t β sz av' ok' := by
  refine ⟨O.size, fun fuel cs x h => ?_⟩
  obtain ⟨y, y1, y2, y3⟩ := O.go fuel cs x h
  refine ⟨f y, h2 y y1, y2, fun j hj => ?_⟩
  obtain ⟨v, v1, v2, v3⟩ := y3 j hj
  exact ⟨v, v1, v2, by rw [← h1 y j hj]; exact v3⟩
theorem open_one {t : TypeId} {α : Type} {av : α → Nat → AV} {ok : α → Prop} {v : Value} {d : DataW H} {p : List MemPlace} (O : Opens enc P W t α 1 av ok) (hv : v.cells = #[v]) (h : DataW.Trod enc P W 0 (fun _ => true) true t v d p) :
    ∃ y, ok y ∧ R W.heap (DW W) noMu (av y 0) v := by
  obtain ⟨fuel, h⟩ := h
  obtain ⟨y, y1, y2, y3⟩ := O.go _ _ _ h
  obtain ⟨u, u1, u2, u3⟩ := y3 0 (by omega)
  rw [hv] at u1
  simp at u1
  subst u1
  exact ⟨y, y1, u3⟩
end
theorem ac_args {P : Program} {f : FuncId} {xs ys : List AV} {r : AV} (h : ∀ h D vs, RL h D noMu xs vs → RL h D noMu ys vs) (ha : ACalls P f ys r) : ACalls P f xs r := fun D w vs hD hx => ha D w vs hD (h _ _ _ hx)
end Sy
end Go.Proofs.YtcgikjfloloekaaGreatDoor
namespace Go.Proofs.YtcgikjfloloekaaGreatDoor
namespace Sy
open Go Go.RowKit
set_option maxRecDepth 100000
set_option linter.unusedSimpArgs false
set_option linter.unusedVariables false
theorem ct_eta (x : Ct) : (⟨x.ver, x.bod, x.som, x.ep, x.non, x.las, x.tv, x.tc, x.ti, x.rv, x.rc, x.ri⟩ : Ct) = x := rfl
def zCt : Ct := ⟨0, [], false, 0, 0, [], 0, 0, false, 0, 0, false⟩
theorem sub_up {x : Ct} {e : Int} (h : x.ep < e) (h0 : 0 < e) (hs : x.som = true) : subE x e = 0 ∧ subS x e = offS (newE x e) ∧ subA x e = (offS (newE x e)).las := by
  have h1 : ¬ (e < x.ep ∨ e = 0) := by omega
  have h2 : ¬ (e < x.ep ∨ e = 0 ∨ e = x.ep) := by omega
  refine ⟨if_neg h1, ?_, ?_⟩
  · rw [subS, if_neg h2, if_pos hs]
  · rw [subA, if_neg h1, if_neg (by omega), if_pos hs]
theorem sub_msg {e : Int} (he : u64Ok e) : upto 900000 (msgT 1 e [] [0]) ∧ msgOk e [] [0] := by
  have R := read_msg (k := 1) (e := e) (b := []) (l := [0]) rfl (by decide) (by decide) he (by decide) (all1 ⟨by decide, by decide⟩)
  have := R.len
  exact ⟨by unfold upto; omega, msg_ok0 he (by simp) (all1 ⟨by decide, by decide⟩)⟩
end Sy
end Go.Proofs.YtcgikjfloloekaaGreatDoor
namespace Go.Proofs.YtcgikjfloloekaaGreatDoor
namespace Sy
open Go Go.RowKit
set_option maxRecDepth 100000
set_option linter.unusedSimpArgs false
set_option linter.unusedVariables false
def n1 (v : CV) : Prop := u64Ok v.nn ∧ ∀ x ∈ v.ls, u64Ok x.nn
def nSt (st : List Lv) : Prop := ∀ a ∈ st, ∀ x ∈ a.l, u64Ok x.nn
theorem u64_0 : u64Ok 0 := ⟨by decide, by decide⟩
theorem n1_bad (e : Int) : n1 (nrBad e).v := ⟨u64_0, fun x hx => by cases hx⟩
theorem nu_done {val : List Lv → List UInt8 → NR} (hv : ∀ st s, nSt st → n1 (val st s).v) : ∀ (st : List Lv) (v : CV) (s : List UInt8), nSt st → n1 v → n1 (nxtDone val st v s).v
  | [], v, s, _, h => h
  | a :: st, v, s, h0, h => by
    have ha := h0 a (by simp)
    have hl : ∀ x ∈ a.l ++ [v], u64Ok x.nn := by
      intro x hx
      rcases List.mem_append.1 hx with hx | hx
      · exact ha x hx
      · rw [List.mem_singleton.1 hx]; exact h.1
    unfold nxtDone
    split
    · exact nu_done hv st _ s (fun b hb => h0 b (by simp [hb])) ⟨u64_0, hl⟩
    · refine hv _ _ (fun b hb => ?_)
      rcases List.mem_cons.1 hb with rfl | hb
      · exact hl
      · exact h0 b (by simp [hb])
theorem nu_val : ∀ (f : Nat) (st : List Lv) (s : List UInt8), nSt st → n1 (nxtVal f st s).v
  | 0, _, _, _ => n1_bad 0
  | f + 1, st, s, h => by
    have ih := nu_val f
    unfold nxtVal
    split
    · exact n1_bad _
    · split
      · exact n1_bad _
      · split
        · exact n1_bad _
        · rename_i _ _ hE
          have hE := lng_yes (Classical.not_not.1 hE)
          split
          · exact nu_done ih st _ _ h ⟨⟨hE.2.2.1, hE.2.2.2⟩, fun x hx => by cases hx⟩
          · split
            · split
              · exact n1_bad _
              · exact nu_done ih st _ _ h ⟨u64_0, fun x hx => by cases hx⟩
            · split
              · exact n1_bad _
              · have h' : nSt (⟨lngN (s.drop 1), []⟩ :: st) := fun b hb => by
                  rcases List.mem_cons.1 hb with rfl | hb
                  · intro x hx; cases hx
                  · exact h b hb
                unfold nxtShut
                split
                · exact n1_bad _
                · rename_i a st' _ he
                  cases he
                  split
                  · exact nu_done ih st _ _ h ⟨u64_0, fun x hx => by cases hx⟩
                  · exact ih _ _ h'
theorem nu_rs {s : List UInt8} (i : Nat) : u64Ok (nthI (rsI s) i) := by
  have h1 : n1 (getV (paB s)) := by
    unfold getV
    split
    · unfold nxtTop
      split
      · exact n1_bad _
      · exact nu_val _ _ _ (fun a ha => by cases ha)
    · exact ⟨u64_0, fun x hx => by cases hx⟩
  unfold rsI nthI
  split
  · rw [List.getD_eq_getElem?_getD]
    cases hq : (nnsV ((rsL s).take (rsM s)))[i]? with
    | none => exact u64_0
    | some x =>
      obtain ⟨y, hy, rfl⟩ := List.mem_map.1 (List.mem_of_getElem? hq)
      exact h1.2 y (List.mem_of_mem_take hy)
  · simp; exact u64_0
end Sy
end Go.Proofs.YtcgikjfloloekaaGreatDoor
namespace Go.Proofs.YtcgikjfloloekaaGreatDoor
namespace Sy
open Go Go.RowKit
set_option maxRecDepth 100000
set_option linter.unusedSimpArgs false
set_option linter.unusedVariables false
def splitC (c : UInt8) : List UInt8 → List (List UInt8)
  | [] => [[]]
  | x :: s => if x = c then [] :: splitC c s else match splitC c s with
    | y :: r => (x :: y) :: r
    | [] => [[x]]
theorem splitC_ne (c : UInt8) : ∀ s, splitC c s ≠ []
  | [] => by simp [splitC]
  | x :: s => by
    unfold splitC
    split
    · simp
    · split <;> simp
theorem splitC_at {c : UInt8} : ∀ {s : List UInt8} {m : Nat}, (∀ k, k < m → s[k]? ≠ some c) → s[m]? = some c → splitC c s = s.take m :: splitC c (s.drop (m + 1))
  | [], m, _, h => by simp at h
  | x :: s, 0, _, h => by
    simp at h; subst h
    simp [splitC]
  | x :: s, m + 1, h0, h => by
    have hx : x ≠ c := by
      have := h0 0 (by omega)
      intro e; subst e; simp at this
    have ih := splitC_at (s := s) (m := m) (fun k hk => by have := h0 (k + 1) (by omega); simpa using this) (by simpa using h)
    rw [splitC, if_neg hx, ih]
    simp
theorem splitC_no {c : UInt8} : ∀ {s : List UInt8}, (∀ k : Nat, s[k]? ≠ some c) → splitC c s = [s]
  | [], _ => rfl
  | x :: s, h0 => by
    have hx : x ≠ c := by
      have := h0 0
      intro e; subst e; simp at this
    have ih := splitC_no (s := s) (fun k => by have := h0 (k + 1); simpa using this)
    rw [splitC, if_neg hx, ih]
theorem splitC_len (c : UInt8) : ∀ s : List UInt8, (splitC c s).length = s.count c + 1
  | [] => by simp [splitC]
  | x :: s => by
    have ih := splitC_len c s
    unfold splitC
    by_cases hx : x = c
    · rw [if_pos hx, List.length_cons, ih, hx, List.count_cons_self]
    · rw [if_neg hx, List.count_cons_of_ne (fun e => hx e)]
      cases hs : splitC c s with
      | nil => exact absurd hs (splitC_ne c s)
      | cons y r => rw [hs] at ih; simpa using ih
theorem idx_no {s : List UInt8} {c : UInt8} (h : Lib.indexByte s c < 0) : ∀ k : Nat, s[k]? ≠ some c := by
  have := Lib.indexByte_ge s c
  exact Lib.indexByte_none (by omega)
theorem idx_at {s : List UInt8} {c : UInt8} (h : ¬ Lib.indexByte s c < 0) : s[(Lib.indexByte s c).toNat]? = some c ∧ (∀ k, k < (Lib.indexByte s c).toNat → s[k]? ≠ some c) ∧ (Lib.indexByte s c).toNat < s.length := by
  obtain ⟨o, ho⟩ : ∃ o : Nat, Lib.indexByte s c = o := ⟨(Lib.indexByte s c).toNat, by omega⟩
  have h1 := Lib.indexByte_some ho
  have e : (Lib.indexByte s c).toNat = o := by omega
  rw [e]
  exact ⟨h1.1, h1.2, (List.getElem?_eq_some_iff.1 h1.1).1⟩
theorem idx_le (s : List UInt8) (c : UInt8) : -1 ≤ Lib.indexByte s c ∧ Lib.indexByte s c ≤ s.length := by
  have h0 := Lib.indexByte_ge s c
  by_cases h : Lib.indexByte s c < 0
  · omega
  · have := (idx_at h).2.2; omega
def by1 (sep : List UInt8) : UInt8 := sep.headD 0
def oneB (sep : List UInt8) : Prop := sep.length = 1
theorem oneB_is {sep : List UInt8} (h : oneB sep) : sep = [by1 sep] := by
  match sep, h with
  | [c], _ => rfl
def idxZ (s sep : List UInt8) : Int := Lib.indexByte s (by1 sep)
def cntZ (s sep : List UInt8) : Int := s.count (by1 sep)
def splitS (s sep : List UInt8) : List (List UInt8) := splitC (by1 sep) s
def lenSt (l : List (List UInt8)) : Nat := l.length
def lstS (L : Seal) (l : List (List UInt8)) : AV := .lst 1 (L lenSt l) (fun i _ => .str (L2 L nthS l i))
def idx_s (L : Seal) : Ent1 := (143, fun xs => match xs with | [.str s, .str sep] => some (L oneB sep, .int .i64 (L2 L idxZ s sep)) | _ => none)
def idl_s (L : Seal) : Ent1 := (140, fun xs => match xs with | [.str s, .str sep] => some (L oneB sep, .int .i64 (L2 L idxZ s sep)) | _ => none)
def cnt_s (L : Seal) : Ent1 := (142, fun xs => match xs with | [.str s, .str sep] => some (L oneB sep, .int .i64 (L2 L cntZ s sep)) | _ => none)
theorem idx_good : Good Tryz.prog (idx_s std) := by
  intro xs p r h hp
  dsimp only [idx_s] at h ⊢
  split at h <;> cases h
  try simp only [L2, L3, std] at hp ⊢
  rename_i s sep
  have h1 := oneB_is (show oneB sep from hp)
  rw [h1]
  refine ac_of_below (fn := Tryz.f143) rfl rfl (by kernel_rfl) (args2 (tells_str _) (tells_str _)) (int_r _ _) (fun w => (Tryz.strings_Index_one ⟨s.toArray⟩ (by1 sep) w).mono ?_)
  rintro e w' ⟨rfl, rfl⟩
  exact ⟨rfl, Below.refl _ _⟩
theorem idl_good : Good Tryz.prog (idl_s std) := by
  intro xs p r h hp
  dsimp only [idl_s] at h ⊢
  split at h <;> cases h
  try simp only [L2, L3, std] at hp ⊢
  rename_i s sep
  have h1 := oneB_is (show oneB sep from hp)
  rw [h1]
  refine ac_of_below (fn := Tryz.f140) rfl rfl (by kernel_rfl) (args2 (tells_str _) (tells_str _)) (int_r _ _) (fun w => (Tryz.stringslite_Index_one ⟨s.toArray⟩ (by1 sep) w).mono ?_)
  rintro e w' ⟨rfl, rfl⟩
  exact ⟨rfl, Below.refl _ _⟩
theorem cnt_good : Good Tryz.prog (cnt_s std) := by
  intro xs p r h hp
  dsimp only [cnt_s] at h ⊢
  split at h <;> cases h
  try simp only [L2, L3, std] at hp ⊢
  rename_i s sep
  have h1 := oneB_is (show oneB sep from hp)
  rw [h1]
  refine ac_of_below (fn := Tryz.f142) rfl rfl (by kernel_rfl) (args2 (tells_str _) (tells_str _)) (int_r _ _) (fun w => (Tryz.strings_Count_one ⟨s.toArray⟩ (by1 sep) w).mono ?_)
  rintro e w' ⟨rfl, rfl⟩
  exact ⟨rfl, Below.refl _ _⟩
def cutA (s sep : List UInt8) : List UInt8 := if idxZ s sep < 0 then s else s.take (idxZ s sep).toNat
def cutB (s sep : List UInt8) : List UInt8 := if idxZ s sep < 0 then [] else s.drop ((idxZ s sep).toNat + 1)
def cutY (s sep : List UInt8) : Bool := decide (0 ≤ idxZ s sep)
def cutL_s (L : Seal) : Ent1 := (135, fun xs => match xs with | [.str s, .str sep] => some (L oneB sep ∧ L2 L upto 1000000000 s, .tup [.str (L2 L cutA s sep), .str (L2 L cutB s sep), .bool (L2 L cutY s sep)]) | _ => none)
def cut_s (L : Seal) : Ent1 := (128, fun xs => match xs with | [.str s, .str sep] => some (L oneB sep ∧ L2 L upto 1000000000 s, .tup [.str (L2 L cutA s sep), .str (L2 L cutB s sep), .bool (L2 L cutY s sep)]) | _ => none)
theorem cutL_good : Good Tryz.prog (cutL_s std) := by
  intro xs p r h hp
  dsimp only [cutL_s] at h ⊢
  split at h <;> cases h
  try simp only [L2, L3, std] at hp ⊢
  rename_i s sep
  obtain ⟨p1, p2⟩ : oneB sep ∧ s.length ≤ 1000000000 := hp
  refine acalls_L (T := tt) (S := fun L => sumOf [idl_s L]) (lo := noA) (lb := noA) 5 (fn := Tryz.f135) rfl rfl (by kernel_rfl) (by kernel_rfl) rfl tt_ok (sumOf_ok ⟨idl_good, trivial⟩) (by kernel_rfl) ?_
  (intro L P1 Q1 hL hP hQ; cbv; subst hL; simp only [L2, L3, std, sat_need, sat_must, sat_ite, sat_done, sat_yes, sat_ex, sat_all, sat_sup, sat_and, sat_fail]; subst hQ)
  (simp only [sySet, syB, reduceCtorEq, forall_const, Int.reduceToNat, Int.reduceAdd, Int.reduceSub, Int.cast_ofNat_Int, Int.toNat_natCast, Nat.le_eq, Nat.sub_eq, ne_eq, implies_true, wadd, wsub, wmul, Nat.succ_eq_add_one])
  have hl := idx_le s (by1 sep)
  refine ⟨p1, fun h => ?_, fun h => ?_⟩
  · have := (idx_at (c := by1 sep) (s := s) (by show ¬ idxZ s sep < 0; omega)).2.2
    have e0 : ¬ idxZ s sep < 0 := by omega
    have e1 : (sep.length : Int) = 1 := by rw [p1]; rfl
    have hl : -1 ≤ idxZ s sep ∧ idxZ s sep ≤ s.length := hl
    have this : (idxZ s sep).toNat < s.length := this
    rw [e1, show (idxZ s sep + 1 + 9223372036854775808) % 18446744073709551616 - 9223372036854775808 = idxZ s sep + 1 by omega]
    refine ⟨by omega, by omega, (if_neg e0).symm, ?_, (decide_eq_true h).symm⟩
    rw [cutB, if_neg e0, show (idxZ s sep + 1).toNat = (idxZ s sep).toNat + 1 by omega]
  · exact ⟨(if_pos (by omega)).symm, (if_pos (by omega)).symm, (decide_eq_false (by omega)).symm⟩
theorem cut_good : Good Tryz.prog (cut_s std) := by
  intro xs p r h hp
  dsimp only [cut_s] at h ⊢
  split at h <;> cases h
  try simp only [L2, L3, std] at hp ⊢
  rename_i s sep
  obtain ⟨p1, p2⟩ : oneB sep ∧ s.length ≤ 1000000000 := hp
  refine acalls_L (T := tt) (S := fun L => sumOf [cutL_s L]) (lo := noA) (lb := noA) 5 (fn := Tryz.f128) rfl rfl (by kernel_rfl) (by kernel_rfl) rfl tt_ok (sumOf_ok ⟨cutL_good, trivial⟩) (by kernel_rfl) ?_
  (intro L P1 Q1 hL hP hQ; cbv; subst hL; simp only [L2, L3, std, sat_need, sat_must, sat_ite, sat_done, sat_yes, sat_ex, sat_all, sat_sup, sat_and, sat_fail]; subst hQ)
  (simp only [sySet, syB, reduceCtorEq, forall_const, Int.reduceToNat, Int.reduceAdd, Int.reduceSub, Int.cast_ofNat_Int, Int.toNat_natCast, Nat.le_eq, Nat.sub_eq, ne_eq, implies_true, wadd, wsub, wmul, Nat.succ_eq_add_one])
  exact ⟨p1, p2⟩
def restC (c : UInt8) (s : List UInt8) : Nat → List UInt8
  | 0 => s
  | i + 1 => (restC c s i).drop ((Lib.indexByte (restC c s i) c).toNat + 1)
theorem restC_is (c : UInt8) (s : List UInt8) : ∀ i, i ≤ s.count c → splitC c (restC c s i) = (splitC c s).drop i ∧ (restC c s i).length ≤ s.length
  | 0, _ => by simp [restC]
  | i + 1, h => by
    obtain ⟨ih, hl⟩ := restC_is c s i (by omega)
    have hlen := congrArg List.length ih
    rw [splitC_len, List.length_drop, splitC_len] at hlen
    have hn : ¬ Lib.indexByte (restC c s i) c < 0 := by
      intro hn
      have h0 := splitC_no (idx_no hn)
      have := congrArg List.length h0
      rw [splitC_len] at this
      simp at this
      omega
    obtain ⟨h1, h2, h3⟩ := idx_at hn
    have e := splitC_at h2 h1
    rw [ih] at e
    have e2 := congrArg (List.drop 1) e
    rw [List.drop_drop, List.drop_succ_cons, List.drop_zero] at e2
    refine ⟨by rw [restC, ← e2], ?_⟩
    rw [restC, List.length_drop]; omega
theorem rest_at {c : UInt8} {s : List UInt8} {i : Nat} (h : i < s.count c) : 0 ≤ Lib.indexByte (restC c s i) c ∧ (Lib.indexByte (restC c s i) c).toNat < (restC c s i).length ∧ nthS (splitC c s) i = (restC c s i).take (Lib.indexByte (restC c s i) c).toNat := by
  obtain ⟨ih, hl⟩ := restC_is c s i (by omega)
  have hlen := congrArg List.length ih
  rw [splitC_len, List.length_drop, splitC_len] at hlen
  have hn : ¬ Lib.indexByte (restC c s i) c < 0 := by
    intro hn
    have h0 := splitC_no (idx_no hn)
    have := congrArg List.length h0
    rw [splitC_len] at this
    simp at this
    omega
  obtain ⟨h1, h2, h3⟩ := idx_at hn
  refine ⟨by omega, h3, ?_⟩
  have e := splitC_at h2 h1
  rw [ih] at e
  have hlt : i < (splitC c s).length := by rw [splitC_len]; omega
  rw [nthS, List.getD_eq_getElem?_getD, List.getElem?_eq_getElem hlt]
  rw [List.drop_eq_getElem_cons hlt] at e
  exact (List.cons.inj e).1
theorem rest_last (c : UInt8) (s : List UInt8) : nthS (splitC c s) (s.count c) = restC c s (s.count c) := by
  obtain ⟨ih, hl⟩ := restC_is c s (s.count c) (Nat.le_refl _)
  have hlen := congrArg List.length ih
  rw [splitC_len, List.length_drop, splitC_len] at hlen
  have hc : (restC c s (s.count c)).count c = 0 := by omega
  have h0 : splitC c (restC c s (s.count c)) = [restC c s (s.count c)] := splitC_no (fun k hk => by
    have := List.count_pos_iff.2 (List.mem_of_getElem? hk)
    omega)
  rw [h0] at ih
  have hlt : s.count c < (splitC c s).length := by rw [splitC_len]; omega
  rw [nthS, List.getD_eq_getElem?_getD, List.getElem?_eq_getElem hlt]
  rw [List.drop_eq_getElem_cons hlt] at ih
  exact (List.cons.inj ih).1.symm
def restS (s sep : List UInt8) (i : Nat) : List UInt8 := restC (by1 sep) s i
def doneS (s sep : List UInt8) (i j : Nat) : List UInt8 := if j < i then nthS (splitS s sep) j else []
def cntB (s sep : List UInt8) : Nat := s.count (by1 sep)
theorem cnt_le (s sep : List UInt8) : cntB s sep ≤ s.length := List.count_le_length
def splA (L : Seal) (s sep : List UInt8) : Nat → St → Option Ann := fun id st => match id with
  | 0 => some ⟨Nat, fun i => [(0, .str (L3 L restS s sep i)), (10, .int .i64 (L natI i)), (9, .sl 900 1 0 (L (fun n : Nat => n + 1) (L2 L cntB s sep))), (3, .int .i64 (L natI (L2 L cntB s sep)))],
      fun i => [(900, .row 9 1 (L (fun n : Nat => n + 1) (L2 L cntB s sep)) (fun j _ => .str (L (L3 L doneS s sep i) j)))], [1, 2], [],
      fun i => L3 L (fun s sep i => i ≤ cntB s sep) s sep i, fun i => L3 L (fun s sep i => cntB s sep - i) s sep i⟩
  | _ => none
theorem over1s (q : Nat) (v : List UInt8) (f : Nat → List UInt8) (i j : Nat) (h : j < 1) : over std q 0 1 [.str v] (fun i _ => .str (f i)) i j = .str (if i = q then v else f i) := by
  have : j = 0 := by omega
  subst this
  rw [over_get, if_pos ⟨Nat.le_refl _, by omega⟩]
  by_cases h : i = q
  · subst h; simp [beq_same, sel1, L3, std, lget]
  · simp [beq_no h, sel1, L3, std, lget, h]
def nev (f : Nat) : Ent1 := (f, fun _ => some (False, .dead))
theorem nev_good (f : Nat) : Good Tryz.prog (nev f) := by
  intro xs p r h hp
  cases h
  exact hp.elim
def gsp_s (L : Seal) : Ent1 := (136, fun xs => match xs with
  | [.str s, .str sep, .int .i64 a, .int .i64 b] => some (L oneB sep ∧ L2 L upto 1000000000 s ∧ L2 L (fun a b : Int => a = 0 ∧ b = -1) a b, lstS L (L2 L splitS s sep))
  | _ => none)
theorem gsp_good : Good Tryz.prog (gsp_s std) := by
  intro xs p r h hp
  dsimp only [gsp_s] at h ⊢
  split at h <;> cases h
  try simp only [L2, L3, std] at hp ⊢
  rename_i s sep a b
  obtain ⟨p1, p2, rfl, rfl⟩ : oneB sep ∧ s.length ≤ 1000000000 ∧ a = 0 ∧ b = -1 := hp
  refine acalls_L (T := tt) (S := fun L => sumOf [idx_s L, cnt_s L, nev 141]) (lo := fun L => splA L s sep) (lb := noA) 5 (fn := Tryz.f136) rfl rfl (by kernel_rfl) (by kernel_rfl) rfl tt_ok (sumOf_ok ⟨idx_good, cnt_good, nev_good _, trivial⟩) (by kernel_rfl) ?_
  intro L P' Q' hL hP hQ
  (cbv; try simp only [sat_need, sat_must, sat_ite, sat_done, sat_yes, sat_ex, sat_all, sat_sup, sat_and, sat_fail, true_and, and_true])
  have hc : cntZ s sep = (cntB s sep : Int) := rfl
  have hle := cnt_le s sep
  have hsep : sep ≠ [] := fun e => by rw [e] at p1; cases p1
  refine ⟨fun h => ?_, fun h1 => ⟨fun h => ?_, fun h2 => ⟨fun h3 => ⟨?_, ?_, ⟨0, ?_⟩, fun i hi => ?_⟩, fun h3 => ?_⟩⟩⟩
  · (subst hL; subst hQ; simp only [L2, L3, std] at *; try simp only [sySet, syB, reduceCtorEq, forall_const, Int.reduceToNat, Int.reduceAdd, Int.reduceSub, Int.cast_ofNat_Int, Int.toNat_natCast, Nat.le_eq, Nat.sub_eq, ne_eq, implies_true, wadd, wsub, wmul, Nat.succ_eq_add_one] at *)
  · (subst hL; subst hQ; simp only [L2, L3, std] at *; try simp only [sySet, syB, reduceCtorEq, forall_const, Int.reduceToNat, Int.reduceAdd, Int.reduceSub, Int.cast_ofNat_Int, Int.toNat_natCast, Nat.le_eq, Nat.sub_eq, ne_eq, implies_true, wadd, wsub, wmul, Nat.succ_eq_add_one] at *)
    exact absurd h hsep
  · (subst hL; subst hQ; simp only [L2, L3, std] at *; try simp only [sySet, syB, reduceCtorEq, forall_const, Int.reduceToNat, Int.reduceAdd, Int.reduceSub, Int.cast_ofNat_Int, Int.toNat_natCast, Nat.le_eq, Nat.sub_eq, ne_eq, implies_true, wadd, wsub, wmul, Nat.succ_eq_add_one] at *)
    exact p1
  · (subst hL; subst hQ; simp only [L2, L3, std] at *; try simp only [sySet, syB, reduceCtorEq, forall_const, Int.reduceToNat, Int.reduceAdd, Int.reduceSub, Int.cast_ofNat_Int, Int.toNat_natCast, Nat.le_eq, Nat.sub_eq, ne_eq, implies_true, wadd, wsub, wmul, Nat.succ_eq_add_one] at *)
    rw [hc]
    omega
  · (cbv; try simp only [sat_need, sat_must, sat_ite, sat_done, sat_yes, sat_ex, sat_all, sat_sup, sat_and, sat_fail, true_and, and_true])
    (subst hL; subst hQ; simp only [L2, L3, std] at *; try simp only [sySet, syB, reduceCtorEq, forall_const, Int.reduceToNat, Int.reduceAdd, Int.reduceSub, Int.cast_ofNat_Int, Int.toNat_natCast, Nat.le_eq, Nat.sub_eq, ne_eq, implies_true, wadd, wsub, wmul, Nat.succ_eq_add_one] at *)
    rw [hc, show min (((cntB s sep : Nat) + 1 + 9223372036854775808 : Int) % 18446744073709551616 - 9223372036854775808) (((s.length : Nat) + 1 + 9223372036854775808 : Int) % 18446744073709551616 - 9223372036854775808) = (cntB s sep : Nat) + 1 by omega]
    refine ⟨⟨by omega, fun k j hk hj => ?_⟩, by omega, by omega, rfl, Nat.zero_le _⟩
    rw [doneS, if_neg (by omega)]
    match j, hj with
    | 0, _ => rfl
  · cbv at hi
    (cbv; try simp only [sat_need, sat_must, sat_ite, sat_done, sat_yes, sat_ex, sat_all, sat_sup, sat_and, sat_fail, true_and, and_true])
    refine ⟨fun h4 => ⟨?_, fun h5 => ?_, fun h5 => ⟨?_, ?_, ?_, i + 1, ?_⟩⟩, fun h4 => ⟨?_, ?_, ?_⟩⟩
    · (subst hL; subst hQ; simp only [L2, L3, std] at *; try simp only [sySet, syB, reduceCtorEq, forall_const, Int.reduceToNat, Int.reduceAdd, Int.reduceSub, Int.cast_ofNat_Int, Int.toNat_natCast, Nat.le_eq, Nat.sub_eq, ne_eq, implies_true, wadd, wsub, wmul, Nat.succ_eq_add_one] at *)
      exact p1
    · (subst hL; subst hQ; simp only [L2, L3, std] at *; try simp only [sySet, syB, reduceCtorEq, forall_const, Int.reduceToNat, Int.reduceAdd, Int.reduceSub, Int.cast_ofNat_Int, Int.toNat_natCast, Nat.le_eq, Nat.sub_eq, ne_eq, implies_true, wadd, wsub, wmul, Nat.succ_eq_add_one] at *)
      obtain ⟨r1, r2, r3⟩ := rest_at (c := by1 sep) (s := s) (i := i) (show i < cntB s sep by omega)
      exfalso
      have h5 : Lib.indexByte (restC (by1 sep) s i) (by1 sep) < 0 := h5
      omega
    · (subst hL; subst hQ; simp only [L2, L3, std] at *; try simp only [sySet, syB, reduceCtorEq, forall_const, Int.reduceToNat, Int.reduceAdd, Int.reduceSub, Int.cast_ofNat_Int, Int.toNat_natCast, Nat.le_eq, Nat.sub_eq, ne_eq, implies_true, wadd, wsub, wmul, Nat.succ_eq_add_one] at *)
      obtain ⟨r1, r2, r3⟩ := rest_at (c := by1 sep) (s := s) (i := i) (show i < cntB s sep by omega)
      obtain ⟨q1, q2⟩ := restC_is (by1 sep) s i hi
      have r1 : 0 ≤ idxZ (restS s sep i) sep := r1
      have r2 : (idxZ (restS s sep i) sep).toNat < (restS s sep i).length := r2
      have q2 : (restS s sep i).length ≤ s.length := q2
      omega
    · (subst hL; subst hQ; simp only [L2, L3, std] at *; try simp only [sySet, syB, reduceCtorEq, forall_const, Int.reduceToNat, Int.reduceAdd, Int.reduceSub, Int.cast_ofNat_Int, Int.toNat_natCast, Nat.le_eq, Nat.sub_eq, ne_eq, implies_true, wadd, wsub, wmul, Nat.succ_eq_add_one] at *)
      omega
    · (subst hL; subst hQ; simp only [L2, L3, std] at *; try simp only [sySet, syB, reduceCtorEq, forall_const, Int.reduceToNat, Int.reduceAdd, Int.reduceSub, Int.cast_ofNat_Int, Int.toNat_natCast, Nat.le_eq, Nat.sub_eq, ne_eq, implies_true, wadd, wsub, wmul, Nat.succ_eq_add_one] at *)
      obtain ⟨r1, r2, r3⟩ := rest_at (c := by1 sep) (s := s) (i := i) (show i < cntB s sep by omega)
      obtain ⟨q1, q2⟩ := restC_is (by1 sep) s i hi
      have r1 : 0 ≤ idxZ (restS s sep i) sep := r1
      have r2 : (idxZ (restS s sep i) sep).toNat < (restS s sep i).length := r2
      have q2 : (restS s sep i).length ≤ s.length := q2
      have e1 : (sep.length : Int) = 1 := by rw [p1]; rfl
      omega
    · (cbv; try simp only [sat_need, sat_must, sat_ite, sat_done, sat_yes, sat_ex, sat_all, sat_sup, sat_and, sat_fail, true_and, and_true])
      (subst hL; subst hQ; simp only [L2, L3, std] at *; try simp only [sySet, syB, reduceCtorEq, forall_const, Int.reduceToNat, Int.reduceAdd, Int.reduceSub, Int.cast_ofNat_Int, Int.toNat_natCast, Nat.le_eq, Nat.sub_eq, ne_eq, implies_true, wadd, wsub, wmul, Nat.succ_eq_add_one] at *)
      obtain ⟨r1, r2, r3⟩ := rest_at (c := by1 sep) (s := s) (i := i) (show i < cntB s sep by omega)
      obtain ⟨q1, q2⟩ := restC_is (by1 sep) s i hi
      have r1 : 0 ≤ idxZ (restS s sep i) sep := r1
      have r2 : (idxZ (restS s sep i) sep).toNat < (restS s sep i).length := r2
      have q2 : (restS s sep i).length ≤ s.length := q2
      have e1 : (sep.length : Int) = 1 := by rw [p1]; rfl
      refine ⟨fun k j hk hj => ?_, by omega, ?_, by omega, by omega⟩
      · rw [over1s _ _ _ _ _ hj]
        congr 1
        by_cases hki : k = i
        · subst hki
          rw [if_pos rfl, doneS, if_pos (by omega), show (idxZ (restS s sep k) sep + 0 + 9223372036854775808) % 18446744073709551616 - 9223372036854775808 = idxZ (restS s sep k) sep by omega]
          exact r3.symm
        · rw [if_neg hki, doneS, doneS]
          by_cases hlt : k < i
          · rw [if_pos hlt, if_pos (by omega)]
          · rw [if_neg hlt, if_neg (by omega)]
      · rw [e1, show ((idxZ (restS s sep i) sep + 1 + 9223372036854775808) % 18446744073709551616 - 9223372036854775808).toNat = (idxZ (restS s sep i) sep).toNat + 1 by omega]
        rfl
    · (subst hL; subst hQ; simp only [L2, L3, std] at *; try simp only [sySet, syB, reduceCtorEq, forall_const, Int.reduceToNat, Int.reduceAdd, Int.reduceSub, Int.cast_ofNat_Int, Int.toNat_natCast, Nat.le_eq, Nat.sub_eq, ne_eq, implies_true, wadd, wsub, wmul, Nat.succ_eq_add_one] at *)
      omega
    · (subst hL; subst hQ; simp only [L2, L3, std] at *; try simp only [sySet, syB, reduceCtorEq, forall_const, Int.reduceToNat, Int.reduceAdd, Int.reduceSub, Int.cast_ofNat_Int, Int.toNat_natCast, Nat.le_eq, Nat.sub_eq, ne_eq, implies_true, wadd, wsub, wmul, Nat.succ_eq_add_one] at *)
      omega
    · (subst hL; subst hQ; simp only [L2, L3, std] at *; try simp only [sySet, syB, reduceCtorEq, forall_const, Int.reduceToNat, Int.reduceAdd, Int.reduceSub, Int.cast_ofNat_Int, Int.toNat_natCast, Nat.le_eq, Nat.sub_eq, ne_eq, implies_true, wadd, wsub, wmul, Nat.succ_eq_add_one] at *)
      have hi' : i = cntB s sep := by omega
      subst hi'
      rw [show ((cntB s sep : Nat) + 1 + 9223372036854775808 : Int) % 18446744073709551616 - 9223372036854775808 = ((cntB s sep + 1 : Nat) : Int) by omega, Int.toNat_natCast]
      show fits (.lst 1 (splitC (by1 sep) s).length _) _
      rw [fits_lst, splitC_len]
      refine ⟨rfl, fun k j hk hj => ?_⟩
      rw [over1s _ _ _ _ _ hj]
      congr 1
      by_cases hki : k = cntB s sep
      · rw [if_pos hki, hki]; exact (rest_last _ _).symm
      · have hk : k < cntB s sep + 1 := hk
        rw [if_neg hki, doneS, if_pos (by omega)]
        rfl
  · (subst hL; subst hQ; simp only [L2, L3, std] at *; try simp only [sySet, syB, reduceCtorEq, forall_const, Int.reduceToNat, Int.reduceAdd, Int.reduceSub, Int.cast_ofNat_Int, Int.toNat_natCast, Nat.le_eq, Nat.sub_eq, ne_eq, implies_true, wadd, wsub, wmul, Nat.succ_eq_add_one] at *)
    exact absurd h3 (by decide)
def spl_s (L : Seal) : Ent1 := (129, fun xs => match xs with | [.str s, .str sep] => some (L oneB sep ∧ L2 L upto 1000000000 s, lstS L (L2 L splitS s sep)) | _ => none)
theorem spl_good : Good Tryz.prog (spl_s std) := by
  intro xs p r h hp
  dsimp only [spl_s] at h ⊢
  split at h <;> cases h
  try simp only [L2, L3, std] at hp ⊢
  rename_i s sep
  obtain ⟨p1, p2⟩ : oneB sep ∧ s.length ≤ 1000000000 := hp
  refine acalls_L (T := tt) (S := fun L => sumOf [gsp_s L]) (lo := noA) (lb := noA) 5 (fn := Tryz.f129) rfl rfl (by kernel_rfl) (by kernel_rfl) rfl tt_ok (sumOf_ok ⟨gsp_good, trivial⟩) (by kernel_rfl) ?_
  (intro L P1 Q1 hL hP hQ; cbv; subst hL; simp only [L2, L3, std, sat_need, sat_must, sat_ite, sat_done, sat_yes, sat_ex, sat_all, sat_sup, sat_and, sat_fail]; subst hQ)
  (simp only [sySet, syB, reduceCtorEq, forall_const, Int.reduceToNat, Int.reduceAdd, Int.reduceSub, Int.cast_ofNat_Int, Int.toNat_natCast, Nat.le_eq, Nat.sub_eq, ne_eq, implies_true, wadd, wsub, wmul, Nat.succ_eq_add_one])
  refine ⟨⟨p1, p2⟩, ?_⟩
  show fits (.lst 1 (lenSt (splitS s sep)) _) _
  rw [fits_lst]
  exact ⟨rfl, fun i j hi hj => rfl⟩
def toS : AV → List UInt8
  | .str s => s
  | _ => []
def partsOf (n : Nat) (get : Nat → Nat → AV) : List (List UInt8) := (List.range n).map fun i => toS (get i 0)
def jnZ (sep : List UInt8) (x : AV) : List UInt8 := match x with
  | .lst _ n get => Lib.join (partsOf n get) sep
  | _ => []
def jnOk (sep : List UInt8) (x : AV) : Prop := match x with
  | .lst 1 n get => (∀ i, i < n → ∃ s, get i 0 = .str s) ∧ n ≤ 1000000 ∧ (Lib.join (partsOf n get) sep).length ≤ 140737488355328
  | .nils => True
  | _ => False
def jn_s (L : Seal) : Ent1 := (133, fun xs => match xs with | [x, .str sep] => some (L2 L jnOk sep x, .str (L2 L jnZ sep x)) | _ => none)
theorem args_2 {h : Array Obj} {D : Nat → Prop} {x y : AV} {vs : Array Value} (hr : RL h D noMu [x, y] vs) : ∃ a b, vs = #[a, b] ∧ R h D noMu x a ∧ R h D noMu y b := by
  obtain ⟨hl, hr⟩ := hr
  obtain ⟨a, b, ha⟩ : ∃ a b, vs.toList = [a, b] := by
    have hl : vs.toList.length = 2 := by simpa using hl.symm
    match vs.toList, hl with
    | [a, b], _ => exact ⟨a, b, rfl⟩
  have : vs = #[a, b] := by rw [← Array.toArray_toList (xs := vs), ha]
  subst this
  exact ⟨a, b, rfl, hr 0 x a rfl rfl, hr 1 y b rfl rfl⟩
theorem jn_good : Good Tryz.prog (jn_s std) := by
  intro xs p r h hp
  dsimp only [jn_s] at h ⊢
  split at h <;> cases h
  try simp only [L2, L3, std] at hp ⊢
  rename_i x sep
  have hp : jnOk sep x := hp
  intro D w vs hD hxs hg
  obtain ⟨a, b, rfl, rx, ry⟩ := args_2 hxs
  obtain rfl := str_eq ry
  unfold CallTo
  rw [callFunc_run (fn := Tryz.f133) rfl (by kernel_rfl) rfl]
  have fin : ∀ (l : List UInt8), l = jnZ sep x → (∀ w', Below w.heap.size w w' → ∃ v D', Ending.returned (.string ⟨l.toArray⟩) = .returned v ∧ Below w.heap.size w w' ∧ (∀ b, D b → D' b) ∧ (∀ b, D' b → D b ∨ (w.heap.size ≤ b ∧ b < w'.heap.size)) ∧ R w'.heap D' noMu (.str (jnZ sep x)) v) := by
    rintro l rfl w' hw
    exact ⟨_, D, rfl, hw, fun _ h => h, fun b hb => .inl hb, str_r _ _ _ _⟩
  have none_ : jnZ sep x = [] → ∀ (a : Option Addr) (c : Nat), Calls Tryz.prog 133 #[.slice a 0 c, .string ⟨sep.toArray⟩] w fun e w' => ∃ v D', e = .returned v ∧ Below w.heap.size w w' ∧ (∀ b, D b → D' b) ∧ (∀ b, D' b → D b ∨ (w.heap.size ≤ b ∧ b < w'.heap.size)) ∧ R w'.heap D' noMu (.str (jnZ sep x)) v := by
    intro h0 a c
    refine (Tryz.strings_Join_none a c ⟨sep.toArray⟩ w).mono ?_
    rintro e w' ⟨rfl, rfl⟩
    exact fin [] h0.symm _ (Below.refl _ _)
  unfold jnOk at hp
  split at hp
  · rename_i n get _
    obtain ⟨h1, h2, h3⟩ := hp
    cases rx with
    | lst0 => exact none_ rfl _ _
    | lst _ _ _ b o cap us hD0 hc hv h1' hr =>
      have hl : (partsOf n get).length = n := by rw [partsOf, List.length_map, List.length_range]
      have hq : ∀ j x, ((partsOf n get).map (fun s : List UInt8 => (⟨s.toArray⟩ : ByteArray)))[j]? = some x → w.cell? ⟨b, o + j, none⟩ = some (.string x) := by
        intro j x hj
        have hjn : j < n := by
          have := (List.getElem?_eq_some_iff.1 hj).1
          rw [List.length_map, hl] at this
          exact this
        obtain ⟨s, hs⟩ := h1 j hjn
        have r := hr j 0 hjn (by omega)
        rw [hs] at r
        have hv := hv j 0 hjn (by omega)
        rw [str_eq r, Nat.mul_one, Nat.add_zero] at hv
        rw [cell_h, hv]
        have e2 : (partsOf n get)[j]? = some s := by rw [partsOf, List.getElem?_map, List.getElem?_range hjn, Option.map_some, hs]; rfl
        rw [List.getElem?_map, e2] at hj
        cases hj
        rfl
      have hm : ((partsOf n get).map (fun s : List UInt8 => (⟨s.toArray⟩ : ByteArray))).map (·.data.toList) = partsOf n get := by
        rw [List.map_map]
        exact List.map_id' _
      have := Tryz.strings_Join b o cap ((partsOf n get).map (fun s : List UInt8 => (⟨s.toArray⟩ : ByteArray))) ⟨sep.toArray⟩ w hq (hD b hD0) (by rw [List.length_map, hl]; omega) (by rw [List.length_map, hl]; exact hc) (by rw [hm]; exact h3)
      rw [hm, List.length_map, hl] at this
      refine this.mono ?_
      rintro e w' ⟨rfl, hw⟩
      exact fin _ rfl _ hw
  · cases rx
    exact none_ rfl _ _
  · exact hp.elim
end Sy
end Go.Proofs.YtcgikjfloloekaaGreatDoor
