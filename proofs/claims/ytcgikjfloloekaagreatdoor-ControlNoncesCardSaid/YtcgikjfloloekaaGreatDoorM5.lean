/-Chapter 7 (codec): the value that a text begins with: what the code does. Chapter 7 (codec): what is written is read as it was; Get. Chapter 7 (codec): Get. Chapter 7 (codec): values in rows, told cell by cell. Chapter 19 (session): how many numbers a kind has; a message's writing. Chapter 19 (session): a message read. Chapter 19 (session): New, Tick, Lost, Take, Done. Chapter 20 (control): offer, Raw, subscribed, Take, and what a control is asked. Chapter 19 (session): a message is read as it was written; the chapter's example. Chapter 20 (control): what comes of the messages (plain). The symbolic executor: the arguments of a law, opened: what the given data says of them, as abstract values. The law ControlNonces: what is offered in an epoch has rising nonces. What is read of a message are numbers of 64 bits (plain).-/
import Derived.Test.YtcgikjfloloekaaGreatDoorM4
import Derived.Test.YtcgikjfloloekaaGreatDoorM3
import Derived.ChangeArms
import Derived.ChangeSlices
import Derived.OpenShut
import Derived.WideShapes
namespace Go.Proofs.YtcgikjfloloekaaGreatDoor
namespace Sy
open Go Go.RowKit
set_option maxRecDepth 100000
set_option linter.unusedSimpArgs false
set_option linter.unusedVariables false
structure Lv where
  left : Int
  l : List CV
structure NR where
  v : CV
  r : List UInt8
  e : Int
structure NX where
  st : List Lv
  s : List UInt8
  f : Nat
  v : CV
def nrBad (e : Int) : NR := ⟨.mk 0 0 [] [], [], e⟩
def nxtDone (val : List Lv → List UInt8 → NR) : List Lv → CV → List UInt8 → NR
  | [], v, s => ⟨v, s, 0⟩
  | a :: st, v, s => if a.left - 1 = 0 then nxtDone val st (.mk 3 0 [] (a.l ++ [v])) s else val (⟨a.left - 1, a.l ++ [v]⟩ :: st) s
def nxtShut (val : List Lv → List UInt8 → NR) : List Lv → List UInt8 → NR
  | [], s => nrBad 0
  | a :: st, s => if a.left = 0 then nxtDone val st (.mk 3 0 [] a.l) s else val (a :: st) s
def nxtRest (s : List UInt8) : List UInt8 := (s.drop 1).drop (lngK (s.drop 1)).toNat
def nxtVal : Nat → List Lv → List UInt8 → NR
  | 0, _, _ => nrBad 0
  | f + 1, st, s =>
    if s = [] then nrBad 3
    else if cb s 0 < 1 ∨ 3 < cb s 0 then nrBad 10
    else if lngE (s.drop 1) ≠ 0 then nrBad (lngE (s.drop 1))
    else if cb s 0 = 1 then nxtDone (nxtVal f) st (.mk 1 (lngN (s.drop 1)) [] []) (nxtRest s)
    else if cb s 0 = 2 then
      if ((nxtRest s).length : Int) < lngN (s.drop 1) then nrBad 3
      else nxtDone (nxtVal f) st (.mk 2 0 ((nxtRest s).take (lngN (s.drop 1)).toNat) []) ((nxtRest s).drop (lngN (s.drop 1)).toNat)
    else if st.length = 6 then nrBad 8
    else nxtShut (nxtVal f) (⟨lngN (s.drop 1), []⟩ :: st) (nxtRest s)
def nxtTop (s : List UInt8) : NR := if 8192 < s.length then nrBad 5 else nxtVal (s.length + 1) [] s
def sumSt : List Lv → Nat
  | [] => 0
  | a :: r => a.l.length + 1 + sumSt r
def lvOk (st : List Lv) : Prop := ∀ a ∈ st, 1 ≤ a.left ∧ a.left < 18446744073709551616
def nInv1 (s0 : List UInt8) (x : NX) : Prop := x.st.length ≤ 6 ∧ lvOk x.st ∧ x.s.length < x.f ∧ x.s.length + sumSt x.st ≤ 8192 ∧ nxtVal x.f x.st x.s = nxtTop s0
def nInv2 (s0 : List UInt8) (x : NX) : Prop := x.st.length ≤ 6 ∧ (∃ a r, x.st = a :: r ∧ 0 ≤ a.left ∧ a.left < 18446744073709551616 ∧ lvOk r) ∧ x.s.length < x.f ∧ x.s.length + sumSt x.st ≤ 8192 ∧ nxtShut (nxtVal x.f) x.st x.s = nxtTop s0
def nInv3 (s0 : List UInt8) (x : NX) : Prop := x.st.length ≤ 6 ∧ lvOk x.st ∧ x.s.length < x.f ∧ x.s.length + sumSt x.st + 1 ≤ 8192 ∧ nxtDone (nxtVal x.f) x.st x.v x.s = nxtTop s0
def nMu (c : Nat) (x : NX) : Nat := 20 * x.s.length + 3 * x.st.length + c
theorem lng_fact {s : List UInt8} : ∀ (f i n : Nat), f + i = 10 → n < 2 ^ (7 * i) → i ≤ s.length → (lng s f i n).2.1 ≤ 10 ∧ ((lng s f i n).2.2 = 0 → 1 ≤ (lng s f i n).2.1 ∧ (lng s f i n).2.1 ≤ s.length ∧ (lng s f i n).1 < 2 ^ 64)
  | 0, i, n, hf, hn, hi => by simp [lng]
  | f + 1, i, n, hf, hn, hi => by
    rw [lng]
    by_cases h1 : s.length ≤ i
    · rw [if_pos h1]; simp
    · rw [if_neg h1]
      by_cases h2 : i = 9 ∧ 1 < cb s i
      · rw [if_pos h2]; simp
      · rw [if_neg h2]
        have hb := lng_bits (by omega) hn (cb_lt s i) h2
        by_cases h3 : 128 ≤ cb s i
        · rw [if_pos h3]
          by_cases h9 : i = 9
          · omega
          · exact lng_fact f (i + 1) _ (by omega) hb.1 (by omega)
        · rw [if_neg h3]
          by_cases h4 : 0 < cb s i ∨ i = 0
          · rw [if_pos h4]
            exact ⟨by show i + 1 ≤ 10; omega, fun _ => ⟨by show 1 ≤ i + 1; omega, by show i + 1 ≤ s.length; omega, hb.2.1⟩⟩
          · rw [if_neg h4]; simp
theorem lngK_le (s : List UInt8) : 0 ≤ lngK s ∧ lngK s ≤ 10 := by
  have := (lng_fact (s := s) 10 0 0 rfl (by simp) (Nat.zero_le _)).1
  unfold lngK
  omega
theorem lng_yes {s : List UInt8} (h : lngE s = 0) : 1 ≤ lngK s ∧ lngK s ≤ (s.length : Int) ∧ 0 ≤ lngN s ∧ lngN s < 18446744073709551616 := by
  have := (lng_fact (s := s) 10 0 0 rfl (by simp) (Nat.zero_le _)).2
  unfold lngE at h
  unfold lngK lngN
  have := this (by omega)
  omega
theorem k_is (s : List UInt8) : (((s.getD 0 0).toNat : Int) + 9223372036854775808) % 18446744073709551616 - 9223372036854775808 = (cb s 0 : Int) := by
  have := cb_lt s 0
  unfold cb at *
  omega
theorem rest_is (s : List UInt8) : s.drop ((1 + lngK (s.drop 1) + 9223372036854775808) % 18446744073709551616 - 9223372036854775808).toNat = nxtRest s ∧ (1 + lngK (s.drop 1) + 9223372036854775808) % 18446744073709551616 - 9223372036854775808 = 1 + lngK (s.drop 1) := by
  have := lngK_le (s.drop 1)
  have e : (1 + lngK (s.drop 1) + 9223372036854775808) % 18446744073709551616 - 9223372036854775808 = 1 + lngK (s.drop 1) := by omega
  rw [e]
  refine ⟨?_, rfl⟩
  unfold nxtRest
  rw [List.drop_drop]
  congr 1
theorem rest_len {s : List UInt8} (h0 : ¬ s = []) (h : lngE (s.drop 1) = 0) : (nxtRest s).length + 2 ≤ s.length ∧ 1 + lngK (s.drop 1) ≤ (s.length : Int) := by
  have h1 := lng_yes h
  have : 0 < s.length := List.length_pos_iff.2 h0
  have hl : (s.drop 1).length = s.length - 1 := List.length_drop
  unfold nxtRest
  rw [List.length_drop]
  omega
theorem nr_bad {s0 : List UInt8} {e : Int} (h : nxtTop s0 = nrBad e) : fits (.tup [cvA std (nxtTop s0).v, .str (nxtTop s0).r, .int .i64 (nxtTop s0).e]) (.tup [.agg [.int .i64 0, .int .u64 0, .str [], .nils], .str [], .int .i64 e]) := by
  rw [h]
  show fits (.tup [.agg [.int .i64 0, .int .u64 0, .str [], .lst 4 0 (cvIn (.mk 0 0 [] []))], .str [], .int .i64 e]) _
  simp [sySet]
theorem nr_good {s0 : List UInt8} {v : CV} {s : List UInt8} (h : nxtTop s0 = ⟨v, s, 0⟩) : fits (.tup [cvA std (nxtTop s0).v, .str (nxtTop s0).r, .int .i64 (nxtTop s0).e]) (.tup [.agg [.int .i64 v.kd, .int .u64 v.nn, .str v.tx, .lst 4 (lenV v) (cvIn v)], .str s, .int .i64 0]) := by
  rw [h]
  show fits (.tup [.agg [.int .i64 v.kd, .int .u64 v.nn, .str v.tx, .lst 4 (lenV v) (cvIn v)], .str s, .int .i64 0]) _
  simp [sySet]
section
variable {s0 s : List UInt8} {st : List Lv} {f : Nat} {v : CV}
theorem nx_un (h : nInv1 s0 ⟨st, s, f, v⟩) : nxtTop s0 =
    if s = [] then nrBad 3
    else if cb s 0 < 1 ∨ 3 < cb s 0 then nrBad 10
    else if lngE (s.drop 1) ≠ 0 then nrBad (lngE (s.drop 1))
    else if cb s 0 = 1 then nxtDone (nxtVal (f - 1)) st (.mk 1 (lngN (s.drop 1)) [] []) (nxtRest s)
    else if cb s 0 = 2 then
      if ((nxtRest s).length : Int) < lngN (s.drop 1) then nrBad 3
      else nxtDone (nxtVal (f - 1)) st (.mk 2 0 ((nxtRest s).take (lngN (s.drop 1)).toNat) []) ((nxtRest s).drop (lngN (s.drop 1)).toNat)
    else if st.length = 6 then nrBad 8
    else nxtShut (nxtVal (f - 1)) (⟨lngN (s.drop 1), []⟩ :: st) (nxtRest s) := by
  obtain ⟨_, _, h3, _, h5⟩ := h
  simp only at h3 h5
  rw [← h5]
  obtain ⟨g, rfl⟩ : ∃ g, f = g + 1 := ⟨f - 1, by omega⟩
  rw [nxtVal]
  rfl
variable (h : nInv1 s0 ⟨st, s, f, v⟩)
include h
theorem nx_0 (h1 : s = []) : nxtTop s0 = nrBad 3 := by rw [nx_un h, if_pos h1]
theorem nx_1 (h1 : ¬ s = []) (h2 : (cb s 0 : Int) < 1 ∨ 3 < (cb s 0 : Int)) : nxtTop s0 = nrBad 10 := by rw [nx_un h, if_neg h1, if_pos (by omega)]
theorem nx_2 (h1 : ¬ s = []) (h2 : 1 ≤ (cb s 0 : Int)) (h3 : (cb s 0 : Int) ≤ 3) (h4 : ¬ lngE (s.drop 1) = 0) : nxtTop s0 = nrBad (lngE (s.drop 1)) := by rw [nx_un h, if_neg h1, if_neg (by omega), if_pos h4]
omit h in
theorem nx_in (h1 : ¬ s = []) (h4 : lngE (s.drop 1) = 0) : 0 ≤ 1 + lngK (s.drop 1) ∧ 1 + lngK (s.drop 1) ≤ (s.length : Int) := by
  have := lng_yes h4
  exact ⟨by omega, (rest_len h1 h4).2⟩
theorem nx_3 (h1 : ¬ s = []) (h4 : lngE (s.drop 1) = 0) (h5 : (cb s 0 : Int) = 1) : nInv3 s0 ⟨st, nxtRest s, f - 1, .mk 1 (lngN (s.drop 1)) [] []⟩ ∧ 20 * (nxtRest s).length + 3 * st.length + 2 + 1 ≤ 20 * s.length + 3 * st.length + 0 := by
  have e := nx_un h
  rw [if_neg h1, if_neg (by omega), if_neg (by simpa using h4), if_pos (by omega)] at e
  obtain ⟨a1, a2, a3, a4, a5⟩ := h
  have hr := rest_len h1 h4
  simp only at a1 a2 a3 a4
  exact ⟨⟨a1, a2, by show (nxtRest s).length < f - 1; omega, by show (nxtRest s).length + sumSt st + 1 ≤ 8192; omega, e.symm⟩, by omega⟩
theorem nx_4 (h1 : ¬ s = []) (h4 : lngE (s.drop 1) = 0) (h6 : (cb s 0 : Int) = 2) (h7 : ((nxtRest s).length : Int) % 18446744073709551616 < lngN (s.drop 1)) : nxtTop s0 = nrBad 3 := by
  have e := nx_un h
  obtain ⟨a1, a2, a3, a4, a5⟩ := h
  have hr := rest_len h1 h4
  simp only at a4
  rw [if_neg h1, if_neg (by omega), if_neg (by simpa using h4), if_neg (by omega), if_pos (by omega), if_pos (by omega)] at e
  exact e
theorem nx_5 (h1 : ¬ s = []) (h4 : lngE (s.drop 1) = 0) (h7 : lngN (s.drop 1) ≤ ((nxtRest s).length : Int) % 18446744073709551616) : 0 ≤ lngN (s.drop 1) ∧ lngN (s.drop 1) ≤ ((nxtRest s).length : Int) := by
  obtain ⟨a1, a2, a3, a4, a5⟩ := h
  have hr := rest_len h1 h4
  have := lng_yes h4
  simp only at a4
  omega
theorem nx_6 (h1 : ¬ s = []) (h4 : lngE (s.drop 1) = 0) (h6 : (cb s 0 : Int) = 2) (h7 : lngN (s.drop 1) ≤ ((nxtRest s).length : Int) % 18446744073709551616) :
    nInv3 s0 ⟨st, (nxtRest s).drop (lngN (s.drop 1)).toNat, f - 1, .mk 2 0 ((nxtRest s).take (lngN (s.drop 1)).toNat) []⟩ ∧ 20 * ((nxtRest s).drop (lngN (s.drop 1)).toNat).length + 3 * st.length + 2 + 1 ≤ 20 * s.length + 3 * st.length + 0 := by
  have e := nx_un h
  obtain ⟨a1, a2, a3, a4, a5⟩ := h
  have hr := rest_len h1 h4
  simp only at a1 a2 a3 a4
  rw [if_neg h1, if_neg (by omega), if_neg (by simpa using h4), if_neg (by omega), if_pos (by omega), if_neg (by omega)] at e
  have hl : ((nxtRest s).drop (lngN (s.drop 1)).toNat).length ≤ (nxtRest s).length := by rw [List.length_drop]; omega
  exact ⟨⟨a1, a2, by show ((nxtRest s).drop (lngN (s.drop 1)).toNat).length < f - 1; omega, by show ((nxtRest s).drop (lngN (s.drop 1)).toNat).length + sumSt st + 1 ≤ 8192; omega, e.symm⟩, by omega⟩
theorem nx_7 (h1 : ¬ s = []) (h4 : lngE (s.drop 1) = 0) (h7 : (cb s 0 : Int) = 3) (h8 : st.length = 6) : nxtTop s0 = nrBad 8 := by
  have e := nx_un h
  rw [if_neg h1, if_neg (by omega), if_neg (by simpa using h4), if_neg (by omega), if_neg (by omega), if_pos h8] at e
  exact e
theorem nx_8 (h1 : ¬ s = []) (h4 : lngE (s.drop 1) = 0) (h7 : (cb s 0 : Int) = 3) (h8 : ¬ st.length = 6) : nInv2 s0 ⟨⟨lngN (s.drop 1), []⟩ :: st, nxtRest s, f - 1, v⟩ ∧ 20 * (nxtRest s).length + 3 * (st.length + 1) + 1 + 1 ≤ 20 * s.length + 3 * st.length + 0 := by
  have e := nx_un h
  rw [if_neg h1, if_neg (by omega), if_neg (by simpa using h4), if_neg (by omega), if_neg (by omega), if_neg h8] at e
  obtain ⟨a1, a2, a3, a4, a5⟩ := h
  have hr := rest_len h1 h4
  have hn := lng_yes h4
  simp only at a1 a2 a3 a4
  refine ⟨⟨by show st.length + 1 ≤ 6; omega, ⟨_, _, rfl, hn.2.2.1, hn.2.2.2, a2⟩, by show (nxtRest s).length < f - 1; omega, ?_, e.symm⟩, by omega⟩
  show (nxtRest s).length + (0 + 1 + sumSt st) ≤ 8192
  omega
end
section
variable {s0 s : List UInt8} {st : List Lv} {f : Nat} {v : CV} {a : Lv}
theorem nd_0 (h : nInv3 s0 ⟨[], s, f, v⟩) : nxtTop s0 = ⟨v, s, 0⟩ := h.2.2.2.2.symm
theorem nd_1 (h : nInv3 s0 ⟨a :: st, s, f, v⟩) : nInv2 s0 ⟨⟨a.left - 1, a.l ++ [v]⟩ :: st, s, f, v⟩ ∧ a.l.length ≤ 8192 ∧ 1 ≤ a.left ∧ a.left < 18446744073709551616 ∧ 20 * s.length + 3 * (st.length + 1) + 1 + 1 ≤ 20 * s.length + 3 * (st.length + 1) + 2 := by
  obtain ⟨a1, a2, a3, a4, a5⟩ := h
  simp only at a1 a2 a3 a4 a5
  have h1 := a2 a (by simp)
  have e4 : sumSt (a :: st) = a.l.length + 1 + sumSt st := rfl
  refine ⟨⟨a1, ⟨_, _, rfl, by show 0 ≤ a.left - 1; omega, by show a.left - 1 < _; omega, fun b hb => a2 b (by simp [hb])⟩, a3, ?_, ?_⟩, by omega, h1.1, h1.2, by omega⟩
  · show s.length + ((a.l ++ [v]).length + 1 + sumSt st) ≤ 8192
    rw [List.length_append, List.length_singleton]
    omega
  · rw [← a5]; rfl
theorem ns_0 (h : nInv2 s0 ⟨a :: st, s, f, v⟩) (h0 : a.left = 0) : nInv3 s0 ⟨st, s, f, .mk 3 0 [] a.l⟩ ∧ 20 * s.length + 3 * st.length + 2 + 1 ≤ 20 * s.length + 3 * (st.length + 1) + 1 := by
  obtain ⟨a1, ⟨b, r, e1, b1, b2, b3⟩, a3, a4, a5⟩ := h
  simp only at a1 a3 a4 a5 e1
  cases e1
  have e4 : sumSt (a :: st) = a.l.length + 1 + sumSt st := rfl
  have e5 : (a :: st).length = st.length + 1 := rfl
  refine ⟨⟨by show st.length ≤ 6; omega, b3, a3, by show s.length + sumSt st + 1 ≤ 8192; omega, ?_⟩, by omega⟩
  rw [← a5, nxtShut, if_pos h0]
theorem ns_1 (h : nInv2 s0 ⟨a :: st, s, f, v⟩) (h0 : ¬ a.left = 0) : nInv1 s0 ⟨a :: st, s, f, v⟩ := by
  obtain ⟨a1, ⟨b, r, e1, b1, b2, b3⟩, a3, a4, a5⟩ := h
  simp only at a1 a3 a4 a5 e1
  cases e1
  refine ⟨a1, fun c hc => ?_, a3, a4, ?_⟩
  · rcases List.mem_cons.1 hc with rfl | hc
    · exact ⟨by omega, b2⟩
    · exact b3 c hc
  · rw [← a5, nxtShut, if_neg h0]
end
theorem nm_1 (s0 : List UInt8) (h : ¬ 8192 < (s0.length : Int)) (v : CV) : nInv1 s0 ⟨[], s0, s0.length + 1, v⟩ := by
  refine ⟨by simp, fun a ha => by simp at ha, by simp, by simp [sumSt]; omega, ?_⟩
  unfold nxtTop
  rw [if_neg (by omega)]
theorem nm_0 (s0 : List UInt8) (h : 8192 < (s0.length : Int)) : nxtTop s0 = nrBad 5 := by
  unfold nxtTop
  rw [if_pos (by omega)]
theorem nx_9 {s0 s : List UInt8} {st : List Lv} {f f1 : Nat} {v : CV} {a1 : Lv} {s1 : List UInt8} (hx : nInv1 s0 ⟨st, s, f, v⟩) (h1 : ¬ s = []) (h4 : lngE (s.drop 1) = 0) (h7 : (cb s 0 : Int) = 3) (h8 : ¬ st.length = 6)
    (ha1 : a1 = ⟨lngN (s.drop 1), []⟩) (hs1 : s1 = nxtRest s) (hf1 : f1 = f - 1) : 0 = lenL a1.l ∧ 0 = lenL a1.l ∧ lngN (s.drop 1) = a1.left ∧ nxtRest s = s1 ∧ nInv2 s0 ⟨a1 :: st, s1, f1, v⟩ ∧ nMu 1 ⟨a1 :: st, s1, f1, v⟩ + 1 ≤ nMu 0 ⟨st, s, f, v⟩ := by
  obtain ⟨q1, q2⟩ := nx_8 hx h1 h4 h7 h8
  subst ha1 hs1 hf1
  exact ⟨rfl, rfl, rfl, rfl, q1, q2⟩
theorem cv_push4 (a : List CV) (v : CV) {p j : Nat} (hp : p < a.length + 1) (hj : j < 4) :
    over std a.length 0 4 [.int .i64 v.kd, .int .u64 v.nn, .str v.tx, .lst 4 (lenV v) (cvIn v)] (fun i j => sel1 std (nblt i a.length) (cvGet a i j) (lget .dead [.int .i64 0, .int .u64 0, .str [], .nils] ((i - a.length) * 4 + j))) p j = cvGet (a ++ [v]) p j := by
  rw [← cv_push3 a v hp hj, over_get, if_pos ⟨Nat.zero_le _, by omega⟩, Nat.sub_zero]
  have e0 : p - a.length = 0 := by omega
  rw [e0, Nat.zero_mul, Nat.zero_add]
  by_cases h : p < a.length
  · rw [blt_t h, beq_no (show p ≠ a.length by omega), cvGet_nth a p j h, ← cv1_std _ j hj]
    match j, hj with
    | 0, _ => rfl
    | 1, _ => rfl
    | 2, _ => rfl
    | 3, _ => rfl
  · rw [blt_f h, show nbeq p a.length = true by rw [show p = a.length by omega, beq_same], cvGet_far a p j (by omega)]
    match j, hj with
    | 0, _ => rfl
    | 1, _ => rfl
    | 2, _ => rfl
    | 3, _ => rfl
theorem nd_room {a : Lv} (h : a.l.length ≤ 8192) : (lenL a.l + 1) * 56 ≤ 140737488355328 ∧ lenL a.l + 1 ≤ 9223372036854775807 := by
  have : lenL a.l = a.l.length := rfl
  omega
theorem nd_in (n : Nat) : 0 ≤ (n : Int) ∧ (n : Int) < ((n.add 1 : Nat) : Int) := by
  have : n.add 1 = n + 1 := rfl
  omega
def stCells (L : Seal) : List Lv → List AV
  | [] => []
  | a :: r => lapp (stCells L r) [.int .u64 (L Lv.left a), .sl (911 + llen r) 4 0 (L lenL (L Lv.l a))]
def stRows (L : Seal) : List Lv → List (Nat × Ob)
  | [] => []
  | a :: r => (911 + llen r, .row 89 4 (L lenL (L Lv.l a)) (L cvGet (L Lv.l a))) :: stRows L r
def stV : List Lv → AV
  | [] => .nils
  | _ :: r => .sl 910 2 0 (llen r + 1)
def stOs (L : Seal) : List Lv → List (Nat × Ob)
  | [] => []
  | a :: r => (910, .spr 188 (stCells L (a :: r))) :: stRows L (a :: r)
def deadV : Nat × Ob := (6, .box 89 [.dead, .dead, .dead, .dead])
def nextA (L : Seal) (s0 : List UInt8) : Nat → St → Option Ann := fun id _ => match id with
  | 1 => some ⟨NX, fun x => [(0, .str (L NX.s x)), (6, .ref 6 0), (5, stV x.st)], fun x => deadV :: stOs L x.st, [2], [2],
      fun x => L2 L nInv1 s0 x, fun x => L (nMu 0) x⟩
  | 2 => some ⟨NX, fun x => [(0, .str (L NX.s x)), (6, .ref 6 0), (5, stV x.st)], fun x => deadV :: stOs L x.st, [2], [2],
      fun x => L2 L nInv2 s0 x, fun x => L (nMu 1) x⟩
  | 3 => some ⟨NX, fun x => [(0, .str (L NX.s x)), (6, .ref 6 0), (5, .sl 910 2 0 (llen x.st))],
      fun x => (6, .box 89 [.int .i64 (L CV.kd (L NX.v x)), .int .u64 (L CV.nn (L NX.v x)), .str (L CV.tx (L NX.v x)), .sl 909 4 0 (L lenV (L NX.v x))]) ::
        (909, .row 89 4 (L lenV (L NX.v x)) (L cvIn (L NX.v x))) :: (910, .spr 188 (stCells L x.st)) :: stRows L x.st, [2], [2],
      fun x => L2 L nInv3 s0 x, fun x => L (nMu 2) x⟩
  | _ => none
def nrA (L : Seal) (r : NR) : AV := .tup [cvA L (L NR.v r), .str (L NR.r r), .int .i64 (L NR.e r)]
def next_s (L : Seal) : Ent1 := (61, fun xs => match xs with | [.str s] => some (True, nrA L (L nxtTop s)) | _ => none)
set_option maxHeartbeats 4000000 in
theorem next_good : Good Tryz.prog (next_s std) := by
  intro xs p r h hp
  dsimp only [next_s] at h ⊢
  split at h <;> cases h
  try simp only [L2, L3, std] at hp ⊢
  rename_i s0
  refine acalls_L (T := tt) (S := fun L => sumOf [lng_s L]) (lo := noA) (lb := fun L => nextA L s0) 5 (fn := Tryz.f61) rfl rfl (by kernel_rfl) (by kernel_rfl) rfl tt_ok (sumOf_ok ⟨lng_good, trivial⟩) (by kernel_rfl) ?_
  intro L P' Q' hL hP hQ
  (cbv; try simp only [sat_need, sat_must, sat_ite, sat_done, sat_yes, sat_ex, sat_all, sat_sup, sat_and, sat_fail, true_and, and_true])
  refine ⟨fun x hx => ?_, fun x hx => ?_, fun x hx => ?_, ?_⟩
  · obtain ⟨st, s, f, v⟩ := x
    cbv at hx
    match st, hx with
    | [], hx =>
      (cbv; try simp only [sat_need, sat_must, sat_ite, sat_done, sat_yes, sat_ex, sat_all, sat_sup, sat_and, sat_fail, true_and, and_true])
      obtain ⟨s1, hs1⟩ : ∃ s1, s1 = nxtRest s := ⟨_, rfl⟩
      obtain ⟨s2, hs2⟩ : ∃ s2, s2 = (nxtRest s).drop (lngN (s.drop 1)).toNat := ⟨_, rfl⟩
      obtain ⟨v1, hv1⟩ : ∃ v1, v1 = CV.mk 1 (lngN (s.drop 1)) [] [] := ⟨_, rfl⟩
      obtain ⟨v2, hv2⟩ : ∃ v2, v2 = CV.mk 2 0 ((nxtRest s).take (lngN (s.drop 1)).toNat) [] := ⟨_, rfl⟩
      obtain ⟨a1, ha1⟩ : ∃ a1, a1 = Lv.mk (lngN (s.drop 1)) [] := ⟨_, rfl⟩
      obtain ⟨f1, hf1⟩ : ∃ f1, f1 = f - 1 := ⟨_, rfl⟩
      refine ⟨fun h1 => ?_, fun h1 => ⟨?_, fun h2 => ?_, fun h2 => ⟨fun h3 => ?_, fun h3 => ⟨?_, fun h4 => ?_, fun h4 => ⟨?_, fun h5 => ⟨⟨[], s1, f1, v1⟩, ?_⟩, fun h5 => ⟨fun h6 => ⟨fun h7 => ?_, fun h7 => ⟨?_, ?_, ⟨[], s2, f1, v2⟩, ?_⟩⟩, fun h6 => ⟨fun h7 => ⟨fun h8 => ?_, fun h8 => ⟨?_, ⟨[a1], s1, f1, v⟩, ?_⟩⟩, fun h7 => ?_⟩⟩⟩⟩⟩⟩⟩
      · (subst hL; subst hQ; simp only [L2, L3, std] at *; try simp only [sySet, reduceCtorEq, forall_const, Int.reduceToNat, Int.reduceAdd, Int.reduceSub, Int.cast_ofNat_Int, Int.toNat_natCast, Nat.le_eq, Nat.sub_eq, ne_eq, Decidable.not_not, implies_true, true_and, and_true, wadd, wsub, wmul, decide_eq_true_eq, decide_eq_false_iff_not, Nat.succ_eq_add_one, imp_false, not_false_eq_true, not_true_eq_false, false_imp_iff, true_imp_iff] at *)
        exact nr_bad (nx_0 hx h1)
      · (subst hL; subst hQ; simp only [L2, L3, std] at *; try simp only [sySet, reduceCtorEq, forall_const, Int.reduceToNat, Int.reduceAdd, Int.reduceSub, Int.cast_ofNat_Int, Int.toNat_natCast, Nat.le_eq, Nat.sub_eq, ne_eq, Decidable.not_not, implies_true, true_and, and_true, wadd, wsub, wmul, decide_eq_true_eq, decide_eq_false_iff_not, Nat.succ_eq_add_one, imp_false, not_false_eq_true, not_true_eq_false, false_imp_iff, true_imp_iff] at *)
        have := List.length_pos_iff.2 h1
        omega
      · (subst hL; subst hQ; simp only [L2, L3, std] at *; try simp only [sySet, reduceCtorEq, forall_const, Int.reduceToNat, Int.reduceAdd, Int.reduceSub, Int.cast_ofNat_Int, Int.toNat_natCast, Nat.le_eq, Nat.sub_eq, ne_eq, Decidable.not_not, implies_true, true_and, and_true, wadd, wsub, wmul, decide_eq_true_eq, decide_eq_false_iff_not, Nat.succ_eq_add_one, imp_false, not_false_eq_true, not_true_eq_false, false_imp_iff, true_imp_iff] at *)
        rw [k_is] at h2
        exact nr_bad (nx_1 hx h1 (.inl h2))
      · (subst hL; subst hQ; simp only [L2, L3, std] at *; try simp only [sySet, reduceCtorEq, forall_const, Int.reduceToNat, Int.reduceAdd, Int.reduceSub, Int.cast_ofNat_Int, Int.toNat_natCast, Nat.le_eq, Nat.sub_eq, ne_eq, Decidable.not_not, implies_true, true_and, and_true, wadd, wsub, wmul, decide_eq_true_eq, decide_eq_false_iff_not, Nat.succ_eq_add_one, imp_false, not_false_eq_true, not_true_eq_false, false_imp_iff, true_imp_iff] at *)
        rw [k_is] at h3
        exact nr_bad (nx_1 hx h1 (.inr h3))
      · (subst hL; subst hQ; simp only [L2, L3, std] at *; try simp only [sySet, reduceCtorEq, forall_const, Int.reduceToNat, Int.reduceAdd, Int.reduceSub, Int.cast_ofNat_Int, Int.toNat_natCast, Nat.le_eq, Nat.sub_eq, ne_eq, Decidable.not_not, implies_true, true_and, and_true, wadd, wsub, wmul, decide_eq_true_eq, decide_eq_false_iff_not, Nat.succ_eq_add_one, imp_false, not_false_eq_true, not_true_eq_false, false_imp_iff, true_imp_iff] at *)
        have := List.length_pos_iff.2 h1
        omega
      · (subst hL; subst hQ; simp only [L2, L3, std] at *; try simp only [sySet, reduceCtorEq, forall_const, Int.reduceToNat, Int.reduceAdd, Int.reduceSub, Int.cast_ofNat_Int, Int.toNat_natCast, Nat.le_eq, Nat.sub_eq, ne_eq, Decidable.not_not, implies_true, true_and, and_true, wadd, wsub, wmul, decide_eq_true_eq, decide_eq_false_iff_not, Nat.succ_eq_add_one, imp_false, not_false_eq_true, not_true_eq_false, false_imp_iff, true_imp_iff] at *)
        rw [k_is] at h2 h3
        exact nr_bad (nx_2 hx h1 h2 h3 h4)
      · (subst hL; subst hQ; simp only [L2, L3, std] at *; try simp only [sySet, reduceCtorEq, forall_const, Int.reduceToNat, Int.reduceAdd, Int.reduceSub, Int.cast_ofNat_Int, Int.toNat_natCast, Nat.le_eq, Nat.sub_eq, ne_eq, Decidable.not_not, implies_true, true_and, and_true, wadd, wsub, wmul, decide_eq_true_eq, decide_eq_false_iff_not, Nat.succ_eq_add_one, imp_false, not_false_eq_true, not_true_eq_false, false_imp_iff, true_imp_iff] at *)
        rw [(rest_is s).2]
        exact nx_in h1 h4
      · (cbv; try simp only [sat_need, sat_must, sat_ite, sat_done, sat_yes, sat_ex, sat_all, sat_sup, sat_and, sat_fail, true_and, and_true])
        (subst hL; subst hQ; simp only [L2, L3, std] at *; try simp only [sySet, reduceCtorEq, forall_const, Int.reduceToNat, Int.reduceAdd, Int.reduceSub, Int.cast_ofNat_Int, Int.toNat_natCast, Nat.le_eq, Nat.sub_eq, ne_eq, Decidable.not_not, implies_true, true_and, and_true, wadd, wsub, wmul, decide_eq_true_eq, decide_eq_false_iff_not, Nat.succ_eq_add_one, imp_false, not_false_eq_true, not_true_eq_false, false_imp_iff, true_imp_iff] at *)
        simp only [k_is, (rest_is s).1] at h5 ⊢
        obtain ⟨q1, q2⟩ := nx_3 hx h1 h4 h5
        rw [hv1, hs1, hf1]
        exact ⟨rfl, rfl, rfl, rfl, h5, rfl, q1, q2⟩
      · (subst hL; subst hQ; simp only [L2, L3, std] at *; try simp only [sySet, reduceCtorEq, forall_const, Int.reduceToNat, Int.reduceAdd, Int.reduceSub, Int.cast_ofNat_Int, Int.toNat_natCast, Nat.le_eq, Nat.sub_eq, ne_eq, Decidable.not_not, implies_true, true_and, and_true, wadd, wsub, wmul, decide_eq_true_eq, decide_eq_false_iff_not, Nat.succ_eq_add_one, imp_false, not_false_eq_true, not_true_eq_false, false_imp_iff, true_imp_iff] at *)
        simp only [k_is, (rest_is s).1] at h6 h7
        exact nr_bad (nx_4 hx h1 h4 h6 h7)
      · (subst hL; subst hQ; simp only [L2, L3, std] at *; try simp only [sySet, reduceCtorEq, forall_const, Int.reduceToNat, Int.reduceAdd, Int.reduceSub, Int.cast_ofNat_Int, Int.toNat_natCast, Nat.le_eq, Nat.sub_eq, ne_eq, Decidable.not_not, implies_true, true_and, and_true, wadd, wsub, wmul, decide_eq_true_eq, decide_eq_false_iff_not, Nat.succ_eq_add_one, imp_false, not_false_eq_true, not_true_eq_false, false_imp_iff, true_imp_iff] at *)
        simp only [k_is, (rest_is s).1] at h7 ⊢
        exact nx_5 hx h1 h4 h7
      · (subst hL; subst hQ; simp only [L2, L3, std] at *; try simp only [sySet, reduceCtorEq, forall_const, Int.reduceToNat, Int.reduceAdd, Int.reduceSub, Int.cast_ofNat_Int, Int.toNat_natCast, Nat.le_eq, Nat.sub_eq, ne_eq, Decidable.not_not, implies_true, true_and, and_true, wadd, wsub, wmul, decide_eq_true_eq, decide_eq_false_iff_not, Nat.succ_eq_add_one, imp_false, not_false_eq_true, not_true_eq_false, false_imp_iff, true_imp_iff] at *)
        simp only [k_is, (rest_is s).1] at h7 ⊢
        exact nx_5 hx h1 h4 h7
      · (cbv; try simp only [sat_need, sat_must, sat_ite, sat_done, sat_yes, sat_ex, sat_all, sat_sup, sat_and, sat_fail, true_and, and_true])
        (subst hL; subst hQ; simp only [L2, L3, std] at *; try simp only [sySet, reduceCtorEq, forall_const, Int.reduceToNat, Int.reduceAdd, Int.reduceSub, Int.cast_ofNat_Int, Int.toNat_natCast, Nat.le_eq, Nat.sub_eq, ne_eq, Decidable.not_not, implies_true, true_and, and_true, wadd, wsub, wmul, decide_eq_true_eq, decide_eq_false_iff_not, Nat.succ_eq_add_one, imp_false, not_false_eq_true, not_true_eq_false, false_imp_iff, true_imp_iff] at *)
        simp only [k_is, (rest_is s).1] at h6 h7 ⊢
        obtain ⟨q1, q2⟩ := nx_6 hx h1 h4 h6 h7
        rw [hv2, hs2, hf1]
        exact ⟨rfl, rfl, rfl, rfl, h6, rfl, q1, q2⟩
      · (subst hL; subst hQ; simp only [L2, L3, std] at *; try simp only [sySet, reduceCtorEq, forall_const, Int.reduceToNat, Int.reduceAdd, Int.reduceSub, Int.cast_ofNat_Int, Int.toNat_natCast, Nat.le_eq, Nat.sub_eq, ne_eq, Decidable.not_not, implies_true, true_and, and_true, wadd, wsub, wmul, decide_eq_true_eq, decide_eq_false_iff_not, Nat.succ_eq_add_one, imp_false, not_false_eq_true, not_true_eq_false, false_imp_iff, true_imp_iff] at *)
        simp only [k_is] at h7
        exact absurd h8 (by decide)
      · (subst hL; subst hQ; simp only [L2, L3, std] at *; try simp only [sySet, reduceCtorEq, forall_const, Int.reduceToNat, Int.reduceAdd, Int.reduceSub, Int.cast_ofNat_Int, Int.toNat_natCast, Nat.le_eq, Nat.sub_eq, ne_eq, Decidable.not_not, implies_true, true_and, and_true, wadd, wsub, wmul, decide_eq_true_eq, decide_eq_false_iff_not, Nat.succ_eq_add_one, imp_false, not_false_eq_true, not_true_eq_false, false_imp_iff, true_imp_iff] at *)
        omega
      · (cbv; try simp only [sat_need, sat_must, sat_ite, sat_done, sat_yes, sat_ex, sat_all, sat_sup, sat_and, sat_fail, true_and, and_true])
        (subst hL; subst hQ; simp only [L2, L3, std] at *; try simp only [sySet, reduceCtorEq, forall_const, Int.reduceToNat, Int.reduceAdd, Int.reduceSub, Int.cast_ofNat_Int, Int.toNat_natCast, Nat.le_eq, Nat.sub_eq, ne_eq, Decidable.not_not, implies_true, true_and, and_true, wadd, wsub, wmul, decide_eq_true_eq, decide_eq_false_iff_not, Nat.succ_eq_add_one, imp_false, not_false_eq_true, not_true_eq_false, false_imp_iff, true_imp_iff] at *)
        simp only [k_is, (rest_is s).1] at h7 ⊢; obtain ⟨q1, q2, q3, q4⟩ := nx_9 hx h1 h4 h7 (by decide) ha1 hs1 hf1; exact ⟨q1, q2, congrArg _ q3, q4⟩
      · (subst hL; subst hQ; simp only [L2, L3, std] at *; try simp only [sySet, reduceCtorEq, forall_const, Int.reduceToNat, Int.reduceAdd, Int.reduceSub, Int.cast_ofNat_Int, Int.toNat_natCast, Nat.le_eq, Nat.sub_eq, ne_eq, Decidable.not_not, implies_true, true_and, and_true, wadd, wsub, wmul, decide_eq_true_eq, decide_eq_false_iff_not, Nat.succ_eq_add_one, imp_false, not_false_eq_true, not_true_eq_false, false_imp_iff, true_imp_iff] at *)
        simp only [k_is] at h2 h3 h5 h6 h7
        omega
    | [a], hx =>
      (cbv; try simp only [sat_need, sat_must, sat_ite, sat_done, sat_yes, sat_ex, sat_all, sat_sup, sat_and, sat_fail, true_and, and_true])
      obtain ⟨s1, hs1⟩ : ∃ s1, s1 = nxtRest s := ⟨_, rfl⟩
      obtain ⟨s2, hs2⟩ : ∃ s2, s2 = (nxtRest s).drop (lngN (s.drop 1)).toNat := ⟨_, rfl⟩
      obtain ⟨v1, hv1⟩ : ∃ v1, v1 = CV.mk 1 (lngN (s.drop 1)) [] [] := ⟨_, rfl⟩
      obtain ⟨v2, hv2⟩ : ∃ v2, v2 = CV.mk 2 0 ((nxtRest s).take (lngN (s.drop 1)).toNat) [] := ⟨_, rfl⟩
      obtain ⟨a1, ha1⟩ : ∃ a1, a1 = Lv.mk (lngN (s.drop 1)) [] := ⟨_, rfl⟩
      obtain ⟨f1, hf1⟩ : ∃ f1, f1 = f - 1 := ⟨_, rfl⟩
      refine ⟨fun h1 => ?_, fun h1 => ⟨?_, fun h2 => ?_, fun h2 => ⟨fun h3 => ?_, fun h3 => ⟨?_, fun h4 => ?_, fun h4 => ⟨?_, fun h5 => ⟨⟨[a], s1, f1, v1⟩, ?_⟩, fun h5 => ⟨fun h6 => ⟨fun h7 => ?_, fun h7 => ⟨?_, ?_, ⟨[a], s2, f1, v2⟩, ?_⟩⟩, fun h6 => ⟨fun h7 => ⟨fun h8 => ?_, fun h8 => ⟨?_, ⟨[a1, a], s1, f1, v⟩, ?_⟩⟩, fun h7 => ?_⟩⟩⟩⟩⟩⟩⟩
      · (subst hL; subst hQ; simp only [L2, L3, std] at *; try simp only [sySet, reduceCtorEq, forall_const, Int.reduceToNat, Int.reduceAdd, Int.reduceSub, Int.cast_ofNat_Int, Int.toNat_natCast, Nat.le_eq, Nat.sub_eq, ne_eq, Decidable.not_not, implies_true, true_and, and_true, wadd, wsub, wmul, decide_eq_true_eq, decide_eq_false_iff_not, Nat.succ_eq_add_one, imp_false, not_false_eq_true, not_true_eq_false, false_imp_iff, true_imp_iff] at *)
        exact nr_bad (nx_0 hx h1)
      · (subst hL; subst hQ; simp only [L2, L3, std] at *; try simp only [sySet, reduceCtorEq, forall_const, Int.reduceToNat, Int.reduceAdd, Int.reduceSub, Int.cast_ofNat_Int, Int.toNat_natCast, Nat.le_eq, Nat.sub_eq, ne_eq, Decidable.not_not, implies_true, true_and, and_true, wadd, wsub, wmul, decide_eq_true_eq, decide_eq_false_iff_not, Nat.succ_eq_add_one, imp_false, not_false_eq_true, not_true_eq_false, false_imp_iff, true_imp_iff] at *)
        have := List.length_pos_iff.2 h1
        omega
      · (subst hL; subst hQ; simp only [L2, L3, std] at *; try simp only [sySet, reduceCtorEq, forall_const, Int.reduceToNat, Int.reduceAdd, Int.reduceSub, Int.cast_ofNat_Int, Int.toNat_natCast, Nat.le_eq, Nat.sub_eq, ne_eq, Decidable.not_not, implies_true, true_and, and_true, wadd, wsub, wmul, decide_eq_true_eq, decide_eq_false_iff_not, Nat.succ_eq_add_one, imp_false, not_false_eq_true, not_true_eq_false, false_imp_iff, true_imp_iff] at *)
        rw [k_is] at h2
        exact nr_bad (nx_1 hx h1 (.inl h2))
      · (subst hL; subst hQ; simp only [L2, L3, std] at *; try simp only [sySet, reduceCtorEq, forall_const, Int.reduceToNat, Int.reduceAdd, Int.reduceSub, Int.cast_ofNat_Int, Int.toNat_natCast, Nat.le_eq, Nat.sub_eq, ne_eq, Decidable.not_not, implies_true, true_and, and_true, wadd, wsub, wmul, decide_eq_true_eq, decide_eq_false_iff_not, Nat.succ_eq_add_one, imp_false, not_false_eq_true, not_true_eq_false, false_imp_iff, true_imp_iff] at *)
        rw [k_is] at h3
        exact nr_bad (nx_1 hx h1 (.inr h3))
      · (subst hL; subst hQ; simp only [L2, L3, std] at *; try simp only [sySet, reduceCtorEq, forall_const, Int.reduceToNat, Int.reduceAdd, Int.reduceSub, Int.cast_ofNat_Int, Int.toNat_natCast, Nat.le_eq, Nat.sub_eq, ne_eq, Decidable.not_not, implies_true, true_and, and_true, wadd, wsub, wmul, decide_eq_true_eq, decide_eq_false_iff_not, Nat.succ_eq_add_one, imp_false, not_false_eq_true, not_true_eq_false, false_imp_iff, true_imp_iff] at *)
        have := List.length_pos_iff.2 h1
        omega
      · (subst hL; subst hQ; simp only [L2, L3, std] at *; try simp only [sySet, reduceCtorEq, forall_const, Int.reduceToNat, Int.reduceAdd, Int.reduceSub, Int.cast_ofNat_Int, Int.toNat_natCast, Nat.le_eq, Nat.sub_eq, ne_eq, Decidable.not_not, implies_true, true_and, and_true, wadd, wsub, wmul, decide_eq_true_eq, decide_eq_false_iff_not, Nat.succ_eq_add_one, imp_false, not_false_eq_true, not_true_eq_false, false_imp_iff, true_imp_iff] at *)
        rw [k_is] at h2 h3
        exact nr_bad (nx_2 hx h1 h2 h3 h4)
      · (subst hL; subst hQ; simp only [L2, L3, std] at *; try simp only [sySet, reduceCtorEq, forall_const, Int.reduceToNat, Int.reduceAdd, Int.reduceSub, Int.cast_ofNat_Int, Int.toNat_natCast, Nat.le_eq, Nat.sub_eq, ne_eq, Decidable.not_not, implies_true, true_and, and_true, wadd, wsub, wmul, decide_eq_true_eq, decide_eq_false_iff_not, Nat.succ_eq_add_one, imp_false, not_false_eq_true, not_true_eq_false, false_imp_iff, true_imp_iff] at *)
        rw [(rest_is s).2]
        exact nx_in h1 h4
      · (cbv; try simp only [sat_need, sat_must, sat_ite, sat_done, sat_yes, sat_ex, sat_all, sat_sup, sat_and, sat_fail, true_and, and_true])
        (subst hL; subst hQ; simp only [L2, L3, std] at *; try simp only [sySet, reduceCtorEq, forall_const, Int.reduceToNat, Int.reduceAdd, Int.reduceSub, Int.cast_ofNat_Int, Int.toNat_natCast, Nat.le_eq, Nat.sub_eq, ne_eq, Decidable.not_not, implies_true, true_and, and_true, wadd, wsub, wmul, decide_eq_true_eq, decide_eq_false_iff_not, Nat.succ_eq_add_one, imp_false, not_false_eq_true, not_true_eq_false, false_imp_iff, true_imp_iff] at *)
        simp only [k_is, (rest_is s).1] at h5 ⊢
        obtain ⟨q1, q2⟩ := nx_3 hx h1 h4 h5
        rw [hv1, hs1, hf1]
        exact ⟨rfl, rfl, rfl, rfl, h5, rfl, q1, q2⟩
      · (subst hL; subst hQ; simp only [L2, L3, std] at *; try simp only [sySet, reduceCtorEq, forall_const, Int.reduceToNat, Int.reduceAdd, Int.reduceSub, Int.cast_ofNat_Int, Int.toNat_natCast, Nat.le_eq, Nat.sub_eq, ne_eq, Decidable.not_not, implies_true, true_and, and_true, wadd, wsub, wmul, decide_eq_true_eq, decide_eq_false_iff_not, Nat.succ_eq_add_one, imp_false, not_false_eq_true, not_true_eq_false, false_imp_iff, true_imp_iff] at *)
        simp only [k_is, (rest_is s).1] at h6 h7
        exact nr_bad (nx_4 hx h1 h4 h6 h7)
      · (subst hL; subst hQ; simp only [L2, L3, std] at *; try simp only [sySet, reduceCtorEq, forall_const, Int.reduceToNat, Int.reduceAdd, Int.reduceSub, Int.cast_ofNat_Int, Int.toNat_natCast, Nat.le_eq, Nat.sub_eq, ne_eq, Decidable.not_not, implies_true, true_and, and_true, wadd, wsub, wmul, decide_eq_true_eq, decide_eq_false_iff_not, Nat.succ_eq_add_one, imp_false, not_false_eq_true, not_true_eq_false, false_imp_iff, true_imp_iff] at *)
        simp only [k_is, (rest_is s).1] at h7 ⊢
        exact nx_5 hx h1 h4 h7
      · (subst hL; subst hQ; simp only [L2, L3, std] at *; try simp only [sySet, reduceCtorEq, forall_const, Int.reduceToNat, Int.reduceAdd, Int.reduceSub, Int.cast_ofNat_Int, Int.toNat_natCast, Nat.le_eq, Nat.sub_eq, ne_eq, Decidable.not_not, implies_true, true_and, and_true, wadd, wsub, wmul, decide_eq_true_eq, decide_eq_false_iff_not, Nat.succ_eq_add_one, imp_false, not_false_eq_true, not_true_eq_false, false_imp_iff, true_imp_iff] at *)
        simp only [k_is, (rest_is s).1] at h7 ⊢
        exact nx_5 hx h1 h4 h7
      · (cbv; try simp only [sat_need, sat_must, sat_ite, sat_done, sat_yes, sat_ex, sat_all, sat_sup, sat_and, sat_fail, true_and, and_true])
        (subst hL; subst hQ; simp only [L2, L3, std] at *; try simp only [sySet, reduceCtorEq, forall_const, Int.reduceToNat, Int.reduceAdd, Int.reduceSub, Int.cast_ofNat_Int, Int.toNat_natCast, Nat.le_eq, Nat.sub_eq, ne_eq, Decidable.not_not, implies_true, true_and, and_true, wadd, wsub, wmul, decide_eq_true_eq, decide_eq_false_iff_not, Nat.succ_eq_add_one, imp_false, not_false_eq_true, not_true_eq_false, false_imp_iff, true_imp_iff] at *)
        simp only [k_is, (rest_is s).1] at h6 h7 ⊢
        obtain ⟨q1, q2⟩ := nx_6 hx h1 h4 h6 h7
        rw [hv2, hs2, hf1]
        exact ⟨rfl, rfl, rfl, rfl, h6, rfl, q1, q2⟩
      · (subst hL; subst hQ; simp only [L2, L3, std] at *; try simp only [sySet, reduceCtorEq, forall_const, Int.reduceToNat, Int.reduceAdd, Int.reduceSub, Int.cast_ofNat_Int, Int.toNat_natCast, Nat.le_eq, Nat.sub_eq, ne_eq, Decidable.not_not, implies_true, true_and, and_true, wadd, wsub, wmul, decide_eq_true_eq, decide_eq_false_iff_not, Nat.succ_eq_add_one, imp_false, not_false_eq_true, not_true_eq_false, false_imp_iff, true_imp_iff] at *)
        simp only [k_is] at h7
        exact absurd h8 (by decide)
      · (subst hL; subst hQ; simp only [L2, L3, std] at *; try simp only [sySet, reduceCtorEq, forall_const, Int.reduceToNat, Int.reduceAdd, Int.reduceSub, Int.cast_ofNat_Int, Int.toNat_natCast, Nat.le_eq, Nat.sub_eq, ne_eq, Decidable.not_not, implies_true, true_and, and_true, wadd, wsub, wmul, decide_eq_true_eq, decide_eq_false_iff_not, Nat.succ_eq_add_one, imp_false, not_false_eq_true, not_true_eq_false, false_imp_iff, true_imp_iff] at *)
        omega
      · (cbv; try simp only [sat_need, sat_must, sat_ite, sat_done, sat_yes, sat_ex, sat_all, sat_sup, sat_and, sat_fail, true_and, and_true])
        (subst hL; subst hQ; simp only [L2, L3, std] at *; try simp only [sySet, reduceCtorEq, forall_const, Int.reduceToNat, Int.reduceAdd, Int.reduceSub, Int.cast_ofNat_Int, Int.toNat_natCast, Nat.le_eq, Nat.sub_eq, ne_eq, Decidable.not_not, implies_true, true_and, and_true, wadd, wsub, wmul, decide_eq_true_eq, decide_eq_false_iff_not, Nat.succ_eq_add_one, imp_false, not_false_eq_true, not_true_eq_false, false_imp_iff, true_imp_iff] at *)
        simp only [k_is, (rest_is s).1] at h7 ⊢; exact nx_9 hx h1 h4 h7 (by simp) ha1 hs1 hf1
      · (subst hL; subst hQ; simp only [L2, L3, std] at *; try simp only [sySet, reduceCtorEq, forall_const, Int.reduceToNat, Int.reduceAdd, Int.reduceSub, Int.cast_ofNat_Int, Int.toNat_natCast, Nat.le_eq, Nat.sub_eq, ne_eq, Decidable.not_not, implies_true, true_and, and_true, wadd, wsub, wmul, decide_eq_true_eq, decide_eq_false_iff_not, Nat.succ_eq_add_one, imp_false, not_false_eq_true, not_true_eq_false, false_imp_iff, true_imp_iff] at *)
        simp only [k_is] at h2 h3 h5 h6 h7
        omega
    | [a, b], hx =>
      (cbv; try simp only [sat_need, sat_must, sat_ite, sat_done, sat_yes, sat_ex, sat_all, sat_sup, sat_and, sat_fail, true_and, and_true])
      obtain ⟨s1, hs1⟩ : ∃ s1, s1 = nxtRest s := ⟨_, rfl⟩
      obtain ⟨s2, hs2⟩ : ∃ s2, s2 = (nxtRest s).drop (lngN (s.drop 1)).toNat := ⟨_, rfl⟩
      obtain ⟨v1, hv1⟩ : ∃ v1, v1 = CV.mk 1 (lngN (s.drop 1)) [] [] := ⟨_, rfl⟩
      obtain ⟨v2, hv2⟩ : ∃ v2, v2 = CV.mk 2 0 ((nxtRest s).take (lngN (s.drop 1)).toNat) [] := ⟨_, rfl⟩
      obtain ⟨a1, ha1⟩ : ∃ a1, a1 = Lv.mk (lngN (s.drop 1)) [] := ⟨_, rfl⟩
      obtain ⟨f1, hf1⟩ : ∃ f1, f1 = f - 1 := ⟨_, rfl⟩
      refine ⟨fun h1 => ?_, fun h1 => ⟨?_, fun h2 => ?_, fun h2 => ⟨fun h3 => ?_, fun h3 => ⟨?_, fun h4 => ?_, fun h4 => ⟨?_, fun h5 => ⟨⟨[a, b], s1, f1, v1⟩, ?_⟩, fun h5 => ⟨fun h6 => ⟨fun h7 => ?_, fun h7 => ⟨?_, ?_, ⟨[a, b], s2, f1, v2⟩, ?_⟩⟩, fun h6 => ⟨fun h7 => ⟨fun h8 => ?_, fun h8 => ⟨?_, ⟨[a1, a, b], s1, f1, v⟩, ?_⟩⟩, fun h7 => ?_⟩⟩⟩⟩⟩⟩⟩
      · (subst hL; subst hQ; simp only [L2, L3, std] at *; try simp only [sySet, reduceCtorEq, forall_const, Int.reduceToNat, Int.reduceAdd, Int.reduceSub, Int.cast_ofNat_Int, Int.toNat_natCast, Nat.le_eq, Nat.sub_eq, ne_eq, Decidable.not_not, implies_true, true_and, and_true, wadd, wsub, wmul, decide_eq_true_eq, decide_eq_false_iff_not, Nat.succ_eq_add_one, imp_false, not_false_eq_true, not_true_eq_false, false_imp_iff, true_imp_iff] at *)
        exact nr_bad (nx_0 hx h1)
      · (subst hL; subst hQ; simp only [L2, L3, std] at *; try simp only [sySet, reduceCtorEq, forall_const, Int.reduceToNat, Int.reduceAdd, Int.reduceSub, Int.cast_ofNat_Int, Int.toNat_natCast, Nat.le_eq, Nat.sub_eq, ne_eq, Decidable.not_not, implies_true, true_and, and_true, wadd, wsub, wmul, decide_eq_true_eq, decide_eq_false_iff_not, Nat.succ_eq_add_one, imp_false, not_false_eq_true, not_true_eq_false, false_imp_iff, true_imp_iff] at *)
        have := List.length_pos_iff.2 h1
        omega
      · (subst hL; subst hQ; simp only [L2, L3, std] at *; try simp only [sySet, reduceCtorEq, forall_const, Int.reduceToNat, Int.reduceAdd, Int.reduceSub, Int.cast_ofNat_Int, Int.toNat_natCast, Nat.le_eq, Nat.sub_eq, ne_eq, Decidable.not_not, implies_true, true_and, and_true, wadd, wsub, wmul, decide_eq_true_eq, decide_eq_false_iff_not, Nat.succ_eq_add_one, imp_false, not_false_eq_true, not_true_eq_false, false_imp_iff, true_imp_iff] at *)
        rw [k_is] at h2
        exact nr_bad (nx_1 hx h1 (.inl h2))
      · (subst hL; subst hQ; simp only [L2, L3, std] at *; try simp only [sySet, reduceCtorEq, forall_const, Int.reduceToNat, Int.reduceAdd, Int.reduceSub, Int.cast_ofNat_Int, Int.toNat_natCast, Nat.le_eq, Nat.sub_eq, ne_eq, Decidable.not_not, implies_true, true_and, and_true, wadd, wsub, wmul, decide_eq_true_eq, decide_eq_false_iff_not, Nat.succ_eq_add_one, imp_false, not_false_eq_true, not_true_eq_false, false_imp_iff, true_imp_iff] at *)
        rw [k_is] at h3
        exact nr_bad (nx_1 hx h1 (.inr h3))
      · (subst hL; subst hQ; simp only [L2, L3, std] at *; try simp only [sySet, reduceCtorEq, forall_const, Int.reduceToNat, Int.reduceAdd, Int.reduceSub, Int.cast_ofNat_Int, Int.toNat_natCast, Nat.le_eq, Nat.sub_eq, ne_eq, Decidable.not_not, implies_true, true_and, and_true, wadd, wsub, wmul, decide_eq_true_eq, decide_eq_false_iff_not, Nat.succ_eq_add_one, imp_false, not_false_eq_true, not_true_eq_false, false_imp_iff, true_imp_iff] at *)
        have := List.length_pos_iff.2 h1
        omega
      · (subst hL; subst hQ; simp only [L2, L3, std] at *; try simp only [sySet, reduceCtorEq, forall_const, Int.reduceToNat, Int.reduceAdd, Int.reduceSub, Int.cast_ofNat_Int, Int.toNat_natCast, Nat.le_eq, Nat.sub_eq, ne_eq, Decidable.not_not, implies_true, true_and, and_true, wadd, wsub, wmul, decide_eq_true_eq, decide_eq_false_iff_not, Nat.succ_eq_add_one, imp_false, not_false_eq_true, not_true_eq_false, false_imp_iff, true_imp_iff] at *)
        rw [k_is] at h2 h3
        exact nr_bad (nx_2 hx h1 h2 h3 h4)
      · (subst hL; subst hQ; simp only [L2, L3, std] at *; try simp only [sySet, reduceCtorEq, forall_const, Int.reduceToNat, Int.reduceAdd, Int.reduceSub, Int.cast_ofNat_Int, Int.toNat_natCast, Nat.le_eq, Nat.sub_eq, ne_eq, Decidable.not_not, implies_true, true_and, and_true, wadd, wsub, wmul, decide_eq_true_eq, decide_eq_false_iff_not, Nat.succ_eq_add_one, imp_false, not_false_eq_true, not_true_eq_false, false_imp_iff, true_imp_iff] at *)
        rw [(rest_is s).2]
        exact nx_in h1 h4
      · (cbv; try simp only [sat_need, sat_must, sat_ite, sat_done, sat_yes, sat_ex, sat_all, sat_sup, sat_and, sat_fail, true_and, and_true])
        (subst hL; subst hQ; simp only [L2, L3, std] at *; try simp only [sySet, reduceCtorEq, forall_const, Int.reduceToNat, Int.reduceAdd, Int.reduceSub, Int.cast_ofNat_Int, Int.toNat_natCast, Nat.le_eq, Nat.sub_eq, ne_eq, Decidable.not_not, implies_true, true_and, and_true, wadd, wsub, wmul, decide_eq_true_eq, decide_eq_false_iff_not, Nat.succ_eq_add_one, imp_false, not_false_eq_true, not_true_eq_false, false_imp_iff, true_imp_iff] at *)
        simp only [k_is, (rest_is s).1] at h5 ⊢
        obtain ⟨q1, q2⟩ := nx_3 hx h1 h4 h5
        rw [hv1, hs1, hf1]
        exact ⟨rfl, rfl, rfl, rfl, h5, rfl, q1, q2⟩
      · (subst hL; subst hQ; simp only [L2, L3, std] at *; try simp only [sySet, reduceCtorEq, forall_const, Int.reduceToNat, Int.reduceAdd, Int.reduceSub, Int.cast_ofNat_Int, Int.toNat_natCast, Nat.le_eq, Nat.sub_eq, ne_eq, Decidable.not_not, implies_true, true_and, and_true, wadd, wsub, wmul, decide_eq_true_eq, decide_eq_false_iff_not, Nat.succ_eq_add_one, imp_false, not_false_eq_true, not_true_eq_false, false_imp_iff, true_imp_iff] at *)
        simp only [k_is, (rest_is s).1] at h6 h7
        exact nr_bad (nx_4 hx h1 h4 h6 h7)
      · (subst hL; subst hQ; simp only [L2, L3, std] at *; try simp only [sySet, reduceCtorEq, forall_const, Int.reduceToNat, Int.reduceAdd, Int.reduceSub, Int.cast_ofNat_Int, Int.toNat_natCast, Nat.le_eq, Nat.sub_eq, ne_eq, Decidable.not_not, implies_true, true_and, and_true, wadd, wsub, wmul, decide_eq_true_eq, decide_eq_false_iff_not, Nat.succ_eq_add_one, imp_false, not_false_eq_true, not_true_eq_false, false_imp_iff, true_imp_iff] at *)
        simp only [k_is, (rest_is s).1] at h7 ⊢
        exact nx_5 hx h1 h4 h7
      · (subst hL; subst hQ; simp only [L2, L3, std] at *; try simp only [sySet, reduceCtorEq, forall_const, Int.reduceToNat, Int.reduceAdd, Int.reduceSub, Int.cast_ofNat_Int, Int.toNat_natCast, Nat.le_eq, Nat.sub_eq, ne_eq, Decidable.not_not, implies_true, true_and, and_true, wadd, wsub, wmul, decide_eq_true_eq, decide_eq_false_iff_not, Nat.succ_eq_add_one, imp_false, not_false_eq_true, not_true_eq_false, false_imp_iff, true_imp_iff] at *)
        simp only [k_is, (rest_is s).1] at h7 ⊢
        exact nx_5 hx h1 h4 h7
      · (cbv; try simp only [sat_need, sat_must, sat_ite, sat_done, sat_yes, sat_ex, sat_all, sat_sup, sat_and, sat_fail, true_and, and_true])
        (subst hL; subst hQ; simp only [L2, L3, std] at *; try simp only [sySet, reduceCtorEq, forall_const, Int.reduceToNat, Int.reduceAdd, Int.reduceSub, Int.cast_ofNat_Int, Int.toNat_natCast, Nat.le_eq, Nat.sub_eq, ne_eq, Decidable.not_not, implies_true, true_and, and_true, wadd, wsub, wmul, decide_eq_true_eq, decide_eq_false_iff_not, Nat.succ_eq_add_one, imp_false, not_false_eq_true, not_true_eq_false, false_imp_iff, true_imp_iff] at *)
        simp only [k_is, (rest_is s).1] at h6 h7 ⊢
        obtain ⟨q1, q2⟩ := nx_6 hx h1 h4 h6 h7
        rw [hv2, hs2, hf1]
        exact ⟨rfl, rfl, rfl, rfl, h6, rfl, q1, q2⟩
      · (subst hL; subst hQ; simp only [L2, L3, std] at *; try simp only [sySet, reduceCtorEq, forall_const, Int.reduceToNat, Int.reduceAdd, Int.reduceSub, Int.cast_ofNat_Int, Int.toNat_natCast, Nat.le_eq, Nat.sub_eq, ne_eq, Decidable.not_not, implies_true, true_and, and_true, wadd, wsub, wmul, decide_eq_true_eq, decide_eq_false_iff_not, Nat.succ_eq_add_one, imp_false, not_false_eq_true, not_true_eq_false, false_imp_iff, true_imp_iff] at *)
        simp only [k_is] at h7
        exact absurd h8 (by decide)
      · (subst hL; subst hQ; simp only [L2, L3, std] at *; try simp only [sySet, reduceCtorEq, forall_const, Int.reduceToNat, Int.reduceAdd, Int.reduceSub, Int.cast_ofNat_Int, Int.toNat_natCast, Nat.le_eq, Nat.sub_eq, ne_eq, Decidable.not_not, implies_true, true_and, and_true, wadd, wsub, wmul, decide_eq_true_eq, decide_eq_false_iff_not, Nat.succ_eq_add_one, imp_false, not_false_eq_true, not_true_eq_false, false_imp_iff, true_imp_iff] at *)
        omega
      · (cbv; try simp only [sat_need, sat_must, sat_ite, sat_done, sat_yes, sat_ex, sat_all, sat_sup, sat_and, sat_fail, true_and, and_true])
        (subst hL; subst hQ; simp only [L2, L3, std] at *; try simp only [sySet, reduceCtorEq, forall_const, Int.reduceToNat, Int.reduceAdd, Int.reduceSub, Int.cast_ofNat_Int, Int.toNat_natCast, Nat.le_eq, Nat.sub_eq, ne_eq, Decidable.not_not, implies_true, true_and, and_true, wadd, wsub, wmul, decide_eq_true_eq, decide_eq_false_iff_not, Nat.succ_eq_add_one, imp_false, not_false_eq_true, not_true_eq_false, false_imp_iff, true_imp_iff] at *)
        simp only [k_is, (rest_is s).1] at h7 ⊢; exact nx_9 hx h1 h4 h7 (by simp) ha1 hs1 hf1
      · (subst hL; subst hQ; simp only [L2, L3, std] at *; try simp only [sySet, reduceCtorEq, forall_const, Int.reduceToNat, Int.reduceAdd, Int.reduceSub, Int.cast_ofNat_Int, Int.toNat_natCast, Nat.le_eq, Nat.sub_eq, ne_eq, Decidable.not_not, implies_true, true_and, and_true, wadd, wsub, wmul, decide_eq_true_eq, decide_eq_false_iff_not, Nat.succ_eq_add_one, imp_false, not_false_eq_true, not_true_eq_false, false_imp_iff, true_imp_iff] at *)
        simp only [k_is] at h2 h3 h5 h6 h7
        omega
    | [a, b, c], hx =>
      (cbv; try simp only [sat_need, sat_must, sat_ite, sat_done, sat_yes, sat_ex, sat_all, sat_sup, sat_and, sat_fail, true_and, and_true])
      obtain ⟨s1, hs1⟩ : ∃ s1, s1 = nxtRest s := ⟨_, rfl⟩
      obtain ⟨s2, hs2⟩ : ∃ s2, s2 = (nxtRest s).drop (lngN (s.drop 1)).toNat := ⟨_, rfl⟩
      obtain ⟨v1, hv1⟩ : ∃ v1, v1 = CV.mk 1 (lngN (s.drop 1)) [] [] := ⟨_, rfl⟩
      obtain ⟨v2, hv2⟩ : ∃ v2, v2 = CV.mk 2 0 ((nxtRest s).take (lngN (s.drop 1)).toNat) [] := ⟨_, rfl⟩
      obtain ⟨a1, ha1⟩ : ∃ a1, a1 = Lv.mk (lngN (s.drop 1)) [] := ⟨_, rfl⟩
      obtain ⟨f1, hf1⟩ : ∃ f1, f1 = f - 1 := ⟨_, rfl⟩
      refine ⟨fun h1 => ?_, fun h1 => ⟨?_, fun h2 => ?_, fun h2 => ⟨fun h3 => ?_, fun h3 => ⟨?_, fun h4 => ?_, fun h4 => ⟨?_, fun h5 => ⟨⟨[a, b, c], s1, f1, v1⟩, ?_⟩, fun h5 => ⟨fun h6 => ⟨fun h7 => ?_, fun h7 => ⟨?_, ?_, ⟨[a, b, c], s2, f1, v2⟩, ?_⟩⟩, fun h6 => ⟨fun h7 => ⟨fun h8 => ?_, fun h8 => ⟨?_, ⟨[a1, a, b, c], s1, f1, v⟩, ?_⟩⟩, fun h7 => ?_⟩⟩⟩⟩⟩⟩⟩
      · (subst hL; subst hQ; simp only [L2, L3, std] at *; try simp only [sySet, reduceCtorEq, forall_const, Int.reduceToNat, Int.reduceAdd, Int.reduceSub, Int.cast_ofNat_Int, Int.toNat_natCast, Nat.le_eq, Nat.sub_eq, ne_eq, Decidable.not_not, implies_true, true_and, and_true, wadd, wsub, wmul, decide_eq_true_eq, decide_eq_false_iff_not, Nat.succ_eq_add_one, imp_false, not_false_eq_true, not_true_eq_false, false_imp_iff, true_imp_iff] at *)
        exact nr_bad (nx_0 hx h1)
      · (subst hL; subst hQ; simp only [L2, L3, std] at *; try simp only [sySet, reduceCtorEq, forall_const, Int.reduceToNat, Int.reduceAdd, Int.reduceSub, Int.cast_ofNat_Int, Int.toNat_natCast, Nat.le_eq, Nat.sub_eq, ne_eq, Decidable.not_not, implies_true, true_and, and_true, wadd, wsub, wmul, decide_eq_true_eq, decide_eq_false_iff_not, Nat.succ_eq_add_one, imp_false, not_false_eq_true, not_true_eq_false, false_imp_iff, true_imp_iff] at *)
        have := List.length_pos_iff.2 h1
        omega
      · (subst hL; subst hQ; simp only [L2, L3, std] at *; try simp only [sySet, reduceCtorEq, forall_const, Int.reduceToNat, Int.reduceAdd, Int.reduceSub, Int.cast_ofNat_Int, Int.toNat_natCast, Nat.le_eq, Nat.sub_eq, ne_eq, Decidable.not_not, implies_true, true_and, and_true, wadd, wsub, wmul, decide_eq_true_eq, decide_eq_false_iff_not, Nat.succ_eq_add_one, imp_false, not_false_eq_true, not_true_eq_false, false_imp_iff, true_imp_iff] at *)
        rw [k_is] at h2
        exact nr_bad (nx_1 hx h1 (.inl h2))
      · (subst hL; subst hQ; simp only [L2, L3, std] at *; try simp only [sySet, reduceCtorEq, forall_const, Int.reduceToNat, Int.reduceAdd, Int.reduceSub, Int.cast_ofNat_Int, Int.toNat_natCast, Nat.le_eq, Nat.sub_eq, ne_eq, Decidable.not_not, implies_true, true_and, and_true, wadd, wsub, wmul, decide_eq_true_eq, decide_eq_false_iff_not, Nat.succ_eq_add_one, imp_false, not_false_eq_true, not_true_eq_false, false_imp_iff, true_imp_iff] at *)
        rw [k_is] at h3
        exact nr_bad (nx_1 hx h1 (.inr h3))
      · (subst hL; subst hQ; simp only [L2, L3, std] at *; try simp only [sySet, reduceCtorEq, forall_const, Int.reduceToNat, Int.reduceAdd, Int.reduceSub, Int.cast_ofNat_Int, Int.toNat_natCast, Nat.le_eq, Nat.sub_eq, ne_eq, Decidable.not_not, implies_true, true_and, and_true, wadd, wsub, wmul, decide_eq_true_eq, decide_eq_false_iff_not, Nat.succ_eq_add_one, imp_false, not_false_eq_true, not_true_eq_false, false_imp_iff, true_imp_iff] at *)
        have := List.length_pos_iff.2 h1
        omega
      · (subst hL; subst hQ; simp only [L2, L3, std] at *; try simp only [sySet, reduceCtorEq, forall_const, Int.reduceToNat, Int.reduceAdd, Int.reduceSub, Int.cast_ofNat_Int, Int.toNat_natCast, Nat.le_eq, Nat.sub_eq, ne_eq, Decidable.not_not, implies_true, true_and, and_true, wadd, wsub, wmul, decide_eq_true_eq, decide_eq_false_iff_not, Nat.succ_eq_add_one, imp_false, not_false_eq_true, not_true_eq_false, false_imp_iff, true_imp_iff] at *)
        rw [k_is] at h2 h3
        exact nr_bad (nx_2 hx h1 h2 h3 h4)
      · (subst hL; subst hQ; simp only [L2, L3, std] at *; try simp only [sySet, reduceCtorEq, forall_const, Int.reduceToNat, Int.reduceAdd, Int.reduceSub, Int.cast_ofNat_Int, Int.toNat_natCast, Nat.le_eq, Nat.sub_eq, ne_eq, Decidable.not_not, implies_true, true_and, and_true, wadd, wsub, wmul, decide_eq_true_eq, decide_eq_false_iff_not, Nat.succ_eq_add_one, imp_false, not_false_eq_true, not_true_eq_false, false_imp_iff, true_imp_iff] at *)
        rw [(rest_is s).2]
        exact nx_in h1 h4
      · (cbv; try simp only [sat_need, sat_must, sat_ite, sat_done, sat_yes, sat_ex, sat_all, sat_sup, sat_and, sat_fail, true_and, and_true])
        (subst hL; subst hQ; simp only [L2, L3, std] at *; try simp only [sySet, reduceCtorEq, forall_const, Int.reduceToNat, Int.reduceAdd, Int.reduceSub, Int.cast_ofNat_Int, Int.toNat_natCast, Nat.le_eq, Nat.sub_eq, ne_eq, Decidable.not_not, implies_true, true_and, and_true, wadd, wsub, wmul, decide_eq_true_eq, decide_eq_false_iff_not, Nat.succ_eq_add_one, imp_false, not_false_eq_true, not_true_eq_false, false_imp_iff, true_imp_iff] at *)
        simp only [k_is, (rest_is s).1] at h5 ⊢
        obtain ⟨q1, q2⟩ := nx_3 hx h1 h4 h5
        rw [hv1, hs1, hf1]
        exact ⟨rfl, rfl, rfl, rfl, h5, rfl, q1, q2⟩
      · (subst hL; subst hQ; simp only [L2, L3, std] at *; try simp only [sySet, reduceCtorEq, forall_const, Int.reduceToNat, Int.reduceAdd, Int.reduceSub, Int.cast_ofNat_Int, Int.toNat_natCast, Nat.le_eq, Nat.sub_eq, ne_eq, Decidable.not_not, implies_true, true_and, and_true, wadd, wsub, wmul, decide_eq_true_eq, decide_eq_false_iff_not, Nat.succ_eq_add_one, imp_false, not_false_eq_true, not_true_eq_false, false_imp_iff, true_imp_iff] at *)
        simp only [k_is, (rest_is s).1] at h6 h7
        exact nr_bad (nx_4 hx h1 h4 h6 h7)
      · (subst hL; subst hQ; simp only [L2, L3, std] at *; try simp only [sySet, reduceCtorEq, forall_const, Int.reduceToNat, Int.reduceAdd, Int.reduceSub, Int.cast_ofNat_Int, Int.toNat_natCast, Nat.le_eq, Nat.sub_eq, ne_eq, Decidable.not_not, implies_true, true_and, and_true, wadd, wsub, wmul, decide_eq_true_eq, decide_eq_false_iff_not, Nat.succ_eq_add_one, imp_false, not_false_eq_true, not_true_eq_false, false_imp_iff, true_imp_iff] at *)
        simp only [k_is, (rest_is s).1] at h7 ⊢
        exact nx_5 hx h1 h4 h7
      · (subst hL; subst hQ; simp only [L2, L3, std] at *; try simp only [sySet, reduceCtorEq, forall_const, Int.reduceToNat, Int.reduceAdd, Int.reduceSub, Int.cast_ofNat_Int, Int.toNat_natCast, Nat.le_eq, Nat.sub_eq, ne_eq, Decidable.not_not, implies_true, true_and, and_true, wadd, wsub, wmul, decide_eq_true_eq, decide_eq_false_iff_not, Nat.succ_eq_add_one, imp_false, not_false_eq_true, not_true_eq_false, false_imp_iff, true_imp_iff] at *)
        simp only [k_is, (rest_is s).1] at h7 ⊢
        exact nx_5 hx h1 h4 h7
      · (cbv; try simp only [sat_need, sat_must, sat_ite, sat_done, sat_yes, sat_ex, sat_all, sat_sup, sat_and, sat_fail, true_and, and_true])
        (subst hL; subst hQ; simp only [L2, L3, std] at *; try simp only [sySet, reduceCtorEq, forall_const, Int.reduceToNat, Int.reduceAdd, Int.reduceSub, Int.cast_ofNat_Int, Int.toNat_natCast, Nat.le_eq, Nat.sub_eq, ne_eq, Decidable.not_not, implies_true, true_and, and_true, wadd, wsub, wmul, decide_eq_true_eq, decide_eq_false_iff_not, Nat.succ_eq_add_one, imp_false, not_false_eq_true, not_true_eq_false, false_imp_iff, true_imp_iff] at *)
        simp only [k_is, (rest_is s).1] at h6 h7 ⊢
        obtain ⟨q1, q2⟩ := nx_6 hx h1 h4 h6 h7
        rw [hv2, hs2, hf1]
        exact ⟨rfl, rfl, rfl, rfl, h6, rfl, q1, q2⟩
      · (subst hL; subst hQ; simp only [L2, L3, std] at *; try simp only [sySet, reduceCtorEq, forall_const, Int.reduceToNat, Int.reduceAdd, Int.reduceSub, Int.cast_ofNat_Int, Int.toNat_natCast, Nat.le_eq, Nat.sub_eq, ne_eq, Decidable.not_not, implies_true, true_and, and_true, wadd, wsub, wmul, decide_eq_true_eq, decide_eq_false_iff_not, Nat.succ_eq_add_one, imp_false, not_false_eq_true, not_true_eq_false, false_imp_iff, true_imp_iff] at *)
        simp only [k_is] at h7
        exact absurd h8 (by decide)
      · (subst hL; subst hQ; simp only [L2, L3, std] at *; try simp only [sySet, reduceCtorEq, forall_const, Int.reduceToNat, Int.reduceAdd, Int.reduceSub, Int.cast_ofNat_Int, Int.toNat_natCast, Nat.le_eq, Nat.sub_eq, ne_eq, Decidable.not_not, implies_true, true_and, and_true, wadd, wsub, wmul, decide_eq_true_eq, decide_eq_false_iff_not, Nat.succ_eq_add_one, imp_false, not_false_eq_true, not_true_eq_false, false_imp_iff, true_imp_iff] at *)
        omega
      · (cbv; try simp only [sat_need, sat_must, sat_ite, sat_done, sat_yes, sat_ex, sat_all, sat_sup, sat_and, sat_fail, true_and, and_true])
        (subst hL; subst hQ; simp only [L2, L3, std] at *; try simp only [sySet, reduceCtorEq, forall_const, Int.reduceToNat, Int.reduceAdd, Int.reduceSub, Int.cast_ofNat_Int, Int.toNat_natCast, Nat.le_eq, Nat.sub_eq, ne_eq, Decidable.not_not, implies_true, true_and, and_true, wadd, wsub, wmul, decide_eq_true_eq, decide_eq_false_iff_not, Nat.succ_eq_add_one, imp_false, not_false_eq_true, not_true_eq_false, false_imp_iff, true_imp_iff] at *)
        simp only [k_is, (rest_is s).1] at h7 ⊢; exact nx_9 hx h1 h4 h7 (by simp) ha1 hs1 hf1
      · (subst hL; subst hQ; simp only [L2, L3, std] at *; try simp only [sySet, reduceCtorEq, forall_const, Int.reduceToNat, Int.reduceAdd, Int.reduceSub, Int.cast_ofNat_Int, Int.toNat_natCast, Nat.le_eq, Nat.sub_eq, ne_eq, Decidable.not_not, implies_true, true_and, and_true, wadd, wsub, wmul, decide_eq_true_eq, decide_eq_false_iff_not, Nat.succ_eq_add_one, imp_false, not_false_eq_true, not_true_eq_false, false_imp_iff, true_imp_iff] at *)
        simp only [k_is] at h2 h3 h5 h6 h7
        omega
    | [a, b, c, d], hx =>
      (cbv; try simp only [sat_need, sat_must, sat_ite, sat_done, sat_yes, sat_ex, sat_all, sat_sup, sat_and, sat_fail, true_and, and_true])
      obtain ⟨s1, hs1⟩ : ∃ s1, s1 = nxtRest s := ⟨_, rfl⟩
      obtain ⟨s2, hs2⟩ : ∃ s2, s2 = (nxtRest s).drop (lngN (s.drop 1)).toNat := ⟨_, rfl⟩
      obtain ⟨v1, hv1⟩ : ∃ v1, v1 = CV.mk 1 (lngN (s.drop 1)) [] [] := ⟨_, rfl⟩
      obtain ⟨v2, hv2⟩ : ∃ v2, v2 = CV.mk 2 0 ((nxtRest s).take (lngN (s.drop 1)).toNat) [] := ⟨_, rfl⟩
      obtain ⟨a1, ha1⟩ : ∃ a1, a1 = Lv.mk (lngN (s.drop 1)) [] := ⟨_, rfl⟩
      obtain ⟨f1, hf1⟩ : ∃ f1, f1 = f - 1 := ⟨_, rfl⟩
      refine ⟨fun h1 => ?_, fun h1 => ⟨?_, fun h2 => ?_, fun h2 => ⟨fun h3 => ?_, fun h3 => ⟨?_, fun h4 => ?_, fun h4 => ⟨?_, fun h5 => ⟨⟨[a, b, c, d], s1, f1, v1⟩, ?_⟩, fun h5 => ⟨fun h6 => ⟨fun h7 => ?_, fun h7 => ⟨?_, ?_, ⟨[a, b, c, d], s2, f1, v2⟩, ?_⟩⟩, fun h6 => ⟨fun h7 => ⟨fun h8 => ?_, fun h8 => ⟨?_, ⟨[a1, a, b, c, d], s1, f1, v⟩, ?_⟩⟩, fun h7 => ?_⟩⟩⟩⟩⟩⟩⟩
      · (subst hL; subst hQ; simp only [L2, L3, std] at *; try simp only [sySet, reduceCtorEq, forall_const, Int.reduceToNat, Int.reduceAdd, Int.reduceSub, Int.cast_ofNat_Int, Int.toNat_natCast, Nat.le_eq, Nat.sub_eq, ne_eq, Decidable.not_not, implies_true, true_and, and_true, wadd, wsub, wmul, decide_eq_true_eq, decide_eq_false_iff_not, Nat.succ_eq_add_one, imp_false, not_false_eq_true, not_true_eq_false, false_imp_iff, true_imp_iff] at *)
        exact nr_bad (nx_0 hx h1)
      · (subst hL; subst hQ; simp only [L2, L3, std] at *; try simp only [sySet, reduceCtorEq, forall_const, Int.reduceToNat, Int.reduceAdd, Int.reduceSub, Int.cast_ofNat_Int, Int.toNat_natCast, Nat.le_eq, Nat.sub_eq, ne_eq, Decidable.not_not, implies_true, true_and, and_true, wadd, wsub, wmul, decide_eq_true_eq, decide_eq_false_iff_not, Nat.succ_eq_add_one, imp_false, not_false_eq_true, not_true_eq_false, false_imp_iff, true_imp_iff] at *)
        have := List.length_pos_iff.2 h1
        omega
      · (subst hL; subst hQ; simp only [L2, L3, std] at *; try simp only [sySet, reduceCtorEq, forall_const, Int.reduceToNat, Int.reduceAdd, Int.reduceSub, Int.cast_ofNat_Int, Int.toNat_natCast, Nat.le_eq, Nat.sub_eq, ne_eq, Decidable.not_not, implies_true, true_and, and_true, wadd, wsub, wmul, decide_eq_true_eq, decide_eq_false_iff_not, Nat.succ_eq_add_one, imp_false, not_false_eq_true, not_true_eq_false, false_imp_iff, true_imp_iff] at *)
        rw [k_is] at h2
        exact nr_bad (nx_1 hx h1 (.inl h2))
      · (subst hL; subst hQ; simp only [L2, L3, std] at *; try simp only [sySet, reduceCtorEq, forall_const, Int.reduceToNat, Int.reduceAdd, Int.reduceSub, Int.cast_ofNat_Int, Int.toNat_natCast, Nat.le_eq, Nat.sub_eq, ne_eq, Decidable.not_not, implies_true, true_and, and_true, wadd, wsub, wmul, decide_eq_true_eq, decide_eq_false_iff_not, Nat.succ_eq_add_one, imp_false, not_false_eq_true, not_true_eq_false, false_imp_iff, true_imp_iff] at *)
        rw [k_is] at h3
        exact nr_bad (nx_1 hx h1 (.inr h3))
      · (subst hL; subst hQ; simp only [L2, L3, std] at *; try simp only [sySet, reduceCtorEq, forall_const, Int.reduceToNat, Int.reduceAdd, Int.reduceSub, Int.cast_ofNat_Int, Int.toNat_natCast, Nat.le_eq, Nat.sub_eq, ne_eq, Decidable.not_not, implies_true, true_and, and_true, wadd, wsub, wmul, decide_eq_true_eq, decide_eq_false_iff_not, Nat.succ_eq_add_one, imp_false, not_false_eq_true, not_true_eq_false, false_imp_iff, true_imp_iff] at *)
        have := List.length_pos_iff.2 h1
        omega
      · (subst hL; subst hQ; simp only [L2, L3, std] at *; try simp only [sySet, reduceCtorEq, forall_const, Int.reduceToNat, Int.reduceAdd, Int.reduceSub, Int.cast_ofNat_Int, Int.toNat_natCast, Nat.le_eq, Nat.sub_eq, ne_eq, Decidable.not_not, implies_true, true_and, and_true, wadd, wsub, wmul, decide_eq_true_eq, decide_eq_false_iff_not, Nat.succ_eq_add_one, imp_false, not_false_eq_true, not_true_eq_false, false_imp_iff, true_imp_iff] at *)
        rw [k_is] at h2 h3
        exact nr_bad (nx_2 hx h1 h2 h3 h4)
      · (subst hL; subst hQ; simp only [L2, L3, std] at *; try simp only [sySet, reduceCtorEq, forall_const, Int.reduceToNat, Int.reduceAdd, Int.reduceSub, Int.cast_ofNat_Int, Int.toNat_natCast, Nat.le_eq, Nat.sub_eq, ne_eq, Decidable.not_not, implies_true, true_and, and_true, wadd, wsub, wmul, decide_eq_true_eq, decide_eq_false_iff_not, Nat.succ_eq_add_one, imp_false, not_false_eq_true, not_true_eq_false, false_imp_iff, true_imp_iff] at *)
        rw [(rest_is s).2]
        exact nx_in h1 h4
      · (cbv; try simp only [sat_need, sat_must, sat_ite, sat_done, sat_yes, sat_ex, sat_all, sat_sup, sat_and, sat_fail, true_and, and_true])
        (subst hL; subst hQ; simp only [L2, L3, std] at *; try simp only [sySet, reduceCtorEq, forall_const, Int.reduceToNat, Int.reduceAdd, Int.reduceSub, Int.cast_ofNat_Int, Int.toNat_natCast, Nat.le_eq, Nat.sub_eq, ne_eq, Decidable.not_not, implies_true, true_and, and_true, wadd, wsub, wmul, decide_eq_true_eq, decide_eq_false_iff_not, Nat.succ_eq_add_one, imp_false, not_false_eq_true, not_true_eq_false, false_imp_iff, true_imp_iff] at *)
        simp only [k_is, (rest_is s).1] at h5 ⊢
        obtain ⟨q1, q2⟩ := nx_3 hx h1 h4 h5
        rw [hv1, hs1, hf1]
        exact ⟨rfl, rfl, rfl, rfl, h5, rfl, q1, q2⟩
      · (subst hL; subst hQ; simp only [L2, L3, std] at *; try simp only [sySet, reduceCtorEq, forall_const, Int.reduceToNat, Int.reduceAdd, Int.reduceSub, Int.cast_ofNat_Int, Int.toNat_natCast, Nat.le_eq, Nat.sub_eq, ne_eq, Decidable.not_not, implies_true, true_and, and_true, wadd, wsub, wmul, decide_eq_true_eq, decide_eq_false_iff_not, Nat.succ_eq_add_one, imp_false, not_false_eq_true, not_true_eq_false, false_imp_iff, true_imp_iff] at *)
        simp only [k_is, (rest_is s).1] at h6 h7
        exact nr_bad (nx_4 hx h1 h4 h6 h7)
      · (subst hL; subst hQ; simp only [L2, L3, std] at *; try simp only [sySet, reduceCtorEq, forall_const, Int.reduceToNat, Int.reduceAdd, Int.reduceSub, Int.cast_ofNat_Int, Int.toNat_natCast, Nat.le_eq, Nat.sub_eq, ne_eq, Decidable.not_not, implies_true, true_and, and_true, wadd, wsub, wmul, decide_eq_true_eq, decide_eq_false_iff_not, Nat.succ_eq_add_one, imp_false, not_false_eq_true, not_true_eq_false, false_imp_iff, true_imp_iff] at *)
        simp only [k_is, (rest_is s).1] at h7 ⊢
        exact nx_5 hx h1 h4 h7
      · (subst hL; subst hQ; simp only [L2, L3, std] at *; try simp only [sySet, reduceCtorEq, forall_const, Int.reduceToNat, Int.reduceAdd, Int.reduceSub, Int.cast_ofNat_Int, Int.toNat_natCast, Nat.le_eq, Nat.sub_eq, ne_eq, Decidable.not_not, implies_true, true_and, and_true, wadd, wsub, wmul, decide_eq_true_eq, decide_eq_false_iff_not, Nat.succ_eq_add_one, imp_false, not_false_eq_true, not_true_eq_false, false_imp_iff, true_imp_iff] at *)
        simp only [k_is, (rest_is s).1] at h7 ⊢
        exact nx_5 hx h1 h4 h7
      · (cbv; try simp only [sat_need, sat_must, sat_ite, sat_done, sat_yes, sat_ex, sat_all, sat_sup, sat_and, sat_fail, true_and, and_true])
        (subst hL; subst hQ; simp only [L2, L3, std] at *; try simp only [sySet, reduceCtorEq, forall_const, Int.reduceToNat, Int.reduceAdd, Int.reduceSub, Int.cast_ofNat_Int, Int.toNat_natCast, Nat.le_eq, Nat.sub_eq, ne_eq, Decidable.not_not, implies_true, true_and, and_true, wadd, wsub, wmul, decide_eq_true_eq, decide_eq_false_iff_not, Nat.succ_eq_add_one, imp_false, not_false_eq_true, not_true_eq_false, false_imp_iff, true_imp_iff] at *)
        simp only [k_is, (rest_is s).1] at h6 h7 ⊢
        obtain ⟨q1, q2⟩ := nx_6 hx h1 h4 h6 h7
        rw [hv2, hs2, hf1]
        exact ⟨rfl, rfl, rfl, rfl, h6, rfl, q1, q2⟩
      · (subst hL; subst hQ; simp only [L2, L3, std] at *; try simp only [sySet, reduceCtorEq, forall_const, Int.reduceToNat, Int.reduceAdd, Int.reduceSub, Int.cast_ofNat_Int, Int.toNat_natCast, Nat.le_eq, Nat.sub_eq, ne_eq, Decidable.not_not, implies_true, true_and, and_true, wadd, wsub, wmul, decide_eq_true_eq, decide_eq_false_iff_not, Nat.succ_eq_add_one, imp_false, not_false_eq_true, not_true_eq_false, false_imp_iff, true_imp_iff] at *)
        simp only [k_is] at h7
        exact absurd h8 (by decide)
      · (subst hL; subst hQ; simp only [L2, L3, std] at *; try simp only [sySet, reduceCtorEq, forall_const, Int.reduceToNat, Int.reduceAdd, Int.reduceSub, Int.cast_ofNat_Int, Int.toNat_natCast, Nat.le_eq, Nat.sub_eq, ne_eq, Decidable.not_not, implies_true, true_and, and_true, wadd, wsub, wmul, decide_eq_true_eq, decide_eq_false_iff_not, Nat.succ_eq_add_one, imp_false, not_false_eq_true, not_true_eq_false, false_imp_iff, true_imp_iff] at *)
        omega
      · (cbv; try simp only [sat_need, sat_must, sat_ite, sat_done, sat_yes, sat_ex, sat_all, sat_sup, sat_and, sat_fail, true_and, and_true])
        (subst hL; subst hQ; simp only [L2, L3, std] at *; try simp only [sySet, reduceCtorEq, forall_const, Int.reduceToNat, Int.reduceAdd, Int.reduceSub, Int.cast_ofNat_Int, Int.toNat_natCast, Nat.le_eq, Nat.sub_eq, ne_eq, Decidable.not_not, implies_true, true_and, and_true, wadd, wsub, wmul, decide_eq_true_eq, decide_eq_false_iff_not, Nat.succ_eq_add_one, imp_false, not_false_eq_true, not_true_eq_false, false_imp_iff, true_imp_iff] at *)
        simp only [k_is, (rest_is s).1] at h7 ⊢; exact nx_9 hx h1 h4 h7 (by simp) ha1 hs1 hf1
      · (subst hL; subst hQ; simp only [L2, L3, std] at *; try simp only [sySet, reduceCtorEq, forall_const, Int.reduceToNat, Int.reduceAdd, Int.reduceSub, Int.cast_ofNat_Int, Int.toNat_natCast, Nat.le_eq, Nat.sub_eq, ne_eq, Decidable.not_not, implies_true, true_and, and_true, wadd, wsub, wmul, decide_eq_true_eq, decide_eq_false_iff_not, Nat.succ_eq_add_one, imp_false, not_false_eq_true, not_true_eq_false, false_imp_iff, true_imp_iff] at *)
        simp only [k_is] at h2 h3 h5 h6 h7
        omega
    | [a, b, c, d, e], hx =>
      (cbv; try simp only [sat_need, sat_must, sat_ite, sat_done, sat_yes, sat_ex, sat_all, sat_sup, sat_and, sat_fail, true_and, and_true])
      obtain ⟨s1, hs1⟩ : ∃ s1, s1 = nxtRest s := ⟨_, rfl⟩
      obtain ⟨s2, hs2⟩ : ∃ s2, s2 = (nxtRest s).drop (lngN (s.drop 1)).toNat := ⟨_, rfl⟩
      obtain ⟨v1, hv1⟩ : ∃ v1, v1 = CV.mk 1 (lngN (s.drop 1)) [] [] := ⟨_, rfl⟩
      obtain ⟨v2, hv2⟩ : ∃ v2, v2 = CV.mk 2 0 ((nxtRest s).take (lngN (s.drop 1)).toNat) [] := ⟨_, rfl⟩
      obtain ⟨a1, ha1⟩ : ∃ a1, a1 = Lv.mk (lngN (s.drop 1)) [] := ⟨_, rfl⟩
      obtain ⟨f1, hf1⟩ : ∃ f1, f1 = f - 1 := ⟨_, rfl⟩
      refine ⟨fun h1 => ?_, fun h1 => ⟨?_, fun h2 => ?_, fun h2 => ⟨fun h3 => ?_, fun h3 => ⟨?_, fun h4 => ?_, fun h4 => ⟨?_, fun h5 => ⟨⟨[a, b, c, d, e], s1, f1, v1⟩, ?_⟩, fun h5 => ⟨fun h6 => ⟨fun h7 => ?_, fun h7 => ⟨?_, ?_, ⟨[a, b, c, d, e], s2, f1, v2⟩, ?_⟩⟩, fun h6 => ⟨fun h7 => ⟨fun h8 => ?_, fun h8 => ⟨?_, ⟨[a1, a, b, c, d, e], s1, f1, v⟩, ?_⟩⟩, fun h7 => ?_⟩⟩⟩⟩⟩⟩⟩
      · (subst hL; subst hQ; simp only [L2, L3, std] at *; try simp only [sySet, reduceCtorEq, forall_const, Int.reduceToNat, Int.reduceAdd, Int.reduceSub, Int.cast_ofNat_Int, Int.toNat_natCast, Nat.le_eq, Nat.sub_eq, ne_eq, Decidable.not_not, implies_true, true_and, and_true, wadd, wsub, wmul, decide_eq_true_eq, decide_eq_false_iff_not, Nat.succ_eq_add_one, imp_false, not_false_eq_true, not_true_eq_false, false_imp_iff, true_imp_iff] at *)
        exact nr_bad (nx_0 hx h1)
      · (subst hL; subst hQ; simp only [L2, L3, std] at *; try simp only [sySet, reduceCtorEq, forall_const, Int.reduceToNat, Int.reduceAdd, Int.reduceSub, Int.cast_ofNat_Int, Int.toNat_natCast, Nat.le_eq, Nat.sub_eq, ne_eq, Decidable.not_not, implies_true, true_and, and_true, wadd, wsub, wmul, decide_eq_true_eq, decide_eq_false_iff_not, Nat.succ_eq_add_one, imp_false, not_false_eq_true, not_true_eq_false, false_imp_iff, true_imp_iff] at *)
        have := List.length_pos_iff.2 h1
        omega
      · (subst hL; subst hQ; simp only [L2, L3, std] at *; try simp only [sySet, reduceCtorEq, forall_const, Int.reduceToNat, Int.reduceAdd, Int.reduceSub, Int.cast_ofNat_Int, Int.toNat_natCast, Nat.le_eq, Nat.sub_eq, ne_eq, Decidable.not_not, implies_true, true_and, and_true, wadd, wsub, wmul, decide_eq_true_eq, decide_eq_false_iff_not, Nat.succ_eq_add_one, imp_false, not_false_eq_true, not_true_eq_false, false_imp_iff, true_imp_iff] at *)
        rw [k_is] at h2
        exact nr_bad (nx_1 hx h1 (.inl h2))
      · (subst hL; subst hQ; simp only [L2, L3, std] at *; try simp only [sySet, reduceCtorEq, forall_const, Int.reduceToNat, Int.reduceAdd, Int.reduceSub, Int.cast_ofNat_Int, Int.toNat_natCast, Nat.le_eq, Nat.sub_eq, ne_eq, Decidable.not_not, implies_true, true_and, and_true, wadd, wsub, wmul, decide_eq_true_eq, decide_eq_false_iff_not, Nat.succ_eq_add_one, imp_false, not_false_eq_true, not_true_eq_false, false_imp_iff, true_imp_iff] at *)
        rw [k_is] at h3
        exact nr_bad (nx_1 hx h1 (.inr h3))
      · (subst hL; subst hQ; simp only [L2, L3, std] at *; try simp only [sySet, reduceCtorEq, forall_const, Int.reduceToNat, Int.reduceAdd, Int.reduceSub, Int.cast_ofNat_Int, Int.toNat_natCast, Nat.le_eq, Nat.sub_eq, ne_eq, Decidable.not_not, implies_true, true_and, and_true, wadd, wsub, wmul, decide_eq_true_eq, decide_eq_false_iff_not, Nat.succ_eq_add_one, imp_false, not_false_eq_true, not_true_eq_false, false_imp_iff, true_imp_iff] at *)
        have := List.length_pos_iff.2 h1
        omega
      · (subst hL; subst hQ; simp only [L2, L3, std] at *; try simp only [sySet, reduceCtorEq, forall_const, Int.reduceToNat, Int.reduceAdd, Int.reduceSub, Int.cast_ofNat_Int, Int.toNat_natCast, Nat.le_eq, Nat.sub_eq, ne_eq, Decidable.not_not, implies_true, true_and, and_true, wadd, wsub, wmul, decide_eq_true_eq, decide_eq_false_iff_not, Nat.succ_eq_add_one, imp_false, not_false_eq_true, not_true_eq_false, false_imp_iff, true_imp_iff] at *)
        rw [k_is] at h2 h3
        exact nr_bad (nx_2 hx h1 h2 h3 h4)
      · (subst hL; subst hQ; simp only [L2, L3, std] at *; try simp only [sySet, reduceCtorEq, forall_const, Int.reduceToNat, Int.reduceAdd, Int.reduceSub, Int.cast_ofNat_Int, Int.toNat_natCast, Nat.le_eq, Nat.sub_eq, ne_eq, Decidable.not_not, implies_true, true_and, and_true, wadd, wsub, wmul, decide_eq_true_eq, decide_eq_false_iff_not, Nat.succ_eq_add_one, imp_false, not_false_eq_true, not_true_eq_false, false_imp_iff, true_imp_iff] at *)
        rw [(rest_is s).2]
        exact nx_in h1 h4
      · (cbv; try simp only [sat_need, sat_must, sat_ite, sat_done, sat_yes, sat_ex, sat_all, sat_sup, sat_and, sat_fail, true_and, and_true])
        (subst hL; subst hQ; simp only [L2, L3, std] at *; try simp only [sySet, reduceCtorEq, forall_const, Int.reduceToNat, Int.reduceAdd, Int.reduceSub, Int.cast_ofNat_Int, Int.toNat_natCast, Nat.le_eq, Nat.sub_eq, ne_eq, Decidable.not_not, implies_true, true_and, and_true, wadd, wsub, wmul, decide_eq_true_eq, decide_eq_false_iff_not, Nat.succ_eq_add_one, imp_false, not_false_eq_true, not_true_eq_false, false_imp_iff, true_imp_iff] at *)
        simp only [k_is, (rest_is s).1] at h5 ⊢
        obtain ⟨q1, q2⟩ := nx_3 hx h1 h4 h5
        rw [hv1, hs1, hf1]
        exact ⟨rfl, rfl, rfl, rfl, h5, rfl, q1, q2⟩
      · (subst hL; subst hQ; simp only [L2, L3, std] at *; try simp only [sySet, reduceCtorEq, forall_const, Int.reduceToNat, Int.reduceAdd, Int.reduceSub, Int.cast_ofNat_Int, Int.toNat_natCast, Nat.le_eq, Nat.sub_eq, ne_eq, Decidable.not_not, implies_true, true_and, and_true, wadd, wsub, wmul, decide_eq_true_eq, decide_eq_false_iff_not, Nat.succ_eq_add_one, imp_false, not_false_eq_true, not_true_eq_false, false_imp_iff, true_imp_iff] at *)
        simp only [k_is, (rest_is s).1] at h6 h7
        exact nr_bad (nx_4 hx h1 h4 h6 h7)
      · (subst hL; subst hQ; simp only [L2, L3, std] at *; try simp only [sySet, reduceCtorEq, forall_const, Int.reduceToNat, Int.reduceAdd, Int.reduceSub, Int.cast_ofNat_Int, Int.toNat_natCast, Nat.le_eq, Nat.sub_eq, ne_eq, Decidable.not_not, implies_true, true_and, and_true, wadd, wsub, wmul, decide_eq_true_eq, decide_eq_false_iff_not, Nat.succ_eq_add_one, imp_false, not_false_eq_true, not_true_eq_false, false_imp_iff, true_imp_iff] at *)
        simp only [k_is, (rest_is s).1] at h7 ⊢
        exact nx_5 hx h1 h4 h7
      · (subst hL; subst hQ; simp only [L2, L3, std] at *; try simp only [sySet, reduceCtorEq, forall_const, Int.reduceToNat, Int.reduceAdd, Int.reduceSub, Int.cast_ofNat_Int, Int.toNat_natCast, Nat.le_eq, Nat.sub_eq, ne_eq, Decidable.not_not, implies_true, true_and, and_true, wadd, wsub, wmul, decide_eq_true_eq, decide_eq_false_iff_not, Nat.succ_eq_add_one, imp_false, not_false_eq_true, not_true_eq_false, false_imp_iff, true_imp_iff] at *)
        simp only [k_is, (rest_is s).1] at h7 ⊢
        exact nx_5 hx h1 h4 h7
      · (cbv; try simp only [sat_need, sat_must, sat_ite, sat_done, sat_yes, sat_ex, sat_all, sat_sup, sat_and, sat_fail, true_and, and_true])
        (subst hL; subst hQ; simp only [L2, L3, std] at *; try simp only [sySet, reduceCtorEq, forall_const, Int.reduceToNat, Int.reduceAdd, Int.reduceSub, Int.cast_ofNat_Int, Int.toNat_natCast, Nat.le_eq, Nat.sub_eq, ne_eq, Decidable.not_not, implies_true, true_and, and_true, wadd, wsub, wmul, decide_eq_true_eq, decide_eq_false_iff_not, Nat.succ_eq_add_one, imp_false, not_false_eq_true, not_true_eq_false, false_imp_iff, true_imp_iff] at *)
        simp only [k_is, (rest_is s).1] at h6 h7 ⊢
        obtain ⟨q1, q2⟩ := nx_6 hx h1 h4 h6 h7
        rw [hv2, hs2, hf1]
        exact ⟨rfl, rfl, rfl, rfl, h6, rfl, q1, q2⟩
      · (subst hL; subst hQ; simp only [L2, L3, std] at *; try simp only [sySet, reduceCtorEq, forall_const, Int.reduceToNat, Int.reduceAdd, Int.reduceSub, Int.cast_ofNat_Int, Int.toNat_natCast, Nat.le_eq, Nat.sub_eq, ne_eq, Decidable.not_not, implies_true, true_and, and_true, wadd, wsub, wmul, decide_eq_true_eq, decide_eq_false_iff_not, Nat.succ_eq_add_one, imp_false, not_false_eq_true, not_true_eq_false, false_imp_iff, true_imp_iff] at *)
        simp only [k_is] at h7
        exact absurd h8 (by decide)
      · (subst hL; subst hQ; simp only [L2, L3, std] at *; try simp only [sySet, reduceCtorEq, forall_const, Int.reduceToNat, Int.reduceAdd, Int.reduceSub, Int.cast_ofNat_Int, Int.toNat_natCast, Nat.le_eq, Nat.sub_eq, ne_eq, Decidable.not_not, implies_true, true_and, and_true, wadd, wsub, wmul, decide_eq_true_eq, decide_eq_false_iff_not, Nat.succ_eq_add_one, imp_false, not_false_eq_true, not_true_eq_false, false_imp_iff, true_imp_iff] at *)
        omega
      · (cbv; try simp only [sat_need, sat_must, sat_ite, sat_done, sat_yes, sat_ex, sat_all, sat_sup, sat_and, sat_fail, true_and, and_true])
        (subst hL; subst hQ; simp only [L2, L3, std] at *; try simp only [sySet, reduceCtorEq, forall_const, Int.reduceToNat, Int.reduceAdd, Int.reduceSub, Int.cast_ofNat_Int, Int.toNat_natCast, Nat.le_eq, Nat.sub_eq, ne_eq, Decidable.not_not, implies_true, true_and, and_true, wadd, wsub, wmul, decide_eq_true_eq, decide_eq_false_iff_not, Nat.succ_eq_add_one, imp_false, not_false_eq_true, not_true_eq_false, false_imp_iff, true_imp_iff] at *)
        simp only [k_is, (rest_is s).1] at h7 ⊢; exact nx_9 hx h1 h4 h7 (by simp) ha1 hs1 hf1
      · (subst hL; subst hQ; simp only [L2, L3, std] at *; try simp only [sySet, reduceCtorEq, forall_const, Int.reduceToNat, Int.reduceAdd, Int.reduceSub, Int.cast_ofNat_Int, Int.toNat_natCast, Nat.le_eq, Nat.sub_eq, ne_eq, Decidable.not_not, implies_true, true_and, and_true, wadd, wsub, wmul, decide_eq_true_eq, decide_eq_false_iff_not, Nat.succ_eq_add_one, imp_false, not_false_eq_true, not_true_eq_false, false_imp_iff, true_imp_iff] at *)
        simp only [k_is] at h2 h3 h5 h6 h7
        omega
    | [a, b, c, d, e, k], hx =>
      (cbv; try simp only [sat_need, sat_must, sat_ite, sat_done, sat_yes, sat_ex, sat_all, sat_sup, sat_and, sat_fail, true_and, and_true])
      obtain ⟨s1, hs1⟩ : ∃ s1, s1 = nxtRest s := ⟨_, rfl⟩
      obtain ⟨s2, hs2⟩ : ∃ s2, s2 = (nxtRest s).drop (lngN (s.drop 1)).toNat := ⟨_, rfl⟩
      obtain ⟨v1, hv1⟩ : ∃ v1, v1 = CV.mk 1 (lngN (s.drop 1)) [] [] := ⟨_, rfl⟩
      obtain ⟨v2, hv2⟩ : ∃ v2, v2 = CV.mk 2 0 ((nxtRest s).take (lngN (s.drop 1)).toNat) [] := ⟨_, rfl⟩
      obtain ⟨a1, ha1⟩ : ∃ a1, a1 = Lv.mk (lngN (s.drop 1)) [] := ⟨_, rfl⟩
      obtain ⟨f1, hf1⟩ : ∃ f1, f1 = f - 1 := ⟨_, rfl⟩
      refine ⟨fun h1 => ?_, fun h1 => ⟨?_, fun h2 => ?_, fun h2 => ⟨fun h3 => ?_, fun h3 => ⟨?_, fun h4 => ?_, fun h4 => ⟨?_, fun h5 => ⟨⟨[a, b, c, d, e, k], s1, f1, v1⟩, ?_⟩, fun h5 => ⟨fun h6 => ⟨fun h7 => ?_, fun h7 => ⟨?_, ?_, ⟨[a, b, c, d, e, k], s2, f1, v2⟩, ?_⟩⟩, fun h6 => ⟨fun h7 => ⟨fun h8 => ?_, fun h8 => ⟨?_, ⟨[a1, a, b, c, d, e, k], s1, f1, v⟩, ?_⟩⟩, fun h7 => ?_⟩⟩⟩⟩⟩⟩⟩
      · (subst hL; subst hQ; simp only [L2, L3, std] at *; try simp only [sySet, reduceCtorEq, forall_const, Int.reduceToNat, Int.reduceAdd, Int.reduceSub, Int.cast_ofNat_Int, Int.toNat_natCast, Nat.le_eq, Nat.sub_eq, ne_eq, Decidable.not_not, implies_true, true_and, and_true, wadd, wsub, wmul, decide_eq_true_eq, decide_eq_false_iff_not, Nat.succ_eq_add_one, imp_false, not_false_eq_true, not_true_eq_false, false_imp_iff, true_imp_iff] at *)
        exact nr_bad (nx_0 hx h1)
      · (subst hL; subst hQ; simp only [L2, L3, std] at *; try simp only [sySet, reduceCtorEq, forall_const, Int.reduceToNat, Int.reduceAdd, Int.reduceSub, Int.cast_ofNat_Int, Int.toNat_natCast, Nat.le_eq, Nat.sub_eq, ne_eq, Decidable.not_not, implies_true, true_and, and_true, wadd, wsub, wmul, decide_eq_true_eq, decide_eq_false_iff_not, Nat.succ_eq_add_one, imp_false, not_false_eq_true, not_true_eq_false, false_imp_iff, true_imp_iff] at *)
        have := List.length_pos_iff.2 h1
        omega
      · (subst hL; subst hQ; simp only [L2, L3, std] at *; try simp only [sySet, reduceCtorEq, forall_const, Int.reduceToNat, Int.reduceAdd, Int.reduceSub, Int.cast_ofNat_Int, Int.toNat_natCast, Nat.le_eq, Nat.sub_eq, ne_eq, Decidable.not_not, implies_true, true_and, and_true, wadd, wsub, wmul, decide_eq_true_eq, decide_eq_false_iff_not, Nat.succ_eq_add_one, imp_false, not_false_eq_true, not_true_eq_false, false_imp_iff, true_imp_iff] at *)
        rw [k_is] at h2
        exact nr_bad (nx_1 hx h1 (.inl h2))
      · (subst hL; subst hQ; simp only [L2, L3, std] at *; try simp only [sySet, reduceCtorEq, forall_const, Int.reduceToNat, Int.reduceAdd, Int.reduceSub, Int.cast_ofNat_Int, Int.toNat_natCast, Nat.le_eq, Nat.sub_eq, ne_eq, Decidable.not_not, implies_true, true_and, and_true, wadd, wsub, wmul, decide_eq_true_eq, decide_eq_false_iff_not, Nat.succ_eq_add_one, imp_false, not_false_eq_true, not_true_eq_false, false_imp_iff, true_imp_iff] at *)
        rw [k_is] at h3
        exact nr_bad (nx_1 hx h1 (.inr h3))
      · (subst hL; subst hQ; simp only [L2, L3, std] at *; try simp only [sySet, reduceCtorEq, forall_const, Int.reduceToNat, Int.reduceAdd, Int.reduceSub, Int.cast_ofNat_Int, Int.toNat_natCast, Nat.le_eq, Nat.sub_eq, ne_eq, Decidable.not_not, implies_true, true_and, and_true, wadd, wsub, wmul, decide_eq_true_eq, decide_eq_false_iff_not, Nat.succ_eq_add_one, imp_false, not_false_eq_true, not_true_eq_false, false_imp_iff, true_imp_iff] at *)
        have := List.length_pos_iff.2 h1
        omega
      · (subst hL; subst hQ; simp only [L2, L3, std] at *; try simp only [sySet, reduceCtorEq, forall_const, Int.reduceToNat, Int.reduceAdd, Int.reduceSub, Int.cast_ofNat_Int, Int.toNat_natCast, Nat.le_eq, Nat.sub_eq, ne_eq, Decidable.not_not, implies_true, true_and, and_true, wadd, wsub, wmul, decide_eq_true_eq, decide_eq_false_iff_not, Nat.succ_eq_add_one, imp_false, not_false_eq_true, not_true_eq_false, false_imp_iff, true_imp_iff] at *)
        rw [k_is] at h2 h3
        exact nr_bad (nx_2 hx h1 h2 h3 h4)
      · (subst hL; subst hQ; simp only [L2, L3, std] at *; try simp only [sySet, reduceCtorEq, forall_const, Int.reduceToNat, Int.reduceAdd, Int.reduceSub, Int.cast_ofNat_Int, Int.toNat_natCast, Nat.le_eq, Nat.sub_eq, ne_eq, Decidable.not_not, implies_true, true_and, and_true, wadd, wsub, wmul, decide_eq_true_eq, decide_eq_false_iff_not, Nat.succ_eq_add_one, imp_false, not_false_eq_true, not_true_eq_false, false_imp_iff, true_imp_iff] at *)
        rw [(rest_is s).2]
        exact nx_in h1 h4
      · (cbv; try simp only [sat_need, sat_must, sat_ite, sat_done, sat_yes, sat_ex, sat_all, sat_sup, sat_and, sat_fail, true_and, and_true])
        (subst hL; subst hQ; simp only [L2, L3, std] at *; try simp only [sySet, reduceCtorEq, forall_const, Int.reduceToNat, Int.reduceAdd, Int.reduceSub, Int.cast_ofNat_Int, Int.toNat_natCast, Nat.le_eq, Nat.sub_eq, ne_eq, Decidable.not_not, implies_true, true_and, and_true, wadd, wsub, wmul, decide_eq_true_eq, decide_eq_false_iff_not, Nat.succ_eq_add_one, imp_false, not_false_eq_true, not_true_eq_false, false_imp_iff, true_imp_iff] at *)
        simp only [k_is, (rest_is s).1] at h5 ⊢
        obtain ⟨q1, q2⟩ := nx_3 hx h1 h4 h5
        rw [hv1, hs1, hf1]
        exact ⟨rfl, rfl, rfl, rfl, h5, rfl, q1, q2⟩
      · (subst hL; subst hQ; simp only [L2, L3, std] at *; try simp only [sySet, reduceCtorEq, forall_const, Int.reduceToNat, Int.reduceAdd, Int.reduceSub, Int.cast_ofNat_Int, Int.toNat_natCast, Nat.le_eq, Nat.sub_eq, ne_eq, Decidable.not_not, implies_true, true_and, and_true, wadd, wsub, wmul, decide_eq_true_eq, decide_eq_false_iff_not, Nat.succ_eq_add_one, imp_false, not_false_eq_true, not_true_eq_false, false_imp_iff, true_imp_iff] at *)
        simp only [k_is, (rest_is s).1] at h6 h7
        exact nr_bad (nx_4 hx h1 h4 h6 h7)
      · (subst hL; subst hQ; simp only [L2, L3, std] at *; try simp only [sySet, reduceCtorEq, forall_const, Int.reduceToNat, Int.reduceAdd, Int.reduceSub, Int.cast_ofNat_Int, Int.toNat_natCast, Nat.le_eq, Nat.sub_eq, ne_eq, Decidable.not_not, implies_true, true_and, and_true, wadd, wsub, wmul, decide_eq_true_eq, decide_eq_false_iff_not, Nat.succ_eq_add_one, imp_false, not_false_eq_true, not_true_eq_false, false_imp_iff, true_imp_iff] at *)
        simp only [k_is, (rest_is s).1] at h7 ⊢
        exact nx_5 hx h1 h4 h7
      · (subst hL; subst hQ; simp only [L2, L3, std] at *; try simp only [sySet, reduceCtorEq, forall_const, Int.reduceToNat, Int.reduceAdd, Int.reduceSub, Int.cast_ofNat_Int, Int.toNat_natCast, Nat.le_eq, Nat.sub_eq, ne_eq, Decidable.not_not, implies_true, true_and, and_true, wadd, wsub, wmul, decide_eq_true_eq, decide_eq_false_iff_not, Nat.succ_eq_add_one, imp_false, not_false_eq_true, not_true_eq_false, false_imp_iff, true_imp_iff] at *)
        simp only [k_is, (rest_is s).1] at h7 ⊢
        exact nx_5 hx h1 h4 h7
      · (cbv; try simp only [sat_need, sat_must, sat_ite, sat_done, sat_yes, sat_ex, sat_all, sat_sup, sat_and, sat_fail, true_and, and_true])
        (subst hL; subst hQ; simp only [L2, L3, std] at *; try simp only [sySet, reduceCtorEq, forall_const, Int.reduceToNat, Int.reduceAdd, Int.reduceSub, Int.cast_ofNat_Int, Int.toNat_natCast, Nat.le_eq, Nat.sub_eq, ne_eq, Decidable.not_not, implies_true, true_and, and_true, wadd, wsub, wmul, decide_eq_true_eq, decide_eq_false_iff_not, Nat.succ_eq_add_one, imp_false, not_false_eq_true, not_true_eq_false, false_imp_iff, true_imp_iff] at *)
        simp only [k_is, (rest_is s).1] at h6 h7 ⊢
        obtain ⟨q1, q2⟩ := nx_6 hx h1 h4 h6 h7
        rw [hv2, hs2, hf1]
        exact ⟨rfl, rfl, rfl, rfl, h6, rfl, q1, q2⟩
      · (subst hL; subst hQ; simp only [L2, L3, std] at *; try simp only [sySet, reduceCtorEq, forall_const, Int.reduceToNat, Int.reduceAdd, Int.reduceSub, Int.cast_ofNat_Int, Int.toNat_natCast, Nat.le_eq, Nat.sub_eq, ne_eq, Decidable.not_not, implies_true, true_and, and_true, wadd, wsub, wmul, decide_eq_true_eq, decide_eq_false_iff_not, Nat.succ_eq_add_one, imp_false, not_false_eq_true, not_true_eq_false, false_imp_iff, true_imp_iff] at *)
        simp only [k_is] at h7
        exact nr_bad (nx_7 hx h1 h4 h7 rfl)
      · (subst hL; subst hQ; simp only [L2, L3, std] at *; try simp only [sySet, reduceCtorEq, forall_const, Int.reduceToNat, Int.reduceAdd, Int.reduceSub, Int.cast_ofNat_Int, Int.toNat_natCast, Nat.le_eq, Nat.sub_eq, ne_eq, Decidable.not_not, implies_true, true_and, and_true, wadd, wsub, wmul, decide_eq_true_eq, decide_eq_false_iff_not, Nat.succ_eq_add_one, imp_false, not_false_eq_true, not_true_eq_false, false_imp_iff, true_imp_iff] at *)
        all_goals omega
      · all_goals skip
        (subst hL; subst hQ; simp only [L2, L3, std] at *; try simp only [sySet, reduceCtorEq, forall_const, Int.reduceToNat, Int.reduceAdd, Int.reduceSub, Int.cast_ofNat_Int, Int.toNat_natCast, Nat.le_eq, Nat.sub_eq, ne_eq, Decidable.not_not, implies_true, true_and, and_true, wadd, wsub, wmul, decide_eq_true_eq, decide_eq_false_iff_not, Nat.succ_eq_add_one, imp_false, not_false_eq_true, not_true_eq_false, false_imp_iff, true_imp_iff] at *)
        all_goals omega
      · (subst hL; subst hQ; simp only [L2, L3, std] at *; try simp only [sySet, reduceCtorEq, forall_const, Int.reduceToNat, Int.reduceAdd, Int.reduceSub, Int.cast_ofNat_Int, Int.toNat_natCast, Nat.le_eq, Nat.sub_eq, ne_eq, Decidable.not_not, implies_true, true_and, and_true, wadd, wsub, wmul, decide_eq_true_eq, decide_eq_false_iff_not, Nat.succ_eq_add_one, imp_false, not_false_eq_true, not_true_eq_false, false_imp_iff, true_imp_iff] at *)
        simp only [k_is] at h2 h3 h5 h6 h7
        omega
    | a :: b :: c :: d :: e :: k :: m :: r, hx =>
      have h7 : (a :: b :: c :: d :: e :: k :: m :: r).length ≤ 6 := by { (subst hL; subst hQ; simp only [L2, L3, std] at *; try simp only [sySet, reduceCtorEq, forall_const, Int.reduceToNat, Int.reduceAdd, Int.reduceSub, Int.cast_ofNat_Int, Int.toNat_natCast, Nat.le_eq, Nat.sub_eq, ne_eq, Decidable.not_not, implies_true, true_and, and_true, wadd, wsub, wmul, decide_eq_true_eq, decide_eq_false_iff_not, Nat.succ_eq_add_one, imp_false, not_false_eq_true, not_true_eq_false, false_imp_iff, true_imp_iff] at *); exact hx.1 }
      exact absurd h7 (by simp)
  · obtain ⟨st, s, f, v⟩ := x
    cbv at hx
    match st, hx with
    | [], hx =>
      (cbv; try simp only [sat_need, sat_must, sat_ite, sat_done, sat_yes, sat_ex, sat_all, sat_sup, sat_and, sat_fail, true_and, and_true])
      refine ⟨fun h0 => ?_, fun h0 => ?_⟩
      · (subst hL; subst hQ; simp only [L2, L3, std] at *; try simp only [sySet, reduceCtorEq, forall_const, Int.reduceToNat, Int.reduceAdd, Int.reduceSub, Int.cast_ofNat_Int, Int.toNat_natCast, Nat.le_eq, Nat.sub_eq, ne_eq, Decidable.not_not, implies_true, true_and, and_true, wadd, wsub, wmul, decide_eq_true_eq, decide_eq_false_iff_not, Nat.succ_eq_add_one, imp_false, not_false_eq_true, not_true_eq_false, false_imp_iff, true_imp_iff] at *)
        exact nr_good (nd_0 hx)
      · (subst hL; subst hQ; simp only [L2, L3, std] at *; try simp only [sySet, reduceCtorEq, forall_const, Int.reduceToNat, Int.reduceAdd, Int.reduceSub, Int.cast_ofNat_Int, Int.toNat_natCast, Nat.le_eq, Nat.sub_eq, ne_eq, Decidable.not_not, implies_true, true_and, and_true, wadd, wsub, wmul, decide_eq_true_eq, decide_eq_false_iff_not, Nat.succ_eq_add_one, imp_false, not_false_eq_true, not_true_eq_false, false_imp_iff, true_imp_iff] at *)
    | [a], hx =>
      (cbv; try simp only [sat_need, sat_must, sat_ite, sat_done, sat_yes, sat_ex, sat_all, sat_sup, sat_and, sat_fail, true_and, and_true])
      obtain ⟨a', ha'⟩ : ∃ a', a' = Lv.mk (a.left - 1) (a.l ++ [v]) := ⟨_, rfl⟩
      refine ⟨fun h0 => ?_, fun h0 => ⟨⟨?_, ?_, ?_, ?_, ?_, ⟨[a'], s, f, v⟩, ?_⟩, ?_, ?_, ?_, ?_, ?_, ?_, ⟨[a'], s, f, v⟩, ?_⟩⟩
      · (subst hL; subst hQ; simp only [L2, L3, std] at *; try simp only [sySet, reduceCtorEq, forall_const, Int.reduceToNat, Int.reduceAdd, Int.reduceSub, Int.cast_ofNat_Int, Int.toNat_natCast, Nat.le_eq, Nat.sub_eq, ne_eq, Decidable.not_not, implies_true, true_and, and_true, wadd, wsub, wmul, decide_eq_true_eq, decide_eq_false_iff_not, Nat.succ_eq_add_one, imp_false, not_false_eq_true, not_true_eq_false, false_imp_iff, true_imp_iff] at *)
        exact absurd h0 (by decide)
      · (subst hL; subst hQ; simp only [L2, L3, std]; try simp only [sySet, reduceCtorEq, forall_const, Int.reduceToNat, Int.reduceAdd, Int.reduceSub, Int.cast_ofNat_Int, Int.toNat_natCast, Nat.le_eq, Nat.sub_eq, ne_eq, Decidable.not_not, implies_true, true_and, and_true, wadd, wsub, wmul, decide_eq_true_eq, decide_eq_false_iff_not, Nat.succ_eq_add_one, imp_false, not_false_eq_true, not_true_eq_false, false_imp_iff, true_imp_iff]) <;> decide
      · (subst hL; subst hQ; simp only [L2, L3, std] at *; try simp only [sySet, reduceCtorEq, forall_const, Int.reduceToNat, Int.reduceAdd, Int.reduceSub, Int.cast_ofNat_Int, Int.toNat_natCast, Nat.le_eq, Nat.sub_eq, ne_eq, Decidable.not_not, implies_true, true_and, and_true, wadd, wsub, wmul, decide_eq_true_eq, decide_eq_false_iff_not, Nat.succ_eq_add_one, imp_false, not_false_eq_true, not_true_eq_false, false_imp_iff, true_imp_iff] at *)
        exact nd_room (nd_1 hx).2.1
      · (subst hL; subst hQ; simp only [L2, L3, std]; try simp only [sySet, reduceCtorEq, forall_const, Int.reduceToNat, Int.reduceAdd, Int.reduceSub, Int.cast_ofNat_Int, Int.toNat_natCast, Nat.le_eq, Nat.sub_eq, ne_eq, Decidable.not_not, implies_true, true_and, and_true, wadd, wsub, wmul, decide_eq_true_eq, decide_eq_false_iff_not, Nat.succ_eq_add_one, imp_false, not_false_eq_true, not_true_eq_false, false_imp_iff, true_imp_iff]) <;> decide
      · (subst hL; subst hQ; simp only [L2, L3, std]; try simp only [sySet, reduceCtorEq, forall_const, Int.reduceToNat, Int.reduceAdd, Int.reduceSub, Int.cast_ofNat_Int, Int.toNat_natCast, Nat.le_eq, Nat.sub_eq, ne_eq, Decidable.not_not, implies_true, true_and, and_true, wadd, wsub, wmul, decide_eq_true_eq, decide_eq_false_iff_not, Nat.succ_eq_add_one, imp_false, not_false_eq_true, not_true_eq_false, false_imp_iff, true_imp_iff]) <;> decide
      · (subst hL; subst hQ; simp only [L2, L3, std]; try simp only [sySet, reduceCtorEq, forall_const, Int.reduceToNat, Int.reduceAdd, Int.reduceSub, Int.cast_ofNat_Int, Int.toNat_natCast, Nat.le_eq, Nat.sub_eq, ne_eq, Decidable.not_not, implies_true, true_and, and_true, wadd, wsub, wmul, decide_eq_true_eq, decide_eq_false_iff_not, Nat.succ_eq_add_one, imp_false, not_false_eq_true, not_true_eq_false, false_imp_iff, true_imp_iff]) <;> decide
      · (cbv; try simp only [sat_need, sat_must, sat_ite, sat_done, sat_yes, sat_ex, sat_all, sat_sup, sat_and, sat_fail, true_and, and_true])
        (subst hL; subst hQ; simp only [L2, L3, std] at *; try simp only [sySet, reduceCtorEq, forall_const, Int.reduceToNat, Int.reduceAdd, Int.reduceSub, Int.cast_ofNat_Int, Int.toNat_natCast, Nat.le_eq, Nat.sub_eq, ne_eq, Decidable.not_not, implies_true, true_and, and_true, wadd, wsub, wmul, decide_eq_true_eq, decide_eq_false_iff_not, Nat.succ_eq_add_one, imp_false, not_false_eq_true, not_true_eq_false, false_imp_iff, true_imp_iff] at *)
        obtain ⟨q1, q2, q3, q4, q5⟩ := nd_1 hx
        subst ha'
        have e : lenL (a.l ++ [v]) = a.l.length + 1 := by unfold lenL; simp
        exact ⟨⟨e.symm, fun i j hi hj => cv_push3 a.l v (by rw [← e]; exact hi) hj⟩, e.symm, Int.emod_eq_of_lt (by omega) (by omega), q1, q5⟩
      · (subst hL; subst hQ; simp only [L2, L3, std]; try simp only [sySet, reduceCtorEq, forall_const, Int.reduceToNat, Int.reduceAdd, Int.reduceSub, Int.cast_ofNat_Int, Int.toNat_natCast, Nat.le_eq, Nat.sub_eq, ne_eq, Decidable.not_not, implies_true, true_and, and_true, wadd, wsub, wmul, decide_eq_true_eq, decide_eq_false_iff_not, Nat.succ_eq_add_one, imp_false, not_false_eq_true, not_true_eq_false, false_imp_iff, true_imp_iff]) <;> decide
      · (subst hL; subst hQ; simp only [L2, L3, std] at *; try simp only [sySet, reduceCtorEq, forall_const, Int.reduceToNat, Int.reduceAdd, Int.reduceSub, Int.cast_ofNat_Int, Int.toNat_natCast, Nat.le_eq, Nat.sub_eq, ne_eq, Decidable.not_not, implies_true, true_and, and_true, wadd, wsub, wmul, decide_eq_true_eq, decide_eq_false_iff_not, Nat.succ_eq_add_one, imp_false, not_false_eq_true, not_true_eq_false, false_imp_iff, true_imp_iff] at *)
        exact nd_room (nd_1 hx).2.1
      · (subst hL; subst hQ; simp only [L2, L3, std]; try simp only [sySet, reduceCtorEq, forall_const, Int.reduceToNat, Int.reduceAdd, Int.reduceSub, Int.cast_ofNat_Int, Int.toNat_natCast, Nat.le_eq, Nat.sub_eq, ne_eq, Decidable.not_not, implies_true, true_and, and_true, wadd, wsub, wmul, decide_eq_true_eq, decide_eq_false_iff_not, Nat.succ_eq_add_one, imp_false, not_false_eq_true, not_true_eq_false, false_imp_iff, true_imp_iff]) <;> decide
      · (subst hL; subst hQ; simp only [L2, L3, std] at *; try simp only [sySet, reduceCtorEq, forall_const, Int.reduceToNat, Int.reduceAdd, Int.reduceSub, Int.cast_ofNat_Int, Int.toNat_natCast, Nat.le_eq, Nat.sub_eq, ne_eq, Decidable.not_not, implies_true, true_and, and_true, wadd, wsub, wmul, decide_eq_true_eq, decide_eq_false_iff_not, Nat.succ_eq_add_one, imp_false, not_false_eq_true, not_true_eq_false, false_imp_iff, true_imp_iff] at *)
        exact nd_in _
      · (subst hL; subst hQ; simp only [L2, L3, std]; try simp only [sySet, reduceCtorEq, forall_const, Int.reduceToNat, Int.reduceAdd, Int.reduceSub, Int.cast_ofNat_Int, Int.toNat_natCast, Nat.le_eq, Nat.sub_eq, ne_eq, Decidable.not_not, implies_true, true_and, and_true, wadd, wsub, wmul, decide_eq_true_eq, decide_eq_false_iff_not, Nat.succ_eq_add_one, imp_false, not_false_eq_true, not_true_eq_false, false_imp_iff, true_imp_iff]) <;> decide
      · (subst hL; subst hQ; simp only [L2, L3, std]; try simp only [sySet, reduceCtorEq, forall_const, Int.reduceToNat, Int.reduceAdd, Int.reduceSub, Int.cast_ofNat_Int, Int.toNat_natCast, Nat.le_eq, Nat.sub_eq, ne_eq, Decidable.not_not, implies_true, true_and, and_true, wadd, wsub, wmul, decide_eq_true_eq, decide_eq_false_iff_not, Nat.succ_eq_add_one, imp_false, not_false_eq_true, not_true_eq_false, false_imp_iff, true_imp_iff]) <;> decide
      · (cbv; try simp only [sat_need, sat_must, sat_ite, sat_done, sat_yes, sat_ex, sat_all, sat_sup, sat_and, sat_fail, true_and, and_true])
        (subst hL; subst hQ; simp only [L2, L3, std] at *; try simp only [sySet, reduceCtorEq, forall_const, Int.reduceToNat, Int.reduceAdd, Int.reduceSub, Int.cast_ofNat_Int, Int.toNat_natCast, Nat.le_eq, Nat.sub_eq, ne_eq, Decidable.not_not, implies_true, true_and, and_true, wadd, wsub, wmul, decide_eq_true_eq, decide_eq_false_iff_not, Nat.succ_eq_add_one, imp_false, not_false_eq_true, not_true_eq_false, false_imp_iff, true_imp_iff] at *)
        obtain ⟨q1, q2, q3, q4, q5⟩ := nd_1 hx
        subst ha'
        have e : lenL (a.l ++ [v]) = a.l.length + 1 := by unfold lenL; simp
        exact ⟨⟨e.symm, fun i j hi hj => cv_push4 a.l v (by rw [← e]; exact hi) hj⟩, e.symm, Int.emod_eq_of_lt (by omega) (by omega), q1, q5⟩
    | [a, b], hx =>
      (cbv; try simp only [sat_need, sat_must, sat_ite, sat_done, sat_yes, sat_ex, sat_all, sat_sup, sat_and, sat_fail, true_and, and_true])
      obtain ⟨a', ha'⟩ : ∃ a', a' = Lv.mk (a.left - 1) (a.l ++ [v]) := ⟨_, rfl⟩
      refine ⟨fun h0 => ?_, fun h0 => ⟨⟨?_, ?_, ?_, ?_, ?_, ⟨[a', b], s, f, v⟩, ?_⟩, ?_, ?_, ?_, ?_, ?_, ?_, ⟨[a', b], s, f, v⟩, ?_⟩⟩
      · (subst hL; subst hQ; simp only [L2, L3, std] at *; try simp only [sySet, reduceCtorEq, forall_const, Int.reduceToNat, Int.reduceAdd, Int.reduceSub, Int.cast_ofNat_Int, Int.toNat_natCast, Nat.le_eq, Nat.sub_eq, ne_eq, Decidable.not_not, implies_true, true_and, and_true, wadd, wsub, wmul, decide_eq_true_eq, decide_eq_false_iff_not, Nat.succ_eq_add_one, imp_false, not_false_eq_true, not_true_eq_false, false_imp_iff, true_imp_iff] at *)
        exact absurd h0 (by decide)
      · (subst hL; subst hQ; simp only [L2, L3, std]; try simp only [sySet, reduceCtorEq, forall_const, Int.reduceToNat, Int.reduceAdd, Int.reduceSub, Int.cast_ofNat_Int, Int.toNat_natCast, Nat.le_eq, Nat.sub_eq, ne_eq, Decidable.not_not, implies_true, true_and, and_true, wadd, wsub, wmul, decide_eq_true_eq, decide_eq_false_iff_not, Nat.succ_eq_add_one, imp_false, not_false_eq_true, not_true_eq_false, false_imp_iff, true_imp_iff]) <;> decide
      · (subst hL; subst hQ; simp only [L2, L3, std] at *; try simp only [sySet, reduceCtorEq, forall_const, Int.reduceToNat, Int.reduceAdd, Int.reduceSub, Int.cast_ofNat_Int, Int.toNat_natCast, Nat.le_eq, Nat.sub_eq, ne_eq, Decidable.not_not, implies_true, true_and, and_true, wadd, wsub, wmul, decide_eq_true_eq, decide_eq_false_iff_not, Nat.succ_eq_add_one, imp_false, not_false_eq_true, not_true_eq_false, false_imp_iff, true_imp_iff] at *)
        exact nd_room (nd_1 hx).2.1
      · (subst hL; subst hQ; simp only [L2, L3, std]; try simp only [sySet, reduceCtorEq, forall_const, Int.reduceToNat, Int.reduceAdd, Int.reduceSub, Int.cast_ofNat_Int, Int.toNat_natCast, Nat.le_eq, Nat.sub_eq, ne_eq, Decidable.not_not, implies_true, true_and, and_true, wadd, wsub, wmul, decide_eq_true_eq, decide_eq_false_iff_not, Nat.succ_eq_add_one, imp_false, not_false_eq_true, not_true_eq_false, false_imp_iff, true_imp_iff]) <;> decide
      · (subst hL; subst hQ; simp only [L2, L3, std]; try simp only [sySet, reduceCtorEq, forall_const, Int.reduceToNat, Int.reduceAdd, Int.reduceSub, Int.cast_ofNat_Int, Int.toNat_natCast, Nat.le_eq, Nat.sub_eq, ne_eq, Decidable.not_not, implies_true, true_and, and_true, wadd, wsub, wmul, decide_eq_true_eq, decide_eq_false_iff_not, Nat.succ_eq_add_one, imp_false, not_false_eq_true, not_true_eq_false, false_imp_iff, true_imp_iff]) <;> decide
      · (subst hL; subst hQ; simp only [L2, L3, std]; try simp only [sySet, reduceCtorEq, forall_const, Int.reduceToNat, Int.reduceAdd, Int.reduceSub, Int.cast_ofNat_Int, Int.toNat_natCast, Nat.le_eq, Nat.sub_eq, ne_eq, Decidable.not_not, implies_true, true_and, and_true, wadd, wsub, wmul, decide_eq_true_eq, decide_eq_false_iff_not, Nat.succ_eq_add_one, imp_false, not_false_eq_true, not_true_eq_false, false_imp_iff, true_imp_iff]) <;> decide
      · (cbv; try simp only [sat_need, sat_must, sat_ite, sat_done, sat_yes, sat_ex, sat_all, sat_sup, sat_and, sat_fail, true_and, and_true])
        (subst hL; subst hQ; simp only [L2, L3, std] at *; try simp only [sySet, reduceCtorEq, forall_const, Int.reduceToNat, Int.reduceAdd, Int.reduceSub, Int.cast_ofNat_Int, Int.toNat_natCast, Nat.le_eq, Nat.sub_eq, ne_eq, Decidable.not_not, implies_true, true_and, and_true, wadd, wsub, wmul, decide_eq_true_eq, decide_eq_false_iff_not, Nat.succ_eq_add_one, imp_false, not_false_eq_true, not_true_eq_false, false_imp_iff, true_imp_iff] at *)
        obtain ⟨q1, q2, q3, q4, q5⟩ := nd_1 hx
        subst ha'
        have e : lenL (a.l ++ [v]) = a.l.length + 1 := by unfold lenL; simp
        exact ⟨⟨e.symm, fun i j hi hj => cv_push3 a.l v (by rw [← e]; exact hi) hj⟩, e.symm, Int.emod_eq_of_lt (by omega) (by omega), q1, q5⟩
      · (subst hL; subst hQ; simp only [L2, L3, std]; try simp only [sySet, reduceCtorEq, forall_const, Int.reduceToNat, Int.reduceAdd, Int.reduceSub, Int.cast_ofNat_Int, Int.toNat_natCast, Nat.le_eq, Nat.sub_eq, ne_eq, Decidable.not_not, implies_true, true_and, and_true, wadd, wsub, wmul, decide_eq_true_eq, decide_eq_false_iff_not, Nat.succ_eq_add_one, imp_false, not_false_eq_true, not_true_eq_false, false_imp_iff, true_imp_iff]) <;> decide
      · (subst hL; subst hQ; simp only [L2, L3, std] at *; try simp only [sySet, reduceCtorEq, forall_const, Int.reduceToNat, Int.reduceAdd, Int.reduceSub, Int.cast_ofNat_Int, Int.toNat_natCast, Nat.le_eq, Nat.sub_eq, ne_eq, Decidable.not_not, implies_true, true_and, and_true, wadd, wsub, wmul, decide_eq_true_eq, decide_eq_false_iff_not, Nat.succ_eq_add_one, imp_false, not_false_eq_true, not_true_eq_false, false_imp_iff, true_imp_iff] at *)
        exact nd_room (nd_1 hx).2.1
      · (subst hL; subst hQ; simp only [L2, L3, std]; try simp only [sySet, reduceCtorEq, forall_const, Int.reduceToNat, Int.reduceAdd, Int.reduceSub, Int.cast_ofNat_Int, Int.toNat_natCast, Nat.le_eq, Nat.sub_eq, ne_eq, Decidable.not_not, implies_true, true_and, and_true, wadd, wsub, wmul, decide_eq_true_eq, decide_eq_false_iff_not, Nat.succ_eq_add_one, imp_false, not_false_eq_true, not_true_eq_false, false_imp_iff, true_imp_iff]) <;> decide
      · (subst hL; subst hQ; simp only [L2, L3, std] at *; try simp only [sySet, reduceCtorEq, forall_const, Int.reduceToNat, Int.reduceAdd, Int.reduceSub, Int.cast_ofNat_Int, Int.toNat_natCast, Nat.le_eq, Nat.sub_eq, ne_eq, Decidable.not_not, implies_true, true_and, and_true, wadd, wsub, wmul, decide_eq_true_eq, decide_eq_false_iff_not, Nat.succ_eq_add_one, imp_false, not_false_eq_true, not_true_eq_false, false_imp_iff, true_imp_iff] at *)
        exact nd_in _
      · (subst hL; subst hQ; simp only [L2, L3, std]; try simp only [sySet, reduceCtorEq, forall_const, Int.reduceToNat, Int.reduceAdd, Int.reduceSub, Int.cast_ofNat_Int, Int.toNat_natCast, Nat.le_eq, Nat.sub_eq, ne_eq, Decidable.not_not, implies_true, true_and, and_true, wadd, wsub, wmul, decide_eq_true_eq, decide_eq_false_iff_not, Nat.succ_eq_add_one, imp_false, not_false_eq_true, not_true_eq_false, false_imp_iff, true_imp_iff]) <;> decide
      · (subst hL; subst hQ; simp only [L2, L3, std]; try simp only [sySet, reduceCtorEq, forall_const, Int.reduceToNat, Int.reduceAdd, Int.reduceSub, Int.cast_ofNat_Int, Int.toNat_natCast, Nat.le_eq, Nat.sub_eq, ne_eq, Decidable.not_not, implies_true, true_and, and_true, wadd, wsub, wmul, decide_eq_true_eq, decide_eq_false_iff_not, Nat.succ_eq_add_one, imp_false, not_false_eq_true, not_true_eq_false, false_imp_iff, true_imp_iff]) <;> decide
      · (cbv; try simp only [sat_need, sat_must, sat_ite, sat_done, sat_yes, sat_ex, sat_all, sat_sup, sat_and, sat_fail, true_and, and_true])
        (subst hL; subst hQ; simp only [L2, L3, std] at *; try simp only [sySet, reduceCtorEq, forall_const, Int.reduceToNat, Int.reduceAdd, Int.reduceSub, Int.cast_ofNat_Int, Int.toNat_natCast, Nat.le_eq, Nat.sub_eq, ne_eq, Decidable.not_not, implies_true, true_and, and_true, wadd, wsub, wmul, decide_eq_true_eq, decide_eq_false_iff_not, Nat.succ_eq_add_one, imp_false, not_false_eq_true, not_true_eq_false, false_imp_iff, true_imp_iff] at *)
        obtain ⟨q1, q2, q3, q4, q5⟩ := nd_1 hx
        subst ha'
        have e : lenL (a.l ++ [v]) = a.l.length + 1 := by unfold lenL; simp
        exact ⟨⟨e.symm, fun i j hi hj => cv_push4 a.l v (by rw [← e]; exact hi) hj⟩, e.symm, Int.emod_eq_of_lt (by omega) (by omega), q1, q5⟩
    | [a, b, c], hx =>
      (cbv; try simp only [sat_need, sat_must, sat_ite, sat_done, sat_yes, sat_ex, sat_all, sat_sup, sat_and, sat_fail, true_and, and_true])
      obtain ⟨a', ha'⟩ : ∃ a', a' = Lv.mk (a.left - 1) (a.l ++ [v]) := ⟨_, rfl⟩
      refine ⟨fun h0 => ?_, fun h0 => ⟨⟨?_, ?_, ?_, ?_, ?_, ⟨[a', b, c], s, f, v⟩, ?_⟩, ?_, ?_, ?_, ?_, ?_, ?_, ⟨[a', b, c], s, f, v⟩, ?_⟩⟩
      · (subst hL; subst hQ; simp only [L2, L3, std] at *; try simp only [sySet, reduceCtorEq, forall_const, Int.reduceToNat, Int.reduceAdd, Int.reduceSub, Int.cast_ofNat_Int, Int.toNat_natCast, Nat.le_eq, Nat.sub_eq, ne_eq, Decidable.not_not, implies_true, true_and, and_true, wadd, wsub, wmul, decide_eq_true_eq, decide_eq_false_iff_not, Nat.succ_eq_add_one, imp_false, not_false_eq_true, not_true_eq_false, false_imp_iff, true_imp_iff] at *)
        exact absurd h0 (by decide)
      · (subst hL; subst hQ; simp only [L2, L3, std]; try simp only [sySet, reduceCtorEq, forall_const, Int.reduceToNat, Int.reduceAdd, Int.reduceSub, Int.cast_ofNat_Int, Int.toNat_natCast, Nat.le_eq, Nat.sub_eq, ne_eq, Decidable.not_not, implies_true, true_and, and_true, wadd, wsub, wmul, decide_eq_true_eq, decide_eq_false_iff_not, Nat.succ_eq_add_one, imp_false, not_false_eq_true, not_true_eq_false, false_imp_iff, true_imp_iff]) <;> decide
      · (subst hL; subst hQ; simp only [L2, L3, std] at *; try simp only [sySet, reduceCtorEq, forall_const, Int.reduceToNat, Int.reduceAdd, Int.reduceSub, Int.cast_ofNat_Int, Int.toNat_natCast, Nat.le_eq, Nat.sub_eq, ne_eq, Decidable.not_not, implies_true, true_and, and_true, wadd, wsub, wmul, decide_eq_true_eq, decide_eq_false_iff_not, Nat.succ_eq_add_one, imp_false, not_false_eq_true, not_true_eq_false, false_imp_iff, true_imp_iff] at *)
        exact nd_room (nd_1 hx).2.1
      · (subst hL; subst hQ; simp only [L2, L3, std]; try simp only [sySet, reduceCtorEq, forall_const, Int.reduceToNat, Int.reduceAdd, Int.reduceSub, Int.cast_ofNat_Int, Int.toNat_natCast, Nat.le_eq, Nat.sub_eq, ne_eq, Decidable.not_not, implies_true, true_and, and_true, wadd, wsub, wmul, decide_eq_true_eq, decide_eq_false_iff_not, Nat.succ_eq_add_one, imp_false, not_false_eq_true, not_true_eq_false, false_imp_iff, true_imp_iff]) <;> decide
      · (subst hL; subst hQ; simp only [L2, L3, std]; try simp only [sySet, reduceCtorEq, forall_const, Int.reduceToNat, Int.reduceAdd, Int.reduceSub, Int.cast_ofNat_Int, Int.toNat_natCast, Nat.le_eq, Nat.sub_eq, ne_eq, Decidable.not_not, implies_true, true_and, and_true, wadd, wsub, wmul, decide_eq_true_eq, decide_eq_false_iff_not, Nat.succ_eq_add_one, imp_false, not_false_eq_true, not_true_eq_false, false_imp_iff, true_imp_iff]) <;> decide
      · (subst hL; subst hQ; simp only [L2, L3, std]; try simp only [sySet, reduceCtorEq, forall_const, Int.reduceToNat, Int.reduceAdd, Int.reduceSub, Int.cast_ofNat_Int, Int.toNat_natCast, Nat.le_eq, Nat.sub_eq, ne_eq, Decidable.not_not, implies_true, true_and, and_true, wadd, wsub, wmul, decide_eq_true_eq, decide_eq_false_iff_not, Nat.succ_eq_add_one, imp_false, not_false_eq_true, not_true_eq_false, false_imp_iff, true_imp_iff]) <;> decide
      · (cbv; try simp only [sat_need, sat_must, sat_ite, sat_done, sat_yes, sat_ex, sat_all, sat_sup, sat_and, sat_fail, true_and, and_true])
        (subst hL; subst hQ; simp only [L2, L3, std] at *; try simp only [sySet, reduceCtorEq, forall_const, Int.reduceToNat, Int.reduceAdd, Int.reduceSub, Int.cast_ofNat_Int, Int.toNat_natCast, Nat.le_eq, Nat.sub_eq, ne_eq, Decidable.not_not, implies_true, true_and, and_true, wadd, wsub, wmul, decide_eq_true_eq, decide_eq_false_iff_not, Nat.succ_eq_add_one, imp_false, not_false_eq_true, not_true_eq_false, false_imp_iff, true_imp_iff] at *)
        obtain ⟨q1, q2, q3, q4, q5⟩ := nd_1 hx
        subst ha'
        have e : lenL (a.l ++ [v]) = a.l.length + 1 := by unfold lenL; simp
        exact ⟨⟨e.symm, fun i j hi hj => cv_push3 a.l v (by rw [← e]; exact hi) hj⟩, e.symm, Int.emod_eq_of_lt (by omega) (by omega), q1, q5⟩
      · (subst hL; subst hQ; simp only [L2, L3, std]; try simp only [sySet, reduceCtorEq, forall_const, Int.reduceToNat, Int.reduceAdd, Int.reduceSub, Int.cast_ofNat_Int, Int.toNat_natCast, Nat.le_eq, Nat.sub_eq, ne_eq, Decidable.not_not, implies_true, true_and, and_true, wadd, wsub, wmul, decide_eq_true_eq, decide_eq_false_iff_not, Nat.succ_eq_add_one, imp_false, not_false_eq_true, not_true_eq_false, false_imp_iff, true_imp_iff]) <;> decide
      · (subst hL; subst hQ; simp only [L2, L3, std] at *; try simp only [sySet, reduceCtorEq, forall_const, Int.reduceToNat, Int.reduceAdd, Int.reduceSub, Int.cast_ofNat_Int, Int.toNat_natCast, Nat.le_eq, Nat.sub_eq, ne_eq, Decidable.not_not, implies_true, true_and, and_true, wadd, wsub, wmul, decide_eq_true_eq, decide_eq_false_iff_not, Nat.succ_eq_add_one, imp_false, not_false_eq_true, not_true_eq_false, false_imp_iff, true_imp_iff] at *)
        exact nd_room (nd_1 hx).2.1
      · (subst hL; subst hQ; simp only [L2, L3, std]; try simp only [sySet, reduceCtorEq, forall_const, Int.reduceToNat, Int.reduceAdd, Int.reduceSub, Int.cast_ofNat_Int, Int.toNat_natCast, Nat.le_eq, Nat.sub_eq, ne_eq, Decidable.not_not, implies_true, true_and, and_true, wadd, wsub, wmul, decide_eq_true_eq, decide_eq_false_iff_not, Nat.succ_eq_add_one, imp_false, not_false_eq_true, not_true_eq_false, false_imp_iff, true_imp_iff]) <;> decide
      · (subst hL; subst hQ; simp only [L2, L3, std] at *; try simp only [sySet, reduceCtorEq, forall_const, Int.reduceToNat, Int.reduceAdd, Int.reduceSub, Int.cast_ofNat_Int, Int.toNat_natCast, Nat.le_eq, Nat.sub_eq, ne_eq, Decidable.not_not, implies_true, true_and, and_true, wadd, wsub, wmul, decide_eq_true_eq, decide_eq_false_iff_not, Nat.succ_eq_add_one, imp_false, not_false_eq_true, not_true_eq_false, false_imp_iff, true_imp_iff] at *)
        exact nd_in _
      · (subst hL; subst hQ; simp only [L2, L3, std]; try simp only [sySet, reduceCtorEq, forall_const, Int.reduceToNat, Int.reduceAdd, Int.reduceSub, Int.cast_ofNat_Int, Int.toNat_natCast, Nat.le_eq, Nat.sub_eq, ne_eq, Decidable.not_not, implies_true, true_and, and_true, wadd, wsub, wmul, decide_eq_true_eq, decide_eq_false_iff_not, Nat.succ_eq_add_one, imp_false, not_false_eq_true, not_true_eq_false, false_imp_iff, true_imp_iff]) <;> decide
      · (subst hL; subst hQ; simp only [L2, L3, std]; try simp only [sySet, reduceCtorEq, forall_const, Int.reduceToNat, Int.reduceAdd, Int.reduceSub, Int.cast_ofNat_Int, Int.toNat_natCast, Nat.le_eq, Nat.sub_eq, ne_eq, Decidable.not_not, implies_true, true_and, and_true, wadd, wsub, wmul, decide_eq_true_eq, decide_eq_false_iff_not, Nat.succ_eq_add_one, imp_false, not_false_eq_true, not_true_eq_false, false_imp_iff, true_imp_iff]) <;> decide
      · (cbv; try simp only [sat_need, sat_must, sat_ite, sat_done, sat_yes, sat_ex, sat_all, sat_sup, sat_and, sat_fail, true_and, and_true])
        (subst hL; subst hQ; simp only [L2, L3, std] at *; try simp only [sySet, reduceCtorEq, forall_const, Int.reduceToNat, Int.reduceAdd, Int.reduceSub, Int.cast_ofNat_Int, Int.toNat_natCast, Nat.le_eq, Nat.sub_eq, ne_eq, Decidable.not_not, implies_true, true_and, and_true, wadd, wsub, wmul, decide_eq_true_eq, decide_eq_false_iff_not, Nat.succ_eq_add_one, imp_false, not_false_eq_true, not_true_eq_false, false_imp_iff, true_imp_iff] at *)
        obtain ⟨q1, q2, q3, q4, q5⟩ := nd_1 hx
        subst ha'
        have e : lenL (a.l ++ [v]) = a.l.length + 1 := by unfold lenL; simp
        exact ⟨⟨e.symm, fun i j hi hj => cv_push4 a.l v (by rw [← e]; exact hi) hj⟩, e.symm, Int.emod_eq_of_lt (by omega) (by omega), q1, q5⟩
    | [a, b, c, d], hx =>
      (cbv; try simp only [sat_need, sat_must, sat_ite, sat_done, sat_yes, sat_ex, sat_all, sat_sup, sat_and, sat_fail, true_and, and_true])
      obtain ⟨a', ha'⟩ : ∃ a', a' = Lv.mk (a.left - 1) (a.l ++ [v]) := ⟨_, rfl⟩
      refine ⟨fun h0 => ?_, fun h0 => ⟨⟨?_, ?_, ?_, ?_, ?_, ⟨[a', b, c, d], s, f, v⟩, ?_⟩, ?_, ?_, ?_, ?_, ?_, ?_, ⟨[a', b, c, d], s, f, v⟩, ?_⟩⟩
      · (subst hL; subst hQ; simp only [L2, L3, std] at *; try simp only [sySet, reduceCtorEq, forall_const, Int.reduceToNat, Int.reduceAdd, Int.reduceSub, Int.cast_ofNat_Int, Int.toNat_natCast, Nat.le_eq, Nat.sub_eq, ne_eq, Decidable.not_not, implies_true, true_and, and_true, wadd, wsub, wmul, decide_eq_true_eq, decide_eq_false_iff_not, Nat.succ_eq_add_one, imp_false, not_false_eq_true, not_true_eq_false, false_imp_iff, true_imp_iff] at *)
        exact absurd h0 (by decide)
      · (subst hL; subst hQ; simp only [L2, L3, std]; try simp only [sySet, reduceCtorEq, forall_const, Int.reduceToNat, Int.reduceAdd, Int.reduceSub, Int.cast_ofNat_Int, Int.toNat_natCast, Nat.le_eq, Nat.sub_eq, ne_eq, Decidable.not_not, implies_true, true_and, and_true, wadd, wsub, wmul, decide_eq_true_eq, decide_eq_false_iff_not, Nat.succ_eq_add_one, imp_false, not_false_eq_true, not_true_eq_false, false_imp_iff, true_imp_iff]) <;> decide
      · (subst hL; subst hQ; simp only [L2, L3, std] at *; try simp only [sySet, reduceCtorEq, forall_const, Int.reduceToNat, Int.reduceAdd, Int.reduceSub, Int.cast_ofNat_Int, Int.toNat_natCast, Nat.le_eq, Nat.sub_eq, ne_eq, Decidable.not_not, implies_true, true_and, and_true, wadd, wsub, wmul, decide_eq_true_eq, decide_eq_false_iff_not, Nat.succ_eq_add_one, imp_false, not_false_eq_true, not_true_eq_false, false_imp_iff, true_imp_iff] at *)
        exact nd_room (nd_1 hx).2.1
      · (subst hL; subst hQ; simp only [L2, L3, std]; try simp only [sySet, reduceCtorEq, forall_const, Int.reduceToNat, Int.reduceAdd, Int.reduceSub, Int.cast_ofNat_Int, Int.toNat_natCast, Nat.le_eq, Nat.sub_eq, ne_eq, Decidable.not_not, implies_true, true_and, and_true, wadd, wsub, wmul, decide_eq_true_eq, decide_eq_false_iff_not, Nat.succ_eq_add_one, imp_false, not_false_eq_true, not_true_eq_false, false_imp_iff, true_imp_iff]) <;> decide
      · (subst hL; subst hQ; simp only [L2, L3, std]; try simp only [sySet, reduceCtorEq, forall_const, Int.reduceToNat, Int.reduceAdd, Int.reduceSub, Int.cast_ofNat_Int, Int.toNat_natCast, Nat.le_eq, Nat.sub_eq, ne_eq, Decidable.not_not, implies_true, true_and, and_true, wadd, wsub, wmul, decide_eq_true_eq, decide_eq_false_iff_not, Nat.succ_eq_add_one, imp_false, not_false_eq_true, not_true_eq_false, false_imp_iff, true_imp_iff]) <;> decide
      · (subst hL; subst hQ; simp only [L2, L3, std]; try simp only [sySet, reduceCtorEq, forall_const, Int.reduceToNat, Int.reduceAdd, Int.reduceSub, Int.cast_ofNat_Int, Int.toNat_natCast, Nat.le_eq, Nat.sub_eq, ne_eq, Decidable.not_not, implies_true, true_and, and_true, wadd, wsub, wmul, decide_eq_true_eq, decide_eq_false_iff_not, Nat.succ_eq_add_one, imp_false, not_false_eq_true, not_true_eq_false, false_imp_iff, true_imp_iff]) <;> decide
      · (cbv; try simp only [sat_need, sat_must, sat_ite, sat_done, sat_yes, sat_ex, sat_all, sat_sup, sat_and, sat_fail, true_and, and_true])
        (subst hL; subst hQ; simp only [L2, L3, std] at *; try simp only [sySet, reduceCtorEq, forall_const, Int.reduceToNat, Int.reduceAdd, Int.reduceSub, Int.cast_ofNat_Int, Int.toNat_natCast, Nat.le_eq, Nat.sub_eq, ne_eq, Decidable.not_not, implies_true, true_and, and_true, wadd, wsub, wmul, decide_eq_true_eq, decide_eq_false_iff_not, Nat.succ_eq_add_one, imp_false, not_false_eq_true, not_true_eq_false, false_imp_iff, true_imp_iff] at *)
        obtain ⟨q1, q2, q3, q4, q5⟩ := nd_1 hx
        subst ha'
        have e : lenL (a.l ++ [v]) = a.l.length + 1 := by unfold lenL; simp
        exact ⟨⟨e.symm, fun i j hi hj => cv_push3 a.l v (by rw [← e]; exact hi) hj⟩, e.symm, Int.emod_eq_of_lt (by omega) (by omega), q1, q5⟩
      · (subst hL; subst hQ; simp only [L2, L3, std]; try simp only [sySet, reduceCtorEq, forall_const, Int.reduceToNat, Int.reduceAdd, Int.reduceSub, Int.cast_ofNat_Int, Int.toNat_natCast, Nat.le_eq, Nat.sub_eq, ne_eq, Decidable.not_not, implies_true, true_and, and_true, wadd, wsub, wmul, decide_eq_true_eq, decide_eq_false_iff_not, Nat.succ_eq_add_one, imp_false, not_false_eq_true, not_true_eq_false, false_imp_iff, true_imp_iff]) <;> decide
      · (subst hL; subst hQ; simp only [L2, L3, std] at *; try simp only [sySet, reduceCtorEq, forall_const, Int.reduceToNat, Int.reduceAdd, Int.reduceSub, Int.cast_ofNat_Int, Int.toNat_natCast, Nat.le_eq, Nat.sub_eq, ne_eq, Decidable.not_not, implies_true, true_and, and_true, wadd, wsub, wmul, decide_eq_true_eq, decide_eq_false_iff_not, Nat.succ_eq_add_one, imp_false, not_false_eq_true, not_true_eq_false, false_imp_iff, true_imp_iff] at *)
        exact nd_room (nd_1 hx).2.1
      · (subst hL; subst hQ; simp only [L2, L3, std]; try simp only [sySet, reduceCtorEq, forall_const, Int.reduceToNat, Int.reduceAdd, Int.reduceSub, Int.cast_ofNat_Int, Int.toNat_natCast, Nat.le_eq, Nat.sub_eq, ne_eq, Decidable.not_not, implies_true, true_and, and_true, wadd, wsub, wmul, decide_eq_true_eq, decide_eq_false_iff_not, Nat.succ_eq_add_one, imp_false, not_false_eq_true, not_true_eq_false, false_imp_iff, true_imp_iff]) <;> decide
      · (subst hL; subst hQ; simp only [L2, L3, std] at *; try simp only [sySet, reduceCtorEq, forall_const, Int.reduceToNat, Int.reduceAdd, Int.reduceSub, Int.cast_ofNat_Int, Int.toNat_natCast, Nat.le_eq, Nat.sub_eq, ne_eq, Decidable.not_not, implies_true, true_and, and_true, wadd, wsub, wmul, decide_eq_true_eq, decide_eq_false_iff_not, Nat.succ_eq_add_one, imp_false, not_false_eq_true, not_true_eq_false, false_imp_iff, true_imp_iff] at *)
        exact nd_in _
      · (subst hL; subst hQ; simp only [L2, L3, std]; try simp only [sySet, reduceCtorEq, forall_const, Int.reduceToNat, Int.reduceAdd, Int.reduceSub, Int.cast_ofNat_Int, Int.toNat_natCast, Nat.le_eq, Nat.sub_eq, ne_eq, Decidable.not_not, implies_true, true_and, and_true, wadd, wsub, wmul, decide_eq_true_eq, decide_eq_false_iff_not, Nat.succ_eq_add_one, imp_false, not_false_eq_true, not_true_eq_false, false_imp_iff, true_imp_iff]) <;> decide
      · (subst hL; subst hQ; simp only [L2, L3, std]; try simp only [sySet, reduceCtorEq, forall_const, Int.reduceToNat, Int.reduceAdd, Int.reduceSub, Int.cast_ofNat_Int, Int.toNat_natCast, Nat.le_eq, Nat.sub_eq, ne_eq, Decidable.not_not, implies_true, true_and, and_true, wadd, wsub, wmul, decide_eq_true_eq, decide_eq_false_iff_not, Nat.succ_eq_add_one, imp_false, not_false_eq_true, not_true_eq_false, false_imp_iff, true_imp_iff]) <;> decide
      · (cbv; try simp only [sat_need, sat_must, sat_ite, sat_done, sat_yes, sat_ex, sat_all, sat_sup, sat_and, sat_fail, true_and, and_true])
        (subst hL; subst hQ; simp only [L2, L3, std] at *; try simp only [sySet, reduceCtorEq, forall_const, Int.reduceToNat, Int.reduceAdd, Int.reduceSub, Int.cast_ofNat_Int, Int.toNat_natCast, Nat.le_eq, Nat.sub_eq, ne_eq, Decidable.not_not, implies_true, true_and, and_true, wadd, wsub, wmul, decide_eq_true_eq, decide_eq_false_iff_not, Nat.succ_eq_add_one, imp_false, not_false_eq_true, not_true_eq_false, false_imp_iff, true_imp_iff] at *)
        obtain ⟨q1, q2, q3, q4, q5⟩ := nd_1 hx
        subst ha'
        have e : lenL (a.l ++ [v]) = a.l.length + 1 := by unfold lenL; simp
        exact ⟨⟨e.symm, fun i j hi hj => cv_push4 a.l v (by rw [← e]; exact hi) hj⟩, e.symm, Int.emod_eq_of_lt (by omega) (by omega), q1, q5⟩
    | [a, b, c, d, e], hx =>
      (cbv; try simp only [sat_need, sat_must, sat_ite, sat_done, sat_yes, sat_ex, sat_all, sat_sup, sat_and, sat_fail, true_and, and_true])
      obtain ⟨a', ha'⟩ : ∃ a', a' = Lv.mk (a.left - 1) (a.l ++ [v]) := ⟨_, rfl⟩
      refine ⟨fun h0 => ?_, fun h0 => ⟨⟨?_, ?_, ?_, ?_, ?_, ⟨[a', b, c, d, e], s, f, v⟩, ?_⟩, ?_, ?_, ?_, ?_, ?_, ?_, ⟨[a', b, c, d, e], s, f, v⟩, ?_⟩⟩
      · (subst hL; subst hQ; simp only [L2, L3, std] at *; try simp only [sySet, reduceCtorEq, forall_const, Int.reduceToNat, Int.reduceAdd, Int.reduceSub, Int.cast_ofNat_Int, Int.toNat_natCast, Nat.le_eq, Nat.sub_eq, ne_eq, Decidable.not_not, implies_true, true_and, and_true, wadd, wsub, wmul, decide_eq_true_eq, decide_eq_false_iff_not, Nat.succ_eq_add_one, imp_false, not_false_eq_true, not_true_eq_false, false_imp_iff, true_imp_iff] at *)
        exact absurd h0 (by decide)
      · (subst hL; subst hQ; simp only [L2, L3, std]; try simp only [sySet, reduceCtorEq, forall_const, Int.reduceToNat, Int.reduceAdd, Int.reduceSub, Int.cast_ofNat_Int, Int.toNat_natCast, Nat.le_eq, Nat.sub_eq, ne_eq, Decidable.not_not, implies_true, true_and, and_true, wadd, wsub, wmul, decide_eq_true_eq, decide_eq_false_iff_not, Nat.succ_eq_add_one, imp_false, not_false_eq_true, not_true_eq_false, false_imp_iff, true_imp_iff]) <;> decide
      · (subst hL; subst hQ; simp only [L2, L3, std] at *; try simp only [sySet, reduceCtorEq, forall_const, Int.reduceToNat, Int.reduceAdd, Int.reduceSub, Int.cast_ofNat_Int, Int.toNat_natCast, Nat.le_eq, Nat.sub_eq, ne_eq, Decidable.not_not, implies_true, true_and, and_true, wadd, wsub, wmul, decide_eq_true_eq, decide_eq_false_iff_not, Nat.succ_eq_add_one, imp_false, not_false_eq_true, not_true_eq_false, false_imp_iff, true_imp_iff] at *)
        exact nd_room (nd_1 hx).2.1
      · (subst hL; subst hQ; simp only [L2, L3, std]; try simp only [sySet, reduceCtorEq, forall_const, Int.reduceToNat, Int.reduceAdd, Int.reduceSub, Int.cast_ofNat_Int, Int.toNat_natCast, Nat.le_eq, Nat.sub_eq, ne_eq, Decidable.not_not, implies_true, true_and, and_true, wadd, wsub, wmul, decide_eq_true_eq, decide_eq_false_iff_not, Nat.succ_eq_add_one, imp_false, not_false_eq_true, not_true_eq_false, false_imp_iff, true_imp_iff]) <;> decide
      · (subst hL; subst hQ; simp only [L2, L3, std]; try simp only [sySet, reduceCtorEq, forall_const, Int.reduceToNat, Int.reduceAdd, Int.reduceSub, Int.cast_ofNat_Int, Int.toNat_natCast, Nat.le_eq, Nat.sub_eq, ne_eq, Decidable.not_not, implies_true, true_and, and_true, wadd, wsub, wmul, decide_eq_true_eq, decide_eq_false_iff_not, Nat.succ_eq_add_one, imp_false, not_false_eq_true, not_true_eq_false, false_imp_iff, true_imp_iff]) <;> decide
      · (subst hL; subst hQ; simp only [L2, L3, std]; try simp only [sySet, reduceCtorEq, forall_const, Int.reduceToNat, Int.reduceAdd, Int.reduceSub, Int.cast_ofNat_Int, Int.toNat_natCast, Nat.le_eq, Nat.sub_eq, ne_eq, Decidable.not_not, implies_true, true_and, and_true, wadd, wsub, wmul, decide_eq_true_eq, decide_eq_false_iff_not, Nat.succ_eq_add_one, imp_false, not_false_eq_true, not_true_eq_false, false_imp_iff, true_imp_iff]) <;> decide
      · (cbv; try simp only [sat_need, sat_must, sat_ite, sat_done, sat_yes, sat_ex, sat_all, sat_sup, sat_and, sat_fail, true_and, and_true])
        (subst hL; subst hQ; simp only [L2, L3, std] at *; try simp only [sySet, reduceCtorEq, forall_const, Int.reduceToNat, Int.reduceAdd, Int.reduceSub, Int.cast_ofNat_Int, Int.toNat_natCast, Nat.le_eq, Nat.sub_eq, ne_eq, Decidable.not_not, implies_true, true_and, and_true, wadd, wsub, wmul, decide_eq_true_eq, decide_eq_false_iff_not, Nat.succ_eq_add_one, imp_false, not_false_eq_true, not_true_eq_false, false_imp_iff, true_imp_iff] at *)
        obtain ⟨q1, q2, q3, q4, q5⟩ := nd_1 hx
        subst ha'
        have e : lenL (a.l ++ [v]) = a.l.length + 1 := by unfold lenL; simp
        exact ⟨⟨e.symm, fun i j hi hj => cv_push3 a.l v (by rw [← e]; exact hi) hj⟩, e.symm, Int.emod_eq_of_lt (by omega) (by omega), q1, q5⟩
      · (subst hL; subst hQ; simp only [L2, L3, std]; try simp only [sySet, reduceCtorEq, forall_const, Int.reduceToNat, Int.reduceAdd, Int.reduceSub, Int.cast_ofNat_Int, Int.toNat_natCast, Nat.le_eq, Nat.sub_eq, ne_eq, Decidable.not_not, implies_true, true_and, and_true, wadd, wsub, wmul, decide_eq_true_eq, decide_eq_false_iff_not, Nat.succ_eq_add_one, imp_false, not_false_eq_true, not_true_eq_false, false_imp_iff, true_imp_iff]) <;> decide
      · (subst hL; subst hQ; simp only [L2, L3, std] at *; try simp only [sySet, reduceCtorEq, forall_const, Int.reduceToNat, Int.reduceAdd, Int.reduceSub, Int.cast_ofNat_Int, Int.toNat_natCast, Nat.le_eq, Nat.sub_eq, ne_eq, Decidable.not_not, implies_true, true_and, and_true, wadd, wsub, wmul, decide_eq_true_eq, decide_eq_false_iff_not, Nat.succ_eq_add_one, imp_false, not_false_eq_true, not_true_eq_false, false_imp_iff, true_imp_iff] at *)
        exact nd_room (nd_1 hx).2.1
      · (subst hL; subst hQ; simp only [L2, L3, std]; try simp only [sySet, reduceCtorEq, forall_const, Int.reduceToNat, Int.reduceAdd, Int.reduceSub, Int.cast_ofNat_Int, Int.toNat_natCast, Nat.le_eq, Nat.sub_eq, ne_eq, Decidable.not_not, implies_true, true_and, and_true, wadd, wsub, wmul, decide_eq_true_eq, decide_eq_false_iff_not, Nat.succ_eq_add_one, imp_false, not_false_eq_true, not_true_eq_false, false_imp_iff, true_imp_iff]) <;> decide
      · (subst hL; subst hQ; simp only [L2, L3, std] at *; try simp only [sySet, reduceCtorEq, forall_const, Int.reduceToNat, Int.reduceAdd, Int.reduceSub, Int.cast_ofNat_Int, Int.toNat_natCast, Nat.le_eq, Nat.sub_eq, ne_eq, Decidable.not_not, implies_true, true_and, and_true, wadd, wsub, wmul, decide_eq_true_eq, decide_eq_false_iff_not, Nat.succ_eq_add_one, imp_false, not_false_eq_true, not_true_eq_false, false_imp_iff, true_imp_iff] at *)
        exact nd_in _
      · (subst hL; subst hQ; simp only [L2, L3, std]; try simp only [sySet, reduceCtorEq, forall_const, Int.reduceToNat, Int.reduceAdd, Int.reduceSub, Int.cast_ofNat_Int, Int.toNat_natCast, Nat.le_eq, Nat.sub_eq, ne_eq, Decidable.not_not, implies_true, true_and, and_true, wadd, wsub, wmul, decide_eq_true_eq, decide_eq_false_iff_not, Nat.succ_eq_add_one, imp_false, not_false_eq_true, not_true_eq_false, false_imp_iff, true_imp_iff]) <;> decide
      · (subst hL; subst hQ; simp only [L2, L3, std]; try simp only [sySet, reduceCtorEq, forall_const, Int.reduceToNat, Int.reduceAdd, Int.reduceSub, Int.cast_ofNat_Int, Int.toNat_natCast, Nat.le_eq, Nat.sub_eq, ne_eq, Decidable.not_not, implies_true, true_and, and_true, wadd, wsub, wmul, decide_eq_true_eq, decide_eq_false_iff_not, Nat.succ_eq_add_one, imp_false, not_false_eq_true, not_true_eq_false, false_imp_iff, true_imp_iff]) <;> decide
      · (cbv; try simp only [sat_need, sat_must, sat_ite, sat_done, sat_yes, sat_ex, sat_all, sat_sup, sat_and, sat_fail, true_and, and_true])
        (subst hL; subst hQ; simp only [L2, L3, std] at *; try simp only [sySet, reduceCtorEq, forall_const, Int.reduceToNat, Int.reduceAdd, Int.reduceSub, Int.cast_ofNat_Int, Int.toNat_natCast, Nat.le_eq, Nat.sub_eq, ne_eq, Decidable.not_not, implies_true, true_and, and_true, wadd, wsub, wmul, decide_eq_true_eq, decide_eq_false_iff_not, Nat.succ_eq_add_one, imp_false, not_false_eq_true, not_true_eq_false, false_imp_iff, true_imp_iff] at *)
        obtain ⟨q1, q2, q3, q4, q5⟩ := nd_1 hx
        subst ha'
        have e : lenL (a.l ++ [v]) = a.l.length + 1 := by unfold lenL; simp
        exact ⟨⟨e.symm, fun i j hi hj => cv_push4 a.l v (by rw [← e]; exact hi) hj⟩, e.symm, Int.emod_eq_of_lt (by omega) (by omega), q1, q5⟩
    | [a, b, c, d, e, k], hx =>
      (cbv; try simp only [sat_need, sat_must, sat_ite, sat_done, sat_yes, sat_ex, sat_all, sat_sup, sat_and, sat_fail, true_and, and_true])
      obtain ⟨a', ha'⟩ : ∃ a', a' = Lv.mk (a.left - 1) (a.l ++ [v]) := ⟨_, rfl⟩
      refine ⟨fun h0 => ?_, fun h0 => ⟨⟨?_, ?_, ?_, ?_, ?_, ⟨[a', b, c, d, e, k], s, f, v⟩, ?_⟩, ?_, ?_, ?_, ?_, ?_, ?_, ⟨[a', b, c, d, e, k], s, f, v⟩, ?_⟩⟩
      · (subst hL; subst hQ; simp only [L2, L3, std] at *; try simp only [sySet, reduceCtorEq, forall_const, Int.reduceToNat, Int.reduceAdd, Int.reduceSub, Int.cast_ofNat_Int, Int.toNat_natCast, Nat.le_eq, Nat.sub_eq, ne_eq, Decidable.not_not, implies_true, true_and, and_true, wadd, wsub, wmul, decide_eq_true_eq, decide_eq_false_iff_not, Nat.succ_eq_add_one, imp_false, not_false_eq_true, not_true_eq_false, false_imp_iff, true_imp_iff] at *)
        exact absurd h0 (by decide)
      · (subst hL; subst hQ; simp only [L2, L3, std]; try simp only [sySet, reduceCtorEq, forall_const, Int.reduceToNat, Int.reduceAdd, Int.reduceSub, Int.cast_ofNat_Int, Int.toNat_natCast, Nat.le_eq, Nat.sub_eq, ne_eq, Decidable.not_not, implies_true, true_and, and_true, wadd, wsub, wmul, decide_eq_true_eq, decide_eq_false_iff_not, Nat.succ_eq_add_one, imp_false, not_false_eq_true, not_true_eq_false, false_imp_iff, true_imp_iff]) <;> decide
      · (subst hL; subst hQ; simp only [L2, L3, std] at *; try simp only [sySet, reduceCtorEq, forall_const, Int.reduceToNat, Int.reduceAdd, Int.reduceSub, Int.cast_ofNat_Int, Int.toNat_natCast, Nat.le_eq, Nat.sub_eq, ne_eq, Decidable.not_not, implies_true, true_and, and_true, wadd, wsub, wmul, decide_eq_true_eq, decide_eq_false_iff_not, Nat.succ_eq_add_one, imp_false, not_false_eq_true, not_true_eq_false, false_imp_iff, true_imp_iff] at *)
        exact nd_room (nd_1 hx).2.1
      · (subst hL; subst hQ; simp only [L2, L3, std]; try simp only [sySet, reduceCtorEq, forall_const, Int.reduceToNat, Int.reduceAdd, Int.reduceSub, Int.cast_ofNat_Int, Int.toNat_natCast, Nat.le_eq, Nat.sub_eq, ne_eq, Decidable.not_not, implies_true, true_and, and_true, wadd, wsub, wmul, decide_eq_true_eq, decide_eq_false_iff_not, Nat.succ_eq_add_one, imp_false, not_false_eq_true, not_true_eq_false, false_imp_iff, true_imp_iff]) <;> decide
      · (subst hL; subst hQ; simp only [L2, L3, std]; try simp only [sySet, reduceCtorEq, forall_const, Int.reduceToNat, Int.reduceAdd, Int.reduceSub, Int.cast_ofNat_Int, Int.toNat_natCast, Nat.le_eq, Nat.sub_eq, ne_eq, Decidable.not_not, implies_true, true_and, and_true, wadd, wsub, wmul, decide_eq_true_eq, decide_eq_false_iff_not, Nat.succ_eq_add_one, imp_false, not_false_eq_true, not_true_eq_false, false_imp_iff, true_imp_iff]) <;> decide
      · (subst hL; subst hQ; simp only [L2, L3, std]; try simp only [sySet, reduceCtorEq, forall_const, Int.reduceToNat, Int.reduceAdd, Int.reduceSub, Int.cast_ofNat_Int, Int.toNat_natCast, Nat.le_eq, Nat.sub_eq, ne_eq, Decidable.not_not, implies_true, true_and, and_true, wadd, wsub, wmul, decide_eq_true_eq, decide_eq_false_iff_not, Nat.succ_eq_add_one, imp_false, not_false_eq_true, not_true_eq_false, false_imp_iff, true_imp_iff]) <;> decide
      · (cbv; try simp only [sat_need, sat_must, sat_ite, sat_done, sat_yes, sat_ex, sat_all, sat_sup, sat_and, sat_fail, true_and, and_true])
        (subst hL; subst hQ; simp only [L2, L3, std] at *; try simp only [sySet, reduceCtorEq, forall_const, Int.reduceToNat, Int.reduceAdd, Int.reduceSub, Int.cast_ofNat_Int, Int.toNat_natCast, Nat.le_eq, Nat.sub_eq, ne_eq, Decidable.not_not, implies_true, true_and, and_true, wadd, wsub, wmul, decide_eq_true_eq, decide_eq_false_iff_not, Nat.succ_eq_add_one, imp_false, not_false_eq_true, not_true_eq_false, false_imp_iff, true_imp_iff] at *)
        obtain ⟨q1, q2, q3, q4, q5⟩ := nd_1 hx
        subst ha'
        have e : lenL (a.l ++ [v]) = a.l.length + 1 := by unfold lenL; simp
        exact ⟨⟨e.symm, fun i j hi hj => cv_push3 a.l v (by rw [← e]; exact hi) hj⟩, e.symm, Int.emod_eq_of_lt (by omega) (by omega), q1, q5⟩
      · (subst hL; subst hQ; simp only [L2, L3, std]; try simp only [sySet, reduceCtorEq, forall_const, Int.reduceToNat, Int.reduceAdd, Int.reduceSub, Int.cast_ofNat_Int, Int.toNat_natCast, Nat.le_eq, Nat.sub_eq, ne_eq, Decidable.not_not, implies_true, true_and, and_true, wadd, wsub, wmul, decide_eq_true_eq, decide_eq_false_iff_not, Nat.succ_eq_add_one, imp_false, not_false_eq_true, not_true_eq_false, false_imp_iff, true_imp_iff]) <;> decide
      · (subst hL; subst hQ; simp only [L2, L3, std] at *; try simp only [sySet, reduceCtorEq, forall_const, Int.reduceToNat, Int.reduceAdd, Int.reduceSub, Int.cast_ofNat_Int, Int.toNat_natCast, Nat.le_eq, Nat.sub_eq, ne_eq, Decidable.not_not, implies_true, true_and, and_true, wadd, wsub, wmul, decide_eq_true_eq, decide_eq_false_iff_not, Nat.succ_eq_add_one, imp_false, not_false_eq_true, not_true_eq_false, false_imp_iff, true_imp_iff] at *)
        exact nd_room (nd_1 hx).2.1
      · (subst hL; subst hQ; simp only [L2, L3, std]; try simp only [sySet, reduceCtorEq, forall_const, Int.reduceToNat, Int.reduceAdd, Int.reduceSub, Int.cast_ofNat_Int, Int.toNat_natCast, Nat.le_eq, Nat.sub_eq, ne_eq, Decidable.not_not, implies_true, true_and, and_true, wadd, wsub, wmul, decide_eq_true_eq, decide_eq_false_iff_not, Nat.succ_eq_add_one, imp_false, not_false_eq_true, not_true_eq_false, false_imp_iff, true_imp_iff]) <;> decide
      · (subst hL; subst hQ; simp only [L2, L3, std] at *; try simp only [sySet, reduceCtorEq, forall_const, Int.reduceToNat, Int.reduceAdd, Int.reduceSub, Int.cast_ofNat_Int, Int.toNat_natCast, Nat.le_eq, Nat.sub_eq, ne_eq, Decidable.not_not, implies_true, true_and, and_true, wadd, wsub, wmul, decide_eq_true_eq, decide_eq_false_iff_not, Nat.succ_eq_add_one, imp_false, not_false_eq_true, not_true_eq_false, false_imp_iff, true_imp_iff] at *)
        exact nd_in _
      · (subst hL; subst hQ; simp only [L2, L3, std]; try simp only [sySet, reduceCtorEq, forall_const, Int.reduceToNat, Int.reduceAdd, Int.reduceSub, Int.cast_ofNat_Int, Int.toNat_natCast, Nat.le_eq, Nat.sub_eq, ne_eq, Decidable.not_not, implies_true, true_and, and_true, wadd, wsub, wmul, decide_eq_true_eq, decide_eq_false_iff_not, Nat.succ_eq_add_one, imp_false, not_false_eq_true, not_true_eq_false, false_imp_iff, true_imp_iff]) <;> decide
      · (subst hL; subst hQ; simp only [L2, L3, std]; try simp only [sySet, reduceCtorEq, forall_const, Int.reduceToNat, Int.reduceAdd, Int.reduceSub, Int.cast_ofNat_Int, Int.toNat_natCast, Nat.le_eq, Nat.sub_eq, ne_eq, Decidable.not_not, implies_true, true_and, and_true, wadd, wsub, wmul, decide_eq_true_eq, decide_eq_false_iff_not, Nat.succ_eq_add_one, imp_false, not_false_eq_true, not_true_eq_false, false_imp_iff, true_imp_iff]) <;> decide
      · (cbv; try simp only [sat_need, sat_must, sat_ite, sat_done, sat_yes, sat_ex, sat_all, sat_sup, sat_and, sat_fail, true_and, and_true])
        (subst hL; subst hQ; simp only [L2, L3, std] at *; try simp only [sySet, reduceCtorEq, forall_const, Int.reduceToNat, Int.reduceAdd, Int.reduceSub, Int.cast_ofNat_Int, Int.toNat_natCast, Nat.le_eq, Nat.sub_eq, ne_eq, Decidable.not_not, implies_true, true_and, and_true, wadd, wsub, wmul, decide_eq_true_eq, decide_eq_false_iff_not, Nat.succ_eq_add_one, imp_false, not_false_eq_true, not_true_eq_false, false_imp_iff, true_imp_iff] at *)
        obtain ⟨q1, q2, q3, q4, q5⟩ := nd_1 hx
        subst ha'
        have e : lenL (a.l ++ [v]) = a.l.length + 1 := by unfold lenL; simp
        exact ⟨⟨e.symm, fun i j hi hj => cv_push4 a.l v (by rw [← e]; exact hi) hj⟩, e.symm, Int.emod_eq_of_lt (by omega) (by omega), q1, q5⟩
    | a :: b :: c :: d :: e :: k :: m :: r, hx =>
      have h7 : (a :: b :: c :: d :: e :: k :: m :: r).length ≤ 6 := by { (subst hL; subst hQ; simp only [L2, L3, std] at *; try simp only [sySet, reduceCtorEq, forall_const, Int.reduceToNat, Int.reduceAdd, Int.reduceSub, Int.cast_ofNat_Int, Int.toNat_natCast, Nat.le_eq, Nat.sub_eq, ne_eq, Decidable.not_not, implies_true, true_and, and_true, wadd, wsub, wmul, decide_eq_true_eq, decide_eq_false_iff_not, Nat.succ_eq_add_one, imp_false, not_false_eq_true, not_true_eq_false, false_imp_iff, true_imp_iff] at *); exact hx.1 }
      exact absurd h7 (by simp)
  · obtain ⟨st, s, f, v⟩ := x
    cbv at hx
    match st, hx with
    | [], hx =>
      obtain ⟨_, ⟨a, r, h, _⟩, _⟩ : nInv2 s0 ⟨[], s, f, v⟩ := by (subst hL; subst hQ; simp only [L2, L3, std] at *; try simp only [sySet, reduceCtorEq, forall_const, Int.reduceToNat, Int.reduceAdd, Int.reduceSub, Int.cast_ofNat_Int, Int.toNat_natCast, Nat.le_eq, Nat.sub_eq, ne_eq, Decidable.not_not, implies_true, true_and, and_true, wadd, wsub, wmul, decide_eq_true_eq, decide_eq_false_iff_not, Nat.succ_eq_add_one, imp_false, not_false_eq_true, not_true_eq_false, false_imp_iff, true_imp_iff] at *); exact hx
      cases h
    | [a], hx =>
      (cbv; try simp only [sat_need, sat_must, sat_ite, sat_done, sat_yes, sat_ex, sat_all, sat_sup, sat_and, sat_fail, true_and, and_true])
      obtain ⟨v', hv'⟩ : ∃ v', v' = CV.mk 3 0 [] a.l := ⟨_, rfl⟩
      refine ⟨?_, fun h0 => ⟨?_, ⟨[], s, f, v'⟩, ?_⟩, fun h0 => ⟨⟨[a], s, f, v⟩, ?_⟩⟩
      · (subst hL; subst hQ; simp only [L2, L3, std]; try simp only [sySet, reduceCtorEq, forall_const, Int.reduceToNat, Int.reduceAdd, Int.reduceSub, Int.cast_ofNat_Int, Int.toNat_natCast, Nat.le_eq, Nat.sub_eq, ne_eq, Decidable.not_not, implies_true, true_and, and_true, wadd, wsub, wmul, decide_eq_true_eq, decide_eq_false_iff_not, Nat.succ_eq_add_one, imp_false, not_false_eq_true, not_true_eq_false, false_imp_iff, true_imp_iff]) <;> decide
      · (subst hL; subst hQ; simp only [L2, L3, std] at *; try simp only [sySet, reduceCtorEq, forall_const, Int.reduceToNat, Int.reduceAdd, Int.reduceSub, Int.cast_ofNat_Int, Int.toNat_natCast, Nat.le_eq, Nat.sub_eq, ne_eq, Decidable.not_not, implies_true, true_and, and_true, wadd, wsub, wmul, decide_eq_true_eq, decide_eq_false_iff_not, Nat.succ_eq_add_one, imp_false, not_false_eq_true, not_true_eq_false, false_imp_iff, true_imp_iff] at *)
        decide
      · (cbv; try simp only [sat_need, sat_must, sat_ite, sat_done, sat_yes, sat_ex, sat_all, sat_sup, sat_and, sat_fail, true_and, and_true])
        (subst hL; subst hQ; simp only [L2, L3, std] at *; try simp only [sySet, reduceCtorEq, forall_const, Int.reduceToNat, Int.reduceAdd, Int.reduceSub, Int.cast_ofNat_Int, Int.toNat_natCast, Nat.le_eq, Nat.sub_eq, ne_eq, Decidable.not_not, implies_true, true_and, and_true, wadd, wsub, wmul, decide_eq_true_eq, decide_eq_false_iff_not, Nat.succ_eq_add_one, imp_false, not_false_eq_true, not_true_eq_false, false_imp_iff, true_imp_iff] at *)
        obtain ⟨q1, q2⟩ := ns_0 hx h0
        subst hv'
        exact ⟨⟨rfl, fun i j hi hj => rfl⟩, rfl, rfl, rfl, rfl, by decide, q1, q2⟩
      · (cbv; try simp only [sat_need, sat_must, sat_ite, sat_done, sat_yes, sat_ex, sat_all, sat_sup, sat_and, sat_fail, true_and, and_true])
        (subst hL; subst hQ; simp only [L2, L3, std] at *; try simp only [sySet, reduceCtorEq, forall_const, Int.reduceToNat, Int.reduceAdd, Int.reduceSub, Int.cast_ofNat_Int, Int.toNat_natCast, Nat.le_eq, Nat.sub_eq, ne_eq, Decidable.not_not, implies_true, true_and, and_true, wadd, wsub, wmul, decide_eq_true_eq, decide_eq_false_iff_not, Nat.succ_eq_add_one, imp_false, not_false_eq_true, not_true_eq_false, false_imp_iff, true_imp_iff] at *)
        exact ⟨ns_1 hx h0, Nat.le_refl _⟩
    | [a, b], hx =>
      (cbv; try simp only [sat_need, sat_must, sat_ite, sat_done, sat_yes, sat_ex, sat_all, sat_sup, sat_and, sat_fail, true_and, and_true])
      obtain ⟨v', hv'⟩ : ∃ v', v' = CV.mk 3 0 [] a.l := ⟨_, rfl⟩
      refine ⟨?_, fun h0 => ⟨?_, ⟨[b], s, f, v'⟩, ?_⟩, fun h0 => ⟨⟨[a, b], s, f, v⟩, ?_⟩⟩
      · (subst hL; subst hQ; simp only [L2, L3, std]; try simp only [sySet, reduceCtorEq, forall_const, Int.reduceToNat, Int.reduceAdd, Int.reduceSub, Int.cast_ofNat_Int, Int.toNat_natCast, Nat.le_eq, Nat.sub_eq, ne_eq, Decidable.not_not, implies_true, true_and, and_true, wadd, wsub, wmul, decide_eq_true_eq, decide_eq_false_iff_not, Nat.succ_eq_add_one, imp_false, not_false_eq_true, not_true_eq_false, false_imp_iff, true_imp_iff]) <;> decide
      · (subst hL; subst hQ; simp only [L2, L3, std] at *; try simp only [sySet, reduceCtorEq, forall_const, Int.reduceToNat, Int.reduceAdd, Int.reduceSub, Int.cast_ofNat_Int, Int.toNat_natCast, Nat.le_eq, Nat.sub_eq, ne_eq, Decidable.not_not, implies_true, true_and, and_true, wadd, wsub, wmul, decide_eq_true_eq, decide_eq_false_iff_not, Nat.succ_eq_add_one, imp_false, not_false_eq_true, not_true_eq_false, false_imp_iff, true_imp_iff] at *)
        decide
      · (cbv; try simp only [sat_need, sat_must, sat_ite, sat_done, sat_yes, sat_ex, sat_all, sat_sup, sat_and, sat_fail, true_and, and_true])
        (subst hL; subst hQ; simp only [L2, L3, std] at *; try simp only [sySet, reduceCtorEq, forall_const, Int.reduceToNat, Int.reduceAdd, Int.reduceSub, Int.cast_ofNat_Int, Int.toNat_natCast, Nat.le_eq, Nat.sub_eq, ne_eq, Decidable.not_not, implies_true, true_and, and_true, wadd, wsub, wmul, decide_eq_true_eq, decide_eq_false_iff_not, Nat.succ_eq_add_one, imp_false, not_false_eq_true, not_true_eq_false, false_imp_iff, true_imp_iff] at *)
        obtain ⟨q1, q2⟩ := ns_0 hx h0
        subst hv'
        exact ⟨⟨rfl, fun i j hi hj => rfl⟩, rfl, rfl, rfl, rfl, by decide, q1, q2⟩
      · (cbv; try simp only [sat_need, sat_must, sat_ite, sat_done, sat_yes, sat_ex, sat_all, sat_sup, sat_and, sat_fail, true_and, and_true])
        (subst hL; subst hQ; simp only [L2, L3, std] at *; try simp only [sySet, reduceCtorEq, forall_const, Int.reduceToNat, Int.reduceAdd, Int.reduceSub, Int.cast_ofNat_Int, Int.toNat_natCast, Nat.le_eq, Nat.sub_eq, ne_eq, Decidable.not_not, implies_true, true_and, and_true, wadd, wsub, wmul, decide_eq_true_eq, decide_eq_false_iff_not, Nat.succ_eq_add_one, imp_false, not_false_eq_true, not_true_eq_false, false_imp_iff, true_imp_iff] at *)
        exact ⟨ns_1 hx h0, Nat.le_refl _⟩
    | [a, b, c], hx =>
      (cbv; try simp only [sat_need, sat_must, sat_ite, sat_done, sat_yes, sat_ex, sat_all, sat_sup, sat_and, sat_fail, true_and, and_true])
      obtain ⟨v', hv'⟩ : ∃ v', v' = CV.mk 3 0 [] a.l := ⟨_, rfl⟩
      refine ⟨?_, fun h0 => ⟨?_, ⟨[b, c], s, f, v'⟩, ?_⟩, fun h0 => ⟨⟨[a, b, c], s, f, v⟩, ?_⟩⟩
      · (subst hL; subst hQ; simp only [L2, L3, std]; try simp only [sySet, reduceCtorEq, forall_const, Int.reduceToNat, Int.reduceAdd, Int.reduceSub, Int.cast_ofNat_Int, Int.toNat_natCast, Nat.le_eq, Nat.sub_eq, ne_eq, Decidable.not_not, implies_true, true_and, and_true, wadd, wsub, wmul, decide_eq_true_eq, decide_eq_false_iff_not, Nat.succ_eq_add_one, imp_false, not_false_eq_true, not_true_eq_false, false_imp_iff, true_imp_iff]) <;> decide
      · (subst hL; subst hQ; simp only [L2, L3, std] at *; try simp only [sySet, reduceCtorEq, forall_const, Int.reduceToNat, Int.reduceAdd, Int.reduceSub, Int.cast_ofNat_Int, Int.toNat_natCast, Nat.le_eq, Nat.sub_eq, ne_eq, Decidable.not_not, implies_true, true_and, and_true, wadd, wsub, wmul, decide_eq_true_eq, decide_eq_false_iff_not, Nat.succ_eq_add_one, imp_false, not_false_eq_true, not_true_eq_false, false_imp_iff, true_imp_iff] at *)
        decide
      · (cbv; try simp only [sat_need, sat_must, sat_ite, sat_done, sat_yes, sat_ex, sat_all, sat_sup, sat_and, sat_fail, true_and, and_true])
        (subst hL; subst hQ; simp only [L2, L3, std] at *; try simp only [sySet, reduceCtorEq, forall_const, Int.reduceToNat, Int.reduceAdd, Int.reduceSub, Int.cast_ofNat_Int, Int.toNat_natCast, Nat.le_eq, Nat.sub_eq, ne_eq, Decidable.not_not, implies_true, true_and, and_true, wadd, wsub, wmul, decide_eq_true_eq, decide_eq_false_iff_not, Nat.succ_eq_add_one, imp_false, not_false_eq_true, not_true_eq_false, false_imp_iff, true_imp_iff] at *)
        obtain ⟨q1, q2⟩ := ns_0 hx h0
        subst hv'
        exact ⟨⟨rfl, fun i j hi hj => rfl⟩, rfl, rfl, rfl, rfl, by decide, q1, q2⟩
      · (cbv; try simp only [sat_need, sat_must, sat_ite, sat_done, sat_yes, sat_ex, sat_all, sat_sup, sat_and, sat_fail, true_and, and_true])
        (subst hL; subst hQ; simp only [L2, L3, std] at *; try simp only [sySet, reduceCtorEq, forall_const, Int.reduceToNat, Int.reduceAdd, Int.reduceSub, Int.cast_ofNat_Int, Int.toNat_natCast, Nat.le_eq, Nat.sub_eq, ne_eq, Decidable.not_not, implies_true, true_and, and_true, wadd, wsub, wmul, decide_eq_true_eq, decide_eq_false_iff_not, Nat.succ_eq_add_one, imp_false, not_false_eq_true, not_true_eq_false, false_imp_iff, true_imp_iff] at *)
        exact ⟨ns_1 hx h0, Nat.le_refl _⟩
    | [a, b, c, d], hx =>
      (cbv; try simp only [sat_need, sat_must, sat_ite, sat_done, sat_yes, sat_ex, sat_all, sat_sup, sat_and, sat_fail, true_and, and_true])
      obtain ⟨v', hv'⟩ : ∃ v', v' = CV.mk 3 0 [] a.l := ⟨_, rfl⟩
      refine ⟨?_, fun h0 => ⟨?_, ⟨[b, c, d], s, f, v'⟩, ?_⟩, fun h0 => ⟨⟨[a, b, c, d], s, f, v⟩, ?_⟩⟩
      · (subst hL; subst hQ; simp only [L2, L3, std]; try simp only [sySet, reduceCtorEq, forall_const, Int.reduceToNat, Int.reduceAdd, Int.reduceSub, Int.cast_ofNat_Int, Int.toNat_natCast, Nat.le_eq, Nat.sub_eq, ne_eq, Decidable.not_not, implies_true, true_and, and_true, wadd, wsub, wmul, decide_eq_true_eq, decide_eq_false_iff_not, Nat.succ_eq_add_one, imp_false, not_false_eq_true, not_true_eq_false, false_imp_iff, true_imp_iff]) <;> decide
      · (subst hL; subst hQ; simp only [L2, L3, std] at *; try simp only [sySet, reduceCtorEq, forall_const, Int.reduceToNat, Int.reduceAdd, Int.reduceSub, Int.cast_ofNat_Int, Int.toNat_natCast, Nat.le_eq, Nat.sub_eq, ne_eq, Decidable.not_not, implies_true, true_and, and_true, wadd, wsub, wmul, decide_eq_true_eq, decide_eq_false_iff_not, Nat.succ_eq_add_one, imp_false, not_false_eq_true, not_true_eq_false, false_imp_iff, true_imp_iff] at *)
        decide
      · (cbv; try simp only [sat_need, sat_must, sat_ite, sat_done, sat_yes, sat_ex, sat_all, sat_sup, sat_and, sat_fail, true_and, and_true])
        (subst hL; subst hQ; simp only [L2, L3, std] at *; try simp only [sySet, reduceCtorEq, forall_const, Int.reduceToNat, Int.reduceAdd, Int.reduceSub, Int.cast_ofNat_Int, Int.toNat_natCast, Nat.le_eq, Nat.sub_eq, ne_eq, Decidable.not_not, implies_true, true_and, and_true, wadd, wsub, wmul, decide_eq_true_eq, decide_eq_false_iff_not, Nat.succ_eq_add_one, imp_false, not_false_eq_true, not_true_eq_false, false_imp_iff, true_imp_iff] at *)
        obtain ⟨q1, q2⟩ := ns_0 hx h0
        subst hv'
        exact ⟨⟨rfl, fun i j hi hj => rfl⟩, rfl, rfl, rfl, rfl, by decide, q1, q2⟩
      · (cbv; try simp only [sat_need, sat_must, sat_ite, sat_done, sat_yes, sat_ex, sat_all, sat_sup, sat_and, sat_fail, true_and, and_true])
        (subst hL; subst hQ; simp only [L2, L3, std] at *; try simp only [sySet, reduceCtorEq, forall_const, Int.reduceToNat, Int.reduceAdd, Int.reduceSub, Int.cast_ofNat_Int, Int.toNat_natCast, Nat.le_eq, Nat.sub_eq, ne_eq, Decidable.not_not, implies_true, true_and, and_true, wadd, wsub, wmul, decide_eq_true_eq, decide_eq_false_iff_not, Nat.succ_eq_add_one, imp_false, not_false_eq_true, not_true_eq_false, false_imp_iff, true_imp_iff] at *)
        exact ⟨ns_1 hx h0, Nat.le_refl _⟩
    | [a, b, c, d, e], hx =>
      (cbv; try simp only [sat_need, sat_must, sat_ite, sat_done, sat_yes, sat_ex, sat_all, sat_sup, sat_and, sat_fail, true_and, and_true])
      obtain ⟨v', hv'⟩ : ∃ v', v' = CV.mk 3 0 [] a.l := ⟨_, rfl⟩
      refine ⟨?_, fun h0 => ⟨?_, ⟨[b, c, d, e], s, f, v'⟩, ?_⟩, fun h0 => ⟨⟨[a, b, c, d, e], s, f, v⟩, ?_⟩⟩
      · (subst hL; subst hQ; simp only [L2, L3, std]; try simp only [sySet, reduceCtorEq, forall_const, Int.reduceToNat, Int.reduceAdd, Int.reduceSub, Int.cast_ofNat_Int, Int.toNat_natCast, Nat.le_eq, Nat.sub_eq, ne_eq, Decidable.not_not, implies_true, true_and, and_true, wadd, wsub, wmul, decide_eq_true_eq, decide_eq_false_iff_not, Nat.succ_eq_add_one, imp_false, not_false_eq_true, not_true_eq_false, false_imp_iff, true_imp_iff]) <;> decide
      · (subst hL; subst hQ; simp only [L2, L3, std] at *; try simp only [sySet, reduceCtorEq, forall_const, Int.reduceToNat, Int.reduceAdd, Int.reduceSub, Int.cast_ofNat_Int, Int.toNat_natCast, Nat.le_eq, Nat.sub_eq, ne_eq, Decidable.not_not, implies_true, true_and, and_true, wadd, wsub, wmul, decide_eq_true_eq, decide_eq_false_iff_not, Nat.succ_eq_add_one, imp_false, not_false_eq_true, not_true_eq_false, false_imp_iff, true_imp_iff] at *)
        decide
      · (cbv; try simp only [sat_need, sat_must, sat_ite, sat_done, sat_yes, sat_ex, sat_all, sat_sup, sat_and, sat_fail, true_and, and_true])
        (subst hL; subst hQ; simp only [L2, L3, std] at *; try simp only [sySet, reduceCtorEq, forall_const, Int.reduceToNat, Int.reduceAdd, Int.reduceSub, Int.cast_ofNat_Int, Int.toNat_natCast, Nat.le_eq, Nat.sub_eq, ne_eq, Decidable.not_not, implies_true, true_and, and_true, wadd, wsub, wmul, decide_eq_true_eq, decide_eq_false_iff_not, Nat.succ_eq_add_one, imp_false, not_false_eq_true, not_true_eq_false, false_imp_iff, true_imp_iff] at *)
        obtain ⟨q1, q2⟩ := ns_0 hx h0
        subst hv'
        exact ⟨⟨rfl, fun i j hi hj => rfl⟩, rfl, rfl, rfl, rfl, by decide, q1, q2⟩
      · (cbv; try simp only [sat_need, sat_must, sat_ite, sat_done, sat_yes, sat_ex, sat_all, sat_sup, sat_and, sat_fail, true_and, and_true])
        (subst hL; subst hQ; simp only [L2, L3, std] at *; try simp only [sySet, reduceCtorEq, forall_const, Int.reduceToNat, Int.reduceAdd, Int.reduceSub, Int.cast_ofNat_Int, Int.toNat_natCast, Nat.le_eq, Nat.sub_eq, ne_eq, Decidable.not_not, implies_true, true_and, and_true, wadd, wsub, wmul, decide_eq_true_eq, decide_eq_false_iff_not, Nat.succ_eq_add_one, imp_false, not_false_eq_true, not_true_eq_false, false_imp_iff, true_imp_iff] at *)
        exact ⟨ns_1 hx h0, Nat.le_refl _⟩
    | [a, b, c, d, e, k], hx =>
      (cbv; try simp only [sat_need, sat_must, sat_ite, sat_done, sat_yes, sat_ex, sat_all, sat_sup, sat_and, sat_fail, true_and, and_true])
      obtain ⟨v', hv'⟩ : ∃ v', v' = CV.mk 3 0 [] a.l := ⟨_, rfl⟩
      refine ⟨?_, fun h0 => ⟨?_, ⟨[b, c, d, e, k], s, f, v'⟩, ?_⟩, fun h0 => ⟨⟨[a, b, c, d, e, k], s, f, v⟩, ?_⟩⟩
      · (subst hL; subst hQ; simp only [L2, L3, std]; try simp only [sySet, reduceCtorEq, forall_const, Int.reduceToNat, Int.reduceAdd, Int.reduceSub, Int.cast_ofNat_Int, Int.toNat_natCast, Nat.le_eq, Nat.sub_eq, ne_eq, Decidable.not_not, implies_true, true_and, and_true, wadd, wsub, wmul, decide_eq_true_eq, decide_eq_false_iff_not, Nat.succ_eq_add_one, imp_false, not_false_eq_true, not_true_eq_false, false_imp_iff, true_imp_iff]) <;> decide
      · (subst hL; subst hQ; simp only [L2, L3, std] at *; try simp only [sySet, reduceCtorEq, forall_const, Int.reduceToNat, Int.reduceAdd, Int.reduceSub, Int.cast_ofNat_Int, Int.toNat_natCast, Nat.le_eq, Nat.sub_eq, ne_eq, Decidable.not_not, implies_true, true_and, and_true, wadd, wsub, wmul, decide_eq_true_eq, decide_eq_false_iff_not, Nat.succ_eq_add_one, imp_false, not_false_eq_true, not_true_eq_false, false_imp_iff, true_imp_iff] at *)
        decide
      · (cbv; try simp only [sat_need, sat_must, sat_ite, sat_done, sat_yes, sat_ex, sat_all, sat_sup, sat_and, sat_fail, true_and, and_true])
        (subst hL; subst hQ; simp only [L2, L3, std] at *; try simp only [sySet, reduceCtorEq, forall_const, Int.reduceToNat, Int.reduceAdd, Int.reduceSub, Int.cast_ofNat_Int, Int.toNat_natCast, Nat.le_eq, Nat.sub_eq, ne_eq, Decidable.not_not, implies_true, true_and, and_true, wadd, wsub, wmul, decide_eq_true_eq, decide_eq_false_iff_not, Nat.succ_eq_add_one, imp_false, not_false_eq_true, not_true_eq_false, false_imp_iff, true_imp_iff] at *)
        obtain ⟨q1, q2⟩ := ns_0 hx h0
        subst hv'
        exact ⟨⟨rfl, fun i j hi hj => rfl⟩, rfl, rfl, rfl, rfl, by decide, q1, q2⟩
      · (cbv; try simp only [sat_need, sat_must, sat_ite, sat_done, sat_yes, sat_ex, sat_all, sat_sup, sat_and, sat_fail, true_and, and_true])
        (subst hL; subst hQ; simp only [L2, L3, std] at *; try simp only [sySet, reduceCtorEq, forall_const, Int.reduceToNat, Int.reduceAdd, Int.reduceSub, Int.cast_ofNat_Int, Int.toNat_natCast, Nat.le_eq, Nat.sub_eq, ne_eq, Decidable.not_not, implies_true, true_and, and_true, wadd, wsub, wmul, decide_eq_true_eq, decide_eq_false_iff_not, Nat.succ_eq_add_one, imp_false, not_false_eq_true, not_true_eq_false, false_imp_iff, true_imp_iff] at *)
        exact ⟨ns_1 hx h0, Nat.le_refl _⟩
    | a :: b :: c :: d :: e :: k :: m :: r, hx =>
      have h7 : (a :: b :: c :: d :: e :: k :: m :: r).length ≤ 6 := by { (subst hL; subst hQ; simp only [L2, L3, std] at *; try simp only [sySet, reduceCtorEq, forall_const, Int.reduceToNat, Int.reduceAdd, Int.reduceSub, Int.cast_ofNat_Int, Int.toNat_natCast, Nat.le_eq, Nat.sub_eq, ne_eq, Decidable.not_not, implies_true, true_and, and_true, wadd, wsub, wmul, decide_eq_true_eq, decide_eq_false_iff_not, Nat.succ_eq_add_one, imp_false, not_false_eq_true, not_true_eq_false, false_imp_iff, true_imp_iff] at *); exact hx.1 }
      exact absurd h7 (by simp)
  · (cbv; try simp only [sat_need, sat_must, sat_ite, sat_done, sat_yes, sat_ex, sat_all, sat_sup, sat_and, sat_fail, true_and, and_true])
    obtain ⟨f, hf⟩ : ∃ f, f = s0.length + 1 := ⟨_, rfl⟩
    refine ⟨fun h => ?_, fun h => ⟨⟨[], s0, f, .mk 0 0 [] []⟩, ?_⟩⟩
    · (subst hL; subst hQ; simp only [L2, L3, std] at *; try simp only [sySet, reduceCtorEq, forall_const, Int.reduceToNat, Int.reduceAdd, Int.reduceSub, Int.cast_ofNat_Int, Int.toNat_natCast, Nat.le_eq, Nat.sub_eq, ne_eq, Decidable.not_not, implies_true, true_and, and_true, wadd, wsub, wmul, decide_eq_true_eq, decide_eq_false_iff_not, Nat.succ_eq_add_one, imp_false, not_false_eq_true, not_true_eq_false, false_imp_iff, true_imp_iff] at *)
      exact nr_bad (nm_0 s0 h)
    · (cbv; try simp only [sat_need, sat_must, sat_ite, sat_done, sat_yes, sat_ex, sat_all, sat_sup, sat_and, sat_fail, true_and, and_true])
      (subst hL; subst hQ; simp only [L2, L3, std] at *; try simp only [sySet, reduceCtorEq, forall_const, Int.reduceToNat, Int.reduceAdd, Int.reduceSub, Int.cast_ofNat_Int, Int.toNat_natCast, Nat.le_eq, Nat.sub_eq, ne_eq, Decidable.not_not, implies_true, true_and, and_true, wadd, wsub, wmul, decide_eq_true_eq, decide_eq_false_iff_not, Nat.succ_eq_add_one, imp_false, not_false_eq_true, not_true_eq_false, false_imp_iff, true_imp_iff] at *)
      rw [hf]
      exact nm_1 s0 (by omega) _
end Sy
end Go.Proofs.YtcgikjfloloekaaGreatDoor
namespace Go.Proofs.YtcgikjfloloekaaGreatDoor
namespace Sy
open Go Go.RowKit
set_option maxRecDepth 100000
set_option linter.unusedSimpArgs false
set_option linter.unusedVariables false
theorem cb_at (p : List UInt8) (c : UInt8) (r : List UInt8) : cb (p ++ c :: r) p.length = c.toNat := by
  unfold cb
  rw [List.getD_eq_getElem?_getD, List.getElem?_append_right (Nat.le_refl _), Nat.sub_self]
  rfl
theorem lng_short (r : List UInt8) : ∀ (f m n0 : Nat) (p : List UInt8), f + p.length = 10 → m * 2 ^ (7 * p.length) < 2 ^ 64 → (0 < m ∨ p.length = 0) →
    lng (p ++ (shortL m ++ r)) f p.length n0 = (n0 + m * 2 ^ (7 * p.length), p.length + (shortL m).length, 0)
  | 0, m, n0, p, hf, hm, h0 => by
    have : p.length = 10 := by omega
    rw [this] at hm h0
    have : 2 ^ (7 * 10) ≤ m * 2 ^ (7 * 10) := Nat.le_mul_of_pos_left _ (by omega)
    omega
  | f + 1, m, n0, p, hf, hm, h0 => by
    by_cases hb : 128 ≤ m
    · rw [shortL_big hb]
      have hc : cb (p ++ (UInt8.ofNat (m % 128 + 128) :: shortL (m / 128) ++ r)) p.length = m % 128 + 128 := by
        rw [List.cons_append, cb_at]
        simp; omega
      have h9 : p.length ≠ 9 := by
        intro h
        rw [h] at hm
        have : 128 * 2 ^ (7 * 9) ≤ m * 2 ^ (7 * 9) := Nat.mul_le_mul_right _ hb
        omega
      rw [lng, if_neg (by simp), hc, if_neg (by omega), if_pos (by omega)]
      have e : p ++ (UInt8.ofNat (m % 128 + 128) :: shortL (m / 128) ++ r) = (p ++ [UInt8.ofNat (m % 128 + 128)]) ++ (shortL (m / 128) ++ r) := by simp
      have hl : (p ++ [UInt8.ofNat (m % 128 + 128)]).length = p.length + 1 := by simp
      have hp : 2 ^ (7 * (p.length + 1)) = 128 * 2 ^ (7 * p.length) := by rw [show 7 * (p.length + 1) = 7 + 7 * p.length by omega, Nat.pow_add]
      have hd : m / 128 * (128 * 2 ^ (7 * p.length)) + m % 128 * 2 ^ (7 * p.length) = m * 2 ^ (7 * p.length) := by
        rw [← Nat.mul_assoc, ← Nat.add_mul]
        congr 1; omega
      have ih := lng_short r f (m / 128) (n0 + (m % 128 + 128) % 128 * 2 ^ (7 * p.length)) (p ++ [UInt8.ofNat (m % 128 + 128)]) (by rw [hl]; omega) (by rw [hl, hp]; omega) (.inl (by omega))
      rw [hl] at ih
      rw [e, ih, hp, List.length_cons, show (m % 128 + 128) % 128 = m % 128 by omega]
      refine Prod.ext ?_ (Prod.ext ?_ rfl)
      · show n0 + m % 128 * 2 ^ (7 * p.length) + m / 128 * (128 * 2 ^ (7 * p.length)) = n0 + m * 2 ^ (7 * p.length)
        omega
      · show p.length + 1 + _ = p.length + (_ + 1)
        omega
    · rw [shortL_small (by omega)]
      have hc : cb (p ++ ([UInt8.ofNat m] ++ r)) p.length = m := by
        rw [List.singleton_append, cb_at]
        simp; omega
      have h9 : ¬ (p.length = 9 ∧ 1 < m) := by
        rintro ⟨h, h1⟩
        rw [h] at hm
        have : 2 * 2 ^ (7 * 9) ≤ m * 2 ^ (7 * 9) := Nat.mul_le_mul_right _ h1
        omega
      rw [lng, if_neg (by simp), hc, if_neg h9, if_neg (by omega), if_pos h0, Nat.mod_eq_of_lt (by omega)]
      rfl
theorem lng_of {m : Int} (h : shortOk m) (r : List UInt8) : lngN (shortZ m ++ r) = m ∧ lngK (shortZ m ++ r) = ((shortZ m).length : Int) ∧ lngE (shortZ m ++ r) = 0 := by
  have h0 := h.1
  have h1 := h.2
  have := lng_short r 10 m.toNat 0 [] rfl (by simp; omega) (.inr rfl)
  simp only [List.nil_append, List.length_nil, Nat.zero_add, Nat.mul_zero, Nat.pow_zero, Nat.mul_one] at this
  unfold lngN lngK lngE shortZ
  rw [this]
  refine ⟨?_, rfl, rfl⟩
  show ((m.toNat : Nat) : Int) = m
  omega
theorem nxt_head {m : Int} (h : shortOk m) (g : Nat) (st : List Lv) (c : UInt8) (r : List UInt8) (hc : 1 ≤ c.toNat ∧ c.toNat ≤ 3) : nxtVal (g + 1) st (c :: (shortZ m ++ r)) =
    if c.toNat = 1 then nxtDone (nxtVal g) st (.mk 1 m [] []) r
    else if c.toNat = 2 then
      if (r.length : Int) < m then nrBad 3
      else nxtDone (nxtVal g) st (.mk 2 0 (r.take m.toNat) []) (r.drop m.toNat)
    else if st.length = 6 then nrBad 8
    else nxtShut (nxtVal g) (⟨m, []⟩ :: st) r := by
  obtain ⟨e1, e2, e3⟩ := lng_of h r
  have hcb : cb (c :: (shortZ m ++ r)) 0 = c.toNat := rfl
  have hr : nxtRest (c :: (shortZ m ++ r)) = r := by
    unfold nxtRest
    rw [List.drop_succ_cons, List.drop_zero, e2]
    simp
  rw [nxtVal, if_neg (by simp), hcb, if_neg (by omega), List.drop_succ_cons, List.drop_zero, e1, e3, hr, if_neg (by simp)]
theorem deep_nn (v : CV) : 0 ≤ deepV v ∧ 0 ≤ deepLs v.ls := by
  have h0 : ∀ b : List CV, 0 ≤ deepLs b := by
    intro b
    induction b with
    | nil => rw [deepLs]; omega
    | cons v l ih => rw [deepLs]; omega
  refine ⟨?_, h0 _⟩
  cases v with
  | mk k n s l =>
    rw [deepV]
    have := h0 l
    split <;> omega
def Reads (v : CV) : Prop := ∀ (st : List Lv) (s : List UInt8) (f : Nat), wfV v → bareV v = true → (st.length : Int) + deepV v ≤ 6 → (textV v).length ≤ 90000000 → (textV v).length + s.length < f →
  ∃ f', s.length < f' ∧ nxtVal f st (textV v ++ s) = nxtDone (nxtVal f') st v s
theorem text_pos (v : CV) : 0 < (textV v).length := by
  cases v with
  | mk k n s l =>
    rw [textV_mk, List.length_append]
    show 0 < 1 + _
    omega
theorem texts_len : ∀ l : List CV, l.length ≤ (textLs l).length
  | [] => by simp
  | v :: l => by
    have := texts_len l
    have := text_pos v
    rw [textLs, List.length_append, List.length_cons]
    omega
theorem nxt_list (st : List Lv) (s : List UInt8) : ∀ (l : List CV) (acc : List CV) (f : Nat), (∀ w ∈ l, Reads w) → wfLs l → bareLs l = true → (st.length : Int) + 1 + deepLs l ≤ 6 → (textLs l).length ≤ 90000000 → (textLs l).length + s.length < f →
    ∃ f', s.length < f' ∧ nxtShut (nxtVal f) (⟨(l.length : Int), acc⟩ :: st) (textLs l ++ s) = nxtDone (nxtVal f') st (.mk 3 0 [] (acc ++ l)) s
  | [], acc, f, hr, hw, hb, hd, ht, hf => by
    refine ⟨f, by rw [textLs] at hf; simpa using hf, ?_⟩
    rw [nxtShut, if_pos (show ((List.length ([] : List CV) : Nat) : Int) = 0 from rfl), textLs, List.nil_append, List.append_nil]
  | v :: l, acc, f, hr, hw, hb, hd, ht, hf => by
    rw [wfLs] at hw
    rw [bareLs, Bool.and_eq_true] at hb
    rw [deepLs] at hd
    rw [textLs, List.length_append] at ht hf
    obtain ⟨f1, h1, e1⟩ := hr v (by simp) (⟨((v :: l).length : Int), acc⟩ :: st) (textLs l ++ s) f hw.1 hb.1 (by rw [List.length_cons]; omega) (by omega) (by rw [List.length_append]; omega)
    rw [List.length_append] at h1
    obtain ⟨f2, h2, e2⟩ := nxt_list st s l (acc ++ [v]) f1 (fun w hw => hr w (by simp [hw])) hw.2 hb.2 (by omega) (by omega) h1
    refine ⟨f2, h2, ?_⟩
    rw [nxtShut, if_neg (by simp; omega), textLs, List.append_assoc, e1]
    have e3 : (((v :: l).length : Int) - 1) = (l.length : Int) := by simp
    rw [nxtShut] at e2
    rw [nxtDone]
    simp only [e3]
    rw [e2, List.append_assoc, List.singleton_append]
theorem reads (v : CV) : Reads v := by
  refine cv_all (p := Reads) (fun k n s l ih => ?_) v
  intro st r f hw hb hd ht hf
  rw [wfV] at hw
  obtain ⟨g, rfl⟩ : ∃ g, f = g + 1 := ⟨f - 1, by omega⟩
  rw [textV_mk] at ht hf ⊢
  rw [bareV] at hb
  by_cases h1 : k = 1
  · subst h1
    rw [if_pos rfl] at hb ht hf ⊢
    simp only [Bool.and_eq_true, decide_eq_true_eq, List.isEmpty_iff] at hb
    obtain ⟨rfl, rfl⟩ := hb
    rw [List.length_append] at hf
    have e : byteK 1 = [1] := rfl
    rw [e] at hf ⊢
    refine ⟨g, by simp at hf; omega, ?_⟩
    rw [List.singleton_append, List.cons_append, nxt_head hw.1 g st 1 r (by decide)]
    rfl
  · rw [if_neg h1] at hb ht hf ⊢
    by_cases h2 : k = 2
    · subst h2
      rw [if_pos rfl] at hb ht hf ⊢
      simp only [Bool.and_eq_true, decide_eq_true_eq, List.isEmpty_iff] at hb
      obtain ⟨rfl, rfl⟩ := hb
      rw [List.length_append, List.length_append] at ht hf
      have e : byteK 2 = [2] := rfl
      rw [e] at hf ⊢
      refine ⟨g, by simp at hf; omega, ?_⟩
      rw [List.singleton_append, List.cons_append, List.append_assoc, nxt_head ⟨by omega, by omega⟩ g st 2 (s ++ r) (by decide)]
      rw [if_neg (by decide), if_pos (by decide), if_neg (by simp; omega)]
      rw [Int.toNat_natCast, List.take_left, List.drop_left]
    · rw [if_neg h2] at hb ht hf ⊢
      by_cases h3 : k = 3
      · subst h3
        rw [if_pos rfl] at hb
        simp only [Bool.and_eq_true, decide_eq_true_eq] at hb
        obtain ⟨⟨rfl, rfl⟩, hb⟩ := hb
        rw [deepV, if_pos rfl] at hd
        rw [List.length_append, List.length_append] at ht hf
        have e : byteK 3 = [3] := rfl
        rw [e] at hf ⊢
        have hll := texts_len l
        have hdn := (deep_nn (.mk 3 0 [] l)).2
        have hdn : 0 ≤ deepLs l := hdn
        obtain ⟨f', h5, h6⟩ := nxt_list st r l [] g ih hw.2.2 hb (by omega) (by omega) (by simp at hf; omega)
        refine ⟨f', h5, ?_⟩
        rw [List.singleton_append, List.cons_append, List.append_assoc, nxt_head ⟨by omega, by omega⟩ g st 3 (textLs l ++ r) (by decide)]
        rw [if_neg (by decide), if_neg (by decide), if_neg (by omega), h6, List.nil_append]
      · rw [if_neg h3] at hb; cases hb
theorem next_of {v : CV} (hw : wfV v) (hb : bareV v = true) (hd : deepV v ≤ 6) {s : List UInt8} (hl : (textV v).length + s.length ≤ 8192) : nxtTop (textV v ++ s) = ⟨v, s, 0⟩ := by
  unfold nxtTop
  rw [if_neg (by rw [List.length_append]; omega)]
  obtain ⟨f', h1, h2⟩ := reads v [] s ((textV v ++ s).length + 1) hw hb (by simp; exact hd) (by omega) (by rw [List.length_append]; exact Nat.lt_succ_self _)
  rw [h2, nxtDone]
end Sy
end Go.Proofs.YtcgikjfloloekaaGreatDoor
namespace Go.Proofs.YtcgikjfloloekaaGreatDoor
namespace Sy
open Go Go.RowKit
set_option maxRecDepth 100000
set_option linter.unusedSimpArgs false
set_option linter.unusedVariables false
def getE (s : List UInt8) : Int := if (nxtTop s).e = 0 ∧ ¬ (nxtTop s).r = [] then 4 else (nxtTop s).e
def getV (s : List UInt8) : CV := if getE s = 0 then (nxtTop s).v else .mk 0 0 [] []
theorem get_of {v : CV} (hw : wfV v) (hb : bareV v = true) (hd : deepV v ≤ 6) (hl : (textV v).length ≤ 8192) : getV (textV v) = v ∧ getE (textV v) = 0 := by
  have h := next_of hw hb hd (s := []) (by simpa using hl)
  rw [List.append_nil] at h
  have e : getE (textV v) = 0 := by unfold getE; rw [h]; rfl
  exact ⟨by unfold getV; rw [if_pos e, h], e⟩
theorem put_ok {v : CV} (h : putE v = 0) : bareV v = true ∧ deepV v ≤ 6 ∧ (textV v).length ≤ 8192 ∧ putT v = textV v := by
  have ht : putT v = textV v := by unfold putT; rw [if_pos h]
  unfold putE at h
  split at h
  · rename_i h1
    split at h
    · cases h
    · rename_i h2
      split at h
      · cases h
      · rename_i h3
        exact ⟨h1, by omega, by omega, ht⟩
  · cases h
end Sy
end Go.Proofs.YtcgikjfloloekaaGreatDoor
namespace Go.Proofs.YtcgikjfloloekaaGreatDoor
namespace Sy
open Go Go.RowKit
set_option maxRecDepth 100000
set_option linter.unusedSimpArgs false
set_option linter.unusedVariables false
theorem rd_cells {n : Nat} {get : Nat → Nat → AV} {l : List CV} (hn : n = l.length) (h : ∀ i j, i < n → j < 4 → get i j = cvCell (nthV l i) j) : rdL (.lst 4 n get) = l ∧ okL (.lst 4 n get) := by
  constructor
  · apply List.ext_getElem
    · rw [rd_len, hn]
    · intro i h1 h2
      have hi : i < n := by omega
      have e : ∀ m : List CV, ∀ hm : i < m.length, m[i] = nthV m i := fun m hm => by rw [nthV, List.getD_eq_getElem?_getD, List.getElem?_eq_getElem hm]; rfl
      rw [e _ h1, e _ h2, rd_nth hi, h i 0 hi (by omega), h i 1 hi (by omega), h i 2 hi (by omega), h i 3 hi (by omega), cvCell_0, cvCell_1, cvCell_2, cvCell_3]
      show CV.mk _ _ _ (rdL (.lst 4 (lenV (nthV l i)) (cvIn (nthV l i)))) = _
      exact mk_parts _
  · refine ⟨rfl, fun i hi => ?_⟩
    rw [h i 0 hi (by omega), h i 1 hi (by omega), h i 2 hi (by omega), h i 3 hi (by omega), cvCell_0, cvCell_1, cvCell_2, cvCell_3]
    exact ⟨⟨_, rfl⟩, ⟨_, rfl⟩, ⟨_, rfl⟩, (rd_in (nthV l i)).2⟩
theorem nthV_app_l {a b : List CV} {i : Nat} (h : i < a.length) : nthV (a ++ b) i = nthV a i := by
  rw [nthV, nthV, List.getD_eq_getElem?_getD, List.getD_eq_getElem?_getD, List.getElem?_append_left h]
theorem nthV_app_r (a : List CV) (v : CV) : nthV (a ++ [v]) a.length = v := by
  rw [nthV, List.getD_eq_getElem?_getD, List.getElem?_append_right (Nat.le_refl _)]; simp
theorem push_cells {l : List CV} {v : CV} {i : Nat} (hi : i = l.length) :
    rdL (.lst 4 (i.add 1) fun q j => sel1 std (nblt q i) (cv1 std (nthV l q) j) (lget .dead [.int .i64 v.kd, .int .u64 v.nn, .str v.tx, .lst 4 (lenV v) (cvIn v)] ((q - i) * 4 + j))) = l ++ [v] ∧
    okL (.lst 4 (i.add 1) fun q j => sel1 std (nblt q i) (cv1 std (nthV l q) j) (lget .dead [.int .i64 v.kd, .int .u64 v.nn, .str v.tx, .lst 4 (lenV v) (cvIn v)] ((q - i) * 4 + j))) := by
  subst hi
  refine rd_cells (by simp) fun q j hq hj => ?_
  have hq : q < l.length + 1 := hq
  by_cases h : q < l.length
  · rw [nthV_app_l h, ← cv1_std _ _ hj, blt_t h, show q - l.length = 0 by omega, Nat.zero_mul, Nat.zero_add]
    match j, hj with
    | 0, _ => rfl
    | 1, _ => rfl
    | 2, _ => rfl
    | 3, _ => rfl
  · have : q = l.length := by omega
    subst this
    rw [nthV_app_r, ← cv1_std _ _ hj, blt_f (by omega), show l.length - l.length = 0 by omega, Nat.zero_mul, Nat.zero_add]
    match j, hj with
    | 0, _ => rfl
    | 1, _ => rfl
    | 2, _ => rfl
    | 3, _ => rfl
theorem sizeCs_app (a b : List CV) : sizeCs (a ++ b) = sizeCs a + sizeCs b := by
  induction a with
  | nil => rw [List.nil_append, sizeCs_nil]; omega
  | cons x l ih => rw [List.cons_append, sizeCs_cons, sizeCs_cons, ih]; omega
theorem wfLs_app (a b : List CV) : wfLs (a ++ b) ↔ wfLs a ∧ wfLs b := by
  induction a with
  | nil => rw [List.nil_append, wfLs]; simp
  | cons x l ih => rw [List.cons_append, wfLs, wfLs, ih]; exact ⟨fun h => ⟨⟨h.1, h.2.1⟩, h.2.2⟩, fun h => ⟨h.1.1, h.1.2, h.2⟩⟩
def cvB (L : Seal) (v : CV) : AV := .agg [.int .i64 (L CV.kd v), .int .u64 (L CV.nn v), .str (L CV.tx v), .lst 4 (L lenV v) (fun i j => cv1 L (L2 L nthV (L CV.ls v) i) j)]
def cgetB_s (L : Seal) : Ent1 := (38, fun xs => match xs with | [.str s] => some (True, .tup [cvB L (L getV s), .int .i64 (L getE s)]) | _ => none)
theorem cgetB_bad {s : List UInt8} {e : Int} (h : getE s = e) (he : ¬ e = 0) : fits1 (cvB std (getV s)) (.agg [.int .i64 0, .int .u64 0, .str [], .nils]) ∧ e = getE s := by
  have e0 : getV s = .mk 0 0 [] [] := by unfold getV; rw [if_neg (by rw [h]; exact he)]
  rw [e0]
  refine ⟨?_, h.symm⟩
  show fits1 (.agg [.int .i64 0, .int .u64 0, .str [], .lst 4 0 _]) _
  simp [fits1_aggi, fits1_aggs, fits1_aggn, fits1_agg0]
theorem cgetB_yes {s : List UInt8} {v : CV} (hv : (nxtTop s).v = v) (h : getE s = 0) : fits1 (cvB std (getV s)) (.agg [.int .i64 v.kd, .int .u64 v.nn, .str v.tx, .lst 4 (lenV v) (cvIn v)]) ∧ 0 = getE s := by
  have e0 : getV s = v := by unfold getV; rw [if_pos h, hv]
  rw [e0]
  refine ⟨?_, h.symm⟩
  show fits1 (.agg [.int .i64 v.kd, .int .u64 v.nn, .str v.tx, .lst 4 (lenV v) (fun i j => cv1 std (nthV v.ls i) j)]) _
  simp only [fits1_aggi, fits1_aggs, fits1_aggl, fits1_agg0, true_and, and_true]
  exact fun i j hi hj => by rw [cv1_std _ _ hj]; exact cvGet_nth _ _ _ hi
theorem cgetB_good : Good Tryz.prog (cgetB_s std) := by
  intro xs p r h hp
  dsimp only [cgetB_s] at h ⊢
  split at h <;> cases h
  try simp only [L2, L3, std] at hp ⊢
  rename_i s
  refine acalls_L (T := tt) (S := fun L => sumOf [next_s L]) (lo := noA) (lb := noA) 5 (fn := Tryz.f38) rfl rfl (by kernel_rfl) (by kernel_rfl) rfl tt_ok (sumOf_ok ⟨next_good, trivial⟩) (by kernel_rfl) ?_
  (intro L P1 Q1 hL hP hQ; cbv; subst hL; simp only [L2, L3, std, sat_need, sat_must, sat_ite, sat_done, sat_yes, sat_ex, sat_all, sat_sup, sat_and, sat_fail]; subst hQ)
  (simp only [sySet, reduceCtorEq, forall_const, Int.reduceToNat, Int.reduceAdd, Int.reduceSub, Int.cast_ofNat_Int, Int.toNat_natCast, Nat.le_eq, Nat.sub_eq, ne_eq, Decidable.not_not, implies_true, true_and, and_true, wadd, wsub, wmul, decide_eq_true_eq, decide_eq_false_iff_not, Nat.succ_eq_add_one, imp_false, not_false_eq_true, not_true_eq_false, false_imp_iff, true_imp_iff])
  refine ⟨fun h1 => ⟨fun h2 => ⟨fun _ => ?_, fun h => absurd h (by decide)⟩, fun h2 => ⟨fun h => absurd h1 h, fun _ => ?_⟩⟩, fun h1 => ⟨fun _ => ?_, fun h => absurd h h1⟩⟩
  · exact cgetB_bad (by unfold getE; rw [if_pos ⟨h1, h2⟩]) (by decide)
  · exact cgetB_yes rfl (by unfold getE; rw [if_neg (fun h => h.2 h2)]; exact h1)
  · exact cgetB_bad (by unfold getE; rw [if_neg (fun h => h1 h.1)]) h1
end Sy
end Go.Proofs.YtcgikjfloloekaaGreatDoor
namespace Go.Proofs.YtcgikjfloloekaaGreatDoor
namespace Sy
open Go Go.RowKit
set_option maxRecDepth 100000
set_option linter.unusedSimpArgs false
set_option linter.unusedVariables false
def lenI (l : List Int) : Nat := l.length
def rdI : AV → List Int
  | .lst _ n get => (List.range n).map fun i => (get i 0).toI
  | _ => []
def okI : AV → Prop
  | .lst sz n get => sz = 1 ∧ ∀ i, i < n → ∃ x, get i 0 = .int .u64 x
  | .nils => True
  | _ => False
def lstI (L : Seal) (l : List Int) : AV := .lst 1 (L lenI l) (fun i _ => .int .u64 (L2 L nthI l i))
theorem nthI_map (n i : Nat) (f : Nat → Int) (h : i < n) : nthI ((List.range n).map f) i = f i := by
  rw [nthI, List.getD_eq_getElem?_getD, List.getElem?_map, List.getElem?_range h]; rfl
theorem okI_R {h : Array Obj} {D : Nat → Prop} {μ : Mu} {x : AV} {v : Value} (ho : okI x) (r : R h D μ x v) : R h D μ (lstI std (rdI x)) v := by
  match x, ho with
  | .nils, _ => cases r; exact .lst0 _ _ none 0 (fun _ => rfl)
  | .lst sz n get, ho =>
    obtain ⟨rfl, ho⟩ := ho
    have e : lstI std (rdI (.lst 1 n get)) = .lst 1 n (fun i _ => .int .u64 (nthI (rdI (.lst 1 n get)) i)) := by
      show AV.lst 1 (lenI (rdI (.lst 1 n get))) _ = _
      rw [show lenI (rdI (.lst 1 n get)) = n by simp [rdI, lenI]]; rfl
    rw [e]
    refine lst_same r fun i j hi hj => ?_
    have : j = 0 := by omega
    subst this
    obtain ⟨x, hx⟩ := ho i hi
    rw [hx, rdI, nthI_map _ _ _ hi, hx]; rfl
theorem rl_4 {h : Array Obj} {D : Nat → Prop} {μ : Mu} {a b c x y : AV} {r : List AV} {vs : Array Value} (e : ∀ v, R h D μ x v → R h D μ y v) (hr : RL h D μ (a :: b :: c :: x :: r) vs) : RL h D μ (a :: b :: c :: y :: r) vs := by
  refine ⟨by rw [← hr.1]; rfl, fun i z v hz hv => ?_⟩
  match i, hz with
  | 0, hz => exact hr.2 0 z v hz hv
  | 1, hz => exact hr.2 1 z v hz hv
  | 2, hz => exact hr.2 2 z v hz hv
  | 3, hz => cases hz; exact e v (hr.2 3 x v rfl hv)
  | i + 4, hz => exact hr.2 (i + 4) z v hz hv
theorem ac_li {P : Program} {f : FuncId} {a b c x r : AV} (ho : okI x) (h : ACalls P f [a, b, c, lstI std (rdI x)] r) : ACalls P f [a, b, c, x] r :=
  ac_args' (fun h D vs hr => rl_4 (fun v => okI_R ho) hr) h
def numsZ (k : Int) : Int := if k = 1 then 1 else if k = 2 ∨ k = 3 then 2 else if k = 4 then 3 else 0
def nums_s (L : Seal) : Ent1 := (37, fun xs => match xs with | [.int .i64 k] => some (True, .int .i64 (L numsZ k)) | _ => none)
theorem nums_good : Good Tryz.prog (nums_s std) := by
  intro xs p r h hp
  dsimp only [nums_s] at h ⊢
  split at h <;> cases h
  try simp only [L2, L3, std] at hp ⊢
  rename_i k
  refine acalls_L (T := tt) (S := noS) (lo := noA) (lb := noA) 5 (fn := Tryz.f37) rfl rfl (by kernel_rfl) (by kernel_rfl) rfl tt_ok (noS_ok _) (by kernel_rfl) ?_
  (intro L P1 Q1 hL hP hQ; cbv; subst hL; simp only [L2, L3, std, sat_need, sat_must, sat_ite, sat_done, sat_yes, sat_ex, sat_all, sat_sup, sat_and, sat_fail]; subst hQ)
  (simp only [sySet, reduceCtorEq, forall_const, Int.reduceToNat, Int.reduceAdd, Int.reduceSub, Int.cast_ofNat_Int, Int.toNat_natCast, Nat.le_eq, Nat.sub_eq, ne_eq, Decidable.not_not, implies_true, true_and, and_true, wadd, wsub, wmul, decide_eq_true_eq, decide_eq_false_iff_not, Nat.succ_eq_add_one, imp_false, not_false_eq_true, not_true_eq_false, false_imp_iff, true_imp_iff])
  refine ⟨fun h => by simp [numsZ, h], fun h1 => ⟨fun h => by simp [numsZ, h], fun h2 => ⟨fun h => by simp [numsZ, h], fun h3 => ⟨fun h => by simp [numsZ, h], fun h4 => by simp [numsZ, h1, h2, h3, h4]⟩⟩⟩⟩
def numVs (l : List Int) : List CV := l.map numV
def itemsV (k : Int) (b : List UInt8) (l : List Int) : List CV := if k = 2 then numVs l ++ [txtV b] else numVs l
def msgV (k : Int) (b : List UInt8) (l : List Int) : CV := rowV (itemsV k b l)
def msgT (k e : Int) (b : List UInt8) (l : List Int) : List UInt8 := if putE (msgV k b l) = 0 then byT k e (putT (msgV k b l)) else []
def msgOk (e : Int) (b : List UInt8) (l : List Int) : Prop := u64Ok e ∧ b.length ≤ 1000000 ∧ l.length ≤ 1000 ∧ ∀ x ∈ l, shortOk x
theorem numVs_len (l : List Int) : (numVs l).length = l.length := List.length_map _
theorem numVs_size (l : List Int) : sizeCs (numVs l) = l.length := by
  induction l with
  | nil => rw [numVs, List.map_nil, sizeCs_nil]; rfl
  | cons x l ih => rw [numVs, List.map_cons, sizeCs_cons, show l.map numV = numVs l from rfl, ih, numV, sizeC_mk, sizeCs_nil, List.length_cons]; omega
theorem numVs_wf {l : List Int} (h : ∀ x ∈ l, shortOk x) : wfLs (numVs l) ∧ (textLs (numVs l)).length ≤ 11 * l.length := by
  induction l with
  | nil => rw [numVs, List.map_nil, textLs, wfLs]; exact ⟨trivial, Nat.zero_le _⟩
  | cons x l ih =>
    obtain ⟨a, b⟩ := ih (fun y hy => h y (List.mem_cons_of_mem _ hy))
    have hx := h x List.mem_cons_self
    have := shortZ_len hx
    rw [numVs, List.map_cons, textLs, wfLs, show l.map numV = numVs l from rfl, numV, wfV, textV_mk, if_pos rfl, wfLs]
    refine ⟨⟨⟨hx, Nat.zero_le _, trivial⟩, a⟩, ?_⟩
    simp only [List.length_append, List.length_cons, byteK, List.length_nil]
    omega
theorem msgV_ok {e k : Int} {b : List UInt8} {l : List Int} (h : msgOk e b l) : szOk 2000 (msgV k b l) ∧ txOk (msgV k b l) ∧ lenOk (itemsV k b l) := by
  obtain ⟨h0, h1, h2, h3⟩ := h
  obtain ⟨w, t⟩ := numVs_wf h3
  have sb : shortOk (b.length : Nat) := ⟨by omega, by omega⟩
  have sz : shortOk 0 := ⟨by omega, by omega⟩
  have tl := shortZ_len sb
  have il : (itemsV k b l).length ≤ l.length + 1 := by
    unfold itemsV
    split <;> simp [numVs_len]
  have sl : shortOk ((itemsV k b l).length : Nat) := ⟨by omega, by omega⟩
  have tl2 := shortZ_len sl
  have ws : wfLs (itemsV k b l) ∧ (textLs (itemsV k b l)).length ≤ 11 * l.length + b.length + 11 ∧ sizeCs (itemsV k b l) ≤ l.length + 1 := by
    unfold itemsV
    split
    · rw [wfLs_app, textLs_app, sizeCs_app, numVs_size, sizeCs_cons, sizeCs_nil, List.length_append, wfLs, wfLs, textLs, textLs, txtV, wfV, textV_mk, if_neg (by decide), if_pos rfl, sizeC_mk, sizeCs_nil, wfLs]
      refine ⟨⟨w, ⟨sz, by omega, trivial⟩, trivial⟩, ?_, by omega⟩
      simp only [List.length_append, List.length_cons, byteK, List.length_nil]
      omega
    · rw [numVs_size]
      exact ⟨w, by omega, by omega⟩
  refine ⟨?_, ?_, ?_⟩
  · unfold szOk msgV rowV
    rw [sizeC_mk]; omega
  · unfold txOk msgV rowV
    rw [wfV, textV_mk, if_neg (by decide), if_neg (by decide)]
    refine ⟨⟨sz, Nat.zero_le _, ws.1⟩, ?_⟩
    simp only [List.length_append, List.length_cons, byteK, List.length_nil]
    omega
  · unfold lenOk; omega
theorem msg_end {e k : Int} {b : List UInt8} {l : List Int} (h : msgOk e b l) (x : Nat → Nat → AV) (n : Nat) (hr : rdL (.lst 4 n x) = itemsV k b l) (ho : okL (.lst 4 n x)) :
    (okL (.lst 4 n x) ∧ lenOk (rdL (.lst 4 n x))) ∧
    (okL (.lst 4 (lenV (rowV (rdL (.lst 4 n x)))) (cvIn (rowV (rdL (.lst 4 n x))))) ∧ szOk 2000 (mkV std (rowV (rdL (.lst 4 n x))).kd (rowV (rdL (.lst 4 n x))).nn (rowV (rdL (.lst 4 n x))).tx (.lst 4 (lenV (rowV (rdL (.lst 4 n x)))) (cvIn (rowV (rdL (.lst 4 n x)))))) ∧
      txOk (mkV std (rowV (rdL (.lst 4 n x))).kd (rowV (rdL (.lst 4 n x))).nn (rowV (rdL (.lst 4 n x))).tx (.lst 4 (lenV (rowV (rdL (.lst 4 n x)))) (cvIn (rowV (rdL (.lst 4 n x))))))) ∧
    (¬ putE (mkV std (rowV (rdL (.lst 4 n x))).kd (rowV (rdL (.lst 4 n x))).nn (rowV (rdL (.lst 4 n x))).tx (.lst 4 (lenV (rowV (rdL (.lst 4 n x)))) (cvIn (rowV (rdL (.lst 4 n x)))))) = 0 → [] = msgT k e b l) ∧
    (putE (mkV std (rowV (rdL (.lst 4 n x))).kd (rowV (rdL (.lst 4 n x))).nn (rowV (rdL (.lst 4 n x))).tx (.lst 4 (lenV (rowV (rdL (.lst 4 n x)))) (cvIn (rowV (rdL (.lst 4 n x)))))) = 0 →
      byOk e (putT (mkV std (rowV (rdL (.lst 4 n x))).kd (rowV (rdL (.lst 4 n x))).nn (rowV (rdL (.lst 4 n x))).tx (.lst 4 (lenV (rowV (rdL (.lst 4 n x)))) (cvIn (rowV (rdL (.lst 4 n x))))))) ∧
      byT k e (putT (mkV std (rowV (rdL (.lst 4 n x))).kd (rowV (rdL (.lst 4 n x))).nn (rowV (rdL (.lst 4 n x))).tx (.lst 4 (lenV (rowV (rdL (.lst 4 n x)))) (cvIn (rowV (rdL (.lst 4 n x))))))) = msgT k e b l) := by
  rw [hr, mkV_parts, show rowV (itemsV k b l) = msgV k b l from rfl]
  obtain ⟨m1, m2, m3⟩ := msgV_ok (k := k) h
  refine ⟨⟨ho, m3⟩, ⟨(rd_in _).2, m1, m2⟩, fun hE => by rw [msgT, if_neg hE], fun hE => ⟨⟨h.1.1, h.1.2, ?_⟩, by rw [msgT, if_pos hE]⟩⟩
  have := m2.2
  rw [putT, if_pos hE]
  omega
def msgA (L : Seal) (l : List Int) : Nat → St → Option Ann := fun id st => match id with
  | 0 => some ⟨Nat, fun i => [(18, .int .i64 (L natI i)), (9, .sl 900 4 0 i)], fun i => [(900, .row 89 4 i (fun i j => cv1 L (L2 L nthV (L numVs l) i) j))], [0, 1, 2, 16, 17], [],
      fun i => L2 L (fun (l : List Int) i => i ≤ l.length) l i, fun i => L2 L (fun (l : List Int) (i : Nat) => l.length - i) l i⟩
  | _ => none
def msg_s (L : Seal) : Ent1 := (9, fun xs => match xs with
  | [.int .i64 k, .int .u64 e, .str b, x] => some (L okI x ∧ L3 L msgOk e b (L rdI x), .str (L (L3 L msgT k e b) (L rdI x)))
  | _ => none)
theorem msg_good : Good Tryz.prog (msg_s std) := by
  intro xs p r h hp
  dsimp only [msg_s] at h ⊢
  split at h <;> cases h
  try simp only [L2, L3, std] at hp ⊢
  rename_i k e b x
  obtain ⟨ho, hz⟩ := hp
  refine ac_li ho ?_
  have hz : msgOk e b (rdI x) := hz
  show ACalls _ _ [.int .i64 k, .int .u64 e, .str b, lstI std (rdI x)] (.str (msgT k e b (rdI x)))
  generalize rdI x = l at hz ⊢
  refine acalls_L' (T := tt) (S := fun L => sumOf [num_s L, txt_s L, list_s L, cput_s 2000 L, by_s L]) (lo := fun L => msgA L l) (lb := noA) 5 (fn := Tryz.f9) (xs := fun L => [.int .i64 k, .int .u64 e, .str b, lstI L l]) rfl rfl (by kernel_rfl) (by kernel_rfl) rfl tt_ok
    (sumOf_ok ⟨num_good, txt_good, list_good, cput2_good _, by_good, trivial⟩) (by kernel_rfl) ?_
  intro L P' Q' hL hP hQ
  (cbv; try simp only [sat_need, sat_must, sat_ite, sat_done, sat_yes, sat_ex, sat_all, sat_sup, sat_and, sat_fail, true_and, and_true])
  refine ⟨⟨0, ?_⟩, fun i hi => ?_⟩
  · (cbv; try simp only [sat_need, sat_must, sat_ite, sat_done, sat_yes, sat_ex, sat_all, sat_sup, sat_and, sat_fail, true_and, and_true])
    (subst hL; subst hQ; simp only [L2, L3, std] at *; try simp only [sySet, reduceCtorEq, forall_const, Int.reduceToNat, Int.reduceAdd, Int.reduceSub, Int.cast_ofNat_Int, Int.toNat_natCast, Nat.le_eq, Nat.sub_eq, ne_eq, Decidable.not_not, implies_true, true_and, and_true, wadd, wsub, wmul, decide_eq_true_eq, decide_eq_false_iff_not, Nat.succ_eq_add_one, imp_false, not_false_eq_true, not_true_eq_false, false_imp_iff, true_imp_iff] at *)
    exact Nat.zero_le _
  · cbv at hi
    (cbv; try simp only [sat_need, sat_must, sat_ite, sat_done, sat_yes, sat_ex, sat_all, sat_sup, sat_and, sat_fail, true_and, and_true])
    refine ⟨fun hlt => ⟨?_, ?_, ⟨i + 1, ?_⟩⟩, fun hge => ⟨fun h2 => ?_, fun h2 => ?_⟩⟩
    · (subst hL; subst hQ; simp only [L2, L3, std] at *; try simp only [sySet, reduceCtorEq, forall_const, Int.reduceToNat, Int.reduceAdd, Int.reduceSub, Int.cast_ofNat_Int, Int.toNat_natCast, Nat.le_eq, Nat.sub_eq, ne_eq, Decidable.not_not, implies_true, true_and, and_true, wadd, wsub, wmul, decide_eq_true_eq, decide_eq_false_iff_not, Nat.succ_eq_add_one, imp_false, not_false_eq_true, not_true_eq_false, false_imp_iff, true_imp_iff] at *)
      omega
    · (subst hL; subst hQ; simp only [L2, L3, std] at *; try simp only [sySet, reduceCtorEq, forall_const, Int.reduceToNat, Int.reduceAdd, Int.reduceSub, Int.cast_ofNat_Int, Int.toNat_natCast, Nat.le_eq, Nat.sub_eq, ne_eq, Decidable.not_not, implies_true, true_and, and_true, wadd, wsub, wmul, decide_eq_true_eq, decide_eq_false_iff_not, Nat.succ_eq_add_one, imp_false, not_false_eq_true, not_true_eq_false, false_imp_iff, true_imp_iff] at *)
      have : lenI l = l.length := rfl
      have := hz.2.2.1
      omega
    · (cbv; try simp only [sat_need, sat_must, sat_ite, sat_done, sat_yes, sat_ex, sat_all, sat_sup, sat_and, sat_fail, true_and, and_true])
      (subst hL; subst hQ; simp only [L2, L3, std] at *; try simp only [sySet, reduceCtorEq, forall_const, Int.reduceToNat, Int.reduceAdd, Int.reduceSub, Int.cast_ofNat_Int, Int.toNat_natCast, Nat.le_eq, Nat.sub_eq, ne_eq, Decidable.not_not, implies_true, true_and, and_true, wadd, wsub, wmul, decide_eq_true_eq, decide_eq_false_iff_not, Nat.succ_eq_add_one, imp_false, not_false_eq_true, not_true_eq_false, false_imp_iff, true_imp_iff] at *)
      have : lenI l = l.length := rfl
      have := hz.2.2.1
      have e1 : numV (nthI l i) = nthV (numVs l) i := by
        rw [nthV, numVs, List.getD_eq_getElem?_getD, List.getElem?_map, nthI, List.getD_eq_getElem?_getD, List.getElem?_eq_getElem (by omega)]; rfl
      rw [e1]
      exact ⟨fun q j hq hj => cv_push (nthV (numVs l)) hq hj, by omega, by omega, by omega⟩
    · (subst hL; subst hQ; simp only [L2, L3, std] at *; try simp only [sySet, reduceCtorEq, forall_const, Int.reduceToNat, Int.reduceAdd, Int.reduceSub, Int.cast_ofNat_Int, Int.toNat_natCast, Nat.le_eq, Nat.sub_eq, ne_eq, Decidable.not_not, implies_true, true_and, and_true, wadd, wsub, wmul, decide_eq_true_eq, decide_eq_false_iff_not, Nat.succ_eq_add_one, imp_false, not_false_eq_true, not_true_eq_false, false_imp_iff, true_imp_iff] at *)
      have : lenI l = l.length := rfl
      have := hz.2.2.1
      subst h2
      obtain ⟨e1, e2⟩ := push_cells (l := numVs l) (v := txtV b) (i := i) (by rw [numVs_len]; omega)
      refine ⟨by omega, msg_end hz _ _ ?_ e2⟩
      rw [e1, itemsV, if_pos rfl]
    · (subst hL; subst hQ; simp only [L2, L3, std] at *; try simp only [sySet, reduceCtorEq, forall_const, Int.reduceToNat, Int.reduceAdd, Int.reduceSub, Int.cast_ofNat_Int, Int.toNat_natCast, Nat.le_eq, Nat.sub_eq, ne_eq, Decidable.not_not, implies_true, true_and, and_true, wadd, wsub, wmul, decide_eq_true_eq, decide_eq_false_iff_not, Nat.succ_eq_add_one, imp_false, not_false_eq_true, not_true_eq_false, false_imp_iff, true_imp_iff] at *)
      have : lenI l = l.length := rfl
      obtain ⟨e1, e2⟩ := rd_cells (n := i) (get := fun q j => cv1 std (nthV (numVs l) q) j) (l := numVs l) (by rw [numVs_len]; omega) (fun q j hq hj => cv1_std _ j hj)
      refine msg_end hz _ _ ?_ e2
      rw [e1, itemsV, if_neg h2]
end Sy
end Go.Proofs.YtcgikjfloloekaaGreatDoor
namespace Go.Proofs.YtcgikjfloloekaaGreatDoor
namespace Sy
open Go Go.RowKit
set_option maxRecDepth 100000
set_option linter.unusedSimpArgs false
set_option linter.unusedVariables false
def rsL (s : List UInt8) : List CV := (getV (paB s)).ls
def rsN (s : List UInt8) : Int := numsZ (paK s)
def rsM (s : List UInt8) : Nat := (rsN s).toNat
def numTo (l : List CV) (i : Nat) : Prop := i ≤ l.length ∧ ∀ j, j < i → (nthV l j).kd = 1
def rsOk (s : List UInt8) : Prop := paE s = 0 ∧ rsN s ≠ 0 ∧ getE (paB s) = 0 ∧ (getV (paB s)).kd = 3 ∧ (paK s = 2 → ((rsL s).length : Int) = rsN s + 1 ∧ (nthV (rsL s) (rsM s)).kd = 2) ∧ (paK s ≠ 2 → ((rsL s).length : Int) = rsN s) ∧ numTo (rsL s) (rsM s)
open Classical in
noncomputable def rsE (s : List UInt8) : Int := if rsOk s then 0 else 4
noncomputable def rsK (s : List UInt8) : Int := if rsE s = 0 then paK s else 0
noncomputable def rsP (s : List UInt8) : Int := if rsE s = 0 then paP s else 0
def nnsV (l : List CV) : List Int := l.map CV.nn
noncomputable def rsI (s : List UInt8) : List Int := if rsE s = 0 then nnsV ((rsL s).take (rsM s)) else []
noncomputable def rsB (s : List UInt8) : List UInt8 := if rsE s = 0 ∧ paK s = 2 then (nthV (rsL s) (rsM s)).tx else []
noncomputable def rs_s (L : Seal) : Ent1 := (10, fun xs => match xs with
  | [.str s] => some (L2 L upto 900000 s, .tup [.int .i64 (L rsK s), .int .u64 (L rsP s), lstI L (L rsI s), .str (L rsB s), .int .i64 (L rsE s)])
  | _ => none)
def nnAt (l : List CV) (i : Nat) : Int := (nthV l i).nn
def rsA (L : Seal) (s : List UInt8) : Nat → St → Option Ann := fun id st => match id with
  | 0 => some ⟨Nat, fun i => [(79, .int .i64 (L natI i)), (7, .sl 901 1 0 i)], fun i => [(901, .row 22 1 i (fun i _ => .int .u64 (L2 L nnAt (L rsL s) i)))], [9, 10, 77, 78], [10],
      fun i => L2 L (fun (s : List UInt8) i => numTo (rsL s) i ∧ i ≤ rsM s) s i, fun i => L2 L (fun (s : List UInt8) (i : Nat) => rsM s - i) s i⟩
  | _ => none
theorem nums_le (k : Int) : 0 ≤ numsZ k ∧ numsZ k ≤ 3 := by
  unfold numsZ
  split
  · omega
  · split
    · omega
    · split <;> omega
theorem rs_yes {s : List UInt8} {i : Nat} (h : rsOk s) (hi : i = rsM s) : paK s = rsK s ∧ paP s = rsP s ∧ fits1 (lstI std (rsI s)) (.lst 1 i fun i x => .int .u64 (nnAt (rsL s) i)) ∧ (if paK s = 2 then (nthV (rsL s) (rsM s)).tx else []) = rsB s ∧ 0 = rsE s := by
  have e : rsE s = 0 := if_pos h
  have hl : (rsI s).length = rsM s := by
    rw [rsI, if_pos e, nnsV, List.length_map, List.length_take]
    have := h.2.2.2.2.2.2.1
    omega
  refine ⟨by rw [rsK, if_pos e], by rw [rsP, if_pos e], ?_, ?_, e.symm⟩
  · show fits1 (.lst 1 (rsI s).length fun i _ => .int .u64 (nthI (rsI s) i)) _
    rw [fits1_lst]
    refine ⟨by omega, fun q j hq hj => ?_⟩
    rw [rsI, if_pos e, nnsV, nthI, List.getD_eq_getElem?_getD, List.getElem?_map, List.getElem?_take_of_lt (by omega), nnAt, nthV, List.getD_eq_getElem?_getD]
    have := h.2.2.2.2.2.2.1
    rw [List.getElem?_eq_getElem (by omega)]; rfl
  · rw [rsB]
    by_cases hk : paK s = 2
    · rw [if_pos hk, if_pos ⟨e, hk⟩]
    · rw [if_neg hk, if_neg (fun h => hk h.2)]
theorem rs_good : Good Tryz.prog (rs_s std) := by
  intro xs p r h hp
  dsimp only [rs_s] at h ⊢
  split at h <;> cases h
  try simp only [L2, L3, std] at hp ⊢
  rename_i s
  refine acalls_L (T := tt) (S := fun L => sumOf [parse_s L, nums_s L, cgetB_s L]) (lo := fun L => rsA L s) (lb := noA) 5 (fn := Tryz.f10) rfl rfl (by kernel_rfl) (by kernel_rfl) rfl tt_ok (sumOf_ok ⟨parse_good, nums_good, cgetB_good, trivial⟩) (by kernel_rfl) ?_
  intro L P' Q' hL hP hQ
  have bad : ¬ rsOk s → fits (.tup [.int .i64 (rsK s), .int .u64 (rsP s), lstI std (rsI s), .str (rsB s), .int .i64 (rsE s)]) (.tup [.int .i64 0, .int .u64 0, .nils, .str [], .int .i64 4]) := by
    intro h
    have e : rsE s = 4 := if_neg h
    simp only [rsK, rsP, rsI, rsB, e]
    show fits (.tup [.int .i64 0, .int .u64 0, .lst 1 0 _, .str [], .int .i64 4]) _
    simp only [sySet]
    trivial
  have yes : rsOk s → rsE s = 0 := fun h => if_pos h
  have nb := nums_le (paK s)
  have eN : numsZ (paK s) = rsN s := rfl
  have eL : (getV (paB s)).ls = rsL s := rfl
  have eM : (rsN s).toNat = rsM s := rfl
  have eV : lenV (getV (paB s)) = (rsL s).length := rfl
  (cbv; try simp only [sat_need, sat_must, sat_ite, sat_done, sat_yes, sat_ex, sat_all, sat_sup, sat_and, sat_fail, true_and, and_true])
  refine ⟨?_, fun h1 => ?_, fun h1 => ⟨fun h2 => ?_, fun h2 => ⟨fun h3 => ?_, fun h3 => ⟨fun h4 => ?_, fun h4 => ⟨fun h5 => ⟨fun h6 => ?_, fun h6 => ⟨?_, fun h7 => ?_, fun h7 => ⟨?_, ?_, fun h8 => ?_, fun h8 => ⟨⟨0, ?_⟩, fun i hi => ?_⟩⟩⟩⟩, fun h5 => ⟨fun h6 => ?_, fun h6 => ⟨⟨0, ?_⟩, fun i hi => ?_⟩⟩⟩⟩⟩⟩⟩
  · subst hL; exact hp
  · (subst hL; subst hQ; simp only [L2, L3, std] at *; try simp only [sySet, reduceCtorEq, forall_const, Int.reduceToNat, Int.reduceAdd, Int.reduceSub, Int.cast_ofNat_Int, Int.toNat_natCast, Nat.le_eq, Nat.sub_eq, ne_eq, Decidable.not_not, implies_true, true_and, and_true, wadd, wsub, wmul, decide_eq_true_eq, decide_eq_false_iff_not, Nat.succ_eq_add_one, imp_false, not_false_eq_true, not_true_eq_false, false_imp_iff, true_imp_iff] at *); exact bad fun h => h1 h.1
  · (subst hL; subst hQ; simp only [L2, L3, std] at *; try simp only [sySet, reduceCtorEq, forall_const, Int.reduceToNat, Int.reduceAdd, Int.reduceSub, Int.cast_ofNat_Int, Int.toNat_natCast, Nat.le_eq, Nat.sub_eq, ne_eq, Decidable.not_not, implies_true, true_and, and_true, wadd, wsub, wmul, decide_eq_true_eq, decide_eq_false_iff_not, Nat.succ_eq_add_one, imp_false, not_false_eq_true, not_true_eq_false, false_imp_iff, true_imp_iff] at *); exact bad fun h => h.2.1 h2
  · (subst hL; subst hQ; simp only [L2, L3, std] at *; try simp only [sySet, reduceCtorEq, forall_const, Int.reduceToNat, Int.reduceAdd, Int.reduceSub, Int.cast_ofNat_Int, Int.toNat_natCast, Nat.le_eq, Nat.sub_eq, ne_eq, Decidable.not_not, implies_true, true_and, and_true, wadd, wsub, wmul, decide_eq_true_eq, decide_eq_false_iff_not, Nat.succ_eq_add_one, imp_false, not_false_eq_true, not_true_eq_false, false_imp_iff, true_imp_iff] at *); exact bad fun h => h3 h.2.2.1
  · (subst hL; subst hQ; simp only [L2, L3, std] at *; try simp only [sySet, reduceCtorEq, forall_const, Int.reduceToNat, Int.reduceAdd, Int.reduceSub, Int.cast_ofNat_Int, Int.toNat_natCast, Nat.le_eq, Nat.sub_eq, ne_eq, Decidable.not_not, implies_true, true_and, and_true, wadd, wsub, wmul, decide_eq_true_eq, decide_eq_false_iff_not, Nat.succ_eq_add_one, imp_false, not_false_eq_true, not_true_eq_false, false_imp_iff, true_imp_iff] at *); exact bad fun h => h4 h.2.2.2.1
  · (subst hL; subst hQ; simp only [L2, L3, std] at *; try simp only [sySet, reduceCtorEq, forall_const, Int.reduceToNat, Int.reduceAdd, Int.reduceSub, Int.cast_ofNat_Int, Int.toNat_natCast, Nat.le_eq, Nat.sub_eq, ne_eq, Decidable.not_not, implies_true, true_and, and_true, wadd, wsub, wmul, decide_eq_true_eq, decide_eq_false_iff_not, Nat.succ_eq_add_one, imp_false, not_false_eq_true, not_true_eq_false, false_imp_iff, true_imp_iff] at *)
    exact bad fun h => by
      have := (h.2.2.2.2.1 h5).1
      omega
  · (subst hL; subst hQ; simp only [L2, L3, std] at *; try simp only [sySet, reduceCtorEq, forall_const, Int.reduceToNat, Int.reduceAdd, Int.reduceSub, Int.cast_ofNat_Int, Int.toNat_natCast, Nat.le_eq, Nat.sub_eq, ne_eq, Decidable.not_not, implies_true, true_and, and_true, wadd, wsub, wmul, decide_eq_true_eq, decide_eq_false_iff_not, Nat.succ_eq_add_one, imp_false, not_false_eq_true, not_true_eq_false, false_imp_iff, true_imp_iff] at *)
    omega
  · (subst hL; subst hQ; simp only [L2, L3, std] at *; try simp only [sySet, reduceCtorEq, forall_const, Int.reduceToNat, Int.reduceAdd, Int.reduceSub, Int.cast_ofNat_Int, Int.toNat_natCast, Nat.le_eq, Nat.sub_eq, ne_eq, Decidable.not_not, implies_true, true_and, and_true, wadd, wsub, wmul, decide_eq_true_eq, decide_eq_false_iff_not, Nat.succ_eq_add_one, imp_false, not_false_eq_true, not_true_eq_false, false_imp_iff, true_imp_iff] at *); exact bad fun h => h7 (h.2.2.2.2.1 h5).2
  · (subst hL; subst hQ; simp only [L2, L3, std] at *; try simp only [sySet, reduceCtorEq, forall_const, Int.reduceToNat, Int.reduceAdd, Int.reduceSub, Int.cast_ofNat_Int, Int.toNat_natCast, Nat.le_eq, Nat.sub_eq, ne_eq, Decidable.not_not, implies_true, true_and, and_true, wadd, wsub, wmul, decide_eq_true_eq, decide_eq_false_iff_not, Nat.succ_eq_add_one, imp_false, not_false_eq_true, not_true_eq_false, false_imp_iff, true_imp_iff] at *)
    omega
  · (subst hL; subst hQ; simp only [L2, L3, std] at *; try simp only [sySet, reduceCtorEq, forall_const, Int.reduceToNat, Int.reduceAdd, Int.reduceSub, Int.cast_ofNat_Int, Int.toNat_natCast, Nat.le_eq, Nat.sub_eq, ne_eq, Decidable.not_not, implies_true, true_and, and_true, wadd, wsub, wmul, decide_eq_true_eq, decide_eq_false_iff_not, Nat.succ_eq_add_one, imp_false, not_false_eq_true, not_true_eq_false, false_imp_iff, true_imp_iff] at *)
    omega
  · (subst hL; subst hQ; simp only [L2, L3, std] at *; try simp only [sySet, reduceCtorEq, forall_const, Int.reduceToNat, Int.reduceAdd, Int.reduceSub, Int.cast_ofNat_Int, Int.toNat_natCast, Nat.le_eq, Nat.sub_eq, ne_eq, Decidable.not_not, implies_true, true_and, and_true, wadd, wsub, wmul, decide_eq_true_eq, decide_eq_false_iff_not, Nat.succ_eq_add_one, imp_false, not_false_eq_true, not_true_eq_false, false_imp_iff, true_imp_iff] at *)
    omega
  · (cbv; try simp only [sat_need, sat_must, sat_ite, sat_done, sat_yes, sat_ex, sat_all, sat_sup, sat_and, sat_fail, true_and, and_true])
    (subst hL; subst hQ; simp only [L2, L3, std] at *; try simp only [sySet, reduceCtorEq, forall_const, Int.reduceToNat, Int.reduceAdd, Int.reduceSub, Int.cast_ofNat_Int, Int.toNat_natCast, Nat.le_eq, Nat.sub_eq, ne_eq, Decidable.not_not, implies_true, true_and, and_true, wadd, wsub, wmul, decide_eq_true_eq, decide_eq_false_iff_not, Nat.succ_eq_add_one, imp_false, not_false_eq_true, not_true_eq_false, false_imp_iff, true_imp_iff] at *)
    exact ⟨⟨Nat.zero_le _, fun j hj => by omega⟩, Nat.zero_le _⟩
  · cbv at hi
    (cbv; try simp only [sat_need, sat_must, sat_ite, sat_done, sat_yes, sat_ex, sat_all, sat_sup, sat_and, sat_fail, true_and, and_true])
    refine ⟨fun hlt => ⟨?_, fun h9 => ?_, fun h9 => ⟨?_, ⟨i + 1, ?_⟩⟩⟩, fun hge => ?_⟩
    · (subst hL; subst hQ; simp only [L2, L3, std] at *; try simp only [sySet, reduceCtorEq, forall_const, Int.reduceToNat, Int.reduceAdd, Int.reduceSub, Int.cast_ofNat_Int, Int.toNat_natCast, Nat.le_eq, Nat.sub_eq, ne_eq, Decidable.not_not, implies_true, true_and, and_true, wadd, wsub, wmul, decide_eq_true_eq, decide_eq_false_iff_not, Nat.succ_eq_add_one, imp_false, not_false_eq_true, not_true_eq_false, false_imp_iff, true_imp_iff] at *)
      omega
    · (subst hL; subst hQ; simp only [L2, L3, std] at *; try simp only [sySet, reduceCtorEq, forall_const, Int.reduceToNat, Int.reduceAdd, Int.reduceSub, Int.cast_ofNat_Int, Int.toNat_natCast, Nat.le_eq, Nat.sub_eq, ne_eq, Decidable.not_not, implies_true, true_and, and_true, wadd, wsub, wmul, decide_eq_true_eq, decide_eq_false_iff_not, Nat.succ_eq_add_one, imp_false, not_false_eq_true, not_true_eq_false, false_imp_iff, true_imp_iff] at *)
      exact bad fun h => h9 (h.2.2.2.2.2.2.2 i (by omega))
    · (subst hL; subst hQ; simp only [L2, L3, std] at *; try simp only [sySet, reduceCtorEq, forall_const, Int.reduceToNat, Int.reduceAdd, Int.reduceSub, Int.cast_ofNat_Int, Int.toNat_natCast, Nat.le_eq, Nat.sub_eq, ne_eq, Decidable.not_not, implies_true, true_and, and_true, wadd, wsub, wmul, decide_eq_true_eq, decide_eq_false_iff_not, Nat.succ_eq_add_one, imp_false, not_false_eq_true, not_true_eq_false, false_imp_iff, true_imp_iff] at *)
      omega
    · (cbv; try simp only [sat_need, sat_must, sat_ite, sat_done, sat_yes, sat_ex, sat_all, sat_sup, sat_and, sat_fail, true_and, and_true])
      (subst hL; subst hQ; simp only [L2, L3, std] at *; try simp only [sySet, reduceCtorEq, forall_const, Int.reduceToNat, Int.reduceAdd, Int.reduceSub, Int.cast_ofNat_Int, Int.toNat_natCast, Nat.le_eq, Nat.sub_eq, ne_eq, Decidable.not_not, implies_true, true_and, and_true, wadd, wsub, wmul, decide_eq_true_eq, decide_eq_false_iff_not, Nat.succ_eq_add_one, imp_false, not_false_eq_true, not_true_eq_false, false_imp_iff, true_imp_iff] at *)
      have hl : i + 1 ≤ (rsL s).length := by omega
      refine ⟨fun q j hq hj => ?_, by omega, ⟨⟨hl, fun j hj => ?_⟩, by omega⟩, by omega⟩
      · by_cases h : q < i
        · rw [blt_t h, show q - i = 0 by omega]; rfl
        · have : q = i := by omega
          subst this
          rw [blt_f (by omega), show q - q = 0 by omega]; rfl
      · by_cases h : j < i
        · exact hi.1.2 j h
        · have : j = i := by omega
          subst this
          exact h9
    · (subst hL; subst hQ; simp only [L2, L3, std] at *; try simp only [sySet, reduceCtorEq, forall_const, Int.reduceToNat, Int.reduceAdd, Int.reduceSub, Int.cast_ofNat_Int, Int.toNat_natCast, Nat.le_eq, Nat.sub_eq, ne_eq, Decidable.not_not, implies_true, true_and, and_true, wadd, wsub, wmul, decide_eq_true_eq, decide_eq_false_iff_not, Nat.succ_eq_add_one, imp_false, not_false_eq_true, not_true_eq_false, false_imp_iff, true_imp_iff] at *)
      have hM : i = rsM s := by omega
      have hok : rsOk s := ⟨h1, h2, h3, h4, fun _ => ⟨by omega, h7⟩, fun h => absurd h5 h, by rw [← hM]; exact hi.1⟩
      have := rs_yes hok hM
      obtain ⟨y1, y2, y3, y4, y5⟩ := this
      refine ⟨y1, y2, y3, ?_, y5⟩
      rw [← y4, if_pos h5]
      try rfl
  · (subst hL; subst hQ; simp only [L2, L3, std] at *; try simp only [sySet, reduceCtorEq, forall_const, Int.reduceToNat, Int.reduceAdd, Int.reduceSub, Int.cast_ofNat_Int, Int.toNat_natCast, Nat.le_eq, Nat.sub_eq, ne_eq, Decidable.not_not, implies_true, true_and, and_true, wadd, wsub, wmul, decide_eq_true_eq, decide_eq_false_iff_not, Nat.succ_eq_add_one, imp_false, not_false_eq_true, not_true_eq_false, false_imp_iff, true_imp_iff] at *); exact bad fun h => h6 (h.2.2.2.2.2.1 h5)
  · (cbv; try simp only [sat_need, sat_must, sat_ite, sat_done, sat_yes, sat_ex, sat_all, sat_sup, sat_and, sat_fail, true_and, and_true])
    (subst hL; subst hQ; simp only [L2, L3, std] at *; try simp only [sySet, reduceCtorEq, forall_const, Int.reduceToNat, Int.reduceAdd, Int.reduceSub, Int.cast_ofNat_Int, Int.toNat_natCast, Nat.le_eq, Nat.sub_eq, ne_eq, Decidable.not_not, implies_true, true_and, and_true, wadd, wsub, wmul, decide_eq_true_eq, decide_eq_false_iff_not, Nat.succ_eq_add_one, imp_false, not_false_eq_true, not_true_eq_false, false_imp_iff, true_imp_iff] at *)
    exact ⟨⟨Nat.zero_le _, fun j hj => by omega⟩, Nat.zero_le _⟩
  · cbv at hi
    (cbv; try simp only [sat_need, sat_must, sat_ite, sat_done, sat_yes, sat_ex, sat_all, sat_sup, sat_and, sat_fail, true_and, and_true])
    refine ⟨fun hlt => ⟨?_, fun h9 => ?_, fun h9 => ⟨?_, ⟨i + 1, ?_⟩⟩⟩, fun hge => ?_⟩
    · (subst hL; subst hQ; simp only [L2, L3, std] at *; try simp only [sySet, reduceCtorEq, forall_const, Int.reduceToNat, Int.reduceAdd, Int.reduceSub, Int.cast_ofNat_Int, Int.toNat_natCast, Nat.le_eq, Nat.sub_eq, ne_eq, Decidable.not_not, implies_true, true_and, and_true, wadd, wsub, wmul, decide_eq_true_eq, decide_eq_false_iff_not, Nat.succ_eq_add_one, imp_false, not_false_eq_true, not_true_eq_false, false_imp_iff, true_imp_iff] at *)
      omega
    · (subst hL; subst hQ; simp only [L2, L3, std] at *; try simp only [sySet, reduceCtorEq, forall_const, Int.reduceToNat, Int.reduceAdd, Int.reduceSub, Int.cast_ofNat_Int, Int.toNat_natCast, Nat.le_eq, Nat.sub_eq, ne_eq, Decidable.not_not, implies_true, true_and, and_true, wadd, wsub, wmul, decide_eq_true_eq, decide_eq_false_iff_not, Nat.succ_eq_add_one, imp_false, not_false_eq_true, not_true_eq_false, false_imp_iff, true_imp_iff] at *)
      exact bad fun h => h9 (h.2.2.2.2.2.2.2 i (by omega))
    · (subst hL; subst hQ; simp only [L2, L3, std] at *; try simp only [sySet, reduceCtorEq, forall_const, Int.reduceToNat, Int.reduceAdd, Int.reduceSub, Int.cast_ofNat_Int, Int.toNat_natCast, Nat.le_eq, Nat.sub_eq, ne_eq, Decidable.not_not, implies_true, true_and, and_true, wadd, wsub, wmul, decide_eq_true_eq, decide_eq_false_iff_not, Nat.succ_eq_add_one, imp_false, not_false_eq_true, not_true_eq_false, false_imp_iff, true_imp_iff] at *)
      omega
    · (cbv; try simp only [sat_need, sat_must, sat_ite, sat_done, sat_yes, sat_ex, sat_all, sat_sup, sat_and, sat_fail, true_and, and_true])
      (subst hL; subst hQ; simp only [L2, L3, std] at *; try simp only [sySet, reduceCtorEq, forall_const, Int.reduceToNat, Int.reduceAdd, Int.reduceSub, Int.cast_ofNat_Int, Int.toNat_natCast, Nat.le_eq, Nat.sub_eq, ne_eq, Decidable.not_not, implies_true, true_and, and_true, wadd, wsub, wmul, decide_eq_true_eq, decide_eq_false_iff_not, Nat.succ_eq_add_one, imp_false, not_false_eq_true, not_true_eq_false, false_imp_iff, true_imp_iff] at *)
      have hl : i + 1 ≤ (rsL s).length := by omega
      refine ⟨fun q j hq hj => ?_, by omega, ⟨⟨hl, fun j hj => ?_⟩, by omega⟩, by omega⟩
      · by_cases h : q < i
        · rw [blt_t h, show q - i = 0 by omega]; rfl
        · have : q = i := by omega
          subst this
          rw [blt_f (by omega), show q - q = 0 by omega]; rfl
      · by_cases h : j < i
        · exact hi.1.2 j h
        · have : j = i := by omega
          subst this
          exact h9
    · (subst hL; subst hQ; simp only [L2, L3, std] at *; try simp only [sySet, reduceCtorEq, forall_const, Int.reduceToNat, Int.reduceAdd, Int.reduceSub, Int.cast_ofNat_Int, Int.toNat_natCast, Nat.le_eq, Nat.sub_eq, ne_eq, Decidable.not_not, implies_true, true_and, and_true, wadd, wsub, wmul, decide_eq_true_eq, decide_eq_false_iff_not, Nat.succ_eq_add_one, imp_false, not_false_eq_true, not_true_eq_false, false_imp_iff, true_imp_iff] at *)
      have hM : i = rsM s := by omega
      have hok : rsOk s := ⟨h1, h2, h3, h4, fun h => absurd h h5, fun _ => by omega, by rw [← hM]; exact hi.1⟩
      have := rs_yes hok hM
      obtain ⟨y1, y2, y3, y4, y5⟩ := this
      refine ⟨y1, y2, y3, ?_, y5⟩
      rw [← y4, if_neg h5]
      try rfl
end Sy
end Go.Proofs.YtcgikjfloloekaaGreatDoor
namespace Go.Proofs.YtcgikjfloloekaaGreatDoor
namespace Sy
open Go Go.RowKit
set_option maxRecDepth 100000
set_option linter.unusedSimpArgs false
set_option linter.unusedVariables false
structure Ss where
  ep : Int
  ver : Int
  non : Int
  nxt : Int
  rep : List UInt8
  opn : Bool
  ba : Int
  ca : Int
  tr : Int
structure Of where
  v : Int
  n : Int
  b : List UInt8
def ssA (L : Seal) (x : Ss) : AV := .agg [.int .u64 (L Ss.ep x), .int .u64 (L Ss.ver x), .int .u64 (L Ss.non x), .int .u64 (L Ss.nxt x), .str (L Ss.rep x), .bool (L Ss.opn x), .int .u64 (L Ss.ba x), .int .u64 (L Ss.ca x), .int .i64 (L Ss.tr x)]
def mkSs (L : Seal) (a b c d : Int) (r : List UInt8) (o : Bool) (e f g : Int) : Ss := L (L (L (L (L (L (L (L (L Ss.mk a) b) c) d) r) o) e) f) g
theorem ss_fit {x : Ss} {a b c d : Int} {r : List UInt8} {o : Bool} {e f g : Int} (h : x = ⟨a, b, c, d, r, o, e, f, g⟩) : fits1 (ssA std x) (.agg [.int .u64 a, .int .u64 b, .int .u64 c, .int .u64 d, .str r, .bool o, .int .u64 e, .int .u64 f, .int .i64 g]) := by
  subst h
  show fits1 (.agg [.int .u64 a, .int .u64 b, .int .u64 c, .int .u64 d, .str r, .bool o, .int .u64 e, .int .u64 f, .int .i64 g]) _
  simp only [fits1_aggi, fits1_aggs, fits1_aggb, fits1_agg0, and_self]
theorem rd1 (a : Int) : rdI (.lst 1 1 fun i x => .int .u64 (nthI [a] i)) = [a] := rfl
theorem rd2 (a b : Int) : rdI (.lst 1 2 fun i x => .int .u64 (nthI [a, b] i)) = [a, b] := rfl
theorem okl1 (n : Nat) (g : Nat → Int) : okI (.lst 1 n fun i x => .int .u64 (g i)) := ⟨rfl, fun i _ => ⟨_, rfl⟩⟩
theorem msg_ok0 {a : Int} {l : List Int} (h : u64Ok a) (hl : l.length ≤ 10) (hs : ∀ x ∈ l, u64Ok x) : msgOk a [] l := ⟨h, Nat.zero_le _, by omega, hs⟩
theorem all1 {a : Int} (h : u64Ok a) : ∀ x ∈ [a], u64Ok x := fun x hx => by simp at hx; rw [hx]; exact h
theorem all2 {a b : Int} (h : u64Ok a) (h2 : u64Ok b) : ∀ x ∈ [a, b], u64Ok x := fun x hx => by
  simp at hx
  rcases hx with rfl | rfl
  · exact h
  · exact h2
theorem mod_ok (a : Int) : u64Ok (a % 18446744073709551616) := ⟨by omega, by omega⟩
def new_s (L : Seal) : Ent1 := (19, fun xs => match xs with | [.agg [.int .u64 b, .int .u64 c, .int .i64 t], .int .u64 v] => some (True, .agg [.int .u64 0, .int .u64 v, .int .u64 0, .int .u64 0, .str [], .bool false, .int .u64 b, .int .u64 c, .int .i64 t]) | _ => none)
theorem new_good : Good Tryz.prog (new_s std) := by
  intro xs p r h hp
  dsimp only [new_s] at h ⊢
  split at h <;> cases h
  try simp only [L2, L3, std] at hp ⊢
  refine acalls_L (T := tt) (S := noS) (lo := noA) (lb := noA) 5 (fn := Tryz.f19) rfl rfl (by kernel_rfl) (by kernel_rfl) rfl tt_ok (noS_ok _) (by kernel_rfl) ?_
  (intro L P1 Q1 hL hP hQ; cbv; subst hL; simp only [L2, L3, std, sat_need, sat_must, sat_ite, sat_done, sat_yes, sat_ex, sat_all, sat_sup, sat_and, sat_fail]; subst hQ)
  (simp only [sySet, reduceCtorEq, forall_const, Int.reduceToNat, Int.reduceAdd, Int.reduceSub, Int.cast_ofNat_Int, Int.toNat_natCast, Nat.le_eq, Nat.sub_eq, ne_eq, Decidable.not_not, implies_true, true_and, and_true, wadd, wsub, wmul, decide_eq_true_eq, decide_eq_false_iff_not, Nat.succ_eq_add_one, imp_false, not_false_eq_true, not_true_eq_false, false_imp_iff, true_imp_iff])
def subT (e v : Int) : List UInt8 := msgT 1 e [] [v]
def tickS (x : Ss) (now : Int) : Ss := if x.opn = true ∨ now < x.nxt then x else { x with opn := true, ep := (x.ep + 1) % 18446744073709551616, non := 0, rep := [] }
def tickT (x : Ss) (now : Int) : List UInt8 := if x.opn = true ∨ now < x.nxt then [] else subT ((x.ep + 1) % 18446744073709551616) x.ver
def tick_s (L : Seal) : Ent1 := (20, fun xs => match xs with
  | [.agg [.int .u64 a, .int .u64 b, .int .u64 c, .int .u64 d, .str r, .bool o, .int .u64 e, .int .u64 f, .int .i64 g], .int .u64 now] => some (L u64Ok b, .tup [ssA L (L2 L tickS (mkSs L a b c d r o e f g) now), .str (L2 L tickT (mkSs L a b c d r o e f g) now)])
  | _ => none)
theorem tick_good : Good Tryz.prog (tick_s std) := by
  intro xs p r h hp
  dsimp only [tick_s] at h ⊢
  split at h <;> cases h
  try simp only [L2, L3, std] at hp ⊢
  rename_i a b c d r o e f g now
  refine acalls_L (T := tt) (S := fun L => sumOf [msg_s L]) (lo := noA) (lb := noA) 5 (fn := Tryz.f20) rfl rfl (by kernel_rfl) (by kernel_rfl) rfl tt_ok (sumOf_ok ⟨msg_good, trivial⟩) (by kernel_rfl) ?_
  (intro L P1 Q1 hL hP hQ; cbv; subst hL; simp only [L2, L3, std, sat_need, sat_must, sat_ite, sat_done, sat_yes, sat_ex, sat_all, sat_sup, sat_and, sat_fail]; subst hQ)
  (simp only [sySet, reduceCtorEq, forall_const, Int.reduceToNat, Int.reduceAdd, Int.reduceSub, Int.cast_ofNat_Int, Int.toNat_natCast, Nat.le_eq, Nat.sub_eq, ne_eq, Decidable.not_not, implies_true, true_and, and_true, wadd, wsub, wmul, decide_eq_true_eq, decide_eq_false_iff_not, Nat.succ_eq_add_one, imp_false, not_false_eq_true, not_true_eq_false, false_imp_iff, true_imp_iff])
  have eX : mkSs std a b c d r o e f g = ⟨a, b, c, d, r, o, e, f, g⟩ := rfl
  rw [eX]
  refine ⟨fun h => ⟨ss_fit (if_pos (.inl h)), (if_pos (.inl h)).symm⟩, fun h => ⟨fun h1 => ⟨ss_fit (if_pos (.inr h1)), (if_pos (.inr h1)).symm⟩, fun h1 => ?_⟩⟩
  have hn : ¬ (o = true ∨ now < d) := by
    rintro (h2 | h2)
    · rw [h] at h2; cases h2
    · omega
  rw [rd1]
  exact ⟨⟨okl1 _ _, msg_ok0 (mod_ok _) (by simp) (all1 hp)⟩, ss_fit (if_neg hn), (if_neg hn).symm⟩
theorem rs_ok {s : List UInt8} (h : rsE s = 0) : rsOk s := by
  unfold rsE at h
  split at h
  · assumption
  · cases h
theorem rsI_len {s : List UInt8} (h : rsE s = 0) : (rsI s).length = rsM s := by
  rw [rsI, if_pos h, nnsV, List.length_map, List.length_take]
  have := (rs_ok h).2.2.2.2.2.2.1
  omega
end Sy
end Go.Proofs.YtcgikjfloloekaaGreatDoor
namespace Go.Proofs.YtcgikjfloloekaaGreatDoor
namespace Sy
open Go Go.RowKit
set_option maxRecDepth 100000
set_option linter.unusedSimpArgs false
set_option linter.unusedVariables false
structure Ct where
  ver : Int
  bod : List UInt8
  som : Bool
  ep : Int
  non : Int
  las : List UInt8
  tv : Int
  tc : Int
  ti : Bool
  rv : Int
  rc : Int
  ri : Bool
def ctA (L : Seal) (x : Ct) : AV := .agg [.int .u64 (L Ct.ver x), .str (L Ct.bod x), .bool (L Ct.som x), .int .u64 (L Ct.ep x), .int .u64 (L Ct.non x), .str (L Ct.las x), .int .u64 (L Ct.tv x), .int .u64 (L Ct.tc x), .bool (L Ct.ti x), .int .u64 (L Ct.rv x), .int .u64 (L Ct.rc x), .bool (L Ct.ri x)]
def mkCt (L : Seal) (a : Int) (b : List UInt8) (s : Bool) (e n : Int) (l : List UInt8) (p q : Int) (r : Bool) (t u : Int) (v : Bool) : Ct := L (L (L (L (L (L (L (L (L (L (L (L Ct.mk a) b) s) e) n) l) p) q) r) t) u) v
theorem ct_fit {x : Ct} {a : Int} {b : List UInt8} {s : Bool} {e n : Int} {l : List UInt8} {p q : Int} {r : Bool} {t u : Int} {v : Bool} (h : x = ⟨a, b, s, e, n, l, p, q, r, t, u, v⟩) :
    fits1 (ctA std x) (.agg [.int .u64 a, .str b, .bool s, .int .u64 e, .int .u64 n, .str l, .int .u64 p, .int .u64 q, .bool r, .int .u64 t, .int .u64 u, .bool v]) := by
  subst h
  show fits1 (.agg [.int .u64 a, .str b, .bool s, .int .u64 e, .int .u64 n, .str l, .int .u64 p, .int .u64 q, .bool r, .int .u64 t, .int .u64 u, .bool v]) _
  simp only [fits1_aggi, fits1_aggs, fits1_aggb, fits1_agg0, and_self]
def inc64 (n : Int) : Int := (n + 1) % 18446744073709551616
def offS (x : Ct) : Ct := { x with non := inc64 x.non, las := msgT 2 x.ep x.bod [x.ver, inc64 x.non] }
def ctOk (x : Ct) : Prop := u64Ok x.ep ∧ x.bod.length ≤ 1000000 ∧ u64Ok x.ver
def off_s (L : Seal) : Ent1 := (29, fun xs => match xs with
  | [.agg [.int .u64 a, .str b, .bool s, .int .u64 e, .int .u64 n, .str l, .int .u64 p, .int .u64 q, .bool r, .int .u64 t, .int .u64 u, .bool v]] =>
    some (L ctOk (mkCt L a b s e n l p q r t u v), .tup [ctA L (L offS (mkCt L a b s e n l p q r t u v)), .str (L Ct.las (L offS (mkCt L a b s e n l p q r t u v)))])
  | _ => none)
theorem off_good : Good Tryz.prog (off_s std) := by
  intro xs p r h hp
  dsimp only [off_s] at h ⊢
  split at h <;> cases h
  try simp only [L2, L3, std] at hp ⊢
  rename_i a b s e n l p q r t u v
  refine acalls_L (T := tt) (S := fun L => sumOf [msg_s L]) (lo := noA) (lb := noA) 5 (fn := Tryz.f29) rfl rfl (by kernel_rfl) (by kernel_rfl) rfl tt_ok (sumOf_ok ⟨msg_good, trivial⟩) (by kernel_rfl) ?_
  obtain ⟨p1, p2, p3⟩ : u64Ok e ∧ b.length ≤ 1000000 ∧ u64Ok a := hp
  (intro L P1 Q1 hL hP hQ; cbv; subst hL; simp only [L2, L3, std, sat_need, sat_must, sat_ite, sat_done, sat_yes, sat_ex, sat_all, sat_sup, sat_and, sat_fail]; subst hQ)
  (simp only [sySet, reduceCtorEq, forall_const, Int.reduceToNat, Int.reduceAdd, Int.reduceSub, Int.cast_ofNat_Int, Int.toNat_natCast, Nat.le_eq, Nat.sub_eq, ne_eq, Decidable.not_not, implies_true, true_and, and_true, wadd, wsub, wmul, decide_eq_true_eq, decide_eq_false_iff_not, Nat.succ_eq_add_one, imp_false, not_false_eq_true, not_true_eq_false, false_imp_iff, true_imp_iff])
  rw [rd2]
  exact ⟨⟨okl1 _ _, p1, p2, by simp, all2 p3 (mod_ok _)⟩, ct_fit rfl, rfl⟩
def setC (x : Ct) (v : Int) (b : List UInt8) : Ct := { x with ver := v, bod := b, som := true }
def rawS (x : Ct) (v : Int) (b : List UInt8) : Ct := if x.ep = 0 then setC x v b else offS (setC x v b)
def rawT (x : Ct) (v : Int) (b : List UInt8) : List UInt8 := if x.ep = 0 then [] else (offS (setC x v b)).las
def raw_s (L : Seal) : Ent1 := (7, fun xs => match xs with
  | [.agg [.int .u64 a, .str b, .bool s, .int .u64 e, .int .u64 n, .str l, .int .u64 p, .int .u64 q, .bool r, .int .u64 t, .int .u64 u, .bool v], .int .u64 w, .str x] =>
    some (L u64Ok e ∧ L2 L upto 1000000 x ∧ L u64Ok w, .tup [ctA L (L3 L rawS (mkCt L a b s e n l p q r t u v) w x), .str (L3 L rawT (mkCt L a b s e n l p q r t u v) w x)])
  | _ => none)
theorem raw_good : Good Tryz.prog (raw_s std) := by
  intro xs p r h hp
  dsimp only [raw_s] at h ⊢
  split at h <;> cases h
  try simp only [L2, L3, std] at hp ⊢
  rename_i a b s e n l p q r t u v w x
  refine acalls_L (T := tt) (S := fun L => sumOf [off_s L]) (lo := noA) (lb := noA) 5 (fn := Tryz.f7) rfl rfl (by kernel_rfl) (by kernel_rfl) rfl tt_ok (sumOf_ok ⟨off_good, trivial⟩) (by kernel_rfl) ?_
  obtain ⟨p1, p2, p3⟩ : u64Ok e ∧ upto 1000000 x ∧ u64Ok w := hp
  (intro L P1 Q1 hL hP hQ; cbv; subst hL; simp only [L2, L3, std, sat_need, sat_must, sat_ite, sat_done, sat_yes, sat_ex, sat_all, sat_sup, sat_and, sat_fail]; subst hQ)
  (simp only [sySet, reduceCtorEq, forall_const, Int.reduceToNat, Int.reduceAdd, Int.reduceSub, Int.cast_ofNat_Int, Int.toNat_natCast, Nat.le_eq, Nat.sub_eq, ne_eq, Decidable.not_not, implies_true, true_and, and_true, wadd, wsub, wmul, decide_eq_true_eq, decide_eq_false_iff_not, Nat.succ_eq_add_one, imp_false, not_false_eq_true, not_true_eq_false, false_imp_iff, true_imp_iff])
  have eX : mkCt std a b s e n l p q r t u v = ⟨a, b, s, e, n, l, p, q, r, t, u, v⟩ := rfl
  rw [eX]
  refine ⟨fun h => ⟨ct_fit (if_pos h), (if_pos h).symm⟩, fun h => ⟨⟨p1, p2, p3⟩, ct_fit (if_neg h), (if_neg h).symm⟩⟩
def newE (x : Ct) (e : Int) : Ct := { x with ep := e, non := 0, las := [] }
def subE (x : Ct) (e : Int) : Int := if e < x.ep ∨ e = 0 then 18 else 0
def subS (x : Ct) (e : Int) : Ct := if e < x.ep ∨ e = 0 ∨ e = x.ep then x else if x.som = true then offS (newE x e) else newE x e
def subA (x : Ct) (e : Int) : List UInt8 := if e < x.ep ∨ e = 0 then [] else if e = x.ep then x.las else if x.som = true then (offS (newE x e)).las else []
def subd_s (L : Seal) : Ent1 := (30, fun xs => match xs with
  | [.agg [.int .u64 a, .str b, .bool s, .int .u64 e, .int .u64 n, .str l, .int .u64 p, .int .u64 q, .bool r, .int .u64 t, .int .u64 u, .bool v], .int .u64 w] =>
    some (L u64Ok w ∧ L2 L upto 1000000 b ∧ L u64Ok a, .tup [ctA L (L2 L subS (mkCt L a b s e n l p q r t u v) w), .str (L2 L subA (mkCt L a b s e n l p q r t u v) w), .int .i64 (L2 L subE (mkCt L a b s e n l p q r t u v) w)])
  | _ => none)
theorem subd_good : Good Tryz.prog (subd_s std) := by
  intro xs p r h hp
  dsimp only [subd_s] at h ⊢
  split at h <;> cases h
  try simp only [L2, L3, std] at hp ⊢
  rename_i a b s e n l p q r t u v w
  refine acalls_L (T := tt) (S := fun L => sumOf [off_s L]) (lo := noA) (lb := noA) 5 (fn := Tryz.f30) rfl rfl (by kernel_rfl) (by kernel_rfl) rfl tt_ok (sumOf_ok ⟨off_good, trivial⟩) (by kernel_rfl) ?_
  obtain ⟨p1, p2, p3⟩ : u64Ok w ∧ upto 1000000 b ∧ u64Ok a := hp
  (intro L P1 Q1 hL hP hQ; cbv; subst hL; simp only [L2, L3, std, sat_need, sat_must, sat_ite, sat_done, sat_yes, sat_ex, sat_all, sat_sup, sat_and, sat_fail]; subst hQ)
  (simp only [sySet, reduceCtorEq, forall_const, Int.reduceToNat, Int.reduceAdd, Int.reduceSub, Int.cast_ofNat_Int, Int.toNat_natCast, Nat.le_eq, Nat.sub_eq, ne_eq, Decidable.not_not, implies_true, true_and, and_true, wadd, wsub, wmul, decide_eq_true_eq, decide_eq_false_iff_not, Nat.succ_eq_add_one, imp_false, not_false_eq_true, not_true_eq_false, false_imp_iff, true_imp_iff])
  have eX : mkCt std a b s e n l p q r t u v = ⟨a, b, s, e, n, l, p, q, r, t, u, v⟩ := rfl
  have eY : mkCt std a b s w 0 [] p q r t u v = ⟨a, b, s, w, 0, [], p, q, r, t, u, v⟩ := rfl
  rw [eX, eY]
  refine ⟨fun h => ⟨ct_fit (if_pos (.inl h)), (if_pos (.inl h)).symm, (if_pos (.inl h)).symm⟩, fun h => ⟨fun h1 => ⟨ct_fit (if_pos (.inr (.inl h1))), (if_pos (.inr h1)).symm, (if_pos (.inr h1)).symm⟩, fun h1 => ?_⟩⟩
  have hn : ¬ (w < e ∨ w = 0) := by
    rintro (q | q)
    · omega
    · exact h1 q
  refine ⟨fun h2 => ⟨ct_fit (if_pos (.inr (.inr h2))), ?_, (if_neg hn).symm⟩, fun h2 => ?_⟩
  · unfold subA
    rw [if_neg hn, if_pos h2]
  have hm : ¬ (w < e ∨ w = 0 ∨ w = e) := by
    rintro (q | q | q)
    · omega
    · exact h1 q
    · exact h2 q
  refine ⟨fun h3 => ⟨ct_fit ?_, ?_, (if_neg hn).symm⟩, fun h3 => ⟨⟨p1, p2, p3⟩, ct_fit ?_, ?_, (if_neg hn).symm⟩⟩
  · unfold subS
    rw [if_neg hm, if_neg (by show ¬ s = true; rw [h3]; decide)]; rfl
  · unfold subA
    rw [if_neg hn, if_neg h2, if_neg (by show ¬ s = true; rw [h3]; decide)]
  · unfold subS
    rw [if_neg hm, if_pos h3]; rfl
  · unfold subA
    rw [if_neg hn, if_neg h2, if_pos h3]; rfl
theorem sub_bad {x : Ct} {e : Int} (h : ¬ subE x e = 0) : subS x e = x ∧ subA x e = [] := by
  unfold subE at h
  split at h
  · rename_i q
    refine ⟨if_pos ?_, if_pos q⟩
    rcases q with q | q
    · exact .inl q
    · exact .inr (.inl q)
  · exact absurd rfl h
theorem rs_lens {s : List UInt8} (h : rsE s = 0) (h1 : ¬ rsK s = 1) : 2 ≤ (lenI (rsI s) : Int) ∧ (¬ rsK s = 2 → ¬ rsK s = 3 → (lenI (rsI s) : Int) = 3) := by
  have hl : lenI (rsI s) = rsM s := rsI_len h
  have hN := (rs_ok h).2.1
  rw [rsK, if_pos h] at h1
  rw [hl, rsK, if_pos h, rsM]
  unfold rsN numsZ at hN ⊢
  rw [if_neg h1] at hN ⊢
  split
  · rename_i q
    exact ⟨by decide, fun a b => by rcases q with q | q; · exact absurd q a
                                    · exact absurd q b⟩
  · rename_i q
    rw [if_neg q] at hN
    split
    · exact ⟨by decide, fun _ _ => rfl⟩
    · rename_i q2
      rw [if_neg q2] at hN
      exact absurd rfl hN
theorem rsP_ok (s : List UInt8) : u64Ok (rsP s) := by
  unfold rsP paP nxP
  split
  · split
    · split
      · exact nxP_bound s
      · exact ⟨by decide, by decide⟩
    · exact ⟨by decide, by decide⟩
  · exact ⟨by decide, by decide⟩
noncomputable def ctE (x : Ct) (s : List UInt8) : Int :=
  if rsE s ≠ 0 then rsE s else if rsK s = 1 then subE x (rsP s) else if rsK s = 2 then 10 else if rsP s ≠ x.ep ∨ nthI (rsI s) 1 < 1 ∨ x.non < nthI (rsI s) 1 then 18 else 0
noncomputable def ctS (x : Ct) (s : List UInt8) : Ct :=
  if ctE x s ≠ 0 then x else if rsK s = 1 then subS x (rsP s) else if rsK s = 3 then { x with tv := nthI (rsI s) 0, tc := 0, ti := true } else { x with rv := nthI (rsI s) 0, rc := nthI (rsI s) 2, ri := true }
noncomputable def ctT (x : Ct) (s : List UInt8) : List UInt8 := if ctE x s ≠ 0 then [] else if rsK s = 1 then subA x (rsP s) else []
noncomputable def ctk_s (L : Seal) : Ent1 := (8, fun xs => match xs with
  | [.agg [.int .u64 a, .str b, .bool s, .int .u64 e, .int .u64 n, .str l, .int .u64 p, .int .u64 q, .bool r, .int .u64 t, .int .u64 u, .bool v], .str w] =>
    some (L2 L upto 900000 w ∧ L2 L upto 1000000 b ∧ L u64Ok a, .tup [ctA L (L2 L ctS (mkCt L a b s e n l p q r t u v) w), .str (L2 L ctT (mkCt L a b s e n l p q r t u v) w), .int .i64 (L2 L ctE (mkCt L a b s e n l p q r t u v) w)])
  | _ => none)
theorem ctk_good : Good Tryz.prog (ctk_s std) := by
  intro xs p r h hp
  dsimp only [ctk_s] at h ⊢
  split at h <;> cases h
  try simp only [L2, L3, std] at hp ⊢
  rename_i a b s e n l p q r t u v w
  refine acalls_L (T := tt) (S := fun L => sumOf [rs_s L, subd_s L]) (lo := noA) (lb := noA) 5 (fn := Tryz.f8) rfl rfl (by kernel_rfl) (by kernel_rfl) rfl tt_ok (sumOf_ok ⟨rs_good, subd_good, trivial⟩) (by kernel_rfl) ?_
  obtain ⟨p1, p2, p3⟩ : upto 900000 w ∧ upto 1000000 b ∧ u64Ok a := hp
  (intro L P1 Q1 hL hP hQ; cbv; subst hL; simp only [L2, L3, std, sat_need, sat_must, sat_ite, sat_done, sat_yes, sat_ex, sat_all, sat_sup, sat_and, sat_fail]; subst hQ)
  (simp only [sySet, reduceCtorEq, forall_const, Int.reduceToNat, Int.reduceAdd, Int.reduceSub, Int.cast_ofNat_Int, Int.toNat_natCast, Nat.le_eq, Nat.sub_eq, ne_eq, Decidable.not_not, implies_true, true_and, and_true, wadd, wsub, wmul, decide_eq_true_eq, decide_eq_false_iff_not, Nat.succ_eq_add_one, imp_false, not_false_eq_true, not_true_eq_false, false_imp_iff, true_imp_iff])
  have eX : mkCt std a b s e n l p q r t u v = ⟨a, b, s, e, n, l, p, q, r, t, u, v⟩ := rfl
  rw [eX]
  have no : ∀ z, ctE ⟨a, b, s, e, n, l, p, q, r, t, u, v⟩ w = z → z ≠ 0 → ¬ rsK w = 1 ∨ ¬ rsE w = 0 → fits1 (ctA std (ctS ⟨a, b, s, e, n, l, p, q, r, t, u, v⟩ w)) (.agg [.int .u64 a, .str b, .bool s, .int .u64 e, .int .u64 n, .str l, .int .u64 p, .int .u64 q, .bool r, .int .u64 t, .int .u64 u, .bool v]) ∧
      [] = ctT ⟨a, b, s, e, n, l, p, q, r, t, u, v⟩ w ∧ z = ctE ⟨a, b, s, e, n, l, p, q, r, t, u, v⟩ w := fun z h h1 h2 =>
    ⟨ct_fit (if_pos (by rw [h]; exact h1)), (if_pos (by rw [h]; exact h1)).symm, h.symm⟩
  refine ⟨p1, fun h1 => ?_, fun h1 => ⟨fun h2 => ?_, fun h2 => ⟨fun h3 => ?_, fun h3 => ⟨fun h4 => ?_, fun h4 => ?_⟩⟩⟩⟩
  · refine no _ (if_pos h1) h1 (.inr h1)
  · have e1 : ctE ⟨a, b, s, e, n, l, p, q, r, t, u, v⟩ w = subE ⟨a, b, s, e, n, l, p, q, r, t, u, v⟩ (rsP w) := by rw [ctE, if_neg (by rw [h1]; decide), if_pos h2]
    have e2 : ctS ⟨a, b, s, e, n, l, p, q, r, t, u, v⟩ w = subS ⟨a, b, s, e, n, l, p, q, r, t, u, v⟩ (rsP w) := by
      rw [ctS, e1]
      by_cases q : subE ⟨a, b, s, e, n, l, p, q, r, t, u, v⟩ (rsP w) = 0
      · rw [if_neg (by rw [q]; decide), if_pos h2]
      · rw [if_pos q, (sub_bad q).1]
    have e3 : ctT ⟨a, b, s, e, n, l, p, q, r, t, u, v⟩ w = subA ⟨a, b, s, e, n, l, p, q, r, t, u, v⟩ (rsP w) := by
      rw [ctT, e1]
      by_cases q : subE ⟨a, b, s, e, n, l, p, q, r, t, u, v⟩ (rsP w) = 0
      · rw [if_neg (by rw [q]; decide), if_pos h2]
      · rw [if_pos q, (sub_bad q).2]
    exact ⟨⟨rsP_ok w, p2, p3⟩, ct_fit e2, e3.symm, e1.symm⟩
  · exact no 10 (by rw [ctE, if_neg (by rw [h1]; decide), if_neg h2, if_pos h3]) (by decide) (.inl h2)
  · exact no 18 (by rw [ctE, if_neg (by rw [h1]; decide), if_neg h2, if_neg h3, if_pos (.inl h4)]) (by decide) (.inl h2)
  obtain ⟨l2, l3⟩ := rs_lens h1 h2
  refine ⟨⟨by omega, by omega⟩, fun h5 => ?_, fun h5 => ⟨⟨by omega, by omega⟩, fun h6 => ?_, fun h6 => ?_⟩⟩
  · exact no 18 (by rw [ctE, if_neg (by rw [h1]; decide), if_neg h2, if_neg h3, if_pos (.inr (.inl h5))]) (by decide) (.inl h2)
  · exact no 18 (by rw [ctE, if_neg (by rw [h1]; decide), if_neg h2, if_neg h3, if_pos (.inr (.inr h6))]) (by decide) (.inl h2)
  have e1 : ctE ⟨a, b, s, e, n, l, p, q, r, t, u, v⟩ w = 0 := by
    rw [ctE, if_neg (by rw [h1]; decide), if_neg h2, if_neg h3, if_neg]
    rintro (q | q | q)
    · exact q h4
    · omega
    · have q : n < nthI (rsI w) 1 := q
      omega
  have e3 : ctT ⟨a, b, s, e, n, l, p, q, r, t, u, v⟩ w = [] := by rw [ctT, if_neg (by rw [e1]; decide), if_neg h2]
  refine ⟨fun h7 => ⟨⟨by omega, by omega⟩, ct_fit ?_, e3.symm, e1.symm⟩, fun h7 => ?_⟩
  · rw [ctS, if_neg (by rw [e1]; decide), if_neg h2, if_pos h7]
  · have l3 := l3 h3 h7
    refine ⟨⟨by omega, by omega⟩, ⟨by omega, by omega⟩, ct_fit ?_, e3.symm, e1.symm⟩
    rw [ctS, if_neg (by rw [e1]; decide), if_neg h2, if_neg h7]
def cep_s (L : Seal) : Ent1 := (28, fun xs => match xs with
  | [.agg [.int .u64 a, .str b, .bool s, .int .u64 e, .int .u64 n, .str l, .int .u64 p, .int .u64 q, .bool r, .int .u64 t, .int .u64 u, .bool v]] => some (True, .int .u64 e)
  | _ => none)
theorem cep_good : Good Tryz.prog (cep_s std) := by
  intro xs p r h hp
  dsimp only [cep_s] at h ⊢
  split at h <;> cases h
  try simp only [L2, L3, std] at hp ⊢
  refine acalls_L (T := tt) (S := noS) (lo := noA) (lb := noA) 5 (fn := Tryz.f28) rfl rfl (by kernel_rfl) (by kernel_rfl) rfl tt_ok (noS_ok _) (by kernel_rfl) ?_
  (intro L P1 Q1 hL hP hQ; cbv; subst hL; simp only [L2, L3, std, sat_need, sat_must, sat_ite, sat_done, sat_yes, sat_ex, sat_all, sat_sup, sat_and, sat_fail]; subst hQ)
  (simp only [sySet, reduceCtorEq, forall_const, Int.reduceToNat, Int.reduceAdd, Int.reduceSub, Int.cast_ofNat_Int, Int.toNat_natCast, Nat.le_eq, Nat.sub_eq, ne_eq, Decidable.not_not, implies_true, true_and, and_true, wadd, wsub, wmul, decide_eq_true_eq, decide_eq_false_iff_not, Nat.succ_eq_add_one, imp_false, not_false_eq_true, not_true_eq_false, false_imp_iff, true_imp_iff])
end Sy
end Go.Proofs.YtcgikjfloloekaaGreatDoor
namespace Go.Proofs.YtcgikjfloloekaaGreatDoor
namespace Sy
open Go Go.RowKit
set_option maxRecDepth 100000
set_option linter.unusedSimpArgs false
set_option linter.unusedVariables false
theorem numVs_bare : ∀ l : List Int, bareLs (numVs l) = true
  | [] => by rw [numVs, List.map_nil, bareLs]
  | x :: l => by
    have := numVs_bare l
    rw [numVs, List.map_cons, bareLs, show l.map numV = numVs l from rfl, this, numV, bareV, if_pos rfl]; rfl
theorem bareLs_app (a b : List CV) : bareLs (a ++ b) = (bareLs a && bareLs b) := by
  induction a with
  | nil => rw [List.nil_append, bareLs]; rfl
  | cons x l ih => rw [List.cons_append, bareLs, bareLs, ih, Bool.and_assoc]
theorem txt_bare (b : List UInt8) : bareLs [txtV b] = true := by rw [bareLs, bareLs, txtV, bareV, if_neg (by decide), if_pos rfl]; rfl
theorem items_bare (k : Int) (b : List UInt8) (l : List Int) : bareLs (itemsV k b l) = true := by
  unfold itemsV
  split
  · rw [bareLs_app, numVs_bare, txt_bare]; rfl
  · exact numVs_bare l
theorem msgV_bare (k : Int) (b : List UInt8) (l : List Int) : bareV (msgV k b l) = true := by
  rw [msgV, rowV, bareV, if_neg (by decide), if_neg (by decide), if_pos rfl, items_bare]; rfl
theorem numVs_deep : ∀ l : List Int, deepLs (numVs l) = 0
  | [] => by rw [numVs, List.map_nil, deepLs]
  | x :: l => by
    have := numVs_deep l
    rw [numVs, List.map_cons, deepLs, show l.map numV = numVs l from rfl, this, numV, deepV, if_neg (by decide)]; rfl
theorem items_deep (k : Int) (b : List UInt8) (l : List Int) : deepLs (itemsV k b l) = 0 := by
  unfold itemsV
  split
  · rw [deepLs_app, numVs_deep, deepLs, deepLs, txtV, deepV, if_neg (by decide)]; rfl
  · exact numVs_deep l
theorem msgV_deep (k : Int) (b : List UInt8) (l : List Int) : deepV (msgV k b l) = 1 := by
  rw [msgV, rowV, deepV, if_pos rfl, items_deep]; rfl
theorem msgV_len {k : Int} {b : List UInt8} {l : List Int} (hb : b.length ≤ 8000) (hl : l.length ≤ 10) (hs : ∀ x ∈ l, shortOk x) : (textV (msgV k b l)).length ≤ 8192 := by
  obtain ⟨w, t⟩ := numVs_wf hs
  have sb : shortOk (b.length : Nat) := ⟨by omega, by omega⟩
  have tl := shortZ_len sb
  have il : (itemsV k b l).length ≤ l.length + 1 := by
    unfold itemsV
    split <;> simp [numVs_len]
  have sl : shortOk ((itemsV k b l).length : Nat) := ⟨by omega, by omega⟩
  have tl2 := shortZ_len sl
  have ws : (textLs (itemsV k b l)).length ≤ 11 * l.length + b.length + 11 := by
    unfold itemsV
    split
    · rw [textLs_app, textLs, textLs, txtV, textV_mk, if_neg (by decide), if_pos rfl]
      simp only [List.length_append, List.length_cons, byteK, List.length_nil]
      omega
    · omega
  rw [msgV, rowV, textV_mk, if_neg (by decide), if_neg (by decide)]
  simp only [List.length_append, List.length_cons, byteK, List.length_nil]
  omega
structure ReadIs (t : List UInt8) (k e : Int) (b : List UInt8) (l : List Int) : Prop where
  E : rsE t = 0
  K : rsK t = k
  P : rsP t = e
  I : rsI t = l
  B : rsB t = if k = 2 then b else []
  len : t.length ≤ 8300
  some : t ≠ []
theorem nns_num (l : List Int) : nnsV (numVs l) = l := by
  rw [nnsV, numVs, List.map_map]
  exact List.map_id' l
theorem nth_num {l : List Int} {i : Nat} (h : i < l.length) : nthV (numVs l) i = numV l[i] := by
  rw [nthV, numVs, List.getD_eq_getElem?_getD, List.getElem?_map, List.getElem?_eq_getElem h]; rfl
theorem read_msg {k e : Int} {b : List UInt8} {l : List Int} (hk : numsZ k = l.length) (k1 : 1 ≤ k) (k2 : k ≤ 4) (he : u64Ok e) (hb : b.length ≤ 8000) (hs : ∀ x ∈ l, shortOk x) : ReadIs (msgT k e b l) k e b l := by
  have hl : l.length ≤ 3 := by have := nums_le k; omega
  have tl := msgV_len (k := k) hb (by omega) hs
  have hE : putE (msgV k b l) = 0 := by rw [putE, if_pos (msgV_bare _ _ _), if_neg (by rw [msgV_deep]; omega), if_neg (by omega)]
  have hT : putT (msgV k b l) = textV (msgV k b l) := by rw [putT, if_pos hE]
  have ht : msgT k e b l = byT k e (textV (msgV k b l)) := by rw [msgT, if_pos hE, hT]
  obtain ⟨m1, m2, m3⟩ := msgV_ok (e := e) (k := k) (b := b) (l := l) ⟨he, by omega, by omega, hs⟩
  obtain ⟨g1, g2⟩ := get_of m2.1 (msgV_bare k b l) (by rw [msgV_deep]; omega) tl
  have bE : byE k (textV (msgV k b l)) = 0 := by rw [byE, if_neg (by omega), if_neg (by omega)]
  have G := frame_is k e _ [] bE he.1 he.2
  rw [List.append_nil, ← ht] at G
  have pe : paE (msgT k e b l) = 0 := by rw [paE, if_neg (fun h => h.2 G.R), G.E]
  have pK : paK (msgT k e b l) = k := by rw [paK, if_pos pe, G.K]
  have pP : paP (msgT k e b l) = e := by rw [paP, if_pos pe, G.P]
  have pB : paB (msgT k e b l) = textV (msgV k b l) := by rw [paB, if_pos pe, G.B]
  have gV : getV (paB (msgT k e b l)) = msgV k b l := by rw [pB, g1]
  have eL : rsL (msgT k e b l) = itemsV k b l := by rw [rsL, gV]; rfl
  have eN : rsN (msgT k e b l) = l.length := by rw [rsN, pK, hk]
  have eM : rsM (msgT k e b l) = l.length := by rw [rsM, eN]; simp
  have hi : ∀ j, j < l.length → nthV (itemsV k b l) j = nthV (numVs l) j := by
    intro j hj
    unfold itemsV
    split
    · exact nthV_app_l (by rw [numVs_len]; exact hj)
    · rfl
  have il : (itemsV k b l).length = if k = 2 then l.length + 1 else l.length := by
    unfold itemsV
    split
    · simp [numVs_len]
    · exact numVs_len l
  have ok : rsOk (msgT k e b l) := by
    refine ⟨pe, ?_, by rw [pB]; exact g2, by rw [gV]; rfl, ?_, ?_, ?_⟩
    · rw [rsN, pK]
      unfold numsZ
      split
      · decide
      · split
        · decide
        · split <;> omega
    · intro h2
      rw [pK] at h2
      rw [eL, eM, eN, il, if_pos h2]
      refine ⟨by omega, ?_⟩
      rw [itemsV, if_pos h2, ← numVs_len l, nthV_app_r]; rfl
    · intro h2
      rw [pK] at h2
      rw [eL, eN, il, if_neg h2]
    · rw [eL, eM]
      refine ⟨by rw [il]; split <;> omega, fun j hj => ?_⟩
      rw [hi j hj, nth_num hj]; rfl
  have rE : rsE (msgT k e b l) = 0 := if_pos ok
  have hlen := G.len
  simp only [List.length_nil, Nat.add_zero] at hlen
  refine ⟨rE, by rw [rsK, if_pos rE, pK], by rw [rsP, if_pos rE, pP], ?_, ?_, by omega, ?_⟩
  · rw [rsI, if_pos rE, eL, eM]
    unfold itemsV
    split
    · rw [List.take_left' (numVs_len l), nns_num]
    · rw [List.take_of_length_le (by rw [numVs_len]; omega), nns_num]
  · rw [rsB, pK]
    by_cases h2 : k = 2
    · rw [if_pos ⟨rE, h2⟩, if_pos h2, eL, eM, itemsV, if_pos h2, ← numVs_len l, nthV_app_r]; rfl
    · rw [if_neg (fun h => h2 h.2), if_neg h2]
  · intro h
    rw [h] at hlen
    simp at hlen
theorem awake19_ac : ACalls Tryz.prog 51 [] (.bool true) := by
  refine acalls_L (T := tt) (S := fun L => sumOf [new_s L, tick_s L, rs_s L, tru 80, tru 81, tru 82]) (lo := noA) (lb := noA) 5 (fn := Tryz.f51) rfl rfl (by kernel_rfl) (by kernel_rfl) rfl tt_ok (sumOf_ok ⟨new_good, tick_good, rs_good, tru_good Awake07_ac, tru_good Awake08_ac, tru_good Awake18_ac, trivial⟩) (by kernel_rfl) ?_
  (intro L P1 Q1 hL hP hQ; cbv; subst hL; simp only [L2, L3, std, sat_need, sat_must, sat_ite, sat_done, sat_yes, sat_ex, sat_all, sat_sup, sat_and, sat_fail]; subst hQ)
  (simp only [sySet, reduceCtorEq, forall_const, Int.reduceToNat, Int.reduceAdd, Int.reduceSub, Int.cast_ofNat_Int, Int.toNat_natCast, Nat.le_eq, Nat.sub_eq, ne_eq, Decidable.not_not, implies_true, true_and, and_true, wadd, wsub, wmul, decide_eq_true_eq, decide_eq_false_iff_not, Nat.succ_eq_add_one, imp_false, not_false_eq_true, not_true_eq_false, false_imp_iff, true_imp_iff])
  have tT : tickT ⟨0, 5, 0, 0, [], false, 1, 8, 0⟩ 0 = msgT 1 1 [] [5] := if_neg (by simp)
  have tS : (tickS ⟨0, 5, 0, 0, [], false, 1, 8, 0⟩ 0).opn = true := by rw [tickS, if_neg (by simp)]
  have R := read_msg (k := 1) (e := 1) (b := []) (l := [5]) rfl (by decide) (by decide) ⟨by decide, by decide⟩ (by decide) (by intro x hx; simp at hx; subst hx; exact ⟨by decide, by decide⟩)
  rw [tT, tS, R.E, R.K, R.P, R.I]
  have hl := R.len
  exact ⟨⟨by decide, by decide⟩, by unfold upto; omega, fun _ => ⟨fun _ => ⟨fun _ => ⟨fun _ => ⟨fun _ => ⟨⟨by omega, by decide⟩, rfl⟩, rfl⟩, rfl⟩, rfl⟩, rfl⟩, by decide⟩
end Sy
end Go.Proofs.YtcgikjfloloekaaGreatDoor
namespace Go.Proofs.YtcgikjfloloekaaGreatDoor
namespace Sy
open Go Go.RowKit
set_option maxRecDepth 100000
set_option linter.unusedSimpArgs false
set_option linter.unusedVariables false
theorem ctk_sub {x : Ct} {e v : Int} (he : u64Ok e) (hv : u64Ok v) : ctE x (msgT 1 e [] [v]) = subE x e ∧ ctS x (msgT 1 e [] [v]) = subS x e ∧ ctT x (msgT 1 e [] [v]) = subA x e := by
  have R := read_msg (k := 1) (e := e) (b := []) (l := [v]) rfl (by decide) (by decide) he (by decide) (all1 hv)
  have h0 : ctE x (msgT 1 e [] [v]) = subE x e := by rw [ctE, if_neg (by rw [R.E]; decide), if_pos R.K, R.P]
  refine ⟨h0, ?_, ?_⟩
  · rw [ctS, h0, R.K, R.P]
    by_cases h : subE x e = 0
    · rw [if_neg (by rw [h]; decide), if_pos rfl]
    · rw [if_pos h]
      unfold subE at h
      unfold subS
      rw [if_pos]
      split at h
      · rename_i q
        rcases q with q | q
        · exact .inl q
        · exact .inr (.inl q)
      · exact absurd rfl h
  · rw [ctT, h0, R.K, R.P]
    by_cases h : subE x e = 0
    · rw [if_neg (by rw [h]; decide), if_pos rfl]
    · rw [if_pos h]
      unfold subE at h
      unfold subA
      rw [if_pos]
      split at h
      · assumption
      · exact absurd rfl h
end Sy
end Go.Proofs.YtcgikjfloloekaaGreatDoor
namespace Go.Proofs.YtcgikjfloloekaaGreatDoor
namespace Sy
open Go Go.RowKit
set_option linter.unusedVariables false
def DW (W : World) : Nat → Prop := fun b => b < W.heap.size
structure Opens {H : Type} (enc : TypeId × Value → H) (P : Program) (W : World) (t : TypeId) (α : Type) (sz : Nat) (av : α → Nat → AV) (ok : α → Prop) : Prop where
  size : P.cellsOf t = sz
  go : ∀ fuel cs x, DataW.trod enc P W 0 (fun _ => true) true fuel t cs = some x → ∃ y : α, ok y ∧ cs.length = sz ∧ ∀ j, j < sz → ∃ v, cs[j]? = some v ∧ one v ∧ R W.heap (DW W) noMu (av y j) v
theorem sgl {h : Array Obj} {D : Nat → Prop} {f : Nat → AV} {v : Value} (h1 : one v) (h2 : R h D noMu (f 0) v) : ∀ j, j < 1 → ∃ u, [v][j]? = some u ∧ one u ∧ R h D noMu (f j) u := by
  intro j hj
  obtain rfl : j = 0 := by omega
  exact ⟨v, rfl, h1, h2⟩
section
variable {H : Type} {enc : TypeId × Value → H} {P : Program} {W : World}
theorem opens_int {t : TypeId} {k : IntKind} (ht : P.underlying t = some (.int k)) (hc : P.cellsOf t = 1) : Opens enc P W t Int 1 (fun n _ => .int k n) (fun n => (Lit.int k n).wf = true) := by
  refine ⟨hc, fun fuel cs x h => ?_⟩
  obtain ⟨n, rfl, rfl, hw⟩ := DataW.trod_int ht h
  exact ⟨n, hw, rfl, sgl rfl (.int k n)⟩
theorem Opens.map {t : TypeId} {α β : Type} {sz : Nat} {av : α → Nat → AV} {av' : β → Nat → AV} {ok : α → Prop} {ok' : β → Prop} (O : Opens enc P W t α sz av ok) (f : α → β) (h1 : ∀ y j, j < sz → av y j = av' (f y) j) (h2 : ∀ y, ok y → ok' (f y)) : Opens enc P W t β sz av' ok' := by
  refine ⟨O.size, fun fuel cs x h => ?_⟩
  obtain ⟨y, y1, y2, y3⟩ := O.go fuel cs x h
  refine ⟨f y, h2 y y1, y2, fun j hj => ?_⟩
  obtain ⟨v, v1, v2, v3⟩ := y3 j hj
  exact ⟨v, v1, v2, by rw [← h1 y j hj]; exact v3⟩
theorem open_one {t : TypeId} {α : Type} {av : α → Nat → AV} {ok : α → Prop} {v : Value} {d : DataW H} {p : List MemPlace} (O : Opens enc P W t α 1 av ok) (hv : v.cells = #[v]) (h : DataW.Trod enc P W 0 (fun _ => true) true t v d p) :
    ∃ y, ok y ∧ R W.heap (DW W) noMu (av y 0) v := by
  obtain ⟨fuel, h⟩ := h
  obtain ⟨y, y1, y2, y3⟩ := O.go _ _ _ h
  obtain ⟨u, u1, u2, u3⟩ := y3 0 (by omega)
  rw [hv] at u1
  simp at u1
  subst u1
  exact ⟨y, y1, u3⟩
end
theorem ac_args {P : Program} {f : FuncId} {xs ys : List AV} {r : AV} (h : ∀ h D vs, RL h D noMu xs vs → RL h D noMu ys vs) (ha : ACalls P f ys r) : ACalls P f xs r := fun D w vs hD hx => ha D w vs hD (h _ _ _ hx)
end Sy
end Go.Proofs.YtcgikjfloloekaaGreatDoor
namespace Go.Proofs.YtcgikjfloloekaaGreatDoor
namespace Sy
open Go Go.RowKit
set_option maxRecDepth 100000
set_option linter.unusedSimpArgs false
set_option linter.unusedVariables false
def snC (x : Nat × Ct) : Ct := x.2
def fsC (x : Nat × Ct) : Nat := x.1
structure CnI (e : Int) (x : Ct) (i m : Nat) : Prop where
  ep : x.ep = e
  non : x.non = i + 1
  las : x.las = msgT 2 e x.bod [x.ver, i + 1]
  som : x.som = true
  ver : u64Ok x.ver
  bod : x.bod.length ≤ 8
  le : i ≤ m
def cnInv (e : Int) (m : Nat) (x : Nat × Ct) : Prop := CnI e x.2 x.1 m
def MqC (a : Int) (m : Nat) : Prop := a = m
def cnA (L : Seal) (e : Int) (m : Nat) : Nat → St → Option Ann := fun id st => match id with
  | 0 => some ⟨Nat × Ct, fun x => [(70, .int .u8 (L natI (L fsC x))), (6, .str (L Ct.las (L snC x))), (5, .ref 5 0)],
      fun x => [(5, .box 27 [.int .u64 (L Ct.ver (L snC x)), .str (L Ct.bod (L snC x)), .bool (L Ct.som (L snC x)), .int .u64 (L Ct.ep (L snC x)), .int .u64 (L Ct.non (L snC x)), .str (L Ct.las (L snC x)), .int .u64 (L Ct.tv (L snC x)), .int .u64 (L Ct.tc (L snC x)), .bool (L Ct.ti (L snC x)), .int .u64 (L Ct.rv (L snC x)), .int .u64 (L Ct.rc (L snC x)), .bool (L Ct.ri (L snC x))])], [1, 69], [],
      fun x => L3 L cnInv e m x, fun x => L2 L (fun m (x : Nat × Ct) => m - x.1) m x⟩
  | _ => none
theorem ct_eta (x : Ct) : (⟨x.ver, x.bod, x.som, x.ep, x.non, x.las, x.tv, x.tc, x.ti, x.rv, x.rc, x.ri⟩ : Ct) = x := rfl
theorem sub_up {x : Ct} {e : Int} (h : x.ep < e) (h0 : 0 < e) (hs : x.som = true) : subE x e = 0 ∧ subS x e = offS (newE x e) ∧ subA x e = (offS (newE x e)).las := by
  have h1 : ¬ (e < x.ep ∨ e = 0) := by omega
  have h2 : ¬ (e < x.ep ∨ e = 0 ∨ e = x.ep) := by omega
  refine ⟨if_neg h1, ?_, ?_⟩
  · rw [subS, if_neg h2, if_pos hs]
  · rw [subA, if_neg h1, if_neg (by omega), if_pos hs]
theorem sub_msg {e : Int} (he : u64Ok e) : upto 900000 (msgT 1 e [] [0]) ∧ msgOk e [] [0] := by
  have R := read_msg (k := 1) (e := e) (b := []) (l := [0]) rfl (by decide) (by decide) he (by decide) (all1 ⟨by decide, by decide⟩)
  have := R.len
  exact ⟨by unfold upto; omega, msg_ok0 he (by simp) (all1 ⟨by decide, by decide⟩)⟩
theorem cn_first {e : Int} (he : u64Ok e) (h0 : ¬ e = 0) : ctE (rawS ⟨0, [], false, 0, 0, [], 0, 0, false, 0, 0, false⟩ 1 [97]) (msgT 1 e [] [0]) = 0 ∧
    ctS (rawS ⟨0, [], false, 0, 0, [], 0, 0, false, 0, 0, false⟩ 1 [97]) (msgT 1 e [] [0]) = ⟨1, [97], true, e, 1, msgT 2 e [97] [1, 1], 0, 0, false, 0, 0, false⟩ ∧
    ctT (rawS ⟨0, [], false, 0, 0, [], 0, 0, false, 0, 0, false⟩ 1 [97]) (msgT 1 e [] [0]) = msgT 2 e [97] [1, 1] := by
  have h := he.1
  rw [show rawS ⟨0, [], false, 0, 0, [], 0, 0, false, 0, 0, false⟩ 1 [97] = ⟨1, [97], true, 0, 0, [], 0, 0, false, 0, 0, false⟩ from rfl]
  obtain ⟨a, b, c⟩ := ctk_sub (x := ⟨1, [97], true, 0, 0, [], 0, 0, false, 0, 0, false⟩) (e := e) (v := 0) he ⟨by decide, by decide⟩
  obtain ⟨d, f, g⟩ := sub_up (x := ⟨1, [97], true, 0, 0, [], 0, 0, false, 0, 0, false⟩) (e := e) (by show (0 : Int) < e; omega) (by omega) rfl
  rw [a, b, c, d, f, g]
  exact ⟨rfl, rfl, rfl⟩
theorem cn_next {e : Int} {c : Ct} {i : Nat} (he : u64Ok e) (h0 : ¬ e = 0) (h1 : c.ep = e) (h2 : c.non = i + 1) (hi : (i : Int) ≤ 30) :
    rawS c (i : Int) [98] = ⟨(i : Int), [98], true, e, (i : Int) + 2, msgT 2 e [98] [(i : Int), (i : Int) + 2], c.tv, c.tc, c.ti, c.rv, c.rc, c.ri⟩ ∧ rawT c (i : Int) [98] = msgT 2 e [98] [(i : Int), (i : Int) + 2] ∧ True ∧ True := by
  have h3 : inc64 ((i : Int) + 1) = (i : Int) + 2 := by unfold inc64; omega
  have hs : rawS c (i : Int) [98] = ⟨(i : Int), [98], true, e, (i : Int) + 2, msgT 2 e [98] [(i : Int), (i : Int) + 2], c.tv, c.tc, c.ti, c.rv, c.rc, c.ri⟩ := by
    rw [rawS, if_neg (by rw [h1]; exact h0)]
    simp only [offS, setC, h1, h2, h3]
  refine ⟨hs, ?_, trivial, trivial⟩
  rw [rawT, if_neg (by rw [h1]; exact h0)]
  simp only [offS, setC, h1, h2, h3]
theorem cn_same {e : Int} {c : Ct} (he : u64Ok e) (h0 : ¬ e = 0) (h1 : c.ep = e) : ctE c (msgT 1 e [] [0]) = 0 ∧ ctS c (msgT 1 e [] [0]) = c ∧ ctT c (msgT 1 e [] [0]) = c.las := by
  obtain ⟨a, b, d⟩ := ctk_sub (x := c) (e := e) (v := 0) he ⟨by decide, by decide⟩
  have h2 : ¬ (e < c.ep ∨ e = 0) := by omega
  rw [a, b, d]
  refine ⟨if_neg h2, if_pos (.inr (.inr h1.symm)), ?_⟩
  rw [subA, if_neg h2, if_pos h1.symm]
theorem cn_late {e : Int} {c : Ct} (he : u64Ok e) (h0 : ¬ e = 0) (hm : e ≤ 1152921504606846976) (h1 : c.ep = e) (hs : c.som = true) (hv : u64Ok c.ver) (hb : c.bod.length ≤ 8) :
    ctE c (msgT 1 (e + 1) [] [0]) = 0 ∧ ctT c (msgT 1 (e + 1) [] [0]) = msgT 2 (e + 1) c.bod [c.ver, 1] ∧ ctE c (msgT 1 (e - 1) [] [0]) = 18 ∧ True := by
  have hp := he.1
  obtain ⟨a, b, d⟩ := ctk_sub (x := c) (e := e + 1) (v := 0) ⟨by omega, by omega⟩ ⟨by decide, by decide⟩
  obtain ⟨a2, b2, d2⟩ := ctk_sub (x := c) (e := e - 1) (v := 0) ⟨by omega, by omega⟩ ⟨by decide, by decide⟩
  obtain ⟨f, g, k⟩ := sub_up (x := c) (e := e + 1) (by omega) (by omega) hs
  rw [a, d, a2, f, k]
  exact ⟨rfl, rfl, if_pos (.inl (by omega)), trivial⟩
set_option maxHeartbeats 2000000 in
theorem nonces_ac (aw : ACalls Tryz.prog 6 [] (.bool true)) (r e : Int) (h0 : 0 ≤ r) (h1 : r < 256) (he : u64Ok e) : ACalls Tryz.prog 3 [.int .u8 r, .int .u64 e] (.bool true) := by
  obtain ⟨m, hm⟩ : ∃ m : Nat, MqC (r.tmod 20) m := ⟨(r.tmod 20).toNat, by unfold MqC; rw [Int.tmod_eq_emod_of_nonneg h0]; omega⟩
  have hm19 : m ≤ 19 := by
    have hm' : r.tmod 20 = m := hm
    rw [Int.tmod_eq_emod_of_nonneg h0] at hm'; omega
  refine acalls_L (T := tt) (S := fun L => sumOf [tru 6, raw_s L, msg_s L, ctk_s L, rs_s L]) (lo := fun L => cnA L e m) (lb := noA) 5 (fn := Tryz.f3) rfl rfl (by kernel_rfl) (by kernel_rfl) rfl tt_ok
    (sumOf_ok ⟨tru_good aw, raw_good, msg_good, ctk_good, rs_good, trivial⟩) (by kernel_rfl) ?_
  intro L P' Q' hL hP hQ
  obtain ⟨c1, hc1⟩ : ∃ c1 : Ct, c1 = ⟨1, [97], true, e, 1, msgT 2 e [97] [1, 1], 0, 0, false, 0, 0, false⟩ := ⟨_, rfl⟩
  (cbv; try simp only [sat_need, sat_must, sat_ite, sat_done, sat_yes, sat_ex, sat_all, sat_sup, sat_and, sat_fail, true_and, and_true])
  repeat' first | refine And.intro ?_ ?_ | refine fun (hh : (_ : Bool) = _) => ?_
  rotate_left 18
  · refine ⟨(0, c1), ?_⟩
    (cbv; try simp only [sat_need, sat_must, sat_ite, sat_done, sat_yes, sat_ex, sat_all, sat_sup, sat_and, sat_fail, true_and, and_true])
    (subst hL; subst hQ; simp only [L2, L3, std] at *; try simp only [sySet, reduceCtorEq, forall_const, Int.reduceToNat, Int.reduceAdd, Int.reduceSub, Int.cast_ofNat_Int, Int.toNat_natCast, Nat.le_eq, Nat.sub_eq, ne_eq, Decidable.not_not, implies_true, true_and, and_true, wadd, wsub, wmul, decide_eq_true_eq, decide_eq_false_iff_not, Nat.succ_eq_add_one, imp_false, not_false_eq_true, not_true_eq_false, false_imp_iff, true_imp_iff] at *)
    have he0 : ¬ e = 0 := by assumption
    obtain ⟨S1, S2, S3⟩ := cn_first he he0
    subst hc1
    simp only [ct_eta, rd1, S1, S2, S3]
    refine ⟨rfl, rfl, rfl, rfl, rfl, rfl, rfl, rfl, rfl, rfl, rfl, rfl, rfl, rfl, ?_⟩
    exact ⟨rfl, rfl, rfl, rfl, (⟨by decide, by decide⟩ : u64Ok 1), (by decide : [(97 : UInt8)].length ≤ 8), Nat.zero_le _⟩
  · intro x hx
    cbv at hx
    obtain ⟨nx, hnx⟩ : ∃ nx : Nat × Ct, nx = (x.1 + 1, rawS x.2 (x.1 : Int) [98]) := ⟨_, rfl⟩
    (cbv; try simp only [sat_need, sat_must, sat_ite, sat_done, sat_yes, sat_ex, sat_all, sat_sup, sat_and, sat_fail, true_and, and_true])
    repeat' first | refine And.intro ?_ ?_ | refine fun (hh : (_ : Bool) = _) => ?_
    all_goals try (refine ⟨nx, ?_⟩; (cbv; try simp only [sat_need, sat_must, sat_ite, sat_done, sat_yes, sat_ex, sat_all, sat_sup, sat_and, sat_fail, true_and, and_true]))
    all_goals (try (subst hL; subst hQ; simp only [L2, L3, std] at *; try simp only [sySet, reduceCtorEq, forall_const, Int.reduceToNat, Int.reduceAdd, Int.reduceSub, Int.cast_ofNat_Int, Int.toNat_natCast, Nat.le_eq, Nat.sub_eq, ne_eq, Decidable.not_not, implies_true, true_and, and_true, wadd, wsub, wmul, decide_eq_true_eq, decide_eq_false_iff_not, Nat.succ_eq_add_one, imp_false, not_false_eq_true, not_true_eq_false, false_imp_iff, true_imp_iff] at *))
    all_goals have he0 : ¬ e = 0 := by assumption
    all_goals have he1 : e ≤ 1152921504606846976 := by assumption
    all_goals obtain ⟨p0, p1⟩ := id he
    all_goals obtain ⟨i, c⟩ := x
    all_goals obtain ⟨q1, q2, q3, q4, q5, q6, q7⟩ : CnI e c i m := hx
    all_goals simp only at q1 q2 q3 q4 q5 q6 q7 hnx
    all_goals have hi : ((i : Nat) : Int) % 18446744073709551616 = i := by omega
    all_goals obtain ⟨T1, T2, T3, T4⟩ := cn_next he he0 q1 q2 (by omega : (i : Int) ≤ 30)
    all_goals have R := read_msg (k := 2) (e := e) (b := [98]) (l := [(i : Int), i + 2]) rfl (by decide) (by decide) he (by decide) (all2 ⟨by omega, by omega⟩ ⟨by omega, by omega⟩)
    all_goals obtain ⟨U1, U2, U3⟩ := cn_same he he0 q1
    all_goals obtain ⟨V1, V2, V3, V4⟩ := cn_late he he0 he1 q1 q4 q5 q6
    all_goals have R2 := read_msg (k := 2) (e := e + 1) (b := c.bod) (l := [c.ver, 1]) rfl (by decide) (by decide) ⟨by omega, by omega⟩ (by omega) (all2 q5 ⟨by decide, by decide⟩)
    all_goals have e1 : (e + 1) % 18446744073709551616 = e + 1 := by omega
    all_goals have e2 : (e - 1) % 18446744073709551616 = e - 1 := by omega
    all_goals (try simp only [ct_eta, snC, fsC, rd1, e1, e2, hi, T2, R.E, R.K, R.P, R.I, U1, U2, U3, V1, V2, V3, R2.E, R2.K, R2.P, R2.I] at hh ⊢)
    all_goals have M0 := sub_msg he
    all_goals have M1 := sub_msg (e := e + 1) ⟨by omega, by omega⟩
    all_goals have M2 := sub_msg (e := e - 1) ⟨by omega, by omega⟩
    all_goals first
      | exact okl1 _ _
      | exact q5
      | exact M0.1
      | exact M0.2
      | exact M1.1
      | exact M1.2
      | exact M2.1
      | exact M2.2
      | (rw [q1]; exact he)
      | exact (⟨by omega, by omega⟩ : u64Ok (i : Int))
      | (have hl := R.len; unfold upto; omega)
      | (have hl := R2.len; unfold upto; omega)
      | (unfold upto; omega)
      | (unfold upto; decide)
      | exact ⟨by decide, by show (1 : Int) < ((2 : Nat) : Int); decide⟩
      | exact absurd rfl hh
      | exact absurd trivial hh
      | (refine absurd ?_ hh; show (i : Int) + 2 = ((i : Int) + 2) % 18446744073709551616; omega)
      | skip
    have hlt : (i : Int) < r.tmod 20 := by assumption
    have hm' : r.tmod 20 = m := hm
    rw [hm'] at hlt
    subst hnx
    simp only [T1, true_and]
    refine ⟨by omega, ⟨rfl, by show (i : Int) + 2 = ((i + 1 : Nat) : Int) + 1; omega, ?_, rfl, ⟨by show (0 : Int) ≤ (i : Int); omega, by show (i : Int) < 18446744073709551616; omega⟩, by show [98].length ≤ 8; decide, by show i + 1 ≤ m; omega⟩, by omega⟩
    show msgT 2 e [98] [(i : Int), (i : Int) + 2] = msgT 2 e [98] [(i : Int), ((i + 1 : Nat) : Int) + 1]
    rw [show ((i + 1 : Nat) : Int) + 1 = (i : Int) + 2 by omega]
  all_goals (try (subst hL; subst hQ; simp only [L2, L3, std] at *; try simp only [sySet, reduceCtorEq, forall_const, Int.reduceToNat, Int.reduceAdd, Int.reduceSub, Int.cast_ofNat_Int, Int.toNat_natCast, Nat.le_eq, Nat.sub_eq, ne_eq, Decidable.not_not, implies_true, true_and, and_true, wadd, wsub, wmul, decide_eq_true_eq, decide_eq_false_iff_not, Nat.succ_eq_add_one, imp_false, not_false_eq_true, not_true_eq_false, false_imp_iff, true_imp_iff] at *))
  all_goals have he0 : ¬ e = 0 := by assumption
  all_goals obtain ⟨S1, S2, S3⟩ := cn_first he he0
  all_goals have R := read_msg (k := 2) (e := e) (b := [97]) (l := [1, 1]) rfl (by decide) (by decide) he (by decide) (all2 ⟨by decide, by decide⟩ ⟨by decide, by decide⟩)
  all_goals (try simp only [ct_eta, rd1, S1, S2, S3, R.E, R.K, R.P, R.I] at hh ⊢)
  all_goals have M0 := sub_msg he
  all_goals first
    | exact okl1 _ _
    | exact M0.1
    | exact M0.2
    | exact ⟨by decide, by decide⟩
    | (have hl := R.len; unfold upto; omega)
    | (unfold upto; decide)
    | exact ⟨by decide, by show (1 : Int) < ((2 : Nat) : Int); decide⟩
    | exact absurd rfl hh
    | exact absurd trivial hh
    | decide
    | skip
theorem law_ControlNonces_ (aw : ACalls Tryz.prog 6 [] (.bool true)) (y0 : Int) (ok0 : (Lit.int .u8 y0).wf = true) (y1 : Int) (ok1 : (Lit.int .u64 y1).wf = true) : ACalls Tryz.prog 3 [.int .u8 y0, .int .u64 y1] (.bool true) := by
  simp [Lit.wf] at ok0 ok1
  have a0 : IntKind.u8.min = 0 := rfl
  have a1 : IntKind.u8.max = 255 := rfl
  have a2 : IntKind.u64.min = 0 := rfl
  have a3 : IntKind.u64.max = 18446744073709551615 := rfl
  exact nonces_ac aw y0 y1 (by omega) (by omega) ⟨by omega, by omega⟩
end Sy
end Go.Proofs.YtcgikjfloloekaaGreatDoor
namespace Go.Proofs.YtcgikjfloloekaaGreatDoor
namespace Sy
open Go Go.RowKit
set_option maxRecDepth 100000
set_option linter.unusedSimpArgs false
set_option linter.unusedVariables false
def n1 (v : CV) : Prop := u64Ok v.nn ∧ ∀ x ∈ v.ls, u64Ok x.nn
end Sy
end Go.Proofs.YtcgikjfloloekaaGreatDoor
