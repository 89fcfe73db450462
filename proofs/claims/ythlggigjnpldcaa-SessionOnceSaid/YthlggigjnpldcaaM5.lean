/-Chapter 7 (codec): the value that a text begins with: what the code does. Chapter 7 (codec): what is written is read as it was; Get. Chapter 7 (codec): Get. Chapter 19 (session): how many numbers a kind has; a message's writing. Chapter 19 (session): a message read. Chapter 19 (session): New, Tick, Lost, Take, Done. Chapter 19 (session): a message is read as it was written; the chapter's example. The symbolic executor: the arguments of a law, opened: what the given data says of them, as abstract values. The law SessionOnce: each nonce of an epoch is offered once, rising; each is answered by one text.-/
import Derived.Test.YthlggigjnpldcaaM4
import Derived.Test.YthlggigjnpldcaaM3
import Derived.ChangeArms
import Derived.ChangeSlices
import Derived.OpenShut
import Derived.WideShapes
namespace Go.Proofs.Ythlggigjnpldcaa
namespace Sy
open Go Go.RowKit
set_option maxRecDepth 100000
set_option linter.unusedSimpArgs false
set_option linter.unusedVariables false

structure Lv where
  left : Int
  l : List CV
structure NR where
  v : CV
  r : List UInt8
  e : Int
structure NX where
  st : List Lv
  s : List UInt8
  f : Nat
  v : CV
def nrBad (e : Int) : NR := ⟨.mk 0 0 [] [], [], e⟩
/-- A value is whole: it goes to the list that isn't. -/
def nxtDone (val : List Lv → List UInt8 → NR) : List Lv → CV → List UInt8 → NR
  | [], v, s => ⟨v, s, 0⟩
  | a :: st, v, s => if a.left - 1 = 0 then nxtDone val st (.mk 3 0 [] (a.l ++ [v])) s else val (⟨a.left - 1, a.l ++ [v]⟩ :: st) s
def nxtShut (val : List Lv → List UInt8 → NR) : List Lv → List UInt8 → NR
  | [], s => nrBad 0
  | a :: st, s => if a.left = 0 then nxtDone val st (.mk 3 0 [] a.l) s else val (a :: st) s
def nxtRest (s : List UInt8) : List UInt8 := (s.drop 1).drop (lngK (s.drop 1)).toNat
def nxtVal : Nat → List Lv → List UInt8 → NR
  | 0, _, _ => nrBad 0
  | f + 1, st, s =>
    if s = [] then nrBad 3
    else if cb s 0 < 1 ∨ 3 < cb s 0 then nrBad 10
    else if lngE (s.drop 1) ≠ 0 then nrBad (lngE (s.drop 1))
    else if cb s 0 = 1 then nxtDone (nxtVal f) st (.mk 1 (lngN (s.drop 1)) [] []) (nxtRest s)
    else if cb s 0 = 2 then
      if ((nxtRest s).length : Int) < lngN (s.drop 1) then nrBad 3
      else nxtDone (nxtVal f) st (.mk 2 0 ((nxtRest s).take (lngN (s.drop 1)).toNat) []) ((nxtRest s).drop (lngN (s.drop 1)).toNat)
    else if st.length = 6 then nrBad 8
    else nxtShut (nxtVal f) (⟨lngN (s.drop 1), []⟩ :: st) (nxtRest s)
def nxtTop (s : List UInt8) : NR := if 8192 < s.length then nrBad 5 else nxtVal (s.length + 1) [] s
def sumSt : List Lv → Nat
  | [] => 0
  | a :: r => a.l.length + 1 + sumSt r
def lvOk (st : List Lv) : Prop := ∀ a ∈ st, 1 ≤ a.left ∧ a.left < 18446744073709551616
def nInv1 (s0 : List UInt8) (x : NX) : Prop := x.st.length ≤ 6 ∧ lvOk x.st ∧ x.s.length < x.f ∧ x.s.length + sumSt x.st ≤ 8192 ∧ nxtVal x.f x.st x.s = nxtTop s0
def nInv2 (s0 : List UInt8) (x : NX) : Prop := x.st.length ≤ 6 ∧ (∃ a r, x.st = a :: r ∧ 0 ≤ a.left ∧ a.left < 18446744073709551616 ∧ lvOk r) ∧ x.s.length < x.f ∧ x.s.length + sumSt x.st ≤ 8192 ∧ nxtShut (nxtVal x.f) x.st x.s = nxtTop s0
def nInv3 (s0 : List UInt8) (x : NX) : Prop := x.st.length ≤ 6 ∧ lvOk x.st ∧ x.s.length < x.f ∧ x.s.length + sumSt x.st + 1 ≤ 8192 ∧ nxtDone (nxtVal x.f) x.st x.v x.s = nxtTop s0
def nMu (c : Nat) (x : NX) : Nat := 20 * x.s.length + 3 * x.st.length + c

/-! ### what holds from head to head -/
theorem lng_fact {s : List UInt8} : ∀ (f i n : Nat), f + i = 10 → n < 2 ^ (7 * i) → i ≤ s.length → (lng s f i n).2.1 ≤ 10 ∧ ((lng s f i n).2.2 = 0 → 1 ≤ (lng s f i n).2.1 ∧ (lng s f i n).2.1 ≤ s.length ∧ (lng s f i n).1 < 2 ^ 64)
  | 0, i, n, hf, hn, hi => by simp [lng]
  | f + 1, i, n, hf, hn, hi => by
    rw [lng]
    by_cases h1 : s.length ≤ i
    · rw [if_pos h1]; simp
    · rw [if_neg h1]
      by_cases h2 : i = 9 ∧ 1 < cb s i
      · rw [if_pos h2]; simp
      · rw [if_neg h2]
        have hb := lng_bits (by omega) hn (cb_lt s i) h2
        by_cases h3 : 128 ≤ cb s i
        · rw [if_pos h3]
          by_cases h9 : i = 9
          · omega
          · exact lng_fact f (i + 1) _ (by omega) hb.1 (by omega)
        · rw [if_neg h3]
          by_cases h4 : 0 < cb s i ∨ i = 0
          · rw [if_pos h4]
            exact ⟨by show i + 1 ≤ 10; omega, fun _ => ⟨by show 1 ≤ i + 1; omega, by show i + 1 ≤ s.length; omega, hb.2.1⟩⟩
          · rw [if_neg h4]; simp
theorem lngK_le (s : List UInt8) : 0 ≤ lngK s ∧ lngK s ≤ 10 := by
  have := (lng_fact (s := s) 10 0 0 rfl (by simp) (Nat.zero_le _)).1
  unfold lngK
  omega
theorem lng_yes {s : List UInt8} (h : lngE s = 0) : 1 ≤ lngK s ∧ lngK s ≤ (s.length : Int) ∧ 0 ≤ lngN s ∧ lngN s < 18446744073709551616 := by
  have := (lng_fact (s := s) 10 0 0 rfl (by simp) (Nat.zero_le _)).2
  unfold lngE at h
  unfold lngK lngN
  have := this (by omega)
  omega
theorem k_is (s : List UInt8) : (((s.getD 0 0).toNat : Int) + 9223372036854775808) % 18446744073709551616 - 9223372036854775808 = (cb s 0 : Int) := by
  have := cb_lt s 0
  unfold cb at *
  omega
theorem rest_is (s : List UInt8) : s.drop ((1 + lngK (s.drop 1) + 9223372036854775808) % 18446744073709551616 - 9223372036854775808).toNat = nxtRest s ∧ (1 + lngK (s.drop 1) + 9223372036854775808) % 18446744073709551616 - 9223372036854775808 = 1 + lngK (s.drop 1) := by
  have := lngK_le (s.drop 1)
  have e : (1 + lngK (s.drop 1) + 9223372036854775808) % 18446744073709551616 - 9223372036854775808 = 1 + lngK (s.drop 1) := by omega
  rw [e]
  refine ⟨?_, rfl⟩
  unfold nxtRest
  rw [List.drop_drop]
  congr 1
theorem rest_len {s : List UInt8} (h0 : ¬ s = []) (h : lngE (s.drop 1) = 0) : (nxtRest s).length + 2 ≤ s.length ∧ 1 + lngK (s.drop 1) ≤ (s.length : Int) := by
  have h1 := lng_yes h
  have : 0 < s.length := List.length_pos_iff.2 h0
  have hl : (s.drop 1).length = s.length - 1 := List.length_drop
  unfold nxtRest
  rw [List.length_drop]
  omega
def nrV (e : Int) : AV := .tup [.agg [.int .i64 0, .int .u64 0, .str [], .nils], .str [], .int .i64 e]
theorem nr_bad {s0 : List UInt8} {e : Int} (h : nxtTop s0 = nrBad e) : fits (.tup [cvA std (nxtTop s0).v, .str (nxtTop s0).r, .int .i64 (nxtTop s0).e]) (.tup [.agg [.int .i64 0, .int .u64 0, .str [], .nils], .str [], .int .i64 e]) := by
  rw [h]
  show fits (.tup [.agg [.int .i64 0, .int .u64 0, .str [], .lst 4 0 (cvIn (.mk 0 0 [] []))], .str [], .int .i64 e]) _
  simp [sySet]
theorem nr_good {s0 : List UInt8} {v : CV} {s : List UInt8} (h : nxtTop s0 = ⟨v, s, 0⟩) : fits (.tup [cvA std (nxtTop s0).v, .str (nxtTop s0).r, .int .i64 (nxtTop s0).e]) (.tup [.agg [.int .i64 v.kd, .int .u64 v.nn, .str v.tx, .lst 4 (lenV v) (cvIn v)], .str s, .int .i64 0]) := by
  rw [h]
  show fits (.tup [.agg [.int .i64 v.kd, .int .u64 v.nn, .str v.tx, .lst 4 (lenV v) (cvIn v)], .str s, .int .i64 0]) _
  simp [sySet]
section
variable {s0 s : List UInt8} {st : List Lv} {f : Nat} {v : CV}
theorem nx_un (h : nInv1 s0 ⟨st, s, f, v⟩) : nxtTop s0 =
    if s = [] then nrBad 3
    else if cb s 0 < 1 ∨ 3 < cb s 0 then nrBad 10
    else if lngE (s.drop 1) ≠ 0 then nrBad (lngE (s.drop 1))
    else if cb s 0 = 1 then nxtDone (nxtVal (f - 1)) st (.mk 1 (lngN (s.drop 1)) [] []) (nxtRest s)
    else if cb s 0 = 2 then
      if ((nxtRest s).length : Int) < lngN (s.drop 1) then nrBad 3
      else nxtDone (nxtVal (f - 1)) st (.mk 2 0 ((nxtRest s).take (lngN (s.drop 1)).toNat) []) ((nxtRest s).drop (lngN (s.drop 1)).toNat)
    else if st.length = 6 then nrBad 8
    else nxtShut (nxtVal (f - 1)) (⟨lngN (s.drop 1), []⟩ :: st) (nxtRest s) := by
  obtain ⟨_, _, h3, _, h5⟩ := h
  simp only at h3 h5
  rw [← h5]
  obtain ⟨g, rfl⟩ : ∃ g, f = g + 1 := ⟨f - 1, by omega⟩
  rw [nxtVal]
  rfl
variable (h : nInv1 s0 ⟨st, s, f, v⟩)
include h
theorem nx_0 (h1 : s = []) : nxtTop s0 = nrBad 3 := by rw [nx_un h, if_pos h1]
theorem nx_1 (h1 : ¬ s = []) (h2 : (cb s 0 : Int) < 1 ∨ 3 < (cb s 0 : Int)) : nxtTop s0 = nrBad 10 := by rw [nx_un h, if_neg h1, if_pos (by omega)]
theorem nx_2 (h1 : ¬ s = []) (h2 : 1 ≤ (cb s 0 : Int)) (h3 : (cb s 0 : Int) ≤ 3) (h4 : ¬ lngE (s.drop 1) = 0) : nxtTop s0 = nrBad (lngE (s.drop 1)) := by rw [nx_un h, if_neg h1, if_neg (by omega), if_pos h4]
omit h in
theorem nx_in (h1 : ¬ s = []) (h4 : lngE (s.drop 1) = 0) : 0 ≤ 1 + lngK (s.drop 1) ∧ 1 + lngK (s.drop 1) ≤ (s.length : Int) := by
  have := lng_yes h4
  exact ⟨by omega, (rest_len h1 h4).2⟩
theorem nx_3 (h1 : ¬ s = []) (h4 : lngE (s.drop 1) = 0) (h5 : (cb s 0 : Int) = 1) : nInv3 s0 ⟨st, nxtRest s, f - 1, .mk 1 (lngN (s.drop 1)) [] []⟩ ∧ 20 * (nxtRest s).length + 3 * st.length + 2 + 1 ≤ 20 * s.length + 3 * st.length + 0 := by
  have e := nx_un h
  rw [if_neg h1, if_neg (by omega), if_neg (by simpa using h4), if_pos (by omega)] at e
  obtain ⟨a1, a2, a3, a4, a5⟩ := h
  have hr := rest_len h1 h4
  simp only at a1 a2 a3 a4
  exact ⟨⟨a1, a2, by show (nxtRest s).length < f - 1; omega, by show (nxtRest s).length + sumSt st + 1 ≤ 8192; omega, e.symm⟩, by omega⟩
theorem nx_4 (h1 : ¬ s = []) (h4 : lngE (s.drop 1) = 0) (h6 : (cb s 0 : Int) = 2) (h7 : ((nxtRest s).length : Int) % 18446744073709551616 < lngN (s.drop 1)) : nxtTop s0 = nrBad 3 := by
  have e := nx_un h
  obtain ⟨a1, a2, a3, a4, a5⟩ := h
  have hr := rest_len h1 h4
  simp only at a4
  rw [if_neg h1, if_neg (by omega), if_neg (by simpa using h4), if_neg (by omega), if_pos (by omega), if_pos (by omega)] at e
  exact e
theorem nx_5 (h1 : ¬ s = []) (h4 : lngE (s.drop 1) = 0) (h7 : lngN (s.drop 1) ≤ ((nxtRest s).length : Int) % 18446744073709551616) : 0 ≤ lngN (s.drop 1) ∧ lngN (s.drop 1) ≤ ((nxtRest s).length : Int) := by
  obtain ⟨a1, a2, a3, a4, a5⟩ := h
  have hr := rest_len h1 h4
  have := lng_yes h4
  simp only at a4
  omega
theorem nx_6 (h1 : ¬ s = []) (h4 : lngE (s.drop 1) = 0) (h6 : (cb s 0 : Int) = 2) (h7 : lngN (s.drop 1) ≤ ((nxtRest s).length : Int) % 18446744073709551616) :
    nInv3 s0 ⟨st, (nxtRest s).drop (lngN (s.drop 1)).toNat, f - 1, .mk 2 0 ((nxtRest s).take (lngN (s.drop 1)).toNat) []⟩ ∧ 20 * ((nxtRest s).drop (lngN (s.drop 1)).toNat).length + 3 * st.length + 2 + 1 ≤ 20 * s.length + 3 * st.length + 0 := by
  have e := nx_un h
  obtain ⟨a1, a2, a3, a4, a5⟩ := h
  have hr := rest_len h1 h4
  simp only at a1 a2 a3 a4
  rw [if_neg h1, if_neg (by omega), if_neg (by simpa using h4), if_neg (by omega), if_pos (by omega), if_neg (by omega)] at e
  have hl : ((nxtRest s).drop (lngN (s.drop 1)).toNat).length ≤ (nxtRest s).length := by rw [List.length_drop]; omega
  exact ⟨⟨a1, a2, by show ((nxtRest s).drop (lngN (s.drop 1)).toNat).length < f - 1; omega, by show ((nxtRest s).drop (lngN (s.drop 1)).toNat).length + sumSt st + 1 ≤ 8192; omega, e.symm⟩, by omega⟩
theorem nx_7 (h1 : ¬ s = []) (h4 : lngE (s.drop 1) = 0) (h7 : (cb s 0 : Int) = 3) (h8 : st.length = 6) : nxtTop s0 = nrBad 8 := by
  have e := nx_un h
  rw [if_neg h1, if_neg (by omega), if_neg (by simpa using h4), if_neg (by omega), if_neg (by omega), if_pos h8] at e
  exact e
theorem nx_8 (h1 : ¬ s = []) (h4 : lngE (s.drop 1) = 0) (h7 : (cb s 0 : Int) = 3) (h8 : ¬ st.length = 6) : nInv2 s0 ⟨⟨lngN (s.drop 1), []⟩ :: st, nxtRest s, f - 1, v⟩ ∧ 20 * (nxtRest s).length + 3 * (st.length + 1) + 1 + 1 ≤ 20 * s.length + 3 * st.length + 0 := by
  have e := nx_un h
  rw [if_neg h1, if_neg (by omega), if_neg (by simpa using h4), if_neg (by omega), if_neg (by omega), if_neg h8] at e
  obtain ⟨a1, a2, a3, a4, a5⟩ := h
  have hr := rest_len h1 h4
  have hn := lng_yes h4
  simp only at a1 a2 a3 a4
  refine ⟨⟨by show st.length + 1 ≤ 6; omega, ⟨_, _, rfl, hn.2.2.1, hn.2.2.2, a2⟩, by show (nxtRest s).length < f - 1; omega, ?_, e.symm⟩, by omega⟩
  show (nxtRest s).length + (0 + 1 + sumSt st) ≤ 8192
  omega
end
section
variable {s0 s : List UInt8} {st : List Lv} {f : Nat} {v : CV} {a : Lv}
theorem nd_0 (h : nInv3 s0 ⟨[], s, f, v⟩) : nxtTop s0 = ⟨v, s, 0⟩ := h.2.2.2.2.symm
theorem nd_1 (h : nInv3 s0 ⟨a :: st, s, f, v⟩) : nInv2 s0 ⟨⟨a.left - 1, a.l ++ [v]⟩ :: st, s, f, v⟩ ∧ a.l.length ≤ 8192 ∧ 1 ≤ a.left ∧ a.left < 18446744073709551616 ∧ 20 * s.length + 3 * (st.length + 1) + 1 + 1 ≤ 20 * s.length + 3 * (st.length + 1) + 2 := by
  obtain ⟨a1, a2, a3, a4, a5⟩ := h
  simp only at a1 a2 a3 a4 a5
  have h1 := a2 a (by simp)
  have e4 : sumSt (a :: st) = a.l.length + 1 + sumSt st := rfl
  refine ⟨⟨a1, ⟨_, _, rfl, by show 0 ≤ a.left - 1; omega, by show a.left - 1 < _; omega, fun b hb => a2 b (by simp [hb])⟩, a3, ?_, ?_⟩, by omega, h1.1, h1.2, by omega⟩
  · show s.length + ((a.l ++ [v]).length + 1 + sumSt st) ≤ 8192
    rw [List.length_append, List.length_singleton]
    omega
  · rw [← a5]; rfl
theorem ns_0 (h : nInv2 s0 ⟨a :: st, s, f, v⟩) (h0 : a.left = 0) : nInv3 s0 ⟨st, s, f, .mk 3 0 [] a.l⟩ ∧ 20 * s.length + 3 * st.length + 2 + 1 ≤ 20 * s.length + 3 * (st.length + 1) + 1 := by
  obtain ⟨a1, ⟨b, r, e1, b1, b2, b3⟩, a3, a4, a5⟩ := h
  simp only at a1 a3 a4 a5 e1
  cases e1
  have e4 : sumSt (a :: st) = a.l.length + 1 + sumSt st := rfl
  have e5 : (a :: st).length = st.length + 1 := rfl
  refine ⟨⟨by show st.length ≤ 6; omega, b3, a3, by show s.length + sumSt st + 1 ≤ 8192; omega, ?_⟩, by omega⟩
  rw [← a5, nxtShut, if_pos h0]
theorem ns_1 (h : nInv2 s0 ⟨a :: st, s, f, v⟩) (h0 : ¬ a.left = 0) : nInv1 s0 ⟨a :: st, s, f, v⟩ := by
  obtain ⟨a1, ⟨b, r, e1, b1, b2, b3⟩, a3, a4, a5⟩ := h
  simp only at a1 a3 a4 a5 e1
  cases e1
  refine ⟨a1, fun c hc => ?_, a3, a4, ?_⟩
  · rcases List.mem_cons.1 hc with rfl | hc
    · exact ⟨by omega, b2⟩
    · exact b3 c hc
  · rw [← a5, nxtShut, if_neg h0]
end
theorem nm_1 (s0 : List UInt8) (h : ¬ 8192 < (s0.length : Int)) (v : CV) : nInv1 s0 ⟨[], s0, s0.length + 1, v⟩ := by
  refine ⟨by simp, fun a ha => by simp at ha, by simp, by simp [sumSt]; omega, ?_⟩
  unfold nxtTop
  rw [if_neg (by omega)]
theorem nm_0 (s0 : List UInt8) (h : 8192 < (s0.length : Int)) : nxtTop s0 = nrBad 5 := by
  unfold nxtTop
  rw [if_pos (by omega)]

theorem nx_9 {s0 s : List UInt8} {st : List Lv} {f f1 : Nat} {v : CV} {a1 : Lv} {s1 : List UInt8} (hx : nInv1 s0 ⟨st, s, f, v⟩) (h1 : ¬ s = []) (h4 : lngE (s.drop 1) = 0) (h7 : (cb s 0 : Int) = 3) (h8 : ¬ st.length = 6)
    (ha1 : a1 = ⟨lngN (s.drop 1), []⟩) (hs1 : s1 = nxtRest s) (hf1 : f1 = f - 1) : 0 = lenL a1.l ∧ 0 = lenL a1.l ∧ lngN (s.drop 1) = a1.left ∧ nxtRest s = s1 ∧ nInv2 s0 ⟨a1 :: st, s1, f1, v⟩ ∧ nMu 1 ⟨a1 :: st, s1, f1, v⟩ + 1 ≤ nMu 0 ⟨st, s, f, v⟩ := by
  obtain ⟨q1, q2⟩ := nx_8 hx h1 h4 h7 h8
  subst ha1 hs1 hf1
  exact ⟨rfl, rfl, rfl, rfl, q1, q2⟩
theorem cv_push4 (a : List CV) (v : CV) {p j : Nat} (hp : p < a.length + 1) (hj : j < 4) :
    over std a.length 0 4 [.int .i64 v.kd, .int .u64 v.nn, .str v.tx, .lst 4 (lenV v) (cvIn v)] (fun i j => sel1 std (nblt i a.length) (cvGet a i j) (lget .dead [.int .i64 0, .int .u64 0, .str [], .nils] ((i - a.length) * 4 + j))) p j = cvGet (a ++ [v]) p j := by
  rw [← cv_push3 a v hp hj, over_get, if_pos ⟨Nat.zero_le _, by omega⟩, Nat.sub_zero]
  have e0 : p - a.length = 0 := by omega
  rw [e0, Nat.zero_mul, Nat.zero_add]
  by_cases h : p < a.length
  · rw [blt_t h, beq_no (show p ≠ a.length by omega), cvGet_nth a p j h, ← cv1_std _ j hj]
    match j, hj with
    | 0, _ => rfl
    | 1, _ => rfl
    | 2, _ => rfl
    | 3, _ => rfl
  · rw [blt_f h, show nbeq p a.length = true by rw [show p = a.length by omega, beq_same], cvGet_far a p j (by omega)]
    match j, hj with
    | 0, _ => rfl
    | 1, _ => rfl
    | 2, _ => rfl
    | 3, _ => rfl
theorem nd_room {a : Lv} (h : a.l.length ≤ 8192) : (lenL a.l + 1) * 56 ≤ 140737488355328 ∧ lenL a.l + 1 ≤ 9223372036854775807 := by
  have : lenL a.l = a.l.length := rfl
  omega
theorem nd_in (n : Nat) : 0 ≤ (n : Int) ∧ (n : Int) < ((n.add 1 : Nat) : Int) := by
  have : n.add 1 = n + 1 := rfl
  omega
def stCells (L : Seal) : List Lv → List AV
  | [] => []
  | a :: r => lapp (stCells L r) [.int .u64 (L Lv.left a), .sl (911 + llen r) 4 0 (L lenL (L Lv.l a))]
def stRows (L : Seal) : List Lv → List (Nat × Ob)
  | [] => []
  | a :: r => (911 + llen r, .row 27 4 (L lenL (L Lv.l a)) (L cvGet (L Lv.l a))) :: stRows L r
def stV : List Lv → AV
  | [] => .nils
  | _ :: r => .sl 910 2 0 (llen r + 1)
def stOs (L : Seal) : List Lv → List (Nat × Ob)
  | [] => []
  | a :: r => (910, .spr 115 (stCells L (a :: r))) :: stRows L (a :: r)
def deadV : Nat × Ob := (6, .box 27 [.dead, .dead, .dead, .dead])
def nextA (L : Seal) (s0 : List UInt8) : Nat → St → Option Ann := fun id _ => match id with
  | 1 => some ⟨NX, fun x => [(0, .str (L NX.s x)), (6, .ref 6 0), (5, stV x.st)], fun x => deadV :: stOs L x.st, [2], [2],
      fun x => L2 L nInv1 s0 x, fun x => L (nMu 0) x⟩
  | 2 => some ⟨NX, fun x => [(0, .str (L NX.s x)), (6, .ref 6 0), (5, stV x.st)], fun x => deadV :: stOs L x.st, [2], [2],
      fun x => L2 L nInv2 s0 x, fun x => L (nMu 1) x⟩
  | 3 => some ⟨NX, fun x => [(0, .str (L NX.s x)), (6, .ref 6 0), (5, .sl 910 2 0 (llen x.st))],
      fun x => (6, .box 27 [.int .i64 (L CV.kd (L NX.v x)), .int .u64 (L CV.nn (L NX.v x)), .str (L CV.tx (L NX.v x)), .sl 909 4 0 (L lenV (L NX.v x))]) ::
        (909, .row 27 4 (L lenV (L NX.v x)) (L cvIn (L NX.v x))) :: (910, .spr 115 (stCells L x.st)) :: stRows L x.st, [2], [2],
      fun x => L2 L nInv3 s0 x, fun x => L (nMu 2) x⟩
  | _ => none
def nrA (L : Seal) (r : NR) : AV := .tup [cvA L (L NR.v r), .str (L NR.r r), .int .i64 (L NR.e r)]
def next_s (L : Seal) : Ent1 := (20, fun xs => match xs with | [.str s] => some (True, nrA L (L nxtTop s)) | _ => none)
set_option maxHeartbeats 4000000 in
theorem next_good : Good Try.prog (next_s std) := by
  intro xs p r h hp
  dsimp only [next_s] at h ⊢
  split at h <;> cases h
  try simp only [L2, L3, std] at hp ⊢
  rename_i s0
  refine acalls_L (T := tt) (S := fun L => sumOf [lng_s L]) (lo := noA) (lb := fun L => nextA L s0) 5 (fn := Try.f20) rfl rfl (by kernel_rfl) (by kernel_rfl) rfl tt_ok (sumOf_ok ⟨lng_good, trivial⟩) (by kernel_rfl) ?_
  intro L P' Q' hL hP hQ
  (cbv; try simp only [sat_need, sat_must, sat_ite, sat_done, sat_yes, sat_ex, sat_all, sat_sup, sat_and, sat_fail, true_and, and_true])
  refine ⟨fun x hx => ?_, fun x hx => ?_, fun x hx => ?_, ?_⟩
  · obtain ⟨st, s, f, v⟩ := x
    cbv at hx
    match st, hx with
    | [], hx =>
      (cbv; try simp only [sat_need, sat_must, sat_ite, sat_done, sat_yes, sat_ex, sat_all, sat_sup, sat_and, sat_fail, true_and, and_true])
      obtain ⟨s1, hs1⟩ : ∃ s1, s1 = nxtRest s := ⟨_, rfl⟩
      obtain ⟨s2, hs2⟩ : ∃ s2, s2 = (nxtRest s).drop (lngN (s.drop 1)).toNat := ⟨_, rfl⟩
      obtain ⟨v1, hv1⟩ : ∃ v1, v1 = CV.mk 1 (lngN (s.drop 1)) [] [] := ⟨_, rfl⟩
      obtain ⟨v2, hv2⟩ : ∃ v2, v2 = CV.mk 2 0 ((nxtRest s).take (lngN (s.drop 1)).toNat) [] := ⟨_, rfl⟩
      obtain ⟨a1, ha1⟩ : ∃ a1, a1 = Lv.mk (lngN (s.drop 1)) [] := ⟨_, rfl⟩
      obtain ⟨f1, hf1⟩ : ∃ f1, f1 = f - 1 := ⟨_, rfl⟩
      refine ⟨fun h1 => ?_, fun h1 => ⟨?_, fun h2 => ?_, fun h2 => ⟨fun h3 => ?_, fun h3 => ⟨?_, fun h4 => ?_, fun h4 => ⟨?_, fun h5 => ⟨⟨[], s1, f1, v1⟩, ?_⟩, fun h5 => ⟨fun h6 => ⟨fun h7 => ?_, fun h7 => ⟨?_, ?_, ⟨[], s2, f1, v2⟩, ?_⟩⟩, fun h6 => ⟨fun h7 => ⟨fun h8 => ?_, fun h8 => ⟨?_, ⟨[a1], s1, f1, v⟩, ?_⟩⟩, fun h7 => ?_⟩⟩⟩⟩⟩⟩⟩
      · (subst hL; subst hQ; simp only [L2, L3, std] at *; try simp only [sySet, reduceCtorEq, forall_const, Int.reduceToNat, Int.reduceAdd, Int.reduceSub, Int.cast_ofNat_Int, Int.toNat_natCast, Nat.le_eq, Nat.sub_eq, ne_eq, Decidable.not_not, implies_true, true_and, and_true, wadd, wsub, wmul, decide_eq_true_eq, decide_eq_false_iff_not, Nat.succ_eq_add_one, imp_false, not_false_eq_true, not_true_eq_false, false_imp_iff, true_imp_iff] at *)
        exact nr_bad (nx_0 hx h1)
      · (subst hL; subst hQ; simp only [L2, L3, std] at *; try simp only [sySet, reduceCtorEq, forall_const, Int.reduceToNat, Int.reduceAdd, Int.reduceSub, Int.cast_ofNat_Int, Int.toNat_natCast, Nat.le_eq, Nat.sub_eq, ne_eq, Decidable.not_not, implies_true, true_and, and_true, wadd, wsub, wmul, decide_eq_true_eq, decide_eq_false_iff_not, Nat.succ_eq_add_one, imp_false, not_false_eq_true, not_true_eq_false, false_imp_iff, true_imp_iff] at *)
        have := List.length_pos_iff.2 h1
        omega
      · (subst hL; subst hQ; simp only [L2, L3, std] at *; try simp only [sySet, reduceCtorEq, forall_const, Int.reduceToNat, Int.reduceAdd, Int.reduceSub, Int.cast_ofNat_Int, Int.toNat_natCast, Nat.le_eq, Nat.sub_eq, ne_eq, Decidable.not_not, implies_true, true_and, and_true, wadd, wsub, wmul, decide_eq_true_eq, decide_eq_false_iff_not, Nat.succ_eq_add_one, imp_false, not_false_eq_true, not_true_eq_false, false_imp_iff, true_imp_iff] at *)
        rw [k_is] at h2
        exact nr_bad (nx_1 hx h1 (.inl h2))
      · (subst hL; subst hQ; simp only [L2, L3, std] at *; try simp only [sySet, reduceCtorEq, forall_const, Int.reduceToNat, Int.reduceAdd, Int.reduceSub, Int.cast_ofNat_Int, Int.toNat_natCast, Nat.le_eq, Nat.sub_eq, ne_eq, Decidable.not_not, implies_true, true_and, and_true, wadd, wsub, wmul, decide_eq_true_eq, decide_eq_false_iff_not, Nat.succ_eq_add_one, imp_false, not_false_eq_true, not_true_eq_false, false_imp_iff, true_imp_iff] at *)
        rw [k_is] at h3
        exact nr_bad (nx_1 hx h1 (.inr h3))
      · (subst hL; subst hQ; simp only [L2, L3, std] at *; try simp only [sySet, reduceCtorEq, forall_const, Int.reduceToNat, Int.reduceAdd, Int.reduceSub, Int.cast_ofNat_Int, Int.toNat_natCast, Nat.le_eq, Nat.sub_eq, ne_eq, Decidable.not_not, implies_true, true_and, and_true, wadd, wsub, wmul, decide_eq_true_eq, decide_eq_false_iff_not, Nat.succ_eq_add_one, imp_false, not_false_eq_true, not_true_eq_false, false_imp_iff, true_imp_iff] at *)
        have := List.length_pos_iff.2 h1
        omega
      · (subst hL; subst hQ; simp only [L2, L3, std] at *; try simp only [sySet, reduceCtorEq, forall_const, Int.reduceToNat, Int.reduceAdd, Int.reduceSub, Int.cast_ofNat_Int, Int.toNat_natCast, Nat.le_eq, Nat.sub_eq, ne_eq, Decidable.not_not, implies_true, true_and, and_true, wadd, wsub, wmul, decide_eq_true_eq, decide_eq_false_iff_not, Nat.succ_eq_add_one, imp_false, not_false_eq_true, not_true_eq_false, false_imp_iff, true_imp_iff] at *)
        rw [k_is] at h2 h3
        exact nr_bad (nx_2 hx h1 h2 h3 h4)
      · (subst hL; subst hQ; simp only [L2, L3, std] at *; try simp only [sySet, reduceCtorEq, forall_const, Int.reduceToNat, Int.reduceAdd, Int.reduceSub, Int.cast_ofNat_Int, Int.toNat_natCast, Nat.le_eq, Nat.sub_eq, ne_eq, Decidable.not_not, implies_true, true_and, and_true, wadd, wsub, wmul, decide_eq_true_eq, decide_eq_false_iff_not, Nat.succ_eq_add_one, imp_false, not_false_eq_true, not_true_eq_false, false_imp_iff, true_imp_iff] at *)
        rw [(rest_is s).2]
        exact nx_in h1 h4
      · (cbv; try simp only [sat_need, sat_must, sat_ite, sat_done, sat_yes, sat_ex, sat_all, sat_sup, sat_and, sat_fail, true_and, and_true])
        (subst hL; subst hQ; simp only [L2, L3, std] at *; try simp only [sySet, reduceCtorEq, forall_const, Int.reduceToNat, Int.reduceAdd, Int.reduceSub, Int.cast_ofNat_Int, Int.toNat_natCast, Nat.le_eq, Nat.sub_eq, ne_eq, Decidable.not_not, implies_true, true_and, and_true, wadd, wsub, wmul, decide_eq_true_eq, decide_eq_false_iff_not, Nat.succ_eq_add_one, imp_false, not_false_eq_true, not_true_eq_false, false_imp_iff, true_imp_iff] at *)
        simp only [k_is, (rest_is s).1] at h5 ⊢
        obtain ⟨q1, q2⟩ := nx_3 hx h1 h4 h5
        rw [hv1, hs1, hf1]
        exact ⟨rfl, rfl, rfl, rfl, h5, rfl, q1, q2⟩
      · (subst hL; subst hQ; simp only [L2, L3, std] at *; try simp only [sySet, reduceCtorEq, forall_const, Int.reduceToNat, Int.reduceAdd, Int.reduceSub, Int.cast_ofNat_Int, Int.toNat_natCast, Nat.le_eq, Nat.sub_eq, ne_eq, Decidable.not_not, implies_true, true_and, and_true, wadd, wsub, wmul, decide_eq_true_eq, decide_eq_false_iff_not, Nat.succ_eq_add_one, imp_false, not_false_eq_true, not_true_eq_false, false_imp_iff, true_imp_iff] at *)
        simp only [k_is, (rest_is s).1] at h6 h7
        exact nr_bad (nx_4 hx h1 h4 h6 h7)
      · (subst hL; subst hQ; simp only [L2, L3, std] at *; try simp only [sySet, reduceCtorEq, forall_const, Int.reduceToNat, Int.reduceAdd, Int.reduceSub, Int.cast_ofNat_Int, Int.toNat_natCast, Nat.le_eq, Nat.sub_eq, ne_eq, Decidable.not_not, implies_true, true_and, and_true, wadd, wsub, wmul, decide_eq_true_eq, decide_eq_false_iff_not, Nat.succ_eq_add_one, imp_false, not_false_eq_true, not_true_eq_false, false_imp_iff, true_imp_iff] at *)
        simp only [k_is, (rest_is s).1] at h7 ⊢
        exact nx_5 hx h1 h4 h7
      · (subst hL; subst hQ; simp only [L2, L3, std] at *; try simp only [sySet, reduceCtorEq, forall_const, Int.reduceToNat, Int.reduceAdd, Int.reduceSub, Int.cast_ofNat_Int, Int.toNat_natCast, Nat.le_eq, Nat.sub_eq, ne_eq, Decidable.not_not, implies_true, true_and, and_true, wadd, wsub, wmul, decide_eq_true_eq, decide_eq_false_iff_not, Nat.succ_eq_add_one, imp_false, not_false_eq_true, not_true_eq_false, false_imp_iff, true_imp_iff] at *)
        simp only [k_is, (rest_is s).1] at h7 ⊢
        exact nx_5 hx h1 h4 h7
      · (cbv; try simp only [sat_need, sat_must, sat_ite, sat_done, sat_yes, sat_ex, sat_all, sat_sup, sat_and, sat_fail, true_and, and_true])
        (subst hL; subst hQ; simp only [L2, L3, std] at *; try simp only [sySet, reduceCtorEq, forall_const, Int.reduceToNat, Int.reduceAdd, Int.reduceSub, Int.cast_ofNat_Int, Int.toNat_natCast, Nat.le_eq, Nat.sub_eq, ne_eq, Decidable.not_not, implies_true, true_and, and_true, wadd, wsub, wmul, decide_eq_true_eq, decide_eq_false_iff_not, Nat.succ_eq_add_one, imp_false, not_false_eq_true, not_true_eq_false, false_imp_iff, true_imp_iff] at *)
        simp only [k_is, (rest_is s).1] at h6 h7 ⊢
        obtain ⟨q1, q2⟩ := nx_6 hx h1 h4 h6 h7
        rw [hv2, hs2, hf1]
        exact ⟨rfl, rfl, rfl, rfl, h6, rfl, q1, q2⟩
      · (subst hL; subst hQ; simp only [L2, L3, std] at *; try simp only [sySet, reduceCtorEq, forall_const, Int.reduceToNat, Int.reduceAdd, Int.reduceSub, Int.cast_ofNat_Int, Int.toNat_natCast, Nat.le_eq, Nat.sub_eq, ne_eq, Decidable.not_not, implies_true, true_and, and_true, wadd, wsub, wmul, decide_eq_true_eq, decide_eq_false_iff_not, Nat.succ_eq_add_one, imp_false, not_false_eq_true, not_true_eq_false, false_imp_iff, true_imp_iff] at *)
        simp only [k_is] at h7
        exact absurd h8 (by decide)
      · (subst hL; subst hQ; simp only [L2, L3, std] at *; try simp only [sySet, reduceCtorEq, forall_const, Int.reduceToNat, Int.reduceAdd, Int.reduceSub, Int.cast_ofNat_Int, Int.toNat_natCast, Nat.le_eq, Nat.sub_eq, ne_eq, Decidable.not_not, implies_true, true_and, and_true, wadd, wsub, wmul, decide_eq_true_eq, decide_eq_false_iff_not, Nat.succ_eq_add_one, imp_false, not_false_eq_true, not_true_eq_false, false_imp_iff, true_imp_iff] at *)
        omega
      · (cbv; try simp only [sat_need, sat_must, sat_ite, sat_done, sat_yes, sat_ex, sat_all, sat_sup, sat_and, sat_fail, true_and, and_true])
        (subst hL; subst hQ; simp only [L2, L3, std] at *; try simp only [sySet, reduceCtorEq, forall_const, Int.reduceToNat, Int.reduceAdd, Int.reduceSub, Int.cast_ofNat_Int, Int.toNat_natCast, Nat.le_eq, Nat.sub_eq, ne_eq, Decidable.not_not, implies_true, true_and, and_true, wadd, wsub, wmul, decide_eq_true_eq, decide_eq_false_iff_not, Nat.succ_eq_add_one, imp_false, not_false_eq_true, not_true_eq_false, false_imp_iff, true_imp_iff] at *)
        simp only [k_is, (rest_is s).1] at h7 ⊢; obtain ⟨q1, q2, q3, q4⟩ := nx_9 hx h1 h4 h7 (by decide) ha1 hs1 hf1; exact ⟨q1, q2, congrArg _ q3, q4⟩
      · (subst hL; subst hQ; simp only [L2, L3, std] at *; try simp only [sySet, reduceCtorEq, forall_const, Int.reduceToNat, Int.reduceAdd, Int.reduceSub, Int.cast_ofNat_Int, Int.toNat_natCast, Nat.le_eq, Nat.sub_eq, ne_eq, Decidable.not_not, implies_true, true_and, and_true, wadd, wsub, wmul, decide_eq_true_eq, decide_eq_false_iff_not, Nat.succ_eq_add_one, imp_false, not_false_eq_true, not_true_eq_false, false_imp_iff, true_imp_iff] at *)
        simp only [k_is] at h2 h3 h5 h6 h7
        omega
    | [a], hx =>
      (cbv; try simp only [sat_need, sat_must, sat_ite, sat_done, sat_yes, sat_ex, sat_all, sat_sup, sat_and, sat_fail, true_and, and_true])
      obtain ⟨s1, hs1⟩ : ∃ s1, s1 = nxtRest s := ⟨_, rfl⟩
      obtain ⟨s2, hs2⟩ : ∃ s2, s2 = (nxtRest s).drop (lngN (s.drop 1)).toNat := ⟨_, rfl⟩
      obtain ⟨v1, hv1⟩ : ∃ v1, v1 = CV.mk 1 (lngN (s.drop 1)) [] [] := ⟨_, rfl⟩
      obtain ⟨v2, hv2⟩ : ∃ v2, v2 = CV.mk 2 0 ((nxtRest s).take (lngN (s.drop 1)).toNat) [] := ⟨_, rfl⟩
      obtain ⟨a1, ha1⟩ : ∃ a1, a1 = Lv.mk (lngN (s.drop 1)) [] := ⟨_, rfl⟩
      obtain ⟨f1, hf1⟩ : ∃ f1, f1 = f - 1 := ⟨_, rfl⟩
      refine ⟨fun h1 => ?_, fun h1 => ⟨?_, fun h2 => ?_, fun h2 => ⟨fun h3 => ?_, fun h3 => ⟨?_, fun h4 => ?_, fun h4 => ⟨?_, fun h5 => ⟨⟨[a], s1, f1, v1⟩, ?_⟩, fun h5 => ⟨fun h6 => ⟨fun h7 => ?_, fun h7 => ⟨?_, ?_, ⟨[a], s2, f1, v2⟩, ?_⟩⟩, fun h6 => ⟨fun h7 => ⟨fun h8 => ?_, fun h8 => ⟨?_, ⟨[a1, a], s1, f1, v⟩, ?_⟩⟩, fun h7 => ?_⟩⟩⟩⟩⟩⟩⟩
      · (subst hL; subst hQ; simp only [L2, L3, std] at *; try simp only [sySet, reduceCtorEq, forall_const, Int.reduceToNat, Int.reduceAdd, Int.reduceSub, Int.cast_ofNat_Int, Int.toNat_natCast, Nat.le_eq, Nat.sub_eq, ne_eq, Decidable.not_not, implies_true, true_and, and_true, wadd, wsub, wmul, decide_eq_true_eq, decide_eq_false_iff_not, Nat.succ_eq_add_one, imp_false, not_false_eq_true, not_true_eq_false, false_imp_iff, true_imp_iff] at *)
        exact nr_bad (nx_0 hx h1)
      · (subst hL; subst hQ; simp only [L2, L3, std] at *; try simp only [sySet, reduceCtorEq, forall_const, Int.reduceToNat, Int.reduceAdd, Int.reduceSub, Int.cast_ofNat_Int, Int.toNat_natCast, Nat.le_eq, Nat.sub_eq, ne_eq, Decidable.not_not, implies_true, true_and, and_true, wadd, wsub, wmul, decide_eq_true_eq, decide_eq_false_iff_not, Nat.succ_eq_add_one, imp_false, not_false_eq_true, not_true_eq_false, false_imp_iff, true_imp_iff] at *)
        have := List.length_pos_iff.2 h1
        omega
      · (subst hL; subst hQ; simp only [L2, L3, std] at *; try simp only [sySet, reduceCtorEq, forall_const, Int.reduceToNat, Int.reduceAdd, Int.reduceSub, Int.cast_ofNat_Int, Int.toNat_natCast, Nat.le_eq, Nat.sub_eq, ne_eq, Decidable.not_not, implies_true, true_and, and_true, wadd, wsub, wmul, decide_eq_true_eq, decide_eq_false_iff_not, Nat.succ_eq_add_one, imp_false, not_false_eq_true, not_true_eq_false, false_imp_iff, true_imp_iff] at *)
        rw [k_is] at h2
        exact nr_bad (nx_1 hx h1 (.inl h2))
      · (subst hL; subst hQ; simp only [L2, L3, std] at *; try simp only [sySet, reduceCtorEq, forall_const, Int.reduceToNat, Int.reduceAdd, Int.reduceSub, Int.cast_ofNat_Int, Int.toNat_natCast, Nat.le_eq, Nat.sub_eq, ne_eq, Decidable.not_not, implies_true, true_and, and_true, wadd, wsub, wmul, decide_eq_true_eq, decide_eq_false_iff_not, Nat.succ_eq_add_one, imp_false, not_false_eq_true, not_true_eq_false, false_imp_iff, true_imp_iff] at *)
        rw [k_is] at h3
        exact nr_bad (nx_1 hx h1 (.inr h3))
      · (subst hL; subst hQ; simp only [L2, L3, std] at *; try simp only [sySet, reduceCtorEq, forall_const, Int.reduceToNat, Int.reduceAdd, Int.reduceSub, Int.cast_ofNat_Int, Int.toNat_natCast, Nat.le_eq, Nat.sub_eq, ne_eq, Decidable.not_not, implies_true, true_and, and_true, wadd, wsub, wmul, decide_eq_true_eq, decide_eq_false_iff_not, Nat.succ_eq_add_one, imp_false, not_false_eq_true, not_true_eq_false, false_imp_iff, true_imp_iff] at *)
        have := List.length_pos_iff.2 h1
        omega
      · (subst hL; subst hQ; simp only [L2, L3, std] at *; try simp only [sySet, reduceCtorEq, forall_const, Int.reduceToNat, Int.reduceAdd, Int.reduceSub, Int.cast_ofNat_Int, Int.toNat_natCast, Nat.le_eq, Nat.sub_eq, ne_eq, Decidable.not_not, implies_true, true_and, and_true, wadd, wsub, wmul, decide_eq_true_eq, decide_eq_false_iff_not, Nat.succ_eq_add_one, imp_false, not_false_eq_true, not_true_eq_false, false_imp_iff, true_imp_iff] at *)
        rw [k_is] at h2 h3
        exact nr_bad (nx_2 hx h1 h2 h3 h4)
      · (subst hL; subst hQ; simp only [L2, L3, std] at *; try simp only [sySet, reduceCtorEq, forall_const, Int.reduceToNat, Int.reduceAdd, Int.reduceSub, Int.cast_ofNat_Int, Int.toNat_natCast, Nat.le_eq, Nat.sub_eq, ne_eq, Decidable.not_not, implies_true, true_and, and_true, wadd, wsub, wmul, decide_eq_true_eq, decide_eq_false_iff_not, Nat.succ_eq_add_one, imp_false, not_false_eq_true, not_true_eq_false, false_imp_iff, true_imp_iff] at *)
        rw [(rest_is s).2]
        exact nx_in h1 h4
      · (cbv; try simp only [sat_need, sat_must, sat_ite, sat_done, sat_yes, sat_ex, sat_all, sat_sup, sat_and, sat_fail, true_and, and_true])
        (subst hL; subst hQ; simp only [L2, L3, std] at *; try simp only [sySet, reduceCtorEq, forall_const, Int.reduceToNat, Int.reduceAdd, Int.reduceSub, Int.cast_ofNat_Int, Int.toNat_natCast, Nat.le_eq, Nat.sub_eq, ne_eq, Decidable.not_not, implies_true, true_and, and_true, wadd, wsub, wmul, decide_eq_true_eq, decide_eq_false_iff_not, Nat.succ_eq_add_one, imp_false, not_false_eq_true, not_true_eq_false, false_imp_iff, true_imp_iff] at *)
        simp only [k_is, (rest_is s).1] at h5 ⊢
        obtain ⟨q1, q2⟩ := nx_3 hx h1 h4 h5
        rw [hv1, hs1, hf1]
        exact ⟨rfl, rfl, rfl, rfl, h5, rfl, q1, q2⟩
      · (subst hL; subst hQ; simp only [L2, L3, std] at *; try simp only [sySet, reduceCtorEq, forall_const, Int.reduceToNat, Int.reduceAdd, Int.reduceSub, Int.cast_ofNat_Int, Int.toNat_natCast, Nat.le_eq, Nat.sub_eq, ne_eq, Decidable.not_not, implies_true, true_and, and_true, wadd, wsub, wmul, decide_eq_true_eq, decide_eq_false_iff_not, Nat.succ_eq_add_one, imp_false, not_false_eq_true, not_true_eq_false, false_imp_iff, true_imp_iff] at *)
        simp only [k_is, (rest_is s).1] at h6 h7
        exact nr_bad (nx_4 hx h1 h4 h6 h7)
      · (subst hL; subst hQ; simp only [L2, L3, std] at *; try simp only [sySet, reduceCtorEq, forall_const, Int.reduceToNat, Int.reduceAdd, Int.reduceSub, Int.cast_ofNat_Int, Int.toNat_natCast, Nat.le_eq, Nat.sub_eq, ne_eq, Decidable.not_not, implies_true, true_and, and_true, wadd, wsub, wmul, decide_eq_true_eq, decide_eq_false_iff_not, Nat.succ_eq_add_one, imp_false, not_false_eq_true, not_true_eq_false, false_imp_iff, true_imp_iff] at *)
        simp only [k_is, (rest_is s).1] at h7 ⊢
        exact nx_5 hx h1 h4 h7
      · (subst hL; subst hQ; simp only [L2, L3, std] at *; try simp only [sySet, reduceCtorEq, forall_const, Int.reduceToNat, Int.reduceAdd, Int.reduceSub, Int.cast_ofNat_Int, Int.toNat_natCast, Nat.le_eq, Nat.sub_eq, ne_eq, Decidable.not_not, implies_true, true_and, and_true, wadd, wsub, wmul, decide_eq_true_eq, decide_eq_false_iff_not, Nat.succ_eq_add_one, imp_false, not_false_eq_true, not_true_eq_false, false_imp_iff, true_imp_iff] at *)
        simp only [k_is, (rest_is s).1] at h7 ⊢
        exact nx_5 hx h1 h4 h7
      · (cbv; try simp only [sat_need, sat_must, sat_ite, sat_done, sat_yes, sat_ex, sat_all, sat_sup, sat_and, sat_fail, true_and, and_true])
        (subst hL; subst hQ; simp only [L2, L3, std] at *; try simp only [sySet, reduceCtorEq, forall_const, Int.reduceToNat, Int.reduceAdd, Int.reduceSub, Int.cast_ofNat_Int, Int.toNat_natCast, Nat.le_eq, Nat.sub_eq, ne_eq, Decidable.not_not, implies_true, true_and, and_true, wadd, wsub, wmul, decide_eq_true_eq, decide_eq_false_iff_not, Nat.succ_eq_add_one, imp_false, not_false_eq_true, not_true_eq_false, false_imp_iff, true_imp_iff] at *)
        simp only [k_is, (rest_is s).1] at h6 h7 ⊢
        obtain ⟨q1, q2⟩ := nx_6 hx h1 h4 h6 h7
        rw [hv2, hs2, hf1]
        exact ⟨rfl, rfl, rfl, rfl, h6, rfl, q1, q2⟩
      · (subst hL; subst hQ; simp only [L2, L3, std] at *; try simp only [sySet, reduceCtorEq, forall_const, Int.reduceToNat, Int.reduceAdd, Int.reduceSub, Int.cast_ofNat_Int, Int.toNat_natCast, Nat.le_eq, Nat.sub_eq, ne_eq, Decidable.not_not, implies_true, true_and, and_true, wadd, wsub, wmul, decide_eq_true_eq, decide_eq_false_iff_not, Nat.succ_eq_add_one, imp_false, not_false_eq_true, not_true_eq_false, false_imp_iff, true_imp_iff] at *)
        simp only [k_is] at h7
        exact absurd h8 (by decide)
      · (subst hL; subst hQ; simp only [L2, L3, std] at *; try simp only [sySet, reduceCtorEq, forall_const, Int.reduceToNat, Int.reduceAdd, Int.reduceSub, Int.cast_ofNat_Int, Int.toNat_natCast, Nat.le_eq, Nat.sub_eq, ne_eq, Decidable.not_not, implies_true, true_and, and_true, wadd, wsub, wmul, decide_eq_true_eq, decide_eq_false_iff_not, Nat.succ_eq_add_one, imp_false, not_false_eq_true, not_true_eq_false, false_imp_iff, true_imp_iff] at *)
        omega
      · (cbv; try simp only [sat_need, sat_must, sat_ite, sat_done, sat_yes, sat_ex, sat_all, sat_sup, sat_and, sat_fail, true_and, and_true])
        (subst hL; subst hQ; simp only [L2, L3, std] at *; try simp only [sySet, reduceCtorEq, forall_const, Int.reduceToNat, Int.reduceAdd, Int.reduceSub, Int.cast_ofNat_Int, Int.toNat_natCast, Nat.le_eq, Nat.sub_eq, ne_eq, Decidable.not_not, implies_true, true_and, and_true, wadd, wsub, wmul, decide_eq_true_eq, decide_eq_false_iff_not, Nat.succ_eq_add_one, imp_false, not_false_eq_true, not_true_eq_false, false_imp_iff, true_imp_iff] at *)
        simp only [k_is, (rest_is s).1] at h7 ⊢; exact nx_9 hx h1 h4 h7 (by simp) ha1 hs1 hf1
      · (subst hL; subst hQ; simp only [L2, L3, std] at *; try simp only [sySet, reduceCtorEq, forall_const, Int.reduceToNat, Int.reduceAdd, Int.reduceSub, Int.cast_ofNat_Int, Int.toNat_natCast, Nat.le_eq, Nat.sub_eq, ne_eq, Decidable.not_not, implies_true, true_and, and_true, wadd, wsub, wmul, decide_eq_true_eq, decide_eq_false_iff_not, Nat.succ_eq_add_one, imp_false, not_false_eq_true, not_true_eq_false, false_imp_iff, true_imp_iff] at *)
        simp only [k_is] at h2 h3 h5 h6 h7
        omega
    | [a, b], hx =>
      (cbv; try simp only [sat_need, sat_must, sat_ite, sat_done, sat_yes, sat_ex, sat_all, sat_sup, sat_and, sat_fail, true_and, and_true])
      obtain ⟨s1, hs1⟩ : ∃ s1, s1 = nxtRest s := ⟨_, rfl⟩
      obtain ⟨s2, hs2⟩ : ∃ s2, s2 = (nxtRest s).drop (lngN (s.drop 1)).toNat := ⟨_, rfl⟩
      obtain ⟨v1, hv1⟩ : ∃ v1, v1 = CV.mk 1 (lngN (s.drop 1)) [] [] := ⟨_, rfl⟩
      obtain ⟨v2, hv2⟩ : ∃ v2, v2 = CV.mk 2 0 ((nxtRest s).take (lngN (s.drop 1)).toNat) [] := ⟨_, rfl⟩
      obtain ⟨a1, ha1⟩ : ∃ a1, a1 = Lv.mk (lngN (s.drop 1)) [] := ⟨_, rfl⟩
      obtain ⟨f1, hf1⟩ : ∃ f1, f1 = f - 1 := ⟨_, rfl⟩
      refine ⟨fun h1 => ?_, fun h1 => ⟨?_, fun h2 => ?_, fun h2 => ⟨fun h3 => ?_, fun h3 => ⟨?_, fun h4 => ?_, fun h4 => ⟨?_, fun h5 => ⟨⟨[a, b], s1, f1, v1⟩, ?_⟩, fun h5 => ⟨fun h6 => ⟨fun h7 => ?_, fun h7 => ⟨?_, ?_, ⟨[a, b], s2, f1, v2⟩, ?_⟩⟩, fun h6 => ⟨fun h7 => ⟨fun h8 => ?_, fun h8 => ⟨?_, ⟨[a1, a, b], s1, f1, v⟩, ?_⟩⟩, fun h7 => ?_⟩⟩⟩⟩⟩⟩⟩
      · (subst hL; subst hQ; simp only [L2, L3, std] at *; try simp only [sySet, reduceCtorEq, forall_const, Int.reduceToNat, Int.reduceAdd, Int.reduceSub, Int.cast_ofNat_Int, Int.toNat_natCast, Nat.le_eq, Nat.sub_eq, ne_eq, Decidable.not_not, implies_true, true_and, and_true, wadd, wsub, wmul, decide_eq_true_eq, decide_eq_false_iff_not, Nat.succ_eq_add_one, imp_false, not_false_eq_true, not_true_eq_false, false_imp_iff, true_imp_iff] at *)
        exact nr_bad (nx_0 hx h1)
      · (subst hL; subst hQ; simp only [L2, L3, std] at *; try simp only [sySet, reduceCtorEq, forall_const, Int.reduceToNat, Int.reduceAdd, Int.reduceSub, Int.cast_ofNat_Int, Int.toNat_natCast, Nat.le_eq, Nat.sub_eq, ne_eq, Decidable.not_not, implies_true, true_and, and_true, wadd, wsub, wmul, decide_eq_true_eq, decide_eq_false_iff_not, Nat.succ_eq_add_one, imp_false, not_false_eq_true, not_true_eq_false, false_imp_iff, true_imp_iff] at *)
        have := List.length_pos_iff.2 h1
        omega
      · (subst hL; subst hQ; simp only [L2, L3, std] at *; try simp only [sySet, reduceCtorEq, forall_const, Int.reduceToNat, Int.reduceAdd, Int.reduceSub, Int.cast_ofNat_Int, Int.toNat_natCast, Nat.le_eq, Nat.sub_eq, ne_eq, Decidable.not_not, implies_true, true_and, and_true, wadd, wsub, wmul, decide_eq_true_eq, decide_eq_false_iff_not, Nat.succ_eq_add_one, imp_false, not_false_eq_true, not_true_eq_false, false_imp_iff, true_imp_iff] at *)
        rw [k_is] at h2
        exact nr_bad (nx_1 hx h1 (.inl h2))
      · (subst hL; subst hQ; simp only [L2, L3, std] at *; try simp only [sySet, reduceCtorEq, forall_const, Int.reduceToNat, Int.reduceAdd, Int.reduceSub, Int.cast_ofNat_Int, Int.toNat_natCast, Nat.le_eq, Nat.sub_eq, ne_eq, Decidable.not_not, implies_true, true_and, and_true, wadd, wsub, wmul, decide_eq_true_eq, decide_eq_false_iff_not, Nat.succ_eq_add_one, imp_false, not_false_eq_true, not_true_eq_false, false_imp_iff, true_imp_iff] at *)
        rw [k_is] at h3
        exact nr_bad (nx_1 hx h1 (.inr h3))
      · (subst hL; subst hQ; simp only [L2, L3, std] at *; try simp only [sySet, reduceCtorEq, forall_const, Int.reduceToNat, Int.reduceAdd, Int.reduceSub, Int.cast_ofNat_Int, Int.toNat_natCast, Nat.le_eq, Nat.sub_eq, ne_eq, Decidable.not_not, implies_true, true_and, and_true, wadd, wsub, wmul, decide_eq_true_eq, decide_eq_false_iff_not, Nat.succ_eq_add_one, imp_false, not_false_eq_true, not_true_eq_false, false_imp_iff, true_imp_iff] at *)
        have := List.length_pos_iff.2 h1
        omega
      · (subst hL; subst hQ; simp only [L2, L3, std] at *; try simp only [sySet, reduceCtorEq, forall_const, Int.reduceToNat, Int.reduceAdd, Int.reduceSub, Int.cast_ofNat_Int, Int.toNat_natCast, Nat.le_eq, Nat.sub_eq, ne_eq, Decidable.not_not, implies_true, true_and, and_true, wadd, wsub, wmul, decide_eq_true_eq, decide_eq_false_iff_not, Nat.succ_eq_add_one, imp_false, not_false_eq_true, not_true_eq_false, false_imp_iff, true_imp_iff] at *)
        rw [k_is] at h2 h3
        exact nr_bad (nx_2 hx h1 h2 h3 h4)
      · (subst hL; subst hQ; simp only [L2, L3, std] at *; try simp only [sySet, reduceCtorEq, forall_const, Int.reduceToNat, Int.reduceAdd, Int.reduceSub, Int.cast_ofNat_Int, Int.toNat_natCast, Nat.le_eq, Nat.sub_eq, ne_eq, Decidable.not_not, implies_true, true_and, and_true, wadd, wsub, wmul, decide_eq_true_eq, decide_eq_false_iff_not, Nat.succ_eq_add_one, imp_false, not_false_eq_true, not_true_eq_false, false_imp_iff, true_imp_iff] at *)
        rw [(rest_is s).2]
        exact nx_in h1 h4
      · (cbv; try simp only [sat_need, sat_must, sat_ite, sat_done, sat_yes, sat_ex, sat_all, sat_sup, sat_and, sat_fail, true_and, and_true])
        (subst hL; subst hQ; simp only [L2, L3, std] at *; try simp only [sySet, reduceCtorEq, forall_const, Int.reduceToNat, Int.reduceAdd, Int.reduceSub, Int.cast_ofNat_Int, Int.toNat_natCast, Nat.le_eq, Nat.sub_eq, ne_eq, Decidable.not_not, implies_true, true_and, and_true, wadd, wsub, wmul, decide_eq_true_eq, decide_eq_false_iff_not, Nat.succ_eq_add_one, imp_false, not_false_eq_true, not_true_eq_false, false_imp_iff, true_imp_iff] at *)
        simp only [k_is, (rest_is s).1] at h5 ⊢
        obtain ⟨q1, q2⟩ := nx_3 hx h1 h4 h5
        rw [hv1, hs1, hf1]
        exact ⟨rfl, rfl, rfl, rfl, h5, rfl, q1, q2⟩
      · (subst hL; subst hQ; simp only [L2, L3, std] at *; try simp only [sySet, reduceCtorEq, forall_const, Int.reduceToNat, Int.reduceAdd, Int.reduceSub, Int.cast_ofNat_Int, Int.toNat_natCast, Nat.le_eq, Nat.sub_eq, ne_eq, Decidable.not_not, implies_true, true_and, and_true, wadd, wsub, wmul, decide_eq_true_eq, decide_eq_false_iff_not, Nat.succ_eq_add_one, imp_false, not_false_eq_true, not_true_eq_false, false_imp_iff, true_imp_iff] at *)
        simp only [k_is, (rest_is s).1] at h6 h7
        exact nr_bad (nx_4 hx h1 h4 h6 h7)
      · (subst hL; subst hQ; simp only [L2, L3, std] at *; try simp only [sySet, reduceCtorEq, forall_const, Int.reduceToNat, Int.reduceAdd, Int.reduceSub, Int.cast_ofNat_Int, Int.toNat_natCast, Nat.le_eq, Nat.sub_eq, ne_eq, Decidable.not_not, implies_true, true_and, and_true, wadd, wsub, wmul, decide_eq_true_eq, decide_eq_false_iff_not, Nat.succ_eq_add_one, imp_false, not_false_eq_true, not_true_eq_false, false_imp_iff, true_imp_iff] at *)
        simp only [k_is, (rest_is s).1] at h7 ⊢
        exact nx_5 hx h1 h4 h7
      · (subst hL; subst hQ; simp only [L2, L3, std] at *; try simp only [sySet, reduceCtorEq, forall_const, Int.reduceToNat, Int.reduceAdd, Int.reduceSub, Int.cast_ofNat_Int, Int.toNat_natCast, Nat.le_eq, Nat.sub_eq, ne_eq, Decidable.not_not, implies_true, true_and, and_true, wadd, wsub, wmul, decide_eq_true_eq, decide_eq_false_iff_not, Nat.succ_eq_add_one, imp_false, not_false_eq_true, not_true_eq_false, false_imp_iff, true_imp_iff] at *)
        simp only [k_is, (rest_is s).1] at h7 ⊢
        exact nx_5 hx h1 h4 h7
      · (cbv; try simp only [sat_need, sat_must, sat_ite, sat_done, sat_yes, sat_ex, sat_all, sat_sup, sat_and, sat_fail, true_and, and_true])
        (subst hL; subst hQ; simp only [L2, L3, std] at *; try simp only [sySet, reduceCtorEq, forall_const, Int.reduceToNat, Int.reduceAdd, Int.reduceSub, Int.cast_ofNat_Int, Int.toNat_natCast, Nat.le_eq, Nat.sub_eq, ne_eq, Decidable.not_not, implies_true, true_and, and_true, wadd, wsub, wmul, decide_eq_true_eq, decide_eq_false_iff_not, Nat.succ_eq_add_one, imp_false, not_false_eq_true, not_true_eq_false, false_imp_iff, true_imp_iff] at *)
        simp only [k_is, (rest_is s).1] at h6 h7 ⊢
        obtain ⟨q1, q2⟩ := nx_6 hx h1 h4 h6 h7
        rw [hv2, hs2, hf1]
        exact ⟨rfl, rfl, rfl, rfl, h6, rfl, q1, q2⟩
      · (subst hL; subst hQ; simp only [L2, L3, std] at *; try simp only [sySet, reduceCtorEq, forall_const, Int.reduceToNat, Int.reduceAdd, Int.reduceSub, Int.cast_ofNat_Int, Int.toNat_natCast, Nat.le_eq, Nat.sub_eq, ne_eq, Decidable.not_not, implies_true, true_and, and_true, wadd, wsub, wmul, decide_eq_true_eq, decide_eq_false_iff_not, Nat.succ_eq_add_one, imp_false, not_false_eq_true, not_true_eq_false, false_imp_iff, true_imp_iff] at *)
        simp only [k_is] at h7
        exact absurd h8 (by decide)
      · (subst hL; subst hQ; simp only [L2, L3, std] at *; try simp only [sySet, reduceCtorEq, forall_const, Int.reduceToNat, Int.reduceAdd, Int.reduceSub, Int.cast_ofNat_Int, Int.toNat_natCast, Nat.le_eq, Nat.sub_eq, ne_eq, Decidable.not_not, implies_true, true_and, and_true, wadd, wsub, wmul, decide_eq_true_eq, decide_eq_false_iff_not, Nat.succ_eq_add_one, imp_false, not_false_eq_true, not_true_eq_false, false_imp_iff, true_imp_iff] at *)
        omega
      · (cbv; try simp only [sat_need, sat_must, sat_ite, sat_done, sat_yes, sat_ex, sat_all, sat_sup, sat_and, sat_fail, true_and, and_true])
        (subst hL; subst hQ; simp only [L2, L3, std] at *; try simp only [sySet, reduceCtorEq, forall_const, Int.reduceToNat, Int.reduceAdd, Int.reduceSub, Int.cast_ofNat_Int, Int.toNat_natCast, Nat.le_eq, Nat.sub_eq, ne_eq, Decidable.not_not, implies_true, true_and, and_true, wadd, wsub, wmul, decide_eq_true_eq, decide_eq_false_iff_not, Nat.succ_eq_add_one, imp_false, not_false_eq_true, not_true_eq_false, false_imp_iff, true_imp_iff] at *)
        simp only [k_is, (rest_is s).1] at h7 ⊢; exact nx_9 hx h1 h4 h7 (by simp) ha1 hs1 hf1
      · (subst hL; subst hQ; simp only [L2, L3, std] at *; try simp only [sySet, reduceCtorEq, forall_const, Int.reduceToNat, Int.reduceAdd, Int.reduceSub, Int.cast_ofNat_Int, Int.toNat_natCast, Nat.le_eq, Nat.sub_eq, ne_eq, Decidable.not_not, implies_true, true_and, and_true, wadd, wsub, wmul, decide_eq_true_eq, decide_eq_false_iff_not, Nat.succ_eq_add_one, imp_false, not_false_eq_true, not_true_eq_false, false_imp_iff, true_imp_iff] at *)
        simp only [k_is] at h2 h3 h5 h6 h7
        omega
    | [a, b, c], hx =>
      (cbv; try simp only [sat_need, sat_must, sat_ite, sat_done, sat_yes, sat_ex, sat_all, sat_sup, sat_and, sat_fail, true_and, and_true])
      obtain ⟨s1, hs1⟩ : ∃ s1, s1 = nxtRest s := ⟨_, rfl⟩
      obtain ⟨s2, hs2⟩ : ∃ s2, s2 = (nxtRest s).drop (lngN (s.drop 1)).toNat := ⟨_, rfl⟩
      obtain ⟨v1, hv1⟩ : ∃ v1, v1 = CV.mk 1 (lngN (s.drop 1)) [] [] := ⟨_, rfl⟩
      obtain ⟨v2, hv2⟩ : ∃ v2, v2 = CV.mk 2 0 ((nxtRest s).take (lngN (s.drop 1)).toNat) [] := ⟨_, rfl⟩
      obtain ⟨a1, ha1⟩ : ∃ a1, a1 = Lv.mk (lngN (s.drop 1)) [] := ⟨_, rfl⟩
      obtain ⟨f1, hf1⟩ : ∃ f1, f1 = f - 1 := ⟨_, rfl⟩
      refine ⟨fun h1 => ?_, fun h1 => ⟨?_, fun h2 => ?_, fun h2 => ⟨fun h3 => ?_, fun h3 => ⟨?_, fun h4 => ?_, fun h4 => ⟨?_, fun h5 => ⟨⟨[a, b, c], s1, f1, v1⟩, ?_⟩, fun h5 => ⟨fun h6 => ⟨fun h7 => ?_, fun h7 => ⟨?_, ?_, ⟨[a, b, c], s2, f1, v2⟩, ?_⟩⟩, fun h6 => ⟨fun h7 => ⟨fun h8 => ?_, fun h8 => ⟨?_, ⟨[a1, a, b, c], s1, f1, v⟩, ?_⟩⟩, fun h7 => ?_⟩⟩⟩⟩⟩⟩⟩
      · (subst hL; subst hQ; simp only [L2, L3, std] at *; try simp only [sySet, reduceCtorEq, forall_const, Int.reduceToNat, Int.reduceAdd, Int.reduceSub, Int.cast_ofNat_Int, Int.toNat_natCast, Nat.le_eq, Nat.sub_eq, ne_eq, Decidable.not_not, implies_true, true_and, and_true, wadd, wsub, wmul, decide_eq_true_eq, decide_eq_false_iff_not, Nat.succ_eq_add_one, imp_false, not_false_eq_true, not_true_eq_false, false_imp_iff, true_imp_iff] at *)
        exact nr_bad (nx_0 hx h1)
      · (subst hL; subst hQ; simp only [L2, L3, std] at *; try simp only [sySet, reduceCtorEq, forall_const, Int.reduceToNat, Int.reduceAdd, Int.reduceSub, Int.cast_ofNat_Int, Int.toNat_natCast, Nat.le_eq, Nat.sub_eq, ne_eq, Decidable.not_not, implies_true, true_and, and_true, wadd, wsub, wmul, decide_eq_true_eq, decide_eq_false_iff_not, Nat.succ_eq_add_one, imp_false, not_false_eq_true, not_true_eq_false, false_imp_iff, true_imp_iff] at *)
        have := List.length_pos_iff.2 h1
        omega
      · (subst hL; subst hQ; simp only [L2, L3, std] at *; try simp only [sySet, reduceCtorEq, forall_const, Int.reduceToNat, Int.reduceAdd, Int.reduceSub, Int.cast_ofNat_Int, Int.toNat_natCast, Nat.le_eq, Nat.sub_eq, ne_eq, Decidable.not_not, implies_true, true_and, and_true, wadd, wsub, wmul, decide_eq_true_eq, decide_eq_false_iff_not, Nat.succ_eq_add_one, imp_false, not_false_eq_true, not_true_eq_false, false_imp_iff, true_imp_iff] at *)
        rw [k_is] at h2
        exact nr_bad (nx_1 hx h1 (.inl h2))
      · (subst hL; subst hQ; simp only [L2, L3, std] at *; try simp only [sySet, reduceCtorEq, forall_const, Int.reduceToNat, Int.reduceAdd, Int.reduceSub, Int.cast_ofNat_Int, Int.toNat_natCast, Nat.le_eq, Nat.sub_eq, ne_eq, Decidable.not_not, implies_true, true_and, and_true, wadd, wsub, wmul, decide_eq_true_eq, decide_eq_false_iff_not, Nat.succ_eq_add_one, imp_false, not_false_eq_true, not_true_eq_false, false_imp_iff, true_imp_iff] at *)
        rw [k_is] at h3
        exact nr_bad (nx_1 hx h1 (.inr h3))
      · (subst hL; subst hQ; simp only [L2, L3, std] at *; try simp only [sySet, reduceCtorEq, forall_const, Int.reduceToNat, Int.reduceAdd, Int.reduceSub, Int.cast_ofNat_Int, Int.toNat_natCast, Nat.le_eq, Nat.sub_eq, ne_eq, Decidable.not_not, implies_true, true_and, and_true, wadd, wsub, wmul, decide_eq_true_eq, decide_eq_false_iff_not, Nat.succ_eq_add_one, imp_false, not_false_eq_true, not_true_eq_false, false_imp_iff, true_imp_iff] at *)
        have := List.length_pos_iff.2 h1
        omega
      · (subst hL; subst hQ; simp only [L2, L3, std] at *; try simp only [sySet, reduceCtorEq, forall_const, Int.reduceToNat, Int.reduceAdd, Int.reduceSub, Int.cast_ofNat_Int, Int.toNat_natCast, Nat.le_eq, Nat.sub_eq, ne_eq, Decidable.not_not, implies_true, true_and, and_true, wadd, wsub, wmul, decide_eq_true_eq, decide_eq_false_iff_not, Nat.succ_eq_add_one, imp_false, not_false_eq_true, not_true_eq_false, false_imp_iff, true_imp_iff] at *)
        rw [k_is] at h2 h3
        exact nr_bad (nx_2 hx h1 h2 h3 h4)
      · (subst hL; subst hQ; simp only [L2, L3, std] at *; try simp only [sySet, reduceCtorEq, forall_const, Int.reduceToNat, Int.reduceAdd, Int.reduceSub, Int.cast_ofNat_Int, Int.toNat_natCast, Nat.le_eq, Nat.sub_eq, ne_eq, Decidable.not_not, implies_true, true_and, and_true, wadd, wsub, wmul, decide_eq_true_eq, decide_eq_false_iff_not, Nat.succ_eq_add_one, imp_false, not_false_eq_true, not_true_eq_false, false_imp_iff, true_imp_iff] at *)
        rw [(rest_is s).2]
        exact nx_in h1 h4
      · (cbv; try simp only [sat_need, sat_must, sat_ite, sat_done, sat_yes, sat_ex, sat_all, sat_sup, sat_and, sat_fail, true_and, and_true])
        (subst hL; subst hQ; simp only [L2, L3, std] at *; try simp only [sySet, reduceCtorEq, forall_const, Int.reduceToNat, Int.reduceAdd, Int.reduceSub, Int.cast_ofNat_Int, Int.toNat_natCast, Nat.le_eq, Nat.sub_eq, ne_eq, Decidable.not_not, implies_true, true_and, and_true, wadd, wsub, wmul, decide_eq_true_eq, decide_eq_false_iff_not, Nat.succ_eq_add_one, imp_false, not_false_eq_true, not_true_eq_false, false_imp_iff, true_imp_iff] at *)
        simp only [k_is, (rest_is s).1] at h5 ⊢
        obtain ⟨q1, q2⟩ := nx_3 hx h1 h4 h5
        rw [hv1, hs1, hf1]
        exact ⟨rfl, rfl, rfl, rfl, h5, rfl, q1, q2⟩
      · (subst hL; subst hQ; simp only [L2, L3, std] at *; try simp only [sySet, reduceCtorEq, forall_const, Int.reduceToNat, Int.reduceAdd, Int.reduceSub, Int.cast_ofNat_Int, Int.toNat_natCast, Nat.le_eq, Nat.sub_eq, ne_eq, Decidable.not_not, implies_true, true_and, and_true, wadd, wsub, wmul, decide_eq_true_eq, decide_eq_false_iff_not, Nat.succ_eq_add_one, imp_false, not_false_eq_true, not_true_eq_false, false_imp_iff, true_imp_iff] at *)
        simp only [k_is, (rest_is s).1] at h6 h7
        exact nr_bad (nx_4 hx h1 h4 h6 h7)
      · (subst hL; subst hQ; simp only [L2, L3, std] at *; try simp only [sySet, reduceCtorEq, forall_const, Int.reduceToNat, Int.reduceAdd, Int.reduceSub, Int.cast_ofNat_Int, Int.toNat_natCast, Nat.le_eq, Nat.sub_eq, ne_eq, Decidable.not_not, implies_true, true_and, and_true, wadd, wsub, wmul, decide_eq_true_eq, decide_eq_false_iff_not, Nat.succ_eq_add_one, imp_false, not_false_eq_true, not_true_eq_false, false_imp_iff, true_imp_iff] at *)
        simp only [k_is, (rest_is s).1] at h7 ⊢
        exact nx_5 hx h1 h4 h7
      · (subst hL; subst hQ; simp only [L2, L3, std] at *; try simp only [sySet, reduceCtorEq, forall_const, Int.reduceToNat, Int.reduceAdd, Int.reduceSub, Int.cast_ofNat_Int, Int.toNat_natCast, Nat.le_eq, Nat.sub_eq, ne_eq, Decidable.not_not, implies_true, true_and, and_true, wadd, wsub, wmul, decide_eq_true_eq, decide_eq_false_iff_not, Nat.succ_eq_add_one, imp_false, not_false_eq_true, not_true_eq_false, false_imp_iff, true_imp_iff] at *)
        simp only [k_is, (rest_is s).1] at h7 ⊢
        exact nx_5 hx h1 h4 h7
      · (cbv; try simp only [sat_need, sat_must, sat_ite, sat_done, sat_yes, sat_ex, sat_all, sat_sup, sat_and, sat_fail, true_and, and_true])
        (subst hL; subst hQ; simp only [L2, L3, std] at *; try simp only [sySet, reduceCtorEq, forall_const, Int.reduceToNat, Int.reduceAdd, Int.reduceSub, Int.cast_ofNat_Int, Int.toNat_natCast, Nat.le_eq, Nat.sub_eq, ne_eq, Decidable.not_not, implies_true, true_and, and_true, wadd, wsub, wmul, decide_eq_true_eq, decide_eq_false_iff_not, Nat.succ_eq_add_one, imp_false, not_false_eq_true, not_true_eq_false, false_imp_iff, true_imp_iff] at *)
        simp only [k_is, (rest_is s).1] at h6 h7 ⊢
        obtain ⟨q1, q2⟩ := nx_6 hx h1 h4 h6 h7
        rw [hv2, hs2, hf1]
        exact ⟨rfl, rfl, rfl, rfl, h6, rfl, q1, q2⟩
      · (subst hL; subst hQ; simp only [L2, L3, std] at *; try simp only [sySet, reduceCtorEq, forall_const, Int.reduceToNat, Int.reduceAdd, Int.reduceSub, Int.cast_ofNat_Int, Int.toNat_natCast, Nat.le_eq, Nat.sub_eq, ne_eq, Decidable.not_not, implies_true, true_and, and_true, wadd, wsub, wmul, decide_eq_true_eq, decide_eq_false_iff_not, Nat.succ_eq_add_one, imp_false, not_false_eq_true, not_true_eq_false, false_imp_iff, true_imp_iff] at *)
        simp only [k_is] at h7
        exact absurd h8 (by decide)
      · (subst hL; subst hQ; simp only [L2, L3, std] at *; try simp only [sySet, reduceCtorEq, forall_const, Int.reduceToNat, Int.reduceAdd, Int.reduceSub, Int.cast_ofNat_Int, Int.toNat_natCast, Nat.le_eq, Nat.sub_eq, ne_eq, Decidable.not_not, implies_true, true_and, and_true, wadd, wsub, wmul, decide_eq_true_eq, decide_eq_false_iff_not, Nat.succ_eq_add_one, imp_false, not_false_eq_true, not_true_eq_false, false_imp_iff, true_imp_iff] at *)
        omega
      · (cbv; try simp only [sat_need, sat_must, sat_ite, sat_done, sat_yes, sat_ex, sat_all, sat_sup, sat_and, sat_fail, true_and, and_true])
        (subst hL; subst hQ; simp only [L2, L3, std] at *; try simp only [sySet, reduceCtorEq, forall_const, Int.reduceToNat, Int.reduceAdd, Int.reduceSub, Int.cast_ofNat_Int, Int.toNat_natCast, Nat.le_eq, Nat.sub_eq, ne_eq, Decidable.not_not, implies_true, true_and, and_true, wadd, wsub, wmul, decide_eq_true_eq, decide_eq_false_iff_not, Nat.succ_eq_add_one, imp_false, not_false_eq_true, not_true_eq_false, false_imp_iff, true_imp_iff] at *)
        simp only [k_is, (rest_is s).1] at h7 ⊢; exact nx_9 hx h1 h4 h7 (by simp) ha1 hs1 hf1
      · (subst hL; subst hQ; simp only [L2, L3, std] at *; try simp only [sySet, reduceCtorEq, forall_const, Int.reduceToNat, Int.reduceAdd, Int.reduceSub, Int.cast_ofNat_Int, Int.toNat_natCast, Nat.le_eq, Nat.sub_eq, ne_eq, Decidable.not_not, implies_true, true_and, and_true, wadd, wsub, wmul, decide_eq_true_eq, decide_eq_false_iff_not, Nat.succ_eq_add_one, imp_false, not_false_eq_true, not_true_eq_false, false_imp_iff, true_imp_iff] at *)
        simp only [k_is] at h2 h3 h5 h6 h7
        omega
    | [a, b, c, d], hx =>
      (cbv; try simp only [sat_need, sat_must, sat_ite, sat_done, sat_yes, sat_ex, sat_all, sat_sup, sat_and, sat_fail, true_and, and_true])
      obtain ⟨s1, hs1⟩ : ∃ s1, s1 = nxtRest s := ⟨_, rfl⟩
      obtain ⟨s2, hs2⟩ : ∃ s2, s2 = (nxtRest s).drop (lngN (s.drop 1)).toNat := ⟨_, rfl⟩
      obtain ⟨v1, hv1⟩ : ∃ v1, v1 = CV.mk 1 (lngN (s.drop 1)) [] [] := ⟨_, rfl⟩
      obtain ⟨v2, hv2⟩ : ∃ v2, v2 = CV.mk 2 0 ((nxtRest s).take (lngN (s.drop 1)).toNat) [] := ⟨_, rfl⟩
      obtain ⟨a1, ha1⟩ : ∃ a1, a1 = Lv.mk (lngN (s.drop 1)) [] := ⟨_, rfl⟩
      obtain ⟨f1, hf1⟩ : ∃ f1, f1 = f - 1 := ⟨_, rfl⟩
      refine ⟨fun h1 => ?_, fun h1 => ⟨?_, fun h2 => ?_, fun h2 => ⟨fun h3 => ?_, fun h3 => ⟨?_, fun h4 => ?_, fun h4 => ⟨?_, fun h5 => ⟨⟨[a, b, c, d], s1, f1, v1⟩, ?_⟩, fun h5 => ⟨fun h6 => ⟨fun h7 => ?_, fun h7 => ⟨?_, ?_, ⟨[a, b, c, d], s2, f1, v2⟩, ?_⟩⟩, fun h6 => ⟨fun h7 => ⟨fun h8 => ?_, fun h8 => ⟨?_, ⟨[a1, a, b, c, d], s1, f1, v⟩, ?_⟩⟩, fun h7 => ?_⟩⟩⟩⟩⟩⟩⟩
      · (subst hL; subst hQ; simp only [L2, L3, std] at *; try simp only [sySet, reduceCtorEq, forall_const, Int.reduceToNat, Int.reduceAdd, Int.reduceSub, Int.cast_ofNat_Int, Int.toNat_natCast, Nat.le_eq, Nat.sub_eq, ne_eq, Decidable.not_not, implies_true, true_and, and_true, wadd, wsub, wmul, decide_eq_true_eq, decide_eq_false_iff_not, Nat.succ_eq_add_one, imp_false, not_false_eq_true, not_true_eq_false, false_imp_iff, true_imp_iff] at *)
        exact nr_bad (nx_0 hx h1)
      · (subst hL; subst hQ; simp only [L2, L3, std] at *; try simp only [sySet, reduceCtorEq, forall_const, Int.reduceToNat, Int.reduceAdd, Int.reduceSub, Int.cast_ofNat_Int, Int.toNat_natCast, Nat.le_eq, Nat.sub_eq, ne_eq, Decidable.not_not, implies_true, true_and, and_true, wadd, wsub, wmul, decide_eq_true_eq, decide_eq_false_iff_not, Nat.succ_eq_add_one, imp_false, not_false_eq_true, not_true_eq_false, false_imp_iff, true_imp_iff] at *)
        have := List.length_pos_iff.2 h1
        omega
      · (subst hL; subst hQ; simp only [L2, L3, std] at *; try simp only [sySet, reduceCtorEq, forall_const, Int.reduceToNat, Int.reduceAdd, Int.reduceSub, Int.cast_ofNat_Int, Int.toNat_natCast, Nat.le_eq, Nat.sub_eq, ne_eq, Decidable.not_not, implies_true, true_and, and_true, wadd, wsub, wmul, decide_eq_true_eq, decide_eq_false_iff_not, Nat.succ_eq_add_one, imp_false, not_false_eq_true, not_true_eq_false, false_imp_iff, true_imp_iff] at *)
        rw [k_is] at h2
        exact nr_bad (nx_1 hx h1 (.inl h2))
      · (subst hL; subst hQ; simp only [L2, L3, std] at *; try simp only [sySet, reduceCtorEq, forall_const, Int.reduceToNat, Int.reduceAdd, Int.reduceSub, Int.cast_ofNat_Int, Int.toNat_natCast, Nat.le_eq, Nat.sub_eq, ne_eq, Decidable.not_not, implies_true, true_and, and_true, wadd, wsub, wmul, decide_eq_true_eq, decide_eq_false_iff_not, Nat.succ_eq_add_one, imp_false, not_false_eq_true, not_true_eq_false, false_imp_iff, true_imp_iff] at *)
        rw [k_is] at h3
        exact nr_bad (nx_1 hx h1 (.inr h3))
      · (subst hL; subst hQ; simp only [L2, L3, std] at *; try simp only [sySet, reduceCtorEq, forall_const, Int.reduceToNat, Int.reduceAdd, Int.reduceSub, Int.cast_ofNat_Int, Int.toNat_natCast, Nat.le_eq, Nat.sub_eq, ne_eq, Decidable.not_not, implies_true, true_and, and_true, wadd, wsub, wmul, decide_eq_true_eq, decide_eq_false_iff_not, Nat.succ_eq_add_one, imp_false, not_false_eq_true, not_true_eq_false, false_imp_iff, true_imp_iff] at *)
        have := List.length_pos_iff.2 h1
        omega
      · (subst hL; subst hQ; simp only [L2, L3, std] at *; try simp only [sySet, reduceCtorEq, forall_const, Int.reduceToNat, Int.reduceAdd, Int.reduceSub, Int.cast_ofNat_Int, Int.toNat_natCast, Nat.le_eq, Nat.sub_eq, ne_eq, Decidable.not_not, implies_true, true_and, and_true, wadd, wsub, wmul, decide_eq_true_eq, decide_eq_false_iff_not, Nat.succ_eq_add_one, imp_false, not_false_eq_true, not_true_eq_false, false_imp_iff, true_imp_iff] at *)
        rw [k_is] at h2 h3
        exact nr_bad (nx_2 hx h1 h2 h3 h4)
      · (subst hL; subst hQ; simp only [L2, L3, std] at *; try simp only [sySet, reduceCtorEq, forall_const, Int.reduceToNat, Int.reduceAdd, Int.reduceSub, Int.cast_ofNat_Int, Int.toNat_natCast, Nat.le_eq, Nat.sub_eq, ne_eq, Decidable.not_not, implies_true, true_and, and_true, wadd, wsub, wmul, decide_eq_true_eq, decide_eq_false_iff_not, Nat.succ_eq_add_one, imp_false, not_false_eq_true, not_true_eq_false, false_imp_iff, true_imp_iff] at *)
        rw [(rest_is s).2]
        exact nx_in h1 h4
      · (cbv; try simp only [sat_need, sat_must, sat_ite, sat_done, sat_yes, sat_ex, sat_all, sat_sup, sat_and, sat_fail, true_and, and_true])
        (subst hL; subst hQ; simp only [L2, L3, std] at *; try simp only [sySet, reduceCtorEq, forall_const, Int.reduceToNat, Int.reduceAdd, Int.reduceSub, Int.cast_ofNat_Int, Int.toNat_natCast, Nat.le_eq, Nat.sub_eq, ne_eq, Decidable.not_not, implies_true, true_and, and_true, wadd, wsub, wmul, decide_eq_true_eq, decide_eq_false_iff_not, Nat.succ_eq_add_one, imp_false, not_false_eq_true, not_true_eq_false, false_imp_iff, true_imp_iff] at *)
        simp only [k_is, (rest_is s).1] at h5 ⊢
        obtain ⟨q1, q2⟩ := nx_3 hx h1 h4 h5
        rw [hv1, hs1, hf1]
        exact ⟨rfl, rfl, rfl, rfl, h5, rfl, q1, q2⟩
      · (subst hL; subst hQ; simp only [L2, L3, std] at *; try simp only [sySet, reduceCtorEq, forall_const, Int.reduceToNat, Int.reduceAdd, Int.reduceSub, Int.cast_ofNat_Int, Int.toNat_natCast, Nat.le_eq, Nat.sub_eq, ne_eq, Decidable.not_not, implies_true, true_and, and_true, wadd, wsub, wmul, decide_eq_true_eq, decide_eq_false_iff_not, Nat.succ_eq_add_one, imp_false, not_false_eq_true, not_true_eq_false, false_imp_iff, true_imp_iff] at *)
        simp only [k_is, (rest_is s).1] at h6 h7
        exact nr_bad (nx_4 hx h1 h4 h6 h7)
      · (subst hL; subst hQ; simp only [L2, L3, std] at *; try simp only [sySet, reduceCtorEq, forall_const, Int.reduceToNat, Int.reduceAdd, Int.reduceSub, Int.cast_ofNat_Int, Int.toNat_natCast, Nat.le_eq, Nat.sub_eq, ne_eq, Decidable.not_not, implies_true, true_and, and_true, wadd, wsub, wmul, decide_eq_true_eq, decide_eq_false_iff_not, Nat.succ_eq_add_one, imp_false, not_false_eq_true, not_true_eq_false, false_imp_iff, true_imp_iff] at *)
        simp only [k_is, (rest_is s).1] at h7 ⊢
        exact nx_5 hx h1 h4 h7
      · (subst hL; subst hQ; simp only [L2, L3, std] at *; try simp only [sySet, reduceCtorEq, forall_const, Int.reduceToNat, Int.reduceAdd, Int.reduceSub, Int.cast_ofNat_Int, Int.toNat_natCast, Nat.le_eq, Nat.sub_eq, ne_eq, Decidable.not_not, implies_true, true_and, and_true, wadd, wsub, wmul, decide_eq_true_eq, decide_eq_false_iff_not, Nat.succ_eq_add_one, imp_false, not_false_eq_true, not_true_eq_false, false_imp_iff, true_imp_iff] at *)
        simp only [k_is, (rest_is s).1] at h7 ⊢
        exact nx_5 hx h1 h4 h7
      · (cbv; try simp only [sat_need, sat_must, sat_ite, sat_done, sat_yes, sat_ex, sat_all, sat_sup, sat_and, sat_fail, true_and, and_true])
        (subst hL; subst hQ; simp only [L2, L3, std] at *; try simp only [sySet, reduceCtorEq, forall_const, Int.reduceToNat, Int.reduceAdd, Int.reduceSub, Int.cast_ofNat_Int, Int.toNat_natCast, Nat.le_eq, Nat.sub_eq, ne_eq, Decidable.not_not, implies_true, true_and, and_true, wadd, wsub, wmul, decide_eq_true_eq, decide_eq_false_iff_not, Nat.succ_eq_add_one, imp_false, not_false_eq_true, not_true_eq_false, false_imp_iff, true_imp_iff] at *)
        simp only [k_is, (rest_is s).1] at h6 h7 ⊢
        obtain ⟨q1, q2⟩ := nx_6 hx h1 h4 h6 h7
        rw [hv2, hs2, hf1]
        exact ⟨rfl, rfl, rfl, rfl, h6, rfl, q1, q2⟩
      · (subst hL; subst hQ; simp only [L2, L3, std] at *; try simp only [sySet, reduceCtorEq, forall_const, Int.reduceToNat, Int.reduceAdd, Int.reduceSub, Int.cast_ofNat_Int, Int.toNat_natCast, Nat.le_eq, Nat.sub_eq, ne_eq, Decidable.not_not, implies_true, true_and, and_true, wadd, wsub, wmul, decide_eq_true_eq, decide_eq_false_iff_not, Nat.succ_eq_add_one, imp_false, not_false_eq_true, not_true_eq_false, false_imp_iff, true_imp_iff] at *)
        simp only [k_is] at h7
        exact absurd h8 (by decide)
      · (subst hL; subst hQ; simp only [L2, L3, std] at *; try simp only [sySet, reduceCtorEq, forall_const, Int.reduceToNat, Int.reduceAdd, Int.reduceSub, Int.cast_ofNat_Int, Int.toNat_natCast, Nat.le_eq, Nat.sub_eq, ne_eq, Decidable.not_not, implies_true, true_and, and_true, wadd, wsub, wmul, decide_eq_true_eq, decide_eq_false_iff_not, Nat.succ_eq_add_one, imp_false, not_false_eq_true, not_true_eq_false, false_imp_iff, true_imp_iff] at *)
        omega
      · (cbv; try simp only [sat_need, sat_must, sat_ite, sat_done, sat_yes, sat_ex, sat_all, sat_sup, sat_and, sat_fail, true_and, and_true])
        (subst hL; subst hQ; simp only [L2, L3, std] at *; try simp only [sySet, reduceCtorEq, forall_const, Int.reduceToNat, Int.reduceAdd, Int.reduceSub, Int.cast_ofNat_Int, Int.toNat_natCast, Nat.le_eq, Nat.sub_eq, ne_eq, Decidable.not_not, implies_true, true_and, and_true, wadd, wsub, wmul, decide_eq_true_eq, decide_eq_false_iff_not, Nat.succ_eq_add_one, imp_false, not_false_eq_true, not_true_eq_false, false_imp_iff, true_imp_iff] at *)
        simp only [k_is, (rest_is s).1] at h7 ⊢; exact nx_9 hx h1 h4 h7 (by simp) ha1 hs1 hf1
      · (subst hL; subst hQ; simp only [L2, L3, std] at *; try simp only [sySet, reduceCtorEq, forall_const, Int.reduceToNat, Int.reduceAdd, Int.reduceSub, Int.cast_ofNat_Int, Int.toNat_natCast, Nat.le_eq, Nat.sub_eq, ne_eq, Decidable.not_not, implies_true, true_and, and_true, wadd, wsub, wmul, decide_eq_true_eq, decide_eq_false_iff_not, Nat.succ_eq_add_one, imp_false, not_false_eq_true, not_true_eq_false, false_imp_iff, true_imp_iff] at *)
        simp only [k_is] at h2 h3 h5 h6 h7
        omega
    | [a, b, c, d, e], hx =>
      (cbv; try simp only [sat_need, sat_must, sat_ite, sat_done, sat_yes, sat_ex, sat_all, sat_sup, sat_and, sat_fail, true_and, and_true])
      obtain ⟨s1, hs1⟩ : ∃ s1, s1 = nxtRest s := ⟨_, rfl⟩
      obtain ⟨s2, hs2⟩ : ∃ s2, s2 = (nxtRest s).drop (lngN (s.drop 1)).toNat := ⟨_, rfl⟩
      obtain ⟨v1, hv1⟩ : ∃ v1, v1 = CV.mk 1 (lngN (s.drop 1)) [] [] := ⟨_, rfl⟩
      obtain ⟨v2, hv2⟩ : ∃ v2, v2 = CV.mk 2 0 ((nxtRest s).take (lngN (s.drop 1)).toNat) [] := ⟨_, rfl⟩
      obtain ⟨a1, ha1⟩ : ∃ a1, a1 = Lv.mk (lngN (s.drop 1)) [] := ⟨_, rfl⟩
      obtain ⟨f1, hf1⟩ : ∃ f1, f1 = f - 1 := ⟨_, rfl⟩
      refine ⟨fun h1 => ?_, fun h1 => ⟨?_, fun h2 => ?_, fun h2 => ⟨fun h3 => ?_, fun h3 => ⟨?_, fun h4 => ?_, fun h4 => ⟨?_, fun h5 => ⟨⟨[a, b, c, d, e], s1, f1, v1⟩, ?_⟩, fun h5 => ⟨fun h6 => ⟨fun h7 => ?_, fun h7 => ⟨?_, ?_, ⟨[a, b, c, d, e], s2, f1, v2⟩, ?_⟩⟩, fun h6 => ⟨fun h7 => ⟨fun h8 => ?_, fun h8 => ⟨?_, ⟨[a1, a, b, c, d, e], s1, f1, v⟩, ?_⟩⟩, fun h7 => ?_⟩⟩⟩⟩⟩⟩⟩
      · (subst hL; subst hQ; simp only [L2, L3, std] at *; try simp only [sySet, reduceCtorEq, forall_const, Int.reduceToNat, Int.reduceAdd, Int.reduceSub, Int.cast_ofNat_Int, Int.toNat_natCast, Nat.le_eq, Nat.sub_eq, ne_eq, Decidable.not_not, implies_true, true_and, and_true, wadd, wsub, wmul, decide_eq_true_eq, decide_eq_false_iff_not, Nat.succ_eq_add_one, imp_false, not_false_eq_true, not_true_eq_false, false_imp_iff, true_imp_iff] at *)
        exact nr_bad (nx_0 hx h1)
      · (subst hL; subst hQ; simp only [L2, L3, std] at *; try simp only [sySet, reduceCtorEq, forall_const, Int.reduceToNat, Int.reduceAdd, Int.reduceSub, Int.cast_ofNat_Int, Int.toNat_natCast, Nat.le_eq, Nat.sub_eq, ne_eq, Decidable.not_not, implies_true, true_and, and_true, wadd, wsub, wmul, decide_eq_true_eq, decide_eq_false_iff_not, Nat.succ_eq_add_one, imp_false, not_false_eq_true, not_true_eq_false, false_imp_iff, true_imp_iff] at *)
        have := List.length_pos_iff.2 h1
        omega
      · (subst hL; subst hQ; simp only [L2, L3, std] at *; try simp only [sySet, reduceCtorEq, forall_const, Int.reduceToNat, Int.reduceAdd, Int.reduceSub, Int.cast_ofNat_Int, Int.toNat_natCast, Nat.le_eq, Nat.sub_eq, ne_eq, Decidable.not_not, implies_true, true_and, and_true, wadd, wsub, wmul, decide_eq_true_eq, decide_eq_false_iff_not, Nat.succ_eq_add_one, imp_false, not_false_eq_true, not_true_eq_false, false_imp_iff, true_imp_iff] at *)
        rw [k_is] at h2
        exact nr_bad (nx_1 hx h1 (.inl h2))
      · (subst hL; subst hQ; simp only [L2, L3, std] at *; try simp only [sySet, reduceCtorEq, forall_const, Int.reduceToNat, Int.reduceAdd, Int.reduceSub, Int.cast_ofNat_Int, Int.toNat_natCast, Nat.le_eq, Nat.sub_eq, ne_eq, Decidable.not_not, implies_true, true_and, and_true, wadd, wsub, wmul, decide_eq_true_eq, decide_eq_false_iff_not, Nat.succ_eq_add_one, imp_false, not_false_eq_true, not_true_eq_false, false_imp_iff, true_imp_iff] at *)
        rw [k_is] at h3
        exact nr_bad (nx_1 hx h1 (.inr h3))
      · (subst hL; subst hQ; simp only [L2, L3, std] at *; try simp only [sySet, reduceCtorEq, forall_const, Int.reduceToNat, Int.reduceAdd, Int.reduceSub, Int.cast_ofNat_Int, Int.toNat_natCast, Nat.le_eq, Nat.sub_eq, ne_eq, Decidable.not_not, implies_true, true_and, and_true, wadd, wsub, wmul, decide_eq_true_eq, decide_eq_false_iff_not, Nat.succ_eq_add_one, imp_false, not_false_eq_true, not_true_eq_false, false_imp_iff, true_imp_iff] at *)
        have := List.length_pos_iff.2 h1
        omega
      · (subst hL; subst hQ; simp only [L2, L3, std] at *; try simp only [sySet, reduceCtorEq, forall_const, Int.reduceToNat, Int.reduceAdd, Int.reduceSub, Int.cast_ofNat_Int, Int.toNat_natCast, Nat.le_eq, Nat.sub_eq, ne_eq, Decidable.not_not, implies_true, true_and, and_true, wadd, wsub, wmul, decide_eq_true_eq, decide_eq_false_iff_not, Nat.succ_eq_add_one, imp_false, not_false_eq_true, not_true_eq_false, false_imp_iff, true_imp_iff] at *)
        rw [k_is] at h2 h3
        exact nr_bad (nx_2 hx h1 h2 h3 h4)
      · (subst hL; subst hQ; simp only [L2, L3, std] at *; try simp only [sySet, reduceCtorEq, forall_const, Int.reduceToNat, Int.reduceAdd, Int.reduceSub, Int.cast_ofNat_Int, Int.toNat_natCast, Nat.le_eq, Nat.sub_eq, ne_eq, Decidable.not_not, implies_true, true_and, and_true, wadd, wsub, wmul, decide_eq_true_eq, decide_eq_false_iff_not, Nat.succ_eq_add_one, imp_false, not_false_eq_true, not_true_eq_false, false_imp_iff, true_imp_iff] at *)
        rw [(rest_is s).2]
        exact nx_in h1 h4
      · (cbv; try simp only [sat_need, sat_must, sat_ite, sat_done, sat_yes, sat_ex, sat_all, sat_sup, sat_and, sat_fail, true_and, and_true])
        (subst hL; subst hQ; simp only [L2, L3, std] at *; try simp only [sySet, reduceCtorEq, forall_const, Int.reduceToNat, Int.reduceAdd, Int.reduceSub, Int.cast_ofNat_Int, Int.toNat_natCast, Nat.le_eq, Nat.sub_eq, ne_eq, Decidable.not_not, implies_true, true_and, and_true, wadd, wsub, wmul, decide_eq_true_eq, decide_eq_false_iff_not, Nat.succ_eq_add_one, imp_false, not_false_eq_true, not_true_eq_false, false_imp_iff, true_imp_iff] at *)
        simp only [k_is, (rest_is s).1] at h5 ⊢
        obtain ⟨q1, q2⟩ := nx_3 hx h1 h4 h5
        rw [hv1, hs1, hf1]
        exact ⟨rfl, rfl, rfl, rfl, h5, rfl, q1, q2⟩
      · (subst hL; subst hQ; simp only [L2, L3, std] at *; try simp only [sySet, reduceCtorEq, forall_const, Int.reduceToNat, Int.reduceAdd, Int.reduceSub, Int.cast_ofNat_Int, Int.toNat_natCast, Nat.le_eq, Nat.sub_eq, ne_eq, Decidable.not_not, implies_true, true_and, and_true, wadd, wsub, wmul, decide_eq_true_eq, decide_eq_false_iff_not, Nat.succ_eq_add_one, imp_false, not_false_eq_true, not_true_eq_false, false_imp_iff, true_imp_iff] at *)
        simp only [k_is, (rest_is s).1] at h6 h7
        exact nr_bad (nx_4 hx h1 h4 h6 h7)
      · (subst hL; subst hQ; simp only [L2, L3, std] at *; try simp only [sySet, reduceCtorEq, forall_const, Int.reduceToNat, Int.reduceAdd, Int.reduceSub, Int.cast_ofNat_Int, Int.toNat_natCast, Nat.le_eq, Nat.sub_eq, ne_eq, Decidable.not_not, implies_true, true_and, and_true, wadd, wsub, wmul, decide_eq_true_eq, decide_eq_false_iff_not, Nat.succ_eq_add_one, imp_false, not_false_eq_true, not_true_eq_false, false_imp_iff, true_imp_iff] at *)
        simp only [k_is, (rest_is s).1] at h7 ⊢
        exact nx_5 hx h1 h4 h7
      · (subst hL; subst hQ; simp only [L2, L3, std] at *; try simp only [sySet, reduceCtorEq, forall_const, Int.reduceToNat, Int.reduceAdd, Int.reduceSub, Int.cast_ofNat_Int, Int.toNat_natCast, Nat.le_eq, Nat.sub_eq, ne_eq, Decidable.not_not, implies_true, true_and, and_true, wadd, wsub, wmul, decide_eq_true_eq, decide_eq_false_iff_not, Nat.succ_eq_add_one, imp_false, not_false_eq_true, not_true_eq_false, false_imp_iff, true_imp_iff] at *)
        simp only [k_is, (rest_is s).1] at h7 ⊢
        exact nx_5 hx h1 h4 h7
      · (cbv; try simp only [sat_need, sat_must, sat_ite, sat_done, sat_yes, sat_ex, sat_all, sat_sup, sat_and, sat_fail, true_and, and_true])
        (subst hL; subst hQ; simp only [L2, L3, std] at *; try simp only [sySet, reduceCtorEq, forall_const, Int.reduceToNat, Int.reduceAdd, Int.reduceSub, Int.cast_ofNat_Int, Int.toNat_natCast, Nat.le_eq, Nat.sub_eq, ne_eq, Decidable.not_not, implies_true, true_and, and_true, wadd, wsub, wmul, decide_eq_true_eq, decide_eq_false_iff_not, Nat.succ_eq_add_one, imp_false, not_false_eq_true, not_true_eq_false, false_imp_iff, true_imp_iff] at *)
        simp only [k_is, (rest_is s).1] at h6 h7 ⊢
        obtain ⟨q1, q2⟩ := nx_6 hx h1 h4 h6 h7
        rw [hv2, hs2, hf1]
        exact ⟨rfl, rfl, rfl, rfl, h6, rfl, q1, q2⟩
      · (subst hL; subst hQ; simp only [L2, L3, std] at *; try simp only [sySet, reduceCtorEq, forall_const, Int.reduceToNat, Int.reduceAdd, Int.reduceSub, Int.cast_ofNat_Int, Int.toNat_natCast, Nat.le_eq, Nat.sub_eq, ne_eq, Decidable.not_not, implies_true, true_and, and_true, wadd, wsub, wmul, decide_eq_true_eq, decide_eq_false_iff_not, Nat.succ_eq_add_one, imp_false, not_false_eq_true, not_true_eq_false, false_imp_iff, true_imp_iff] at *)
        simp only [k_is] at h7
        exact absurd h8 (by decide)
      · (subst hL; subst hQ; simp only [L2, L3, std] at *; try simp only [sySet, reduceCtorEq, forall_const, Int.reduceToNat, Int.reduceAdd, Int.reduceSub, Int.cast_ofNat_Int, Int.toNat_natCast, Nat.le_eq, Nat.sub_eq, ne_eq, Decidable.not_not, implies_true, true_and, and_true, wadd, wsub, wmul, decide_eq_true_eq, decide_eq_false_iff_not, Nat.succ_eq_add_one, imp_false, not_false_eq_true, not_true_eq_false, false_imp_iff, true_imp_iff] at *)
        omega
      · (cbv; try simp only [sat_need, sat_must, sat_ite, sat_done, sat_yes, sat_ex, sat_all, sat_sup, sat_and, sat_fail, true_and, and_true])
        (subst hL; subst hQ; simp only [L2, L3, std] at *; try simp only [sySet, reduceCtorEq, forall_const, Int.reduceToNat, Int.reduceAdd, Int.reduceSub, Int.cast_ofNat_Int, Int.toNat_natCast, Nat.le_eq, Nat.sub_eq, ne_eq, Decidable.not_not, implies_true, true_and, and_true, wadd, wsub, wmul, decide_eq_true_eq, decide_eq_false_iff_not, Nat.succ_eq_add_one, imp_false, not_false_eq_true, not_true_eq_false, false_imp_iff, true_imp_iff] at *)
        simp only [k_is, (rest_is s).1] at h7 ⊢; exact nx_9 hx h1 h4 h7 (by simp) ha1 hs1 hf1
      · (subst hL; subst hQ; simp only [L2, L3, std] at *; try simp only [sySet, reduceCtorEq, forall_const, Int.reduceToNat, Int.reduceAdd, Int.reduceSub, Int.cast_ofNat_Int, Int.toNat_natCast, Nat.le_eq, Nat.sub_eq, ne_eq, Decidable.not_not, implies_true, true_and, and_true, wadd, wsub, wmul, decide_eq_true_eq, decide_eq_false_iff_not, Nat.succ_eq_add_one, imp_false, not_false_eq_true, not_true_eq_false, false_imp_iff, true_imp_iff] at *)
        simp only [k_is] at h2 h3 h5 h6 h7
        omega
    | [a, b, c, d, e, k], hx =>
      (cbv; try simp only [sat_need, sat_must, sat_ite, sat_done, sat_yes, sat_ex, sat_all, sat_sup, sat_and, sat_fail, true_and, and_true])
      obtain ⟨s1, hs1⟩ : ∃ s1, s1 = nxtRest s := ⟨_, rfl⟩
      obtain ⟨s2, hs2⟩ : ∃ s2, s2 = (nxtRest s).drop (lngN (s.drop 1)).toNat := ⟨_, rfl⟩
      obtain ⟨v1, hv1⟩ : ∃ v1, v1 = CV.mk 1 (lngN (s.drop 1)) [] [] := ⟨_, rfl⟩
      obtain ⟨v2, hv2⟩ : ∃ v2, v2 = CV.mk 2 0 ((nxtRest s).take (lngN (s.drop 1)).toNat) [] := ⟨_, rfl⟩
      obtain ⟨a1, ha1⟩ : ∃ a1, a1 = Lv.mk (lngN (s.drop 1)) [] := ⟨_, rfl⟩
      obtain ⟨f1, hf1⟩ : ∃ f1, f1 = f - 1 := ⟨_, rfl⟩
      refine ⟨fun h1 => ?_, fun h1 => ⟨?_, fun h2 => ?_, fun h2 => ⟨fun h3 => ?_, fun h3 => ⟨?_, fun h4 => ?_, fun h4 => ⟨?_, fun h5 => ⟨⟨[a, b, c, d, e, k], s1, f1, v1⟩, ?_⟩, fun h5 => ⟨fun h6 => ⟨fun h7 => ?_, fun h7 => ⟨?_, ?_, ⟨[a, b, c, d, e, k], s2, f1, v2⟩, ?_⟩⟩, fun h6 => ⟨fun h7 => ⟨fun h8 => ?_, fun h8 => ⟨?_, ⟨[a1, a, b, c, d, e, k], s1, f1, v⟩, ?_⟩⟩, fun h7 => ?_⟩⟩⟩⟩⟩⟩⟩
      · (subst hL; subst hQ; simp only [L2, L3, std] at *; try simp only [sySet, reduceCtorEq, forall_const, Int.reduceToNat, Int.reduceAdd, Int.reduceSub, Int.cast_ofNat_Int, Int.toNat_natCast, Nat.le_eq, Nat.sub_eq, ne_eq, Decidable.not_not, implies_true, true_and, and_true, wadd, wsub, wmul, decide_eq_true_eq, decide_eq_false_iff_not, Nat.succ_eq_add_one, imp_false, not_false_eq_true, not_true_eq_false, false_imp_iff, true_imp_iff] at *)
        exact nr_bad (nx_0 hx h1)
      · (subst hL; subst hQ; simp only [L2, L3, std] at *; try simp only [sySet, reduceCtorEq, forall_const, Int.reduceToNat, Int.reduceAdd, Int.reduceSub, Int.cast_ofNat_Int, Int.toNat_natCast, Nat.le_eq, Nat.sub_eq, ne_eq, Decidable.not_not, implies_true, true_and, and_true, wadd, wsub, wmul, decide_eq_true_eq, decide_eq_false_iff_not, Nat.succ_eq_add_one, imp_false, not_false_eq_true, not_true_eq_false, false_imp_iff, true_imp_iff] at *)
        have := List.length_pos_iff.2 h1
        omega
      · (subst hL; subst hQ; simp only [L2, L3, std] at *; try simp only [sySet, reduceCtorEq, forall_const, Int.reduceToNat, Int.reduceAdd, Int.reduceSub, Int.cast_ofNat_Int, Int.toNat_natCast, Nat.le_eq, Nat.sub_eq, ne_eq, Decidable.not_not, implies_true, true_and, and_true, wadd, wsub, wmul, decide_eq_true_eq, decide_eq_false_iff_not, Nat.succ_eq_add_one, imp_false, not_false_eq_true, not_true_eq_false, false_imp_iff, true_imp_iff] at *)
        rw [k_is] at h2
        exact nr_bad (nx_1 hx h1 (.inl h2))
      · (subst hL; subst hQ; simp only [L2, L3, std] at *; try simp only [sySet, reduceCtorEq, forall_const, Int.reduceToNat, Int.reduceAdd, Int.reduceSub, Int.cast_ofNat_Int, Int.toNat_natCast, Nat.le_eq, Nat.sub_eq, ne_eq, Decidable.not_not, implies_true, true_and, and_true, wadd, wsub, wmul, decide_eq_true_eq, decide_eq_false_iff_not, Nat.succ_eq_add_one, imp_false, not_false_eq_true, not_true_eq_false, false_imp_iff, true_imp_iff] at *)
        rw [k_is] at h3
        exact nr_bad (nx_1 hx h1 (.inr h3))
      · (subst hL; subst hQ; simp only [L2, L3, std] at *; try simp only [sySet, reduceCtorEq, forall_const, Int.reduceToNat, Int.reduceAdd, Int.reduceSub, Int.cast_ofNat_Int, Int.toNat_natCast, Nat.le_eq, Nat.sub_eq, ne_eq, Decidable.not_not, implies_true, true_and, and_true, wadd, wsub, wmul, decide_eq_true_eq, decide_eq_false_iff_not, Nat.succ_eq_add_one, imp_false, not_false_eq_true, not_true_eq_false, false_imp_iff, true_imp_iff] at *)
        have := List.length_pos_iff.2 h1
        omega
      · (subst hL; subst hQ; simp only [L2, L3, std] at *; try simp only [sySet, reduceCtorEq, forall_const, Int.reduceToNat, Int.reduceAdd, Int.reduceSub, Int.cast_ofNat_Int, Int.toNat_natCast, Nat.le_eq, Nat.sub_eq, ne_eq, Decidable.not_not, implies_true, true_and, and_true, wadd, wsub, wmul, decide_eq_true_eq, decide_eq_false_iff_not, Nat.succ_eq_add_one, imp_false, not_false_eq_true, not_true_eq_false, false_imp_iff, true_imp_iff] at *)
        rw [k_is] at h2 h3
        exact nr_bad (nx_2 hx h1 h2 h3 h4)
      · (subst hL; subst hQ; simp only [L2, L3, std] at *; try simp only [sySet, reduceCtorEq, forall_const, Int.reduceToNat, Int.reduceAdd, Int.reduceSub, Int.cast_ofNat_Int, Int.toNat_natCast, Nat.le_eq, Nat.sub_eq, ne_eq, Decidable.not_not, implies_true, true_and, and_true, wadd, wsub, wmul, decide_eq_true_eq, decide_eq_false_iff_not, Nat.succ_eq_add_one, imp_false, not_false_eq_true, not_true_eq_false, false_imp_iff, true_imp_iff] at *)
        rw [(rest_is s).2]
        exact nx_in h1 h4
      · (cbv; try simp only [sat_need, sat_must, sat_ite, sat_done, sat_yes, sat_ex, sat_all, sat_sup, sat_and, sat_fail, true_and, and_true])
        (subst hL; subst hQ; simp only [L2, L3, std] at *; try simp only [sySet, reduceCtorEq, forall_const, Int.reduceToNat, Int.reduceAdd, Int.reduceSub, Int.cast_ofNat_Int, Int.toNat_natCast, Nat.le_eq, Nat.sub_eq, ne_eq, Decidable.not_not, implies_true, true_and, and_true, wadd, wsub, wmul, decide_eq_true_eq, decide_eq_false_iff_not, Nat.succ_eq_add_one, imp_false, not_false_eq_true, not_true_eq_false, false_imp_iff, true_imp_iff] at *)
        simp only [k_is, (rest_is s).1] at h5 ⊢
        obtain ⟨q1, q2⟩ := nx_3 hx h1 h4 h5
        rw [hv1, hs1, hf1]
        exact ⟨rfl, rfl, rfl, rfl, h5, rfl, q1, q2⟩
      · (subst hL; subst hQ; simp only [L2, L3, std] at *; try simp only [sySet, reduceCtorEq, forall_const, Int.reduceToNat, Int.reduceAdd, Int.reduceSub, Int.cast_ofNat_Int, Int.toNat_natCast, Nat.le_eq, Nat.sub_eq, ne_eq, Decidable.not_not, implies_true, true_and, and_true, wadd, wsub, wmul, decide_eq_true_eq, decide_eq_false_iff_not, Nat.succ_eq_add_one, imp_false, not_false_eq_true, not_true_eq_false, false_imp_iff, true_imp_iff] at *)
        simp only [k_is, (rest_is s).1] at h6 h7
        exact nr_bad (nx_4 hx h1 h4 h6 h7)
      · (subst hL; subst hQ; simp only [L2, L3, std] at *; try simp only [sySet, reduceCtorEq, forall_const, Int.reduceToNat, Int.reduceAdd, Int.reduceSub, Int.cast_ofNat_Int, Int.toNat_natCast, Nat.le_eq, Nat.sub_eq, ne_eq, Decidable.not_not, implies_true, true_and, and_true, wadd, wsub, wmul, decide_eq_true_eq, decide_eq_false_iff_not, Nat.succ_eq_add_one, imp_false, not_false_eq_true, not_true_eq_false, false_imp_iff, true_imp_iff] at *)
        simp only [k_is, (rest_is s).1] at h7 ⊢
        exact nx_5 hx h1 h4 h7
      · (subst hL; subst hQ; simp only [L2, L3, std] at *; try simp only [sySet, reduceCtorEq, forall_const, Int.reduceToNat, Int.reduceAdd, Int.reduceSub, Int.cast_ofNat_Int, Int.toNat_natCast, Nat.le_eq, Nat.sub_eq, ne_eq, Decidable.not_not, implies_true, true_and, and_true, wadd, wsub, wmul, decide_eq_true_eq, decide_eq_false_iff_not, Nat.succ_eq_add_one, imp_false, not_false_eq_true, not_true_eq_false, false_imp_iff, true_imp_iff] at *)
        simp only [k_is, (rest_is s).1] at h7 ⊢
        exact nx_5 hx h1 h4 h7
      · (cbv; try simp only [sat_need, sat_must, sat_ite, sat_done, sat_yes, sat_ex, sat_all, sat_sup, sat_and, sat_fail, true_and, and_true])
        (subst hL; subst hQ; simp only [L2, L3, std] at *; try simp only [sySet, reduceCtorEq, forall_const, Int.reduceToNat, Int.reduceAdd, Int.reduceSub, Int.cast_ofNat_Int, Int.toNat_natCast, Nat.le_eq, Nat.sub_eq, ne_eq, Decidable.not_not, implies_true, true_and, and_true, wadd, wsub, wmul, decide_eq_true_eq, decide_eq_false_iff_not, Nat.succ_eq_add_one, imp_false, not_false_eq_true, not_true_eq_false, false_imp_iff, true_imp_iff] at *)
        simp only [k_is, (rest_is s).1] at h6 h7 ⊢
        obtain ⟨q1, q2⟩ := nx_6 hx h1 h4 h6 h7
        rw [hv2, hs2, hf1]
        exact ⟨rfl, rfl, rfl, rfl, h6, rfl, q1, q2⟩
      · (subst hL; subst hQ; simp only [L2, L3, std] at *; try simp only [sySet, reduceCtorEq, forall_const, Int.reduceToNat, Int.reduceAdd, Int.reduceSub, Int.cast_ofNat_Int, Int.toNat_natCast, Nat.le_eq, Nat.sub_eq, ne_eq, Decidable.not_not, implies_true, true_and, and_true, wadd, wsub, wmul, decide_eq_true_eq, decide_eq_false_iff_not, Nat.succ_eq_add_one, imp_false, not_false_eq_true, not_true_eq_false, false_imp_iff, true_imp_iff] at *)
        simp only [k_is] at h7
        exact nr_bad (nx_7 hx h1 h4 h7 rfl)
      · (subst hL; subst hQ; simp only [L2, L3, std] at *; try simp only [sySet, reduceCtorEq, forall_const, Int.reduceToNat, Int.reduceAdd, Int.reduceSub, Int.cast_ofNat_Int, Int.toNat_natCast, Nat.le_eq, Nat.sub_eq, ne_eq, Decidable.not_not, implies_true, true_and, and_true, wadd, wsub, wmul, decide_eq_true_eq, decide_eq_false_iff_not, Nat.succ_eq_add_one, imp_false, not_false_eq_true, not_true_eq_false, false_imp_iff, true_imp_iff] at *)
        all_goals omega
      · all_goals skip
        (subst hL; subst hQ; simp only [L2, L3, std] at *; try simp only [sySet, reduceCtorEq, forall_const, Int.reduceToNat, Int.reduceAdd, Int.reduceSub, Int.cast_ofNat_Int, Int.toNat_natCast, Nat.le_eq, Nat.sub_eq, ne_eq, Decidable.not_not, implies_true, true_and, and_true, wadd, wsub, wmul, decide_eq_true_eq, decide_eq_false_iff_not, Nat.succ_eq_add_one, imp_false, not_false_eq_true, not_true_eq_false, false_imp_iff, true_imp_iff] at *)
        all_goals omega
      · (subst hL; subst hQ; simp only [L2, L3, std] at *; try simp only [sySet, reduceCtorEq, forall_const, Int.reduceToNat, Int.reduceAdd, Int.reduceSub, Int.cast_ofNat_Int, Int.toNat_natCast, Nat.le_eq, Nat.sub_eq, ne_eq, Decidable.not_not, implies_true, true_and, and_true, wadd, wsub, wmul, decide_eq_true_eq, decide_eq_false_iff_not, Nat.succ_eq_add_one, imp_false, not_false_eq_true, not_true_eq_false, false_imp_iff, true_imp_iff] at *)
        simp only [k_is] at h2 h3 h5 h6 h7
        omega
    | a :: b :: c :: d :: e :: k :: m :: r, hx =>
      have h7 : (a :: b :: c :: d :: e :: k :: m :: r).length ≤ 6 := by { (subst hL; subst hQ; simp only [L2, L3, std] at *; try simp only [sySet, reduceCtorEq, forall_const, Int.reduceToNat, Int.reduceAdd, Int.reduceSub, Int.cast_ofNat_Int, Int.toNat_natCast, Nat.le_eq, Nat.sub_eq, ne_eq, Decidable.not_not, implies_true, true_and, and_true, wadd, wsub, wmul, decide_eq_true_eq, decide_eq_false_iff_not, Nat.succ_eq_add_one, imp_false, not_false_eq_true, not_true_eq_false, false_imp_iff, true_imp_iff] at *); exact hx.1 }
      exact absurd h7 (by simp)
  · obtain ⟨st, s, f, v⟩ := x
    cbv at hx
    match st, hx with
    | [], hx =>
      (cbv; try simp only [sat_need, sat_must, sat_ite, sat_done, sat_yes, sat_ex, sat_all, sat_sup, sat_and, sat_fail, true_and, and_true])
      refine ⟨fun h0 => ?_, fun h0 => ?_⟩
      · (subst hL; subst hQ; simp only [L2, L3, std] at *; try simp only [sySet, reduceCtorEq, forall_const, Int.reduceToNat, Int.reduceAdd, Int.reduceSub, Int.cast_ofNat_Int, Int.toNat_natCast, Nat.le_eq, Nat.sub_eq, ne_eq, Decidable.not_not, implies_true, true_and, and_true, wadd, wsub, wmul, decide_eq_true_eq, decide_eq_false_iff_not, Nat.succ_eq_add_one, imp_false, not_false_eq_true, not_true_eq_false, false_imp_iff, true_imp_iff] at *)
        exact nr_good (nd_0 hx)
      · (subst hL; subst hQ; simp only [L2, L3, std] at *; try simp only [sySet, reduceCtorEq, forall_const, Int.reduceToNat, Int.reduceAdd, Int.reduceSub, Int.cast_ofNat_Int, Int.toNat_natCast, Nat.le_eq, Nat.sub_eq, ne_eq, Decidable.not_not, implies_true, true_and, and_true, wadd, wsub, wmul, decide_eq_true_eq, decide_eq_false_iff_not, Nat.succ_eq_add_one, imp_false, not_false_eq_true, not_true_eq_false, false_imp_iff, true_imp_iff] at *)
    | [a], hx =>
      (cbv; try simp only [sat_need, sat_must, sat_ite, sat_done, sat_yes, sat_ex, sat_all, sat_sup, sat_and, sat_fail, true_and, and_true])
      obtain ⟨a', ha'⟩ : ∃ a', a' = Lv.mk (a.left - 1) (a.l ++ [v]) := ⟨_, rfl⟩
      refine ⟨fun h0 => ?_, fun h0 => ⟨⟨?_, ?_, ?_, ?_, ?_, ⟨[a'], s, f, v⟩, ?_⟩, ?_, ?_, ?_, ?_, ?_, ?_, ⟨[a'], s, f, v⟩, ?_⟩⟩
      · (subst hL; subst hQ; simp only [L2, L3, std] at *; try simp only [sySet, reduceCtorEq, forall_const, Int.reduceToNat, Int.reduceAdd, Int.reduceSub, Int.cast_ofNat_Int, Int.toNat_natCast, Nat.le_eq, Nat.sub_eq, ne_eq, Decidable.not_not, implies_true, true_and, and_true, wadd, wsub, wmul, decide_eq_true_eq, decide_eq_false_iff_not, Nat.succ_eq_add_one, imp_false, not_false_eq_true, not_true_eq_false, false_imp_iff, true_imp_iff] at *)
        exact absurd h0 (by decide)
      · (subst hL; subst hQ; simp only [L2, L3, std]; try simp only [sySet, reduceCtorEq, forall_const, Int.reduceToNat, Int.reduceAdd, Int.reduceSub, Int.cast_ofNat_Int, Int.toNat_natCast, Nat.le_eq, Nat.sub_eq, ne_eq, Decidable.not_not, implies_true, true_and, and_true, wadd, wsub, wmul, decide_eq_true_eq, decide_eq_false_iff_not, Nat.succ_eq_add_one, imp_false, not_false_eq_true, not_true_eq_false, false_imp_iff, true_imp_iff]) <;> decide
      · (subst hL; subst hQ; simp only [L2, L3, std] at *; try simp only [sySet, reduceCtorEq, forall_const, Int.reduceToNat, Int.reduceAdd, Int.reduceSub, Int.cast_ofNat_Int, Int.toNat_natCast, Nat.le_eq, Nat.sub_eq, ne_eq, Decidable.not_not, implies_true, true_and, and_true, wadd, wsub, wmul, decide_eq_true_eq, decide_eq_false_iff_not, Nat.succ_eq_add_one, imp_false, not_false_eq_true, not_true_eq_false, false_imp_iff, true_imp_iff] at *)
        exact nd_room (nd_1 hx).2.1
      · (subst hL; subst hQ; simp only [L2, L3, std]; try simp only [sySet, reduceCtorEq, forall_const, Int.reduceToNat, Int.reduceAdd, Int.reduceSub, Int.cast_ofNat_Int, Int.toNat_natCast, Nat.le_eq, Nat.sub_eq, ne_eq, Decidable.not_not, implies_true, true_and, and_true, wadd, wsub, wmul, decide_eq_true_eq, decide_eq_false_iff_not, Nat.succ_eq_add_one, imp_false, not_false_eq_true, not_true_eq_false, false_imp_iff, true_imp_iff]) <;> decide
      · (subst hL; subst hQ; simp only [L2, L3, std]; try simp only [sySet, reduceCtorEq, forall_const, Int.reduceToNat, Int.reduceAdd, Int.reduceSub, Int.cast_ofNat_Int, Int.toNat_natCast, Nat.le_eq, Nat.sub_eq, ne_eq, Decidable.not_not, implies_true, true_and, and_true, wadd, wsub, wmul, decide_eq_true_eq, decide_eq_false_iff_not, Nat.succ_eq_add_one, imp_false, not_false_eq_true, not_true_eq_false, false_imp_iff, true_imp_iff]) <;> decide
      · (subst hL; subst hQ; simp only [L2, L3, std]; try simp only [sySet, reduceCtorEq, forall_const, Int.reduceToNat, Int.reduceAdd, Int.reduceSub, Int.cast_ofNat_Int, Int.toNat_natCast, Nat.le_eq, Nat.sub_eq, ne_eq, Decidable.not_not, implies_true, true_and, and_true, wadd, wsub, wmul, decide_eq_true_eq, decide_eq_false_iff_not, Nat.succ_eq_add_one, imp_false, not_false_eq_true, not_true_eq_false, false_imp_iff, true_imp_iff]) <;> decide
      · (cbv; try simp only [sat_need, sat_must, sat_ite, sat_done, sat_yes, sat_ex, sat_all, sat_sup, sat_and, sat_fail, true_and, and_true])
        (subst hL; subst hQ; simp only [L2, L3, std] at *; try simp only [sySet, reduceCtorEq, forall_const, Int.reduceToNat, Int.reduceAdd, Int.reduceSub, Int.cast_ofNat_Int, Int.toNat_natCast, Nat.le_eq, Nat.sub_eq, ne_eq, Decidable.not_not, implies_true, true_and, and_true, wadd, wsub, wmul, decide_eq_true_eq, decide_eq_false_iff_not, Nat.succ_eq_add_one, imp_false, not_false_eq_true, not_true_eq_false, false_imp_iff, true_imp_iff] at *)
        obtain ⟨q1, q2, q3, q4, q5⟩ := nd_1 hx
        subst ha'
        have e : lenL (a.l ++ [v]) = a.l.length + 1 := by unfold lenL; simp
        exact ⟨⟨e.symm, fun i j hi hj => cv_push3 a.l v (by rw [← e]; exact hi) hj⟩, e.symm, Int.emod_eq_of_lt (by omega) (by omega), q1, q5⟩
      · (subst hL; subst hQ; simp only [L2, L3, std]; try simp only [sySet, reduceCtorEq, forall_const, Int.reduceToNat, Int.reduceAdd, Int.reduceSub, Int.cast_ofNat_Int, Int.toNat_natCast, Nat.le_eq, Nat.sub_eq, ne_eq, Decidable.not_not, implies_true, true_and, and_true, wadd, wsub, wmul, decide_eq_true_eq, decide_eq_false_iff_not, Nat.succ_eq_add_one, imp_false, not_false_eq_true, not_true_eq_false, false_imp_iff, true_imp_iff]) <;> decide
      · (subst hL; subst hQ; simp only [L2, L3, std] at *; try simp only [sySet, reduceCtorEq, forall_const, Int.reduceToNat, Int.reduceAdd, Int.reduceSub, Int.cast_ofNat_Int, Int.toNat_natCast, Nat.le_eq, Nat.sub_eq, ne_eq, Decidable.not_not, implies_true, true_and, and_true, wadd, wsub, wmul, decide_eq_true_eq, decide_eq_false_iff_not, Nat.succ_eq_add_one, imp_false, not_false_eq_true, not_true_eq_false, false_imp_iff, true_imp_iff] at *)
        exact nd_room (nd_1 hx).2.1
      · (subst hL; subst hQ; simp only [L2, L3, std]; try simp only [sySet, reduceCtorEq, forall_const, Int.reduceToNat, Int.reduceAdd, Int.reduceSub, Int.cast_ofNat_Int, Int.toNat_natCast, Nat.le_eq, Nat.sub_eq, ne_eq, Decidable.not_not, implies_true, true_and, and_true, wadd, wsub, wmul, decide_eq_true_eq, decide_eq_false_iff_not, Nat.succ_eq_add_one, imp_false, not_false_eq_true, not_true_eq_false, false_imp_iff, true_imp_iff]) <;> decide
      · (subst hL; subst hQ; simp only [L2, L3, std] at *; try simp only [sySet, reduceCtorEq, forall_const, Int.reduceToNat, Int.reduceAdd, Int.reduceSub, Int.cast_ofNat_Int, Int.toNat_natCast, Nat.le_eq, Nat.sub_eq, ne_eq, Decidable.not_not, implies_true, true_and, and_true, wadd, wsub, wmul, decide_eq_true_eq, decide_eq_false_iff_not, Nat.succ_eq_add_one, imp_false, not_false_eq_true, not_true_eq_false, false_imp_iff, true_imp_iff] at *)
        exact nd_in _
      · (subst hL; subst hQ; simp only [L2, L3, std]; try simp only [sySet, reduceCtorEq, forall_const, Int.reduceToNat, Int.reduceAdd, Int.reduceSub, Int.cast_ofNat_Int, Int.toNat_natCast, Nat.le_eq, Nat.sub_eq, ne_eq, Decidable.not_not, implies_true, true_and, and_true, wadd, wsub, wmul, decide_eq_true_eq, decide_eq_false_iff_not, Nat.succ_eq_add_one, imp_false, not_false_eq_true, not_true_eq_false, false_imp_iff, true_imp_iff]) <;> decide
      · (subst hL; subst hQ; simp only [L2, L3, std]; try simp only [sySet, reduceCtorEq, forall_const, Int.reduceToNat, Int.reduceAdd, Int.reduceSub, Int.cast_ofNat_Int, Int.toNat_natCast, Nat.le_eq, Nat.sub_eq, ne_eq, Decidable.not_not, implies_true, true_and, and_true, wadd, wsub, wmul, decide_eq_true_eq, decide_eq_false_iff_not, Nat.succ_eq_add_one, imp_false, not_false_eq_true, not_true_eq_false, false_imp_iff, true_imp_iff]) <;> decide
      · (cbv; try simp only [sat_need, sat_must, sat_ite, sat_done, sat_yes, sat_ex, sat_all, sat_sup, sat_and, sat_fail, true_and, and_true])
        (subst hL; subst hQ; simp only [L2, L3, std] at *; try simp only [sySet, reduceCtorEq, forall_const, Int.reduceToNat, Int.reduceAdd, Int.reduceSub, Int.cast_ofNat_Int, Int.toNat_natCast, Nat.le_eq, Nat.sub_eq, ne_eq, Decidable.not_not, implies_true, true_and, and_true, wadd, wsub, wmul, decide_eq_true_eq, decide_eq_false_iff_not, Nat.succ_eq_add_one, imp_false, not_false_eq_true, not_true_eq_false, false_imp_iff, true_imp_iff] at *)
        obtain ⟨q1, q2, q3, q4, q5⟩ := nd_1 hx
        subst ha'
        have e : lenL (a.l ++ [v]) = a.l.length + 1 := by unfold lenL; simp
        exact ⟨⟨e.symm, fun i j hi hj => cv_push4 a.l v (by rw [← e]; exact hi) hj⟩, e.symm, Int.emod_eq_of_lt (by omega) (by omega), q1, q5⟩
    | [a, b], hx =>
      (cbv; try simp only [sat_need, sat_must, sat_ite, sat_done, sat_yes, sat_ex, sat_all, sat_sup, sat_and, sat_fail, true_and, and_true])
      obtain ⟨a', ha'⟩ : ∃ a', a' = Lv.mk (a.left - 1) (a.l ++ [v]) := ⟨_, rfl⟩
      refine ⟨fun h0 => ?_, fun h0 => ⟨⟨?_, ?_, ?_, ?_, ?_, ⟨[a', b], s, f, v⟩, ?_⟩, ?_, ?_, ?_, ?_, ?_, ?_, ⟨[a', b], s, f, v⟩, ?_⟩⟩
      · (subst hL; subst hQ; simp only [L2, L3, std] at *; try simp only [sySet, reduceCtorEq, forall_const, Int.reduceToNat, Int.reduceAdd, Int.reduceSub, Int.cast_ofNat_Int, Int.toNat_natCast, Nat.le_eq, Nat.sub_eq, ne_eq, Decidable.not_not, implies_true, true_and, and_true, wadd, wsub, wmul, decide_eq_true_eq, decide_eq_false_iff_not, Nat.succ_eq_add_one, imp_false, not_false_eq_true, not_true_eq_false, false_imp_iff, true_imp_iff] at *)
        exact absurd h0 (by decide)
      · (subst hL; subst hQ; simp only [L2, L3, std]; try simp only [sySet, reduceCtorEq, forall_const, Int.reduceToNat, Int.reduceAdd, Int.reduceSub, Int.cast_ofNat_Int, Int.toNat_natCast, Nat.le_eq, Nat.sub_eq, ne_eq, Decidable.not_not, implies_true, true_and, and_true, wadd, wsub, wmul, decide_eq_true_eq, decide_eq_false_iff_not, Nat.succ_eq_add_one, imp_false, not_false_eq_true, not_true_eq_false, false_imp_iff, true_imp_iff]) <;> decide
      · (subst hL; subst hQ; simp only [L2, L3, std] at *; try simp only [sySet, reduceCtorEq, forall_const, Int.reduceToNat, Int.reduceAdd, Int.reduceSub, Int.cast_ofNat_Int, Int.toNat_natCast, Nat.le_eq, Nat.sub_eq, ne_eq, Decidable.not_not, implies_true, true_and, and_true, wadd, wsub, wmul, decide_eq_true_eq, decide_eq_false_iff_not, Nat.succ_eq_add_one, imp_false, not_false_eq_true, not_true_eq_false, false_imp_iff, true_imp_iff] at *)
        exact nd_room (nd_1 hx).2.1
      · (subst hL; subst hQ; simp only [L2, L3, std]; try simp only [sySet, reduceCtorEq, forall_const, Int.reduceToNat, Int.reduceAdd, Int.reduceSub, Int.cast_ofNat_Int, Int.toNat_natCast, Nat.le_eq, Nat.sub_eq, ne_eq, Decidable.not_not, implies_true, true_and, and_true, wadd, wsub, wmul, decide_eq_true_eq, decide_eq_false_iff_not, Nat.succ_eq_add_one, imp_false, not_false_eq_true, not_true_eq_false, false_imp_iff, true_imp_iff]) <;> decide
      · (subst hL; subst hQ; simp only [L2, L3, std]; try simp only [sySet, reduceCtorEq, forall_const, Int.reduceToNat, Int.reduceAdd, Int.reduceSub, Int.cast_ofNat_Int, Int.toNat_natCast, Nat.le_eq, Nat.sub_eq, ne_eq, Decidable.not_not, implies_true, true_and, and_true, wadd, wsub, wmul, decide_eq_true_eq, decide_eq_false_iff_not, Nat.succ_eq_add_one, imp_false, not_false_eq_true, not_true_eq_false, false_imp_iff, true_imp_iff]) <;> decide
      · (subst hL; subst hQ; simp only [L2, L3, std]; try simp only [sySet, reduceCtorEq, forall_const, Int.reduceToNat, Int.reduceAdd, Int.reduceSub, Int.cast_ofNat_Int, Int.toNat_natCast, Nat.le_eq, Nat.sub_eq, ne_eq, Decidable.not_not, implies_true, true_and, and_true, wadd, wsub, wmul, decide_eq_true_eq, decide_eq_false_iff_not, Nat.succ_eq_add_one, imp_false, not_false_eq_true, not_true_eq_false, false_imp_iff, true_imp_iff]) <;> decide
      · (cbv; try simp only [sat_need, sat_must, sat_ite, sat_done, sat_yes, sat_ex, sat_all, sat_sup, sat_and, sat_fail, true_and, and_true])
        (subst hL; subst hQ; simp only [L2, L3, std] at *; try simp only [sySet, reduceCtorEq, forall_const, Int.reduceToNat, Int.reduceAdd, Int.reduceSub, Int.cast_ofNat_Int, Int.toNat_natCast, Nat.le_eq, Nat.sub_eq, ne_eq, Decidable.not_not, implies_true, true_and, and_true, wadd, wsub, wmul, decide_eq_true_eq, decide_eq_false_iff_not, Nat.succ_eq_add_one, imp_false, not_false_eq_true, not_true_eq_false, false_imp_iff, true_imp_iff] at *)
        obtain ⟨q1, q2, q3, q4, q5⟩ := nd_1 hx
        subst ha'
        have e : lenL (a.l ++ [v]) = a.l.length + 1 := by unfold lenL; simp
        exact ⟨⟨e.symm, fun i j hi hj => cv_push3 a.l v (by rw [← e]; exact hi) hj⟩, e.symm, Int.emod_eq_of_lt (by omega) (by omega), q1, q5⟩
      · (subst hL; subst hQ; simp only [L2, L3, std]; try simp only [sySet, reduceCtorEq, forall_const, Int.reduceToNat, Int.reduceAdd, Int.reduceSub, Int.cast_ofNat_Int, Int.toNat_natCast, Nat.le_eq, Nat.sub_eq, ne_eq, Decidable.not_not, implies_true, true_and, and_true, wadd, wsub, wmul, decide_eq_true_eq, decide_eq_false_iff_not, Nat.succ_eq_add_one, imp_false, not_false_eq_true, not_true_eq_false, false_imp_iff, true_imp_iff]) <;> decide
      · (subst hL; subst hQ; simp only [L2, L3, std] at *; try simp only [sySet, reduceCtorEq, forall_const, Int.reduceToNat, Int.reduceAdd, Int.reduceSub, Int.cast_ofNat_Int, Int.toNat_natCast, Nat.le_eq, Nat.sub_eq, ne_eq, Decidable.not_not, implies_true, true_and, and_true, wadd, wsub, wmul, decide_eq_true_eq, decide_eq_false_iff_not, Nat.succ_eq_add_one, imp_false, not_false_eq_true, not_true_eq_false, false_imp_iff, true_imp_iff] at *)
        exact nd_room (nd_1 hx).2.1
      · (subst hL; subst hQ; simp only [L2, L3, std]; try simp only [sySet, reduceCtorEq, forall_const, Int.reduceToNat, Int.reduceAdd, Int.reduceSub, Int.cast_ofNat_Int, Int.toNat_natCast, Nat.le_eq, Nat.sub_eq, ne_eq, Decidable.not_not, implies_true, true_and, and_true, wadd, wsub, wmul, decide_eq_true_eq, decide_eq_false_iff_not, Nat.succ_eq_add_one, imp_false, not_false_eq_true, not_true_eq_false, false_imp_iff, true_imp_iff]) <;> decide
      · (subst hL; subst hQ; simp only [L2, L3, std] at *; try simp only [sySet, reduceCtorEq, forall_const, Int.reduceToNat, Int.reduceAdd, Int.reduceSub, Int.cast_ofNat_Int, Int.toNat_natCast, Nat.le_eq, Nat.sub_eq, ne_eq, Decidable.not_not, implies_true, true_and, and_true, wadd, wsub, wmul, decide_eq_true_eq, decide_eq_false_iff_not, Nat.succ_eq_add_one, imp_false, not_false_eq_true, not_true_eq_false, false_imp_iff, true_imp_iff] at *)
        exact nd_in _
      · (subst hL; subst hQ; simp only [L2, L3, std]; try simp only [sySet, reduceCtorEq, forall_const, Int.reduceToNat, Int.reduceAdd, Int.reduceSub, Int.cast_ofNat_Int, Int.toNat_natCast, Nat.le_eq, Nat.sub_eq, ne_eq, Decidable.not_not, implies_true, true_and, and_true, wadd, wsub, wmul, decide_eq_true_eq, decide_eq_false_iff_not, Nat.succ_eq_add_one, imp_false, not_false_eq_true, not_true_eq_false, false_imp_iff, true_imp_iff]) <;> decide
      · (subst hL; subst hQ; simp only [L2, L3, std]; try simp only [sySet, reduceCtorEq, forall_const, Int.reduceToNat, Int.reduceAdd, Int.reduceSub, Int.cast_ofNat_Int, Int.toNat_natCast, Nat.le_eq, Nat.sub_eq, ne_eq, Decidable.not_not, implies_true, true_and, and_true, wadd, wsub, wmul, decide_eq_true_eq, decide_eq_false_iff_not, Nat.succ_eq_add_one, imp_false, not_false_eq_true, not_true_eq_false, false_imp_iff, true_imp_iff]) <;> decide
      · (cbv; try simp only [sat_need, sat_must, sat_ite, sat_done, sat_yes, sat_ex, sat_all, sat_sup, sat_and, sat_fail, true_and, and_true])
        (subst hL; subst hQ; simp only [L2, L3, std] at *; try simp only [sySet, reduceCtorEq, forall_const, Int.reduceToNat, Int.reduceAdd, Int.reduceSub, Int.cast_ofNat_Int, Int.toNat_natCast, Nat.le_eq, Nat.sub_eq, ne_eq, Decidable.not_not, implies_true, true_and, and_true, wadd, wsub, wmul, decide_eq_true_eq, decide_eq_false_iff_not, Nat.succ_eq_add_one, imp_false, not_false_eq_true, not_true_eq_false, false_imp_iff, true_imp_iff] at *)
        obtain ⟨q1, q2, q3, q4, q5⟩ := nd_1 hx
        subst ha'
        have e : lenL (a.l ++ [v]) = a.l.length + 1 := by unfold lenL; simp
        exact ⟨⟨e.symm, fun i j hi hj => cv_push4 a.l v (by rw [← e]; exact hi) hj⟩, e.symm, Int.emod_eq_of_lt (by omega) (by omega), q1, q5⟩
    | [a, b, c], hx =>
      (cbv; try simp only [sat_need, sat_must, sat_ite, sat_done, sat_yes, sat_ex, sat_all, sat_sup, sat_and, sat_fail, true_and, and_true])
      obtain ⟨a', ha'⟩ : ∃ a', a' = Lv.mk (a.left - 1) (a.l ++ [v]) := ⟨_, rfl⟩
      refine ⟨fun h0 => ?_, fun h0 => ⟨⟨?_, ?_, ?_, ?_, ?_, ⟨[a', b, c], s, f, v⟩, ?_⟩, ?_, ?_, ?_, ?_, ?_, ?_, ⟨[a', b, c], s, f, v⟩, ?_⟩⟩
      · (subst hL; subst hQ; simp only [L2, L3, std] at *; try simp only [sySet, reduceCtorEq, forall_const, Int.reduceToNat, Int.reduceAdd, Int.reduceSub, Int.cast_ofNat_Int, Int.toNat_natCast, Nat.le_eq, Nat.sub_eq, ne_eq, Decidable.not_not, implies_true, true_and, and_true, wadd, wsub, wmul, decide_eq_true_eq, decide_eq_false_iff_not, Nat.succ_eq_add_one, imp_false, not_false_eq_true, not_true_eq_false, false_imp_iff, true_imp_iff] at *)
        exact absurd h0 (by decide)
      · (subst hL; subst hQ; simp only [L2, L3, std]; try simp only [sySet, reduceCtorEq, forall_const, Int.reduceToNat, Int.reduceAdd, Int.reduceSub, Int.cast_ofNat_Int, Int.toNat_natCast, Nat.le_eq, Nat.sub_eq, ne_eq, Decidable.not_not, implies_true, true_and, and_true, wadd, wsub, wmul, decide_eq_true_eq, decide_eq_false_iff_not, Nat.succ_eq_add_one, imp_false, not_false_eq_true, not_true_eq_false, false_imp_iff, true_imp_iff]) <;> decide
      · (subst hL; subst hQ; simp only [L2, L3, std] at *; try simp only [sySet, reduceCtorEq, forall_const, Int.reduceToNat, Int.reduceAdd, Int.reduceSub, Int.cast_ofNat_Int, Int.toNat_natCast, Nat.le_eq, Nat.sub_eq, ne_eq, Decidable.not_not, implies_true, true_and, and_true, wadd, wsub, wmul, decide_eq_true_eq, decide_eq_false_iff_not, Nat.succ_eq_add_one, imp_false, not_false_eq_true, not_true_eq_false, false_imp_iff, true_imp_iff] at *)
        exact nd_room (nd_1 hx).2.1
      · (subst hL; subst hQ; simp only [L2, L3, std]; try simp only [sySet, reduceCtorEq, forall_const, Int.reduceToNat, Int.reduceAdd, Int.reduceSub, Int.cast_ofNat_Int, Int.toNat_natCast, Nat.le_eq, Nat.sub_eq, ne_eq, Decidable.not_not, implies_true, true_and, and_true, wadd, wsub, wmul, decide_eq_true_eq, decide_eq_false_iff_not, Nat.succ_eq_add_one, imp_false, not_false_eq_true, not_true_eq_false, false_imp_iff, true_imp_iff]) <;> decide
      · (subst hL; subst hQ; simp only [L2, L3, std]; try simp only [sySet, reduceCtorEq, forall_const, Int.reduceToNat, Int.reduceAdd, Int.reduceSub, Int.cast_ofNat_Int, Int.toNat_natCast, Nat.le_eq, Nat.sub_eq, ne_eq, Decidable.not_not, implies_true, true_and, and_true, wadd, wsub, wmul, decide_eq_true_eq, decide_eq_false_iff_not, Nat.succ_eq_add_one, imp_false, not_false_eq_true, not_true_eq_false, false_imp_iff, true_imp_iff]) <;> decide
      · (subst hL; subst hQ; simp only [L2, L3, std]; try simp only [sySet, reduceCtorEq, forall_const, Int.reduceToNat, Int.reduceAdd, Int.reduceSub, Int.cast_ofNat_Int, Int.toNat_natCast, Nat.le_eq, Nat.sub_eq, ne_eq, Decidable.not_not, implies_true, true_and, and_true, wadd, wsub, wmul, decide_eq_true_eq, decide_eq_false_iff_not, Nat.succ_eq_add_one, imp_false, not_false_eq_true, not_true_eq_false, false_imp_iff, true_imp_iff]) <;> decide
      · (cbv; try simp only [sat_need, sat_must, sat_ite, sat_done, sat_yes, sat_ex, sat_all, sat_sup, sat_and, sat_fail, true_and, and_true])
        (subst hL; subst hQ; simp only [L2, L3, std] at *; try simp only [sySet, reduceCtorEq, forall_const, Int.reduceToNat, Int.reduceAdd, Int.reduceSub, Int.cast_ofNat_Int, Int.toNat_natCast, Nat.le_eq, Nat.sub_eq, ne_eq, Decidable.not_not, implies_true, true_and, and_true, wadd, wsub, wmul, decide_eq_true_eq, decide_eq_false_iff_not, Nat.succ_eq_add_one, imp_false, not_false_eq_true, not_true_eq_false, false_imp_iff, true_imp_iff] at *)
        obtain ⟨q1, q2, q3, q4, q5⟩ := nd_1 hx
        subst ha'
        have e : lenL (a.l ++ [v]) = a.l.length + 1 := by unfold lenL; simp
        exact ⟨⟨e.symm, fun i j hi hj => cv_push3 a.l v (by rw [← e]; exact hi) hj⟩, e.symm, Int.emod_eq_of_lt (by omega) (by omega), q1, q5⟩
      · (subst hL; subst hQ; simp only [L2, L3, std]; try simp only [sySet, reduceCtorEq, forall_const, Int.reduceToNat, Int.reduceAdd, Int.reduceSub, Int.cast_ofNat_Int, Int.toNat_natCast, Nat.le_eq, Nat.sub_eq, ne_eq, Decidable.not_not, implies_true, true_and, and_true, wadd, wsub, wmul, decide_eq_true_eq, decide_eq_false_iff_not, Nat.succ_eq_add_one, imp_false, not_false_eq_true, not_true_eq_false, false_imp_iff, true_imp_iff]) <;> decide
      · (subst hL; subst hQ; simp only [L2, L3, std] at *; try simp only [sySet, reduceCtorEq, forall_const, Int.reduceToNat, Int.reduceAdd, Int.reduceSub, Int.cast_ofNat_Int, Int.toNat_natCast, Nat.le_eq, Nat.sub_eq, ne_eq, Decidable.not_not, implies_true, true_and, and_true, wadd, wsub, wmul, decide_eq_true_eq, decide_eq_false_iff_not, Nat.succ_eq_add_one, imp_false, not_false_eq_true, not_true_eq_false, false_imp_iff, true_imp_iff] at *)
        exact nd_room (nd_1 hx).2.1
      · (subst hL; subst hQ; simp only [L2, L3, std]; try simp only [sySet, reduceCtorEq, forall_const, Int.reduceToNat, Int.reduceAdd, Int.reduceSub, Int.cast_ofNat_Int, Int.toNat_natCast, Nat.le_eq, Nat.sub_eq, ne_eq, Decidable.not_not, implies_true, true_and, and_true, wadd, wsub, wmul, decide_eq_true_eq, decide_eq_false_iff_not, Nat.succ_eq_add_one, imp_false, not_false_eq_true, not_true_eq_false, false_imp_iff, true_imp_iff]) <;> decide
      · (subst hL; subst hQ; simp only [L2, L3, std] at *; try simp only [sySet, reduceCtorEq, forall_const, Int.reduceToNat, Int.reduceAdd, Int.reduceSub, Int.cast_ofNat_Int, Int.toNat_natCast, Nat.le_eq, Nat.sub_eq, ne_eq, Decidable.not_not, implies_true, true_and, and_true, wadd, wsub, wmul, decide_eq_true_eq, decide_eq_false_iff_not, Nat.succ_eq_add_one, imp_false, not_false_eq_true, not_true_eq_false, false_imp_iff, true_imp_iff] at *)
        exact nd_in _
      · (subst hL; subst hQ; simp only [L2, L3, std]; try simp only [sySet, reduceCtorEq, forall_const, Int.reduceToNat, Int.reduceAdd, Int.reduceSub, Int.cast_ofNat_Int, Int.toNat_natCast, Nat.le_eq, Nat.sub_eq, ne_eq, Decidable.not_not, implies_true, true_and, and_true, wadd, wsub, wmul, decide_eq_true_eq, decide_eq_false_iff_not, Nat.succ_eq_add_one, imp_false, not_false_eq_true, not_true_eq_false, false_imp_iff, true_imp_iff]) <;> decide
      · (subst hL; subst hQ; simp only [L2, L3, std]; try simp only [sySet, reduceCtorEq, forall_const, Int.reduceToNat, Int.reduceAdd, Int.reduceSub, Int.cast_ofNat_Int, Int.toNat_natCast, Nat.le_eq, Nat.sub_eq, ne_eq, Decidable.not_not, implies_true, true_and, and_true, wadd, wsub, wmul, decide_eq_true_eq, decide_eq_false_iff_not, Nat.succ_eq_add_one, imp_false, not_false_eq_true, not_true_eq_false, false_imp_iff, true_imp_iff]) <;> decide
      · (cbv; try simp only [sat_need, sat_must, sat_ite, sat_done, sat_yes, sat_ex, sat_all, sat_sup, sat_and, sat_fail, true_and, and_true])
        (subst hL; subst hQ; simp only [L2, L3, std] at *; try simp only [sySet, reduceCtorEq, forall_const, Int.reduceToNat, Int.reduceAdd, Int.reduceSub, Int.cast_ofNat_Int, Int.toNat_natCast, Nat.le_eq, Nat.sub_eq, ne_eq, Decidable.not_not, implies_true, true_and, and_true, wadd, wsub, wmul, decide_eq_true_eq, decide_eq_false_iff_not, Nat.succ_eq_add_one, imp_false, not_false_eq_true, not_true_eq_false, false_imp_iff, true_imp_iff] at *)
        obtain ⟨q1, q2, q3, q4, q5⟩ := nd_1 hx
        subst ha'
        have e : lenL (a.l ++ [v]) = a.l.length + 1 := by unfold lenL; simp
        exact ⟨⟨e.symm, fun i j hi hj => cv_push4 a.l v (by rw [← e]; exact hi) hj⟩, e.symm, Int.emod_eq_of_lt (by omega) (by omega), q1, q5⟩
    | [a, b, c, d], hx =>
      (cbv; try simp only [sat_need, sat_must, sat_ite, sat_done, sat_yes, sat_ex, sat_all, sat_sup, sat_and, sat_fail, true_and, and_true])
      obtain ⟨a', ha'⟩ : ∃ a', a' = Lv.mk (a.left - 1) (a.l ++ [v]) := ⟨_, rfl⟩
      refine ⟨fun h0 => ?_, fun h0 => ⟨⟨?_, ?_, ?_, ?_, ?_, ⟨[a', b, c, d], s, f, v⟩, ?_⟩, ?_, ?_, ?_, ?_, ?_, ?_, ⟨[a', b, c, d], s, f, v⟩, ?_⟩⟩
      · (subst hL; subst hQ; simp only [L2, L3, std] at *; try simp only [sySet, reduceCtorEq, forall_const, Int.reduceToNat, Int.reduceAdd, Int.reduceSub, Int.cast_ofNat_Int, Int.toNat_natCast, Nat.le_eq, Nat.sub_eq, ne_eq, Decidable.not_not, implies_true, true_and, and_true, wadd, wsub, wmul, decide_eq_true_eq, decide_eq_false_iff_not, Nat.succ_eq_add_one, imp_false, not_false_eq_true, not_true_eq_false, false_imp_iff, true_imp_iff] at *)
        exact absurd h0 (by decide)
      · (subst hL; subst hQ; simp only [L2, L3, std]; try simp only [sySet, reduceCtorEq, forall_const, Int.reduceToNat, Int.reduceAdd, Int.reduceSub, Int.cast_ofNat_Int, Int.toNat_natCast, Nat.le_eq, Nat.sub_eq, ne_eq, Decidable.not_not, implies_true, true_and, and_true, wadd, wsub, wmul, decide_eq_true_eq, decide_eq_false_iff_not, Nat.succ_eq_add_one, imp_false, not_false_eq_true, not_true_eq_false, false_imp_iff, true_imp_iff]) <;> decide
      · (subst hL; subst hQ; simp only [L2, L3, std] at *; try simp only [sySet, reduceCtorEq, forall_const, Int.reduceToNat, Int.reduceAdd, Int.reduceSub, Int.cast_ofNat_Int, Int.toNat_natCast, Nat.le_eq, Nat.sub_eq, ne_eq, Decidable.not_not, implies_true, true_and, and_true, wadd, wsub, wmul, decide_eq_true_eq, decide_eq_false_iff_not, Nat.succ_eq_add_one, imp_false, not_false_eq_true, not_true_eq_false, false_imp_iff, true_imp_iff] at *)
        exact nd_room (nd_1 hx).2.1
      · (subst hL; subst hQ; simp only [L2, L3, std]; try simp only [sySet, reduceCtorEq, forall_const, Int.reduceToNat, Int.reduceAdd, Int.reduceSub, Int.cast_ofNat_Int, Int.toNat_natCast, Nat.le_eq, Nat.sub_eq, ne_eq, Decidable.not_not, implies_true, true_and, and_true, wadd, wsub, wmul, decide_eq_true_eq, decide_eq_false_iff_not, Nat.succ_eq_add_one, imp_false, not_false_eq_true, not_true_eq_false, false_imp_iff, true_imp_iff]) <;> decide
      · (subst hL; subst hQ; simp only [L2, L3, std]; try simp only [sySet, reduceCtorEq, forall_const, Int.reduceToNat, Int.reduceAdd, Int.reduceSub, Int.cast_ofNat_Int, Int.toNat_natCast, Nat.le_eq, Nat.sub_eq, ne_eq, Decidable.not_not, implies_true, true_and, and_true, wadd, wsub, wmul, decide_eq_true_eq, decide_eq_false_iff_not, Nat.succ_eq_add_one, imp_false, not_false_eq_true, not_true_eq_false, false_imp_iff, true_imp_iff]) <;> decide
      · (subst hL; subst hQ; simp only [L2, L3, std]; try simp only [sySet, reduceCtorEq, forall_const, Int.reduceToNat, Int.reduceAdd, Int.reduceSub, Int.cast_ofNat_Int, Int.toNat_natCast, Nat.le_eq, Nat.sub_eq, ne_eq, Decidable.not_not, implies_true, true_and, and_true, wadd, wsub, wmul, decide_eq_true_eq, decide_eq_false_iff_not, Nat.succ_eq_add_one, imp_false, not_false_eq_true, not_true_eq_false, false_imp_iff, true_imp_iff]) <;> decide
      · (cbv; try simp only [sat_need, sat_must, sat_ite, sat_done, sat_yes, sat_ex, sat_all, sat_sup, sat_and, sat_fail, true_and, and_true])
        (subst hL; subst hQ; simp only [L2, L3, std] at *; try simp only [sySet, reduceCtorEq, forall_const, Int.reduceToNat, Int.reduceAdd, Int.reduceSub, Int.cast_ofNat_Int, Int.toNat_natCast, Nat.le_eq, Nat.sub_eq, ne_eq, Decidable.not_not, implies_true, true_and, and_true, wadd, wsub, wmul, decide_eq_true_eq, decide_eq_false_iff_not, Nat.succ_eq_add_one, imp_false, not_false_eq_true, not_true_eq_false, false_imp_iff, true_imp_iff] at *)
        obtain ⟨q1, q2, q3, q4, q5⟩ := nd_1 hx
        subst ha'
        have e : lenL (a.l ++ [v]) = a.l.length + 1 := by unfold lenL; simp
        exact ⟨⟨e.symm, fun i j hi hj => cv_push3 a.l v (by rw [← e]; exact hi) hj⟩, e.symm, Int.emod_eq_of_lt (by omega) (by omega), q1, q5⟩
      · (subst hL; subst hQ; simp only [L2, L3, std]; try simp only [sySet, reduceCtorEq, forall_const, Int.reduceToNat, Int.reduceAdd, Int.reduceSub, Int.cast_ofNat_Int, Int.toNat_natCast, Nat.le_eq, Nat.sub_eq, ne_eq, Decidable.not_not, implies_true, true_and, and_true, wadd, wsub, wmul, decide_eq_true_eq, decide_eq_false_iff_not, Nat.succ_eq_add_one, imp_false, not_false_eq_true, not_true_eq_false, false_imp_iff, true_imp_iff]) <;> decide
      · (subst hL; subst hQ; simp only [L2, L3, std] at *; try simp only [sySet, reduceCtorEq, forall_const, Int.reduceToNat, Int.reduceAdd, Int.reduceSub, Int.cast_ofNat_Int, Int.toNat_natCast, Nat.le_eq, Nat.sub_eq, ne_eq, Decidable.not_not, implies_true, true_and, and_true, wadd, wsub, wmul, decide_eq_true_eq, decide_eq_false_iff_not, Nat.succ_eq_add_one, imp_false, not_false_eq_true, not_true_eq_false, false_imp_iff, true_imp_iff] at *)
        exact nd_room (nd_1 hx).2.1
      · (subst hL; subst hQ; simp only [L2, L3, std]; try simp only [sySet, reduceCtorEq, forall_const, Int.reduceToNat, Int.reduceAdd, Int.reduceSub, Int.cast_ofNat_Int, Int.toNat_natCast, Nat.le_eq, Nat.sub_eq, ne_eq, Decidable.not_not, implies_true, true_and, and_true, wadd, wsub, wmul, decide_eq_true_eq, decide_eq_false_iff_not, Nat.succ_eq_add_one, imp_false, not_false_eq_true, not_true_eq_false, false_imp_iff, true_imp_iff]) <;> decide
      · (subst hL; subst hQ; simp only [L2, L3, std] at *; try simp only [sySet, reduceCtorEq, forall_const, Int.reduceToNat, Int.reduceAdd, Int.reduceSub, Int.cast_ofNat_Int, Int.toNat_natCast, Nat.le_eq, Nat.sub_eq, ne_eq, Decidable.not_not, implies_true, true_and, and_true, wadd, wsub, wmul, decide_eq_true_eq, decide_eq_false_iff_not, Nat.succ_eq_add_one, imp_false, not_false_eq_true, not_true_eq_false, false_imp_iff, true_imp_iff] at *)
        exact nd_in _
      · (subst hL; subst hQ; simp only [L2, L3, std]; try simp only [sySet, reduceCtorEq, forall_const, Int.reduceToNat, Int.reduceAdd, Int.reduceSub, Int.cast_ofNat_Int, Int.toNat_natCast, Nat.le_eq, Nat.sub_eq, ne_eq, Decidable.not_not, implies_true, true_and, and_true, wadd, wsub, wmul, decide_eq_true_eq, decide_eq_false_iff_not, Nat.succ_eq_add_one, imp_false, not_false_eq_true, not_true_eq_false, false_imp_iff, true_imp_iff]) <;> decide
      · (subst hL; subst hQ; simp only [L2, L3, std]; try simp only [sySet, reduceCtorEq, forall_const, Int.reduceToNat, Int.reduceAdd, Int.reduceSub, Int.cast_ofNat_Int, Int.toNat_natCast, Nat.le_eq, Nat.sub_eq, ne_eq, Decidable.not_not, implies_true, true_and, and_true, wadd, wsub, wmul, decide_eq_true_eq, decide_eq_false_iff_not, Nat.succ_eq_add_one, imp_false, not_false_eq_true, not_true_eq_false, false_imp_iff, true_imp_iff]) <;> decide
      · (cbv; try simp only [sat_need, sat_must, sat_ite, sat_done, sat_yes, sat_ex, sat_all, sat_sup, sat_and, sat_fail, true_and, and_true])
        (subst hL; subst hQ; simp only [L2, L3, std] at *; try simp only [sySet, reduceCtorEq, forall_const, Int.reduceToNat, Int.reduceAdd, Int.reduceSub, Int.cast_ofNat_Int, Int.toNat_natCast, Nat.le_eq, Nat.sub_eq, ne_eq, Decidable.not_not, implies_true, true_and, and_true, wadd, wsub, wmul, decide_eq_true_eq, decide_eq_false_iff_not, Nat.succ_eq_add_one, imp_false, not_false_eq_true, not_true_eq_false, false_imp_iff, true_imp_iff] at *)
        obtain ⟨q1, q2, q3, q4, q5⟩ := nd_1 hx
        subst ha'
        have e : lenL (a.l ++ [v]) = a.l.length + 1 := by unfold lenL; simp
        exact ⟨⟨e.symm, fun i j hi hj => cv_push4 a.l v (by rw [← e]; exact hi) hj⟩, e.symm, Int.emod_eq_of_lt (by omega) (by omega), q1, q5⟩
    | [a, b, c, d, e], hx =>
      (cbv; try simp only [sat_need, sat_must, sat_ite, sat_done, sat_yes, sat_ex, sat_all, sat_sup, sat_and, sat_fail, true_and, and_true])
      obtain ⟨a', ha'⟩ : ∃ a', a' = Lv.mk (a.left - 1) (a.l ++ [v]) := ⟨_, rfl⟩
      refine ⟨fun h0 => ?_, fun h0 => ⟨⟨?_, ?_, ?_, ?_, ?_, ⟨[a', b, c, d, e], s, f, v⟩, ?_⟩, ?_, ?_, ?_, ?_, ?_, ?_, ⟨[a', b, c, d, e], s, f, v⟩, ?_⟩⟩
      · (subst hL; subst hQ; simp only [L2, L3, std] at *; try simp only [sySet, reduceCtorEq, forall_const, Int.reduceToNat, Int.reduceAdd, Int.reduceSub, Int.cast_ofNat_Int, Int.toNat_natCast, Nat.le_eq, Nat.sub_eq, ne_eq, Decidable.not_not, implies_true, true_and, and_true, wadd, wsub, wmul, decide_eq_true_eq, decide_eq_false_iff_not, Nat.succ_eq_add_one, imp_false, not_false_eq_true, not_true_eq_false, false_imp_iff, true_imp_iff] at *)
        exact absurd h0 (by decide)
      · (subst hL; subst hQ; simp only [L2, L3, std]; try simp only [sySet, reduceCtorEq, forall_const, Int.reduceToNat, Int.reduceAdd, Int.reduceSub, Int.cast_ofNat_Int, Int.toNat_natCast, Nat.le_eq, Nat.sub_eq, ne_eq, Decidable.not_not, implies_true, true_and, and_true, wadd, wsub, wmul, decide_eq_true_eq, decide_eq_false_iff_not, Nat.succ_eq_add_one, imp_false, not_false_eq_true, not_true_eq_false, false_imp_iff, true_imp_iff]) <;> decide
      · (subst hL; subst hQ; simp only [L2, L3, std] at *; try simp only [sySet, reduceCtorEq, forall_const, Int.reduceToNat, Int.reduceAdd, Int.reduceSub, Int.cast_ofNat_Int, Int.toNat_natCast, Nat.le_eq, Nat.sub_eq, ne_eq, Decidable.not_not, implies_true, true_and, and_true, wadd, wsub, wmul, decide_eq_true_eq, decide_eq_false_iff_not, Nat.succ_eq_add_one, imp_false, not_false_eq_true, not_true_eq_false, false_imp_iff, true_imp_iff] at *)
        exact nd_room (nd_1 hx).2.1
      · (subst hL; subst hQ; simp only [L2, L3, std]; try simp only [sySet, reduceCtorEq, forall_const, Int.reduceToNat, Int.reduceAdd, Int.reduceSub, Int.cast_ofNat_Int, Int.toNat_natCast, Nat.le_eq, Nat.sub_eq, ne_eq, Decidable.not_not, implies_true, true_and, and_true, wadd, wsub, wmul, decide_eq_true_eq, decide_eq_false_iff_not, Nat.succ_eq_add_one, imp_false, not_false_eq_true, not_true_eq_false, false_imp_iff, true_imp_iff]) <;> decide
      · (subst hL; subst hQ; simp only [L2, L3, std]; try simp only [sySet, reduceCtorEq, forall_const, Int.reduceToNat, Int.reduceAdd, Int.reduceSub, Int.cast_ofNat_Int, Int.toNat_natCast, Nat.le_eq, Nat.sub_eq, ne_eq, Decidable.not_not, implies_true, true_and, and_true, wadd, wsub, wmul, decide_eq_true_eq, decide_eq_false_iff_not, Nat.succ_eq_add_one, imp_false, not_false_eq_true, not_true_eq_false, false_imp_iff, true_imp_iff]) <;> decide
      · (subst hL; subst hQ; simp only [L2, L3, std]; try simp only [sySet, reduceCtorEq, forall_const, Int.reduceToNat, Int.reduceAdd, Int.reduceSub, Int.cast_ofNat_Int, Int.toNat_natCast, Nat.le_eq, Nat.sub_eq, ne_eq, Decidable.not_not, implies_true, true_and, and_true, wadd, wsub, wmul, decide_eq_true_eq, decide_eq_false_iff_not, Nat.succ_eq_add_one, imp_false, not_false_eq_true, not_true_eq_false, false_imp_iff, true_imp_iff]) <;> decide
      · (cbv; try simp only [sat_need, sat_must, sat_ite, sat_done, sat_yes, sat_ex, sat_all, sat_sup, sat_and, sat_fail, true_and, and_true])
        (subst hL; subst hQ; simp only [L2, L3, std] at *; try simp only [sySet, reduceCtorEq, forall_const, Int.reduceToNat, Int.reduceAdd, Int.reduceSub, Int.cast_ofNat_Int, Int.toNat_natCast, Nat.le_eq, Nat.sub_eq, ne_eq, Decidable.not_not, implies_true, true_and, and_true, wadd, wsub, wmul, decide_eq_true_eq, decide_eq_false_iff_not, Nat.succ_eq_add_one, imp_false, not_false_eq_true, not_true_eq_false, false_imp_iff, true_imp_iff] at *)
        obtain ⟨q1, q2, q3, q4, q5⟩ := nd_1 hx
        subst ha'
        have e : lenL (a.l ++ [v]) = a.l.length + 1 := by unfold lenL; simp
        exact ⟨⟨e.symm, fun i j hi hj => cv_push3 a.l v (by rw [← e]; exact hi) hj⟩, e.symm, Int.emod_eq_of_lt (by omega) (by omega), q1, q5⟩
      · (subst hL; subst hQ; simp only [L2, L3, std]; try simp only [sySet, reduceCtorEq, forall_const, Int.reduceToNat, Int.reduceAdd, Int.reduceSub, Int.cast_ofNat_Int, Int.toNat_natCast, Nat.le_eq, Nat.sub_eq, ne_eq, Decidable.not_not, implies_true, true_and, and_true, wadd, wsub, wmul, decide_eq_true_eq, decide_eq_false_iff_not, Nat.succ_eq_add_one, imp_false, not_false_eq_true, not_true_eq_false, false_imp_iff, true_imp_iff]) <;> decide
      · (subst hL; subst hQ; simp only [L2, L3, std] at *; try simp only [sySet, reduceCtorEq, forall_const, Int.reduceToNat, Int.reduceAdd, Int.reduceSub, Int.cast_ofNat_Int, Int.toNat_natCast, Nat.le_eq, Nat.sub_eq, ne_eq, Decidable.not_not, implies_true, true_and, and_true, wadd, wsub, wmul, decide_eq_true_eq, decide_eq_false_iff_not, Nat.succ_eq_add_one, imp_false, not_false_eq_true, not_true_eq_false, false_imp_iff, true_imp_iff] at *)
        exact nd_room (nd_1 hx).2.1
      · (subst hL; subst hQ; simp only [L2, L3, std]; try simp only [sySet, reduceCtorEq, forall_const, Int.reduceToNat, Int.reduceAdd, Int.reduceSub, Int.cast_ofNat_Int, Int.toNat_natCast, Nat.le_eq, Nat.sub_eq, ne_eq, Decidable.not_not, implies_true, true_and, and_true, wadd, wsub, wmul, decide_eq_true_eq, decide_eq_false_iff_not, Nat.succ_eq_add_one, imp_false, not_false_eq_true, not_true_eq_false, false_imp_iff, true_imp_iff]) <;> decide
      · (subst hL; subst hQ; simp only [L2, L3, std] at *; try simp only [sySet, reduceCtorEq, forall_const, Int.reduceToNat, Int.reduceAdd, Int.reduceSub, Int.cast_ofNat_Int, Int.toNat_natCast, Nat.le_eq, Nat.sub_eq, ne_eq, Decidable.not_not, implies_true, true_and, and_true, wadd, wsub, wmul, decide_eq_true_eq, decide_eq_false_iff_not, Nat.succ_eq_add_one, imp_false, not_false_eq_true, not_true_eq_false, false_imp_iff, true_imp_iff] at *)
        exact nd_in _
      · (subst hL; subst hQ; simp only [L2, L3, std]; try simp only [sySet, reduceCtorEq, forall_const, Int.reduceToNat, Int.reduceAdd, Int.reduceSub, Int.cast_ofNat_Int, Int.toNat_natCast, Nat.le_eq, Nat.sub_eq, ne_eq, Decidable.not_not, implies_true, true_and, and_true, wadd, wsub, wmul, decide_eq_true_eq, decide_eq_false_iff_not, Nat.succ_eq_add_one, imp_false, not_false_eq_true, not_true_eq_false, false_imp_iff, true_imp_iff]) <;> decide
      · (subst hL; subst hQ; simp only [L2, L3, std]; try simp only [sySet, reduceCtorEq, forall_const, Int.reduceToNat, Int.reduceAdd, Int.reduceSub, Int.cast_ofNat_Int, Int.toNat_natCast, Nat.le_eq, Nat.sub_eq, ne_eq, Decidable.not_not, implies_true, true_and, and_true, wadd, wsub, wmul, decide_eq_true_eq, decide_eq_false_iff_not, Nat.succ_eq_add_one, imp_false, not_false_eq_true, not_true_eq_false, false_imp_iff, true_imp_iff]) <;> decide
      · (cbv; try simp only [sat_need, sat_must, sat_ite, sat_done, sat_yes, sat_ex, sat_all, sat_sup, sat_and, sat_fail, true_and, and_true])
        (subst hL; subst hQ; simp only [L2, L3, std] at *; try simp only [sySet, reduceCtorEq, forall_const, Int.reduceToNat, Int.reduceAdd, Int.reduceSub, Int.cast_ofNat_Int, Int.toNat_natCast, Nat.le_eq, Nat.sub_eq, ne_eq, Decidable.not_not, implies_true, true_and, and_true, wadd, wsub, wmul, decide_eq_true_eq, decide_eq_false_iff_not, Nat.succ_eq_add_one, imp_false, not_false_eq_true, not_true_eq_false, false_imp_iff, true_imp_iff] at *)
        obtain ⟨q1, q2, q3, q4, q5⟩ := nd_1 hx
        subst ha'
        have e : lenL (a.l ++ [v]) = a.l.length + 1 := by unfold lenL; simp
        exact ⟨⟨e.symm, fun i j hi hj => cv_push4 a.l v (by rw [← e]; exact hi) hj⟩, e.symm, Int.emod_eq_of_lt (by omega) (by omega), q1, q5⟩
    | [a, b, c, d, e, k], hx =>
      (cbv; try simp only [sat_need, sat_must, sat_ite, sat_done, sat_yes, sat_ex, sat_all, sat_sup, sat_and, sat_fail, true_and, and_true])
      obtain ⟨a', ha'⟩ : ∃ a', a' = Lv.mk (a.left - 1) (a.l ++ [v]) := ⟨_, rfl⟩
      refine ⟨fun h0 => ?_, fun h0 => ⟨⟨?_, ?_, ?_, ?_, ?_, ⟨[a', b, c, d, e, k], s, f, v⟩, ?_⟩, ?_, ?_, ?_, ?_, ?_, ?_, ⟨[a', b, c, d, e, k], s, f, v⟩, ?_⟩⟩
      · (subst hL; subst hQ; simp only [L2, L3, std] at *; try simp only [sySet, reduceCtorEq, forall_const, Int.reduceToNat, Int.reduceAdd, Int.reduceSub, Int.cast_ofNat_Int, Int.toNat_natCast, Nat.le_eq, Nat.sub_eq, ne_eq, Decidable.not_not, implies_true, true_and, and_true, wadd, wsub, wmul, decide_eq_true_eq, decide_eq_false_iff_not, Nat.succ_eq_add_one, imp_false, not_false_eq_true, not_true_eq_false, false_imp_iff, true_imp_iff] at *)
        exact absurd h0 (by decide)
      · (subst hL; subst hQ; simp only [L2, L3, std]; try simp only [sySet, reduceCtorEq, forall_const, Int.reduceToNat, Int.reduceAdd, Int.reduceSub, Int.cast_ofNat_Int, Int.toNat_natCast, Nat.le_eq, Nat.sub_eq, ne_eq, Decidable.not_not, implies_true, true_and, and_true, wadd, wsub, wmul, decide_eq_true_eq, decide_eq_false_iff_not, Nat.succ_eq_add_one, imp_false, not_false_eq_true, not_true_eq_false, false_imp_iff, true_imp_iff]) <;> decide
      · (subst hL; subst hQ; simp only [L2, L3, std] at *; try simp only [sySet, reduceCtorEq, forall_const, Int.reduceToNat, Int.reduceAdd, Int.reduceSub, Int.cast_ofNat_Int, Int.toNat_natCast, Nat.le_eq, Nat.sub_eq, ne_eq, Decidable.not_not, implies_true, true_and, and_true, wadd, wsub, wmul, decide_eq_true_eq, decide_eq_false_iff_not, Nat.succ_eq_add_one, imp_false, not_false_eq_true, not_true_eq_false, false_imp_iff, true_imp_iff] at *)
        exact nd_room (nd_1 hx).2.1
      · (subst hL; subst hQ; simp only [L2, L3, std]; try simp only [sySet, reduceCtorEq, forall_const, Int.reduceToNat, Int.reduceAdd, Int.reduceSub, Int.cast_ofNat_Int, Int.toNat_natCast, Nat.le_eq, Nat.sub_eq, ne_eq, Decidable.not_not, implies_true, true_and, and_true, wadd, wsub, wmul, decide_eq_true_eq, decide_eq_false_iff_not, Nat.succ_eq_add_one, imp_false, not_false_eq_true, not_true_eq_false, false_imp_iff, true_imp_iff]) <;> decide
      · (subst hL; subst hQ; simp only [L2, L3, std]; try simp only [sySet, reduceCtorEq, forall_const, Int.reduceToNat, Int.reduceAdd, Int.reduceSub, Int.cast_ofNat_Int, Int.toNat_natCast, Nat.le_eq, Nat.sub_eq, ne_eq, Decidable.not_not, implies_true, true_and, and_true, wadd, wsub, wmul, decide_eq_true_eq, decide_eq_false_iff_not, Nat.succ_eq_add_one, imp_false, not_false_eq_true, not_true_eq_false, false_imp_iff, true_imp_iff]) <;> decide
      · (subst hL; subst hQ; simp only [L2, L3, std]; try simp only [sySet, reduceCtorEq, forall_const, Int.reduceToNat, Int.reduceAdd, Int.reduceSub, Int.cast_ofNat_Int, Int.toNat_natCast, Nat.le_eq, Nat.sub_eq, ne_eq, Decidable.not_not, implies_true, true_and, and_true, wadd, wsub, wmul, decide_eq_true_eq, decide_eq_false_iff_not, Nat.succ_eq_add_one, imp_false, not_false_eq_true, not_true_eq_false, false_imp_iff, true_imp_iff]) <;> decide
      · (cbv; try simp only [sat_need, sat_must, sat_ite, sat_done, sat_yes, sat_ex, sat_all, sat_sup, sat_and, sat_fail, true_and, and_true])
        (subst hL; subst hQ; simp only [L2, L3, std] at *; try simp only [sySet, reduceCtorEq, forall_const, Int.reduceToNat, Int.reduceAdd, Int.reduceSub, Int.cast_ofNat_Int, Int.toNat_natCast, Nat.le_eq, Nat.sub_eq, ne_eq, Decidable.not_not, implies_true, true_and, and_true, wadd, wsub, wmul, decide_eq_true_eq, decide_eq_false_iff_not, Nat.succ_eq_add_one, imp_false, not_false_eq_true, not_true_eq_false, false_imp_iff, true_imp_iff] at *)
        obtain ⟨q1, q2, q3, q4, q5⟩ := nd_1 hx
        subst ha'
        have e : lenL (a.l ++ [v]) = a.l.length + 1 := by unfold lenL; simp
        exact ⟨⟨e.symm, fun i j hi hj => cv_push3 a.l v (by rw [← e]; exact hi) hj⟩, e.symm, Int.emod_eq_of_lt (by omega) (by omega), q1, q5⟩
      · (subst hL; subst hQ; simp only [L2, L3, std]; try simp only [sySet, reduceCtorEq, forall_const, Int.reduceToNat, Int.reduceAdd, Int.reduceSub, Int.cast_ofNat_Int, Int.toNat_natCast, Nat.le_eq, Nat.sub_eq, ne_eq, Decidable.not_not, implies_true, true_and, and_true, wadd, wsub, wmul, decide_eq_true_eq, decide_eq_false_iff_not, Nat.succ_eq_add_one, imp_false, not_false_eq_true, not_true_eq_false, false_imp_iff, true_imp_iff]) <;> decide
      · (subst hL; subst hQ; simp only [L2, L3, std] at *; try simp only [sySet, reduceCtorEq, forall_const, Int.reduceToNat, Int.reduceAdd, Int.reduceSub, Int.cast_ofNat_Int, Int.toNat_natCast, Nat.le_eq, Nat.sub_eq, ne_eq, Decidable.not_not, implies_true, true_and, and_true, wadd, wsub, wmul, decide_eq_true_eq, decide_eq_false_iff_not, Nat.succ_eq_add_one, imp_false, not_false_eq_true, not_true_eq_false, false_imp_iff, true_imp_iff] at *)
        exact nd_room (nd_1 hx).2.1
      · (subst hL; subst hQ; simp only [L2, L3, std]; try simp only [sySet, reduceCtorEq, forall_const, Int.reduceToNat, Int.reduceAdd, Int.reduceSub, Int.cast_ofNat_Int, Int.toNat_natCast, Nat.le_eq, Nat.sub_eq, ne_eq, Decidable.not_not, implies_true, true_and, and_true, wadd, wsub, wmul, decide_eq_true_eq, decide_eq_false_iff_not, Nat.succ_eq_add_one, imp_false, not_false_eq_true, not_true_eq_false, false_imp_iff, true_imp_iff]) <;> decide
      · (subst hL; subst hQ; simp only [L2, L3, std] at *; try simp only [sySet, reduceCtorEq, forall_const, Int.reduceToNat, Int.reduceAdd, Int.reduceSub, Int.cast_ofNat_Int, Int.toNat_natCast, Nat.le_eq, Nat.sub_eq, ne_eq, Decidable.not_not, implies_true, true_and, and_true, wadd, wsub, wmul, decide_eq_true_eq, decide_eq_false_iff_not, Nat.succ_eq_add_one, imp_false, not_false_eq_true, not_true_eq_false, false_imp_iff, true_imp_iff] at *)
        exact nd_in _
      · (subst hL; subst hQ; simp only [L2, L3, std]; try simp only [sySet, reduceCtorEq, forall_const, Int.reduceToNat, Int.reduceAdd, Int.reduceSub, Int.cast_ofNat_Int, Int.toNat_natCast, Nat.le_eq, Nat.sub_eq, ne_eq, Decidable.not_not, implies_true, true_and, and_true, wadd, wsub, wmul, decide_eq_true_eq, decide_eq_false_iff_not, Nat.succ_eq_add_one, imp_false, not_false_eq_true, not_true_eq_false, false_imp_iff, true_imp_iff]) <;> decide
      · (subst hL; subst hQ; simp only [L2, L3, std]; try simp only [sySet, reduceCtorEq, forall_const, Int.reduceToNat, Int.reduceAdd, Int.reduceSub, Int.cast_ofNat_Int, Int.toNat_natCast, Nat.le_eq, Nat.sub_eq, ne_eq, Decidable.not_not, implies_true, true_and, and_true, wadd, wsub, wmul, decide_eq_true_eq, decide_eq_false_iff_not, Nat.succ_eq_add_one, imp_false, not_false_eq_true, not_true_eq_false, false_imp_iff, true_imp_iff]) <;> decide
      · (cbv; try simp only [sat_need, sat_must, sat_ite, sat_done, sat_yes, sat_ex, sat_all, sat_sup, sat_and, sat_fail, true_and, and_true])
        (subst hL; subst hQ; simp only [L2, L3, std] at *; try simp only [sySet, reduceCtorEq, forall_const, Int.reduceToNat, Int.reduceAdd, Int.reduceSub, Int.cast_ofNat_Int, Int.toNat_natCast, Nat.le_eq, Nat.sub_eq, ne_eq, Decidable.not_not, implies_true, true_and, and_true, wadd, wsub, wmul, decide_eq_true_eq, decide_eq_false_iff_not, Nat.succ_eq_add_one, imp_false, not_false_eq_true, not_true_eq_false, false_imp_iff, true_imp_iff] at *)
        obtain ⟨q1, q2, q3, q4, q5⟩ := nd_1 hx
        subst ha'
        have e : lenL (a.l ++ [v]) = a.l.length + 1 := by unfold lenL; simp
        exact ⟨⟨e.symm, fun i j hi hj => cv_push4 a.l v (by rw [← e]; exact hi) hj⟩, e.symm, Int.emod_eq_of_lt (by omega) (by omega), q1, q5⟩
    | a :: b :: c :: d :: e :: k :: m :: r, hx =>
      have h7 : (a :: b :: c :: d :: e :: k :: m :: r).length ≤ 6 := by { (subst hL; subst hQ; simp only [L2, L3, std] at *; try simp only [sySet, reduceCtorEq, forall_const, Int.reduceToNat, Int.reduceAdd, Int.reduceSub, Int.cast_ofNat_Int, Int.toNat_natCast, Nat.le_eq, Nat.sub_eq, ne_eq, Decidable.not_not, implies_true, true_and, and_true, wadd, wsub, wmul, decide_eq_true_eq, decide_eq_false_iff_not, Nat.succ_eq_add_one, imp_false, not_false_eq_true, not_true_eq_false, false_imp_iff, true_imp_iff] at *); exact hx.1 }
      exact absurd h7 (by simp)
  · obtain ⟨st, s, f, v⟩ := x
    cbv at hx
    match st, hx with
    | [], hx =>
      obtain ⟨_, ⟨a, r, h, _⟩, _⟩ : nInv2 s0 ⟨[], s, f, v⟩ := by (subst hL; subst hQ; simp only [L2, L3, std] at *; try simp only [sySet, reduceCtorEq, forall_const, Int.reduceToNat, Int.reduceAdd, Int.reduceSub, Int.cast_ofNat_Int, Int.toNat_natCast, Nat.le_eq, Nat.sub_eq, ne_eq, Decidable.not_not, implies_true, true_and, and_true, wadd, wsub, wmul, decide_eq_true_eq, decide_eq_false_iff_not, Nat.succ_eq_add_one, imp_false, not_false_eq_true, not_true_eq_false, false_imp_iff, true_imp_iff] at *); exact hx
      cases h
    | [a], hx =>
      (cbv; try simp only [sat_need, sat_must, sat_ite, sat_done, sat_yes, sat_ex, sat_all, sat_sup, sat_and, sat_fail, true_and, and_true])
      obtain ⟨v', hv'⟩ : ∃ v', v' = CV.mk 3 0 [] a.l := ⟨_, rfl⟩
      refine ⟨?_, fun h0 => ⟨?_, ⟨[], s, f, v'⟩, ?_⟩, fun h0 => ⟨⟨[a], s, f, v⟩, ?_⟩⟩
      · (subst hL; subst hQ; simp only [L2, L3, std]; try simp only [sySet, reduceCtorEq, forall_const, Int.reduceToNat, Int.reduceAdd, Int.reduceSub, Int.cast_ofNat_Int, Int.toNat_natCast, Nat.le_eq, Nat.sub_eq, ne_eq, Decidable.not_not, implies_true, true_and, and_true, wadd, wsub, wmul, decide_eq_true_eq, decide_eq_false_iff_not, Nat.succ_eq_add_one, imp_false, not_false_eq_true, not_true_eq_false, false_imp_iff, true_imp_iff]) <;> decide
      · (subst hL; subst hQ; simp only [L2, L3, std] at *; try simp only [sySet, reduceCtorEq, forall_const, Int.reduceToNat, Int.reduceAdd, Int.reduceSub, Int.cast_ofNat_Int, Int.toNat_natCast, Nat.le_eq, Nat.sub_eq, ne_eq, Decidable.not_not, implies_true, true_and, and_true, wadd, wsub, wmul, decide_eq_true_eq, decide_eq_false_iff_not, Nat.succ_eq_add_one, imp_false, not_false_eq_true, not_true_eq_false, false_imp_iff, true_imp_iff] at *)
        decide
      · (cbv; try simp only [sat_need, sat_must, sat_ite, sat_done, sat_yes, sat_ex, sat_all, sat_sup, sat_and, sat_fail, true_and, and_true])
        (subst hL; subst hQ; simp only [L2, L3, std] at *; try simp only [sySet, reduceCtorEq, forall_const, Int.reduceToNat, Int.reduceAdd, Int.reduceSub, Int.cast_ofNat_Int, Int.toNat_natCast, Nat.le_eq, Nat.sub_eq, ne_eq, Decidable.not_not, implies_true, true_and, and_true, wadd, wsub, wmul, decide_eq_true_eq, decide_eq_false_iff_not, Nat.succ_eq_add_one, imp_false, not_false_eq_true, not_true_eq_false, false_imp_iff, true_imp_iff] at *)
        obtain ⟨q1, q2⟩ := ns_0 hx h0
        subst hv'
        exact ⟨⟨rfl, fun i j hi hj => rfl⟩, rfl, rfl, rfl, rfl, by decide, q1, q2⟩
      · (cbv; try simp only [sat_need, sat_must, sat_ite, sat_done, sat_yes, sat_ex, sat_all, sat_sup, sat_and, sat_fail, true_and, and_true])
        (subst hL; subst hQ; simp only [L2, L3, std] at *; try simp only [sySet, reduceCtorEq, forall_const, Int.reduceToNat, Int.reduceAdd, Int.reduceSub, Int.cast_ofNat_Int, Int.toNat_natCast, Nat.le_eq, Nat.sub_eq, ne_eq, Decidable.not_not, implies_true, true_and, and_true, wadd, wsub, wmul, decide_eq_true_eq, decide_eq_false_iff_not, Nat.succ_eq_add_one, imp_false, not_false_eq_true, not_true_eq_false, false_imp_iff, true_imp_iff] at *)
        exact ⟨ns_1 hx h0, Nat.le_refl _⟩
    | [a, b], hx =>
      (cbv; try simp only [sat_need, sat_must, sat_ite, sat_done, sat_yes, sat_ex, sat_all, sat_sup, sat_and, sat_fail, true_and, and_true])
      obtain ⟨v', hv'⟩ : ∃ v', v' = CV.mk 3 0 [] a.l := ⟨_, rfl⟩
      refine ⟨?_, fun h0 => ⟨?_, ⟨[b], s, f, v'⟩, ?_⟩, fun h0 => ⟨⟨[a, b], s, f, v⟩, ?_⟩⟩
      · (subst hL; subst hQ; simp only [L2, L3, std]; try simp only [sySet, reduceCtorEq, forall_const, Int.reduceToNat, Int.reduceAdd, Int.reduceSub, Int.cast_ofNat_Int, Int.toNat_natCast, Nat.le_eq, Nat.sub_eq, ne_eq, Decidable.not_not, implies_true, true_and, and_true, wadd, wsub, wmul, decide_eq_true_eq, decide_eq_false_iff_not, Nat.succ_eq_add_one, imp_false, not_false_eq_true, not_true_eq_false, false_imp_iff, true_imp_iff]) <;> decide
      · (subst hL; subst hQ; simp only [L2, L3, std] at *; try simp only [sySet, reduceCtorEq, forall_const, Int.reduceToNat, Int.reduceAdd, Int.reduceSub, Int.cast_ofNat_Int, Int.toNat_natCast, Nat.le_eq, Nat.sub_eq, ne_eq, Decidable.not_not, implies_true, true_and, and_true, wadd, wsub, wmul, decide_eq_true_eq, decide_eq_false_iff_not, Nat.succ_eq_add_one, imp_false, not_false_eq_true, not_true_eq_false, false_imp_iff, true_imp_iff] at *)
        decide
      · (cbv; try simp only [sat_need, sat_must, sat_ite, sat_done, sat_yes, sat_ex, sat_all, sat_sup, sat_and, sat_fail, true_and, and_true])
        (subst hL; subst hQ; simp only [L2, L3, std] at *; try simp only [sySet, reduceCtorEq, forall_const, Int.reduceToNat, Int.reduceAdd, Int.reduceSub, Int.cast_ofNat_Int, Int.toNat_natCast, Nat.le_eq, Nat.sub_eq, ne_eq, Decidable.not_not, implies_true, true_and, and_true, wadd, wsub, wmul, decide_eq_true_eq, decide_eq_false_iff_not, Nat.succ_eq_add_one, imp_false, not_false_eq_true, not_true_eq_false, false_imp_iff, true_imp_iff] at *)
        obtain ⟨q1, q2⟩ := ns_0 hx h0
        subst hv'
        exact ⟨⟨rfl, fun i j hi hj => rfl⟩, rfl, rfl, rfl, rfl, by decide, q1, q2⟩
      · (cbv; try simp only [sat_need, sat_must, sat_ite, sat_done, sat_yes, sat_ex, sat_all, sat_sup, sat_and, sat_fail, true_and, and_true])
        (subst hL; subst hQ; simp only [L2, L3, std] at *; try simp only [sySet, reduceCtorEq, forall_const, Int.reduceToNat, Int.reduceAdd, Int.reduceSub, Int.cast_ofNat_Int, Int.toNat_natCast, Nat.le_eq, Nat.sub_eq, ne_eq, Decidable.not_not, implies_true, true_and, and_true, wadd, wsub, wmul, decide_eq_true_eq, decide_eq_false_iff_not, Nat.succ_eq_add_one, imp_false, not_false_eq_true, not_true_eq_false, false_imp_iff, true_imp_iff] at *)
        exact ⟨ns_1 hx h0, Nat.le_refl _⟩
    | [a, b, c], hx =>
      (cbv; try simp only [sat_need, sat_must, sat_ite, sat_done, sat_yes, sat_ex, sat_all, sat_sup, sat_and, sat_fail, true_and, and_true])
      obtain ⟨v', hv'⟩ : ∃ v', v' = CV.mk 3 0 [] a.l := ⟨_, rfl⟩
      refine ⟨?_, fun h0 => ⟨?_, ⟨[b, c], s, f, v'⟩, ?_⟩, fun h0 => ⟨⟨[a, b, c], s, f, v⟩, ?_⟩⟩
      · (subst hL; subst hQ; simp only [L2, L3, std]; try simp only [sySet, reduceCtorEq, forall_const, Int.reduceToNat, Int.reduceAdd, Int.reduceSub, Int.cast_ofNat_Int, Int.toNat_natCast, Nat.le_eq, Nat.sub_eq, ne_eq, Decidable.not_not, implies_true, true_and, and_true, wadd, wsub, wmul, decide_eq_true_eq, decide_eq_false_iff_not, Nat.succ_eq_add_one, imp_false, not_false_eq_true, not_true_eq_false, false_imp_iff, true_imp_iff]) <;> decide
      · (subst hL; subst hQ; simp only [L2, L3, std] at *; try simp only [sySet, reduceCtorEq, forall_const, Int.reduceToNat, Int.reduceAdd, Int.reduceSub, Int.cast_ofNat_Int, Int.toNat_natCast, Nat.le_eq, Nat.sub_eq, ne_eq, Decidable.not_not, implies_true, true_and, and_true, wadd, wsub, wmul, decide_eq_true_eq, decide_eq_false_iff_not, Nat.succ_eq_add_one, imp_false, not_false_eq_true, not_true_eq_false, false_imp_iff, true_imp_iff] at *)
        decide
      · (cbv; try simp only [sat_need, sat_must, sat_ite, sat_done, sat_yes, sat_ex, sat_all, sat_sup, sat_and, sat_fail, true_and, and_true])
        (subst hL; subst hQ; simp only [L2, L3, std] at *; try simp only [sySet, reduceCtorEq, forall_const, Int.reduceToNat, Int.reduceAdd, Int.reduceSub, Int.cast_ofNat_Int, Int.toNat_natCast, Nat.le_eq, Nat.sub_eq, ne_eq, Decidable.not_not, implies_true, true_and, and_true, wadd, wsub, wmul, decide_eq_true_eq, decide_eq_false_iff_not, Nat.succ_eq_add_one, imp_false, not_false_eq_true, not_true_eq_false, false_imp_iff, true_imp_iff] at *)
        obtain ⟨q1, q2⟩ := ns_0 hx h0
        subst hv'
        exact ⟨⟨rfl, fun i j hi hj => rfl⟩, rfl, rfl, rfl, rfl, by decide, q1, q2⟩
      · (cbv; try simp only [sat_need, sat_must, sat_ite, sat_done, sat_yes, sat_ex, sat_all, sat_sup, sat_and, sat_fail, true_and, and_true])
        (subst hL; subst hQ; simp only [L2, L3, std] at *; try simp only [sySet, reduceCtorEq, forall_const, Int.reduceToNat, Int.reduceAdd, Int.reduceSub, Int.cast_ofNat_Int, Int.toNat_natCast, Nat.le_eq, Nat.sub_eq, ne_eq, Decidable.not_not, implies_true, true_and, and_true, wadd, wsub, wmul, decide_eq_true_eq, decide_eq_false_iff_not, Nat.succ_eq_add_one, imp_false, not_false_eq_true, not_true_eq_false, false_imp_iff, true_imp_iff] at *)
        exact ⟨ns_1 hx h0, Nat.le_refl _⟩
    | [a, b, c, d], hx =>
      (cbv; try simp only [sat_need, sat_must, sat_ite, sat_done, sat_yes, sat_ex, sat_all, sat_sup, sat_and, sat_fail, true_and, and_true])
      obtain ⟨v', hv'⟩ : ∃ v', v' = CV.mk 3 0 [] a.l := ⟨_, rfl⟩
      refine ⟨?_, fun h0 => ⟨?_, ⟨[b, c, d], s, f, v'⟩, ?_⟩, fun h0 => ⟨⟨[a, b, c, d], s, f, v⟩, ?_⟩⟩
      · (subst hL; subst hQ; simp only [L2, L3, std]; try simp only [sySet, reduceCtorEq, forall_const, Int.reduceToNat, Int.reduceAdd, Int.reduceSub, Int.cast_ofNat_Int, Int.toNat_natCast, Nat.le_eq, Nat.sub_eq, ne_eq, Decidable.not_not, implies_true, true_and, and_true, wadd, wsub, wmul, decide_eq_true_eq, decide_eq_false_iff_not, Nat.succ_eq_add_one, imp_false, not_false_eq_true, not_true_eq_false, false_imp_iff, true_imp_iff]) <;> decide
      · (subst hL; subst hQ; simp only [L2, L3, std] at *; try simp only [sySet, reduceCtorEq, forall_const, Int.reduceToNat, Int.reduceAdd, Int.reduceSub, Int.cast_ofNat_Int, Int.toNat_natCast, Nat.le_eq, Nat.sub_eq, ne_eq, Decidable.not_not, implies_true, true_and, and_true, wadd, wsub, wmul, decide_eq_true_eq, decide_eq_false_iff_not, Nat.succ_eq_add_one, imp_false, not_false_eq_true, not_true_eq_false, false_imp_iff, true_imp_iff] at *)
        decide
      · (cbv; try simp only [sat_need, sat_must, sat_ite, sat_done, sat_yes, sat_ex, sat_all, sat_sup, sat_and, sat_fail, true_and, and_true])
        (subst hL; subst hQ; simp only [L2, L3, std] at *; try simp only [sySet, reduceCtorEq, forall_const, Int.reduceToNat, Int.reduceAdd, Int.reduceSub, Int.cast_ofNat_Int, Int.toNat_natCast, Nat.le_eq, Nat.sub_eq, ne_eq, Decidable.not_not, implies_true, true_and, and_true, wadd, wsub, wmul, decide_eq_true_eq, decide_eq_false_iff_not, Nat.succ_eq_add_one, imp_false, not_false_eq_true, not_true_eq_false, false_imp_iff, true_imp_iff] at *)
        obtain ⟨q1, q2⟩ := ns_0 hx h0
        subst hv'
        exact ⟨⟨rfl, fun i j hi hj => rfl⟩, rfl, rfl, rfl, rfl, by decide, q1, q2⟩
      · (cbv; try simp only [sat_need, sat_must, sat_ite, sat_done, sat_yes, sat_ex, sat_all, sat_sup, sat_and, sat_fail, true_and, and_true])
        (subst hL; subst hQ; simp only [L2, L3, std] at *; try simp only [sySet, reduceCtorEq, forall_const, Int.reduceToNat, Int.reduceAdd, Int.reduceSub, Int.cast_ofNat_Int, Int.toNat_natCast, Nat.le_eq, Nat.sub_eq, ne_eq, Decidable.not_not, implies_true, true_and, and_true, wadd, wsub, wmul, decide_eq_true_eq, decide_eq_false_iff_not, Nat.succ_eq_add_one, imp_false, not_false_eq_true, not_true_eq_false, false_imp_iff, true_imp_iff] at *)
        exact ⟨ns_1 hx h0, Nat.le_refl _⟩
    | [a, b, c, d, e], hx =>
      (cbv; try simp only [sat_need, sat_must, sat_ite, sat_done, sat_yes, sat_ex, sat_all, sat_sup, sat_and, sat_fail, true_and, and_true])
      obtain ⟨v', hv'⟩ : ∃ v', v' = CV.mk 3 0 [] a.l := ⟨_, rfl⟩
      refine ⟨?_, fun h0 => ⟨?_, ⟨[b, c, d, e], s, f, v'⟩, ?_⟩, fun h0 => ⟨⟨[a, b, c, d, e], s, f, v⟩, ?_⟩⟩
      · (subst hL; subst hQ; simp only [L2, L3, std]; try simp only [sySet, reduceCtorEq, forall_const, Int.reduceToNat, Int.reduceAdd, Int.reduceSub, Int.cast_ofNat_Int, Int.toNat_natCast, Nat.le_eq, Nat.sub_eq, ne_eq, Decidable.not_not, implies_true, true_and, and_true, wadd, wsub, wmul, decide_eq_true_eq, decide_eq_false_iff_not, Nat.succ_eq_add_one, imp_false, not_false_eq_true, not_true_eq_false, false_imp_iff, true_imp_iff]) <;> decide
      · (subst hL; subst hQ; simp only [L2, L3, std] at *; try simp only [sySet, reduceCtorEq, forall_const, Int.reduceToNat, Int.reduceAdd, Int.reduceSub, Int.cast_ofNat_Int, Int.toNat_natCast, Nat.le_eq, Nat.sub_eq, ne_eq, Decidable.not_not, implies_true, true_and, and_true, wadd, wsub, wmul, decide_eq_true_eq, decide_eq_false_iff_not, Nat.succ_eq_add_one, imp_false, not_false_eq_true, not_true_eq_false, false_imp_iff, true_imp_iff] at *)
        decide
      · (cbv; try simp only [sat_need, sat_must, sat_ite, sat_done, sat_yes, sat_ex, sat_all, sat_sup, sat_and, sat_fail, true_and, and_true])
        (subst hL; subst hQ; simp only [L2, L3, std] at *; try simp only [sySet, reduceCtorEq, forall_const, Int.reduceToNat, Int.reduceAdd, Int.reduceSub, Int.cast_ofNat_Int, Int.toNat_natCast, Nat.le_eq, Nat.sub_eq, ne_eq, Decidable.not_not, implies_true, true_and, and_true, wadd, wsub, wmul, decide_eq_true_eq, decide_eq_false_iff_not, Nat.succ_eq_add_one, imp_false, not_false_eq_true, not_true_eq_false, false_imp_iff, true_imp_iff] at *)
        obtain ⟨q1, q2⟩ := ns_0 hx h0
        subst hv'
        exact ⟨⟨rfl, fun i j hi hj => rfl⟩, rfl, rfl, rfl, rfl, by decide, q1, q2⟩
      · (cbv; try simp only [sat_need, sat_must, sat_ite, sat_done, sat_yes, sat_ex, sat_all, sat_sup, sat_and, sat_fail, true_and, and_true])
        (subst hL; subst hQ; simp only [L2, L3, std] at *; try simp only [sySet, reduceCtorEq, forall_const, Int.reduceToNat, Int.reduceAdd, Int.reduceSub, Int.cast_ofNat_Int, Int.toNat_natCast, Nat.le_eq, Nat.sub_eq, ne_eq, Decidable.not_not, implies_true, true_and, and_true, wadd, wsub, wmul, decide_eq_true_eq, decide_eq_false_iff_not, Nat.succ_eq_add_one, imp_false, not_false_eq_true, not_true_eq_false, false_imp_iff, true_imp_iff] at *)
        exact ⟨ns_1 hx h0, Nat.le_refl _⟩
    | [a, b, c, d, e, k], hx =>
      (cbv; try simp only [sat_need, sat_must, sat_ite, sat_done, sat_yes, sat_ex, sat_all, sat_sup, sat_and, sat_fail, true_and, and_true])
      obtain ⟨v', hv'⟩ : ∃ v', v' = CV.mk 3 0 [] a.l := ⟨_, rfl⟩
      refine ⟨?_, fun h0 => ⟨?_, ⟨[b, c, d, e, k], s, f, v'⟩, ?_⟩, fun h0 => ⟨⟨[a, b, c, d, e, k], s, f, v⟩, ?_⟩⟩
      · (subst hL; subst hQ; simp only [L2, L3, std]; try simp only [sySet, reduceCtorEq, forall_const, Int.reduceToNat, Int.reduceAdd, Int.reduceSub, Int.cast_ofNat_Int, Int.toNat_natCast, Nat.le_eq, Nat.sub_eq, ne_eq, Decidable.not_not, implies_true, true_and, and_true, wadd, wsub, wmul, decide_eq_true_eq, decide_eq_false_iff_not, Nat.succ_eq_add_one, imp_false, not_false_eq_true, not_true_eq_false, false_imp_iff, true_imp_iff]) <;> decide
      · (subst hL; subst hQ; simp only [L2, L3, std] at *; try simp only [sySet, reduceCtorEq, forall_const, Int.reduceToNat, Int.reduceAdd, Int.reduceSub, Int.cast_ofNat_Int, Int.toNat_natCast, Nat.le_eq, Nat.sub_eq, ne_eq, Decidable.not_not, implies_true, true_and, and_true, wadd, wsub, wmul, decide_eq_true_eq, decide_eq_false_iff_not, Nat.succ_eq_add_one, imp_false, not_false_eq_true, not_true_eq_false, false_imp_iff, true_imp_iff] at *)
        decide
      · (cbv; try simp only [sat_need, sat_must, sat_ite, sat_done, sat_yes, sat_ex, sat_all, sat_sup, sat_and, sat_fail, true_and, and_true])
        (subst hL; subst hQ; simp only [L2, L3, std] at *; try simp only [sySet, reduceCtorEq, forall_const, Int.reduceToNat, Int.reduceAdd, Int.reduceSub, Int.cast_ofNat_Int, Int.toNat_natCast, Nat.le_eq, Nat.sub_eq, ne_eq, Decidable.not_not, implies_true, true_and, and_true, wadd, wsub, wmul, decide_eq_true_eq, decide_eq_false_iff_not, Nat.succ_eq_add_one, imp_false, not_false_eq_true, not_true_eq_false, false_imp_iff, true_imp_iff] at *)
        obtain ⟨q1, q2⟩ := ns_0 hx h0
        subst hv'
        exact ⟨⟨rfl, fun i j hi hj => rfl⟩, rfl, rfl, rfl, rfl, by decide, q1, q2⟩
      · (cbv; try simp only [sat_need, sat_must, sat_ite, sat_done, sat_yes, sat_ex, sat_all, sat_sup, sat_and, sat_fail, true_and, and_true])
        (subst hL; subst hQ; simp only [L2, L3, std] at *; try simp only [sySet, reduceCtorEq, forall_const, Int.reduceToNat, Int.reduceAdd, Int.reduceSub, Int.cast_ofNat_Int, Int.toNat_natCast, Nat.le_eq, Nat.sub_eq, ne_eq, Decidable.not_not, implies_true, true_and, and_true, wadd, wsub, wmul, decide_eq_true_eq, decide_eq_false_iff_not, Nat.succ_eq_add_one, imp_false, not_false_eq_true, not_true_eq_false, false_imp_iff, true_imp_iff] at *)
        exact ⟨ns_1 hx h0, Nat.le_refl _⟩
    | a :: b :: c :: d :: e :: k :: m :: r, hx =>
      have h7 : (a :: b :: c :: d :: e :: k :: m :: r).length ≤ 6 := by { (subst hL; subst hQ; simp only [L2, L3, std] at *; try simp only [sySet, reduceCtorEq, forall_const, Int.reduceToNat, Int.reduceAdd, Int.reduceSub, Int.cast_ofNat_Int, Int.toNat_natCast, Nat.le_eq, Nat.sub_eq, ne_eq, Decidable.not_not, implies_true, true_and, and_true, wadd, wsub, wmul, decide_eq_true_eq, decide_eq_false_iff_not, Nat.succ_eq_add_one, imp_false, not_false_eq_true, not_true_eq_false, false_imp_iff, true_imp_iff] at *); exact hx.1 }
      exact absurd h7 (by simp)
  · (cbv; try simp only [sat_need, sat_must, sat_ite, sat_done, sat_yes, sat_ex, sat_all, sat_sup, sat_and, sat_fail, true_and, and_true])
    obtain ⟨f, hf⟩ : ∃ f, f = s0.length + 1 := ⟨_, rfl⟩
    refine ⟨fun h => ?_, fun h => ⟨⟨[], s0, f, .mk 0 0 [] []⟩, ?_⟩⟩
    · (subst hL; subst hQ; simp only [L2, L3, std] at *; try simp only [sySet, reduceCtorEq, forall_const, Int.reduceToNat, Int.reduceAdd, Int.reduceSub, Int.cast_ofNat_Int, Int.toNat_natCast, Nat.le_eq, Nat.sub_eq, ne_eq, Decidable.not_not, implies_true, true_and, and_true, wadd, wsub, wmul, decide_eq_true_eq, decide_eq_false_iff_not, Nat.succ_eq_add_one, imp_false, not_false_eq_true, not_true_eq_false, false_imp_iff, true_imp_iff] at *)
      exact nr_bad (nm_0 s0 h)
    · (cbv; try simp only [sat_need, sat_must, sat_ite, sat_done, sat_yes, sat_ex, sat_all, sat_sup, sat_and, sat_fail, true_and, and_true])
      (subst hL; subst hQ; simp only [L2, L3, std] at *; try simp only [sySet, reduceCtorEq, forall_const, Int.reduceToNat, Int.reduceAdd, Int.reduceSub, Int.cast_ofNat_Int, Int.toNat_natCast, Nat.le_eq, Nat.sub_eq, ne_eq, Decidable.not_not, implies_true, true_and, and_true, wadd, wsub, wmul, decide_eq_true_eq, decide_eq_false_iff_not, Nat.succ_eq_add_one, imp_false, not_false_eq_true, not_true_eq_false, false_imp_iff, true_imp_iff] at *)
      rw [hf]
      exact nm_1 s0 (by omega) _
end Sy
end Go.Proofs.Ythlggigjnpldcaa
namespace Go.Proofs.Ythlggigjnpldcaa
namespace Sy
open Go Go.RowKit
set_option maxRecDepth 100000
set_option linter.unusedSimpArgs false
set_option linter.unusedVariables false

theorem cb_at (p : List UInt8) (c : UInt8) (r : List UInt8) : cb (p ++ c :: r) p.length = c.toNat := by
  unfold cb
  rw [List.getD_eq_getElem?_getD, List.getElem?_append_right (Nat.le_refl _), Nat.sub_self]
  rfl
theorem lng_short (r : List UInt8) : ∀ (f m n0 : Nat) (p : List UInt8), f + p.length = 10 → m * 2 ^ (7 * p.length) < 2 ^ 64 → (0 < m ∨ p.length = 0) →
    lng (p ++ (shortL m ++ r)) f p.length n0 = (n0 + m * 2 ^ (7 * p.length), p.length + (shortL m).length, 0)
  | 0, m, n0, p, hf, hm, h0 => by
    have : p.length = 10 := by omega
    rw [this] at hm h0
    have : 2 ^ (7 * 10) ≤ m * 2 ^ (7 * 10) := Nat.le_mul_of_pos_left _ (by omega)
    omega
  | f + 1, m, n0, p, hf, hm, h0 => by
    by_cases hb : 128 ≤ m
    · rw [shortL_big hb]
      have hc : cb (p ++ (UInt8.ofNat (m % 128 + 128) :: shortL (m / 128) ++ r)) p.length = m % 128 + 128 := by
        rw [List.cons_append, cb_at]
        simp; omega
      have h9 : p.length ≠ 9 := by
        intro h
        rw [h] at hm
        have : 128 * 2 ^ (7 * 9) ≤ m * 2 ^ (7 * 9) := Nat.mul_le_mul_right _ hb
        omega
      rw [lng, if_neg (by simp), hc, if_neg (by omega), if_pos (by omega)]
      have e : p ++ (UInt8.ofNat (m % 128 + 128) :: shortL (m / 128) ++ r) = (p ++ [UInt8.ofNat (m % 128 + 128)]) ++ (shortL (m / 128) ++ r) := by simp
      have hl : (p ++ [UInt8.ofNat (m % 128 + 128)]).length = p.length + 1 := by simp
      have hp : 2 ^ (7 * (p.length + 1)) = 128 * 2 ^ (7 * p.length) := by rw [show 7 * (p.length + 1) = 7 + 7 * p.length by omega, Nat.pow_add]
      have hd : m / 128 * (128 * 2 ^ (7 * p.length)) + m % 128 * 2 ^ (7 * p.length) = m * 2 ^ (7 * p.length) := by
        rw [← Nat.mul_assoc, ← Nat.add_mul]
        congr 1; omega
      have ih := lng_short r f (m / 128) (n0 + (m % 128 + 128) % 128 * 2 ^ (7 * p.length)) (p ++ [UInt8.ofNat (m % 128 + 128)]) (by rw [hl]; omega) (by rw [hl, hp]; omega) (.inl (by omega))
      rw [hl] at ih
      rw [e, ih, hp, List.length_cons, show (m % 128 + 128) % 128 = m % 128 by omega]
      refine Prod.ext ?_ (Prod.ext ?_ rfl)
      · show n0 + m % 128 * 2 ^ (7 * p.length) + m / 128 * (128 * 2 ^ (7 * p.length)) = n0 + m * 2 ^ (7 * p.length)
        omega
      · show p.length + 1 + _ = p.length + (_ + 1)
        omega
    · rw [shortL_small (by omega)]
      have hc : cb (p ++ ([UInt8.ofNat m] ++ r)) p.length = m := by
        rw [List.singleton_append, cb_at]
        simp; omega
      have h9 : ¬ (p.length = 9 ∧ 1 < m) := by
        rintro ⟨h, h1⟩
        rw [h] at hm
        have : 2 * 2 ^ (7 * 9) ≤ m * 2 ^ (7 * 9) := Nat.mul_le_mul_right _ h1
        omega
      rw [lng, if_neg (by simp), hc, if_neg h9, if_neg (by omega), if_pos h0, Nat.mod_eq_of_lt (by omega)]
      rfl
theorem lng_of {m : Int} (h : shortOk m) (r : List UInt8) : lngN (shortZ m ++ r) = m ∧ lngK (shortZ m ++ r) = ((shortZ m).length : Int) ∧ lngE (shortZ m ++ r) = 0 := by
  have h0 := h.1
  have h1 := h.2
  have := lng_short r 10 m.toNat 0 [] rfl (by simp; omega) (.inr rfl)
  simp only [List.nil_append, List.length_nil, Nat.zero_add, Nat.mul_zero, Nat.pow_zero, Nat.mul_one] at this
  unfold lngN lngK lngE shortZ
  rw [this]
  refine ⟨?_, rfl, rfl⟩
  show ((m.toNat : Nat) : Int) = m
  omega
/-- A value's head is read. -/
theorem nxt_head {m : Int} (h : shortOk m) (g : Nat) (st : List Lv) (c : UInt8) (r : List UInt8) (hc : 1 ≤ c.toNat ∧ c.toNat ≤ 3) : nxtVal (g + 1) st (c :: (shortZ m ++ r)) =
    if c.toNat = 1 then nxtDone (nxtVal g) st (.mk 1 m [] []) r
    else if c.toNat = 2 then
      if (r.length : Int) < m then nrBad 3
      else nxtDone (nxtVal g) st (.mk 2 0 (r.take m.toNat) []) (r.drop m.toNat)
    else if st.length = 6 then nrBad 8
    else nxtShut (nxtVal g) (⟨m, []⟩ :: st) r := by
  obtain ⟨e1, e2, e3⟩ := lng_of h r
  have hcb : cb (c :: (shortZ m ++ r)) 0 = c.toNat := rfl
  have hr : nxtRest (c :: (shortZ m ++ r)) = r := by
    unfold nxtRest
    rw [List.drop_succ_cons, List.drop_zero, e2]
    simp
  rw [nxtVal, if_neg (by simp), hcb, if_neg (by omega), List.drop_succ_cons, List.drop_zero, e1, e3, hr, if_neg (by simp)]
theorem deep_nn (v : CV) : 0 ≤ deepV v ∧ 0 ≤ deepLs v.ls := by
  have h0 : ∀ b : List CV, 0 ≤ deepLs b := by
    intro b
    induction b with
    | nil => rw [deepLs]; omega
    | cons v l ih => rw [deepLs]; omega
  refine ⟨?_, h0 _⟩
  cases v with
  | mk k n s l =>
    rw [deepV]
    have := h0 l
    split <;> omega
def Reads (v : CV) : Prop := ∀ (st : List Lv) (s : List UInt8) (f : Nat), wfV v → bareV v = true → (st.length : Int) + deepV v ≤ 6 → (textV v).length ≤ 90000000 → (textV v).length + s.length < f →
  ∃ f', s.length < f' ∧ nxtVal f st (textV v ++ s) = nxtDone (nxtVal f') st v s
theorem text_pos (v : CV) : 0 < (textV v).length := by
  cases v with
  | mk k n s l =>
    rw [textV_mk, List.length_append]
    show 0 < 1 + _
    omega
theorem texts_len : ∀ l : List CV, l.length ≤ (textLs l).length
  | [] => by simp
  | v :: l => by
    have := texts_len l
    have := text_pos v
    rw [textLs, List.length_append, List.length_cons]
    omega
theorem nxt_list (st : List Lv) (s : List UInt8) : ∀ (l : List CV) (acc : List CV) (f : Nat), (∀ w ∈ l, Reads w) → wfLs l → bareLs l = true → (st.length : Int) + 1 + deepLs l ≤ 6 → (textLs l).length ≤ 90000000 → (textLs l).length + s.length < f →
    ∃ f', s.length < f' ∧ nxtShut (nxtVal f) (⟨(l.length : Int), acc⟩ :: st) (textLs l ++ s) = nxtDone (nxtVal f') st (.mk 3 0 [] (acc ++ l)) s
  | [], acc, f, hr, hw, hb, hd, ht, hf => by
    refine ⟨f, by rw [textLs] at hf; simpa using hf, ?_⟩
    rw [nxtShut, if_pos (show ((List.length ([] : List CV) : Nat) : Int) = 0 from rfl), textLs, List.nil_append, List.append_nil]
  | v :: l, acc, f, hr, hw, hb, hd, ht, hf => by
    rw [wfLs] at hw
    rw [bareLs, Bool.and_eq_true] at hb
    rw [deepLs] at hd
    rw [textLs, List.length_append] at ht hf
    obtain ⟨f1, h1, e1⟩ := hr v (by simp) (⟨((v :: l).length : Int), acc⟩ :: st) (textLs l ++ s) f hw.1 hb.1 (by rw [List.length_cons]; omega) (by omega) (by rw [List.length_append]; omega)
    rw [List.length_append] at h1
    obtain ⟨f2, h2, e2⟩ := nxt_list st s l (acc ++ [v]) f1 (fun w hw => hr w (by simp [hw])) hw.2 hb.2 (by omega) (by omega) h1
    refine ⟨f2, h2, ?_⟩
    rw [nxtShut, if_neg (by simp; omega), textLs, List.append_assoc, e1]
    have e3 : (((v :: l).length : Int) - 1) = (l.length : Int) := by simp
    rw [nxtShut] at e2
    rw [nxtDone]
    simp only [e3]
    rw [e2, List.append_assoc, List.singleton_append]
theorem reads (v : CV) : Reads v := by
  refine cv_all (p := Reads) (fun k n s l ih => ?_) v
  intro st r f hw hb hd ht hf
  rw [wfV] at hw
  obtain ⟨g, rfl⟩ : ∃ g, f = g + 1 := ⟨f - 1, by omega⟩
  rw [textV_mk] at ht hf ⊢
  rw [bareV] at hb
  by_cases h1 : k = 1
  · subst h1
    rw [if_pos rfl] at hb ht hf ⊢
    simp only [Bool.and_eq_true, decide_eq_true_eq, List.isEmpty_iff] at hb
    obtain ⟨rfl, rfl⟩ := hb
    rw [List.length_append] at hf
    have e : byteK 1 = [1] := rfl
    rw [e] at hf ⊢
    refine ⟨g, by simp at hf; omega, ?_⟩
    rw [List.singleton_append, List.cons_append, nxt_head hw.1 g st 1 r (by decide)]
    rfl
  · rw [if_neg h1] at hb ht hf ⊢
    by_cases h2 : k = 2
    · subst h2
      rw [if_pos rfl] at hb ht hf ⊢
      simp only [Bool.and_eq_true, decide_eq_true_eq, List.isEmpty_iff] at hb
      obtain ⟨rfl, rfl⟩ := hb
      rw [List.length_append, List.length_append] at ht hf
      have e : byteK 2 = [2] := rfl
      rw [e] at hf ⊢
      refine ⟨g, by simp at hf; omega, ?_⟩
      rw [List.singleton_append, List.cons_append, List.append_assoc, nxt_head ⟨by omega, by omega⟩ g st 2 (s ++ r) (by decide)]
      rw [if_neg (by decide), if_pos (by decide), if_neg (by simp; omega)]
      rw [Int.toNat_natCast, List.take_left, List.drop_left]
    · rw [if_neg h2] at hb ht hf ⊢
      by_cases h3 : k = 3
      · subst h3
        rw [if_pos rfl] at hb
        simp only [Bool.and_eq_true, decide_eq_true_eq] at hb
        obtain ⟨⟨rfl, rfl⟩, hb⟩ := hb
        rw [deepV, if_pos rfl] at hd
        rw [List.length_append, List.length_append] at ht hf
        have e : byteK 3 = [3] := rfl
        rw [e] at hf ⊢
        have hll := texts_len l
        have hdn := (deep_nn (.mk 3 0 [] l)).2
        have hdn : 0 ≤ deepLs l := hdn
        obtain ⟨f', h5, h6⟩ := nxt_list st r l [] g ih hw.2.2 hb (by omega) (by omega) (by simp at hf; omega)
        refine ⟨f', h5, ?_⟩
        rw [List.singleton_append, List.cons_append, List.append_assoc, nxt_head ⟨by omega, by omega⟩ g st 3 (textLs l ++ r) (by decide)]
        rw [if_neg (by decide), if_neg (by decide), if_neg (by omega), h6, List.nil_append]
      · rw [if_neg h3] at hb; cases hb
/-- What is written is read as it was. -/
theorem next_of {v : CV} (hw : wfV v) (hb : bareV v = true) (hd : deepV v ≤ 6) {s : List UInt8} (hl : (textV v).length + s.length ≤ 8192) : nxtTop (textV v ++ s) = ⟨v, s, 0⟩ := by
  unfold nxtTop
  rw [if_neg (by rw [List.length_append]; omega)]
  obtain ⟨f', h1, h2⟩ := reads v [] s ((textV v ++ s).length + 1) hw hb (by simp; exact hd) (by omega) (by rw [List.length_append]; exact Nat.lt_succ_self _)
  rw [h2, nxtDone]
end Sy
end Go.Proofs.Ythlggigjnpldcaa
namespace Go.Proofs.Ythlggigjnpldcaa
namespace Sy
open Go Go.RowKit
set_option maxRecDepth 100000
set_option linter.unusedSimpArgs false
set_option linter.unusedVariables false

def getE (s : List UInt8) : Int := if (nxtTop s).e = 0 ∧ ¬ (nxtTop s).r = [] then 4 else (nxtTop s).e
def getV (s : List UInt8) : CV := if getE s = 0 then (nxtTop s).v else .mk 0 0 [] []
def cget_s (L : Seal) : Ent1 := (19, fun xs => match xs with | [.str s] => some (True, .tup [cvA L (L getV s), .int .i64 (L getE s)]) | _ => none)
theorem cget_bad {s : List UInt8} {e : Int} (h : getE s = e) (he : ¬ e = 0) : fits1 (cvA std (getV s)) (.agg [.int .i64 0, .int .u64 0, .str [], .nils]) ∧ e = getE s := by
  have e0 : getV s = .mk 0 0 [] [] := by unfold getV; rw [if_neg (by rw [h]; exact he)]
  rw [e0]
  refine ⟨?_, h.symm⟩
  show fits1 (.agg [.int .i64 0, .int .u64 0, .str [], .lst 4 0 (cvIn (.mk 0 0 [] []))]) _
  simp [fits1_aggi, fits1_aggs, fits1_aggn, fits1_agg0]
theorem cget_yes {s : List UInt8} {v : CV} (hv : (nxtTop s).v = v) (h : getE s = 0) : fits1 (cvA std (getV s)) (.agg [.int .i64 v.kd, .int .u64 v.nn, .str v.tx, .lst 4 (lenV v) (cvIn v)]) ∧ 0 = getE s := by
  have e0 : getV s = v := by unfold getV; rw [if_pos h, hv]
  rw [e0]
  refine ⟨?_, h.symm⟩
  show fits1 (.agg [.int .i64 v.kd, .int .u64 v.nn, .str v.tx, .lst 4 (lenV v) (cvIn v)]) _
  simp [fits1_aggi, fits1_aggs, fits1_aggl, fits1_agg0]
theorem cget_good : Good Try.prog (cget_s std) := by
  intro xs p r h hp
  dsimp only [cget_s] at h ⊢
  split at h <;> cases h
  try simp only [L2, L3, std] at hp ⊢
  rename_i s
  refine acalls_L (T := tt) (S := fun L => sumOf [next_s L]) (lo := noA) (lb := noA) 5 (fn := Try.f19) rfl rfl (by kernel_rfl) (by kernel_rfl) rfl tt_ok (sumOf_ok ⟨next_good, trivial⟩) (by kernel_rfl) ?_
  (intro L P1 Q1 hL hP hQ; cbv; subst hL; simp only [L2, L3, std, sat_need, sat_must, sat_ite, sat_done, sat_yes, sat_ex, sat_all, sat_sup, sat_and, sat_fail]; subst hQ)
  (simp only [sySet, reduceCtorEq, forall_const, Int.reduceToNat, Int.reduceAdd, Int.reduceSub, Int.cast_ofNat_Int, Int.toNat_natCast, Nat.le_eq, Nat.sub_eq, ne_eq, Decidable.not_not, implies_true, true_and, and_true, wadd, wsub, wmul, decide_eq_true_eq, decide_eq_false_iff_not, Nat.succ_eq_add_one, imp_false, not_false_eq_true, not_true_eq_false, false_imp_iff, true_imp_iff])
  refine ⟨fun h1 => ⟨fun h2 => ⟨fun _ => ?_, fun h => absurd h (by decide)⟩, fun h2 => ⟨fun h => absurd h1 h, fun _ => ?_⟩⟩, fun h1 => ⟨fun _ => ?_, fun h => absurd h h1⟩⟩
  · exact cget_bad (by unfold getE; rw [if_pos ⟨h1, h2⟩]) (by decide)
  · exact cget_yes rfl (by unfold getE; rw [if_neg (fun h => h.2 h2)]; exact h1)
  · exact cget_bad (by unfold getE; rw [if_neg (fun h => h1 h.1)]) h1
theorem get_of {v : CV} (hw : wfV v) (hb : bareV v = true) (hd : deepV v ≤ 6) (hl : (textV v).length ≤ 8192) : getV (textV v) = v ∧ getE (textV v) = 0 := by
  have h := next_of hw hb hd (s := []) (by simpa using hl)
  rw [List.append_nil] at h
  have e : getE (textV v) = 0 := by unfold getE; rw [h]; rfl
  exact ⟨by unfold getV; rw [if_pos e, h], e⟩
end Sy
end Go.Proofs.Ythlggigjnpldcaa
namespace Go.Proofs.Ythlggigjnpldcaa
namespace Sy
open Go Go.RowKit
set_option maxRecDepth 100000
set_option linter.unusedSimpArgs false
set_option linter.unusedVariables false

/-! ### A slice of numbers -/
def lenI (l : List Int) : Nat := l.length
def rdI : AV → List Int
  | .lst _ n get => (List.range n).map fun i => (get i 0).toI
  | _ => []
def okI : AV → Prop
  | .lst sz n get => sz = 1 ∧ ∀ i, i < n → ∃ x, get i 0 = .int .u64 x
  | .nils => True
  | _ => False
def lstI (L : Seal) (l : List Int) : AV := .lst 1 (L lenI l) (fun i _ => .int .u64 (L2 L nthI l i))
theorem nthI_map (n i : Nat) (f : Nat → Int) (h : i < n) : nthI ((List.range n).map f) i = f i := by
  rw [nthI, List.getD_eq_getElem?_getD, List.getElem?_map, List.getElem?_range h]; rfl
theorem rdI_map (l : List Int) (g : Nat → Nat → AV) (h : ∀ i, i < l.length → g i 0 = .int .u64 (nthI l i)) : rdI (.lst 1 l.length g) = l := by
  unfold rdI
  apply List.ext_getElem
  · simp
  · intro i h1 h2
    simp only [List.getElem_map, List.getElem_range]
    rw [h i h2, nthI, List.getD_eq_getElem?_getD, List.getElem?_eq_getElem h2]; rfl
theorem okI_R {h : Array Obj} {D : Nat → Prop} {μ : Mu} {x : AV} {v : Value} (ho : okI x) (r : R h D μ x v) : R h D μ (lstI std (rdI x)) v := by
  match x, ho with
  | .nils, _ => cases r; exact .lst0 _ _ none 0 (fun _ => rfl)
  | .lst sz n get, ho =>
    obtain ⟨rfl, ho⟩ := ho
    have e : lstI std (rdI (.lst 1 n get)) = .lst 1 n (fun i _ => .int .u64 (nthI (rdI (.lst 1 n get)) i)) := by
      show AV.lst 1 (lenI (rdI (.lst 1 n get))) _ = _
      rw [show lenI (rdI (.lst 1 n get)) = n by simp [rdI, lenI]]; rfl
    rw [e]
    refine lst_same r fun i j hi hj => ?_
    have : j = 0 := by omega
    subst this
    obtain ⟨x, hx⟩ := ho i hi
    rw [hx, rdI, nthI_map _ _ _ hi, hx]; rfl
theorem rl_4 {h : Array Obj} {D : Nat → Prop} {μ : Mu} {a b c x y : AV} {r : List AV} {vs : Array Value} (e : ∀ v, R h D μ x v → R h D μ y v) (hr : RL h D μ (a :: b :: c :: x :: r) vs) : RL h D μ (a :: b :: c :: y :: r) vs := by
  refine ⟨by rw [← hr.1]; rfl, fun i z v hz hv => ?_⟩
  match i, hz with
  | 0, hz => exact hr.2 0 z v hz hv
  | 1, hz => exact hr.2 1 z v hz hv
  | 2, hz => exact hr.2 2 z v hz hv
  | 3, hz => cases hz; exact e v (hr.2 3 x v rfl hv)
  | i + 4, hz => exact hr.2 (i + 4) z v hz hv
theorem ac_li {P : Program} {f : FuncId} {a b c x r : AV} (ho : okI x) (h : ACalls P f [a, b, c, lstI std (rdI x)] r) : ACalls P f [a, b, c, x] r :=
  ac_args' (fun h D vs hr => rl_4 (fun v => okI_R ho) hr) h

theorem rd_cells {n : Nat} {get : Nat → Nat → AV} {l : List CV} (hn : n = l.length) (h : ∀ i j, i < n → j < 4 → get i j = cvCell (nthV l i) j) : rdL (.lst 4 n get) = l ∧ okL (.lst 4 n get) := by
  constructor
  · apply List.ext_getElem
    · rw [rd_len, hn]
    · intro i h1 h2
      have hi : i < n := by omega
      have e : ∀ m : List CV, ∀ hm : i < m.length, m[i] = nthV m i := fun m hm => by rw [nthV, List.getD_eq_getElem?_getD, List.getElem?_eq_getElem hm]; rfl
      rw [e _ h1, e _ h2, rd_nth hi, h i 0 hi (by omega), h i 1 hi (by omega), h i 2 hi (by omega), h i 3 hi (by omega), cvCell_0, cvCell_1, cvCell_2, cvCell_3]
      show CV.mk _ _ _ (rdL (.lst 4 (lenV (nthV l i)) (cvIn (nthV l i)))) = _
      exact mk_parts _
  · refine ⟨rfl, fun i hi => ?_⟩
    rw [h i 0 hi (by omega), h i 1 hi (by omega), h i 2 hi (by omega), h i 3 hi (by omega), cvCell_0, cvCell_1, cvCell_2, cvCell_3]
    exact ⟨⟨_, rfl⟩, ⟨_, rfl⟩, ⟨_, rfl⟩, (rd_in (nthV l i)).2⟩

/-! ### numbers -/
def numsZ (k : Int) : Int := if k = 1 then 1 else if k = 2 ∨ k = 3 then 2 else if k = 4 then 3 else 0
def nums_s (L : Seal) : Ent1 := (73, fun xs => match xs with | [.int .i64 k] => some (True, .int .i64 (L numsZ k)) | _ => none)
theorem nums_good : Good Try.prog (nums_s std) := by
  intro xs p r h hp
  dsimp only [nums_s] at h ⊢
  split at h <;> cases h
  try simp only [L2, L3, std] at hp ⊢
  rename_i k
  refine acalls_L (T := tt) (S := noS) (lo := noA) (lb := noA) 5 (fn := Try.f73) rfl rfl (by kernel_rfl) (by kernel_rfl) rfl tt_ok (noS_ok _) (by kernel_rfl) ?_
  (intro L P1 Q1 hL hP hQ; cbv; subst hL; simp only [L2, L3, std, sat_need, sat_must, sat_ite, sat_done, sat_yes, sat_ex, sat_all, sat_sup, sat_and, sat_fail]; subst hQ)
  (simp only [sySet, reduceCtorEq, forall_const, Int.reduceToNat, Int.reduceAdd, Int.reduceSub, Int.cast_ofNat_Int, Int.toNat_natCast, Nat.le_eq, Nat.sub_eq, ne_eq, Decidable.not_not, implies_true, true_and, and_true, wadd, wsub, wmul, decide_eq_true_eq, decide_eq_false_iff_not, Nat.succ_eq_add_one, imp_false, not_false_eq_true, not_true_eq_false, false_imp_iff, true_imp_iff])
  refine ⟨fun h => by simp [numsZ, h], fun h1 => ⟨fun h => by simp [numsZ, h], fun h2 => ⟨fun h => by simp [numsZ, h], fun h3 => ⟨fun h => by simp [numsZ, h], fun h4 => by simp [numsZ, h1, h2, h3, h4]⟩⟩⟩⟩

/-! ### Message -/
def numVs (l : List Int) : List CV := l.map numV
def itemsV (k : Int) (b : List UInt8) (l : List Int) : List CV := if k = 2 then numVs l ++ [txtV b] else numVs l
def msgV (k : Int) (b : List UInt8) (l : List Int) : CV := rowV (itemsV k b l)
def msgT (k e : Int) (b : List UInt8) (l : List Int) : List UInt8 := if putE (msgV k b l) = 0 then byT k e (putT (msgV k b l)) else []
def msgOk (e : Int) (b : List UInt8) (l : List Int) : Prop := u64Ok e ∧ b.length ≤ 1000000 ∧ l.length ≤ 1000 ∧ ∀ x ∈ l, shortOk x
theorem nthV_app_l {a b : List CV} {i : Nat} (h : i < a.length) : nthV (a ++ b) i = nthV a i := by
  rw [nthV, nthV, List.getD_eq_getElem?_getD, List.getD_eq_getElem?_getD, List.getElem?_append_left h]
theorem nthV_app_r (a : List CV) (v : CV) : nthV (a ++ [v]) a.length = v := by
  rw [nthV, List.getD_eq_getElem?_getD, List.getElem?_append_right (Nat.le_refl _)]; simp
theorem push_cells {l : List CV} {v : CV} {i : Nat} (hi : i = l.length) :
    rdL (.lst 4 (i.add 1) fun q j => sel1 std (nblt q i) (cv1 std (nthV l q) j) (lget .dead [.int .i64 v.kd, .int .u64 v.nn, .str v.tx, .lst 4 (lenV v) (cvIn v)] ((q - i) * 4 + j))) = l ++ [v] ∧
    okL (.lst 4 (i.add 1) fun q j => sel1 std (nblt q i) (cv1 std (nthV l q) j) (lget .dead [.int .i64 v.kd, .int .u64 v.nn, .str v.tx, .lst 4 (lenV v) (cvIn v)] ((q - i) * 4 + j))) := by
  subst hi
  refine rd_cells (by simp) fun q j hq hj => ?_
  have hq : q < l.length + 1 := hq
  by_cases h : q < l.length
  · rw [nthV_app_l h, ← cv1_std _ _ hj, blt_t h, show q - l.length = 0 by omega, Nat.zero_mul, Nat.zero_add]
    match j, hj with
    | 0, _ => rfl
    | 1, _ => rfl
    | 2, _ => rfl
    | 3, _ => rfl
  · have : q = l.length := by omega
    subst this
    rw [nthV_app_r, ← cv1_std _ _ hj, blt_f (by omega), show l.length - l.length = 0 by omega, Nat.zero_mul, Nat.zero_add]
    match j, hj with
    | 0, _ => rfl
    | 1, _ => rfl
    | 2, _ => rfl
    | 3, _ => rfl
theorem numVs_len (l : List Int) : (numVs l).length = l.length := List.length_map _
theorem numVs_size (l : List Int) : sizeCs (numVs l) = l.length := by
  induction l with
  | nil => rw [numVs, List.map_nil, sizeCs_nil]; rfl
  | cons x l ih => rw [numVs, List.map_cons, sizeCs_cons, show l.map numV = numVs l from rfl, ih, numV, sizeC_mk, sizeCs_nil, List.length_cons]; omega
theorem sizeCs_app (a b : List CV) : sizeCs (a ++ b) = sizeCs a + sizeCs b := by
  induction a with
  | nil => rw [List.nil_append, sizeCs_nil]; omega
  | cons x l ih => rw [List.cons_append, sizeCs_cons, sizeCs_cons, ih]; omega
theorem wfLs_app (a b : List CV) : wfLs (a ++ b) ↔ wfLs a ∧ wfLs b := by
  induction a with
  | nil => rw [List.nil_append, wfLs]; simp
  | cons x l ih => rw [List.cons_append, wfLs, wfLs, ih]; exact ⟨fun h => ⟨⟨h.1, h.2.1⟩, h.2.2⟩, fun h => ⟨h.1.1, h.1.2, h.2⟩⟩
theorem numVs_wf {l : List Int} (h : ∀ x ∈ l, shortOk x) : wfLs (numVs l) ∧ (textLs (numVs l)).length ≤ 11 * l.length := by
  induction l with
  | nil => rw [numVs, List.map_nil, textLs, wfLs]; exact ⟨trivial, Nat.zero_le _⟩
  | cons x l ih =>
    obtain ⟨a, b⟩ := ih (fun y hy => h y (List.mem_cons_of_mem _ hy))
    have hx := h x List.mem_cons_self
    have := shortZ_len hx
    rw [numVs, List.map_cons, textLs, wfLs, show l.map numV = numVs l from rfl, numV, wfV, textV_mk, if_pos rfl, wfLs]
    refine ⟨⟨⟨hx, Nat.zero_le _, trivial⟩, a⟩, ?_⟩
    simp only [List.length_append, List.length_cons, byteK, List.length_nil]
    omega
theorem msgV_ok {e k : Int} {b : List UInt8} {l : List Int} (h : msgOk e b l) : szOk 2000 (msgV k b l) ∧ txOk (msgV k b l) ∧ lenOk (itemsV k b l) := by
  obtain ⟨h0, h1, h2, h3⟩ := h
  obtain ⟨w, t⟩ := numVs_wf h3
  have sb : shortOk (b.length : Nat) := ⟨by omega, by omega⟩
  have sz : shortOk 0 := ⟨by omega, by omega⟩
  have tl := shortZ_len sb
  have il : (itemsV k b l).length ≤ l.length + 1 := by
    unfold itemsV
    split <;> simp [numVs_len]
  have sl : shortOk ((itemsV k b l).length : Nat) := ⟨by omega, by omega⟩
  have tl2 := shortZ_len sl
  have ws : wfLs (itemsV k b l) ∧ (textLs (itemsV k b l)).length ≤ 11 * l.length + b.length + 11 ∧ sizeCs (itemsV k b l) ≤ l.length + 1 := by
    unfold itemsV
    split
    · rw [wfLs_app, textLs_app, sizeCs_app, numVs_size, sizeCs_cons, sizeCs_nil, List.length_append, wfLs, wfLs, textLs, textLs, txtV, wfV, textV_mk, if_neg (by decide), if_pos rfl, sizeC_mk, sizeCs_nil, wfLs]
      refine ⟨⟨w, ⟨sz, by omega, trivial⟩, trivial⟩, ?_, by omega⟩
      simp only [List.length_append, List.length_cons, byteK, List.length_nil]
      omega
    · rw [numVs_size]
      exact ⟨w, by omega, by omega⟩
  refine ⟨?_, ?_, ?_⟩
  · unfold szOk msgV rowV
    rw [sizeC_mk]; omega
  · unfold txOk msgV rowV
    rw [wfV, textV_mk, if_neg (by decide), if_neg (by decide)]
    refine ⟨⟨sz, Nat.zero_le _, ws.1⟩, ?_⟩
    simp only [List.length_append, List.length_cons, byteK, List.length_nil]
    omega
  · unfold lenOk; omega
theorem msg_end {e k : Int} {b : List UInt8} {l : List Int} (h : msgOk e b l) (x : Nat → Nat → AV) (n : Nat) (hr : rdL (.lst 4 n x) = itemsV k b l) (ho : okL (.lst 4 n x)) :
    (okL (.lst 4 n x) ∧ lenOk (rdL (.lst 4 n x))) ∧
    (okL (.lst 4 (lenV (rowV (rdL (.lst 4 n x)))) (cvIn (rowV (rdL (.lst 4 n x))))) ∧ szOk 2000 (mkV std (rowV (rdL (.lst 4 n x))).kd (rowV (rdL (.lst 4 n x))).nn (rowV (rdL (.lst 4 n x))).tx (.lst 4 (lenV (rowV (rdL (.lst 4 n x)))) (cvIn (rowV (rdL (.lst 4 n x)))))) ∧
      txOk (mkV std (rowV (rdL (.lst 4 n x))).kd (rowV (rdL (.lst 4 n x))).nn (rowV (rdL (.lst 4 n x))).tx (.lst 4 (lenV (rowV (rdL (.lst 4 n x)))) (cvIn (rowV (rdL (.lst 4 n x))))))) ∧
    (¬ putE (mkV std (rowV (rdL (.lst 4 n x))).kd (rowV (rdL (.lst 4 n x))).nn (rowV (rdL (.lst 4 n x))).tx (.lst 4 (lenV (rowV (rdL (.lst 4 n x)))) (cvIn (rowV (rdL (.lst 4 n x)))))) = 0 → [] = msgT k e b l) ∧
    (putE (mkV std (rowV (rdL (.lst 4 n x))).kd (rowV (rdL (.lst 4 n x))).nn (rowV (rdL (.lst 4 n x))).tx (.lst 4 (lenV (rowV (rdL (.lst 4 n x)))) (cvIn (rowV (rdL (.lst 4 n x)))))) = 0 →
      byOk e (putT (mkV std (rowV (rdL (.lst 4 n x))).kd (rowV (rdL (.lst 4 n x))).nn (rowV (rdL (.lst 4 n x))).tx (.lst 4 (lenV (rowV (rdL (.lst 4 n x)))) (cvIn (rowV (rdL (.lst 4 n x))))))) ∧
      byT k e (putT (mkV std (rowV (rdL (.lst 4 n x))).kd (rowV (rdL (.lst 4 n x))).nn (rowV (rdL (.lst 4 n x))).tx (.lst 4 (lenV (rowV (rdL (.lst 4 n x)))) (cvIn (rowV (rdL (.lst 4 n x))))))) = msgT k e b l) := by
  rw [hr, mkV_parts, show rowV (itemsV k b l) = msgV k b l from rfl]
  obtain ⟨m1, m2, m3⟩ := msgV_ok (k := k) h
  refine ⟨⟨ho, m3⟩, ⟨(rd_in _).2, m1, m2⟩, fun hE => by rw [msgT, if_neg hE], fun hE => ⟨⟨h.1.1, h.1.2, ?_⟩, by rw [msgT, if_pos hE]⟩⟩
  have := m2.2
  rw [putT, if_pos hE]
  omega
def msgA (L : Seal) (l : List Int) : Nat → St → Option Ann := fun id st => match id with
  | 0 => some ⟨Nat, fun i => [(18, .int .i64 (L natI i)), (9, .sl 900 4 0 i)], fun i => [(900, .row 27 4 i (fun i j => cv1 L (L2 L nthV (L numVs l) i) j))], [0, 1, 2, 16, 17], [],
      fun i => L2 L (fun (l : List Int) i => i ≤ l.length) l i, fun i => L2 L (fun (l : List Int) (i : Nat) => l.length - i) l i⟩
  | _ => none
def msg_s (L : Seal) : Ent1 := (35, fun xs => match xs with
  | [.int .i64 k, .int .u64 e, .str b, x] => some (L okI x ∧ L3 L msgOk e b (L rdI x), .str (L (L3 L msgT k e b) (L rdI x)))
  | _ => none)
theorem msg_good : Good Try.prog (msg_s std) := by
  intro xs p r h hp
  dsimp only [msg_s] at h ⊢
  split at h <;> cases h
  try simp only [L2, L3, std] at hp ⊢
  rename_i k e b x
  obtain ⟨ho, hz⟩ := hp
  refine ac_li ho ?_
  have hz : msgOk e b (rdI x) := hz
  show ACalls _ _ [.int .i64 k, .int .u64 e, .str b, lstI std (rdI x)] (.str (msgT k e b (rdI x)))
  generalize rdI x = l at hz ⊢
  refine acalls_L' (T := tt) (S := fun L => sumOf [num_s L, txt_s L, list_s L, cput_s 2000 L, by_s L]) (lo := fun L => msgA L l) (lb := noA) 5 (fn := Try.f35) (xs := fun L => [.int .i64 k, .int .u64 e, .str b, lstI L l]) rfl rfl (by kernel_rfl) (by kernel_rfl) rfl tt_ok
    (sumOf_ok ⟨num_good, txt_good, list_good, cput2_good _, by_good, trivial⟩) (by kernel_rfl) ?_
  intro L P' Q' hL hP hQ
  (cbv; try simp only [sat_need, sat_must, sat_ite, sat_done, sat_yes, sat_ex, sat_all, sat_sup, sat_and, sat_fail, true_and, and_true])
  refine ⟨⟨0, ?_⟩, fun i hi => ?_⟩
  · (cbv; try simp only [sat_need, sat_must, sat_ite, sat_done, sat_yes, sat_ex, sat_all, sat_sup, sat_and, sat_fail, true_and, and_true])
    (subst hL; subst hQ; simp only [L2, L3, std] at *; try simp only [sySet, reduceCtorEq, forall_const, Int.reduceToNat, Int.reduceAdd, Int.reduceSub, Int.cast_ofNat_Int, Int.toNat_natCast, Nat.le_eq, Nat.sub_eq, ne_eq, Decidable.not_not, implies_true, true_and, and_true, wadd, wsub, wmul, decide_eq_true_eq, decide_eq_false_iff_not, Nat.succ_eq_add_one, imp_false, not_false_eq_true, not_true_eq_false, false_imp_iff, true_imp_iff] at *)
    exact Nat.zero_le _
  · cbv at hi
    (cbv; try simp only [sat_need, sat_must, sat_ite, sat_done, sat_yes, sat_ex, sat_all, sat_sup, sat_and, sat_fail, true_and, and_true])
    refine ⟨fun hlt => ⟨?_, ?_, ⟨i + 1, ?_⟩⟩, fun hge => ⟨fun h2 => ?_, fun h2 => ?_⟩⟩
    · (subst hL; subst hQ; simp only [L2, L3, std] at *; try simp only [sySet, reduceCtorEq, forall_const, Int.reduceToNat, Int.reduceAdd, Int.reduceSub, Int.cast_ofNat_Int, Int.toNat_natCast, Nat.le_eq, Nat.sub_eq, ne_eq, Decidable.not_not, implies_true, true_and, and_true, wadd, wsub, wmul, decide_eq_true_eq, decide_eq_false_iff_not, Nat.succ_eq_add_one, imp_false, not_false_eq_true, not_true_eq_false, false_imp_iff, true_imp_iff] at *)
      omega
    · (subst hL; subst hQ; simp only [L2, L3, std] at *; try simp only [sySet, reduceCtorEq, forall_const, Int.reduceToNat, Int.reduceAdd, Int.reduceSub, Int.cast_ofNat_Int, Int.toNat_natCast, Nat.le_eq, Nat.sub_eq, ne_eq, Decidable.not_not, implies_true, true_and, and_true, wadd, wsub, wmul, decide_eq_true_eq, decide_eq_false_iff_not, Nat.succ_eq_add_one, imp_false, not_false_eq_true, not_true_eq_false, false_imp_iff, true_imp_iff] at *)
      have : lenI l = l.length := rfl
      have := hz.2.2.1
      omega
    · (cbv; try simp only [sat_need, sat_must, sat_ite, sat_done, sat_yes, sat_ex, sat_all, sat_sup, sat_and, sat_fail, true_and, and_true])
      (subst hL; subst hQ; simp only [L2, L3, std] at *; try simp only [sySet, reduceCtorEq, forall_const, Int.reduceToNat, Int.reduceAdd, Int.reduceSub, Int.cast_ofNat_Int, Int.toNat_natCast, Nat.le_eq, Nat.sub_eq, ne_eq, Decidable.not_not, implies_true, true_and, and_true, wadd, wsub, wmul, decide_eq_true_eq, decide_eq_false_iff_not, Nat.succ_eq_add_one, imp_false, not_false_eq_true, not_true_eq_false, false_imp_iff, true_imp_iff] at *)
      have : lenI l = l.length := rfl
      have := hz.2.2.1
      have e1 : numV (nthI l i) = nthV (numVs l) i := by
        rw [nthV, numVs, List.getD_eq_getElem?_getD, List.getElem?_map, nthI, List.getD_eq_getElem?_getD, List.getElem?_eq_getElem (by omega)]; rfl
      rw [e1]
      exact ⟨fun q j hq hj => cv_push (nthV (numVs l)) hq hj, by omega, by omega, by omega⟩
    · (subst hL; subst hQ; simp only [L2, L3, std] at *; try simp only [sySet, reduceCtorEq, forall_const, Int.reduceToNat, Int.reduceAdd, Int.reduceSub, Int.cast_ofNat_Int, Int.toNat_natCast, Nat.le_eq, Nat.sub_eq, ne_eq, Decidable.not_not, implies_true, true_and, and_true, wadd, wsub, wmul, decide_eq_true_eq, decide_eq_false_iff_not, Nat.succ_eq_add_one, imp_false, not_false_eq_true, not_true_eq_false, false_imp_iff, true_imp_iff] at *)
      have : lenI l = l.length := rfl
      have := hz.2.2.1
      subst h2
      obtain ⟨e1, e2⟩ := push_cells (l := numVs l) (v := txtV b) (i := i) (by rw [numVs_len]; omega)
      refine ⟨by omega, msg_end hz _ _ ?_ e2⟩
      rw [e1, itemsV, if_pos rfl]
    · (subst hL; subst hQ; simp only [L2, L3, std] at *; try simp only [sySet, reduceCtorEq, forall_const, Int.reduceToNat, Int.reduceAdd, Int.reduceSub, Int.cast_ofNat_Int, Int.toNat_natCast, Nat.le_eq, Nat.sub_eq, ne_eq, Decidable.not_not, implies_true, true_and, and_true, wadd, wsub, wmul, decide_eq_true_eq, decide_eq_false_iff_not, Nat.succ_eq_add_one, imp_false, not_false_eq_true, not_true_eq_false, false_imp_iff, true_imp_iff] at *)
      have : lenI l = l.length := rfl
      obtain ⟨e1, e2⟩ := rd_cells (n := i) (get := fun q j => cv1 std (nthV (numVs l) q) j) (l := numVs l) (by rw [numVs_len]; omega) (fun q j hq hj => cv1_std _ j hj)
      refine msg_end hz _ _ ?_ e2
      rw [e1, itemsV, if_neg h2]
end Sy
end Go.Proofs.Ythlggigjnpldcaa
namespace Go.Proofs.Ythlggigjnpldcaa
namespace Sy
open Go Go.RowKit
set_option maxRecDepth 100000
set_option linter.unusedSimpArgs false
set_option linter.unusedVariables false

/-- The values that a text's body has. -/
def rsL (s : List UInt8) : List CV := (getV (paB s)).ls
def rsN (s : List UInt8) : Int := numsZ (paK s)
/-- How many of the values are numbers, that are asked. -/
def rsM (s : List UInt8) : Nat := (rsN s).toNat
def numTo (l : List CV) (i : Nat) : Prop := i ≤ l.length ∧ ∀ j, j < i → (nthV l j).kd = 1
/-- Is a text a message? -/
def rsOk (s : List UInt8) : Prop := paE s = 0 ∧ rsN s ≠ 0 ∧ getE (paB s) = 0 ∧ (getV (paB s)).kd = 3 ∧ (paK s = 2 → ((rsL s).length : Int) = rsN s + 1 ∧ (nthV (rsL s) (rsM s)).kd = 2) ∧ (paK s ≠ 2 → ((rsL s).length : Int) = rsN s) ∧ numTo (rsL s) (rsM s)
open Classical in
noncomputable def rsE (s : List UInt8) : Int := if rsOk s then 0 else 4
noncomputable def rsK (s : List UInt8) : Int := if rsE s = 0 then paK s else 0
noncomputable def rsP (s : List UInt8) : Int := if rsE s = 0 then paP s else 0
def nnsV (l : List CV) : List Int := l.map CV.nn
noncomputable def rsI (s : List UInt8) : List Int := if rsE s = 0 then nnsV ((rsL s).take (rsM s)) else []
noncomputable def rsB (s : List UInt8) : List UInt8 := if rsE s = 0 ∧ paK s = 2 then (nthV (rsL s) (rsM s)).tx else []
/-- Get, with what it hands back told element by element. -/
def cvB (L : Seal) (v : CV) : AV := .agg [.int .i64 (L CV.kd v), .int .u64 (L CV.nn v), .str (L CV.tx v), .lst 4 (L lenV v) (fun i j => cv1 L (L2 L nthV (L CV.ls v) i) j)]
def cgetB_s (L : Seal) : Ent1 := (19, fun xs => match xs with | [.str s] => some (True, .tup [cvB L (L getV s), .int .i64 (L getE s)]) | _ => none)
theorem cgetB_bad {s : List UInt8} {e : Int} (h : getE s = e) (he : ¬ e = 0) : fits1 (cvB std (getV s)) (.agg [.int .i64 0, .int .u64 0, .str [], .nils]) ∧ e = getE s := by
  have e0 : getV s = .mk 0 0 [] [] := by unfold getV; rw [if_neg (by rw [h]; exact he)]
  rw [e0]
  refine ⟨?_, h.symm⟩
  show fits1 (.agg [.int .i64 0, .int .u64 0, .str [], .lst 4 0 _]) _
  simp [fits1_aggi, fits1_aggs, fits1_aggn, fits1_agg0]
theorem cgetB_yes {s : List UInt8} {v : CV} (hv : (nxtTop s).v = v) (h : getE s = 0) : fits1 (cvB std (getV s)) (.agg [.int .i64 v.kd, .int .u64 v.nn, .str v.tx, .lst 4 (lenV v) (cvIn v)]) ∧ 0 = getE s := by
  have e0 : getV s = v := by unfold getV; rw [if_pos h, hv]
  rw [e0]
  refine ⟨?_, h.symm⟩
  show fits1 (.agg [.int .i64 v.kd, .int .u64 v.nn, .str v.tx, .lst 4 (lenV v) (fun i j => cv1 std (nthV v.ls i) j)]) _
  simp only [fits1_aggi, fits1_aggs, fits1_aggl, fits1_agg0, true_and, and_true]
  exact fun i j hi hj => by rw [cv1_std _ _ hj]; exact cvGet_nth _ _ _ hi
theorem cgetB_good : Good Try.prog (cgetB_s std) := by
  intro xs p r h hp
  dsimp only [cgetB_s] at h ⊢
  split at h <;> cases h
  try simp only [L2, L3, std] at hp ⊢
  rename_i s
  refine acalls_L (T := tt) (S := fun L => sumOf [next_s L]) (lo := noA) (lb := noA) 5 (fn := Try.f19) rfl rfl (by kernel_rfl) (by kernel_rfl) rfl tt_ok (sumOf_ok ⟨next_good, trivial⟩) (by kernel_rfl) ?_
  (intro L P1 Q1 hL hP hQ; cbv; subst hL; simp only [L2, L3, std, sat_need, sat_must, sat_ite, sat_done, sat_yes, sat_ex, sat_all, sat_sup, sat_and, sat_fail]; subst hQ)
  (simp only [sySet, reduceCtorEq, forall_const, Int.reduceToNat, Int.reduceAdd, Int.reduceSub, Int.cast_ofNat_Int, Int.toNat_natCast, Nat.le_eq, Nat.sub_eq, ne_eq, Decidable.not_not, implies_true, true_and, and_true, wadd, wsub, wmul, decide_eq_true_eq, decide_eq_false_iff_not, Nat.succ_eq_add_one, imp_false, not_false_eq_true, not_true_eq_false, false_imp_iff, true_imp_iff])
  refine ⟨fun h1 => ⟨fun h2 => ⟨fun _ => ?_, fun h => absurd h (by decide)⟩, fun h2 => ⟨fun h => absurd h1 h, fun _ => ?_⟩⟩, fun h1 => ⟨fun _ => ?_, fun h => absurd h h1⟩⟩
  · exact cgetB_bad (by unfold getE; rw [if_pos ⟨h1, h2⟩]) (by decide)
  · exact cgetB_yes rfl (by unfold getE; rw [if_neg (fun h => h.2 h2)]; exact h1)
  · exact cgetB_bad (by unfold getE; rw [if_neg (fun h => h1 h.1)]) h1
noncomputable def rs_s (L : Seal) : Ent1 := (37, fun xs => match xs with
  | [.str s] => some (L2 L upto 900000 s, .tup [.int .i64 (L rsK s), .int .u64 (L rsP s), lstI L (L rsI s), .str (L rsB s), .int .i64 (L rsE s)])
  | _ => none)
def nnAt (l : List CV) (i : Nat) : Int := (nthV l i).nn
def rsA (L : Seal) (s : List UInt8) : Nat → St → Option Ann := fun id st => match id with
  | 0 => some ⟨Nat, fun i => [(79, .int .i64 (L natI i)), (7, .sl 901 1 0 i)], fun i => [(901, .row 24 1 i (fun i _ => .int .u64 (L2 L nnAt (L rsL s) i)))], [9, 10, 77, 78], [10],
      fun i => L2 L (fun (s : List UInt8) i => numTo (rsL s) i ∧ i ≤ rsM s) s i, fun i => L2 L (fun (s : List UInt8) (i : Nat) => rsM s - i) s i⟩
  | _ => none
theorem nums_le (k : Int) : 0 ≤ numsZ k ∧ numsZ k ≤ 3 := by
  unfold numsZ
  split
  · omega
  · split
    · omega
    · split <;> omega
theorem rs_yes {s : List UInt8} {i : Nat} (h : rsOk s) (hi : i = rsM s) : paK s = rsK s ∧ paP s = rsP s ∧ fits1 (lstI std (rsI s)) (.lst 1 i fun i x => .int .u64 (nnAt (rsL s) i)) ∧ (if paK s = 2 then (nthV (rsL s) (rsM s)).tx else []) = rsB s ∧ 0 = rsE s := by
  have e : rsE s = 0 := if_pos h
  have hl : (rsI s).length = rsM s := by
    rw [rsI, if_pos e, nnsV, List.length_map, List.length_take]
    have := h.2.2.2.2.2.2.1
    omega
  refine ⟨by rw [rsK, if_pos e], by rw [rsP, if_pos e], ?_, ?_, e.symm⟩
  · show fits1 (.lst 1 (rsI s).length fun i _ => .int .u64 (nthI (rsI s) i)) _
    rw [fits1_lst]
    refine ⟨by omega, fun q j hq hj => ?_⟩
    rw [rsI, if_pos e, nnsV, nthI, List.getD_eq_getElem?_getD, List.getElem?_map, List.getElem?_take_of_lt (by omega), nnAt, nthV, List.getD_eq_getElem?_getD]
    have := h.2.2.2.2.2.2.1
    rw [List.getElem?_eq_getElem (by omega)]; rfl
  · rw [rsB]
    by_cases hk : paK s = 2
    · rw [if_pos hk, if_pos ⟨e, hk⟩]
    · rw [if_neg hk, if_neg (fun h => hk h.2)]
theorem rs_good : Good Try.prog (rs_s std) := by
  intro xs p r h hp
  dsimp only [rs_s] at h ⊢
  split at h <;> cases h
  try simp only [L2, L3, std] at hp ⊢
  rename_i s
  refine acalls_L (T := tt) (S := fun L => sumOf [parse_s L, nums_s L, cgetB_s L]) (lo := fun L => rsA L s) (lb := noA) 5 (fn := Try.f37) rfl rfl (by kernel_rfl) (by kernel_rfl) rfl tt_ok (sumOf_ok ⟨parse_good, nums_good, cgetB_good, trivial⟩) (by kernel_rfl) ?_
  intro L P' Q' hL hP hQ
  have bad : ¬ rsOk s → fits (.tup [.int .i64 (rsK s), .int .u64 (rsP s), lstI std (rsI s), .str (rsB s), .int .i64 (rsE s)]) (.tup [.int .i64 0, .int .u64 0, .nils, .str [], .int .i64 4]) := by
    intro h
    have e : rsE s = 4 := if_neg h
    simp only [rsK, rsP, rsI, rsB, e]
    show fits (.tup [.int .i64 0, .int .u64 0, .lst 1 0 _, .str [], .int .i64 4]) _
    simp only [sySet]
    trivial
  have yes : rsOk s → rsE s = 0 := fun h => if_pos h
  have nb := nums_le (paK s)
  have eN : numsZ (paK s) = rsN s := rfl
  have eL : (getV (paB s)).ls = rsL s := rfl
  have eM : (rsN s).toNat = rsM s := rfl
  have eV : lenV (getV (paB s)) = (rsL s).length := rfl
  (cbv; try simp only [sat_need, sat_must, sat_ite, sat_done, sat_yes, sat_ex, sat_all, sat_sup, sat_and, sat_fail, true_and, and_true])
  refine ⟨?_, fun h1 => ?_, fun h1 => ⟨fun h2 => ?_, fun h2 => ⟨fun h3 => ?_, fun h3 => ⟨fun h4 => ?_, fun h4 => ⟨fun h5 => ⟨fun h6 => ?_, fun h6 => ⟨?_, fun h7 => ?_, fun h7 => ⟨?_, ?_, fun h8 => ?_, fun h8 => ⟨⟨0, ?_⟩, fun i hi => ?_⟩⟩⟩⟩, fun h5 => ⟨fun h6 => ?_, fun h6 => ⟨⟨0, ?_⟩, fun i hi => ?_⟩⟩⟩⟩⟩⟩⟩
  · subst hL; exact hp
  · (subst hL; subst hQ; simp only [L2, L3, std] at *; try simp only [sySet, reduceCtorEq, forall_const, Int.reduceToNat, Int.reduceAdd, Int.reduceSub, Int.cast_ofNat_Int, Int.toNat_natCast, Nat.le_eq, Nat.sub_eq, ne_eq, Decidable.not_not, implies_true, true_and, and_true, wadd, wsub, wmul, decide_eq_true_eq, decide_eq_false_iff_not, Nat.succ_eq_add_one, imp_false, not_false_eq_true, not_true_eq_false, false_imp_iff, true_imp_iff] at *); exact bad fun h => h1 h.1
  · (subst hL; subst hQ; simp only [L2, L3, std] at *; try simp only [sySet, reduceCtorEq, forall_const, Int.reduceToNat, Int.reduceAdd, Int.reduceSub, Int.cast_ofNat_Int, Int.toNat_natCast, Nat.le_eq, Nat.sub_eq, ne_eq, Decidable.not_not, implies_true, true_and, and_true, wadd, wsub, wmul, decide_eq_true_eq, decide_eq_false_iff_not, Nat.succ_eq_add_one, imp_false, not_false_eq_true, not_true_eq_false, false_imp_iff, true_imp_iff] at *); exact bad fun h => h.2.1 h2
  · (subst hL; subst hQ; simp only [L2, L3, std] at *; try simp only [sySet, reduceCtorEq, forall_const, Int.reduceToNat, Int.reduceAdd, Int.reduceSub, Int.cast_ofNat_Int, Int.toNat_natCast, Nat.le_eq, Nat.sub_eq, ne_eq, Decidable.not_not, implies_true, true_and, and_true, wadd, wsub, wmul, decide_eq_true_eq, decide_eq_false_iff_not, Nat.succ_eq_add_one, imp_false, not_false_eq_true, not_true_eq_false, false_imp_iff, true_imp_iff] at *); exact bad fun h => h3 h.2.2.1
  · (subst hL; subst hQ; simp only [L2, L3, std] at *; try simp only [sySet, reduceCtorEq, forall_const, Int.reduceToNat, Int.reduceAdd, Int.reduceSub, Int.cast_ofNat_Int, Int.toNat_natCast, Nat.le_eq, Nat.sub_eq, ne_eq, Decidable.not_not, implies_true, true_and, and_true, wadd, wsub, wmul, decide_eq_true_eq, decide_eq_false_iff_not, Nat.succ_eq_add_one, imp_false, not_false_eq_true, not_true_eq_false, false_imp_iff, true_imp_iff] at *); exact bad fun h => h4 h.2.2.2.1
  · (subst hL; subst hQ; simp only [L2, L3, std] at *; try simp only [sySet, reduceCtorEq, forall_const, Int.reduceToNat, Int.reduceAdd, Int.reduceSub, Int.cast_ofNat_Int, Int.toNat_natCast, Nat.le_eq, Nat.sub_eq, ne_eq, Decidable.not_not, implies_true, true_and, and_true, wadd, wsub, wmul, decide_eq_true_eq, decide_eq_false_iff_not, Nat.succ_eq_add_one, imp_false, not_false_eq_true, not_true_eq_false, false_imp_iff, true_imp_iff] at *)
    exact bad fun h => by
      have := (h.2.2.2.2.1 h5).1
      omega
  · (subst hL; subst hQ; simp only [L2, L3, std] at *; try simp only [sySet, reduceCtorEq, forall_const, Int.reduceToNat, Int.reduceAdd, Int.reduceSub, Int.cast_ofNat_Int, Int.toNat_natCast, Nat.le_eq, Nat.sub_eq, ne_eq, Decidable.not_not, implies_true, true_and, and_true, wadd, wsub, wmul, decide_eq_true_eq, decide_eq_false_iff_not, Nat.succ_eq_add_one, imp_false, not_false_eq_true, not_true_eq_false, false_imp_iff, true_imp_iff] at *)
    omega
  · (subst hL; subst hQ; simp only [L2, L3, std] at *; try simp only [sySet, reduceCtorEq, forall_const, Int.reduceToNat, Int.reduceAdd, Int.reduceSub, Int.cast_ofNat_Int, Int.toNat_natCast, Nat.le_eq, Nat.sub_eq, ne_eq, Decidable.not_not, implies_true, true_and, and_true, wadd, wsub, wmul, decide_eq_true_eq, decide_eq_false_iff_not, Nat.succ_eq_add_one, imp_false, not_false_eq_true, not_true_eq_false, false_imp_iff, true_imp_iff] at *); exact bad fun h => h7 (h.2.2.2.2.1 h5).2
  · (subst hL; subst hQ; simp only [L2, L3, std] at *; try simp only [sySet, reduceCtorEq, forall_const, Int.reduceToNat, Int.reduceAdd, Int.reduceSub, Int.cast_ofNat_Int, Int.toNat_natCast, Nat.le_eq, Nat.sub_eq, ne_eq, Decidable.not_not, implies_true, true_and, and_true, wadd, wsub, wmul, decide_eq_true_eq, decide_eq_false_iff_not, Nat.succ_eq_add_one, imp_false, not_false_eq_true, not_true_eq_false, false_imp_iff, true_imp_iff] at *)
    omega
  · (subst hL; subst hQ; simp only [L2, L3, std] at *; try simp only [sySet, reduceCtorEq, forall_const, Int.reduceToNat, Int.reduceAdd, Int.reduceSub, Int.cast_ofNat_Int, Int.toNat_natCast, Nat.le_eq, Nat.sub_eq, ne_eq, Decidable.not_not, implies_true, true_and, and_true, wadd, wsub, wmul, decide_eq_true_eq, decide_eq_false_iff_not, Nat.succ_eq_add_one, imp_false, not_false_eq_true, not_true_eq_false, false_imp_iff, true_imp_iff] at *)
    omega
  · (subst hL; subst hQ; simp only [L2, L3, std] at *; try simp only [sySet, reduceCtorEq, forall_const, Int.reduceToNat, Int.reduceAdd, Int.reduceSub, Int.cast_ofNat_Int, Int.toNat_natCast, Nat.le_eq, Nat.sub_eq, ne_eq, Decidable.not_not, implies_true, true_and, and_true, wadd, wsub, wmul, decide_eq_true_eq, decide_eq_false_iff_not, Nat.succ_eq_add_one, imp_false, not_false_eq_true, not_true_eq_false, false_imp_iff, true_imp_iff] at *)
    omega
  · (cbv; try simp only [sat_need, sat_must, sat_ite, sat_done, sat_yes, sat_ex, sat_all, sat_sup, sat_and, sat_fail, true_and, and_true])
    (subst hL; subst hQ; simp only [L2, L3, std] at *; try simp only [sySet, reduceCtorEq, forall_const, Int.reduceToNat, Int.reduceAdd, Int.reduceSub, Int.cast_ofNat_Int, Int.toNat_natCast, Nat.le_eq, Nat.sub_eq, ne_eq, Decidable.not_not, implies_true, true_and, and_true, wadd, wsub, wmul, decide_eq_true_eq, decide_eq_false_iff_not, Nat.succ_eq_add_one, imp_false, not_false_eq_true, not_true_eq_false, false_imp_iff, true_imp_iff] at *)
    exact ⟨⟨Nat.zero_le _, fun j hj => by omega⟩, Nat.zero_le _⟩
  · cbv at hi
    (cbv; try simp only [sat_need, sat_must, sat_ite, sat_done, sat_yes, sat_ex, sat_all, sat_sup, sat_and, sat_fail, true_and, and_true])
    refine ⟨fun hlt => ⟨?_, fun h9 => ?_, fun h9 => ⟨?_, ⟨i + 1, ?_⟩⟩⟩, fun hge => ?_⟩
    · (subst hL; subst hQ; simp only [L2, L3, std] at *; try simp only [sySet, reduceCtorEq, forall_const, Int.reduceToNat, Int.reduceAdd, Int.reduceSub, Int.cast_ofNat_Int, Int.toNat_natCast, Nat.le_eq, Nat.sub_eq, ne_eq, Decidable.not_not, implies_true, true_and, and_true, wadd, wsub, wmul, decide_eq_true_eq, decide_eq_false_iff_not, Nat.succ_eq_add_one, imp_false, not_false_eq_true, not_true_eq_false, false_imp_iff, true_imp_iff] at *)
      omega
    · (subst hL; subst hQ; simp only [L2, L3, std] at *; try simp only [sySet, reduceCtorEq, forall_const, Int.reduceToNat, Int.reduceAdd, Int.reduceSub, Int.cast_ofNat_Int, Int.toNat_natCast, Nat.le_eq, Nat.sub_eq, ne_eq, Decidable.not_not, implies_true, true_and, and_true, wadd, wsub, wmul, decide_eq_true_eq, decide_eq_false_iff_not, Nat.succ_eq_add_one, imp_false, not_false_eq_true, not_true_eq_false, false_imp_iff, true_imp_iff] at *)
      exact bad fun h => h9 (h.2.2.2.2.2.2.2 i (by omega))
    · (subst hL; subst hQ; simp only [L2, L3, std] at *; try simp only [sySet, reduceCtorEq, forall_const, Int.reduceToNat, Int.reduceAdd, Int.reduceSub, Int.cast_ofNat_Int, Int.toNat_natCast, Nat.le_eq, Nat.sub_eq, ne_eq, Decidable.not_not, implies_true, true_and, and_true, wadd, wsub, wmul, decide_eq_true_eq, decide_eq_false_iff_not, Nat.succ_eq_add_one, imp_false, not_false_eq_true, not_true_eq_false, false_imp_iff, true_imp_iff] at *)
      omega
    · (cbv; try simp only [sat_need, sat_must, sat_ite, sat_done, sat_yes, sat_ex, sat_all, sat_sup, sat_and, sat_fail, true_and, and_true])
      (subst hL; subst hQ; simp only [L2, L3, std] at *; try simp only [sySet, reduceCtorEq, forall_const, Int.reduceToNat, Int.reduceAdd, Int.reduceSub, Int.cast_ofNat_Int, Int.toNat_natCast, Nat.le_eq, Nat.sub_eq, ne_eq, Decidable.not_not, implies_true, true_and, and_true, wadd, wsub, wmul, decide_eq_true_eq, decide_eq_false_iff_not, Nat.succ_eq_add_one, imp_false, not_false_eq_true, not_true_eq_false, false_imp_iff, true_imp_iff] at *)
      have hl : i + 1 ≤ (rsL s).length := by omega
      refine ⟨fun q j hq hj => ?_, by omega, ⟨⟨hl, fun j hj => ?_⟩, by omega⟩, by omega⟩
      · by_cases h : q < i
        · rw [blt_t h, show q - i = 0 by omega]; rfl
        · have : q = i := by omega
          subst this
          rw [blt_f (by omega), show q - q = 0 by omega]; rfl
      · by_cases h : j < i
        · exact hi.1.2 j h
        · have : j = i := by omega
          subst this
          exact h9
    · (subst hL; subst hQ; simp only [L2, L3, std] at *; try simp only [sySet, reduceCtorEq, forall_const, Int.reduceToNat, Int.reduceAdd, Int.reduceSub, Int.cast_ofNat_Int, Int.toNat_natCast, Nat.le_eq, Nat.sub_eq, ne_eq, Decidable.not_not, implies_true, true_and, and_true, wadd, wsub, wmul, decide_eq_true_eq, decide_eq_false_iff_not, Nat.succ_eq_add_one, imp_false, not_false_eq_true, not_true_eq_false, false_imp_iff, true_imp_iff] at *)
      have hM : i = rsM s := by omega
      have hok : rsOk s := ⟨h1, h2, h3, h4, fun _ => ⟨by omega, h7⟩, fun h => absurd h5 h, by rw [← hM]; exact hi.1⟩
      have := rs_yes hok hM
      obtain ⟨y1, y2, y3, y4, y5⟩ := this
      refine ⟨y1, y2, y3, ?_, y5⟩
      rw [← y4, if_pos h5]
      try rfl
  · (subst hL; subst hQ; simp only [L2, L3, std] at *; try simp only [sySet, reduceCtorEq, forall_const, Int.reduceToNat, Int.reduceAdd, Int.reduceSub, Int.cast_ofNat_Int, Int.toNat_natCast, Nat.le_eq, Nat.sub_eq, ne_eq, Decidable.not_not, implies_true, true_and, and_true, wadd, wsub, wmul, decide_eq_true_eq, decide_eq_false_iff_not, Nat.succ_eq_add_one, imp_false, not_false_eq_true, not_true_eq_false, false_imp_iff, true_imp_iff] at *); exact bad fun h => h6 (h.2.2.2.2.2.1 h5)
  · (cbv; try simp only [sat_need, sat_must, sat_ite, sat_done, sat_yes, sat_ex, sat_all, sat_sup, sat_and, sat_fail, true_and, and_true])
    (subst hL; subst hQ; simp only [L2, L3, std] at *; try simp only [sySet, reduceCtorEq, forall_const, Int.reduceToNat, Int.reduceAdd, Int.reduceSub, Int.cast_ofNat_Int, Int.toNat_natCast, Nat.le_eq, Nat.sub_eq, ne_eq, Decidable.not_not, implies_true, true_and, and_true, wadd, wsub, wmul, decide_eq_true_eq, decide_eq_false_iff_not, Nat.succ_eq_add_one, imp_false, not_false_eq_true, not_true_eq_false, false_imp_iff, true_imp_iff] at *)
    exact ⟨⟨Nat.zero_le _, fun j hj => by omega⟩, Nat.zero_le _⟩
  · cbv at hi
    (cbv; try simp only [sat_need, sat_must, sat_ite, sat_done, sat_yes, sat_ex, sat_all, sat_sup, sat_and, sat_fail, true_and, and_true])
    refine ⟨fun hlt => ⟨?_, fun h9 => ?_, fun h9 => ⟨?_, ⟨i + 1, ?_⟩⟩⟩, fun hge => ?_⟩
    · (subst hL; subst hQ; simp only [L2, L3, std] at *; try simp only [sySet, reduceCtorEq, forall_const, Int.reduceToNat, Int.reduceAdd, Int.reduceSub, Int.cast_ofNat_Int, Int.toNat_natCast, Nat.le_eq, Nat.sub_eq, ne_eq, Decidable.not_not, implies_true, true_and, and_true, wadd, wsub, wmul, decide_eq_true_eq, decide_eq_false_iff_not, Nat.succ_eq_add_one, imp_false, not_false_eq_true, not_true_eq_false, false_imp_iff, true_imp_iff] at *)
      omega
    · (subst hL; subst hQ; simp only [L2, L3, std] at *; try simp only [sySet, reduceCtorEq, forall_const, Int.reduceToNat, Int.reduceAdd, Int.reduceSub, Int.cast_ofNat_Int, Int.toNat_natCast, Nat.le_eq, Nat.sub_eq, ne_eq, Decidable.not_not, implies_true, true_and, and_true, wadd, wsub, wmul, decide_eq_true_eq, decide_eq_false_iff_not, Nat.succ_eq_add_one, imp_false, not_false_eq_true, not_true_eq_false, false_imp_iff, true_imp_iff] at *)
      exact bad fun h => h9 (h.2.2.2.2.2.2.2 i (by omega))
    · (subst hL; subst hQ; simp only [L2, L3, std] at *; try simp only [sySet, reduceCtorEq, forall_const, Int.reduceToNat, Int.reduceAdd, Int.reduceSub, Int.cast_ofNat_Int, Int.toNat_natCast, Nat.le_eq, Nat.sub_eq, ne_eq, Decidable.not_not, implies_true, true_and, and_true, wadd, wsub, wmul, decide_eq_true_eq, decide_eq_false_iff_not, Nat.succ_eq_add_one, imp_false, not_false_eq_true, not_true_eq_false, false_imp_iff, true_imp_iff] at *)
      omega
    · (cbv; try simp only [sat_need, sat_must, sat_ite, sat_done, sat_yes, sat_ex, sat_all, sat_sup, sat_and, sat_fail, true_and, and_true])
      (subst hL; subst hQ; simp only [L2, L3, std] at *; try simp only [sySet, reduceCtorEq, forall_const, Int.reduceToNat, Int.reduceAdd, Int.reduceSub, Int.cast_ofNat_Int, Int.toNat_natCast, Nat.le_eq, Nat.sub_eq, ne_eq, Decidable.not_not, implies_true, true_and, and_true, wadd, wsub, wmul, decide_eq_true_eq, decide_eq_false_iff_not, Nat.succ_eq_add_one, imp_false, not_false_eq_true, not_true_eq_false, false_imp_iff, true_imp_iff] at *)
      have hl : i + 1 ≤ (rsL s).length := by omega
      refine ⟨fun q j hq hj => ?_, by omega, ⟨⟨hl, fun j hj => ?_⟩, by omega⟩, by omega⟩
      · by_cases h : q < i
        · rw [blt_t h, show q - i = 0 by omega]; rfl
        · have : q = i := by omega
          subst this
          rw [blt_f (by omega), show q - q = 0 by omega]; rfl
      · by_cases h : j < i
        · exact hi.1.2 j h
        · have : j = i := by omega
          subst this
          exact h9
    · (subst hL; subst hQ; simp only [L2, L3, std] at *; try simp only [sySet, reduceCtorEq, forall_const, Int.reduceToNat, Int.reduceAdd, Int.reduceSub, Int.cast_ofNat_Int, Int.toNat_natCast, Nat.le_eq, Nat.sub_eq, ne_eq, Decidable.not_not, implies_true, true_and, and_true, wadd, wsub, wmul, decide_eq_true_eq, decide_eq_false_iff_not, Nat.succ_eq_add_one, imp_false, not_false_eq_true, not_true_eq_false, false_imp_iff, true_imp_iff] at *)
      have hM : i = rsM s := by omega
      have hok : rsOk s := ⟨h1, h2, h3, h4, fun h => absurd h h5, fun _ => by omega, by rw [← hM]; exact hi.1⟩
      have := rs_yes hok hM
      obtain ⟨y1, y2, y3, y4, y5⟩ := this
      refine ⟨y1, y2, y3, ?_, y5⟩
      rw [← y4, if_neg h5]
      try rfl
end Sy
end Go.Proofs.Ythlggigjnpldcaa
namespace Go.Proofs.Ythlggigjnpldcaa
namespace Sy
open Go Go.RowKit
set_option maxRecDepth 100000
set_option linter.unusedSimpArgs false
set_option linter.unusedVariables false

def addS (a b : Int) : Int := min (a + b) 18446744073709551615
def add_s (L : Seal) : Ent1 := (77, fun xs => match xs with | [.int .u64 a, .int .u64 b] => some (L u64Ok a ∧ L u64Ok b, .int .u64 (L2 L addS a b)) | _ => none)
theorem add_good : Good Try.prog (add_s std) := by
  intro xs p r h hp
  dsimp only [add_s] at h ⊢
  split at h <;> cases h
  try simp only [L2, L3, std] at hp ⊢
  rename_i a b
  refine acalls_L (T := tt) (S := noS) (lo := noA) (lb := noA) 5 (fn := Try.f77) rfl rfl (by kernel_rfl) (by kernel_rfl) rfl tt_ok (noS_ok _) (by kernel_rfl) ?_
  obtain ⟨⟨h0, h1⟩, ⟨h2, h3⟩⟩ : u64Ok a ∧ u64Ok b := hp
  (intro L P1 Q1 hL hP hQ; cbv; subst hL; simp only [L2, L3, std, sat_need, sat_must, sat_ite, sat_done, sat_yes, sat_ex, sat_all, sat_sup, sat_and, sat_fail]; subst hQ)
  (simp only [sySet, reduceCtorEq, forall_const, Int.reduceToNat, Int.reduceAdd, Int.reduceSub, Int.cast_ofNat_Int, Int.toNat_natCast, Nat.le_eq, Nat.sub_eq, ne_eq, Decidable.not_not, implies_true, true_and, and_true, wadd, wsub, wmul, decide_eq_true_eq, decide_eq_false_iff_not, Nat.succ_eq_add_one, imp_false, not_false_eq_true, not_true_eq_false, false_imp_iff, true_imp_iff])
  unfold addS
  refine ⟨fun h => by omega, fun h => by omega⟩

/-- A session. -/
structure Ss where
  ep : Int
  ver : Int
  non : Int
  nxt : Int
  rep : List UInt8
  opn : Bool
  ba : Int
  ca : Int
  tr : Int
/-- An offer. -/
structure Of where
  v : Int
  n : Int
  b : List UInt8
def ssA (L : Seal) (x : Ss) : AV := .agg [.int .u64 (L Ss.ep x), .int .u64 (L Ss.ver x), .int .u64 (L Ss.non x), .int .u64 (L Ss.nxt x), .str (L Ss.rep x), .bool (L Ss.opn x), .int .u64 (L Ss.ba x), .int .u64 (L Ss.ca x), .int .i64 (L Ss.tr x)]
def ofA (L : Seal) (o : Of) : AV := .agg [.int .u64 (L Of.v o), .int .u64 (L Of.n o), .str (L Of.b o)]
def mkSs (L : Seal) (a b c d : Int) (r : List UInt8) (o : Bool) (e f g : Int) : Ss := L (L (L (L (L (L (L (L (L Ss.mk a) b) c) d) r) o) e) f) g
def mkOf (L : Seal) (v n : Int) (b : List UInt8) : Of := L (L (L Of.mk v) n) b
theorem ss_fit {x : Ss} {a b c d : Int} {r : List UInt8} {o : Bool} {e f g : Int} (h : x = ⟨a, b, c, d, r, o, e, f, g⟩) : fits1 (ssA std x) (.agg [.int .u64 a, .int .u64 b, .int .u64 c, .int .u64 d, .str r, .bool o, .int .u64 e, .int .u64 f, .int .i64 g]) := by
  subst h
  show fits1 (.agg [.int .u64 a, .int .u64 b, .int .u64 c, .int .u64 d, .str r, .bool o, .int .u64 e, .int .u64 f, .int .i64 g]) _
  simp only [fits1_aggi, fits1_aggs, fits1_aggb, fits1_agg0, and_self]
theorem ss_fit0 {x : Ss} {a b c d : Int} {r : List UInt8} {o : Bool} {e f g : Int} (h : x = ⟨a, b, c, d, r, o, e, f, g⟩) : fits (ssA std x) (.agg [.int .u64 a, .int .u64 b, .int .u64 c, .int .u64 d, .str r, .bool o, .int .u64 e, .int .u64 f, .int .i64 g]) := by
  subst h
  show fits (.agg [.int .u64 a, .int .u64 b, .int .u64 c, .int .u64 d, .str r, .bool o, .int .u64 e, .int .u64 f, .int .i64 g]) _
  simp only [fits_aggi, fits1_aggi, fits1_aggs, fits1_aggb, fits1_agg0, and_self]
theorem of_fit {x : Of} {v n : Int} {b : List UInt8} (h : x = ⟨v, n, b⟩) : fits1 (ofA std x) (.agg [.int .u64 v, .int .u64 n, .str b]) := by
  subst h
  show fits1 (.agg [.int .u64 v, .int .u64 n, .str b]) _
  simp only [fits1_aggi, fits1_aggs, fits1_agg0, and_self]
theorem rd1 (a : Int) : rdI (.lst 1 1 fun i x => .int .u64 (nthI [a] i)) = [a] := rfl
theorem rd2 (a b : Int) : rdI (.lst 1 2 fun i x => .int .u64 (nthI [a, b] i)) = [a, b] := rfl
theorem rd3 (a b c : Int) : rdI (.lst 1 3 fun i x => .int .u64 (nthI [a, b, c] i)) = [a, b, c] := rfl
theorem okl1 (n : Nat) (g : Nat → Int) : okI (.lst 1 n fun i x => .int .u64 (g i)) := ⟨rfl, fun i _ => ⟨_, rfl⟩⟩
theorem short_u {a : Int} (h : u64Ok a) : shortOk a := h
theorem msg_ok0 {a : Int} {l : List Int} (h : u64Ok a) (hl : l.length ≤ 10) (hs : ∀ x ∈ l, u64Ok x) : msgOk a [] l := ⟨h, Nat.zero_le _, by omega, hs⟩
theorem all1 {a : Int} (h : u64Ok a) : ∀ x ∈ [a], u64Ok x := fun x hx => by simp at hx; rw [hx]; exact h
theorem all2 {a b : Int} (h : u64Ok a) (h2 : u64Ok b) : ∀ x ∈ [a, b], u64Ok x := fun x hx => by
  simp at hx
  rcases hx with rfl | rfl
  · exact h
  · exact h2
theorem all3 {a b c : Int} (h : u64Ok a) (h2 : u64Ok b) (h3 : u64Ok c) : ∀ x ∈ [a, b, c], u64Ok x := fun x hx => by
  simp at hx
  rcases hx with rfl | rfl | rfl
  · exact h
  · exact h2
  · exact h3
theorem mod_ok (a : Int) : u64Ok (a % 18446744073709551616) := ⟨by omega, by omega⟩
def newS (ba ca tr v : Int) : Ss := ⟨0, v, 0, 0, [], false, ba, ca, tr⟩
def new_s (L : Seal) : Ent1 := (40, fun xs => match xs with | [.agg [.int .u64 b, .int .u64 c, .int .i64 t], .int .u64 v] => some (True, .agg [.int .u64 0, .int .u64 v, .int .u64 0, .int .u64 0, .str [], .bool false, .int .u64 b, .int .u64 c, .int .i64 t]) | _ => none)
theorem new_good : Good Try.prog (new_s std) := by
  intro xs p r h hp
  dsimp only [new_s] at h ⊢
  split at h <;> cases h
  try simp only [L2, L3, std] at hp ⊢
  refine acalls_L (T := tt) (S := noS) (lo := noA) (lb := noA) 5 (fn := Try.f40) rfl rfl (by kernel_rfl) (by kernel_rfl) rfl tt_ok (noS_ok _) (by kernel_rfl) ?_
  (intro L P1 Q1 hL hP hQ; cbv; subst hL; simp only [L2, L3, std, sat_need, sat_must, sat_ite, sat_done, sat_yes, sat_ex, sat_all, sat_sup, sat_and, sat_fail]; subst hQ)
  (simp only [sySet, reduceCtorEq, forall_const, Int.reduceToNat, Int.reduceAdd, Int.reduceSub, Int.cast_ofNat_Int, Int.toNat_natCast, Nat.le_eq, Nat.sub_eq, ne_eq, Decidable.not_not, implies_true, true_and, and_true, wadd, wsub, wmul, decide_eq_true_eq, decide_eq_false_iff_not, Nat.succ_eq_add_one, imp_false, not_false_eq_true, not_true_eq_false, false_imp_iff, true_imp_iff])
def subT (e v : Int) : List UInt8 := msgT 1 e [] [v]
def tickS (x : Ss) (now : Int) : Ss := if x.opn = true ∨ now < x.nxt then x else { x with opn := true, ep := (x.ep + 1) % 18446744073709551616, non := 0, rep := [] }
def tickT (x : Ss) (now : Int) : List UInt8 := if x.opn = true ∨ now < x.nxt then [] else subT ((x.ep + 1) % 18446744073709551616) x.ver
def tick_s (L : Seal) : Ent1 := (41, fun xs => match xs with
  | [.agg [.int .u64 a, .int .u64 b, .int .u64 c, .int .u64 d, .str r, .bool o, .int .u64 e, .int .u64 f, .int .i64 g], .int .u64 now] => some (L u64Ok b, .tup [ssA L (L2 L tickS (mkSs L a b c d r o e f g) now), .str (L2 L tickT (mkSs L a b c d r o e f g) now)])
  | _ => none)
theorem tick_good : Good Try.prog (tick_s std) := by
  intro xs p r h hp
  dsimp only [tick_s] at h ⊢
  split at h <;> cases h
  try simp only [L2, L3, std] at hp ⊢
  rename_i a b c d r o e f g now
  refine acalls_L (T := tt) (S := fun L => sumOf [msg_s L]) (lo := noA) (lb := noA) 5 (fn := Try.f41) rfl rfl (by kernel_rfl) (by kernel_rfl) rfl tt_ok (sumOf_ok ⟨msg_good, trivial⟩) (by kernel_rfl) ?_
  (intro L P1 Q1 hL hP hQ; cbv; subst hL; simp only [L2, L3, std, sat_need, sat_must, sat_ite, sat_done, sat_yes, sat_ex, sat_all, sat_sup, sat_and, sat_fail]; subst hQ)
  (simp only [sySet, reduceCtorEq, forall_const, Int.reduceToNat, Int.reduceAdd, Int.reduceSub, Int.cast_ofNat_Int, Int.toNat_natCast, Nat.le_eq, Nat.sub_eq, ne_eq, Decidable.not_not, implies_true, true_and, and_true, wadd, wsub, wmul, decide_eq_true_eq, decide_eq_false_iff_not, Nat.succ_eq_add_one, imp_false, not_false_eq_true, not_true_eq_false, false_imp_iff, true_imp_iff])
  have eX : mkSs std a b c d r o e f g = ⟨a, b, c, d, r, o, e, f, g⟩ := rfl
  rw [eX]
  refine ⟨fun h => ⟨ss_fit (if_pos (.inl h)), (if_pos (.inl h)).symm⟩, fun h => ⟨fun h1 => ⟨ss_fit (if_pos (.inr h1)), (if_pos (.inr h1)).symm⟩, fun h1 => ?_⟩⟩
  have hn : ¬ (o = true ∨ now < d) := by
    rintro (h2 | h2)
    · rw [h] at h2; cases h2
    · omega
  rw [rd1]
  exact ⟨⟨okl1 _ _, msg_ok0 (mod_ok _) (by simp) (all1 hp)⟩, ss_fit (if_neg hn), (if_neg hn).symm⟩
def lostS (x : Ss) (now : Int) : Ss := if x.opn = true then { x with opn := false, nxt := addS now (dlyZ x.ba x.ca x.tr), tr := nxtT x.tr } else x
def lost_s (L : Seal) : Ent1 := (44, fun xs => match xs with
  | [.agg [.int .u64 a, .int .u64 b, .int .u64 c, .int .u64 d, .str r, .bool o, .int .u64 e, .int .u64 f, .int .i64 g], .int .u64 now] => some (L u64Ok now ∧ L u64Ok e ∧ L u64Ok f ∧ L (fun t : Int => t ≤ 1000000) g, ssA L (L2 L lostS (mkSs L a b c d r o e f g) now))
  | _ => none)
theorem dly_ok {b c t : Int} (h1 : u64Ok c) : u64Ok (dlyZ b c t) := by
  obtain ⟨h1, h2⟩ := h1
  unfold dlyZ u64Ok
  split
  · omega
  · split
    · omega
    · have : 0 ≤ wshl .u64 b (max t 0) := by
        unfold wshl
        rw [w_u64]
        exact Int.emod_nonneg _ (by decide)
      omega
theorem lost_good : Good Try.prog (lost_s std) := by
  intro xs p r h hp
  dsimp only [lost_s] at h ⊢
  split at h <;> cases h
  try simp only [L2, L3, std] at hp ⊢
  rename_i a b c d r o e f g now
  refine acalls_L (T := tt) (S := fun L => sumOf [dly_s L, add_s L, wnext_s L]) (lo := noA) (lb := noA) 5 (fn := Try.f44) rfl rfl (by kernel_rfl) (by kernel_rfl) rfl tt_ok (sumOf_ok ⟨dly_good, add_good, wnext_good, trivial⟩) (by kernel_rfl) ?_
  obtain ⟨p1, p2, p3, p4⟩ : u64Ok now ∧ u64Ok e ∧ u64Ok f ∧ g ≤ 1000000 := hp
  intro L P' Q' hL hP hQ
  (cbv; try simp only [sat_need, sat_must, sat_ite, sat_done, sat_yes, sat_ex, sat_all, sat_sup, sat_and, sat_fail, true_and, and_true])
  refine ⟨fun h => ⟨?_, ⟨?_, ?_⟩, ?_, ?_⟩, fun h => ?_⟩
  · subst hL; exact p2
  · subst hL; exact p1
  · subst hL; exact dly_ok p3
  · subst hL; exact p4
  · subst hL; subst hQ; exact ss_fit0 (if_pos h)
  · subst hL; subst hQ; exact ss_fit0 (if_neg (by show ¬ o = true; rw [h]; decide))
/-- What comes of a message. -/
noncomputable def takE (x : Ss) (s : List UInt8) : Int :=
  if rsE s ≠ 0 then rsE s else if rsK s ≠ 2 then 10 else if x.opn = false ∨ rsP s ≠ x.ep ∨ nthI (rsI s) 1 < x.non ∨ (nthI (rsI s) 1 = x.non ∧ x.rep = []) then 18 else if nthI (rsI s) 1 = x.non then 11 else 0
noncomputable def takS (x : Ss) (s : List UInt8) : Ss := if takE x s = 0 then { x with non := nthI (rsI s) 1, rep := [], tr := 0 } else x
noncomputable def takO (x : Ss) (s : List UInt8) : Of := if takE x s = 0 then ⟨nthI (rsI s) 0, nthI (rsI s) 1, rsB s⟩ else ⟨0, 0, []⟩
noncomputable def takA (x : Ss) (s : List UInt8) : List UInt8 := if takE x s = 11 then x.rep else []
noncomputable def tak_s (L : Seal) : Ent1 := (42, fun xs => match xs with
  | [.agg [.int .u64 a, .int .u64 b, .int .u64 c, .int .u64 d, .str r, .bool o, .int .u64 e, .int .u64 f, .int .i64 g], .str s] => some (L2 L upto 900000 s, .tup [ssA L (L2 L takS (mkSs L a b c d r o e f g) s), ofA L (L2 L takO (mkSs L a b c d r o e f g) s), .str (L2 L takA (mkSs L a b c d r o e f g) s), .int .i64 (L2 L takE (mkSs L a b c d r o e f g) s)])
  | _ => none)
theorem rs_4 {s : List UInt8} (h : ¬ rsE s = 0) : rsE s = 4 := by
  unfold rsE at h ⊢
  split at h
  · exact absurd rfl h
  · rename_i hn
    exact if_neg hn
theorem rs_ok {s : List UInt8} (h : rsE s = 0) : rsOk s := by
  unfold rsE at h
  split at h
  · assumption
  · cases h
theorem rsI_len {s : List UInt8} (h : rsE s = 0) : (rsI s).length = rsM s := by
  rw [rsI, if_pos h, nnsV, List.length_map, List.length_take]
  have := (rs_ok h).2.2.2.2.2.2.1
  omega
theorem rs_len {s : List UInt8} (h : rsE s = 0) (h2 : rsK s = 2) : lenI (rsI s) = 2 := by
  show (rsI s).length = 2
  rw [rsI_len h, rsM, rsN]
  rw [rsK, if_pos h] at h2
  rw [h2]; rfl
theorem tak_good : Good Try.prog (tak_s std) := by
  intro xs p r h hp
  dsimp only [tak_s] at h ⊢
  split at h <;> cases h
  try simp only [L2, L3, std] at hp ⊢
  rename_i a b c d r o e f g s
  refine acalls_L (T := tt) (S := fun L => sumOf [rs_s L, wreset_s L]) (lo := noA) (lb := noA) 5 (fn := Try.f42) rfl rfl (by kernel_rfl) (by kernel_rfl) rfl tt_ok (sumOf_ok ⟨rs_good, wreset_good, trivial⟩) (by kernel_rfl) ?_
  (intro L P1 Q1 hL hP hQ; cbv; subst hL; simp only [L2, L3, std, sat_need, sat_must, sat_ite, sat_done, sat_yes, sat_ex, sat_all, sat_sup, sat_and, sat_fail]; subst hQ)
  (simp only [sySet, reduceCtorEq, forall_const, Int.reduceToNat, Int.reduceAdd, Int.reduceSub, Int.cast_ofNat_Int, Int.toNat_natCast, Nat.le_eq, Nat.sub_eq, ne_eq, Decidable.not_not, implies_true, true_and, and_true, wadd, wsub, wmul, decide_eq_true_eq, decide_eq_false_iff_not, Nat.succ_eq_add_one, imp_false, not_false_eq_true, not_true_eq_false, false_imp_iff, true_imp_iff])
  have eX : mkSs std a b c d r o e f g = ⟨a, b, c, d, r, o, e, f, g⟩ := rfl
  rw [eX]
  have no : ∀ z, takE ⟨a, b, c, d, r, o, e, f, g⟩ s = z → z ≠ 0 → z ≠ 11 → fits1 (ssA std (takS ⟨a, b, c, d, r, o, e, f, g⟩ s)) (.agg [.int .u64 a, .int .u64 b, .int .u64 c, .int .u64 d, .str r, .bool o, .int .u64 e, .int .u64 f, .int .i64 g]) ∧
      fits1 (ofA std (takO ⟨a, b, c, d, r, o, e, f, g⟩ s)) (.agg [.int .u64 0, .int .u64 0, .str []]) ∧ [] = takA ⟨a, b, c, d, r, o, e, f, g⟩ s ∧ z = takE ⟨a, b, c, d, r, o, e, f, g⟩ s := fun z h h1 h2 =>
    ⟨ss_fit (if_neg (by rw [h]; exact h1)), of_fit (if_neg (by rw [h]; exact h1)), (if_neg (by rw [h]; exact h2)).symm, h.symm⟩
  have el : takE ⟨a, b, c, d, r, o, e, f, g⟩ s = 11 → fits1 (ssA std (takS ⟨a, b, c, d, r, o, e, f, g⟩ s)) (.agg [.int .u64 a, .int .u64 b, .int .u64 c, .int .u64 d, .str r, .bool o, .int .u64 e, .int .u64 f, .int .i64 g]) ∧
      fits1 (ofA std (takO ⟨a, b, c, d, r, o, e, f, g⟩ s)) (.agg [.int .u64 0, .int .u64 0, .str []]) ∧ r = takA ⟨a, b, c, d, r, o, e, f, g⟩ s ∧ 11 = takE ⟨a, b, c, d, r, o, e, f, g⟩ s := fun h =>
    ⟨ss_fit (if_neg (by rw [h]; decide)), of_fit (if_neg (by rw [h]; decide)), (if_pos h).symm, h.symm⟩
  have yes : takE ⟨a, b, c, d, r, o, e, f, g⟩ s = 0 → fits1 (ssA std (takS ⟨a, b, c, d, r, o, e, f, g⟩ s)) (.agg [.int .u64 a, .int .u64 b, .int .u64 (nthI (rsI s) 1), .int .u64 d, .str [], .bool o, .int .u64 e, .int .u64 f, .int .i64 0]) ∧
      fits1 (ofA std (takO ⟨a, b, c, d, r, o, e, f, g⟩ s)) (.agg [.int .u64 (nthI (rsI s) 0), .int .u64 (nthI (rsI s) 1), .str (rsB s)]) ∧ [] = takA ⟨a, b, c, d, r, o, e, f, g⟩ s ∧ 0 = takE ⟨a, b, c, d, r, o, e, f, g⟩ s := fun h =>
    ⟨ss_fit (if_pos h), of_fit (if_pos h), (if_neg (by rw [h]; decide)).symm, h.symm⟩
  generalize hE : takE ⟨a, b, c, d, r, o, e, f, g⟩ s = E at no el yes ⊢
  unfold takE at hE
  simp only at hE
  refine ⟨hp, fun h1 => ?_, fun h1 => ?_⟩
  · rw [if_pos h1] at hE
    rw [hE]
    have h2 := rs_4 h1
    exact no E rfl (by omega) (by omega)
  rw [if_neg (by simpa using h1)] at hE
  refine ⟨fun h2 => ?_, fun h2 => ?_⟩
  · rw [if_pos h2] at hE
    exact no 10 hE.symm (by decide) (by decide)
  rw [if_neg (by simpa using h2)] at hE
  have hl := rs_len h1 h2
  refine ⟨fun h3 => ?_, fun h3 => ⟨fun h4 => ?_, fun h4 => ⟨by omega, fun h5 => ?_, fun h5 => ⟨by omega, fun h6 => ⟨fun h7 => ?_, fun h7 => ?_⟩, fun h6 => ?_⟩⟩⟩⟩
  · rw [if_pos (.inl h3)] at hE
    exact no 18 hE.symm (by decide) (by decide)
  · rw [if_pos (.inr (.inl h4))] at hE
    exact no 18 hE.symm (by decide) (by decide)
  · rw [if_pos (.inr (.inr (.inl h5)))] at hE
    exact no 18 hE.symm (by decide) (by decide)
  · rw [if_pos (.inr (.inr (.inr ⟨h6, h7⟩)))] at hE
    exact no 18 hE.symm (by decide) (by decide)
  · rw [if_neg (by rintro (x | x | x | x); · rw [h3] at x; cases x
                   · exact x h4
                   · omega
                   · exact h7 x.2), if_pos h6] at hE
    exact ⟨by omega, fun _ => el hE.symm, fun x => absurd h6 x⟩
  · rw [if_neg (by rintro (x | x | x | x); · rw [h3] at x; cases x
                   · exact x h4
                   · omega
                   · exact h6 x.1), if_neg h6] at hE
    exact ⟨by omega, fun x => absurd x h6, fun _ => ⟨by omega, by omega, by omega, yes hE.symm⟩⟩
def donN (x : Ss) (o : Of) : Prop := (o.v = 0 ∧ o.n = 0 ∧ o.b = []) ∨ o.n ≠ x.non ∨ x.rep ≠ [] ∨ x.non = 0
open Classical in
noncomputable def donS (x : Ss) (o : Of) (c : Int) : Ss :=
  if donN x o then x else if c = 0 then { x with ver := o.v, rep := msgT 3 x.ep [] [o.v, o.n] } else { x with rep := msgT 4 x.ep [] [x.ver, o.n, c % 18446744073709551616] }
open Classical in
noncomputable def donT (x : Ss) (o : Of) (c : Int) : List UInt8 := if donN x o then [] else (donS x o c).rep
noncomputable def don_s (L : Seal) : Ent1 := (43, fun xs => match xs with
  | [.agg [.int .u64 a, .int .u64 b, .int .u64 c, .int .u64 d, .str r, .bool o, .int .u64 e, .int .u64 f, .int .i64 g], .agg [.int .u64 v, .int .u64 n, .str t], .int .i64 z] =>
    some (L u64Ok a ∧ L u64Ok b ∧ L u64Ok v ∧ L u64Ok n, .tup [ssA L (L3 L donS (mkSs L a b c d r o e f g) (mkOf L v n t) z), .str (L3 L donT (mkSs L a b c d r o e f g) (mkOf L v n t) z)])
  | _ => none)
theorem don_good : Good Try.prog (don_s std) := by
  intro xs p r h hp
  dsimp only [don_s] at h ⊢
  split at h <;> cases h
  try simp only [L2, L3, std] at hp ⊢
  rename_i a b c d r o e f g v n t z
  refine acalls_L (T := tt) (S := fun L => sumOf [msg_s L]) (lo := noA) (lb := noA) 5 (fn := Try.f43) rfl rfl (by kernel_rfl) (by kernel_rfl) rfl tt_ok (sumOf_ok ⟨msg_good, trivial⟩) (by kernel_rfl) ?_
  obtain ⟨p1, p2, p3, p4⟩ : u64Ok a ∧ u64Ok b ∧ u64Ok v ∧ u64Ok n := hp
  (intro L P1 Q1 hL hP hQ; cbv; subst hL; simp only [L2, L3, std, sat_need, sat_must, sat_ite, sat_done, sat_yes, sat_ex, sat_all, sat_sup, sat_and, sat_fail]; subst hQ)
  (simp only [sySet, reduceCtorEq, forall_const, Int.reduceToNat, Int.reduceAdd, Int.reduceSub, Int.cast_ofNat_Int, Int.toNat_natCast, Nat.le_eq, Nat.sub_eq, ne_eq, Decidable.not_not, implies_true, true_and, and_true, wadd, wsub, wmul, decide_eq_true_eq, decide_eq_false_iff_not, Nat.succ_eq_add_one, imp_false, not_false_eq_true, not_true_eq_false, false_imp_iff, true_imp_iff])
  have eX : mkSs std a b c d r o e f g = ⟨a, b, c, d, r, o, e, f, g⟩ := rfl
  have eO : mkOf std v n t = ⟨v, n, t⟩ := rfl
  rw [eX, eO]
  have no : donN ⟨a, b, c, d, r, o, e, f, g⟩ ⟨v, n, t⟩ → fits1 (ssA std (donS ⟨a, b, c, d, r, o, e, f, g⟩ ⟨v, n, t⟩ z)) (.agg [.int .u64 a, .int .u64 b, .int .u64 c, .int .u64 d, .str r, .bool o, .int .u64 e, .int .u64 f, .int .i64 g]) ∧
      [] = donT ⟨a, b, c, d, r, o, e, f, g⟩ ⟨v, n, t⟩ z := fun h => ⟨ss_fit (if_pos h), (if_pos h).symm⟩
  refine ⟨fun h1 => no (.inl h1), fun h1 => ⟨fun h2 => no (.inr (.inl h2)), fun h2 => ⟨fun h3 => no (.inr (.inr (.inl h3))), fun h3 => ⟨fun h4 => no (.inr (.inr (.inr h4))), fun h4 => ?_⟩⟩⟩⟩
  have hn : ¬ donN ⟨a, b, c, d, r, o, e, f, g⟩ ⟨v, n, t⟩ := by
    rintro (x | x | x | x)
    · exact h1 x.1 x.2.1 x.2.2
    · exact x h2
    · exact x h3
    · exact h4 x
  refine ⟨fun h5 => ?_, fun h5 => ?_⟩
  · rw [rd2]
    have e1 : donS ⟨a, b, c, d, r, o, e, f, g⟩ ⟨v, n, t⟩ z = ⟨a, v, c, d, msgT 3 a [] [v, n], o, e, f, g⟩ := by rw [donS, if_neg hn, if_pos h5]
    exact ⟨⟨okl1 _ _, msg_ok0 p1 (by simp) (all2 p3 p4)⟩, ss_fit e1, by rw [donT, if_neg hn, e1]⟩
  · rw [rd3]
    have e1 : donS ⟨a, b, c, d, r, o, e, f, g⟩ ⟨v, n, t⟩ z = ⟨a, b, c, d, msgT 4 a [] [b, n, z % 18446744073709551616], o, e, f, g⟩ := by rw [donS, if_neg hn, if_neg h5]
    exact ⟨⟨okl1 _ _, msg_ok0 p1 (by simp) (all3 p2 p4 (mod_ok z))⟩, ss_fit e1, by rw [donT, if_neg hn, e1]⟩
end Sy
end Go.Proofs.Ythlggigjnpldcaa
namespace Go.Proofs.Ythlggigjnpldcaa
namespace Sy
open Go Go.RowKit
set_option maxRecDepth 100000
set_option linter.unusedSimpArgs false
set_option linter.unusedVariables false

theorem numVs_bare : ∀ l : List Int, bareLs (numVs l) = true
  | [] => by rw [numVs, List.map_nil, bareLs]
  | x :: l => by
    have := numVs_bare l
    rw [numVs, List.map_cons, bareLs, show l.map numV = numVs l from rfl, this, numV, bareV, if_pos rfl]; rfl
theorem bareLs_app (a b : List CV) : bareLs (a ++ b) = (bareLs a && bareLs b) := by
  induction a with
  | nil => rw [List.nil_append, bareLs]; rfl
  | cons x l ih => rw [List.cons_append, bareLs, bareLs, ih, Bool.and_assoc]
theorem txt_bare (b : List UInt8) : bareLs [txtV b] = true := by rw [bareLs, bareLs, txtV, bareV, if_neg (by decide), if_pos rfl]; rfl
theorem items_bare (k : Int) (b : List UInt8) (l : List Int) : bareLs (itemsV k b l) = true := by
  unfold itemsV
  split
  · rw [bareLs_app, numVs_bare, txt_bare]; rfl
  · exact numVs_bare l
theorem msgV_bare (k : Int) (b : List UInt8) (l : List Int) : bareV (msgV k b l) = true := by
  rw [msgV, rowV, bareV, if_neg (by decide), if_neg (by decide), if_pos rfl, items_bare]; rfl
theorem numVs_deep : ∀ l : List Int, deepLs (numVs l) = 0
  | [] => by rw [numVs, List.map_nil, deepLs]
  | x :: l => by
    have := numVs_deep l
    rw [numVs, List.map_cons, deepLs, show l.map numV = numVs l from rfl, this, numV, deepV, if_neg (by decide)]; rfl
theorem items_deep (k : Int) (b : List UInt8) (l : List Int) : deepLs (itemsV k b l) = 0 := by
  unfold itemsV
  split
  · rw [deepLs_app, numVs_deep, deepLs, deepLs, txtV, deepV, if_neg (by decide)]; rfl
  · exact numVs_deep l
theorem msgV_deep (k : Int) (b : List UInt8) (l : List Int) : deepV (msgV k b l) = 1 := by
  rw [msgV, rowV, deepV, if_pos rfl, items_deep]; rfl
theorem msgV_len {k : Int} {b : List UInt8} {l : List Int} (hb : b.length ≤ 8000) (hl : l.length ≤ 10) (hs : ∀ x ∈ l, shortOk x) : (textV (msgV k b l)).length ≤ 8192 := by
  obtain ⟨w, t⟩ := numVs_wf hs
  have sb : shortOk (b.length : Nat) := ⟨by omega, by omega⟩
  have tl := shortZ_len sb
  have il : (itemsV k b l).length ≤ l.length + 1 := by
    unfold itemsV
    split <;> simp [numVs_len]
  have sl : shortOk ((itemsV k b l).length : Nat) := ⟨by omega, by omega⟩
  have tl2 := shortZ_len sl
  have ws : (textLs (itemsV k b l)).length ≤ 11 * l.length + b.length + 11 := by
    unfold itemsV
    split
    · rw [textLs_app, textLs, textLs, txtV, textV_mk, if_neg (by decide), if_pos rfl]
      simp only [List.length_append, List.length_cons, byteK, List.length_nil]
      omega
    · omega
  rw [msgV, rowV, textV_mk, if_neg (by decide), if_neg (by decide)]
  simp only [List.length_append, List.length_cons, byteK, List.length_nil]
  omega
/-- What a message's text is read as. -/
structure ReadIs (t : List UInt8) (k e : Int) (b : List UInt8) (l : List Int) : Prop where
  E : rsE t = 0
  K : rsK t = k
  P : rsP t = e
  I : rsI t = l
  B : rsB t = if k = 2 then b else []
  len : t.length ≤ 8300
  some : t ≠ []
theorem nns_num (l : List Int) : nnsV (numVs l) = l := by
  rw [nnsV, numVs, List.map_map]
  exact List.map_id' l
theorem nth_num {l : List Int} {i : Nat} (h : i < l.length) : nthV (numVs l) i = numV l[i] := by
  rw [nthV, numVs, List.getD_eq_getElem?_getD, List.getElem?_map, List.getElem?_eq_getElem h]; rfl
theorem read_msg {k e : Int} {b : List UInt8} {l : List Int} (hk : numsZ k = l.length) (k1 : 1 ≤ k) (k2 : k ≤ 4) (he : u64Ok e) (hb : b.length ≤ 8000) (hs : ∀ x ∈ l, shortOk x) : ReadIs (msgT k e b l) k e b l := by
  have hl : l.length ≤ 3 := by have := nums_le k; omega
  have tl := msgV_len (k := k) hb (by omega) hs
  have hE : putE (msgV k b l) = 0 := by rw [putE, if_pos (msgV_bare _ _ _), if_neg (by rw [msgV_deep]; omega), if_neg (by omega)]
  have hT : putT (msgV k b l) = textV (msgV k b l) := by rw [putT, if_pos hE]
  have ht : msgT k e b l = byT k e (textV (msgV k b l)) := by rw [msgT, if_pos hE, hT]
  obtain ⟨m1, m2, m3⟩ := msgV_ok (e := e) (k := k) (b := b) (l := l) ⟨he, by omega, by omega, hs⟩
  obtain ⟨g1, g2⟩ := get_of m2.1 (msgV_bare k b l) (by rw [msgV_deep]; omega) tl
  have bE : byE k (textV (msgV k b l)) = 0 := by rw [byE, if_neg (by omega), if_neg (by omega)]
  have G := frame_is k e _ [] bE he.1 he.2
  rw [List.append_nil, ← ht] at G
  have pe : paE (msgT k e b l) = 0 := by rw [paE, if_neg (fun h => h.2 G.R), G.E]
  have pK : paK (msgT k e b l) = k := by rw [paK, if_pos pe, G.K]
  have pP : paP (msgT k e b l) = e := by rw [paP, if_pos pe, G.P]
  have pB : paB (msgT k e b l) = textV (msgV k b l) := by rw [paB, if_pos pe, G.B]
  have gV : getV (paB (msgT k e b l)) = msgV k b l := by rw [pB, g1]
  have eL : rsL (msgT k e b l) = itemsV k b l := by rw [rsL, gV]; rfl
  have eN : rsN (msgT k e b l) = l.length := by rw [rsN, pK, hk]
  have eM : rsM (msgT k e b l) = l.length := by rw [rsM, eN]; simp
  have hi : ∀ j, j < l.length → nthV (itemsV k b l) j = nthV (numVs l) j := by
    intro j hj
    unfold itemsV
    split
    · exact nthV_app_l (by rw [numVs_len]; exact hj)
    · rfl
  have il : (itemsV k b l).length = if k = 2 then l.length + 1 else l.length := by
    unfold itemsV
    split
    · simp [numVs_len]
    · exact numVs_len l
  have ok : rsOk (msgT k e b l) := by
    refine ⟨pe, ?_, by rw [pB]; exact g2, by rw [gV]; rfl, ?_, ?_, ?_⟩
    · rw [rsN, pK]
      unfold numsZ
      split
      · decide
      · split
        · decide
        · split <;> omega
    · intro h2
      rw [pK] at h2
      rw [eL, eM, eN, il, if_pos h2]
      refine ⟨by omega, ?_⟩
      rw [itemsV, if_pos h2, ← numVs_len l, nthV_app_r]; rfl
    · intro h2
      rw [pK] at h2
      rw [eL, eN, il, if_neg h2]
    · rw [eL, eM]
      refine ⟨by rw [il]; split <;> omega, fun j hj => ?_⟩
      rw [hi j hj, nth_num hj]; rfl
  have rE : rsE (msgT k e b l) = 0 := if_pos ok
  have hlen := G.len
  simp only [List.length_nil, Nat.add_zero] at hlen
  refine ⟨rE, by rw [rsK, if_pos rE, pK], by rw [rsP, if_pos rE, pP], ?_, ?_, by omega, ?_⟩
  · rw [rsI, if_pos rE, eL, eM]
    unfold itemsV
    split
    · rw [List.take_left' (numVs_len l), nns_num]
    · rw [List.take_of_length_le (by rw [numVs_len]; omega), nns_num]
  · rw [rsB, pK]
    by_cases h2 : k = 2
    · rw [if_pos ⟨rE, h2⟩, if_pos h2, eL, eM, itemsV, if_pos h2, ← numVs_len l, nthV_app_r]; rfl
    · rw [if_neg (fun h => h2 h.2), if_neg h2]
  · intro h
    rw [h] at hlen
    simp at hlen
theorem awake19_ac : ACalls Try.prog 34 [] (.bool true) := by
  refine acalls_L (T := tt) (S := fun L => sumOf [new_s L, tick_s L, rs_s L, tru 67, tru 68, tru 69]) (lo := noA) (lb := noA) 5 (fn := Try.f34) rfl rfl (by kernel_rfl) (by kernel_rfl) rfl tt_ok (sumOf_ok ⟨new_good, tick_good, rs_good, tru_good Awake07_ac, tru_good Awake08_ac, tru_good Awake18_ac, trivial⟩) (by kernel_rfl) ?_
  (intro L P1 Q1 hL hP hQ; cbv; subst hL; simp only [L2, L3, std, sat_need, sat_must, sat_ite, sat_done, sat_yes, sat_ex, sat_all, sat_sup, sat_and, sat_fail]; subst hQ)
  (simp only [sySet, reduceCtorEq, forall_const, Int.reduceToNat, Int.reduceAdd, Int.reduceSub, Int.cast_ofNat_Int, Int.toNat_natCast, Nat.le_eq, Nat.sub_eq, ne_eq, Decidable.not_not, implies_true, true_and, and_true, wadd, wsub, wmul, decide_eq_true_eq, decide_eq_false_iff_not, Nat.succ_eq_add_one, imp_false, not_false_eq_true, not_true_eq_false, false_imp_iff, true_imp_iff])
  have tT : tickT ⟨0, 5, 0, 0, [], false, 1, 8, 0⟩ 0 = msgT 1 1 [] [5] := if_neg (by simp)
  have tS : (tickS ⟨0, 5, 0, 0, [], false, 1, 8, 0⟩ 0).opn = true := by rw [tickS, if_neg (by simp)]
  have R := read_msg (k := 1) (e := 1) (b := []) (l := [5]) rfl (by decide) (by decide) ⟨by decide, by decide⟩ (by decide) (by intro x hx; simp at hx; subst hx; exact ⟨by decide, by decide⟩)
  rw [tT, tS, R.E, R.K, R.P, R.I]
  have hl := R.len
  exact ⟨⟨by decide, by decide⟩, by unfold upto; omega, fun _ => ⟨fun _ => ⟨fun _ => ⟨fun _ => ⟨fun _ => ⟨⟨by omega, by decide⟩, rfl⟩, rfl⟩, rfl⟩, rfl⟩, rfl⟩, by decide⟩
end Sy
end Go.Proofs.Ythlggigjnpldcaa
namespace Go.Proofs.Ythlggigjnpldcaa
namespace Sy
open Go Go.RowKit
set_option linter.unusedVariables false

def DW (W : World) : Nat → Prop := fun b => b < W.heap.size
/-- The cells that read as data of a type are told by something of a type of Lean. -/
structure Opens {H : Type} (enc : TypeId × Value → H) (P : Program) (W : World) (t : TypeId) (α : Type) (sz : Nat) (av : α → Nat → AV) (ok : α → Prop) : Prop where
  size : P.cellsOf t = sz
  go : ∀ fuel cs x, DataW.trod enc P W 0 (fun _ => true) true fuel t cs = some x → ∃ y : α, ok y ∧ cs.length = sz ∧ ∀ j, j < sz → ∃ v, cs[j]? = some v ∧ one v ∧ R W.heap (DW W) noMu (av y j) v
structure OpensF {H : Type} (enc : TypeId × Value → H) (P : Program) (W : World) (fs : List Field) (off : Nat) (α : Type) (sz : Nat) (av : α → Nat → AV) (ok : α → Prop) : Prop where
  go : ∀ fuel (cs : List Value) (xs : List (DataW H × List MemPlace)), (∀ (i : Nat) (f : Field), fs[i]? = some f → ∃ x, DataW.trod enc P W 0 (fun _ => true) true fuel f.type ((cs.drop f.offset).take (P.cellsOf f.type)) = some x) → ∃ y : α, ok y ∧ ∀ j, j < sz → ∃ v, cs[off + j]? = some v ∧ one v ∧ R W.heap (DW W) noMu (av y j) v

theorem sgl {h : Array Obj} {D : Nat → Prop} {f : Nat → AV} {v : Value} (h1 : one v) (h2 : R h D noMu (f 0) v) : ∀ j, j < 1 → ∃ u, [v][j]? = some u ∧ one u ∧ R h D noMu (f j) u := by
  intro j hj
  obtain rfl : j = 0 := by omega
  exact ⟨v, rfl, h1, h2⟩
theorem list_of {α : Type} (p : Nat → α → Prop) : ∀ n, (∀ i, i < n → ∃ y, p i y) → ∃ l : List α, l.length = n ∧ ∀ i, i < n → ∃ y, l[i]? = some y ∧ p i y
  | 0, _ => ⟨[], rfl, fun i hi => by omega⟩
  | m + 1, h => by
    obtain ⟨l, e1, e2⟩ := list_of p m (fun i hi => h i (by omega))
    obtain ⟨y, hy⟩ := h m (by omega)
    refine ⟨l ++ [y], by simp [e1], fun i hi => ?_⟩
    by_cases hi' : i < m
    · obtain ⟨z, z1, z2⟩ := e2 i hi'
      exact ⟨z, by rw [List.getElem?_append_left (by omega)]; exact z1, z2⟩
    · have : i = m := by omega
      subst this
      exact ⟨y, by rw [← e1]; simp, hy⟩

section
variable {H : Type} {enc : TypeId × Value → H} {P : Program} {W : World}
theorem opens_int {t : TypeId} {k : IntKind} (ht : P.underlying t = some (.int k)) (hc : P.cellsOf t = 1) : Opens enc P W t Int 1 (fun n _ => .int k n) (fun n => (Lit.int k n).wf = true) := by
  refine ⟨hc, fun fuel cs x h => ?_⟩
  obtain ⟨n, rfl, rfl, hw⟩ := DataW.trod_int ht h
  exact ⟨n, hw, rfl, sgl rfl (.int k n)⟩
theorem opens_bool {t : TypeId} (ht : P.underlying t = some .bool) (hc : P.cellsOf t = 1) : Opens enc P W t Bool 1 (fun b _ => .bool b) (fun _ => True) := by
  refine ⟨hc, fun fuel cs x h => ?_⟩
  obtain ⟨b, rfl, rfl⟩ := DataW.trod_bool ht h
  exact ⟨b, trivial, rfl, sgl rfl (.bool b)⟩
theorem opens_str {t : TypeId} (ht : P.underlying t = some .string) (hc : P.cellsOf t = 1) : Opens enc P W t (List UInt8) 1 (fun l _ => .str l) (fun l => l.length ≤ maxLen) := by
  refine ⟨hc, fun fuel cs x h => ?_⟩
  obtain ⟨s, rfl, rfl, hs⟩ := DataW.trod_string ht h
  exact ⟨s.data.toList, by rw [Array.length_toList]; exact hs, rfl, sgl rfl (.str _ _ rfl)⟩
/-- A list's cells. -/
def avL {α : Type} (av : α → Nat → AV) (l : List α) (i j : Nat) : AV := match l[i]? with | some y => av y j | none => .dead
theorem opens_slice {t e : TypeId} {α : Type} {sz : Nat} {av : α → Nat → AV} {ok : α → Prop} (ht : P.underlying t = some (.slice e)) (hc : P.cellsOf t = 1) (he : Opens enc P W e α sz av ok) (hs : 0 < sz) :
    Opens enc P W t (List α) 1 (fun l _ => .lst sz l.length (avL av l)) (fun l => l.length ≤ maxLen ∧ ∀ y ∈ l, ok y) := by
  refine ⟨hc, fun fuel cs x h => ?_⟩
  rcases DataW.trod_slice ht h with ⟨rfl, rfl⟩ | ⟨a, len, cap, elems, rest, n, _, rfl, rfl, hb, hl, hm, hlen, hel, _, _⟩
  · exact ⟨[], ⟨Nat.zero_le _, fun y hy => by cases hy⟩, rfl, sgl rfl (.lst0 _ _ _ _ (fun _ => rfl))⟩
  · have each : ∀ i, i < len → ∃ y : α, ok y ∧ ∀ j, j < sz → ∃ v, W.cell? ((a.add (i * sz)).add j) = some v ∧ one v ∧ R W.heap (DW W) noMu (av y j) v := by
      intro i hi
      have h1 := hel i hi
      rw [he.size] at h1
      obtain ⟨z, hz⟩ : ∃ z, elems[i]? = some z := ⟨elems[i], by simp [hlen, hi]⟩
      rw [hz, Option.bind_eq_some_iff] at h1
      obtain ⟨cs', h2, h3⟩ := h1
      obtain ⟨y, y1, y2, y3⟩ := he.go _ _ _ h3
      refine ⟨y, y1, fun j hj => ?_⟩
      obtain ⟨v, v1, v2, v3⟩ := y3 j hj
      exact ⟨v, by rw [(World.cells?_some h2).2.2 j hj]; exact v1, v2, v3⟩
    obtain ⟨l, hl1, hl2⟩ : ∃ l : List α, l.length = len ∧ ∀ i, i < len → ∃ y, l[i]? = some y ∧ ok y ∧ ∀ j, j < sz → ∃ v, W.cell? ((a.add (i * sz)).add j) = some v ∧ one v ∧ R W.heap (DW W) noMu (av y j) v :=
      list_of (fun i y => ok y ∧ ∀ j, j < sz → ∃ v, W.cell? ((a.add (i * sz)).add j) = some v ∧ one v ∧ R W.heap (DW W) noMu (av y j) v) len each
    refine ⟨l, ⟨by omega, fun y hy => ?_⟩, rfl, sgl rfl ?_⟩
    · obtain ⟨i, hi, rfl⟩ := List.getElem_of_mem hy
      obtain ⟨z, z1, z2, _⟩ := hl2 i (by omega)
      rw [List.getElem?_eq_getElem hi] at z1
      cases z1; exact z2
    · show R W.heap (DW W) noMu (.lst sz l.length (avL av l)) _
      by_cases h0 : len = 0
      · subst h0; rw [hl1]; exact .lst0 _ _ _ _ (fun h => by cases h)
      · have cell : ∀ i j, i < len → j < sz → ∃ v, hcell W.heap a.block (a.off + i * sz + j) = some v ∧ one v ∧ R W.heap (DW W) noMu (avL av l i j) v := by
          intro i j hi hj
          obtain ⟨y, y1, _, y3⟩ := hl2 i hi
          obtain ⟨v, v1, v2, v3⟩ := y3 j hj
          refine ⟨v, ?_, v2, by rw [avL, y1]; exact v3⟩
          rw [← cell_h]
          have hsp : ∀ p : Addr, W.cell? p = some v → p.spot = none := by
            intro p hp
            unfold World.cell? at hp
            split at hp
            · split at hp
              · cases hp
              · rename_i hn; simpa using hn
            · cases hp
          have h1 := hsp _ v1
          have e : (a.add (i * sz)).add j = ⟨a.block, a.off + i * sz + j, none⟩ := by
            have hb1 : ((a.add (i * sz)).add j).block = a.block := by simp only [Addr.add]; split <;> split <;> rfl
            have hb2 : ((a.add (i * sz)).add j).off = a.off + i * sz + j := by simp only [Addr.add]; split <;> split <;> simp_all
            cases hq : (a.add (i * sz)).add j with
            | mk b o s => rw [hq] at h1 hb1 hb2; simp_all
          rw [← e]; exact v1
        have hsp0 : a.spot = none := by
          obtain ⟨y, _, _, y3⟩ := hl2 0 (by omega)
          obtain ⟨v, v1, _⟩ := y3 0 hs
          rw [Nat.zero_mul] at v1
          simp only [Addr.add, if_true] at v1
          unfold World.cell? at v1
          split at v1
          · split at v1
            · cases v1
            · rename_i hn; simpa using hn
          · cases v1
        have hD : DW W a.block := by
          obtain ⟨v, v1, _⟩ := cell 0 0 (by omega) hs
          refine Classical.byContradiction fun hn => ?_
          unfold hcell at v1
          rw [Array.getElem?_eq_none (by unfold DW at hn; omega)] at v1
          cases v1
        have ea : a = ⟨a.block, a.off, none⟩ := by cases a; simp_all
        rw [ea, ← hl1]
        refine .lst sz l.length (avL av l) a.block a.off cap (fun i j => (hcell W.heap a.block (a.off + i * sz + j)).getD undef) hD (by omega) (fun i j hi hj => ?_) (fun i j hi hj => ?_) (fun i j hi hj => ?_)
        all_goals
          obtain ⟨v, v1, v2, v3⟩ := cell i j (by omega) hj
          rw [v1]
          first | rfl | exact v2 | exact v3
theorem opensF_nil (off : Nat) : OpensF enc P W [] off Unit 0 (fun _ _ => .dead) (fun _ => True) := ⟨fun _ _ _ _ => ⟨(), trivial, fun j hj => by omega⟩⟩
theorem opensF_cons {f : Field} {fs : List Field} {off : Nat} {α β : Type} {sz sz' : Nat} {av : α → Nat → AV} {av' : β → Nat → AV} {ok : α → Prop} {ok' : β → Prop} (ho : f.offset = off) (hf : Opens enc P W f.type α sz av ok) (hr : OpensF enc P W fs (off + sz) β sz' av' ok') :
    OpensF enc P W (f :: fs) off (α × β) (sz + sz') (fun y j => if j < sz then av y.1 j else av' y.2 (j - sz)) (fun y => ok y.1 ∧ ok' y.2) := by
  refine ⟨fun fuel cs xs h => ?_⟩
  obtain ⟨x, hx⟩ := h 0 f rfl
  obtain ⟨y, y1, y2, y3⟩ := hf.go _ _ _ hx
  obtain ⟨z, z1, z2⟩ := hr.go fuel cs xs (fun i g hg => h (i + 1) g hg)
  refine ⟨(y, z), ⟨y1, z1⟩, fun j hj => ?_⟩
  by_cases hlt : j < sz
  · obtain ⟨v, v1, v2, v3⟩ := y3 j hlt
    refine ⟨v, ?_, v2, by simp only [if_pos hlt]; exact v3⟩
    rw [hf.size, List.getElem?_take, if_pos hlt, List.getElem?_drop, ho] at v1
    exact v1
  · obtain ⟨v, v1, v2, v3⟩ := z2 (j - sz) (by omega)
    refine ⟨v, ?_, v2, by simp only [if_neg hlt]; exact v3⟩
    rw [← v1]; congr 1; omega
theorem opens_struct {t : TypeId} {fs : Array Field} {α : Type} {sz : Nat} {av : α → Nat → AV} {ok : α → Prop} (ht : P.underlying t = some (.struct fs)) (hc : P.cellsOf t = sz) (hf : OpensF enc P W fs.toList 0 α sz av ok) : Opens enc P W t α sz av ok := by
  refine ⟨hc, fun fuel cs x h => ?_⟩
  obtain ⟨xs, n, rfl, rfl, hl, hx, hfs⟩ := DataW.trod_struct ht h
  obtain ⟨y, y1, y2⟩ := hf.go n cs xs (fun i f hi => by
    have := hfs i f (by simpa using hi)
    have hlt : i < xs.length := by rw [hx]; simpa using (List.getElem?_eq_some_iff.1 hi).1
    exact ⟨xs[i], by rw [this]; simp [hlt]⟩)
  exact ⟨y, y1, by omega, fun j hj => by obtain ⟨v, v1, v2⟩ := y2 j hj; exact ⟨v, by simpa using v1, v2⟩⟩
theorem Opens.map {t : TypeId} {α β : Type} {sz : Nat} {av : α → Nat → AV} {av' : β → Nat → AV} {ok : α → Prop} {ok' : β → Prop} (O : Opens enc P W t α sz av ok) (f : α → β) (h1 : ∀ y j, j < sz → av y j = av' (f y) j) (h2 : ∀ y, ok y → ok' (f y)) : Opens enc P W t β sz av' ok' := by
  refine ⟨O.size, fun fuel cs x h => ?_⟩
  obtain ⟨y, y1, y2, y3⟩ := O.go fuel cs x h
  refine ⟨f y, h2 y y1, y2, fun j hj => ?_⟩
  obtain ⟨v, v1, v2, v3⟩ := y3 j hj
  exact ⟨v, v1, v2, by rw [← h1 y j hj]; exact v3⟩
/-- An argument of one cell. -/
theorem open_one {t : TypeId} {α : Type} {av : α → Nat → AV} {ok : α → Prop} {v : Value} {d : DataW H} {p : List MemPlace} (O : Opens enc P W t α 1 av ok) (hv : v.cells = #[v]) (h : DataW.Trod enc P W 0 (fun _ => true) true t v d p) :
    ∃ y, ok y ∧ R W.heap (DW W) noMu (av y 0) v := by
  obtain ⟨fuel, h⟩ := h
  obtain ⟨y, y1, y2, y3⟩ := O.go _ _ _ h
  obtain ⟨u, u1, u2, u3⟩ := y3 0 (by omega)
  rw [hv] at u1
  simp at u1
  subst u1
  exact ⟨y, y1, u3⟩
/-- An argument that is a struct, or an array. -/
theorem open_agg {t : TypeId} {α : Type} {sz : Nat} {av : α → Nat → AV} {ok : α → Prop} {cs : Array Value} {d : DataW H} {p : List MemPlace} (O : Opens enc P W t α sz av ok) (h : DataW.Trod enc P W 0 (fun _ => true) true t (.agg cs) d p) :
    ∃ y, ok y ∧ R W.heap (DW W) noMu (.agg ((List.range sz).map (av y))) (.agg cs) := by
  obtain ⟨fuel, h⟩ := h
  obtain ⟨y, y1, y2, y3⟩ := O.go _ _ _ h
  refine ⟨y, y1, .agg _ _ (by simpa [Value.cells] using y2.symm) (fun i v hv => ?_) (fun i x v hx hv => ?_)⟩
  · have hi : i < sz := by
      have := (Array.getElem?_eq_some_iff.1 hv).1
      simp [Value.cells] at y2; omega
    obtain ⟨u, u1, u2, u3⟩ := y3 i hi
    simp [Value.cells] at u1
    rw [u1] at hv; cases hv; exact u2
  · have hi : i < sz := by
      have := (List.getElem?_eq_some_iff.1 hx).1
      simpa using this
    obtain ⟨u, u1, u2, u3⟩ := y3 i hi
    simp [Value.cells] at u1
    rw [u1] at hv; cases hv
    simp [hi] at hx
    subst hx; exact u3
theorem cells_slice {a : Option Addr} {n c : Nat} : (Value.slice a n c).cells = #[.slice a n c] := rfl
end
theorem ac_args {P : Program} {f : FuncId} {xs ys : List AV} {r : AV} (h : ∀ h D vs, RL h D noMu xs vs → RL h D noMu ys vs) (ha : ACalls P f ys r) : ACalls P f xs r := fun D w vs hD hx => ha D w vs hD (h _ _ _ hx)
/-- The first argument's cells told in other words. -/
theorem rl_lst {h : Array Obj} {D : Nat → Prop} {sz n : Nat} {g g' : Nat → Nat → AV} {xs : List AV} {vs : Array Value} (e : ∀ i j, i < n → j < sz → g i j = g' i j) (r : RL h D noMu (.lst sz n g :: xs) vs) : RL h D noMu (.lst sz n g' :: xs) vs := by
  obtain ⟨h1, h2⟩ := r
  refine ⟨by simpa using h1, fun i x v hx hv => ?_⟩
  cases i with
  | zero => cases hx; exact lst_same (h2 0 _ v rfl hv) e
  | succ i => exact h2 (i + 1) x v (by simpa using hx) hv
end Sy
end Go.Proofs.Ythlggigjnpldcaa
namespace Go.Proofs.Ythlggigjnpldcaa
namespace Sy
open Go Go.RowKit
set_option maxRecDepth 100000
set_option linter.unusedSimpArgs false
set_option linter.unusedVariables false

/-- An act. -/
structure Sa where
  d : Int
  now : Int
  v : Int
  n : Int
  b : List UInt8
  t : List UInt8
  c : Int
def saAt (L : Seal) (f : Sa) : Nat → AV
  | 0 => .int .u8 (L Sa.d f)
  | 1 => .int .u64 (L Sa.now f)
  | 2 => .int .u64 (L Sa.v f)
  | 3 => .int .u64 (L Sa.n f)
  | 4 => .str (L Sa.b f)
  | 5 => .str (L Sa.t f)
  | _ => .int .u8 (L Sa.c f)
def nthSa (l : List Sa) (i : Nat) : Sa := l.getD i ⟨0, 0, 0, 0, [], [], 0⟩
def lenSa (l : List Sa) : Nat := l.length
def SaOk (f : Sa) : Prop := u64Ok f.v ∧ u64Ok f.n ∧ 0 ≤ f.c ∧ f.c ≤ 255
/-- What lies there ahead of a round. -/
structure On where
  x : Ss
  n : Nat
  has : Ky → Bool
  val : Ky → List UInt8
structure OnI (y : On) : Prop where
  opn : y.x.opn = true
  ep : u64Ok y.x.ep
  ver : u64Ok y.x.ver
  non : u64Ok y.x.non
  rp : y.x.rep ≠ [] → y.has (.i y.x.non) = true ∧ y.val (.i y.x.non) = y.x.rep
def onInv (l : List Sa) (y : Nat × On) : Prop := OnI y.2 ∧ y.1 ≤ l.length
def sndO (y : Nat × On) : On := y.2
def fstO (y : Nat × On) : Nat := y.1
def onA (L : Seal) (l : List Sa) : Nat → St → Option Ann := fun id st => match id with
  | 0 => some ⟨Nat × On, fun y => [(29, .int .i64 (L natI (L fstO y))), (5, .int .u64 (L Ss.non (L On.x (L sndO y)))), (3, .ref 3 0), (6, .mp 6)],
      fun y => [(3, .box 82 [.int .u64 (L Ss.ep (L On.x (L sndO y))), .int .u64 (L Ss.ver (L On.x (L sndO y))), .int .u64 (L Ss.non (L On.x (L sndO y))), .int .u64 (L Ss.nxt (L On.x (L sndO y))), .str (L Ss.rep (L On.x (L sndO y))), .bool (L Ss.opn (L On.x (L sndO y))), .int .u64 (L Ss.ba (L On.x (L sndO y))), .int .u64 (L Ss.ca (L On.x (L sndO y))), .int .i64 (L Ss.tr (L On.x (L sndO y)))]),
        (6, .map (.i .u64) (L On.n (L sndO y)) (fun k => L2 L On.has (L sndO y) k) (fun k => .str (L2 L On.val (L sndO y) k)))], [27, 28], [],
      fun y => L2 L onInv l y, fun y => L2 L (fun (l : List Sa) (y : Nat × On) => l.length - y.1) l y⟩
  | _ => none
def onT (A : Sa) (x : Ss) : List UInt8 := if A.d.tmod 6 = 3 then A.t else msgT 2 x.ep A.b [A.v, A.n.tmod 8]
noncomputable def onKy (A : Sa) (x : Ss) : Ky := .i (takO x (onT A x)).n
noncomputable def onStep (A : Sa) (y : On) : On :=
  if takE y.x (onT A y.x) = 0 then ⟨donS (takS y.x (onT A y.x)) (takO y.x (onT A y.x)) A.c, mapN (y.has (onKy A y.x)) y.n, fun k => kyeq k (onKy A y.x) || y.has k, fun k => cond (kyeq k (onKy A y.x)) (donT (takS y.x (onT A y.x)) (takO y.x (onT A y.x)) A.c) (y.val k)⟩
  else y
theorem ss_eta (s : Ss) : (⟨s.ep, s.ver, s.non, s.nxt, s.rep, s.opn, s.ba, s.ca, s.tr⟩ : Ss) = s := rfl
theorem of_eta (s : Of) : (⟨s.v, s.n, s.b⟩ : Of) = s := rfl
/-! Numbers that were read are of 64 bits. -/
def n1 (v : CV) : Prop := u64Ok v.nn ∧ ∀ x ∈ v.ls, u64Ok x.nn
def nSt (st : List Lv) : Prop := ∀ a ∈ st, ∀ x ∈ a.l, u64Ok x.nn
theorem u64_0 : u64Ok 0 := ⟨by decide, by decide⟩
theorem n1_bad (e : Int) : n1 (nrBad e).v := ⟨u64_0, fun x hx => by cases hx⟩
theorem nu_done {val : List Lv → List UInt8 → NR} (hv : ∀ st s, nSt st → n1 (val st s).v) : ∀ (st : List Lv) (v : CV) (s : List UInt8), nSt st → n1 v → n1 (nxtDone val st v s).v
  | [], v, s, _, h => h
  | a :: st, v, s, h0, h => by
    have ha := h0 a (by simp)
    have hl : ∀ x ∈ a.l ++ [v], u64Ok x.nn := by
      intro x hx
      rcases List.mem_append.1 hx with hx | hx
      · exact ha x hx
      · rw [List.mem_singleton.1 hx]; exact h.1
    unfold nxtDone
    split
    · exact nu_done hv st _ s (fun b hb => h0 b (by simp [hb])) ⟨u64_0, hl⟩
    · refine hv _ _ (fun b hb => ?_)
      rcases List.mem_cons.1 hb with rfl | hb
      · exact hl
      · exact h0 b (by simp [hb])
theorem nu_val : ∀ (f : Nat) (st : List Lv) (s : List UInt8), nSt st → n1 (nxtVal f st s).v
  | 0, _, _, _ => n1_bad 0
  | f + 1, st, s, h => by
    have ih := nu_val f
    unfold nxtVal
    split
    · exact n1_bad _
    · split
      · exact n1_bad _
      · split
        · exact n1_bad _
        · rename_i _ _ hE
          have hE := lng_yes (Classical.not_not.1 hE)
          split
          · exact nu_done ih st _ _ h ⟨⟨hE.2.2.1, hE.2.2.2⟩, fun x hx => by cases hx⟩
          · split
            · split
              · exact n1_bad _
              · exact nu_done ih st _ _ h ⟨u64_0, fun x hx => by cases hx⟩
            · split
              · exact n1_bad _
              · have h' : nSt (⟨lngN (s.drop 1), []⟩ :: st) := fun b hb => by
                  rcases List.mem_cons.1 hb with rfl | hb
                  · intro x hx; cases hx
                  · exact h b hb
                unfold nxtShut
                split
                · exact n1_bad _
                · rename_i a st' _ he
                  cases he
                  split
                  · exact nu_done ih st _ _ h ⟨u64_0, fun x hx => by cases hx⟩
                  · exact ih _ _ h'
theorem nu_rs {s : List UInt8} (i : Nat) : u64Ok (nthI (rsI s) i) := by
  have h1 : n1 (getV (paB s)) := by
    unfold getV
    split
    · unfold nxtTop
      split
      · exact n1_bad _
      · exact nu_val _ _ _ (fun a ha => by cases ha)
    · exact ⟨u64_0, fun x hx => by cases hx⟩
  unfold rsI nthI
  split
  · rw [List.getD_eq_getElem?_getD]
    cases hq : (nnsV ((rsL s).take (rsM s)))[i]? with
    | none => exact u64_0
    | some x =>
      obtain ⟨y, hy, rfl⟩ := List.mem_map.1 (List.mem_of_getElem? hq)
      exact h1.2 y (List.mem_of_mem_take hy)
  · simp; exact u64_0
/-- What a taken offer is. -/
structure OnOk (A : Sa) (x : Ss) : Prop where
  lt : x.non < (takO x (onT A x)).n
  non : (takS x (onT A x)).non = (takO x (onT A x)).n
  ep : (takS x (onT A x)).ep = x.ep
  ver : (takS x (onT A x)).ver = x.ver
  opn : (takS x (onT A x)).opn = x.opn
  rep : (takS x (onT A x)).rep = []
  v : u64Ok (takO x (onT A x)).v
  n : u64Ok (takO x (onT A x)).n
  same : ¬ A.d.tmod 6 = 3 → (takO x (onT A x)).v = A.v ∧ (takO x (onT A x)).n = A.n.tmod 8 ∧ (takO x (onT A x)).b = A.b
theorem OnOk_iff {A : Sa} {x : Ss} : OnOk A x ↔ x.non < (takO x (onT A x)).n ∧ (takS x (onT A x)).non = (takO x (onT A x)).n ∧ (takS x (onT A x)).ep = x.ep ∧ (takS x (onT A x)).ver = x.ver ∧ (takS x (onT A x)).opn = x.opn ∧
    (takS x (onT A x)).rep = [] ∧ u64Ok (takO x (onT A x)).v ∧ u64Ok (takO x (onT A x)).n ∧ (¬ A.d.tmod 6 = 3 → (takO x (onT A x)).v = A.v ∧ (takO x (onT A x)).n = A.n.tmod 8 ∧ (takO x (onT A x)).b = A.b) :=
  ⟨fun h => ⟨h.lt, h.non, h.ep, h.ver, h.opn, h.rep, h.v, h.n, h.same⟩, fun ⟨a, b, c, d, e, f, g, h, i⟩ => ⟨a, b, c, d, e, f, g, h, i⟩⟩
theorem on_ok {A : Sa} {x : Ss} (hA : SaOk A) (hb : A.b.length ≤ 3000) (hx : u64Ok x.ep) (h : takE x (onT A x) = 0) : OnOk A x := by
  have h0 := h
  unfold takE at h0
  split at h0
  · rename_i q; exact absurd h0 q
  rename_i q1
  have q1 : rsE (onT A x) = 0 := Classical.not_not.1 q1
  split at h0
  · cases h0
  rename_i q2
  have q2 : rsK (onT A x) = 2 := Classical.not_not.1 q2
  split at h0
  · cases h0
  rename_i q3
  split at h0
  · cases h0
  rename_i q4
  have q3 : x.opn = true ∧ rsP (onT A x) = x.ep ∧ x.non ≤ nthI (rsI (onT A x)) 1 := by
    refine ⟨?_, ?_, ?_⟩
    · cases ho : x.opn with
      | true => rfl
      | false => exact absurd (.inl ho) q3
    · exact Classical.byContradiction fun e => q3 (.inr (.inl e))
    · exact Int.not_lt.1 fun e => q3 (.inr (.inr (.inl e)))
  have es : takS x (onT A x) = { x with non := nthI (rsI (onT A x)) 1, rep := [], tr := 0 } := if_pos h
  have eo : takO x (onT A x) = ⟨nthI (rsI (onT A x)) 0, nthI (rsI (onT A x)) 1, rsB (onT A x)⟩ := if_pos h
  rw [OnOk_iff, es, eo]
  refine ⟨?_, rfl, rfl, rfl, rfl, rfl, nu_rs 0, nu_rs 1, fun hd => ?_⟩
  · show x.non < nthI (rsI (onT A x)) 1
    omega
  · have et : onT A x = msgT 2 x.ep A.b [A.v, A.n.tmod 8] := if_neg hd
    have hn := hA.2.1
    have R := read_msg (k := 2) (e := x.ep) (b := A.b) (l := [A.v, A.n.tmod 8]) rfl (by decide) (by decide) hx (by omega) (all2 hA.1 ⟨by have := hn.1; rw [Int.tmod_eq_emod_of_nonneg this]; omega, by have := hn.1; rw [Int.tmod_eq_emod_of_nonneg this]; omega⟩)
    rw [et, R.I, R.B]
    exact ⟨rfl, rfl, rfl⟩
theorem nthSa_mem {l : List Sa} {i : Nat} (h : (i : Int) < (lenSa l : Nat)) : nthSa l i ∈ l := by
  have h : i < l.length := by
    have : lenSa l = l.length := rfl
    omega
  rw [nthSa, List.getD_eq_getElem?_getD, List.getElem?_eq_getElem h]
  exact List.getElem_mem h
theorem mod8 {n : Int} (h : u64Ok n) : u64Ok (n.tmod 8) := by
  have := h.1
  rw [Int.tmod_eq_emod_of_nonneg this]
  exact ⟨by omega, by omega⟩
theorem rsE_nil : ¬ rsE [] = 0 := by
  intro h
  have := (rs_ok h).1
  simp [paE, nxE] at this
theorem msgT_ne {k e : Int} {l : List Int} (hk : numsZ k = l.length) (k1 : 1 ≤ k) (k2 : k ≤ 4) (he : u64Ok e) (hs : ∀ x ∈ l, shortOk x) : msgT k e [] l ≠ [] := by
  intro h
  have R := read_msg (b := []) hk k1 k2 he (by decide) hs
  rw [h] at R
  exact rsE_nil R.E
theorem on_fact {A : Sa} {y : On} (hy : OnI y) (hA : SaOk A) (hb : A.b.length ≤ 3000) (h : takE y.x (onT A y.x) = 0) :
    OnOk A y.x ∧ donT (takS y.x (onT A y.x)) (takO y.x (onT A y.x)) A.c ≠ [] ∧ OnI (onStep A y) ∧ (takO y.x (onT A y.x)).n = (donS (takS y.x (onT A y.x)) (takO y.x (onT A y.x)) A.c).non := by
  have K := on_ok hA hb hy.ep h
  have hnn := hy.non.1
  have hlt := K.lt
  have hn : ¬ donN (takS y.x (onT A y.x)) (takO y.x (onT A y.x)) := by
    rintro (x | x | x | x)
    · omega
    · exact x K.non.symm
    · exact x K.rep
    · rw [K.non] at x; omega
  have hc : u64Ok (A.c % 18446744073709551616) := mod_ok _
  have eD : (donS (takS y.x (onT A y.x)) (takO y.x (onT A y.x)) A.c).rep ≠ [] ∧ (donS (takS y.x (onT A y.x)) (takO y.x (onT A y.x)) A.c).non = (takO y.x (onT A y.x)).n ∧
      (donS (takS y.x (onT A y.x)) (takO y.x (onT A y.x)) A.c).ep = y.x.ep ∧ (donS (takS y.x (onT A y.x)) (takO y.x (onT A y.x)) A.c).opn = true ∧ u64Ok (donS (takS y.x (onT A y.x)) (takO y.x (onT A y.x)) A.c).ver := by
    rw [donS, if_neg hn]
    by_cases hz : A.c = 0
    · rw [if_pos hz]
      refine ⟨?_, K.non, K.ep, K.opn.trans hy.opn, K.v⟩
      exact msgT_ne rfl (by decide) (by decide) (by rw [K.ep]; exact hy.ep) (all2 K.v K.n)
    · rw [if_neg hz]
      refine ⟨?_, K.non, K.ep, K.opn.trans hy.opn, by show u64Ok (takS y.x (onT A y.x)).ver; rw [K.ver]; exact hy.ver⟩
      exact msgT_ne rfl (by decide) (by decide) (by rw [K.ep]; exact hy.ep) (all3 (by rw [K.ver]; exact hy.ver) K.n hc)
  have eT : donT (takS y.x (onT A y.x)) (takO y.x (onT A y.x)) A.c = (donS (takS y.x (onT A y.x)) (takO y.x (onT A y.x)) A.c).rep := if_neg hn
  refine ⟨K, by rw [eT]; exact eD.1, ?_, eD.2.1.symm⟩
  rw [onStep, if_pos h]
  refine ⟨eD.2.2.2.1, by show u64Ok (donS _ _ _).ep; rw [eD.2.2.1]; exact hy.ep, eD.2.2.2.2, by show u64Ok (donS _ _ _).non; rw [eD.2.1]; exact K.n, fun _ => ?_⟩
  show (kyeq (.i (donS _ _ _).non) (onKy A y.x) || y.has (.i (donS _ _ _).non)) = true ∧ cond (kyeq (.i (donS _ _ _).non) (onKy A y.x)) _ _ = (donS _ _ _).rep
  have : kyeq (.i (donS (takS y.x (onT A y.x)) (takO y.x (onT A y.x)) A.c).non) (onKy A y.x) = true := by
    rw [eD.2.1]; simp [kyeq, onKy]
  rw [this, eT]
  exact ⟨rfl, rfl⟩
theorem on_twice {A : Sa} {y : On} (hy : OnI y) (h : takE y.x (onT A y.x) = 11) : takA y.x (onT A y.x) = cond (y.has (.i (takS y.x (onT A y.x)).non)) (y.val (.i (takS y.x (onT A y.x)).non)) [] := by
  have hs : takS y.x (onT A y.x) = y.x := if_neg (by rw [h]; decide)
  have ha : takA y.x (onT A y.x) = y.x.rep := if_pos h
  have hr : y.x.rep ≠ [] := by
    have h0 := h
    unfold takE at h0
    split at h0
    · rename_i q
      have := rs_4 q
      omega
    split at h0
    · cases h0
    split at h0
    · cases h0
    rename_i q3
    split at h0
    · rename_i q4
      exact fun e => q3 (.inr (.inr (.inr ⟨q4, e⟩)))
    · cases h0
  obtain ⟨r1, r2⟩ := hy.rp hr
  rw [hs, ha, r1, r2]; rfl
theorem on_else {A : Sa} {y : On} (h : ¬ takE y.x (onT A y.x) = 0) : onStep A y = y ∧ takS y.x (onT A y.x) = y.x := ⟨if_neg h, if_neg h⟩
/-- The next round's state, out of a taken offer. -/
theorem on_next {A : Sa} {y : On} (h : takE y.x (onT A y.x) = 0) : onStep A y = ⟨donS (takS y.x (onT A y.x)) (takO y.x (onT A y.x)) A.c, mapN (y.has (.i (takO y.x (onT A y.x)).n)) y.n, fun k => kyeq k (.i (takO y.x (onT A y.x)).n) || y.has k, fun k => cond (kyeq k (.i (takO y.x (onT A y.x)).n)) (donT (takS y.x (onT A y.x)) (takO y.x (onT A y.x)) A.c) (y.val k)⟩ := if_pos h
theorem wrapc {c : Int} (h0 : 0 ≤ c) (h1 : c ≤ 255) : (c + 9223372036854775808) % 18446744073709551616 - 9223372036854775808 = c := by omega
def on0 : On := ⟨tickS (newS 1 4 0 0) 0, 0, fun _ => false, fun _ => []⟩
set_option maxHeartbeats 2000000 in
theorem once_ac (l : List Sa) (hl : l.length ≤ maxLen) (h1 : ∀ f ∈ l, SaOk f) : ACalls Try.prog 8 [.lst 7 l.length (fun i j => saAt std (nthSa l i) j)] (.bool true) := by
  refine acalls_L' (T := tt) (S := fun L => sumOf [tru 34, new_s L, tick_s L, msg_s L, tak_s L, don_s L]) (lo := fun L => onA L l) (lb := noA) 5 (fn := Try.f8) (xs := fun L => [.lst 7 (L lenSa l) (fun i j => saAt L (L2 L nthSa l i) j)]) rfl rfl (by kernel_rfl) (by kernel_rfl) rfl tt_ok
    (sumOf_ok ⟨tru_good awake19_ac, new_good, tick_good, msg_good, tak_good, don_good, trivial⟩) (by kernel_rfl) ?_
  intro L P' Q' hL hP hQ
  (cbv; try simp only [sat_need, sat_must, sat_ite, sat_done, sat_yes, sat_ex, sat_all, sat_sup, sat_and, sat_fail, true_and, and_true])
  refine ⟨fun h => ?_, fun h => ⟨fun h => ?_, fun h => ⟨?_, ⟨(0, on0), ?_⟩, fun y hy => ?_⟩⟩⟩
  · (subst hL; subst hQ; simp only [L2, L3, std] at *; try simp only [sySet, reduceCtorEq, forall_const, Int.reduceToNat, Int.reduceAdd, Int.reduceSub, Int.cast_ofNat_Int, Int.toNat_natCast, Nat.le_eq, Nat.sub_eq, ne_eq, Decidable.not_not, implies_true, true_and, and_true, wadd, wsub, wmul, decide_eq_true_eq, decide_eq_false_iff_not, Nat.succ_eq_add_one, imp_false, not_false_eq_true, not_true_eq_false, false_imp_iff, true_imp_iff] at *)
  · (subst hL; subst hQ; simp only [L2, L3, std] at *; try simp only [sySet, reduceCtorEq, forall_const, Int.reduceToNat, Int.reduceAdd, Int.reduceSub, Int.cast_ofNat_Int, Int.toNat_natCast, Nat.le_eq, Nat.sub_eq, ne_eq, Decidable.not_not, implies_true, true_and, and_true, wadd, wsub, wmul, decide_eq_true_eq, decide_eq_false_iff_not, Nat.succ_eq_add_one, imp_false, not_false_eq_true, not_true_eq_false, false_imp_iff, true_imp_iff] at *)
  · (subst hL; subst hQ; simp only [L2, L3, std] at *; try simp only [sySet, reduceCtorEq, forall_const, Int.reduceToNat, Int.reduceAdd, Int.reduceSub, Int.cast_ofNat_Int, Int.toNat_natCast, Nat.le_eq, Nat.sub_eq, ne_eq, Decidable.not_not, implies_true, true_and, and_true, wadd, wsub, wmul, decide_eq_true_eq, decide_eq_false_iff_not, Nat.succ_eq_add_one, imp_false, not_false_eq_true, not_true_eq_false, false_imp_iff, true_imp_iff] at *)
    exact ⟨by decide, by decide⟩
  · (cbv; try simp only [sat_need, sat_must, sat_ite, sat_done, sat_yes, sat_ex, sat_all, sat_sup, sat_and, sat_fail, true_and, and_true])
    (subst hL; subst hQ; simp only [L2, L3, std] at *; try simp only [sySet, reduceCtorEq, forall_const, Int.reduceToNat, Int.reduceAdd, Int.reduceSub, Int.cast_ofNat_Int, Int.toNat_natCast, Nat.le_eq, Nat.sub_eq, ne_eq, Decidable.not_not, implies_true, true_and, and_true, wadd, wsub, wmul, decide_eq_true_eq, decide_eq_false_iff_not, Nat.succ_eq_add_one, imp_false, not_false_eq_true, not_true_eq_false, false_imp_iff, true_imp_iff] at *)
    refine ⟨⟨rfl, fun k => rfl, fun k hk => by cases hk⟩, ?_⟩
    rw [show tickS ⟨0, 0, 0, 0, [], false, 1, 4, 0⟩ 0 = ⟨1, 0, 0, 0, [], true, 1, 4, 0⟩ from rfl]
    refine ⟨rfl, rfl, rfl, rfl, rfl, rfl, rfl, rfl, rfl, rfl, rfl, ?_, Nat.zero_le _⟩
    exact ⟨rfl, ⟨by decide, by decide⟩, ⟨by decide, by decide⟩, ⟨by decide, by decide⟩, fun h => absurd rfl h⟩
  · cbv at hy
    (cbv; try simp only [sat_need, sat_must, sat_ite, sat_done, sat_yes, sat_ex, sat_all, sat_sup, sat_and, sat_fail, true_and, and_true])
    generalize hA : L (L nthSa l) (L Int.toNat (L natI (L fstO y))) = A
    generalize hX : (L (L (L (L (L (L (L (L (L Ss.mk (L Ss.ep (L On.x (L sndO y)))) (L Ss.ver (L On.x (L sndO y)))) (L Ss.non (L On.x (L sndO y)))) (L Ss.nxt (L On.x (L sndO y)))) (L Ss.rep (L On.x (L sndO y)))) (L Ss.opn (L On.x (L sndO y)))) (L Ss.ba (L On.x (L sndO y)))) (L Ss.ca (L On.x (L sndO y)))) (L Ss.tr (L On.x (L sndO y)))) = X
    obtain ⟨nx, hnx⟩ : ∃ nx, nx = onStep A (sndO y) := ⟨_, rfl⟩
    repeat' first
      | refine And.intro ?_ ?_
      | refine ⟨(fstO y + 1, nx), ?_⟩
      | (intro hh)
    all_goals (try (cbv; try simp only [sat_need, sat_must, sat_ite, sat_done, sat_yes, sat_ex, sat_all, sat_sup, sat_and, sat_fail, true_and, and_true]))
    all_goals (obtain ⟨i, z⟩ := y)
    all_goals (subst hL; subst hQ; simp only [L2, L3, std] at *; try simp only [sySet, reduceCtorEq, forall_const, Int.reduceToNat, Int.reduceAdd, Int.reduceSub, Int.cast_ofNat_Int, Int.toNat_natCast, Nat.le_eq, Nat.sub_eq, ne_eq, Decidable.not_not, implies_true, true_and, and_true, wadd, wsub, wmul, decide_eq_true_eq, decide_eq_false_iff_not, Nat.succ_eq_add_one, imp_false, not_false_eq_true, not_true_eq_false, false_imp_iff, true_imp_iff] at *)
    all_goals (try contradiction)
    all_goals (simp only [ss_eta, of_eta] at *)
    all_goals (subst hX)
    all_goals (try contradiction)
    all_goals (try omega)
    all_goals (simp only [show sndO (i, z) = z from rfl, show sndO (i + 1, nx) = nx from rfl, show fstO (i, z) = i from rfl, show fstO (i + 1, nx) = i + 1 from rfl, rd2] at *)
    all_goals (obtain ⟨hz, hi⟩ : OnI z ∧ i ≤ l.length := hy)
    all_goals (have hA' : A ∈ l := (by rw [← hA]; exact nthSa_mem (by assumption)))
    all_goals (have hAo := h1 A hA')
    all_goals (clear hA)
    all_goals (have hw := wrapc hAo.2.2.1 hAo.2.2.2)
    all_goals (simp only [hw] at *)
    all_goals first
      | (exact okl1 _ _)
      | (have hn := hAo.2.1; exact ⟨hz.ep, by omega, by simp, all2 hAo.1 ⟨by have := hn.1; rw [Int.tmod_eq_emod_of_nonneg this]; omega, by have := hn.1; rw [Int.tmod_eq_emod_of_nonneg this]; omega⟩⟩)
      | (show A.t.length ≤ 900000; omega)
      | skip
    all_goals (have F := on_fact (A := A) hz hAo (by omega); have G := on_twice (A := A) hz; have E := on_else (A := A) (y := z); have N := on_next (A := A) (y := z); have J : OnI z → True := fun _ => trivial)
    all_goals (subst hnx)
    all_goals first
      | (have et : onT A z.x = A.t := if_pos (by assumption); simp only [et] at F G E N)
      | (have et : onT A z.x = msgT 2 z.x.ep A.b [A.v, A.n.tmod 8] := if_neg (by assumption); simp only [et] at F G E N)
    all_goals first
      | (have R := read_msg (k := 2) (e := z.x.ep) (b := A.b) (l := [A.v, A.n.tmod 8]) rfl (by decide) (by decide) hz.ep (by omega) (all2 hAo.1 (mod8 hAo.2.1)); have := R.len; show List.length _ ≤ 900000; omega)
      | (have F := F (by assumption); have K := OnOk_iff.1 F.1; simp only [et] at K; obtain ⟨k1, k2, k3, k4, k5, k6, k7, k8, k9⟩ := K; first
          | exact k7
          | exact k8
          | (rw [k3]; exact hz.ep)
          | (rw [k4]; exact hz.ver)
          | (exact absurd (by assumption) F.2.1)
          | omega
          | (obtain ⟨s1, s2, s3⟩ := k9 (by assumption); first | exact absurd s1 (by assumption) | exact absurd s2 (by assumption) | exact absurd s3 (by assumption))
          | (have N := N (by assumption); have J := F.2.2.1; rw [N] at J ⊢; exact ⟨⟨rfl, fun k => rfl, fun k hk => rfl⟩, rfl, rfl, rfl, rfl, rfl, rfl, rfl, rfl, rfl, F.2.2.2, by omega, ⟨J, by show i + 1 ≤ l.length; have : lenSa l = l.length := rfl; omega⟩, by have : lenSa l = l.length := rfl; omega⟩))
      | (exact absurd (G (by assumption)) (by assumption))
      | (obtain ⟨e1, e2⟩ := E (by assumption); rw [e1, e2]; exact ⟨⟨rfl, fun k => rfl, fun k hk => rfl⟩, rfl, rfl, rfl, rfl, rfl, rfl, rfl, rfl, rfl, rfl, by omega, ⟨hz, by show i + 1 ≤ l.length; have : lenSa l = l.length := rfl; omega⟩, by have : lenSa l = l.length := rfl; omega⟩)
/-! ### Acts as arguments -/
theorem opens_Sa {H : Type} {enc : TypeId × Value → H} {W : World} : Opens enc Try.prog W 88 Sa 7 (saAt std) SaOk :=
  (opens_struct Try.underlying88 (by kernel_rfl) (opensF_cons rfl (opens_int Try.underlying5 (by kernel_rfl)) (opensF_cons rfl (opens_int Try.underlying24 (by kernel_rfl)) (opensF_cons rfl (opens_int Try.underlying24 (by kernel_rfl)) (opensF_cons rfl (opens_int Try.underlying24 (by kernel_rfl))
    (opensF_cons rfl (opens_str Try.underlying9 (by kernel_rfl)) (opensF_cons rfl (opens_str Try.underlying9 (by kernel_rfl)) (opensF_cons rfl (opens_int Try.underlying5 (by kernel_rfl)) (opensF_nil _))))))))).map
    (fun y => ⟨y.1, y.2.1, y.2.2.1, y.2.2.2.1, y.2.2.2.2.1, y.2.2.2.2.2.1, y.2.2.2.2.2.2.1⟩)
    (fun y j hj => by match j, hj with | 0, _ => rfl | 1, _ => rfl | 2, _ => rfl | 3, _ => rfl | 4, _ => rfl | 5, _ => rfl | 6, _ => rfl)
    (fun y h => by
      have h3 := bounds_u64 h.2.2.1
      have h4 := bounds_u64 h.2.2.2.1
      have h7 := bounds_u8 h.2.2.2.2.2.2.1
      exact ⟨⟨h3.1, by show y.2.2.1 < _; omega⟩, ⟨h4.1, by show y.2.2.2.1 < _; omega⟩, h7.1, h7.2⟩)
theorem opens_Sas {H : Type} {enc : TypeId × Value → H} {W : World} : Opens enc Try.prog W 78 (List Sa) 1 (fun l _ => .lst 7 l.length (avL (saAt std) l)) (fun l => l.length ≤ maxLen ∧ ∀ y ∈ l, SaOk y) :=
  opens_slice Try.underlying78 (by kernel_rfl) opens_Sa (by omega)
theorem avSa (l : List Sa) (i j : Nat) (h : i < l.length) : avL (saAt std) l i j = saAt std (nthSa l i) j := by
  rw [avL, nthSa, List.getD_eq_getElem?_getD, List.getElem?_eq_getElem h]; rfl
theorem law_SessionOnce (l : List Sa) (hl : l.length ≤ maxLen ∧ ∀ f ∈ l, SaOk f) : ACalls Try.prog 8 [.lst 7 l.length (avL (saAt std) l)] (.bool true) :=
  ac_args (fun h D vs r => rl_lst (fun i j hi hj => avSa l i j hi) r) (once_ac l hl.1 hl.2)
end Sy
end Go.Proofs.Ythlggigjnpldcaa
