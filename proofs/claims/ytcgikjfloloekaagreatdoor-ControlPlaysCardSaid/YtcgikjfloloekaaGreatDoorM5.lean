/-Chapter 7 (codec): the value that a text begins with: what the code does. Chapter 7 (codec): what is written is read as it was; Get. Chapter 7 (codec): Get; and what stands between these and the texts behind.-/
import Derived.Test.YtcgikjfloloekaaGreatDoorM4
import Derived.Test.YtcgikjfloloekaaGreatDoorM3
import Derived.ChangeArms
import Derived.ChangeSlices
import Derived.OpenShut
import Derived.WideShapes
namespace Go.Proofs.YtcgikjfloloekaaGreatDoor
namespace Sy
open Go Go.RowKit
set_option maxRecDepth 100000
set_option linter.unusedSimpArgs false
set_option linter.unusedVariables false
structure Lv where
 left : Int
 l : List CV
structure NR where
 v : CV
 r : List UInt8
 e : Int
structure NX where
 st : List Lv
 s : List UInt8
 f : Nat
 v : CV
def zc4 (e : Int) : NR := ⟨.mk 0 0 [] [], [], e⟩
def zc6 (val : List Lv -> List UInt8 -> NR) : List Lv -> CV -> List UInt8 -> NR
 | [], v, s => ⟨v, s, 0⟩
 | a :: st, v, s => if a.left - 1 = 0 then zc6 val st (.mk 3 0 [] (a.l ++ [v])) s else val (⟨a.left - 1, a.l ++ [v]⟩ :: st) s
def zci (val : List Lv -> List UInt8 -> NR) : List Lv -> List UInt8 -> NR
 | [], s => zc4 0
 | a :: st, s => if a.left = 0 then zc6 val st (.mk 3 0 [] a.l) s else val (a :: st) s
def za3 (s : List UInt8) : List UInt8 := (s.drop 1).drop (zei (s.drop 1)).toNat
def zau : Nat -> List Lv -> List UInt8 -> NR
 | 0, _, _ => zc4 0
 | f + 1, st, s =>
   if s = [] then zc4 3
   else if cb s 0 < 1 \/ 3 < cb s 0 then zc4 10
   else if zdo (s.drop 1) ≠ 0 then zc4 (zdo (s.drop 1))
   else if cb s 0 = 1 then zc6 (zau f) st (.mk 1 (zb8 (s.drop 1)) [] []) (za3 s)
   else if cb s 0 = 2 then
     if ((za3 s).length : Int) < zb8 (s.drop 1) then zc4 3
     else zc6 (zau f) st (.mk 2 0 ((za3 s).take (zb8 (s.drop 1)).toNat) []) ((za3 s).drop (zb8 (s.drop 1)).toNat)
   else if st.length = 6 then zc4 8
   else zci (zau f) (⟨zb8 (s.drop 1), []⟩ :: st) (za3 s)
def zbk (s : List UInt8) : NR := if 8192 < s.length then zc4 5 else zau (s.length + 1) [] s
def zj5 : List Lv -> Nat
 | [] => 0
 | a :: r => a.l.length + 1 + zj5 r
def yxb (st : List Lv) : Prop := ∀ a ∈ st, 1 <= a.left /\ a.left < 18446744073709551616
def zyu (s0 : List UInt8) (x : NX) : Prop := x.st.length <= 6 /\ yxb x.st /\ x.s.length < x.f /\ x.s.length + zj5 x.st <= 8192 /\ zau x.f x.st x.s = zbk s0
def zu6 (s0 : List UInt8) (x : NX) : Prop := x.st.length <= 6 /\ (∃ a r, x.st = a :: r /\ 0 <= a.left /\ a.left < 18446744073709551616 /\ yxb r) /\ x.s.length < x.f /\ x.s.length + zj5 x.st <= 8192 /\ zci (zau x.f) x.st x.s = zbk s0
def zyt (s0 : List UInt8) (x : NX) : Prop := x.st.length <= 6 /\ yxb x.st /\ x.s.length < x.f /\ x.s.length + zj5 x.st + 1 <= 8192 /\ zc6 (zau x.f) x.st x.v x.s = zbk s0
def nMu (c : Nat) (x : NX) : Nat := 20 * x.s.length + 3 * x.st.length + c
theorem zq1 {s : List UInt8} : ∀ (f i n : Nat), f + i = 10 -> n < 2 ^ (7 * i) -> i <= s.length -> (lng s f i n).2.1 <= 10 /\ ((lng s f i n).2.2 = 0 -> 1 <= (lng s f i n).2.1 /\ (lng s f i n).2.1 <= s.length /\ (lng s f i n).1 < 2 ^ 64)
 | 0, i, n, hf, hn, hi => by simp [lng]
 | f + 1, i, n, hf, hn, hi => by
   rw [lng]
   by_cases h1 : s.length <= i
   · rw [if_pos h1]; simp
   · rw [if_neg h1]
     by_cases h2 : i = 9 /\ 1 < cb s i
     · rw [if_pos h2]; simp
     · rw [if_neg h2]
       have hb := zq2 (by omega) hn (yfu s i) h2
       by_cases h3 : 128 <= cb s i
       · rw [if_pos h3]
         by_cases h9 : i = 9
         · omega
         · exact zq1 f (i + 1) _ (by omega) hb.1 (by omega)
       · rw [if_neg h3]
         by_cases h4 : 0 < cb s i \/ i = 0
         · rw [if_pos h4]
           exact ⟨by show i + 1 <= 10; omega, fun _ => ⟨by show 1 <= i + 1; omega, by show i + 1 <= s.length; omega, hb.2.1⟩⟩
         · rw [if_neg h4]; simp
theorem ye3 (s : List UInt8) : 0 <= zei s /\ zei s <= 10 := by
 have := (zq1 (s := s) 10 0 0 rfl (by simp) (Nat.zero_le _)).1
 unfold zei
 omega
theorem ziq {s : List UInt8} (h : zdo s = 0) : 1 <= zei s /\ zei s <= (s.length : Int) /\ 0 <= zb8 s /\ zb8 s < 18446744073709551616 := by
 have := (zq1 (s := s) 10 0 0 rfl (by simp) (Nat.zero_le _)).2
 unfold zdo at h
 unfold zei zb8
 have := this (by omega)
 omega
theorem zch (s : List UInt8) : (((s.getD 0 0).toNat : Int) + 9223372036854775808) % 18446744073709551616 - 9223372036854775808 = (cb s 0 : Int) := by
 have := yfu s 0
 unfold cb at *
 omega
theorem zaf (s : List UInt8) : s.drop ((1 + zei (s.drop 1) + 9223372036854775808) % 18446744073709551616 - 9223372036854775808).toNat = za3 s /\ (1 + zei (s.drop 1) + 9223372036854775808) % 18446744073709551616 - 9223372036854775808 = 1 + zei (s.drop 1) := by
 have := ye3 (s.drop 1)
 have e : (1 + zei (s.drop 1) + 9223372036854775808) % 18446744073709551616 - 9223372036854775808 = 1 + zei (s.drop 1) := by omega
 rw [e]
 refine ⟨?_, rfl⟩
 unfold za3
 rw [List.drop_drop]
 congr 1
theorem zgo {s : List UInt8} (h0 : ¬ s = []) (h : zdo (s.drop 1) = 0) : (za3 s).length + 2 <= s.length /\ 1 + zei (s.drop 1) <= (s.length : Int) := by
 have h1 := ziq h
 have : 0 < s.length := List.length_pos_iff.2 h0
 have hl : (s.drop 1).length = s.length - 1 := List.length_drop
 unfold za3
 rw [List.length_drop]
 omega
theorem zb3 {s0 : List UInt8} {e : Int} (h : zbk s0 = zc4 e) : zh6 (.tup [cvA std (zbk s0).v, .str (zbk s0).r, .int .i64 (zbk s0).e]) (.tup [.agg [.int .i64 0, .int .u64 0, .str [], .nils], .str [], .int .i64 e]) := by
 rw [h]
 show zh6 (.tup [.agg [.int .i64 0, .int .u64 0, .str [], .lst 4 0 (zer (.mk 0 0 [] []))], .str [], .int .i64 e]) _
 simp [sySet]
theorem ynx {s0 : List UInt8} {v : CV} {s : List UInt8} (h : zbk s0 = ⟨v, s, 0⟩) : zh6 (.tup [cvA std (zbk s0).v, .str (zbk s0).r, .int .i64 (zbk s0).e]) (.tup [.agg [.int .i64 v.kd, .int .u64 v.nn, .str v.tx, .lst 4 (zcx v) (zer v)], .str s, .int .i64 0]) := by
 rw [h]
 show zh6 (.tup [.agg [.int .i64 v.kd, .int .u64 v.nn, .str v.tx, .lst 4 (zcx v) (zer v)], .str s, .int .i64 0]) _
 simp [sySet]
section
variable {s0 s : List UInt8} {st : List Lv} {f : Nat} {v : CV}
theorem zrk (h : zyu s0 ⟨st, s, f, v⟩) : zbk s0 =
   if s = [] then zc4 3
   else if cb s 0 < 1 \/ 3 < cb s 0 then zc4 10
   else if zdo (s.drop 1) ≠ 0 then zc4 (zdo (s.drop 1))
   else if cb s 0 = 1 then zc6 (zau (f - 1)) st (.mk 1 (zb8 (s.drop 1)) [] []) (za3 s)
   else if cb s 0 = 2 then
     if ((za3 s).length : Int) < zb8 (s.drop 1) then zc4 3
     else zc6 (zau (f - 1)) st (.mk 2 0 ((za3 s).take (zb8 (s.drop 1)).toNat) []) ((za3 s).drop (zb8 (s.drop 1)).toNat)
   else if st.length = 6 then zc4 8
   else zci (zau (f - 1)) (⟨zb8 (s.drop 1), []⟩ :: st) (za3 s) := by
 obtain ⟨_, _, h3, _, h5⟩ := h
 simp only at h3 h5
 rw [<- h5]
 obtain ⟨g, rfl⟩ : ∃ g, f = g + 1 := ⟨f - 1, by omega⟩
 rw [zau]
 rfl
variable (h : zyu s0 ⟨st, s, f, v⟩)
include h
theorem ynt (h1 : s = []) : zbk s0 = zc4 3 := by rw [zrk h, if_pos h1]
theorem zw9 (h1 : ¬ s = []) (h2 : (cb s 0 : Int) < 1 \/ 3 < (cb s 0 : Int)) : zbk s0 = zc4 10 := by rw [zrk h, if_neg h1, if_pos (by omega)]
theorem yns (h1 : ¬ s = []) (h2 : 1 <= (cb s 0 : Int)) (h3 : (cb s 0 : Int) <= 3) (h4 : ¬ zdo (s.drop 1) = 0) : zbk s0 = zc4 (zdo (s.drop 1)) := by rw [zrk h, if_neg h1, if_neg (by omega), if_pos h4]
omit h in
theorem zu0 (h1 : ¬ s = []) (h4 : zdo (s.drop 1) = 0) : 0 <= 1 + zei (s.drop 1) /\ 1 + zei (s.drop 1) <= (s.length : Int) := by
 have := ziq h4
 exact ⟨by omega, (zgo h1 h4).2⟩
theorem ynr (h1 : ¬ s = []) (h4 : zdo (s.drop 1) = 0) (h5 : (cb s 0 : Int) = 1) : zyt s0 ⟨st, za3 s, f - 1, .mk 1 (zb8 (s.drop 1)) [] []⟩ /\ 20 * (za3 s).length + 3 * st.length + 2 + 1 <= 20 * s.length + 3 * st.length + 0 := by
 have e := zrk h
 rw [if_neg h1, if_neg (by omega), if_neg (by simpa using h4), if_pos (by omega)] at e
 obtain ⟨a1, a2, a3, a4, a5⟩ := h
 have hr := zgo h1 h4
 simp only at a1 a2 a3 a4
 exact ⟨⟨a1, a2, by show (za3 s).length < f - 1; omega, by show (za3 s).length + zj5 st + 1 <= 8192; omega, e.symm⟩, by omega⟩
theorem ynq (h1 : ¬ s = []) (h4 : zdo (s.drop 1) = 0) (h6 : (cb s 0 : Int) = 2) (h7 : ((za3 s).length : Int) % 18446744073709551616 < zb8 (s.drop 1)) : zbk s0 = zc4 3 := by
 have e := zrk h
 obtain ⟨a1, a2, a3, a4, a5⟩ := h
 have hr := zgo h1 h4
 simp only at a4
 rw [if_neg h1, if_neg (by omega), if_neg (by simpa using h4), if_neg (by omega), if_pos (by omega), if_pos (by omega)] at e
 exact e
theorem zw8 (h1 : ¬ s = []) (h4 : zdo (s.drop 1) = 0) (h7 : zb8 (s.drop 1) <= ((za3 s).length : Int) % 18446744073709551616) : 0 <= zb8 (s.drop 1) /\ zb8 (s.drop 1) <= ((za3 s).length : Int) := by
 obtain ⟨a1, a2, a3, a4, a5⟩ := h
 have hr := zgo h1 h4
 have := ziq h4
 simp only at a4
 omega
theorem ynp (h1 : ¬ s = []) (h4 : zdo (s.drop 1) = 0) (h6 : (cb s 0 : Int) = 2) (h7 : zb8 (s.drop 1) <= ((za3 s).length : Int) % 18446744073709551616) :
   zyt s0 ⟨st, (za3 s).drop (zb8 (s.drop 1)).toNat, f - 1, .mk 2 0 ((za3 s).take (zb8 (s.drop 1)).toNat) []⟩ /\ 20 * ((za3 s).drop (zb8 (s.drop 1)).toNat).length + 3 * st.length + 2 + 1 <= 20 * s.length + 3 * st.length + 0 := by
 have e := zrk h
 obtain ⟨a1, a2, a3, a4, a5⟩ := h
 have hr := zgo h1 h4
 simp only at a1 a2 a3 a4
 rw [if_neg h1, if_neg (by omega), if_neg (by simpa using h4), if_neg (by omega), if_pos (by omega), if_neg (by omega)] at e
 have hl : ((za3 s).drop (zb8 (s.drop 1)).toNat).length <= (za3 s).length := by rw [List.length_drop]; omega
 exact ⟨⟨a1, a2, by show ((za3 s).drop (zb8 (s.drop 1)).toNat).length < f - 1; omega, by show ((za3 s).drop (zb8 (s.drop 1)).toNat).length + zj5 st + 1 <= 8192; omega, e.symm⟩, by omega⟩
theorem nx_7 (h1 : ¬ s = []) (h4 : zdo (s.drop 1) = 0) (h7 : (cb s 0 : Int) = 3) (h8 : st.length = 6) : zbk s0 = zc4 8 := by
 have e := zrk h
 rw [if_neg h1, if_neg (by omega), if_neg (by simpa using h4), if_neg (by omega), if_neg (by omega), if_pos h8] at e
 exact e
theorem nx_8 (h1 : ¬ s = []) (h4 : zdo (s.drop 1) = 0) (h7 : (cb s 0 : Int) = 3) (h8 : ¬ st.length = 6) : zu6 s0 ⟨⟨zb8 (s.drop 1), []⟩ :: st, za3 s, f - 1, v⟩ /\ 20 * (za3 s).length + 3 * (st.length + 1) + 1 + 1 <= 20 * s.length + 3 * st.length + 0 := by
 have e := zrk h
 rw [if_neg h1, if_neg (by omega), if_neg (by simpa using h4), if_neg (by omega), if_neg (by omega), if_neg h8] at e
 obtain ⟨a1, a2, a3, a4, a5⟩ := h
 have hr := zgo h1 h4
 have hn := ziq h4
 simp only at a1 a2 a3 a4
 refine ⟨⟨by show st.length + 1 <= 6; omega, ⟨_, _, rfl, hn.2.2.1, hn.2.2.2, a2⟩, by show (za3 s).length < f - 1; omega, ?_, e.symm⟩, by omega⟩
 show (za3 s).length + (0 + 1 + zj5 st) <= 8192
 omega
end
section
variable {s0 s : List UInt8} {st : List Lv} {f : Nat} {v : CV} {a : Lv}
theorem nd_0 (h : zyt s0 ⟨[], s, f, v⟩) : zbk s0 = ⟨v, s, 0⟩ := h.2.2.2.2.symm
theorem zlo (h : zyt s0 ⟨a :: st, s, f, v⟩) : zu6 s0 ⟨⟨a.left - 1, a.l ++ [v]⟩ :: st, s, f, v⟩ /\ a.l.length <= 8192 /\ 1 <= a.left /\ a.left < 18446744073709551616 /\ 20 * s.length + 3 * (st.length + 1) + 1 + 1 <= 20 * s.length + 3 * (st.length + 1) + 2 := by
 obtain ⟨a1, a2, a3, a4, a5⟩ := h
 simp only at a1 a2 a3 a4 a5
 have h1 := a2 a (by simp)
 have e4 : zj5 (a :: st) = a.l.length + 1 + zj5 st := rfl
 refine ⟨⟨a1, ⟨_, _, rfl, by show 0 <= a.left - 1; omega, by show a.left - 1 < _; omega, fun b hb => a2 b (by simp [hb])⟩, a3, ?_, ?_⟩, by omega, h1.1, h1.2, by omega⟩
 · show s.length + ((a.l ++ [v]).length + 1 + zj5 st) <= 8192
   rw [List.length_append, List.length_singleton]
   omega
 · rw [<- a5]; rfl
theorem yr4 (h : zu6 s0 ⟨a :: st, s, f, v⟩) (h0 : a.left = 0) : zyt s0 ⟨st, s, f, .mk 3 0 [] a.l⟩ /\ 20 * s.length + 3 * st.length + 2 + 1 <= 20 * s.length + 3 * (st.length + 1) + 1 := by
 obtain ⟨a1, ⟨b, r, e1, b1, b2, b3⟩, a3, a4, a5⟩ := h
 simp only at a1 a3 a4 a5 e1
 cases e1
 have e4 : zj5 (a :: st) = a.l.length + 1 + zj5 st := rfl
 have e5 : (a :: st).length = st.length + 1 := rfl
 refine ⟨⟨by show st.length <= 6; omega, b3, a3, by show s.length + zj5 st + 1 <= 8192; omega, ?_⟩, by omega⟩
 rw [<- a5, zci, if_pos h0]
theorem yr3 (h : zu6 s0 ⟨a :: st, s, f, v⟩) (h0 : ¬ a.left = 0) : zyu s0 ⟨a :: st, s, f, v⟩ := by
 obtain ⟨a1, ⟨b, r, e1, b1, b2, b3⟩, a3, a4, a5⟩ := h
 simp only at a1 a3 a4 a5 e1
 cases e1
 refine ⟨a1, fun c hc => ?_, a3, a4, ?_⟩
 · rcases List.mem_cons.1 hc with rfl | hc
   · exact ⟨by omega, b2⟩
   · exact b3 c hc
 · rw [<- a5, zci, if_neg h0]
end
theorem nm_1 (s0 : List UInt8) (h : ¬ 8192 < (s0.length : Int)) (v : CV) : zyu s0 ⟨[], s0, s0.length + 1, v⟩ := by
 refine ⟨by simp, fun a ha => by simp at ha, by simp, by simp [zj5]; omega, ?_⟩
 unfold zbk
 rw [if_neg (by omega)]
theorem nm_0 (s0 : List UInt8) (h : 8192 < (s0.length : Int)) : zbk s0 = zc4 5 := by
 unfold zbk
 rw [if_pos (by omega)]
theorem yr2 {s0 s : List UInt8} {st : List Lv} {f f1 : Nat} {v : CV} {a1 : Lv} {s1 : List UInt8} (hx : zyu s0 ⟨st, s, f, v⟩) (h1 : ¬ s = []) (h4 : zdo (s.drop 1) = 0) (h7 : (cb s 0 : Int) = 3) (h8 : ¬ st.length = 6)
   (ha1 : a1 = ⟨zb8 (s.drop 1), []⟩) (hs1 : s1 = za3 s) (hf1 : f1 = f - 1) : 0 = lenL a1.l /\ 0 = lenL a1.l /\ zb8 (s.drop 1) = a1.left /\ za3 s = s1 /\ zu6 s0 ⟨a1 :: st, s1, f1, v⟩ /\ nMu 1 ⟨a1 :: st, s1, f1, v⟩ + 1 <= nMu 0 ⟨st, s, f, v⟩ := by
 obtain ⟨q1, q2⟩ := nx_8 hx h1 h4 h7 h8
 subst ha1 hs1 hf1
 exact ⟨rfl, rfl, rfl, rfl, q1, q2⟩
theorem zia (a : List CV) (v : CV) {p j : Nat} (hp : p < a.length + 1) (hj : j < 4) :
   over std a.length 0 4 [.int .i64 v.kd, .int .u64 v.nn, .str v.tx, .lst 4 (zcx v) (zer v)] (fun i j => zid std (zc9 i a.length) (zek a i j) (zby .dead [.int .i64 0, .int .u64 0, .str [], .nils] ((i - a.length) * 4 + j))) p j = zek (a ++ [v]) p j := by
 rw [<- zgu a v hp hj, zpl, if_pos ⟨Nat.zero_le _, by omega⟩, Nat.sub_zero]
 have e0 : p - a.length = 0 := by omega
 rw [e0, Nat.zero_mul, Nat.zero_add]
 by_cases h : p < a.length
 · rw [zel h, zao (show p ≠ a.length by omega), zb4 a p j h, <- zd6 _ j hj]
   match j, hj with
   | 0, _ => rfl
   | 1, _ => rfl
   | 2, _ => rfl
   | 3, _ => rfl
 · rw [zf7 h, show zan p a.length = true by rw [show p = a.length by omega, za6], zna a p j (by omega)]
   match j, hj with
   | 0, _ => rfl
   | 1, _ => rfl
   | 2, _ => rfl
   | 3, _ => rfl
theorem ze9 {a : Lv} (h : a.l.length <= 8192) : (lenL a.l + 1) * 56 <= 140737488355328 /\ lenL a.l + 1 <= 9223372036854775807 := by
 have : lenL a.l = a.l.length := rfl
 omega
theorem zys (n : Nat) : 0 <= (n : Int) /\ (n : Int) < ((n.add 1 : Nat) : Int) := by
 have : n.add 1 = n + 1 := rfl
 omega
def zt9 (L : za9) : List Lv -> List AV
 | [] => []
 | a :: r => zcr (zt9 L r) [.int .u64 (L Lv.left a), .sl (911 + ze0 r) 4 0 (L lenL (L Lv.l a))]
def ybe (L : za9) : List Lv -> List (Nat × Ob)
 | [] => []
 | a :: r => (911 + ze0 r, .row 89 4 (L lenL (L Lv.l a)) (L zek (L Lv.l a))) :: ybe L r
def stV : List Lv -> AV
 | [] => .nils
 | _ :: r => .sl 910 2 0 (ze0 r + 1)
def stOs (L : za9) : List Lv -> List (Nat × Ob)
 | [] => []
 | a :: r => (910, .spr 188 (zt9 L (a :: r))) :: ybe L (a :: r)
def yu8 : Nat × Ob := (6, .box 89 [.dead, .dead, .dead, .dead])
def yx6 (L : za9) (s0 : List UInt8) : Nat -> St -> Option Ann := fun id _ => match id with
 | 1 => some ⟨NX, fun x => [(0, .str (L NX.s x)), (6, .ref 6 0), (5, stV x.st)], fun x => yu8 :: stOs L x.st, [2], [2],
     fun x => L2 L zyu s0 x, fun x => L (nMu 0) x⟩
 | 2 => some ⟨NX, fun x => [(0, .str (L NX.s x)), (6, .ref 6 0), (5, stV x.st)], fun x => yu8 :: stOs L x.st, [2], [2],
     fun x => L2 L zu6 s0 x, fun x => L (nMu 1) x⟩
 | 3 => some ⟨NX, fun x => [(0, .str (L NX.s x)), (6, .ref 6 0), (5, .sl 910 2 0 (ze0 x.st))],
     fun x => (6, .box 89 [.int .i64 (L CV.kd (L NX.v x)), .int .u64 (L CV.nn (L NX.v x)), .str (L CV.tx (L NX.v x)), .sl 909 4 0 (L zcx (L NX.v x))]) ::
       (909, .row 89 4 (L zcx (L NX.v x)) (L zer (L NX.v x))) :: (910, .spr 188 (zt9 L x.st)) :: ybe L x.st, [2], [2],
     fun x => L2 L zyt s0 x, fun x => L (nMu 2) x⟩
 | _ => none
def nrA (L : za9) (r : NR) : AV := .tup [cvA L (L NR.v r), .str (L NR.r r), .int .i64 (L NR.e r)]
def ydn (L : za9) : zbn := (61, fun xs => match xs with | [.str s] => some (True, nrA L (L zbk s)) | _ => none)
set_option maxHeartbeats 4000000 in
theorem ydo : zay Tryz.prog (ydn std) := by
 intro xs p r h hp
 dsimp only [ydn] at h |-
 split at h <;> cases h
 try simp only [L2, L3, std] at hp |-
 rename_i s0
 refine za5 (T := tt) (S := fun L => zai [yoc L]) (lo := noA) (lb := fun L => yx6 L s0) 5 (fn := Tryz.f61) rfl rfl (by kernel_rfl) (by kernel_rfl) rfl zaa (za1 ⟨yir, trivial⟩) (by kernel_rfl) ?_
 intro L P' Q' hL hP hQ
 (cbv; try simp only [syT, true_and, and_true])
 refine ⟨fun x hx => ?_, fun x hx => ?_, fun x hx => ?_, ?_⟩
 · obtain ⟨st, s, f, v⟩ := x
   cbv at hx
   match st, hx with
   | [], hx =>
     (cbv; try simp only [syT, true_and, and_true])
     obtain ⟨s1, hs1⟩ : ∃ s1, s1 = za3 s := ⟨_, rfl⟩
     obtain ⟨s2, hs2⟩ : ∃ s2, s2 = (za3 s).drop (zb8 (s.drop 1)).toNat := ⟨_, rfl⟩
     obtain ⟨v1, hv1⟩ : ∃ v1, v1 = CV.mk 1 (zb8 (s.drop 1)) [] [] := ⟨_, rfl⟩
     obtain ⟨v2, hv2⟩ : ∃ v2, v2 = CV.mk 2 0 ((za3 s).take (zb8 (s.drop 1)).toNat) [] := ⟨_, rfl⟩
     obtain ⟨a1, ha1⟩ : ∃ a1, a1 = Lv.mk (zb8 (s.drop 1)) [] := ⟨_, rfl⟩
     obtain ⟨f1, hf1⟩ : ∃ f1, f1 = f - 1 := ⟨_, rfl⟩
     refine ⟨fun h1 => ?_, fun h1 => ⟨?_, fun h2 => ?_, fun h2 => ⟨fun h3 => ?_, fun h3 => ⟨?_, fun h4 => ?_, fun h4 => ⟨?_, fun h5 => ⟨⟨[], s1, f1, v1⟩, ?_⟩, fun h5 => ⟨fun h6 => ⟨fun h7 => ?_, fun h7 => ⟨?_, ?_, ⟨[], s2, f1, v2⟩, ?_⟩⟩, fun h6 => ⟨fun h7 => ⟨fun h8 => ?_, fun h8 => ⟨?_, ⟨[a1], s1, f1, v⟩, ?_⟩⟩, fun h7 => ?_⟩⟩⟩⟩⟩⟩⟩
     · (subst hL; subst hQ; simp only [L2, L3, std] at *; try simp only [syS, reduceCtorEq, Int.reduceToNat, Int.reduceAdd, Int.reduceSub] at *)
       exact zb3 (ynt hx h1)
     · (subst hL; subst hQ; simp only [L2, L3, std] at *; try simp only [syS, reduceCtorEq, Int.reduceToNat, Int.reduceAdd, Int.reduceSub] at *)
       have := List.length_pos_iff.2 h1
       omega
     · (subst hL; subst hQ; simp only [L2, L3, std] at *; try simp only [syS, reduceCtorEq, Int.reduceToNat, Int.reduceAdd, Int.reduceSub] at *)
       rw [zch] at h2
       exact zb3 (zw9 hx h1 (.inl h2))
     · (subst hL; subst hQ; simp only [L2, L3, std] at *; try simp only [syS, reduceCtorEq, Int.reduceToNat, Int.reduceAdd, Int.reduceSub] at *)
       rw [zch] at h3
       exact zb3 (zw9 hx h1 (.inr h3))
     · (subst hL; subst hQ; simp only [L2, L3, std] at *; try simp only [syS, reduceCtorEq, Int.reduceToNat, Int.reduceAdd, Int.reduceSub] at *)
       have := List.length_pos_iff.2 h1
       omega
     · (subst hL; subst hQ; simp only [L2, L3, std] at *; try simp only [syS, reduceCtorEq, Int.reduceToNat, Int.reduceAdd, Int.reduceSub] at *)
       rw [zch] at h2 h3
       exact zb3 (yns hx h1 h2 h3 h4)
     · (subst hL; subst hQ; simp only [L2, L3, std] at *; try simp only [syS, reduceCtorEq, Int.reduceToNat, Int.reduceAdd, Int.reduceSub] at *)
       rw [(zaf s).2]
       exact zu0 h1 h4
     · (cbv; try simp only [syT, true_and, and_true])
       (subst hL; subst hQ; simp only [L2, L3, std] at *; try simp only [syS, reduceCtorEq, Int.reduceToNat, Int.reduceAdd, Int.reduceSub] at *)
       simp only [zch, (zaf s).1] at h5 |-
       obtain ⟨q1, q2⟩ := ynr hx h1 h4 h5
       rw [hv1, hs1, hf1]
       exact ⟨rfl, rfl, rfl, rfl, h5, rfl, q1, q2⟩
     · (subst hL; subst hQ; simp only [L2, L3, std] at *; try simp only [syS, reduceCtorEq, Int.reduceToNat, Int.reduceAdd, Int.reduceSub] at *)
       simp only [zch, (zaf s).1] at h6 h7
       exact zb3 (ynq hx h1 h4 h6 h7)
     · (subst hL; subst hQ; simp only [L2, L3, std] at *; try simp only [syS, reduceCtorEq, Int.reduceToNat, Int.reduceAdd, Int.reduceSub] at *)
       simp only [zch, (zaf s).1] at h7 |-
       exact zw8 hx h1 h4 h7
     · (subst hL; subst hQ; simp only [L2, L3, std] at *; try simp only [syS, reduceCtorEq, Int.reduceToNat, Int.reduceAdd, Int.reduceSub] at *)
       simp only [zch, (zaf s).1] at h7 |-
       exact zw8 hx h1 h4 h7
     · (cbv; try simp only [syT, true_and, and_true])
       (subst hL; subst hQ; simp only [L2, L3, std] at *; try simp only [syS, reduceCtorEq, Int.reduceToNat, Int.reduceAdd, Int.reduceSub] at *)
       simp only [zch, (zaf s).1] at h6 h7 |-
       obtain ⟨q1, q2⟩ := ynp hx h1 h4 h6 h7
       rw [hv2, hs2, hf1]
       exact ⟨rfl, rfl, rfl, rfl, h6, rfl, q1, q2⟩
     · (subst hL; subst hQ; simp only [L2, L3, std] at *; try simp only [syS, reduceCtorEq, Int.reduceToNat, Int.reduceAdd, Int.reduceSub] at *)
       simp only [zch] at h7
       exact absurd h8 (by decide)
     · (subst hL; subst hQ; simp only [L2, L3, std] at *; try simp only [syS, reduceCtorEq, Int.reduceToNat, Int.reduceAdd, Int.reduceSub] at *)
       omega
     · (cbv; try simp only [syT, true_and, and_true])
       (subst hL; subst hQ; simp only [L2, L3, std] at *; try simp only [syS, reduceCtorEq, Int.reduceToNat, Int.reduceAdd, Int.reduceSub] at *)
       simp only [zch, (zaf s).1] at h7 |-; obtain ⟨q1, q2, q3, q4⟩ := yr2 hx h1 h4 h7 (by decide) ha1 hs1 hf1; exact ⟨q1, q2, congrArg _ q3, q4⟩
     · (subst hL; subst hQ; simp only [L2, L3, std] at *; try simp only [syS, reduceCtorEq, Int.reduceToNat, Int.reduceAdd, Int.reduceSub] at *)
       simp only [zch] at h2 h3 h5 h6 h7
       omega
   | [a], hx =>
     (cbv; try simp only [syT, true_and, and_true])
     obtain ⟨s1, hs1⟩ : ∃ s1, s1 = za3 s := ⟨_, rfl⟩
     obtain ⟨s2, hs2⟩ : ∃ s2, s2 = (za3 s).drop (zb8 (s.drop 1)).toNat := ⟨_, rfl⟩
     obtain ⟨v1, hv1⟩ : ∃ v1, v1 = CV.mk 1 (zb8 (s.drop 1)) [] [] := ⟨_, rfl⟩
     obtain ⟨v2, hv2⟩ : ∃ v2, v2 = CV.mk 2 0 ((za3 s).take (zb8 (s.drop 1)).toNat) [] := ⟨_, rfl⟩
     obtain ⟨a1, ha1⟩ : ∃ a1, a1 = Lv.mk (zb8 (s.drop 1)) [] := ⟨_, rfl⟩
     obtain ⟨f1, hf1⟩ : ∃ f1, f1 = f - 1 := ⟨_, rfl⟩
     refine ⟨fun h1 => ?_, fun h1 => ⟨?_, fun h2 => ?_, fun h2 => ⟨fun h3 => ?_, fun h3 => ⟨?_, fun h4 => ?_, fun h4 => ⟨?_, fun h5 => ⟨⟨[a], s1, f1, v1⟩, ?_⟩, fun h5 => ⟨fun h6 => ⟨fun h7 => ?_, fun h7 => ⟨?_, ?_, ⟨[a], s2, f1, v2⟩, ?_⟩⟩, fun h6 => ⟨fun h7 => ⟨fun h8 => ?_, fun h8 => ⟨?_, ⟨[a1, a], s1, f1, v⟩, ?_⟩⟩, fun h7 => ?_⟩⟩⟩⟩⟩⟩⟩
     · (subst hL; subst hQ; simp only [L2, L3, std] at *; try simp only [syS, reduceCtorEq, Int.reduceToNat, Int.reduceAdd, Int.reduceSub] at *)
       exact zb3 (ynt hx h1)
     · (subst hL; subst hQ; simp only [L2, L3, std] at *; try simp only [syS, reduceCtorEq, Int.reduceToNat, Int.reduceAdd, Int.reduceSub] at *)
       have := List.length_pos_iff.2 h1
       omega
     · (subst hL; subst hQ; simp only [L2, L3, std] at *; try simp only [syS, reduceCtorEq, Int.reduceToNat, Int.reduceAdd, Int.reduceSub] at *)
       rw [zch] at h2
       exact zb3 (zw9 hx h1 (.inl h2))
     · (subst hL; subst hQ; simp only [L2, L3, std] at *; try simp only [syS, reduceCtorEq, Int.reduceToNat, Int.reduceAdd, Int.reduceSub] at *)
       rw [zch] at h3
       exact zb3 (zw9 hx h1 (.inr h3))
     · (subst hL; subst hQ; simp only [L2, L3, std] at *; try simp only [syS, reduceCtorEq, Int.reduceToNat, Int.reduceAdd, Int.reduceSub] at *)
       have := List.length_pos_iff.2 h1
       omega
     · (subst hL; subst hQ; simp only [L2, L3, std] at *; try simp only [syS, reduceCtorEq, Int.reduceToNat, Int.reduceAdd, Int.reduceSub] at *)
       rw [zch] at h2 h3
       exact zb3 (yns hx h1 h2 h3 h4)
     · (subst hL; subst hQ; simp only [L2, L3, std] at *; try simp only [syS, reduceCtorEq, Int.reduceToNat, Int.reduceAdd, Int.reduceSub] at *)
       rw [(zaf s).2]
       exact zu0 h1 h4
     · (cbv; try simp only [syT, true_and, and_true])
       (subst hL; subst hQ; simp only [L2, L3, std] at *; try simp only [syS, reduceCtorEq, Int.reduceToNat, Int.reduceAdd, Int.reduceSub] at *)
       simp only [zch, (zaf s).1] at h5 |-
       obtain ⟨q1, q2⟩ := ynr hx h1 h4 h5
       rw [hv1, hs1, hf1]
       exact ⟨rfl, rfl, rfl, rfl, h5, rfl, q1, q2⟩
     · (subst hL; subst hQ; simp only [L2, L3, std] at *; try simp only [syS, reduceCtorEq, Int.reduceToNat, Int.reduceAdd, Int.reduceSub] at *)
       simp only [zch, (zaf s).1] at h6 h7
       exact zb3 (ynq hx h1 h4 h6 h7)
     · (subst hL; subst hQ; simp only [L2, L3, std] at *; try simp only [syS, reduceCtorEq, Int.reduceToNat, Int.reduceAdd, Int.reduceSub] at *)
       simp only [zch, (zaf s).1] at h7 |-
       exact zw8 hx h1 h4 h7
     · (subst hL; subst hQ; simp only [L2, L3, std] at *; try simp only [syS, reduceCtorEq, Int.reduceToNat, Int.reduceAdd, Int.reduceSub] at *)
       simp only [zch, (zaf s).1] at h7 |-
       exact zw8 hx h1 h4 h7
     · (cbv; try simp only [syT, true_and, and_true])
       (subst hL; subst hQ; simp only [L2, L3, std] at *; try simp only [syS, reduceCtorEq, Int.reduceToNat, Int.reduceAdd, Int.reduceSub] at *)
       simp only [zch, (zaf s).1] at h6 h7 |-
       obtain ⟨q1, q2⟩ := ynp hx h1 h4 h6 h7
       rw [hv2, hs2, hf1]
       exact ⟨rfl, rfl, rfl, rfl, h6, rfl, q1, q2⟩
     · (subst hL; subst hQ; simp only [L2, L3, std] at *; try simp only [syS, reduceCtorEq, Int.reduceToNat, Int.reduceAdd, Int.reduceSub] at *)
       simp only [zch] at h7
       exact absurd h8 (by decide)
     · (subst hL; subst hQ; simp only [L2, L3, std] at *; try simp only [syS, reduceCtorEq, Int.reduceToNat, Int.reduceAdd, Int.reduceSub] at *)
       omega
     · (cbv; try simp only [syT, true_and, and_true])
       (subst hL; subst hQ; simp only [L2, L3, std] at *; try simp only [syS, reduceCtorEq, Int.reduceToNat, Int.reduceAdd, Int.reduceSub] at *)
       simp only [zch, (zaf s).1] at h7 |-; exact yr2 hx h1 h4 h7 (by simp) ha1 hs1 hf1
     · (subst hL; subst hQ; simp only [L2, L3, std] at *; try simp only [syS, reduceCtorEq, Int.reduceToNat, Int.reduceAdd, Int.reduceSub] at *)
       simp only [zch] at h2 h3 h5 h6 h7
       omega
   | [a, b], hx =>
     (cbv; try simp only [syT, true_and, and_true])
     obtain ⟨s1, hs1⟩ : ∃ s1, s1 = za3 s := ⟨_, rfl⟩
     obtain ⟨s2, hs2⟩ : ∃ s2, s2 = (za3 s).drop (zb8 (s.drop 1)).toNat := ⟨_, rfl⟩
     obtain ⟨v1, hv1⟩ : ∃ v1, v1 = CV.mk 1 (zb8 (s.drop 1)) [] [] := ⟨_, rfl⟩
     obtain ⟨v2, hv2⟩ : ∃ v2, v2 = CV.mk 2 0 ((za3 s).take (zb8 (s.drop 1)).toNat) [] := ⟨_, rfl⟩
     obtain ⟨a1, ha1⟩ : ∃ a1, a1 = Lv.mk (zb8 (s.drop 1)) [] := ⟨_, rfl⟩
     obtain ⟨f1, hf1⟩ : ∃ f1, f1 = f - 1 := ⟨_, rfl⟩
     refine ⟨fun h1 => ?_, fun h1 => ⟨?_, fun h2 => ?_, fun h2 => ⟨fun h3 => ?_, fun h3 => ⟨?_, fun h4 => ?_, fun h4 => ⟨?_, fun h5 => ⟨⟨[a, b], s1, f1, v1⟩, ?_⟩, fun h5 => ⟨fun h6 => ⟨fun h7 => ?_, fun h7 => ⟨?_, ?_, ⟨[a, b], s2, f1, v2⟩, ?_⟩⟩, fun h6 => ⟨fun h7 => ⟨fun h8 => ?_, fun h8 => ⟨?_, ⟨[a1, a, b], s1, f1, v⟩, ?_⟩⟩, fun h7 => ?_⟩⟩⟩⟩⟩⟩⟩
     · (subst hL; subst hQ; simp only [L2, L3, std] at *; try simp only [syS, reduceCtorEq, Int.reduceToNat, Int.reduceAdd, Int.reduceSub] at *)
       exact zb3 (ynt hx h1)
     · (subst hL; subst hQ; simp only [L2, L3, std] at *; try simp only [syS, reduceCtorEq, Int.reduceToNat, Int.reduceAdd, Int.reduceSub] at *)
       have := List.length_pos_iff.2 h1
       omega
     · (subst hL; subst hQ; simp only [L2, L3, std] at *; try simp only [syS, reduceCtorEq, Int.reduceToNat, Int.reduceAdd, Int.reduceSub] at *)
       rw [zch] at h2
       exact zb3 (zw9 hx h1 (.inl h2))
     · (subst hL; subst hQ; simp only [L2, L3, std] at *; try simp only [syS, reduceCtorEq, Int.reduceToNat, Int.reduceAdd, Int.reduceSub] at *)
       rw [zch] at h3
       exact zb3 (zw9 hx h1 (.inr h3))
     · (subst hL; subst hQ; simp only [L2, L3, std] at *; try simp only [syS, reduceCtorEq, Int.reduceToNat, Int.reduceAdd, Int.reduceSub] at *)
       have := List.length_pos_iff.2 h1
       omega
     · (subst hL; subst hQ; simp only [L2, L3, std] at *; try simp only [syS, reduceCtorEq, Int.reduceToNat, Int.reduceAdd, Int.reduceSub] at *)
       rw [zch] at h2 h3
       exact zb3 (yns hx h1 h2 h3 h4)
     · (subst hL; subst hQ; simp only [L2, L3, std] at *; try simp only [syS, reduceCtorEq, Int.reduceToNat, Int.reduceAdd, Int.reduceSub] at *)
       rw [(zaf s).2]
       exact zu0 h1 h4
     · (cbv; try simp only [syT, true_and, and_true])
       (subst hL; subst hQ; simp only [L2, L3, std] at *; try simp only [syS, reduceCtorEq, Int.reduceToNat, Int.reduceAdd, Int.reduceSub] at *)
       simp only [zch, (zaf s).1] at h5 |-
       obtain ⟨q1, q2⟩ := ynr hx h1 h4 h5
       rw [hv1, hs1, hf1]
       exact ⟨rfl, rfl, rfl, rfl, h5, rfl, q1, q2⟩
     · (subst hL; subst hQ; simp only [L2, L3, std] at *; try simp only [syS, reduceCtorEq, Int.reduceToNat, Int.reduceAdd, Int.reduceSub] at *)
       simp only [zch, (zaf s).1] at h6 h7
       exact zb3 (ynq hx h1 h4 h6 h7)
     · (subst hL; subst hQ; simp only [L2, L3, std] at *; try simp only [syS, reduceCtorEq, Int.reduceToNat, Int.reduceAdd, Int.reduceSub] at *)
       simp only [zch, (zaf s).1] at h7 |-
       exact zw8 hx h1 h4 h7
     · (subst hL; subst hQ; simp only [L2, L3, std] at *; try simp only [syS, reduceCtorEq, Int.reduceToNat, Int.reduceAdd, Int.reduceSub] at *)
       simp only [zch, (zaf s).1] at h7 |-
       exact zw8 hx h1 h4 h7
     · (cbv; try simp only [syT, true_and, and_true])
       (subst hL; subst hQ; simp only [L2, L3, std] at *; try simp only [syS, reduceCtorEq, Int.reduceToNat, Int.reduceAdd, Int.reduceSub] at *)
       simp only [zch, (zaf s).1] at h6 h7 |-
       obtain ⟨q1, q2⟩ := ynp hx h1 h4 h6 h7
       rw [hv2, hs2, hf1]
       exact ⟨rfl, rfl, rfl, rfl, h6, rfl, q1, q2⟩
     · (subst hL; subst hQ; simp only [L2, L3, std] at *; try simp only [syS, reduceCtorEq, Int.reduceToNat, Int.reduceAdd, Int.reduceSub] at *)
       simp only [zch] at h7
       exact absurd h8 (by decide)
     · (subst hL; subst hQ; simp only [L2, L3, std] at *; try simp only [syS, reduceCtorEq, Int.reduceToNat, Int.reduceAdd, Int.reduceSub] at *)
       omega
     · (cbv; try simp only [syT, true_and, and_true])
       (subst hL; subst hQ; simp only [L2, L3, std] at *; try simp only [syS, reduceCtorEq, Int.reduceToNat, Int.reduceAdd, Int.reduceSub] at *)
       simp only [zch, (zaf s).1] at h7 |-; exact yr2 hx h1 h4 h7 (by simp) ha1 hs1 hf1
     · (subst hL; subst hQ; simp only [L2, L3, std] at *; try simp only [syS, reduceCtorEq, Int.reduceToNat, Int.reduceAdd, Int.reduceSub] at *)
       simp only [zch] at h2 h3 h5 h6 h7
       omega
   | [a, b, c], hx =>
     (cbv; try simp only [syT, true_and, and_true])
     obtain ⟨s1, hs1⟩ : ∃ s1, s1 = za3 s := ⟨_, rfl⟩
     obtain ⟨s2, hs2⟩ : ∃ s2, s2 = (za3 s).drop (zb8 (s.drop 1)).toNat := ⟨_, rfl⟩
     obtain ⟨v1, hv1⟩ : ∃ v1, v1 = CV.mk 1 (zb8 (s.drop 1)) [] [] := ⟨_, rfl⟩
     obtain ⟨v2, hv2⟩ : ∃ v2, v2 = CV.mk 2 0 ((za3 s).take (zb8 (s.drop 1)).toNat) [] := ⟨_, rfl⟩
     obtain ⟨a1, ha1⟩ : ∃ a1, a1 = Lv.mk (zb8 (s.drop 1)) [] := ⟨_, rfl⟩
     obtain ⟨f1, hf1⟩ : ∃ f1, f1 = f - 1 := ⟨_, rfl⟩
     refine ⟨fun h1 => ?_, fun h1 => ⟨?_, fun h2 => ?_, fun h2 => ⟨fun h3 => ?_, fun h3 => ⟨?_, fun h4 => ?_, fun h4 => ⟨?_, fun h5 => ⟨⟨[a, b, c], s1, f1, v1⟩, ?_⟩, fun h5 => ⟨fun h6 => ⟨fun h7 => ?_, fun h7 => ⟨?_, ?_, ⟨[a, b, c], s2, f1, v2⟩, ?_⟩⟩, fun h6 => ⟨fun h7 => ⟨fun h8 => ?_, fun h8 => ⟨?_, ⟨[a1, a, b, c], s1, f1, v⟩, ?_⟩⟩, fun h7 => ?_⟩⟩⟩⟩⟩⟩⟩
     · (subst hL; subst hQ; simp only [L2, L3, std] at *; try simp only [syS, reduceCtorEq, Int.reduceToNat, Int.reduceAdd, Int.reduceSub] at *)
       exact zb3 (ynt hx h1)
     · (subst hL; subst hQ; simp only [L2, L3, std] at *; try simp only [syS, reduceCtorEq, Int.reduceToNat, Int.reduceAdd, Int.reduceSub] at *)
       have := List.length_pos_iff.2 h1
       omega
     · (subst hL; subst hQ; simp only [L2, L3, std] at *; try simp only [syS, reduceCtorEq, Int.reduceToNat, Int.reduceAdd, Int.reduceSub] at *)
       rw [zch] at h2
       exact zb3 (zw9 hx h1 (.inl h2))
     · (subst hL; subst hQ; simp only [L2, L3, std] at *; try simp only [syS, reduceCtorEq, Int.reduceToNat, Int.reduceAdd, Int.reduceSub] at *)
       rw [zch] at h3
       exact zb3 (zw9 hx h1 (.inr h3))
     · (subst hL; subst hQ; simp only [L2, L3, std] at *; try simp only [syS, reduceCtorEq, Int.reduceToNat, Int.reduceAdd, Int.reduceSub] at *)
       have := List.length_pos_iff.2 h1
       omega
     · (subst hL; subst hQ; simp only [L2, L3, std] at *; try simp only [syS, reduceCtorEq, Int.reduceToNat, Int.reduceAdd, Int.reduceSub] at *)
       rw [zch] at h2 h3
       exact zb3 (yns hx h1 h2 h3 h4)
     · (subst hL; subst hQ; simp only [L2, L3, std] at *; try simp only [syS, reduceCtorEq, Int.reduceToNat, Int.reduceAdd, Int.reduceSub] at *)
       rw [(zaf s).2]
       exact zu0 h1 h4
     · (cbv; try simp only [syT, true_and, and_true])
       (subst hL; subst hQ; simp only [L2, L3, std] at *; try simp only [syS, reduceCtorEq, Int.reduceToNat, Int.reduceAdd, Int.reduceSub] at *)
       simp only [zch, (zaf s).1] at h5 |-
       obtain ⟨q1, q2⟩ := ynr hx h1 h4 h5
       rw [hv1, hs1, hf1]
       exact ⟨rfl, rfl, rfl, rfl, h5, rfl, q1, q2⟩
     · (subst hL; subst hQ; simp only [L2, L3, std] at *; try simp only [syS, reduceCtorEq, Int.reduceToNat, Int.reduceAdd, Int.reduceSub] at *)
       simp only [zch, (zaf s).1] at h6 h7
       exact zb3 (ynq hx h1 h4 h6 h7)
     · (subst hL; subst hQ; simp only [L2, L3, std] at *; try simp only [syS, reduceCtorEq, Int.reduceToNat, Int.reduceAdd, Int.reduceSub] at *)
       simp only [zch, (zaf s).1] at h7 |-
       exact zw8 hx h1 h4 h7
     · (subst hL; subst hQ; simp only [L2, L3, std] at *; try simp only [syS, reduceCtorEq, Int.reduceToNat, Int.reduceAdd, Int.reduceSub] at *)
       simp only [zch, (zaf s).1] at h7 |-
       exact zw8 hx h1 h4 h7
     · (cbv; try simp only [syT, true_and, and_true])
       (subst hL; subst hQ; simp only [L2, L3, std] at *; try simp only [syS, reduceCtorEq, Int.reduceToNat, Int.reduceAdd, Int.reduceSub] at *)
       simp only [zch, (zaf s).1] at h6 h7 |-
       obtain ⟨q1, q2⟩ := ynp hx h1 h4 h6 h7
       rw [hv2, hs2, hf1]
       exact ⟨rfl, rfl, rfl, rfl, h6, rfl, q1, q2⟩
     · (subst hL; subst hQ; simp only [L2, L3, std] at *; try simp only [syS, reduceCtorEq, Int.reduceToNat, Int.reduceAdd, Int.reduceSub] at *)
       simp only [zch] at h7
       exact absurd h8 (by decide)
     · (subst hL; subst hQ; simp only [L2, L3, std] at *; try simp only [syS, reduceCtorEq, Int.reduceToNat, Int.reduceAdd, Int.reduceSub] at *)
       omega
     · (cbv; try simp only [syT, true_and, and_true])
       (subst hL; subst hQ; simp only [L2, L3, std] at *; try simp only [syS, reduceCtorEq, Int.reduceToNat, Int.reduceAdd, Int.reduceSub] at *)
       simp only [zch, (zaf s).1] at h7 |-; exact yr2 hx h1 h4 h7 (by simp) ha1 hs1 hf1
     · (subst hL; subst hQ; simp only [L2, L3, std] at *; try simp only [syS, reduceCtorEq, Int.reduceToNat, Int.reduceAdd, Int.reduceSub] at *)
       simp only [zch] at h2 h3 h5 h6 h7
       omega
   | [a, b, c, d], hx =>
     (cbv; try simp only [syT, true_and, and_true])
     obtain ⟨s1, hs1⟩ : ∃ s1, s1 = za3 s := ⟨_, rfl⟩
     obtain ⟨s2, hs2⟩ : ∃ s2, s2 = (za3 s).drop (zb8 (s.drop 1)).toNat := ⟨_, rfl⟩
     obtain ⟨v1, hv1⟩ : ∃ v1, v1 = CV.mk 1 (zb8 (s.drop 1)) [] [] := ⟨_, rfl⟩
     obtain ⟨v2, hv2⟩ : ∃ v2, v2 = CV.mk 2 0 ((za3 s).take (zb8 (s.drop 1)).toNat) [] := ⟨_, rfl⟩
     obtain ⟨a1, ha1⟩ : ∃ a1, a1 = Lv.mk (zb8 (s.drop 1)) [] := ⟨_, rfl⟩
     obtain ⟨f1, hf1⟩ : ∃ f1, f1 = f - 1 := ⟨_, rfl⟩
     refine ⟨fun h1 => ?_, fun h1 => ⟨?_, fun h2 => ?_, fun h2 => ⟨fun h3 => ?_, fun h3 => ⟨?_, fun h4 => ?_, fun h4 => ⟨?_, fun h5 => ⟨⟨[a, b, c, d], s1, f1, v1⟩, ?_⟩, fun h5 => ⟨fun h6 => ⟨fun h7 => ?_, fun h7 => ⟨?_, ?_, ⟨[a, b, c, d], s2, f1, v2⟩, ?_⟩⟩, fun h6 => ⟨fun h7 => ⟨fun h8 => ?_, fun h8 => ⟨?_, ⟨[a1, a, b, c, d], s1, f1, v⟩, ?_⟩⟩, fun h7 => ?_⟩⟩⟩⟩⟩⟩⟩
     · (subst hL; subst hQ; simp only [L2, L3, std] at *; try simp only [syS, reduceCtorEq, Int.reduceToNat, Int.reduceAdd, Int.reduceSub] at *)
       exact zb3 (ynt hx h1)
     · (subst hL; subst hQ; simp only [L2, L3, std] at *; try simp only [syS, reduceCtorEq, Int.reduceToNat, Int.reduceAdd, Int.reduceSub] at *)
       have := List.length_pos_iff.2 h1
       omega
     · (subst hL; subst hQ; simp only [L2, L3, std] at *; try simp only [syS, reduceCtorEq, Int.reduceToNat, Int.reduceAdd, Int.reduceSub] at *)
       rw [zch] at h2
       exact zb3 (zw9 hx h1 (.inl h2))
     · (subst hL; subst hQ; simp only [L2, L3, std] at *; try simp only [syS, reduceCtorEq, Int.reduceToNat, Int.reduceAdd, Int.reduceSub] at *)
       rw [zch] at h3
       exact zb3 (zw9 hx h1 (.inr h3))
     · (subst hL; subst hQ; simp only [L2, L3, std] at *; try simp only [syS, reduceCtorEq, Int.reduceToNat, Int.reduceAdd, Int.reduceSub] at *)
       have := List.length_pos_iff.2 h1
       omega
     · (subst hL; subst hQ; simp only [L2, L3, std] at *; try simp only [syS, reduceCtorEq, Int.reduceToNat, Int.reduceAdd, Int.reduceSub] at *)
       rw [zch] at h2 h3
       exact zb3 (yns hx h1 h2 h3 h4)
     · (subst hL; subst hQ; simp only [L2, L3, std] at *; try simp only [syS, reduceCtorEq, Int.reduceToNat, Int.reduceAdd, Int.reduceSub] at *)
       rw [(zaf s).2]
       exact zu0 h1 h4
     · (cbv; try simp only [syT, true_and, and_true])
       (subst hL; subst hQ; simp only [L2, L3, std] at *; try simp only [syS, reduceCtorEq, Int.reduceToNat, Int.reduceAdd, Int.reduceSub] at *)
       simp only [zch, (zaf s).1] at h5 |-
       obtain ⟨q1, q2⟩ := ynr hx h1 h4 h5
       rw [hv1, hs1, hf1]
       exact ⟨rfl, rfl, rfl, rfl, h5, rfl, q1, q2⟩
     · (subst hL; subst hQ; simp only [L2, L3, std] at *; try simp only [syS, reduceCtorEq, Int.reduceToNat, Int.reduceAdd, Int.reduceSub] at *)
       simp only [zch, (zaf s).1] at h6 h7
       exact zb3 (ynq hx h1 h4 h6 h7)
     · (subst hL; subst hQ; simp only [L2, L3, std] at *; try simp only [syS, reduceCtorEq, Int.reduceToNat, Int.reduceAdd, Int.reduceSub] at *)
       simp only [zch, (zaf s).1] at h7 |-
       exact zw8 hx h1 h4 h7
     · (subst hL; subst hQ; simp only [L2, L3, std] at *; try simp only [syS, reduceCtorEq, Int.reduceToNat, Int.reduceAdd, Int.reduceSub] at *)
       simp only [zch, (zaf s).1] at h7 |-
       exact zw8 hx h1 h4 h7
     · (cbv; try simp only [syT, true_and, and_true])
       (subst hL; subst hQ; simp only [L2, L3, std] at *; try simp only [syS, reduceCtorEq, Int.reduceToNat, Int.reduceAdd, Int.reduceSub] at *)
       simp only [zch, (zaf s).1] at h6 h7 |-
       obtain ⟨q1, q2⟩ := ynp hx h1 h4 h6 h7
       rw [hv2, hs2, hf1]
       exact ⟨rfl, rfl, rfl, rfl, h6, rfl, q1, q2⟩
     · (subst hL; subst hQ; simp only [L2, L3, std] at *; try simp only [syS, reduceCtorEq, Int.reduceToNat, Int.reduceAdd, Int.reduceSub] at *)
       simp only [zch] at h7
       exact absurd h8 (by decide)
     · (subst hL; subst hQ; simp only [L2, L3, std] at *; try simp only [syS, reduceCtorEq, Int.reduceToNat, Int.reduceAdd, Int.reduceSub] at *)
       omega
     · (cbv; try simp only [syT, true_and, and_true])
       (subst hL; subst hQ; simp only [L2, L3, std] at *; try simp only [syS, reduceCtorEq, Int.reduceToNat, Int.reduceAdd, Int.reduceSub] at *)
       simp only [zch, (zaf s).1] at h7 |-; exact yr2 hx h1 h4 h7 (by simp) ha1 hs1 hf1
     · (subst hL; subst hQ; simp only [L2, L3, std] at *; try simp only [syS, reduceCtorEq, Int.reduceToNat, Int.reduceAdd, Int.reduceSub] at *)
       simp only [zch] at h2 h3 h5 h6 h7
       omega
   | [a, b, c, d, e], hx =>
     (cbv; try simp only [syT, true_and, and_true])
     obtain ⟨s1, hs1⟩ : ∃ s1, s1 = za3 s := ⟨_, rfl⟩
     obtain ⟨s2, hs2⟩ : ∃ s2, s2 = (za3 s).drop (zb8 (s.drop 1)).toNat := ⟨_, rfl⟩
     obtain ⟨v1, hv1⟩ : ∃ v1, v1 = CV.mk 1 (zb8 (s.drop 1)) [] [] := ⟨_, rfl⟩
     obtain ⟨v2, hv2⟩ : ∃ v2, v2 = CV.mk 2 0 ((za3 s).take (zb8 (s.drop 1)).toNat) [] := ⟨_, rfl⟩
     obtain ⟨a1, ha1⟩ : ∃ a1, a1 = Lv.mk (zb8 (s.drop 1)) [] := ⟨_, rfl⟩
     obtain ⟨f1, hf1⟩ : ∃ f1, f1 = f - 1 := ⟨_, rfl⟩
     refine ⟨fun h1 => ?_, fun h1 => ⟨?_, fun h2 => ?_, fun h2 => ⟨fun h3 => ?_, fun h3 => ⟨?_, fun h4 => ?_, fun h4 => ⟨?_, fun h5 => ⟨⟨[a, b, c, d, e], s1, f1, v1⟩, ?_⟩, fun h5 => ⟨fun h6 => ⟨fun h7 => ?_, fun h7 => ⟨?_, ?_, ⟨[a, b, c, d, e], s2, f1, v2⟩, ?_⟩⟩, fun h6 => ⟨fun h7 => ⟨fun h8 => ?_, fun h8 => ⟨?_, ⟨[a1, a, b, c, d, e], s1, f1, v⟩, ?_⟩⟩, fun h7 => ?_⟩⟩⟩⟩⟩⟩⟩
     · (subst hL; subst hQ; simp only [L2, L3, std] at *; try simp only [syS, reduceCtorEq, Int.reduceToNat, Int.reduceAdd, Int.reduceSub] at *)
       exact zb3 (ynt hx h1)
     · (subst hL; subst hQ; simp only [L2, L3, std] at *; try simp only [syS, reduceCtorEq, Int.reduceToNat, Int.reduceAdd, Int.reduceSub] at *)
       have := List.length_pos_iff.2 h1
       omega
     · (subst hL; subst hQ; simp only [L2, L3, std] at *; try simp only [syS, reduceCtorEq, Int.reduceToNat, Int.reduceAdd, Int.reduceSub] at *)
       rw [zch] at h2
       exact zb3 (zw9 hx h1 (.inl h2))
     · (subst hL; subst hQ; simp only [L2, L3, std] at *; try simp only [syS, reduceCtorEq, Int.reduceToNat, Int.reduceAdd, Int.reduceSub] at *)
       rw [zch] at h3
       exact zb3 (zw9 hx h1 (.inr h3))
     · (subst hL; subst hQ; simp only [L2, L3, std] at *; try simp only [syS, reduceCtorEq, Int.reduceToNat, Int.reduceAdd, Int.reduceSub] at *)
       have := List.length_pos_iff.2 h1
       omega
     · (subst hL; subst hQ; simp only [L2, L3, std] at *; try simp only [syS, reduceCtorEq, Int.reduceToNat, Int.reduceAdd, Int.reduceSub] at *)
       rw [zch] at h2 h3
       exact zb3 (yns hx h1 h2 h3 h4)
     · (subst hL; subst hQ; simp only [L2, L3, std] at *; try simp only [syS, reduceCtorEq, Int.reduceToNat, Int.reduceAdd, Int.reduceSub] at *)
       rw [(zaf s).2]
       exact zu0 h1 h4
     · (cbv; try simp only [syT, true_and, and_true])
       (subst hL; subst hQ; simp only [L2, L3, std] at *; try simp only [syS, reduceCtorEq, Int.reduceToNat, Int.reduceAdd, Int.reduceSub] at *)
       simp only [zch, (zaf s).1] at h5 |-
       obtain ⟨q1, q2⟩ := ynr hx h1 h4 h5
       rw [hv1, hs1, hf1]
       exact ⟨rfl, rfl, rfl, rfl, h5, rfl, q1, q2⟩
     · (subst hL; subst hQ; simp only [L2, L3, std] at *; try simp only [syS, reduceCtorEq, Int.reduceToNat, Int.reduceAdd, Int.reduceSub] at *)
       simp only [zch, (zaf s).1] at h6 h7
       exact zb3 (ynq hx h1 h4 h6 h7)
     · (subst hL; subst hQ; simp only [L2, L3, std] at *; try simp only [syS, reduceCtorEq, Int.reduceToNat, Int.reduceAdd, Int.reduceSub] at *)
       simp only [zch, (zaf s).1] at h7 |-
       exact zw8 hx h1 h4 h7
     · (subst hL; subst hQ; simp only [L2, L3, std] at *; try simp only [syS, reduceCtorEq, Int.reduceToNat, Int.reduceAdd, Int.reduceSub] at *)
       simp only [zch, (zaf s).1] at h7 |-
       exact zw8 hx h1 h4 h7
     · (cbv; try simp only [syT, true_and, and_true])
       (subst hL; subst hQ; simp only [L2, L3, std] at *; try simp only [syS, reduceCtorEq, Int.reduceToNat, Int.reduceAdd, Int.reduceSub] at *)
       simp only [zch, (zaf s).1] at h6 h7 |-
       obtain ⟨q1, q2⟩ := ynp hx h1 h4 h6 h7
       rw [hv2, hs2, hf1]
       exact ⟨rfl, rfl, rfl, rfl, h6, rfl, q1, q2⟩
     · (subst hL; subst hQ; simp only [L2, L3, std] at *; try simp only [syS, reduceCtorEq, Int.reduceToNat, Int.reduceAdd, Int.reduceSub] at *)
       simp only [zch] at h7
       exact absurd h8 (by decide)
     · (subst hL; subst hQ; simp only [L2, L3, std] at *; try simp only [syS, reduceCtorEq, Int.reduceToNat, Int.reduceAdd, Int.reduceSub] at *)
       omega
     · (cbv; try simp only [syT, true_and, and_true])
       (subst hL; subst hQ; simp only [L2, L3, std] at *; try simp only [syS, reduceCtorEq, Int.reduceToNat, Int.reduceAdd, Int.reduceSub] at *)
       simp only [zch, (zaf s).1] at h7 |-; exact yr2 hx h1 h4 h7 (by simp) ha1 hs1 hf1
     · (subst hL; subst hQ; simp only [L2, L3, std] at *; try simp only [syS, reduceCtorEq, Int.reduceToNat, Int.reduceAdd, Int.reduceSub] at *)
       simp only [zch] at h2 h3 h5 h6 h7
       omega
   | [a, b, c, d, e, k], hx =>
     (cbv; try simp only [syT, true_and, and_true])
     obtain ⟨s1, hs1⟩ : ∃ s1, s1 = za3 s := ⟨_, rfl⟩
     obtain ⟨s2, hs2⟩ : ∃ s2, s2 = (za3 s).drop (zb8 (s.drop 1)).toNat := ⟨_, rfl⟩
     obtain ⟨v1, hv1⟩ : ∃ v1, v1 = CV.mk 1 (zb8 (s.drop 1)) [] [] := ⟨_, rfl⟩
     obtain ⟨v2, hv2⟩ : ∃ v2, v2 = CV.mk 2 0 ((za3 s).take (zb8 (s.drop 1)).toNat) [] := ⟨_, rfl⟩
     obtain ⟨a1, ha1⟩ : ∃ a1, a1 = Lv.mk (zb8 (s.drop 1)) [] := ⟨_, rfl⟩
     obtain ⟨f1, hf1⟩ : ∃ f1, f1 = f - 1 := ⟨_, rfl⟩
     refine ⟨fun h1 => ?_, fun h1 => ⟨?_, fun h2 => ?_, fun h2 => ⟨fun h3 => ?_, fun h3 => ⟨?_, fun h4 => ?_, fun h4 => ⟨?_, fun h5 => ⟨⟨[a, b, c, d, e, k], s1, f1, v1⟩, ?_⟩, fun h5 => ⟨fun h6 => ⟨fun h7 => ?_, fun h7 => ⟨?_, ?_, ⟨[a, b, c, d, e, k], s2, f1, v2⟩, ?_⟩⟩, fun h6 => ⟨fun h7 => ⟨fun h8 => ?_, fun h8 => ⟨?_, ⟨[a1, a, b, c, d, e, k], s1, f1, v⟩, ?_⟩⟩, fun h7 => ?_⟩⟩⟩⟩⟩⟩⟩
     · (subst hL; subst hQ; simp only [L2, L3, std] at *; try simp only [syS, reduceCtorEq, Int.reduceToNat, Int.reduceAdd, Int.reduceSub] at *)
       exact zb3 (ynt hx h1)
     · (subst hL; subst hQ; simp only [L2, L3, std] at *; try simp only [syS, reduceCtorEq, Int.reduceToNat, Int.reduceAdd, Int.reduceSub] at *)
       have := List.length_pos_iff.2 h1
       omega
     · (subst hL; subst hQ; simp only [L2, L3, std] at *; try simp only [syS, reduceCtorEq, Int.reduceToNat, Int.reduceAdd, Int.reduceSub] at *)
       rw [zch] at h2
       exact zb3 (zw9 hx h1 (.inl h2))
     · (subst hL; subst hQ; simp only [L2, L3, std] at *; try simp only [syS, reduceCtorEq, Int.reduceToNat, Int.reduceAdd, Int.reduceSub] at *)
       rw [zch] at h3
       exact zb3 (zw9 hx h1 (.inr h3))
     · (subst hL; subst hQ; simp only [L2, L3, std] at *; try simp only [syS, reduceCtorEq, Int.reduceToNat, Int.reduceAdd, Int.reduceSub] at *)
       have := List.length_pos_iff.2 h1
       omega
     · (subst hL; subst hQ; simp only [L2, L3, std] at *; try simp only [syS, reduceCtorEq, Int.reduceToNat, Int.reduceAdd, Int.reduceSub] at *)
       rw [zch] at h2 h3
       exact zb3 (yns hx h1 h2 h3 h4)
     · (subst hL; subst hQ; simp only [L2, L3, std] at *; try simp only [syS, reduceCtorEq, Int.reduceToNat, Int.reduceAdd, Int.reduceSub] at *)
       rw [(zaf s).2]
       exact zu0 h1 h4
     · (cbv; try simp only [syT, true_and, and_true])
       (subst hL; subst hQ; simp only [L2, L3, std] at *; try simp only [syS, reduceCtorEq, Int.reduceToNat, Int.reduceAdd, Int.reduceSub] at *)
       simp only [zch, (zaf s).1] at h5 |-
       obtain ⟨q1, q2⟩ := ynr hx h1 h4 h5
       rw [hv1, hs1, hf1]
       exact ⟨rfl, rfl, rfl, rfl, h5, rfl, q1, q2⟩
     · (subst hL; subst hQ; simp only [L2, L3, std] at *; try simp only [syS, reduceCtorEq, Int.reduceToNat, Int.reduceAdd, Int.reduceSub] at *)
       simp only [zch, (zaf s).1] at h6 h7
       exact zb3 (ynq hx h1 h4 h6 h7)
     · (subst hL; subst hQ; simp only [L2, L3, std] at *; try simp only [syS, reduceCtorEq, Int.reduceToNat, Int.reduceAdd, Int.reduceSub] at *)
       simp only [zch, (zaf s).1] at h7 |-
       exact zw8 hx h1 h4 h7
     · (subst hL; subst hQ; simp only [L2, L3, std] at *; try simp only [syS, reduceCtorEq, Int.reduceToNat, Int.reduceAdd, Int.reduceSub] at *)
       simp only [zch, (zaf s).1] at h7 |-
       exact zw8 hx h1 h4 h7
     · (cbv; try simp only [syT, true_and, and_true])
       (subst hL; subst hQ; simp only [L2, L3, std] at *; try simp only [syS, reduceCtorEq, Int.reduceToNat, Int.reduceAdd, Int.reduceSub] at *)
       simp only [zch, (zaf s).1] at h6 h7 |-
       obtain ⟨q1, q2⟩ := ynp hx h1 h4 h6 h7
       rw [hv2, hs2, hf1]
       exact ⟨rfl, rfl, rfl, rfl, h6, rfl, q1, q2⟩
     · (subst hL; subst hQ; simp only [L2, L3, std] at *; try simp only [syS, reduceCtorEq, Int.reduceToNat, Int.reduceAdd, Int.reduceSub] at *)
       simp only [zch] at h7
       exact zb3 (nx_7 hx h1 h4 h7 rfl)
     · (subst hL; subst hQ; simp only [L2, L3, std] at *; try simp only [syS, reduceCtorEq, Int.reduceToNat, Int.reduceAdd, Int.reduceSub] at *)
       all_goals omega
     · all_goals skip
       (subst hL; subst hQ; simp only [L2, L3, std] at *; try simp only [syS, reduceCtorEq, Int.reduceToNat, Int.reduceAdd, Int.reduceSub] at *)
       all_goals omega
     · (subst hL; subst hQ; simp only [L2, L3, std] at *; try simp only [syS, reduceCtorEq, Int.reduceToNat, Int.reduceAdd, Int.reduceSub] at *)
       simp only [zch] at h2 h3 h5 h6 h7
       omega
   | a :: b :: c :: d :: e :: k :: m :: r, hx =>
     have h7 : (a :: b :: c :: d :: e :: k :: m :: r).length <= 6 := by { (subst hL; subst hQ; simp only [L2, L3, std] at *; try simp only [syS, reduceCtorEq, Int.reduceToNat, Int.reduceAdd, Int.reduceSub] at *); exact hx.1 }
     exact absurd h7 (by simp)
 · obtain ⟨st, s, f, v⟩ := x
   cbv at hx
   match st, hx with
   | [], hx =>
     (cbv; try simp only [syT, true_and, and_true])
     refine ⟨fun h0 => ?_, fun h0 => ?_⟩
     · (subst hL; subst hQ; simp only [L2, L3, std] at *; try simp only [syS, reduceCtorEq, Int.reduceToNat, Int.reduceAdd, Int.reduceSub] at *)
       exact ynx (nd_0 hx)
     · (subst hL; subst hQ; simp only [L2, L3, std] at *; try simp only [syS, reduceCtorEq, Int.reduceToNat, Int.reduceAdd, Int.reduceSub] at *)
   | [a], hx =>
     (cbv; try simp only [syT, true_and, and_true])
     obtain ⟨a', ha'⟩ : ∃ a', a' = Lv.mk (a.left - 1) (a.l ++ [v]) := ⟨_, rfl⟩
     refine ⟨fun h0 => ?_, fun h0 => ⟨⟨?_, ?_, ?_, ?_, ?_, ⟨[a'], s, f, v⟩, ?_⟩, ?_, ?_, ?_, ?_, ?_, ?_, ⟨[a'], s, f, v⟩, ?_⟩⟩
     · (subst hL; subst hQ; simp only [L2, L3, std] at *; try simp only [syS, reduceCtorEq, Int.reduceToNat, Int.reduceAdd, Int.reduceSub] at *)
       exact absurd h0 (by decide)
     · (subst hL; subst hQ; simp only [L2, L3, std]; try simp only [syS, reduceCtorEq, Int.reduceToNat, Int.reduceAdd, Int.reduceSub]) <;> decide
     · (subst hL; subst hQ; simp only [L2, L3, std] at *; try simp only [syS, reduceCtorEq, Int.reduceToNat, Int.reduceAdd, Int.reduceSub] at *)
       exact ze9 (zlo hx).2.1
     · (subst hL; subst hQ; simp only [L2, L3, std]; try simp only [syS, reduceCtorEq, Int.reduceToNat, Int.reduceAdd, Int.reduceSub]) <;> decide
     · (subst hL; subst hQ; simp only [L2, L3, std]; try simp only [syS, reduceCtorEq, Int.reduceToNat, Int.reduceAdd, Int.reduceSub]) <;> decide
     · (subst hL; subst hQ; simp only [L2, L3, std]; try simp only [syS, reduceCtorEq, Int.reduceToNat, Int.reduceAdd, Int.reduceSub]) <;> decide
     · (cbv; try simp only [syT, true_and, and_true])
       (subst hL; subst hQ; simp only [L2, L3, std] at *; try simp only [syS, reduceCtorEq, Int.reduceToNat, Int.reduceAdd, Int.reduceSub] at *)
       obtain ⟨q1, q2, q3, q4, q5⟩ := zlo hx
       subst ha'
       have e : lenL (a.l ++ [v]) = a.l.length + 1 := by unfold lenL; simp
       exact ⟨⟨e.symm, fun i j hi hj => zgu a.l v (by rw [<- e]; exact hi) hj⟩, e.symm, Int.emod_eq_of_lt (by omega) (by omega), q1, q5⟩
     · (subst hL; subst hQ; simp only [L2, L3, std]; try simp only [syS, reduceCtorEq, Int.reduceToNat, Int.reduceAdd, Int.reduceSub]) <;> decide
     · (subst hL; subst hQ; simp only [L2, L3, std] at *; try simp only [syS, reduceCtorEq, Int.reduceToNat, Int.reduceAdd, Int.reduceSub] at *)
       exact ze9 (zlo hx).2.1
     · (subst hL; subst hQ; simp only [L2, L3, std]; try simp only [syS, reduceCtorEq, Int.reduceToNat, Int.reduceAdd, Int.reduceSub]) <;> decide
     · (subst hL; subst hQ; simp only [L2, L3, std] at *; try simp only [syS, reduceCtorEq, Int.reduceToNat, Int.reduceAdd, Int.reduceSub] at *)
       exact zys _
     · (subst hL; subst hQ; simp only [L2, L3, std]; try simp only [syS, reduceCtorEq, Int.reduceToNat, Int.reduceAdd, Int.reduceSub]) <;> decide
     · (subst hL; subst hQ; simp only [L2, L3, std]; try simp only [syS, reduceCtorEq, Int.reduceToNat, Int.reduceAdd, Int.reduceSub]) <;> decide
     · (cbv; try simp only [syT, true_and, and_true])
       (subst hL; subst hQ; simp only [L2, L3, std] at *; try simp only [syS, reduceCtorEq, Int.reduceToNat, Int.reduceAdd, Int.reduceSub] at *)
       obtain ⟨q1, q2, q3, q4, q5⟩ := zlo hx
       subst ha'
       have e : lenL (a.l ++ [v]) = a.l.length + 1 := by unfold lenL; simp
       exact ⟨⟨e.symm, fun i j hi hj => zia a.l v (by rw [<- e]; exact hi) hj⟩, e.symm, Int.emod_eq_of_lt (by omega) (by omega), q1, q5⟩
   | [a, b], hx =>
     (cbv; try simp only [syT, true_and, and_true])
     obtain ⟨a', ha'⟩ : ∃ a', a' = Lv.mk (a.left - 1) (a.l ++ [v]) := ⟨_, rfl⟩
     refine ⟨fun h0 => ?_, fun h0 => ⟨⟨?_, ?_, ?_, ?_, ?_, ⟨[a', b], s, f, v⟩, ?_⟩, ?_, ?_, ?_, ?_, ?_, ?_, ⟨[a', b], s, f, v⟩, ?_⟩⟩
     · (subst hL; subst hQ; simp only [L2, L3, std] at *; try simp only [syS, reduceCtorEq, Int.reduceToNat, Int.reduceAdd, Int.reduceSub] at *)
       exact absurd h0 (by decide)
     · (subst hL; subst hQ; simp only [L2, L3, std]; try simp only [syS, reduceCtorEq, Int.reduceToNat, Int.reduceAdd, Int.reduceSub]) <;> decide
     · (subst hL; subst hQ; simp only [L2, L3, std] at *; try simp only [syS, reduceCtorEq, Int.reduceToNat, Int.reduceAdd, Int.reduceSub] at *)
       exact ze9 (zlo hx).2.1
     · (subst hL; subst hQ; simp only [L2, L3, std]; try simp only [syS, reduceCtorEq, Int.reduceToNat, Int.reduceAdd, Int.reduceSub]) <;> decide
     · (subst hL; subst hQ; simp only [L2, L3, std]; try simp only [syS, reduceCtorEq, Int.reduceToNat, Int.reduceAdd, Int.reduceSub]) <;> decide
     · (subst hL; subst hQ; simp only [L2, L3, std]; try simp only [syS, reduceCtorEq, Int.reduceToNat, Int.reduceAdd, Int.reduceSub]) <;> decide
     · (cbv; try simp only [syT, true_and, and_true])
       (subst hL; subst hQ; simp only [L2, L3, std] at *; try simp only [syS, reduceCtorEq, Int.reduceToNat, Int.reduceAdd, Int.reduceSub] at *)
       obtain ⟨q1, q2, q3, q4, q5⟩ := zlo hx
       subst ha'
       have e : lenL (a.l ++ [v]) = a.l.length + 1 := by unfold lenL; simp
       exact ⟨⟨e.symm, fun i j hi hj => zgu a.l v (by rw [<- e]; exact hi) hj⟩, e.symm, Int.emod_eq_of_lt (by omega) (by omega), q1, q5⟩
     · (subst hL; subst hQ; simp only [L2, L3, std]; try simp only [syS, reduceCtorEq, Int.reduceToNat, Int.reduceAdd, Int.reduceSub]) <;> decide
     · (subst hL; subst hQ; simp only [L2, L3, std] at *; try simp only [syS, reduceCtorEq, Int.reduceToNat, Int.reduceAdd, Int.reduceSub] at *)
       exact ze9 (zlo hx).2.1
     · (subst hL; subst hQ; simp only [L2, L3, std]; try simp only [syS, reduceCtorEq, Int.reduceToNat, Int.reduceAdd, Int.reduceSub]) <;> decide
     · (subst hL; subst hQ; simp only [L2, L3, std] at *; try simp only [syS, reduceCtorEq, Int.reduceToNat, Int.reduceAdd, Int.reduceSub] at *)
       exact zys _
     · (subst hL; subst hQ; simp only [L2, L3, std]; try simp only [syS, reduceCtorEq, Int.reduceToNat, Int.reduceAdd, Int.reduceSub]) <;> decide
     · (subst hL; subst hQ; simp only [L2, L3, std]; try simp only [syS, reduceCtorEq, Int.reduceToNat, Int.reduceAdd, Int.reduceSub]) <;> decide
     · (cbv; try simp only [syT, true_and, and_true])
       (subst hL; subst hQ; simp only [L2, L3, std] at *; try simp only [syS, reduceCtorEq, Int.reduceToNat, Int.reduceAdd, Int.reduceSub] at *)
       obtain ⟨q1, q2, q3, q4, q5⟩ := zlo hx
       subst ha'
       have e : lenL (a.l ++ [v]) = a.l.length + 1 := by unfold lenL; simp
       exact ⟨⟨e.symm, fun i j hi hj => zia a.l v (by rw [<- e]; exact hi) hj⟩, e.symm, Int.emod_eq_of_lt (by omega) (by omega), q1, q5⟩
   | [a, b, c], hx =>
     (cbv; try simp only [syT, true_and, and_true])
     obtain ⟨a', ha'⟩ : ∃ a', a' = Lv.mk (a.left - 1) (a.l ++ [v]) := ⟨_, rfl⟩
     refine ⟨fun h0 => ?_, fun h0 => ⟨⟨?_, ?_, ?_, ?_, ?_, ⟨[a', b, c], s, f, v⟩, ?_⟩, ?_, ?_, ?_, ?_, ?_, ?_, ⟨[a', b, c], s, f, v⟩, ?_⟩⟩
     · (subst hL; subst hQ; simp only [L2, L3, std] at *; try simp only [syS, reduceCtorEq, Int.reduceToNat, Int.reduceAdd, Int.reduceSub] at *)
       exact absurd h0 (by decide)
     · (subst hL; subst hQ; simp only [L2, L3, std]; try simp only [syS, reduceCtorEq, Int.reduceToNat, Int.reduceAdd, Int.reduceSub]) <;> decide
     · (subst hL; subst hQ; simp only [L2, L3, std] at *; try simp only [syS, reduceCtorEq, Int.reduceToNat, Int.reduceAdd, Int.reduceSub] at *)
       exact ze9 (zlo hx).2.1
     · (subst hL; subst hQ; simp only [L2, L3, std]; try simp only [syS, reduceCtorEq, Int.reduceToNat, Int.reduceAdd, Int.reduceSub]) <;> decide
     · (subst hL; subst hQ; simp only [L2, L3, std]; try simp only [syS, reduceCtorEq, Int.reduceToNat, Int.reduceAdd, Int.reduceSub]) <;> decide
     · (subst hL; subst hQ; simp only [L2, L3, std]; try simp only [syS, reduceCtorEq, Int.reduceToNat, Int.reduceAdd, Int.reduceSub]) <;> decide
     · (cbv; try simp only [syT, true_and, and_true])
       (subst hL; subst hQ; simp only [L2, L3, std] at *; try simp only [syS, reduceCtorEq, Int.reduceToNat, Int.reduceAdd, Int.reduceSub] at *)
       obtain ⟨q1, q2, q3, q4, q5⟩ := zlo hx
       subst ha'
       have e : lenL (a.l ++ [v]) = a.l.length + 1 := by unfold lenL; simp
       exact ⟨⟨e.symm, fun i j hi hj => zgu a.l v (by rw [<- e]; exact hi) hj⟩, e.symm, Int.emod_eq_of_lt (by omega) (by omega), q1, q5⟩
     · (subst hL; subst hQ; simp only [L2, L3, std]; try simp only [syS, reduceCtorEq, Int.reduceToNat, Int.reduceAdd, Int.reduceSub]) <;> decide
     · (subst hL; subst hQ; simp only [L2, L3, std] at *; try simp only [syS, reduceCtorEq, Int.reduceToNat, Int.reduceAdd, Int.reduceSub] at *)
       exact ze9 (zlo hx).2.1
     · (subst hL; subst hQ; simp only [L2, L3, std]; try simp only [syS, reduceCtorEq, Int.reduceToNat, Int.reduceAdd, Int.reduceSub]) <;> decide
     · (subst hL; subst hQ; simp only [L2, L3, std] at *; try simp only [syS, reduceCtorEq, Int.reduceToNat, Int.reduceAdd, Int.reduceSub] at *)
       exact zys _
     · (subst hL; subst hQ; simp only [L2, L3, std]; try simp only [syS, reduceCtorEq, Int.reduceToNat, Int.reduceAdd, Int.reduceSub]) <;> decide
     · (subst hL; subst hQ; simp only [L2, L3, std]; try simp only [syS, reduceCtorEq, Int.reduceToNat, Int.reduceAdd, Int.reduceSub]) <;> decide
     · (cbv; try simp only [syT, true_and, and_true])
       (subst hL; subst hQ; simp only [L2, L3, std] at *; try simp only [syS, reduceCtorEq, Int.reduceToNat, Int.reduceAdd, Int.reduceSub] at *)
       obtain ⟨q1, q2, q3, q4, q5⟩ := zlo hx
       subst ha'
       have e : lenL (a.l ++ [v]) = a.l.length + 1 := by unfold lenL; simp
       exact ⟨⟨e.symm, fun i j hi hj => zia a.l v (by rw [<- e]; exact hi) hj⟩, e.symm, Int.emod_eq_of_lt (by omega) (by omega), q1, q5⟩
   | [a, b, c, d], hx =>
     (cbv; try simp only [syT, true_and, and_true])
     obtain ⟨a', ha'⟩ : ∃ a', a' = Lv.mk (a.left - 1) (a.l ++ [v]) := ⟨_, rfl⟩
     refine ⟨fun h0 => ?_, fun h0 => ⟨⟨?_, ?_, ?_, ?_, ?_, ⟨[a', b, c, d], s, f, v⟩, ?_⟩, ?_, ?_, ?_, ?_, ?_, ?_, ⟨[a', b, c, d], s, f, v⟩, ?_⟩⟩
     · (subst hL; subst hQ; simp only [L2, L3, std] at *; try simp only [syS, reduceCtorEq, Int.reduceToNat, Int.reduceAdd, Int.reduceSub] at *)
       exact absurd h0 (by decide)
     · (subst hL; subst hQ; simp only [L2, L3, std]; try simp only [syS, reduceCtorEq, Int.reduceToNat, Int.reduceAdd, Int.reduceSub]) <;> decide
     · (subst hL; subst hQ; simp only [L2, L3, std] at *; try simp only [syS, reduceCtorEq, Int.reduceToNat, Int.reduceAdd, Int.reduceSub] at *)
       exact ze9 (zlo hx).2.1
     · (subst hL; subst hQ; simp only [L2, L3, std]; try simp only [syS, reduceCtorEq, Int.reduceToNat, Int.reduceAdd, Int.reduceSub]) <;> decide
     · (subst hL; subst hQ; simp only [L2, L3, std]; try simp only [syS, reduceCtorEq, Int.reduceToNat, Int.reduceAdd, Int.reduceSub]) <;> decide
     · (subst hL; subst hQ; simp only [L2, L3, std]; try simp only [syS, reduceCtorEq, Int.reduceToNat, Int.reduceAdd, Int.reduceSub]) <;> decide
     · (cbv; try simp only [syT, true_and, and_true])
       (subst hL; subst hQ; simp only [L2, L3, std] at *; try simp only [syS, reduceCtorEq, Int.reduceToNat, Int.reduceAdd, Int.reduceSub] at *)
       obtain ⟨q1, q2, q3, q4, q5⟩ := zlo hx
       subst ha'
       have e : lenL (a.l ++ [v]) = a.l.length + 1 := by unfold lenL; simp
       exact ⟨⟨e.symm, fun i j hi hj => zgu a.l v (by rw [<- e]; exact hi) hj⟩, e.symm, Int.emod_eq_of_lt (by omega) (by omega), q1, q5⟩
     · (subst hL; subst hQ; simp only [L2, L3, std]; try simp only [syS, reduceCtorEq, Int.reduceToNat, Int.reduceAdd, Int.reduceSub]) <;> decide
     · (subst hL; subst hQ; simp only [L2, L3, std] at *; try simp only [syS, reduceCtorEq, Int.reduceToNat, Int.reduceAdd, Int.reduceSub] at *)
       exact ze9 (zlo hx).2.1
     · (subst hL; subst hQ; simp only [L2, L3, std]; try simp only [syS, reduceCtorEq, Int.reduceToNat, Int.reduceAdd, Int.reduceSub]) <;> decide
     · (subst hL; subst hQ; simp only [L2, L3, std] at *; try simp only [syS, reduceCtorEq, Int.reduceToNat, Int.reduceAdd, Int.reduceSub] at *)
       exact zys _
     · (subst hL; subst hQ; simp only [L2, L3, std]; try simp only [syS, reduceCtorEq, Int.reduceToNat, Int.reduceAdd, Int.reduceSub]) <;> decide
     · (subst hL; subst hQ; simp only [L2, L3, std]; try simp only [syS, reduceCtorEq, Int.reduceToNat, Int.reduceAdd, Int.reduceSub]) <;> decide
     · (cbv; try simp only [syT, true_and, and_true])
       (subst hL; subst hQ; simp only [L2, L3, std] at *; try simp only [syS, reduceCtorEq, Int.reduceToNat, Int.reduceAdd, Int.reduceSub] at *)
       obtain ⟨q1, q2, q3, q4, q5⟩ := zlo hx
       subst ha'
       have e : lenL (a.l ++ [v]) = a.l.length + 1 := by unfold lenL; simp
       exact ⟨⟨e.symm, fun i j hi hj => zia a.l v (by rw [<- e]; exact hi) hj⟩, e.symm, Int.emod_eq_of_lt (by omega) (by omega), q1, q5⟩
   | [a, b, c, d, e], hx =>
     (cbv; try simp only [syT, true_and, and_true])
     obtain ⟨a', ha'⟩ : ∃ a', a' = Lv.mk (a.left - 1) (a.l ++ [v]) := ⟨_, rfl⟩
     refine ⟨fun h0 => ?_, fun h0 => ⟨⟨?_, ?_, ?_, ?_, ?_, ⟨[a', b, c, d, e], s, f, v⟩, ?_⟩, ?_, ?_, ?_, ?_, ?_, ?_, ⟨[a', b, c, d, e], s, f, v⟩, ?_⟩⟩
     · (subst hL; subst hQ; simp only [L2, L3, std] at *; try simp only [syS, reduceCtorEq, Int.reduceToNat, Int.reduceAdd, Int.reduceSub] at *)
       exact absurd h0 (by decide)
     · (subst hL; subst hQ; simp only [L2, L3, std]; try simp only [syS, reduceCtorEq, Int.reduceToNat, Int.reduceAdd, Int.reduceSub]) <;> decide
     · (subst hL; subst hQ; simp only [L2, L3, std] at *; try simp only [syS, reduceCtorEq, Int.reduceToNat, Int.reduceAdd, Int.reduceSub] at *)
       exact ze9 (zlo hx).2.1
     · (subst hL; subst hQ; simp only [L2, L3, std]; try simp only [syS, reduceCtorEq, Int.reduceToNat, Int.reduceAdd, Int.reduceSub]) <;> decide
     · (subst hL; subst hQ; simp only [L2, L3, std]; try simp only [syS, reduceCtorEq, Int.reduceToNat, Int.reduceAdd, Int.reduceSub]) <;> decide
     · (subst hL; subst hQ; simp only [L2, L3, std]; try simp only [syS, reduceCtorEq, Int.reduceToNat, Int.reduceAdd, Int.reduceSub]) <;> decide
     · (cbv; try simp only [syT, true_and, and_true])
       (subst hL; subst hQ; simp only [L2, L3, std] at *; try simp only [syS, reduceCtorEq, Int.reduceToNat, Int.reduceAdd, Int.reduceSub] at *)
       obtain ⟨q1, q2, q3, q4, q5⟩ := zlo hx
       subst ha'
       have e : lenL (a.l ++ [v]) = a.l.length + 1 := by unfold lenL; simp
       exact ⟨⟨e.symm, fun i j hi hj => zgu a.l v (by rw [<- e]; exact hi) hj⟩, e.symm, Int.emod_eq_of_lt (by omega) (by omega), q1, q5⟩
     · (subst hL; subst hQ; simp only [L2, L3, std]; try simp only [syS, reduceCtorEq, Int.reduceToNat, Int.reduceAdd, Int.reduceSub]) <;> decide
     · (subst hL; subst hQ; simp only [L2, L3, std] at *; try simp only [syS, reduceCtorEq, Int.reduceToNat, Int.reduceAdd, Int.reduceSub] at *)
       exact ze9 (zlo hx).2.1
     · (subst hL; subst hQ; simp only [L2, L3, std]; try simp only [syS, reduceCtorEq, Int.reduceToNat, Int.reduceAdd, Int.reduceSub]) <;> decide
     · (subst hL; subst hQ; simp only [L2, L3, std] at *; try simp only [syS, reduceCtorEq, Int.reduceToNat, Int.reduceAdd, Int.reduceSub] at *)
       exact zys _
     · (subst hL; subst hQ; simp only [L2, L3, std]; try simp only [syS, reduceCtorEq, Int.reduceToNat, Int.reduceAdd, Int.reduceSub]) <;> decide
     · (subst hL; subst hQ; simp only [L2, L3, std]; try simp only [syS, reduceCtorEq, Int.reduceToNat, Int.reduceAdd, Int.reduceSub]) <;> decide
     · (cbv; try simp only [syT, true_and, and_true])
       (subst hL; subst hQ; simp only [L2, L3, std] at *; try simp only [syS, reduceCtorEq, Int.reduceToNat, Int.reduceAdd, Int.reduceSub] at *)
       obtain ⟨q1, q2, q3, q4, q5⟩ := zlo hx
       subst ha'
       have e : lenL (a.l ++ [v]) = a.l.length + 1 := by unfold lenL; simp
       exact ⟨⟨e.symm, fun i j hi hj => zia a.l v (by rw [<- e]; exact hi) hj⟩, e.symm, Int.emod_eq_of_lt (by omega) (by omega), q1, q5⟩
   | [a, b, c, d, e, k], hx =>
     (cbv; try simp only [syT, true_and, and_true])
     obtain ⟨a', ha'⟩ : ∃ a', a' = Lv.mk (a.left - 1) (a.l ++ [v]) := ⟨_, rfl⟩
     refine ⟨fun h0 => ?_, fun h0 => ⟨⟨?_, ?_, ?_, ?_, ?_, ⟨[a', b, c, d, e, k], s, f, v⟩, ?_⟩, ?_, ?_, ?_, ?_, ?_, ?_, ⟨[a', b, c, d, e, k], s, f, v⟩, ?_⟩⟩
     · (subst hL; subst hQ; simp only [L2, L3, std] at *; try simp only [syS, reduceCtorEq, Int.reduceToNat, Int.reduceAdd, Int.reduceSub] at *)
       exact absurd h0 (by decide)
     · (subst hL; subst hQ; simp only [L2, L3, std]; try simp only [syS, reduceCtorEq, Int.reduceToNat, Int.reduceAdd, Int.reduceSub]) <;> decide
     · (subst hL; subst hQ; simp only [L2, L3, std] at *; try simp only [syS, reduceCtorEq, Int.reduceToNat, Int.reduceAdd, Int.reduceSub] at *)
       exact ze9 (zlo hx).2.1
     · (subst hL; subst hQ; simp only [L2, L3, std]; try simp only [syS, reduceCtorEq, Int.reduceToNat, Int.reduceAdd, Int.reduceSub]) <;> decide
     · (subst hL; subst hQ; simp only [L2, L3, std]; try simp only [syS, reduceCtorEq, Int.reduceToNat, Int.reduceAdd, Int.reduceSub]) <;> decide
     · (subst hL; subst hQ; simp only [L2, L3, std]; try simp only [syS, reduceCtorEq, Int.reduceToNat, Int.reduceAdd, Int.reduceSub]) <;> decide
     · (cbv; try simp only [syT, true_and, and_true])
       (subst hL; subst hQ; simp only [L2, L3, std] at *; try simp only [syS, reduceCtorEq, Int.reduceToNat, Int.reduceAdd, Int.reduceSub] at *)
       obtain ⟨q1, q2, q3, q4, q5⟩ := zlo hx
       subst ha'
       have e : lenL (a.l ++ [v]) = a.l.length + 1 := by unfold lenL; simp
       exact ⟨⟨e.symm, fun i j hi hj => zgu a.l v (by rw [<- e]; exact hi) hj⟩, e.symm, Int.emod_eq_of_lt (by omega) (by omega), q1, q5⟩
     · (subst hL; subst hQ; simp only [L2, L3, std]; try simp only [syS, reduceCtorEq, Int.reduceToNat, Int.reduceAdd, Int.reduceSub]) <;> decide
     · (subst hL; subst hQ; simp only [L2, L3, std] at *; try simp only [syS, reduceCtorEq, Int.reduceToNat, Int.reduceAdd, Int.reduceSub] at *)
       exact ze9 (zlo hx).2.1
     · (subst hL; subst hQ; simp only [L2, L3, std]; try simp only [syS, reduceCtorEq, Int.reduceToNat, Int.reduceAdd, Int.reduceSub]) <;> decide
     · (subst hL; subst hQ; simp only [L2, L3, std] at *; try simp only [syS, reduceCtorEq, Int.reduceToNat, Int.reduceAdd, Int.reduceSub] at *)
       exact zys _
     · (subst hL; subst hQ; simp only [L2, L3, std]; try simp only [syS, reduceCtorEq, Int.reduceToNat, Int.reduceAdd, Int.reduceSub]) <;> decide
     · (subst hL; subst hQ; simp only [L2, L3, std]; try simp only [syS, reduceCtorEq, Int.reduceToNat, Int.reduceAdd, Int.reduceSub]) <;> decide
     · (cbv; try simp only [syT, true_and, and_true])
       (subst hL; subst hQ; simp only [L2, L3, std] at *; try simp only [syS, reduceCtorEq, Int.reduceToNat, Int.reduceAdd, Int.reduceSub] at *)
       obtain ⟨q1, q2, q3, q4, q5⟩ := zlo hx
       subst ha'
       have e : lenL (a.l ++ [v]) = a.l.length + 1 := by unfold lenL; simp
       exact ⟨⟨e.symm, fun i j hi hj => zia a.l v (by rw [<- e]; exact hi) hj⟩, e.symm, Int.emod_eq_of_lt (by omega) (by omega), q1, q5⟩
   | a :: b :: c :: d :: e :: k :: m :: r, hx =>
     have h7 : (a :: b :: c :: d :: e :: k :: m :: r).length <= 6 := by { (subst hL; subst hQ; simp only [L2, L3, std] at *; try simp only [syS, reduceCtorEq, Int.reduceToNat, Int.reduceAdd, Int.reduceSub] at *); exact hx.1 }
     exact absurd h7 (by simp)
 · obtain ⟨st, s, f, v⟩ := x
   cbv at hx
   match st, hx with
   | [], hx =>
     obtain ⟨_, ⟨a, r, h, _⟩, _⟩ : zu6 s0 ⟨[], s, f, v⟩ := by (subst hL; subst hQ; simp only [L2, L3, std] at *; try simp only [syS, reduceCtorEq, Int.reduceToNat, Int.reduceAdd, Int.reduceSub] at *); exact hx
     cases h
   | [a], hx =>
     (cbv; try simp only [syT, true_and, and_true])
     obtain ⟨v', hv'⟩ : ∃ v', v' = CV.mk 3 0 [] a.l := ⟨_, rfl⟩
     refine ⟨?_, fun h0 => ⟨?_, ⟨[], s, f, v'⟩, ?_⟩, fun h0 => ⟨⟨[a], s, f, v⟩, ?_⟩⟩
     · (subst hL; subst hQ; simp only [L2, L3, std]; try simp only [syS, reduceCtorEq, Int.reduceToNat, Int.reduceAdd, Int.reduceSub]) <;> decide
     · (subst hL; subst hQ; simp only [L2, L3, std] at *; try simp only [syS, reduceCtorEq, Int.reduceToNat, Int.reduceAdd, Int.reduceSub] at *)
       decide
     · (cbv; try simp only [syT, true_and, and_true])
       (subst hL; subst hQ; simp only [L2, L3, std] at *; try simp only [syS, reduceCtorEq, Int.reduceToNat, Int.reduceAdd, Int.reduceSub] at *)
       obtain ⟨q1, q2⟩ := yr4 hx h0
       subst hv'
       exact ⟨⟨rfl, fun i j hi hj => rfl⟩, rfl, rfl, rfl, rfl, by decide, q1, q2⟩
     · (cbv; try simp only [syT, true_and, and_true])
       (subst hL; subst hQ; simp only [L2, L3, std] at *; try simp only [syS, reduceCtorEq, Int.reduceToNat, Int.reduceAdd, Int.reduceSub] at *)
       exact ⟨yr3 hx h0, Nat.le_refl _⟩
   | [a, b], hx =>
     (cbv; try simp only [syT, true_and, and_true])
     obtain ⟨v', hv'⟩ : ∃ v', v' = CV.mk 3 0 [] a.l := ⟨_, rfl⟩
     refine ⟨?_, fun h0 => ⟨?_, ⟨[b], s, f, v'⟩, ?_⟩, fun h0 => ⟨⟨[a, b], s, f, v⟩, ?_⟩⟩
     · (subst hL; subst hQ; simp only [L2, L3, std]; try simp only [syS, reduceCtorEq, Int.reduceToNat, Int.reduceAdd, Int.reduceSub]) <;> decide
     · (subst hL; subst hQ; simp only [L2, L3, std] at *; try simp only [syS, reduceCtorEq, Int.reduceToNat, Int.reduceAdd, Int.reduceSub] at *)
       decide
     · (cbv; try simp only [syT, true_and, and_true])
       (subst hL; subst hQ; simp only [L2, L3, std] at *; try simp only [syS, reduceCtorEq, Int.reduceToNat, Int.reduceAdd, Int.reduceSub] at *)
       obtain ⟨q1, q2⟩ := yr4 hx h0
       subst hv'
       exact ⟨⟨rfl, fun i j hi hj => rfl⟩, rfl, rfl, rfl, rfl, by decide, q1, q2⟩
     · (cbv; try simp only [syT, true_and, and_true])
       (subst hL; subst hQ; simp only [L2, L3, std] at *; try simp only [syS, reduceCtorEq, Int.reduceToNat, Int.reduceAdd, Int.reduceSub] at *)
       exact ⟨yr3 hx h0, Nat.le_refl _⟩
   | [a, b, c], hx =>
     (cbv; try simp only [syT, true_and, and_true])
     obtain ⟨v', hv'⟩ : ∃ v', v' = CV.mk 3 0 [] a.l := ⟨_, rfl⟩
     refine ⟨?_, fun h0 => ⟨?_, ⟨[b, c], s, f, v'⟩, ?_⟩, fun h0 => ⟨⟨[a, b, c], s, f, v⟩, ?_⟩⟩
     · (subst hL; subst hQ; simp only [L2, L3, std]; try simp only [syS, reduceCtorEq, Int.reduceToNat, Int.reduceAdd, Int.reduceSub]) <;> decide
     · (subst hL; subst hQ; simp only [L2, L3, std] at *; try simp only [syS, reduceCtorEq, Int.reduceToNat, Int.reduceAdd, Int.reduceSub] at *)
       decide
     · (cbv; try simp only [syT, true_and, and_true])
       (subst hL; subst hQ; simp only [L2, L3, std] at *; try simp only [syS, reduceCtorEq, Int.reduceToNat, Int.reduceAdd, Int.reduceSub] at *)
       obtain ⟨q1, q2⟩ := yr4 hx h0
       subst hv'
       exact ⟨⟨rfl, fun i j hi hj => rfl⟩, rfl, rfl, rfl, rfl, by decide, q1, q2⟩
     · (cbv; try simp only [syT, true_and, and_true])
       (subst hL; subst hQ; simp only [L2, L3, std] at *; try simp only [syS, reduceCtorEq, Int.reduceToNat, Int.reduceAdd, Int.reduceSub] at *)
       exact ⟨yr3 hx h0, Nat.le_refl _⟩
   | [a, b, c, d], hx =>
     (cbv; try simp only [syT, true_and, and_true])
     obtain ⟨v', hv'⟩ : ∃ v', v' = CV.mk 3 0 [] a.l := ⟨_, rfl⟩
     refine ⟨?_, fun h0 => ⟨?_, ⟨[b, c, d], s, f, v'⟩, ?_⟩, fun h0 => ⟨⟨[a, b, c, d], s, f, v⟩, ?_⟩⟩
     · (subst hL; subst hQ; simp only [L2, L3, std]; try simp only [syS, reduceCtorEq, Int.reduceToNat, Int.reduceAdd, Int.reduceSub]) <;> decide
     · (subst hL; subst hQ; simp only [L2, L3, std] at *; try simp only [syS, reduceCtorEq, Int.reduceToNat, Int.reduceAdd, Int.reduceSub] at *)
       decide
     · (cbv; try simp only [syT, true_and, and_true])
       (subst hL; subst hQ; simp only [L2, L3, std] at *; try simp only [syS, reduceCtorEq, Int.reduceToNat, Int.reduceAdd, Int.reduceSub] at *)
       obtain ⟨q1, q2⟩ := yr4 hx h0
       subst hv'
       exact ⟨⟨rfl, fun i j hi hj => rfl⟩, rfl, rfl, rfl, rfl, by decide, q1, q2⟩
     · (cbv; try simp only [syT, true_and, and_true])
       (subst hL; subst hQ; simp only [L2, L3, std] at *; try simp only [syS, reduceCtorEq, Int.reduceToNat, Int.reduceAdd, Int.reduceSub] at *)
       exact ⟨yr3 hx h0, Nat.le_refl _⟩
   | [a, b, c, d, e], hx =>
     (cbv; try simp only [syT, true_and, and_true])
     obtain ⟨v', hv'⟩ : ∃ v', v' = CV.mk 3 0 [] a.l := ⟨_, rfl⟩
     refine ⟨?_, fun h0 => ⟨?_, ⟨[b, c, d, e], s, f, v'⟩, ?_⟩, fun h0 => ⟨⟨[a, b, c, d, e], s, f, v⟩, ?_⟩⟩
     · (subst hL; subst hQ; simp only [L2, L3, std]; try simp only [syS, reduceCtorEq, Int.reduceToNat, Int.reduceAdd, Int.reduceSub]) <;> decide
     · (subst hL; subst hQ; simp only [L2, L3, std] at *; try simp only [syS, reduceCtorEq, Int.reduceToNat, Int.reduceAdd, Int.reduceSub] at *)
       decide
     · (cbv; try simp only [syT, true_and, and_true])
       (subst hL; subst hQ; simp only [L2, L3, std] at *; try simp only [syS, reduceCtorEq, Int.reduceToNat, Int.reduceAdd, Int.reduceSub] at *)
       obtain ⟨q1, q2⟩ := yr4 hx h0
       subst hv'
       exact ⟨⟨rfl, fun i j hi hj => rfl⟩, rfl, rfl, rfl, rfl, by decide, q1, q2⟩
     · (cbv; try simp only [syT, true_and, and_true])
       (subst hL; subst hQ; simp only [L2, L3, std] at *; try simp only [syS, reduceCtorEq, Int.reduceToNat, Int.reduceAdd, Int.reduceSub] at *)
       exact ⟨yr3 hx h0, Nat.le_refl _⟩
   | [a, b, c, d, e, k], hx =>
     (cbv; try simp only [syT, true_and, and_true])
     obtain ⟨v', hv'⟩ : ∃ v', v' = CV.mk 3 0 [] a.l := ⟨_, rfl⟩
     refine ⟨?_, fun h0 => ⟨?_, ⟨[b, c, d, e, k], s, f, v'⟩, ?_⟩, fun h0 => ⟨⟨[a, b, c, d, e, k], s, f, v⟩, ?_⟩⟩
     · (subst hL; subst hQ; simp only [L2, L3, std]; try simp only [syS, reduceCtorEq, Int.reduceToNat, Int.reduceAdd, Int.reduceSub]) <;> decide
     · (subst hL; subst hQ; simp only [L2, L3, std] at *; try simp only [syS, reduceCtorEq, Int.reduceToNat, Int.reduceAdd, Int.reduceSub] at *)
       decide
     · (cbv; try simp only [syT, true_and, and_true])
       (subst hL; subst hQ; simp only [L2, L3, std] at *; try simp only [syS, reduceCtorEq, Int.reduceToNat, Int.reduceAdd, Int.reduceSub] at *)
       obtain ⟨q1, q2⟩ := yr4 hx h0
       subst hv'
       exact ⟨⟨rfl, fun i j hi hj => rfl⟩, rfl, rfl, rfl, rfl, by decide, q1, q2⟩
     · (cbv; try simp only [syT, true_and, and_true])
       (subst hL; subst hQ; simp only [L2, L3, std] at *; try simp only [syS, reduceCtorEq, Int.reduceToNat, Int.reduceAdd, Int.reduceSub] at *)
       exact ⟨yr3 hx h0, Nat.le_refl _⟩
   | a :: b :: c :: d :: e :: k :: m :: r, hx =>
     have h7 : (a :: b :: c :: d :: e :: k :: m :: r).length <= 6 := by { (subst hL; subst hQ; simp only [L2, L3, std] at *; try simp only [syS, reduceCtorEq, Int.reduceToNat, Int.reduceAdd, Int.reduceSub] at *); exact hx.1 }
     exact absurd h7 (by simp)
 · (cbv; try simp only [syT, true_and, and_true])
   obtain ⟨f, hf⟩ : ∃ f, f = s0.length + 1 := ⟨_, rfl⟩
   refine ⟨fun h => ?_, fun h => ⟨⟨[], s0, f, .mk 0 0 [] []⟩, ?_⟩⟩
   · (subst hL; subst hQ; simp only [L2, L3, std] at *; try simp only [syS, reduceCtorEq, Int.reduceToNat, Int.reduceAdd, Int.reduceSub] at *)
     exact zb3 (nm_0 s0 h)
   · (cbv; try simp only [syT, true_and, and_true])
     (subst hL; subst hQ; simp only [L2, L3, std] at *; try simp only [syS, reduceCtorEq, Int.reduceToNat, Int.reduceAdd, Int.reduceSub] at *)
     rw [hf]
     exact nm_1 s0 (by omega) _
end Sy
end Go.Proofs.YtcgikjfloloekaaGreatDoor
namespace Go.Proofs.YtcgikjfloloekaaGreatDoor
namespace Sy
open Go Go.RowKit
set_option maxRecDepth 100000
set_option linter.unusedSimpArgs false
set_option linter.unusedVariables false
theorem yuh (p : List UInt8) (c : UInt8) (r : List UInt8) : cb (p ++ c :: r) p.length = c.toNat := by
 unfold cb
 rw [List.getD_eq_getElem?_getD, List.getElem?_append_right (Nat.le_refl _), Nat.sub_self]
 rfl
theorem zrr (r : List UInt8) : ∀ (f m n0 : Nat) (p : List UInt8), f + p.length = 10 -> m * 2 ^ (7 * p.length) < 2 ^ 64 -> (0 < m \/ p.length = 0) ->
   lng (p ++ (zdz m ++ r)) f p.length n0 = (n0 + m * 2 ^ (7 * p.length), p.length + (zdz m).length, 0)
 | 0, m, n0, p, hf, hm, h0 => by
   have : p.length = 10 := by omega
   rw [this] at hm h0
   have : 2 ^ (7 * 10) <= m * 2 ^ (7 * 10) := Nat.le_mul_of_pos_left _ (by omega)
   omega
 | f + 1, m, n0, p, hf, hm, h0 => by
   by_cases hb : 128 <= m
   · rw [zeo hb]
     have hc : cb (p ++ (UInt8.ofNat (m % 128 + 128) :: zdz (m / 128) ++ r)) p.length = m % 128 + 128 := by
       rw [List.cons_append, yuh]
       simp; omega
     have h9 : p.length ≠ 9 := by
       intro h
       rw [h] at hm
       have : 128 * 2 ^ (7 * 9) <= m * 2 ^ (7 * 9) := Nat.mul_le_mul_right _ hb
       omega
     rw [lng, if_neg (by simp), hc, if_neg (by omega), if_pos (by omega)]
     have e : p ++ (UInt8.ofNat (m % 128 + 128) :: zdz (m / 128) ++ r) = (p ++ [UInt8.ofNat (m % 128 + 128)]) ++ (zdz (m / 128) ++ r) := by simp
     have hl : (p ++ [UInt8.ofNat (m % 128 + 128)]).length = p.length + 1 := by simp
     have hp : 2 ^ (7 * (p.length + 1)) = 128 * 2 ^ (7 * p.length) := by rw [show 7 * (p.length + 1) = 7 + 7 * p.length by omega, Nat.pow_add]
     have hd : m / 128 * (128 * 2 ^ (7 * p.length)) + m % 128 * 2 ^ (7 * p.length) = m * 2 ^ (7 * p.length) := by
       rw [<- Nat.mul_assoc, <- Nat.add_mul]
       congr 1; omega
     have ih := zrr r f (m / 128) (n0 + (m % 128 + 128) % 128 * 2 ^ (7 * p.length)) (p ++ [UInt8.ofNat (m % 128 + 128)]) (by rw [hl]; omega) (by rw [hl, hp]; omega) (.inl (by omega))
     rw [hl] at ih
     rw [e, ih, hp, List.length_cons, show (m % 128 + 128) % 128 = m % 128 by omega]
     refine Prod.ext ?_ (Prod.ext ?_ rfl)
     · show n0 + m % 128 * 2 ^ (7 * p.length) + m / 128 * (128 * 2 ^ (7 * p.length)) = n0 + m * 2 ^ (7 * p.length)
       omega
     · show p.length + 1 + _ = p.length + (_ + 1)
       omega
   · rw [zbd (by omega)]
     have hc : cb (p ++ ([UInt8.ofNat m] ++ r)) p.length = m := by
       rw [List.singleton_append, yuh]
       simp; omega
     have h9 : ¬ (p.length = 9 /\ 1 < m) := by
       rintro ⟨h, h1⟩
       rw [h] at hm
       have : 2 * 2 ^ (7 * 9) <= m * 2 ^ (7 * 9) := Nat.mul_le_mul_right _ h1
       omega
     rw [lng, if_neg (by simp), hc, if_neg h9, if_neg (by omega), if_pos h0, Nat.mod_eq_of_lt (by omega)]
     rfl
theorem yli {m : Int} (h : zax m) (r : List UInt8) : zb8 (zat m ++ r) = m /\ zei (zat m ++ r) = ((zat m).length : Int) /\ zdo (zat m ++ r) = 0 := by
 have h0 := h.1
 have h1 := h.2
 have := zrr r 10 m.toNat 0 [] rfl (by simp; omega) (.inr rfl)
 simp only [List.nil_append, List.length_nil, Nat.zero_add, Nat.mul_zero, Nat.pow_zero, Nat.mul_one] at this
 unfold zb8 zei zdo zat
 rw [this]
 refine ⟨?_, rfl, rfl⟩
 show ((m.toNat : Nat) : Int) = m
 omega
theorem zpp {m : Int} (h : zax m) (g : Nat) (st : List Lv) (c : UInt8) (r : List UInt8) (hc : 1 <= c.toNat /\ c.toNat <= 3) : zau (g + 1) st (c :: (zat m ++ r)) =
   if c.toNat = 1 then zc6 (zau g) st (.mk 1 m [] []) r
   else if c.toNat = 2 then
     if (r.length : Int) < m then zc4 3
     else zc6 (zau g) st (.mk 2 0 (r.take m.toNat) []) (r.drop m.toNat)
   else if st.length = 6 then zc4 8
   else zci (zau g) (⟨m, []⟩ :: st) r := by
 obtain ⟨e1, e2, e3⟩ := yli h r
 have hcb : cb (c :: (zat m ++ r)) 0 = c.toNat := rfl
 have hr : za3 (c :: (zat m ++ r)) = r := by
   unfold za3
   rw [List.drop_succ_cons, List.drop_zero, e2]
   simp
 rw [zau, if_neg (by simp), hcb, if_neg (by omega), List.drop_succ_cons, List.drop_zero, e1, e3, hr, if_neg (by simp)]
theorem ypq (v : CV) : 0 <= zcl v /\ 0 <= zaw v.ls := by
 have h0 : ∀ b : List CV, 0 <= zaw b := by
   intro b
   induction b with
   | nil => rw [zaw]; omega
   | cons v l ih => rw [zaw]; omega
 refine ⟨?_, h0 _⟩
 cases v with
 | mk k n s l =>
   rw [zcl]
   have := h0 l
   split <;> omega
def yqq (v : CV) : Prop := ∀ (st : List Lv) (s : List UInt8) (f : Nat), wfV v -> zda v = true -> (st.length : Int) + zcl v <= 6 -> (zbe v).length <= 90000000 -> (zbe v).length + s.length < f ->
 ∃ f', s.length < f' /\ zau f st (zbe v ++ s) = zc6 (zau f') st v s
theorem ygx (v : CV) : 0 < (zbe v).length := by
 cases v with
 | mk k n s l =>
   rw [zae, List.length_append]
   show 0 < 1 + _
   omega
theorem zqy : ∀ l : List CV, l.length <= (zap l).length
 | [] => by simp
 | v :: l => by
   have := zqy l
   have := ygx v
   rw [zap, List.length_append, List.length_cons]
   omega
theorem zw7 (st : List Lv) (s : List UInt8) : ∀ (l : List CV) (acc : List CV) (f : Nat), (∀ w ∈ l, yqq w) -> zkc l -> zbl l = true -> (st.length : Int) + 1 + zaw l <= 6 -> (zap l).length <= 90000000 -> (zap l).length + s.length < f ->
   ∃ f', s.length < f' /\ zci (zau f) (⟨(l.length : Int), acc⟩ :: st) (zap l ++ s) = zc6 (zau f') st (.mk 3 0 [] (acc ++ l)) s
 | [], acc, f, hr, hw, hb, hd, ht, hf => by
   refine ⟨f, by rw [zap] at hf; simpa using hf, ?_⟩
   rw [zci, if_pos (show ((List.length ([] : List CV) : Nat) : Int) = 0 from rfl), zap, List.nil_append, List.append_nil]
 | v :: l, acc, f, hr, hw, hb, hd, ht, hf => by
   rw [zkc] at hw
   rw [zbl, Bool.and_eq_true] at hb
   rw [zaw] at hd
   rw [zap, List.length_append] at ht hf
   obtain ⟨f1, h1, e1⟩ := hr v (by simp) (⟨((v :: l).length : Int), acc⟩ :: st) (zap l ++ s) f hw.1 hb.1 (by rw [List.length_cons]; omega) (by omega) (by rw [List.length_append]; omega)
   rw [List.length_append] at h1
   obtain ⟨f2, h2, e2⟩ := zw7 st s l (acc ++ [v]) f1 (fun w hw => hr w (by simp [hw])) hw.2 hb.2 (by omega) (by omega) h1
   refine ⟨f2, h2, ?_⟩
   rw [zci, if_neg (by simp; omega), zap, List.append_assoc, e1]
   have e3 : (((v :: l).length : Int) - 1) = (l.length : Int) := by simp
   rw [zci] at e2
   rw [zc6]
   simp only [e3]
   rw [e2, List.append_assoc, List.singleton_append]
theorem reads (v : CV) : yqq v := by
 refine yfa (p := yqq) (fun k n s l ih => ?_) v
 intro st r f hw hb hd ht hf
 rw [wfV] at hw
 obtain ⟨g, rfl⟩ : ∃ g, f = g + 1 := ⟨f - 1, by omega⟩
 rw [zae] at ht hf |-
 rw [zda] at hb
 by_cases h1 : k = 1
 · subst h1
   rw [if_pos rfl] at hb ht hf |-
   simp only [Bool.and_eq_true, decide_eq_true_eq, List.isEmpty_iff] at hb
   obtain ⟨rfl, rfl⟩ := hb
   rw [List.length_append] at hf
   have e : zf6 1 = [1] := rfl
   rw [e] at hf |-
   refine ⟨g, by simp at hf; omega, ?_⟩
   rw [List.singleton_append, List.cons_append, zpp hw.1 g st 1 r (by decide)]
   rfl
 · rw [if_neg h1] at hb ht hf |-
   by_cases h2 : k = 2
   · subst h2
     rw [if_pos rfl] at hb ht hf |-
     simp only [Bool.and_eq_true, decide_eq_true_eq, List.isEmpty_iff] at hb
     obtain ⟨rfl, rfl⟩ := hb
     rw [List.length_append, List.length_append] at ht hf
     have e : zf6 2 = [2] := rfl
     rw [e] at hf |-
     refine ⟨g, by simp at hf; omega, ?_⟩
     rw [List.singleton_append, List.cons_append, List.append_assoc, zpp ⟨by omega, by omega⟩ g st 2 (s ++ r) (by decide)]
     rw [if_neg (by decide), if_pos (by decide), if_neg (by simp; omega)]
     rw [Int.toNat_natCast, List.take_left, List.drop_left]
   · rw [if_neg h2] at hb ht hf |-
     by_cases h3 : k = 3
     · subst h3
       rw [if_pos rfl] at hb
       simp only [Bool.and_eq_true, decide_eq_true_eq] at hb
       obtain ⟨⟨rfl, rfl⟩, hb⟩ := hb
       rw [zcl, if_pos rfl] at hd
       rw [List.length_append, List.length_append] at ht hf
       have e : zf6 3 = [3] := rfl
       rw [e] at hf |-
       have hll := zqy l
       have hdn := (ypq (.mk 3 0 [] l)).2
       have hdn : 0 <= zaw l := hdn
       obtain ⟨f', h5, h6⟩ := zw7 st r l [] g ih hw.2.2 hb (by omega) (by omega) (by simp at hf; omega)
       refine ⟨f', h5, ?_⟩
       rw [List.singleton_append, List.cons_append, List.append_assoc, zpp ⟨by omega, by omega⟩ g st 3 (zap l ++ r) (by decide)]
       rw [if_neg (by decide), if_neg (by decide), if_neg (by omega), h6, List.nil_append]
     · rw [if_neg h3] at hb; cases hb
theorem ynz {v : CV} (hw : wfV v) (hb : zda v = true) (hd : zcl v <= 6) {s : List UInt8} (hl : (zbe v).length + s.length <= 8192) : zbk (zbe v ++ s) = ⟨v, s, 0⟩ := by
 unfold zbk
 rw [if_neg (by rw [List.length_append]; omega)]
 obtain ⟨f', h1, h2⟩ := reads v [] s ((zbe v ++ s).length + 1) hw hb (by simp; exact hd) (by omega) (by rw [List.length_append]; exact Nat.lt_succ_self _)
 rw [h2, zc6]
def znv (s : List UInt8) : Int := if (zbk s).e = 0 /\ ¬ (zbk s).r = [] then 4 else (zbk s).e
def zqc (s : List UInt8) : CV := if znv s = 0 then (zbk s).v else .mk 0 0 [] []
theorem yts {v : CV} (hw : wfV v) (hb : zda v = true) (hd : zcl v <= 6) (hl : (zbe v).length <= 8192) : zqc (zbe v) = v /\ znv (zbe v) = 0 := by
 have h := ynz hw hb hd (s := []) (by simpa using hl)
 rw [List.append_nil] at h
 have e : znv (zbe v) = 0 := by unfold znv; rw [h]; rfl
 exact ⟨by unfold zqc; rw [if_pos e, h], e⟩
theorem ycz {v : CV} (h : zjf v = 0) : zda v = true /\ zcl v <= 6 /\ (zbe v).length <= 8192 /\ zje v = zbe v := by
 have ht : zje v = zbe v := by unfold zje; rw [if_pos h]
 unfold zjf at h
 split at h
 · rename_i h1
   split at h
   · cases h
   · rename_i h2
     split at h
     · cases h
     · rename_i h3
       exact ⟨h1, by omega, by omega, ht⟩
 · cases h
theorem zhy {n : Nat} {get : Nat -> Nat -> AV} {l : List CV} (hn : n = l.length) (h : ∀ i j, i < n -> j < 4 -> get i j = zf5 (zbj l i) j) : rdL (.lst 4 n get) = l /\ okL (.lst 4 n get) := by
 constructor
 · apply List.ext_getElem
   · rw [zjb, hn]
   · intro i h1 h2
     have hi : i < n := by omega
     have e : ∀ m : List CV, ∀ hm : i < m.length, m[i] = zbj m i := fun m hm => by rw [zbj, List.getD_eq_getElem?_getD, List.getElem?_eq_getElem hm]; rfl
     rw [e _ h1, e _ h2, zrc hi, h i 0 hi (by omega), h i 1 hi (by omega), h i 2 hi (by omega), h i 3 hi (by omega), zgy, zgx, zgw, zgv]
     show CV.mk _ _ _ (rdL (.lst 4 (zcx (zbj l i)) (zer (zbj l i)))) = _
     exact zbm _
 · refine ⟨rfl, fun i hi => ?_⟩
   rw [h i 0 hi (by omega), h i 1 hi (by omega), h i 2 hi (by omega), h i 3 hi (by omega), zgy, zgx, zgw, zgv]
   exact ⟨⟨_, rfl⟩, ⟨_, rfl⟩, ⟨_, rfl⟩, (zfb (zbj l i)).2⟩
theorem zi1 {a b : List CV} {i : Nat} (h : i < a.length) : zbj (a ++ b) i = zbj a i := by
 rw [zbj, zbj, List.getD_eq_getElem?_getD, List.getD_eq_getElem?_getD, List.getElem?_append_left h]
theorem zg4 (a : List CV) (v : CV) : zbj (a ++ [v]) a.length = v := by
 rw [zbj, List.getD_eq_getElem?_getD, List.getElem?_append_right (Nat.le_refl _)]; simp
theorem zyh {l : List CV} {v : CV} {i : Nat} (hi : i = l.length) :
   rdL (.lst 4 (i.add 1) fun q j => zid std (zc9 q i) (cv1 std (zbj l q) j) (zby .dead [.int .i64 v.kd, .int .u64 v.nn, .str v.tx, .lst 4 (zcx v) (zer v)] ((q - i) * 4 + j))) = l ++ [v] /\
   okL (.lst 4 (i.add 1) fun q j => zid std (zc9 q i) (cv1 std (zbj l q) j) (zby .dead [.int .i64 v.kd, .int .u64 v.nn, .str v.tx, .lst 4 (zcx v) (zer v)] ((q - i) * 4 + j))) := by
 subst hi
 refine zhy (by simp) fun q j hq hj => ?_
 have hq : q < l.length + 1 := hq
 by_cases h : q < l.length
 · rw [zi1 h, <- zd6 _ _ hj, zel h, show q - l.length = 0 by omega, Nat.zero_mul, Nat.zero_add]
   match j, hj with
   | 0, _ => rfl
   | 1, _ => rfl
   | 2, _ => rfl
   | 3, _ => rfl
 · have : q = l.length := by omega
   subst this
   rw [zg4, <- zd6 _ _ hj, zf7 (by omega), show l.length - l.length = 0 by omega, Nat.zero_mul, Nat.zero_add]
   match j, hj with
   | 0, _ => rfl
   | 1, _ => rfl
   | 2, _ => rfl
   | 3, _ => rfl
theorem zxn (a b : List CV) : sizeCs (a ++ b) = sizeCs a + sizeCs b := by
 induction a with
 | nil => rw [List.nil_append, zbp]; omega
 | cons x l ih => rw [List.cons_append, zb5, zb5, ih]; omega
theorem ygs (a b : List CV) : zkc (a ++ b) ↔ zkc a /\ zkc b := by
 induction a with
 | nil => rw [List.nil_append, zkc]; simp
 | cons x l ih => rw [List.cons_append, zkc, zkc, ih]; exact ⟨fun h => ⟨⟨h.1, h.2.1⟩, h.2.2⟩, fun h => ⟨h.1.1, h.1.2, h.2⟩⟩
def cvB (L : za9) (v : CV) : AV := .agg [.int .i64 (L CV.kd v), .int .u64 (L CV.nn v), .str (L CV.tx v), .lst 4 (L zcx v) (fun i j => cv1 L (L2 L zbj (L CV.ls v) i) j)]
def zv4 (L : za9) : zbn := (38, fun xs => match xs with | [.str s] => some (True, .tup [cvB L (L zqc s), .int .i64 (L znv s)]) | _ => none)
theorem zsh {s : List UInt8} {e : Int} (h : znv s = e) (he : ¬ e = 0) : fits1 (cvB std (zqc s)) (.agg [.int .i64 0, .int .u64 0, .str [], .nils]) /\ e = znv s := by
 have e0 : zqc s = .mk 0 0 [] [] := by unfold zqc; rw [if_neg (by rw [h]; exact he)]
 rw [e0]
 refine ⟨?_, h.symm⟩
 show fits1 (.agg [.int .i64 0, .int .u64 0, .str [], .lst 4 0 _]) _
 simp [zb7, zbh, zeq, zbi]
theorem yft {s : List UInt8} {v : CV} (hv : (zbk s).v = v) (h : znv s = 0) : fits1 (cvB std (zqc s)) (.agg [.int .i64 v.kd, .int .u64 v.nn, .str v.tx, .lst 4 (zcx v) (zer v)]) /\ 0 = znv s := by
 have e0 : zqc s = v := by unfold zqc; rw [if_pos h, hv]
 rw [e0]
 refine ⟨?_, h.symm⟩
 show fits1 (.agg [.int .i64 v.kd, .int .u64 v.nn, .str v.tx, .lst 4 (zcx v) (fun i j => cv1 std (zbj v.ls i) j)]) _
 simp only [zb7, zbh, zdu, zbi, true_and, and_true]
 exact fun i j hi hj => by rw [zd6 _ _ hj]; exact zb4 _ _ _ hi
theorem zzp : zay Tryz.prog (zv4 std) := by
 intro xs p r h hp
 dsimp only [zv4] at h |-
 split at h <;> cases h
 try simp only [L2, L3, std] at hp |-
 rename_i s
 refine za5 (T := tt) (S := fun L => zai [ydn L]) (lo := noA) (lb := noA) 5 (fn := Tryz.f38) rfl rfl (by kernel_rfl) (by kernel_rfl) rfl zaa (za1 ⟨ydo, trivial⟩) (by kernel_rfl) ?_
 (intro L P1 Q1 hL hP hQ; cbv; subst hL; simp only [L2, L3, std, syT]; subst hQ)
 (simp only [syS, reduceCtorEq, Int.reduceToNat, Int.reduceAdd, Int.reduceSub])
 refine ⟨fun h1 => ⟨fun h2 => ⟨fun _ => ?_, fun h => absurd h (by decide)⟩, fun h2 => ⟨fun h => absurd h1 h, fun _ => ?_⟩⟩, fun h1 => ⟨fun _ => ?_, fun h => absurd h h1⟩⟩
 · exact zsh (by unfold znv; rw [if_pos ⟨h1, h2⟩]) (by decide)
 · exact yft rfl (by unfold znv; rw [if_neg (fun h => h.2 h2)]; exact h1)
 · exact zsh (by unfold znv; rw [if_neg (fun h => h1 h.1)]) h1
def zuc (l : List Int) : Nat := l.length
def rdI : AV -> List Int
 | .lst _ n get => (List.range n).map fun i => (get i 0).toI
 | _ => []
def okI : AV -> Prop
 | .lst sz n get => sz = 1 /\ ∀ i, i < n -> ∃ x, get i 0 = .int .u64 x
 | .nils => True
 | _ => False
def zyz (L : za9) (l : List Int) : AV := .lst 1 (L zuc l) (fun i _ => .int .u64 (L2 L zd3 l i))
theorem yid (n i : Nat) (f : Nat -> Int) (h : i < n) : zd3 ((List.range n).map f) i = f i := by
 rw [zd3, List.getD_eq_getElem?_getD, List.getElem?_map, List.getElem?_range h]; rfl
theorem yx1 {h : Array Obj} {D : Nat -> Prop} {μ : Mu} {x : AV} {v : Value} (ho : okI x) (r : R h D μ x v) : R h D μ (zyz std (rdI x)) v := by
 match x, ho with
 | .nils, _ => cases r; exact .lst0 _ _ none 0 (fun _ => rfl)
 | .lst sz n get, ho =>
   obtain ⟨rfl, ho⟩ := ho
   have e : zyz std (rdI (.lst 1 n get)) = .lst 1 n (fun i _ => .int .u64 (zd3 (rdI (.lst 1 n get)) i)) := by
     show AV.lst 1 (zuc (rdI (.lst 1 n get))) _ = _
     rw [show zuc (rdI (.lst 1 n get)) = n by simp [rdI, zuc]]; rfl
   rw [e]
   refine zjt r fun i j hi hj => ?_
   have : j = 0 := by omega
   subst this
   obtain ⟨x, hx⟩ := ho i hi
   rw [hx, rdI, yid _ _ _ hi, hx]; rfl
theorem rl_4 {h : Array Obj} {D : Nat -> Prop} {μ : Mu} {a b c x y : AV} {r : List AV} {vs : Array Value} (e : ∀ v, R h D μ x v -> R h D μ y v) (hr : RL h D μ (a :: b :: c :: x :: r) vs) : RL h D μ (a :: b :: c :: y :: r) vs := by
 refine ⟨by rw [<- hr.1]; rfl, fun i z v hz hv => ?_⟩
 match i, hz with
 | 0, hz => exact hr.2 0 z v hz hv
 | 1, hz => exact hr.2 1 z v hz hv
 | 2, hz => exact hr.2 2 z v hz hv
 | 3, hz => cases hz; exact e v (hr.2 3 x v rfl hv)
 | i + 4, hz => exact hr.2 (i + 4) z v hz hv
theorem yv0 {P : Program} {f : FuncId} {a b c x r : AV} (ho : okI x) (h : za7 P f [a, b, c, zyz std (rdI x)] r) : za7 P f [a, b, c, x] r :=
 zka (fun h D vs hr => rl_4 (fun v => yx1 ho) hr) h
def zif (k : Int) : Int := if k = 1 then 1 else if k = 2 \/ k = 3 then 2 else if k = 4 then 3 else 0
def ydf (L : za9) : zbn := (37, fun xs => match xs with | [.int .i64 k] => some (True, .int .i64 (L zif k)) | _ => none)
theorem ydh : zay Tryz.prog (ydf std) := by
 intro xs p r h hp
 dsimp only [ydf] at h |-
 split at h <;> cases h
 try simp only [L2, L3, std] at hp |-
 rename_i k
 refine za5 (T := tt) (S := noS) (lo := noA) (lb := noA) 5 (fn := Tryz.f37) rfl rfl (by kernel_rfl) (by kernel_rfl) rfl zaa (zcc _) (by kernel_rfl) ?_
 (intro L P1 Q1 hL hP hQ; cbv; subst hL; simp only [L2, L3, std, syT]; subst hQ)
 (simp only [syS, reduceCtorEq, Int.reduceToNat, Int.reduceAdd, Int.reduceSub])
 refine ⟨fun h => by simp [zif, h], fun h1 => ⟨fun h => by simp [zif, h], fun h2 => ⟨fun h => by simp [zif, h], fun h3 => ⟨fun h => by simp [zif, h], fun h4 => by simp [zif, h1, h2, h3, h4]⟩⟩⟩⟩
def zc8 (l : List Int) : List CV := l.map zep
def zbg (k : Int) (b : List UInt8) (l : List Int) : List CV := if k = 2 then zc8 l ++ [zgh b] else zc8 l
def zno (k : Int) (b : List UInt8) (l : List Int) : CV := zc3 (zbg k b l)
def zgi (k e : Int) (b : List UInt8) (l : List Int) : List UInt8 := if zjf (zno k b l) = 0 then byT k e (zje (zno k b l)) else []
def zns (e : Int) (b : List UInt8) (l : List Int) : Prop := zas e /\ b.length <= 1000000 /\ l.length <= 1000 /\ ∀ x ∈ l, zax x
theorem zc7 (l : List Int) : (zc8 l).length = l.length := List.length_map _
theorem zof (l : List Int) : sizeCs (zc8 l) = l.length := by
 induction l with
 | nil => rw [zc8, List.map_nil, zbp]; rfl
 | cons x l ih => rw [zc8, List.map_cons, zb5, show l.map zep = zc8 l from rfl, ih, zep, zc0, zbp, List.length_cons]; omega
theorem zwa {l : List Int} (h : ∀ x ∈ l, zax x) : zkc (zc8 l) /\ (zap (zc8 l)).length <= 11 * l.length := by
 induction l with
 | nil => rw [zc8, List.map_nil, zap, zkc]; exact ⟨trivial, Nat.zero_le _⟩
 | cons x l ih =>
   obtain ⟨a, b⟩ := ih (fun y hy => h y (List.mem_cons_of_mem _ hy))
   have hx := h x List.mem_cons_self
   have := zbx hx
   rw [zc8, List.map_cons, zap, zkc, show l.map zep = zc8 l from rfl, zep, wfV, zae, if_pos rfl, zkc]
   refine ⟨⟨⟨hx, Nat.zero_le _, trivial⟩, a⟩, ?_⟩
   simp only [List.length_append, List.length_cons, zf6, List.length_nil]
   omega
theorem zu7 {e k : Int} {b : List UInt8} {l : List Int} (h : zns e b l) : zj4 2000 (zno k b l) /\ zp2 (zno k b l) /\ zru (zbg k b l) := by
 obtain ⟨h0, h1, h2, h3⟩ := h
 obtain ⟨w, t⟩ := zwa h3
 have sb : zax (b.length : Nat) := ⟨by omega, by omega⟩
 have sz : zax 0 := ⟨by omega, by omega⟩
 have tl := zbx sb
 have il : (zbg k b l).length <= l.length + 1 := by
   unfold zbg
   split <;> simp [zc7]
 have sl : zax ((zbg k b l).length : Nat) := ⟨by omega, by omega⟩
 have tl2 := zbx sl
 have ws : zkc (zbg k b l) /\ (zap (zbg k b l)).length <= 11 * l.length + b.length + 11 /\ sizeCs (zbg k b l) <= l.length + 1 := by
   unfold zbg
   split
   · rw [ygs, zfx, zxn, zof, zb5, zbp, List.length_append, zkc, zkc, zap, zap, zgh, wfV, zae, if_neg (by decide), if_pos rfl, zc0, zbp, zkc]
     refine ⟨⟨w, ⟨sz, by omega, trivial⟩, trivial⟩, ?_, by omega⟩
     simp only [List.length_append, List.length_cons, zf6, List.length_nil]
     omega
   · rw [zof]
     exact ⟨w, by omega, by omega⟩
 refine ⟨?_, ?_, ?_⟩
 · unfold zj4 zno zc3
   rw [zc0]; omega
 · unfold zp2 zno zc3
   rw [wfV, zae, if_neg (by decide), if_neg (by decide)]
   refine ⟨⟨sz, Nat.zero_le _, ws.1⟩, ?_⟩
   simp only [List.length_append, List.length_cons, zf6, List.length_nil]
   omega
 · unfold zru; omega
theorem ydt {e k : Int} {b : List UInt8} {l : List Int} (h : zns e b l) (x : Nat -> Nat -> AV) (n : Nat) (hr : rdL (.lst 4 n x) = zbg k b l) (ho : okL (.lst 4 n x)) :
   (okL (.lst 4 n x) /\ zru (rdL (.lst 4 n x))) /\
   (okL (.lst 4 (zcx (zc3 (rdL (.lst 4 n x)))) (zer (zc3 (rdL (.lst 4 n x))))) /\ zj4 2000 (mkV std (zc3 (rdL (.lst 4 n x))).kd (zc3 (rdL (.lst 4 n x))).nn (zc3 (rdL (.lst 4 n x))).tx (.lst 4 (zcx (zc3 (rdL (.lst 4 n x)))) (zer (zc3 (rdL (.lst 4 n x)))))) /\
     zp2 (mkV std (zc3 (rdL (.lst 4 n x))).kd (zc3 (rdL (.lst 4 n x))).nn (zc3 (rdL (.lst 4 n x))).tx (.lst 4 (zcx (zc3 (rdL (.lst 4 n x)))) (zer (zc3 (rdL (.lst 4 n x))))))) /\
   (¬ zjf (mkV std (zc3 (rdL (.lst 4 n x))).kd (zc3 (rdL (.lst 4 n x))).nn (zc3 (rdL (.lst 4 n x))).tx (.lst 4 (zcx (zc3 (rdL (.lst 4 n x)))) (zer (zc3 (rdL (.lst 4 n x)))))) = 0 -> [] = zgi k e b l) /\
   (zjf (mkV std (zc3 (rdL (.lst 4 n x))).kd (zc3 (rdL (.lst 4 n x))).nn (zc3 (rdL (.lst 4 n x))).tx (.lst 4 (zcx (zc3 (rdL (.lst 4 n x)))) (zer (zc3 (rdL (.lst 4 n x)))))) = 0 ->
     yqd e (zje (mkV std (zc3 (rdL (.lst 4 n x))).kd (zc3 (rdL (.lst 4 n x))).nn (zc3 (rdL (.lst 4 n x))).tx (.lst 4 (zcx (zc3 (rdL (.lst 4 n x)))) (zer (zc3 (rdL (.lst 4 n x))))))) /\
     byT k e (zje (mkV std (zc3 (rdL (.lst 4 n x))).kd (zc3 (rdL (.lst 4 n x))).nn (zc3 (rdL (.lst 4 n x))).tx (.lst 4 (zcx (zc3 (rdL (.lst 4 n x)))) (zer (zc3 (rdL (.lst 4 n x))))))) = zgi k e b l) := by
 rw [hr, zad, show zc3 (zbg k b l) = zno k b l from rfl]
 obtain ⟨m1, m2, m3⟩ := zu7 (k := k) h
 refine ⟨⟨ho, m3⟩, ⟨(zfb _).2, m1, m2⟩, fun hE => by rw [zgi, if_neg hE], fun hE => ⟨⟨h.1.1, h.1.2, ?_⟩, by rw [zgi, if_pos hE]⟩⟩
 have := m2.2
 rw [zje, if_pos hE]
 omega
def msgA (L : za9) (l : List Int) : Nat -> St -> Option Ann := fun id st => match id with
 | 0 => some ⟨Nat, fun i => [(18, .int .i64 (L zbu i)), (9, .sl 900 4 0 i)], fun i => [(900, .row 89 4 i (fun i j => cv1 L (L2 L zbj (L zc8 l) i) j))], [0, 1, 2, 16, 17], [],
     fun i => L2 L (fun (l : List Int) i => i <= l.length) l i, fun i => L2 L (fun (l : List Int) (i : Nat) => l.length - i) l i⟩
 | _ => none
def ydr (L : za9) : zbn := (9, fun xs => match xs with
 | [.int .i64 k, .int .u64 e, .str b, x] => some (L okI x /\ L3 L zns e b (L rdI x), .str (L (L3 L zgi k e b) (L rdI x)))
 | _ => none)
theorem zpw : zay Tryz.prog (ydr std) := by
 intro xs p r h hp
 dsimp only [ydr] at h |-
 split at h <;> cases h
 try simp only [L2, L3, std] at hp |-
 rename_i k e b x
 obtain ⟨ho, hz⟩ := hp
 refine yv0 ho ?_
 have hz : zns e b (rdI x) := hz
 show za7 _ _ [.int .i64 k, .int .u64 e, .str b, zyz std (rdI x)] (.str (zgi k e b (rdI x)))
 generalize rdI x = l at hz |-
 refine za8 (T := tt) (S := fun L => zai [zu1 L, zt5 L, zga L, zsf 2000 L, yvx L]) (lo := fun L => msgA L l) (lb := noA) 5 (fn := Tryz.f9) (xs := fun L => [.int .i64 k, .int .u64 e, .str b, zyz L l]) rfl rfl (by kernel_rfl) (by kernel_rfl) rfl zaa
   (za1 ⟨zjl, zj1, zco, zkv _, yg8, trivial⟩) (by kernel_rfl) ?_
 intro L P' Q' hL hP hQ
 (cbv; try simp only [syT, true_and, and_true])
 refine ⟨⟨0, ?_⟩, fun i hi => ?_⟩
 · (cbv; try simp only [syT, true_and, and_true])
   (subst hL; subst hQ; simp only [L2, L3, std] at *; try simp only [syS, reduceCtorEq, Int.reduceToNat, Int.reduceAdd, Int.reduceSub] at *)
   exact Nat.zero_le _
 · cbv at hi
   (cbv; try simp only [syT, true_and, and_true])
   refine ⟨fun hlt => ⟨?_, ?_, ⟨i + 1, ?_⟩⟩, fun hge => ⟨fun h2 => ?_, fun h2 => ?_⟩⟩
   · (subst hL; subst hQ; simp only [L2, L3, std] at *; try simp only [syS, reduceCtorEq, Int.reduceToNat, Int.reduceAdd, Int.reduceSub] at *)
     omega
   · (subst hL; subst hQ; simp only [L2, L3, std] at *; try simp only [syS, reduceCtorEq, Int.reduceToNat, Int.reduceAdd, Int.reduceSub] at *)
     have : zuc l = l.length := rfl
     have := hz.2.2.1
     omega
   · (cbv; try simp only [syT, true_and, and_true])
     (subst hL; subst hQ; simp only [L2, L3, std] at *; try simp only [syS, reduceCtorEq, Int.reduceToNat, Int.reduceAdd, Int.reduceSub] at *)
     have : zuc l = l.length := rfl
     have := hz.2.2.1
     have e1 : zep (zd3 l i) = zbj (zc8 l) i := by
       rw [zbj, zc8, List.getD_eq_getElem?_getD, List.getElem?_map, zd3, List.getD_eq_getElem?_getD, List.getElem?_eq_getElem (by omega)]; rfl
     rw [e1]
     exact ⟨fun q j hq hj => zn9 (zbj (zc8 l)) hq hj, by omega, by omega, by omega⟩
   · (subst hL; subst hQ; simp only [L2, L3, std] at *; try simp only [syS, reduceCtorEq, Int.reduceToNat, Int.reduceAdd, Int.reduceSub] at *)
     have : zuc l = l.length := rfl
     have := hz.2.2.1
     subst h2
     obtain ⟨e1, e2⟩ := zyh (l := zc8 l) (v := zgh b) (i := i) (by rw [zc7]; omega)
     refine ⟨by omega, ydt hz _ _ ?_ e2⟩
     rw [e1, zbg, if_pos rfl]
   · (subst hL; subst hQ; simp only [L2, L3, std] at *; try simp only [syS, reduceCtorEq, Int.reduceToNat, Int.reduceAdd, Int.reduceSub] at *)
     have : zuc l = l.length := rfl
     obtain ⟨e1, e2⟩ := zhy (n := i) (get := fun q j => cv1 std (zbj (zc8 l) q) j) (l := zc8 l) (by rw [zc7]; omega) (fun q j hq hj => zd6 _ j hj)
     refine ydt hz _ _ ?_ e2
     rw [e1, zbg, if_neg h2]
def rsL (s : List UInt8) : List CV := (zqc (paB s)).ls
def rsN (s : List UInt8) : Int := zif (paK s)
def rsM (s : List UInt8) : Nat := (rsN s).toNat
def yib (l : List CV) (i : Nat) : Prop := i <= l.length /\ ∀ j, j < i -> (zbj l j).kd = 1
def zy6 (s : List UInt8) : Prop := paE s = 0 /\ rsN s ≠ 0 /\ znv (paB s) = 0 /\ (zqc (paB s)).kd = 3 /\ (paK s = 2 -> ((rsL s).length : Int) = rsN s + 1 /\ (zbj (rsL s) (rsM s)).kd = 2) /\ (paK s ≠ 2 -> ((rsL s).length : Int) = rsN s) /\ yib (rsL s) (rsM s)
open Classical in
noncomputable def rsE (s : List UInt8) : Int := if zy6 s then 0 else 4
noncomputable def rsK (s : List UInt8) : Int := if rsE s = 0 then paK s else 0
noncomputable def rsP (s : List UInt8) : Int := if rsE s = 0 then paP s else 0
def yny (l : List CV) : List Int := l.map CV.nn
noncomputable def rsI (s : List UInt8) : List Int := if rsE s = 0 then yny ((rsL s).take (rsM s)) else []
noncomputable def rsB (s : List UInt8) : List UInt8 := if rsE s = 0 /\ paK s = 2 then (zbj (rsL s) (rsM s)).tx else []
noncomputable def yvl (L : za9) : zbn := (10, fun xs => match xs with
 | [.str s] => some (L2 L upto 900000 s, .tup [.int .i64 (L rsK s), .int .u64 (L rsP s), zyz L (L rsI s), .str (L rsB s), .int .i64 (L rsE s)])
 | _ => none)
def yt2 (l : List CV) (i : Nat) : Int := (zbj l i).nn
def rsA (L : za9) (s : List UInt8) : Nat -> St -> Option Ann := fun id st => match id with
 | 0 => some ⟨Nat, fun i => [(79, .int .i64 (L zbu i)), (7, .sl 901 1 0 i)], fun i => [(901, .row 22 1 i (fun i _ => .int .u64 (L2 L yt2 (L rsL s) i)))], [9, 10, 77, 78], [10],
     fun i => L2 L (fun (s : List UInt8) i => yib (rsL s) i /\ i <= rsM s) s i, fun i => L2 L (fun (s : List UInt8) (i : Nat) => rsM s - i) s i⟩
 | _ => none
theorem ydg (k : Int) : 0 <= zif k /\ zif k <= 3 := by
 unfold zif
 split
 · omega
 · split
   · omega
   · split <;> omega
theorem yc6 {s : List UInt8} {i : Nat} (h : zy6 s) (hi : i = rsM s) : paK s = rsK s /\ paP s = rsP s /\ fits1 (zyz std (rsI s)) (.lst 1 i fun i x => .int .u64 (yt2 (rsL s) i)) /\ (if paK s = 2 then (zbj (rsL s) (rsM s)).tx else []) = rsB s /\ 0 = rsE s := by
 have e : rsE s = 0 := if_pos h
 have hl : (rsI s).length = rsM s := by
   rw [rsI, if_pos e, yny, List.length_map, List.length_take]
   have := h.2.2.2.2.2.2.1
   omega
 refine ⟨by rw [rsK, if_pos e], by rw [rsP, if_pos e], ?_, ?_, e.symm⟩
 · show fits1 (.lst 1 (rsI s).length fun i _ => .int .u64 (zd3 (rsI s) i)) _
   rw [zn5]
   refine ⟨by omega, fun q j hq hj => ?_⟩
   rw [rsI, if_pos e, yny, zd3, List.getD_eq_getElem?_getD, List.getElem?_map, List.getElem?_take_of_lt (by omega), yt2, zbj, List.getD_eq_getElem?_getD]
   have := h.2.2.2.2.2.2.1
   rw [List.getElem?_eq_getElem (by omega)]; rfl
 · rw [rsB]
   by_cases hk : paK s = 2
   · rw [if_pos hk, if_pos ⟨e, hk⟩]
   · rw [if_neg hk, if_neg (fun h => hk h.2)]
theorem yc8 : zay Tryz.prog (yvl std) := by
 intro xs p r h hp
 dsimp only [yvl] at h |-
 split at h <;> cases h
 try simp only [L2, L3, std] at hp |-
 rename_i s
 refine za5 (T := tt) (S := fun L => zai [ztu L, ydf L, zv4 L]) (lo := fun L => rsA L s) (lb := noA) 5 (fn := Tryz.f10) rfl rfl (by kernel_rfl) (by kernel_rfl) rfl zaa (za1 ⟨zyn, ydh, zzp, trivial⟩) (by kernel_rfl) ?_
 intro L P' Q' hL hP hQ
 have bad : ¬ zy6 s -> zh6 (.tup [.int .i64 (rsK s), .int .u64 (rsP s), zyz std (rsI s), .str (rsB s), .int .i64 (rsE s)]) (.tup [.int .i64 0, .int .u64 0, .nils, .str [], .int .i64 4]) := by
   intro h
   have e : rsE s = 4 := if_neg h
   simp only [rsK, rsP, rsI, rsB, e]
   show zh6 (.tup [.int .i64 0, .int .u64 0, .lst 1 0 _, .str [], .int .i64 4]) _
   simp only [sySet]
   trivial
 have yes : zy6 s -> rsE s = 0 := fun h => if_pos h
 have nb := ydg (paK s)
 have eN : zif (paK s) = rsN s := rfl
 have eL : (zqc (paB s)).ls = rsL s := rfl
 have eM : (rsN s).toNat = rsM s := rfl
 have eV : zcx (zqc (paB s)) = (rsL s).length := rfl
 (cbv; try simp only [syT, true_and, and_true])
 refine ⟨?_, fun h1 => ?_, fun h1 => ⟨fun h2 => ?_, fun h2 => ⟨fun h3 => ?_, fun h3 => ⟨fun h4 => ?_, fun h4 => ⟨fun h5 => ⟨fun h6 => ?_, fun h6 => ⟨?_, fun h7 => ?_, fun h7 => ⟨?_, ?_, fun h8 => ?_, fun h8 => ⟨⟨0, ?_⟩, fun i hi => ?_⟩⟩⟩⟩, fun h5 => ⟨fun h6 => ?_, fun h6 => ⟨⟨0, ?_⟩, fun i hi => ?_⟩⟩⟩⟩⟩⟩⟩
 · subst hL; exact hp
 · (subst hL; subst hQ; simp only [L2, L3, std] at *; try simp only [syS, reduceCtorEq, Int.reduceToNat, Int.reduceAdd, Int.reduceSub] at *); exact bad fun h => h1 h.1
 · (subst hL; subst hQ; simp only [L2, L3, std] at *; try simp only [syS, reduceCtorEq, Int.reduceToNat, Int.reduceAdd, Int.reduceSub] at *); exact bad fun h => h.2.1 h2
 · (subst hL; subst hQ; simp only [L2, L3, std] at *; try simp only [syS, reduceCtorEq, Int.reduceToNat, Int.reduceAdd, Int.reduceSub] at *); exact bad fun h => h3 h.2.2.1
 · (subst hL; subst hQ; simp only [L2, L3, std] at *; try simp only [syS, reduceCtorEq, Int.reduceToNat, Int.reduceAdd, Int.reduceSub] at *); exact bad fun h => h4 h.2.2.2.1
 · (subst hL; subst hQ; simp only [L2, L3, std] at *; try simp only [syS, reduceCtorEq, Int.reduceToNat, Int.reduceAdd, Int.reduceSub] at *)
   exact bad fun h => by
     have := (h.2.2.2.2.1 h5).1
     omega
 · (subst hL; subst hQ; simp only [L2, L3, std] at *; try simp only [syS, reduceCtorEq, Int.reduceToNat, Int.reduceAdd, Int.reduceSub] at *)
   omega
 · (subst hL; subst hQ; simp only [L2, L3, std] at *; try simp only [syS, reduceCtorEq, Int.reduceToNat, Int.reduceAdd, Int.reduceSub] at *); exact bad fun h => h7 (h.2.2.2.2.1 h5).2
 · (subst hL; subst hQ; simp only [L2, L3, std] at *; try simp only [syS, reduceCtorEq, Int.reduceToNat, Int.reduceAdd, Int.reduceSub] at *)
   omega
 · (subst hL; subst hQ; simp only [L2, L3, std] at *; try simp only [syS, reduceCtorEq, Int.reduceToNat, Int.reduceAdd, Int.reduceSub] at *)
   omega
 · (subst hL; subst hQ; simp only [L2, L3, std] at *; try simp only [syS, reduceCtorEq, Int.reduceToNat, Int.reduceAdd, Int.reduceSub] at *)
   omega
 · (cbv; try simp only [syT, true_and, and_true])
   (subst hL; subst hQ; simp only [L2, L3, std] at *; try simp only [syS, reduceCtorEq, Int.reduceToNat, Int.reduceAdd, Int.reduceSub] at *)
   exact ⟨⟨Nat.zero_le _, fun j hj => by omega⟩, Nat.zero_le _⟩
 · cbv at hi
   (cbv; try simp only [syT, true_and, and_true])
   refine ⟨fun hlt => ⟨?_, fun h9 => ?_, fun h9 => ⟨?_, ⟨i + 1, ?_⟩⟩⟩, fun hge => ?_⟩
   · (subst hL; subst hQ; simp only [L2, L3, std] at *; try simp only [syS, reduceCtorEq, Int.reduceToNat, Int.reduceAdd, Int.reduceSub] at *)
     omega
   · (subst hL; subst hQ; simp only [L2, L3, std] at *; try simp only [syS, reduceCtorEq, Int.reduceToNat, Int.reduceAdd, Int.reduceSub] at *)
     exact bad fun h => h9 (h.2.2.2.2.2.2.2 i (by omega))
   · (subst hL; subst hQ; simp only [L2, L3, std] at *; try simp only [syS, reduceCtorEq, Int.reduceToNat, Int.reduceAdd, Int.reduceSub] at *)
     omega
   · (cbv; try simp only [syT, true_and, and_true])
     (subst hL; subst hQ; simp only [L2, L3, std] at *; try simp only [syS, reduceCtorEq, Int.reduceToNat, Int.reduceAdd, Int.reduceSub] at *)
     have hl : i + 1 <= (rsL s).length := by omega
     refine ⟨fun q j hq hj => ?_, by omega, ⟨⟨hl, fun j hj => ?_⟩, by omega⟩, by omega⟩
     · by_cases h : q < i
       · rw [zel h, show q - i = 0 by omega]; rfl
       · have : q = i := by omega
         subst this
         rw [zf7 (by omega), show q - q = 0 by omega]; rfl
     · by_cases h : j < i
       · exact hi.1.2 j h
       · have : j = i := by omega
         subst this
         exact h9
   · (subst hL; subst hQ; simp only [L2, L3, std] at *; try simp only [syS, reduceCtorEq, Int.reduceToNat, Int.reduceAdd, Int.reduceSub] at *)
     have hM : i = rsM s := by omega
     have hok : zy6 s := ⟨h1, h2, h3, h4, fun _ => ⟨by omega, h7⟩, fun h => absurd h5 h, by rw [<- hM]; exact hi.1⟩
     have := yc6 hok hM
     obtain ⟨y1, y2, y3, y4, y5⟩ := this
     refine ⟨y1, y2, y3, ?_, y5⟩
     rw [<- y4, if_pos h5]
     try rfl
 · (subst hL; subst hQ; simp only [L2, L3, std] at *; try simp only [syS, reduceCtorEq, Int.reduceToNat, Int.reduceAdd, Int.reduceSub] at *); exact bad fun h => h6 (h.2.2.2.2.2.1 h5)
 · (cbv; try simp only [syT, true_and, and_true])
   (subst hL; subst hQ; simp only [L2, L3, std] at *; try simp only [syS, reduceCtorEq, Int.reduceToNat, Int.reduceAdd, Int.reduceSub] at *)
   exact ⟨⟨Nat.zero_le _, fun j hj => by omega⟩, Nat.zero_le _⟩
 · cbv at hi
   (cbv; try simp only [syT, true_and, and_true])
   refine ⟨fun hlt => ⟨?_, fun h9 => ?_, fun h9 => ⟨?_, ⟨i + 1, ?_⟩⟩⟩, fun hge => ?_⟩
   · (subst hL; subst hQ; simp only [L2, L3, std] at *; try simp only [syS, reduceCtorEq, Int.reduceToNat, Int.reduceAdd, Int.reduceSub] at *)
     omega
   · (subst hL; subst hQ; simp only [L2, L3, std] at *; try simp only [syS, reduceCtorEq, Int.reduceToNat, Int.reduceAdd, Int.reduceSub] at *)
     exact bad fun h => h9 (h.2.2.2.2.2.2.2 i (by omega))
   · (subst hL; subst hQ; simp only [L2, L3, std] at *; try simp only [syS, reduceCtorEq, Int.reduceToNat, Int.reduceAdd, Int.reduceSub] at *)
     omega
   · (cbv; try simp only [syT, true_and, and_true])
     (subst hL; subst hQ; simp only [L2, L3, std] at *; try simp only [syS, reduceCtorEq, Int.reduceToNat, Int.reduceAdd, Int.reduceSub] at *)
     have hl : i + 1 <= (rsL s).length := by omega
     refine ⟨fun q j hq hj => ?_, by omega, ⟨⟨hl, fun j hj => ?_⟩, by omega⟩, by omega⟩
     · by_cases h : q < i
       · rw [zel h, show q - i = 0 by omega]; rfl
       · have : q = i := by omega
         subst this
         rw [zf7 (by omega), show q - q = 0 by omega]; rfl
     · by_cases h : j < i
       · exact hi.1.2 j h
       · have : j = i := by omega
         subst this
         exact h9
   · (subst hL; subst hQ; simp only [L2, L3, std] at *; try simp only [syS, reduceCtorEq, Int.reduceToNat, Int.reduceAdd, Int.reduceSub] at *)
     have hM : i = rsM s := by omega
     have hok : zy6 s := ⟨h1, h2, h3, h4, fun h => absurd h h5, fun _ => by omega, by rw [<- hM]; exact hi.1⟩
     have := yc6 hok hM
     obtain ⟨y1, y2, y3, y4, y5⟩ := this
     refine ⟨y1, y2, y3, ?_, y5⟩
     rw [<- y4, if_neg h5]
     try rfl
end Sy
end Go.Proofs.YtcgikjfloloekaaGreatDoor
namespace Go.Proofs.YtcgikjfloloekaaGreatDoor
namespace Sy
open Go Go.RowKit
set_option maxRecDepth 100000
set_option linter.unusedSimpArgs false
set_option linter.unusedVariables false
structure Ss where
 ep : Int
 ver : Int
 non : Int
 nxt : Int
 rep : List UInt8
 opn : Bool
 ba : Int
 ca : Int
 tr : Int
structure Of where
 v : Int
 n : Int
 b : List UInt8
def ssA (L : za9) (x : Ss) : AV := .agg [.int .u64 (L Ss.ep x), .int .u64 (L Ss.ver x), .int .u64 (L Ss.non x), .int .u64 (L Ss.nxt x), .str (L Ss.rep x), .bool (L Ss.opn x), .int .u64 (L Ss.ba x), .int .u64 (L Ss.ca x), .int .i64 (L Ss.tr x)]
def yxa (L : za9) (a b c d : Int) (r : List UInt8) (o : Bool) (e f g : Int) : Ss := L (L (L (L (L (L (L (L (L Ss.mk a) b) c) d) r) o) e) f) g
theorem ybf {x : Ss} {a b c d : Int} {r : List UInt8} {o : Bool} {e f g : Int} (h : x = ⟨a, b, c, d, r, o, e, f, g⟩) : fits1 (ssA std x) (.agg [.int .u64 a, .int .u64 b, .int .u64 c, .int .u64 d, .str r, .bool o, .int .u64 e, .int .u64 f, .int .i64 g]) := by
 subst h
 show fits1 (.agg [.int .u64 a, .int .u64 b, .int .u64 c, .int .u64 d, .str r, .bool o, .int .u64 e, .int .u64 f, .int .i64 g]) _
 simp only [zb7, zbh, zgb, zbi, and_self]
theorem rd1 (a : Int) : rdI (.lst 1 1 fun i x => .int .u64 (zd3 [a] i)) = [a] := rfl
theorem rd2 (a b : Int) : rdI (.lst 1 2 fun i x => .int .u64 (zd3 [a, b] i)) = [a, b] := rfl
theorem yr0 (n : Nat) (g : Nat -> Int) : okI (.lst 1 n fun i x => .int .u64 (g i)) := ⟨rfl, fun i _ => ⟨_, rfl⟩⟩
theorem yds {a : Int} {l : List Int} (h : zas a) (hl : l.length <= 10) (hs : ∀ x ∈ l, zas x) : zns a [] l := ⟨h, Nat.zero_le _, by omega, hs⟩
theorem yux {a : Int} (h : zas a) : ∀ x ∈ [a], zas x := fun x hx => by simp at hx; rw [hx]; exact h
theorem yrd {a b : Int} (h : zas a) (h2 : zas b) : ∀ x ∈ [a, b], zas x := fun x hx => by
 simp at hx
 rcases hx with rfl | rfl
 · exact h
 · exact h2
theorem all3 {a b c : Int} (h : zas a) (h2 : zas b) (h3 : zas c) : ∀ x ∈ [a, b, c], zas x := fun x hx => by
 simp at hx
 rcases hx with rfl | rfl | rfl
 · exact h
 · exact h2
 · exact h3
theorem ydu (a : Int) : zas (a % 18446744073709551616) := ⟨by omega, by omega⟩
def yo0 (L : za9) : zbn := (19, fun xs => match xs with | [.agg [.int .u64 b, .int .u64 c, .int .i64 t], .int .u64 v] => some (True, .agg [.int .u64 0, .int .u64 v, .int .u64 0, .int .u64 0, .str [], .bool false, .int .u64 b, .int .u64 c, .int .i64 t]) | _ => none)
theorem yig : zay Tryz.prog (yo0 std) := by
 intro xs p r h hp
 dsimp only [yo0] at h |-
 split at h <;> cases h
 try simp only [L2, L3, std] at hp |-
 refine za5 (T := tt) (S := noS) (lo := noA) (lb := noA) 5 (fn := Tryz.f19) rfl rfl (by kernel_rfl) (by kernel_rfl) rfl zaa (zcc _) (by kernel_rfl) ?_
 (intro L P1 Q1 hL hP hQ; cbv; subst hL; simp only [L2, L3, std, syT]; subst hQ)
 (simp only [syS, reduceCtorEq, Int.reduceToNat, Int.reduceAdd, Int.reduceSub])
def subT (e v : Int) : List UInt8 := zgi 1 e [] [v]
def ym8 (x : Ss) (now : Int) : Ss := if x.opn = true \/ now < x.nxt then x else { x with opn := true, ep := (x.ep + 1) % 18446744073709551616, non := 0, rep := [] }
def yrr (x : Ss) (now : Int) : List UInt8 := if x.opn = true \/ now < x.nxt then [] else subT ((x.ep + 1) % 18446744073709551616) x.ver
def yb4 (L : za9) : zbn := (20, fun xs => match xs with
 | [.agg [.int .u64 a, .int .u64 b, .int .u64 c, .int .u64 d, .str r, .bool o, .int .u64 e, .int .u64 f, .int .i64 g], .int .u64 now] => some (L zas b, .tup [ssA L (L2 L ym8 (yxa L a b c d r o e f g) now), .str (L2 L yrr (yxa L a b c d r o e f g) now)])
 | _ => none)
theorem yb5 : zay Tryz.prog (yb4 std) := by
 intro xs p r h hp
 dsimp only [yb4] at h |-
 split at h <;> cases h
 try simp only [L2, L3, std] at hp |-
 rename_i a b c d r o e f g now
 refine za5 (T := tt) (S := fun L => zai [ydr L]) (lo := noA) (lb := noA) 5 (fn := Tryz.f20) rfl rfl (by kernel_rfl) (by kernel_rfl) rfl zaa (za1 ⟨zpw, trivial⟩) (by kernel_rfl) ?_
 (intro L P1 Q1 hL hP hQ; cbv; subst hL; simp only [L2, L3, std, syT]; subst hQ)
 (simp only [syS, reduceCtorEq, Int.reduceToNat, Int.reduceAdd, Int.reduceSub])
 have eX : yxa std a b c d r o e f g = ⟨a, b, c, d, r, o, e, f, g⟩ := rfl
 rw [eX]
 refine ⟨fun h => ⟨ybf (if_pos (.inl h)), (if_pos (.inl h)).symm⟩, fun h => ⟨fun h1 => ⟨ybf (if_pos (.inr h1)), (if_pos (.inr h1)).symm⟩, fun h1 => ?_⟩⟩
 have hn : ¬ (o = true \/ now < d) := by
   rintro (h2 | h2)
   · rw [h] at h2; cases h2
   · omega
 rw [rd1]
 exact ⟨⟨yr0 _ _, yds (ydu _) (by simp) (yux hp)⟩, ybf (if_neg hn), (if_neg hn).symm⟩
theorem rs_4 {s : List UInt8} (h : ¬ rsE s = 0) : rsE s = 4 := by
 unfold rsE at h |-
 split at h
 · exact absurd rfl h
 · rename_i hn
   exact if_neg hn
theorem ymx {s : List UInt8} (h : rsE s = 0) : zy6 s := by
 unfold rsE at h
 split at h
 · assumption
 · cases h
theorem ymy {s : List UInt8} (h : rsE s = 0) : (rsI s).length = rsM s := by
 rw [rsI, if_pos h, yny, List.length_map, List.length_take]
 have := (ymx h).2.2.2.2.2.2.1
 omega
structure Ct where
 ver : Int
 bod : List UInt8
 som : Bool
 ep : Int
 non : Int
 las : List UInt8
 tv : Int
 tc : Int
 ti : Bool
 rv : Int
 rc : Int
 ri : Bool
def ctA (L : za9) (x : Ct) : AV := .agg [.int .u64 (L Ct.ver x), .str (L Ct.bod x), .bool (L Ct.som x), .int .u64 (L Ct.ep x), .int .u64 (L Ct.non x), .str (L Ct.las x), .int .u64 (L Ct.tv x), .int .u64 (L Ct.tc x), .bool (L Ct.ti x), .int .u64 (L Ct.rv x), .int .u64 (L Ct.rc x), .bool (L Ct.ri x)]
def zjr (L : za9) (a : Int) (b : List UInt8) (s : Bool) (e n : Int) (l : List UInt8) (p q : Int) (r : Bool) (t u : Int) (v : Bool) : Ct := L (L (L (L (L (L (L (L (L (L (L (L Ct.mk a) b) s) e) n) l) p) q) r) t) u) v
theorem zfn {x : Ct} {a : Int} {b : List UInt8} {s : Bool} {e n : Int} {l : List UInt8} {p q : Int} {r : Bool} {t u : Int} {v : Bool} (h : x = ⟨a, b, s, e, n, l, p, q, r, t, u, v⟩) :
   fits1 (ctA std x) (.agg [.int .u64 a, .str b, .bool s, .int .u64 e, .int .u64 n, .str l, .int .u64 p, .int .u64 q, .bool r, .int .u64 t, .int .u64 u, .bool v]) := by
 subst h
 show fits1 (.agg [.int .u64 a, .str b, .bool s, .int .u64 e, .int .u64 n, .str l, .int .u64 p, .int .u64 q, .bool r, .int .u64 t, .int .u64 u, .bool v]) _
 simp only [zb7, zbh, zgb, zbi, and_self]
def ytj (n : Int) : Int := (n + 1) % 18446744073709551616
def yr1 (x : Ct) : Ct := { x with non := ytj x.non, las := zgi 2 x.ep x.bod [x.ver, ytj x.non] }
def ctOk (x : Ct) : Prop := zas x.ep /\ x.bod.length <= 1000000 /\ zas x.ver
def yia (L : za9) : zbn := (29, fun xs => match xs with
 | [.agg [.int .u64 a, .str b, .bool s, .int .u64 e, .int .u64 n, .str l, .int .u64 p, .int .u64 q, .bool r, .int .u64 t, .int .u64 u, .bool v]] =>
   some (L ctOk (zjr L a b s e n l p q r t u v), .tup [ctA L (L yr1 (zjr L a b s e n l p q r t u v)), .str (L Ct.las (L yr1 (zjr L a b s e n l p q r t u v)))])
 | _ => none)
theorem zw6 : zay Tryz.prog (yia std) := by
 intro xs p r h hp
 dsimp only [yia] at h |-
 split at h <;> cases h
 try simp only [L2, L3, std] at hp |-
 rename_i a b s e n l p q r t u v
 refine za5 (T := tt) (S := fun L => zai [ydr L]) (lo := noA) (lb := noA) 5 (fn := Tryz.f29) rfl rfl (by kernel_rfl) (by kernel_rfl) rfl zaa (za1 ⟨zpw, trivial⟩) (by kernel_rfl) ?_
 obtain ⟨p1, p2, p3⟩ : zas e /\ b.length <= 1000000 /\ zas a := hp
 (intro L P1 Q1 hL hP hQ; cbv; subst hL; simp only [L2, L3, std, syT]; subst hQ)
 (simp only [syS, reduceCtorEq, Int.reduceToNat, Int.reduceAdd, Int.reduceSub])
 rw [rd2]
 exact ⟨⟨yr0 _ _, p1, p2, by simp, yrd p3 (ydu _)⟩, zfn rfl, rfl⟩
def ywi (x : Ct) (v : Int) (b : List UInt8) : Ct := { x with ver := v, bod := b, som := true }
def zqu (x : Ct) (v : Int) (b : List UInt8) : Ct := if x.ep = 0 then ywi x v b else yr1 (ywi x v b)
def ysi (x : Ct) (v : Int) (b : List UInt8) : List UInt8 := if x.ep = 0 then [] else (yr1 (ywi x v b)).las
def ycx (L : za9) : zbn := (7, fun xs => match xs with
 | [.agg [.int .u64 a, .str b, .bool s, .int .u64 e, .int .u64 n, .str l, .int .u64 p, .int .u64 q, .bool r, .int .u64 t, .int .u64 u, .bool v], .int .u64 w, .str x] =>
   some (L zas e /\ L2 L upto 1000000 x /\ L zas w, .tup [ctA L (L3 L zqu (zjr L a b s e n l p q r t u v) w x), .str (L3 L ysi (zjr L a b s e n l p q r t u v) w x)])
 | _ => none)
theorem zph : zay Tryz.prog (ycx std) := by
 intro xs p r h hp
 dsimp only [ycx] at h |-
 split at h <;> cases h
 try simp only [L2, L3, std] at hp |-
 rename_i a b s e n l p q r t u v w x
 refine za5 (T := tt) (S := fun L => zai [yia L]) (lo := noA) (lb := noA) 5 (fn := Tryz.f7) rfl rfl (by kernel_rfl) (by kernel_rfl) rfl zaa (za1 ⟨zw6, trivial⟩) (by kernel_rfl) ?_
 obtain ⟨p1, p2, p3⟩ : zas e /\ upto 1000000 x /\ zas w := hp
 (intro L P1 Q1 hL hP hQ; cbv; subst hL; simp only [L2, L3, std, syT]; subst hQ)
 (simp only [syS, reduceCtorEq, Int.reduceToNat, Int.reduceAdd, Int.reduceSub])
 have eX : zjr std a b s e n l p q r t u v = ⟨a, b, s, e, n, l, p, q, r, t, u, v⟩ := rfl
 rw [eX]
 refine ⟨fun h => ⟨zfn (if_pos h), (if_pos h).symm⟩, fun h => ⟨⟨p1, p2, p3⟩, zfn (if_neg h), (if_neg h).symm⟩⟩
def yx7 (x : Ct) (e : Int) : Ct := { x with ep := e, non := 0, las := [] }
def zvq (x : Ct) (e : Int) : Int := if e < x.ep \/ e = 0 then 18 else 0
def zqz (x : Ct) (e : Int) : Ct := if e < x.ep \/ e = 0 \/ e = x.ep then x else if x.som = true then yr1 (yx7 x e) else yx7 x e
def zxl (x : Ct) (e : Int) : List UInt8 := if e < x.ep \/ e = 0 then [] else if e = x.ep then x.las else if x.som = true then (yr1 (yx7 x e)).las else []
def yb7 (L : za9) : zbn := (30, fun xs => match xs with
 | [.agg [.int .u64 a, .str b, .bool s, .int .u64 e, .int .u64 n, .str l, .int .u64 p, .int .u64 q, .bool r, .int .u64 t, .int .u64 u, .bool v], .int .u64 w] =>
   some (L zas w /\ L2 L upto 1000000 b /\ L zas a, .tup [ctA L (L2 L zqz (zjr L a b s e n l p q r t u v) w), .str (L2 L zxl (zjr L a b s e n l p q r t u v) w), .int .i64 (L2 L zvq (zjr L a b s e n l p q r t u v) w)])
 | _ => none)
theorem yb8 : zay Tryz.prog (yb7 std) := by
 intro xs p r h hp
 dsimp only [yb7] at h |-
 split at h <;> cases h
 try simp only [L2, L3, std] at hp |-
 rename_i a b s e n l p q r t u v w
 refine za5 (T := tt) (S := fun L => zai [yia L]) (lo := noA) (lb := noA) 5 (fn := Tryz.f30) rfl rfl (by kernel_rfl) (by kernel_rfl) rfl zaa (za1 ⟨zw6, trivial⟩) (by kernel_rfl) ?_
 obtain ⟨p1, p2, p3⟩ : zas w /\ upto 1000000 b /\ zas a := hp
 (intro L P1 Q1 hL hP hQ; cbv; subst hL; simp only [L2, L3, std, syT]; subst hQ)
 (simp only [syS, reduceCtorEq, Int.reduceToNat, Int.reduceAdd, Int.reduceSub])
 have eX : zjr std a b s e n l p q r t u v = ⟨a, b, s, e, n, l, p, q, r, t, u, v⟩ := rfl
 have eY : zjr std a b s w 0 [] p q r t u v = ⟨a, b, s, w, 0, [], p, q, r, t, u, v⟩ := rfl
 rw [eX, eY]
 refine ⟨fun h => ⟨zfn (if_pos (.inl h)), (if_pos (.inl h)).symm, (if_pos (.inl h)).symm⟩, fun h => ⟨fun h1 => ⟨zfn (if_pos (.inr (.inl h1))), (if_pos (.inr h1)).symm, (if_pos (.inr h1)).symm⟩, fun h1 => ?_⟩⟩
 have hn : ¬ (w < e \/ w = 0) := by
   rintro (q | q)
   · omega
   · exact h1 q
 refine ⟨fun h2 => ⟨zfn (if_pos (.inr (.inr h2))), ?_, (if_neg hn).symm⟩, fun h2 => ?_⟩
 · unfold zxl
   rw [if_neg hn, if_pos h2]
 have hm : ¬ (w < e \/ w = 0 \/ w = e) := by
   rintro (q | q | q)
   · omega
   · exact h1 q
   · exact h2 q
 refine ⟨fun h3 => ⟨zfn ?_, ?_, (if_neg hn).symm⟩, fun h3 => ⟨⟨p1, p2, p3⟩, zfn ?_, ?_, (if_neg hn).symm⟩⟩
 · unfold zqz
   rw [if_neg hm, if_neg (by show ¬ s = true; rw [h3]; decide)]; rfl
 · unfold zxl
   rw [if_neg hn, if_neg h2, if_neg (by show ¬ s = true; rw [h3]; decide)]
 · unfold zqz
   rw [if_neg hm, if_pos h3]; rfl
 · unfold zxl
   rw [if_neg hn, if_neg h2, if_pos h3]; rfl
theorem yba {x : Ct} {e : Int} (h : ¬ zvq x e = 0) : zqz x e = x /\ zxl x e = [] := by
 unfold zvq at h
 split at h
 · rename_i q
   refine ⟨if_pos ?_, if_pos q⟩
   rcases q with q | q
   · exact .inl q
   · exact .inr (.inl q)
 · exact absurd rfl h
theorem yc7 {s : List UInt8} (h : rsE s = 0) (h1 : ¬ rsK s = 1) : 2 <= (zuc (rsI s) : Int) /\ (¬ rsK s = 2 -> ¬ rsK s = 3 -> (zuc (rsI s) : Int) = 3) := by
 have hl : zuc (rsI s) = rsM s := ymy h
 have hN := (ymx h).2.1
 rw [rsK, if_pos h] at h1
 rw [hl, rsK, if_pos h, rsM]
 unfold rsN zif at hN |-
 rw [if_neg h1] at hN |-
 split
 · rename_i q
   exact ⟨by decide, fun a b => by rcases q with q | q; · exact absurd q a
                                   · exact absurd q b⟩
 · rename_i q
   rw [if_neg q] at hN
   split
   · exact ⟨by decide, fun _ _ => rfl⟩
   · rename_i q2
     rw [if_neg q2] at hN
     exact absurd rfl hN
theorem yc9 (s : List UInt8) : zas (rsP s) := by
 unfold rsP paP nxP
 split
 · split
   · split
     · exact zrl s
     · exact ⟨by decide, by decide⟩
   · exact ⟨by decide, by decide⟩
 · exact ⟨by decide, by decide⟩
noncomputable def ctE (x : Ct) (s : List UInt8) : Int :=
 if rsE s ≠ 0 then rsE s else if rsK s = 1 then zvq x (rsP s) else if rsK s = 2 then 10 else if rsP s ≠ x.ep \/ zd3 (rsI s) 1 < 1 \/ x.non < zd3 (rsI s) 1 then 18 else 0
noncomputable def ctS (x : Ct) (s : List UInt8) : Ct :=
 if ctE x s ≠ 0 then x else if rsK s = 1 then zqz x (rsP s) else if rsK s = 3 then { x with tv := zd3 (rsI s) 0, tc := 0, ti := true } else { x with rv := zd3 (rsI s) 0, rc := zd3 (rsI s) 2, ri := true }
noncomputable def ctT (x : Ct) (s : List UInt8) : List UInt8 := if ctE x s ≠ 0 then [] else if rsK s = 1 then zxl x (rsP s) else []
noncomputable def yk7 (L : za9) : zbn := (8, fun xs => match xs with
 | [.agg [.int .u64 a, .str b, .bool s, .int .u64 e, .int .u64 n, .str l, .int .u64 p, .int .u64 q, .bool r, .int .u64 t, .int .u64 u, .bool v], .str w] =>
   some (L2 L upto 900000 w /\ L2 L upto 1000000 b /\ L zas a, .tup [ctA L (L2 L ctS (zjr L a b s e n l p q r t u v) w), .str (L2 L ctT (zjr L a b s e n l p q r t u v) w), .int .i64 (L2 L ctE (zjr L a b s e n l p q r t u v) w)])
 | _ => none)
theorem zx5 : zay Tryz.prog (yk7 std) := by
 intro xs p r h hp
 dsimp only [yk7] at h |-
 split at h <;> cases h
 try simp only [L2, L3, std] at hp |-
 rename_i a b s e n l p q r t u v w
 refine za5 (T := tt) (S := fun L => zai [yvl L, yb7 L]) (lo := noA) (lb := noA) 5 (fn := Tryz.f8) rfl rfl (by kernel_rfl) (by kernel_rfl) rfl zaa (za1 ⟨yc8, yb8, trivial⟩) (by kernel_rfl) ?_
 obtain ⟨p1, p2, p3⟩ : upto 900000 w /\ upto 1000000 b /\ zas a := hp
 (intro L P1 Q1 hL hP hQ; cbv; subst hL; simp only [L2, L3, std, syT]; subst hQ)
 (simp only [syS, reduceCtorEq, Int.reduceToNat, Int.reduceAdd, Int.reduceSub])
 have eX : zjr std a b s e n l p q r t u v = ⟨a, b, s, e, n, l, p, q, r, t, u, v⟩ := rfl
 rw [eX]
 have no : ∀ z, ctE ⟨a, b, s, e, n, l, p, q, r, t, u, v⟩ w = z -> z ≠ 0 -> ¬ rsK w = 1 \/ ¬ rsE w = 0 -> fits1 (ctA std (ctS ⟨a, b, s, e, n, l, p, q, r, t, u, v⟩ w)) (.agg [.int .u64 a, .str b, .bool s, .int .u64 e, .int .u64 n, .str l, .int .u64 p, .int .u64 q, .bool r, .int .u64 t, .int .u64 u, .bool v]) /\
     [] = ctT ⟨a, b, s, e, n, l, p, q, r, t, u, v⟩ w /\ z = ctE ⟨a, b, s, e, n, l, p, q, r, t, u, v⟩ w := fun z h h1 h2 =>
   ⟨zfn (if_pos (by rw [h]; exact h1)), (if_pos (by rw [h]; exact h1)).symm, h.symm⟩
 refine ⟨p1, fun h1 => ?_, fun h1 => ⟨fun h2 => ?_, fun h2 => ⟨fun h3 => ?_, fun h3 => ⟨fun h4 => ?_, fun h4 => ?_⟩⟩⟩⟩
 · refine no _ (if_pos h1) h1 (.inr h1)
 · have e1 : ctE ⟨a, b, s, e, n, l, p, q, r, t, u, v⟩ w = zvq ⟨a, b, s, e, n, l, p, q, r, t, u, v⟩ (rsP w) := by rw [ctE, if_neg (by rw [h1]; decide), if_pos h2]
   have e2 : ctS ⟨a, b, s, e, n, l, p, q, r, t, u, v⟩ w = zqz ⟨a, b, s, e, n, l, p, q, r, t, u, v⟩ (rsP w) := by
     rw [ctS, e1]
     by_cases q : zvq ⟨a, b, s, e, n, l, p, q, r, t, u, v⟩ (rsP w) = 0
     · rw [if_neg (by rw [q]; decide), if_pos h2]
     · rw [if_pos q, (yba q).1]
   have e3 : ctT ⟨a, b, s, e, n, l, p, q, r, t, u, v⟩ w = zxl ⟨a, b, s, e, n, l, p, q, r, t, u, v⟩ (rsP w) := by
     rw [ctT, e1]
     by_cases q : zvq ⟨a, b, s, e, n, l, p, q, r, t, u, v⟩ (rsP w) = 0
     · rw [if_neg (by rw [q]; decide), if_pos h2]
     · rw [if_pos q, (yba q).2]
   exact ⟨⟨yc9 w, p2, p3⟩, zfn e2, e3.symm, e1.symm⟩
 · exact no 10 (by rw [ctE, if_neg (by rw [h1]; decide), if_neg h2, if_pos h3]) (by decide) (.inl h2)
 · exact no 18 (by rw [ctE, if_neg (by rw [h1]; decide), if_neg h2, if_neg h3, if_pos (.inl h4)]) (by decide) (.inl h2)
 obtain ⟨l2, l3⟩ := yc7 h1 h2
 refine ⟨⟨by omega, by omega⟩, fun h5 => ?_, fun h5 => ⟨⟨by omega, by omega⟩, fun h6 => ?_, fun h6 => ?_⟩⟩
 · exact no 18 (by rw [ctE, if_neg (by rw [h1]; decide), if_neg h2, if_neg h3, if_pos (.inr (.inl h5))]) (by decide) (.inl h2)
 · exact no 18 (by rw [ctE, if_neg (by rw [h1]; decide), if_neg h2, if_neg h3, if_pos (.inr (.inr h6))]) (by decide) (.inl h2)
 have e1 : ctE ⟨a, b, s, e, n, l, p, q, r, t, u, v⟩ w = 0 := by
   rw [ctE, if_neg (by rw [h1]; decide), if_neg h2, if_neg h3, if_neg]
   rintro (q | q | q)
   · exact q h4
   · omega
   · have q : n < zd3 (rsI w) 1 := q
     omega
 have e3 : ctT ⟨a, b, s, e, n, l, p, q, r, t, u, v⟩ w = [] := by rw [ctT, if_neg (by rw [e1]; decide), if_neg h2]
 refine ⟨fun h7 => ⟨⟨by omega, by omega⟩, zfn ?_, e3.symm, e1.symm⟩, fun h7 => ?_⟩
 · rw [ctS, if_neg (by rw [e1]; decide), if_neg h2, if_pos h7]
 · have l3 := l3 h3 h7
   refine ⟨⟨by omega, by omega⟩, ⟨by omega, by omega⟩, zfn ?_, e3.symm, e1.symm⟩
   rw [ctS, if_neg (by rw [e1]; decide), if_neg h2, if_neg h7]
def yf7 (L : za9) : zbn := (45, fun xs => match xs with
 | [.agg [.int .u64 a, .str b, .bool s, .int .u64 e, .int .u64 n, .str l, .int .u64 p, .int .u64 q, .bool r, .int .u64 t, .int .u64 u, .bool v]] => some (True, .int .u64 a)
 | _ => none)
theorem yf8 : zay Tryz.prog (yf7 std) := by
 intro xs p r h hp
 dsimp only [yf7] at h |-
 split at h <;> cases h
 try simp only [L2, L3, std] at hp |-
 refine za5 (T := tt) (S := noS) (lo := noA) (lb := noA) 5 (fn := Tryz.f45) rfl rfl (by kernel_rfl) (by kernel_rfl) rfl zaa (zcc _) (by kernel_rfl) ?_
 (intro L P1 Q1 hL hP hQ; cbv; subst hL; simp only [L2, L3, std, syT]; subst hQ)
 (simp only [syS, reduceCtorEq, Int.reduceToNat, Int.reduceAdd, Int.reduceSub])
def ykc (L : za9) : zbn := (28, fun xs => match xs with
 | [.agg [.int .u64 a, .str b, .bool s, .int .u64 e, .int .u64 n, .str l, .int .u64 p, .int .u64 q, .bool r, .int .u64 t, .int .u64 u, .bool v]] => some (True, .int .u64 e)
 | _ => none)
theorem zx7 : zay Tryz.prog (ykc std) := by
 intro xs p r h hp
 dsimp only [ykc] at h |-
 split at h <;> cases h
 try simp only [L2, L3, std] at hp |-
 refine za5 (T := tt) (S := noS) (lo := noA) (lb := noA) 5 (fn := Tryz.f28) rfl rfl (by kernel_rfl) (by kernel_rfl) rfl zaa (zcc _) (by kernel_rfl) ?_
 (intro L P1 Q1 hL hP hQ; cbv; subst hL; simp only [L2, L3, std, syT]; subst hQ)
 (simp only [syS, reduceCtorEq, Int.reduceToNat, Int.reduceAdd, Int.reduceSub])
def yfe (L : za9) : zbn := (24, fun xs => match xs with
 | [.agg [.int .u64 a, .str b, .bool s, .int .u64 e, .int .u64 n, .str l, .int .u64 p, .int .u64 q, .bool r, .int .u64 t, .int .u64 u, .bool v]] => some (True, .tup [.int .u64 p, .bool r])
 | _ => none)
theorem yff : zay Tryz.prog (yfe std) := by
 intro xs p r h hp
 dsimp only [yfe] at h |-
 split at h <;> cases h
 try simp only [L2, L3, std] at hp |-
 refine za5 (T := tt) (S := noS) (lo := noA) (lb := noA) 5 (fn := Tryz.f24) rfl rfl (by kernel_rfl) (by kernel_rfl) rfl zaa (zcc _) (by kernel_rfl) ?_
 (intro L P1 Q1 hL hP hQ; cbv; subst hL; simp only [L2, L3, std, syT]; subst hQ)
 (simp only [syS, reduceCtorEq, Int.reduceToNat, Int.reduceAdd, Int.reduceSub])
def yfh (L : za9) : zbn := (25, fun xs => match xs with
 | [.agg [.int .u64 a, .str b, .bool s, .int .u64 e, .int .u64 n, .str l, .int .u64 p, .int .u64 q, .bool r, .int .u64 t, .int .u64 u, .bool v]] => some (True, .tup [.int .u64 t, .int .u64 u, .bool v])
 | _ => none)
theorem yfi : zay Tryz.prog (yfh std) := by
 intro xs p r h hp
 dsimp only [yfh] at h |-
 split at h <;> cases h
 try simp only [L2, L3, std] at hp |-
 refine za5 (T := tt) (S := noS) (lo := noA) (lb := noA) 5 (fn := Tryz.f25) rfl rfl (by kernel_rfl) (by kernel_rfl) rfl zaa (zcc _) (by kernel_rfl) ?_
 (intro L P1 Q1 hL hP hQ; cbv; subst hL; simp only [L2, L3, std, syT]; subst hQ)
 (simp only [syS, reduceCtorEq, Int.reduceToNat, Int.reduceAdd, Int.reduceSub])
theorem zko : ∀ l : List Int, zbl (zc8 l) = true
 | [] => by rw [zc8, List.map_nil, zbl]
 | x :: l => by
   have := zko l
   rw [zc8, List.map_cons, zbl, show l.map zep = zc8 l from rfl, this, zep, zda, if_pos rfl]; rfl
theorem zzs (a b : List CV) : zbl (a ++ b) = (zbl a && zbl b) := by
 induction a with
 | nil => rw [List.nil_append, zbl]; rfl
 | cons x l ih => rw [List.cons_append, zbl, zbl, ih, Bool.and_assoc]
theorem ygv (b : List UInt8) : zbl [zgh b] = true := by rw [zbl, zbl, zgh, zda, if_neg (by decide), if_pos rfl]; rfl
theorem zz6 (k : Int) (b : List UInt8) (l : List Int) : zbl (zbg k b l) = true := by
 unfold zbg
 split
 · rw [zzs, zko, ygv]; rfl
 · exact zko l
theorem zro (k : Int) (b : List UInt8) (l : List Int) : zda (zno k b l) = true := by
 rw [zno, zc3, zda, if_neg (by decide), if_neg (by decide), if_pos rfl, zz6]; rfl
theorem zkn : ∀ l : List Int, zaw (zc8 l) = 0
 | [] => by rw [zc8, List.map_nil, zaw]
 | x :: l => by
   have := zkn l
   rw [zc8, List.map_cons, zaw, show l.map zep = zc8 l from rfl, this, zep, zcl, if_neg (by decide)]; rfl
theorem zz5 (k : Int) (b : List UInt8) (l : List Int) : zaw (zbg k b l) = 0 := by
 unfold zbg
 split
 · rw [zku, zkn, zaw, zaw, zgh, zcl, if_neg (by decide)]; rfl
 · exact zkn l
theorem zrn (k : Int) (b : List UInt8) (l : List Int) : zcl (zno k b l) = 1 := by
 rw [zno, zc3, zcl, if_pos rfl, zz5]; rfl
theorem yik {k : Int} {b : List UInt8} {l : List Int} (hb : b.length <= 8000) (hl : l.length <= 10) (hs : ∀ x ∈ l, zax x) : (zbe (zno k b l)).length <= 8192 := by
 obtain ⟨w, t⟩ := zwa hs
 have sb : zax (b.length : Nat) := ⟨by omega, by omega⟩
 have tl := zbx sb
 have il : (zbg k b l).length <= l.length + 1 := by
   unfold zbg
   split <;> simp [zc7]
 have sl : zax ((zbg k b l).length : Nat) := ⟨by omega, by omega⟩
 have tl2 := zbx sl
 have ws : (zap (zbg k b l)).length <= 11 * l.length + b.length + 11 := by
   unfold zbg
   split
   · rw [zfx, zap, zap, zgh, zae, if_neg (by decide), if_pos rfl]
     simp only [List.length_append, List.length_cons, zf6, List.length_nil]
     omega
   · omega
 rw [zno, zc3, zae, if_neg (by decide), if_neg (by decide)]
 simp only [List.length_append, List.length_cons, zf6, List.length_nil]
 omega
structure yv1 (t : List UInt8) (k e : Int) (b : List UInt8) (l : List Int) : Prop where
 E : rsE t = 0
 K : rsK t = k
 P : rsP t = e
 I : rsI t = l
 B : rsB t = if k = 2 then b else []
 len : t.length <= 8300
 some : t ≠ []
theorem ydm (l : List Int) : yny (zc8 l) = l := by
 rw [yny, zc8, List.map_map]
 exact List.map_id' l
theorem ynv {l : List Int} {i : Nat} (h : i < l.length) : zbj (zc8 l) i = zep l[i] := by
 rw [zbj, zc8, List.getD_eq_getElem?_getD, List.getElem?_map, List.getElem?_eq_getElem h]; rfl
theorem zll {k e : Int} {b : List UInt8} {l : List Int} (hk : zif k = l.length) (k1 : 1 <= k) (k2 : k <= 4) (he : zas e) (hb : b.length <= 8000) (hs : ∀ x ∈ l, zax x) : yv1 (zgi k e b l) k e b l := by
 have hl : l.length <= 3 := by have := ydg k; omega
 have tl := yik (k := k) hb (by omega) hs
 have hE : zjf (zno k b l) = 0 := by rw [zjf, if_pos (zro _ _ _), if_neg (by rw [zrn]; omega), if_neg (by omega)]
 have hT : zje (zno k b l) = zbe (zno k b l) := by rw [zje, if_pos hE]
 have ht : zgi k e b l = byT k e (zbe (zno k b l)) := by rw [zgi, if_pos hE, hT]
 obtain ⟨m1, m2, m3⟩ := zu7 (e := e) (k := k) (b := b) (l := l) ⟨he, by omega, by omega, hs⟩
 obtain ⟨g1, g2⟩ := yts m2.1 (zro k b l) (by rw [zrn]; omega) tl
 have bE : byE k (zbe (zno k b l)) = 0 := by rw [byE, if_neg (by omega), if_neg (by omega)]
 have G := zwy k e _ [] bE he.1 he.2
 rw [List.append_nil, <- ht] at G
 have pe : paE (zgi k e b l) = 0 := by rw [paE, if_neg (fun h => h.2 G.R), G.E]
 have pK : paK (zgi k e b l) = k := by rw [paK, if_pos pe, G.K]
 have pP : paP (zgi k e b l) = e := by rw [paP, if_pos pe, G.P]
 have pB : paB (zgi k e b l) = zbe (zno k b l) := by rw [paB, if_pos pe, G.B]
 have gV : zqc (paB (zgi k e b l)) = zno k b l := by rw [pB, g1]
 have eL : rsL (zgi k e b l) = zbg k b l := by rw [rsL, gV]; rfl
 have eN : rsN (zgi k e b l) = l.length := by rw [rsN, pK, hk]
 have eM : rsM (zgi k e b l) = l.length := by rw [rsM, eN]; simp
 have hi : ∀ j, j < l.length -> zbj (zbg k b l) j = zbj (zc8 l) j := by
   intro j hj
   unfold zbg
   split
   · exact zi1 (by rw [zc7]; exact hj)
   · rfl
 have il : (zbg k b l).length = if k = 2 then l.length + 1 else l.length := by
   unfold zbg
   split
   · simp [zc7]
   · exact zc7 l
 have ok : zy6 (zgi k e b l) := by
   refine ⟨pe, ?_, by rw [pB]; exact g2, by rw [gV]; rfl, ?_, ?_, ?_⟩
   · rw [rsN, pK]
     unfold zif
     split
     · decide
     · split
       · decide
       · split <;> omega
   · intro h2
     rw [pK] at h2
     rw [eL, eM, eN, il, if_pos h2]
     refine ⟨by omega, ?_⟩
     rw [zbg, if_pos h2, <- zc7 l, zg4]; rfl
   · intro h2
     rw [pK] at h2
     rw [eL, eN, il, if_neg h2]
   · rw [eL, eM]
     refine ⟨by rw [il]; split <;> omega, fun j hj => ?_⟩
     rw [hi j hj, ynv hj]; rfl
 have rE : rsE (zgi k e b l) = 0 := if_pos ok
 have hlen := G.len
 simp only [List.length_nil, Nat.add_zero] at hlen
 refine ⟨rE, by rw [rsK, if_pos rE, pK], by rw [rsP, if_pos rE, pP], ?_, ?_, by omega, ?_⟩
 · rw [rsI, if_pos rE, eL, eM]
   unfold zbg
   split
   · rw [List.take_left' (zc7 l), ydm]
   · rw [List.take_of_length_le (by rw [zc7]; omega), ydm]
 · rw [rsB, pK]
   by_cases h2 : k = 2
   · rw [if_pos ⟨rE, h2⟩, if_pos h2, eL, eM, zbg, if_pos h2, <- zc7 l, zg4]; rfl
   · rw [if_neg (fun h => h2 h.2), if_neg h2]
 · intro h
   rw [h] at hlen
   simp at hlen
theorem zzu : za7 Tryz.prog 51 [] (.bool true) := by
 refine za5 (T := tt) (S := fun L => zai [yo0 L, yb4 L, yvl L, tru 80, tru 81, tru 82]) (lo := noA) (lb := noA) 5 (fn := Tryz.f51) rfl rfl (by kernel_rfl) (by kernel_rfl) rfl zaa (za1 ⟨yig, yb5, yc8, zb9 zow, zb9 yac, zb9 yaa, trivial⟩) (by kernel_rfl) ?_
 (intro L P1 Q1 hL hP hQ; cbv; subst hL; simp only [L2, L3, std, syT]; subst hQ)
 (simp only [syS, reduceCtorEq, Int.reduceToNat, Int.reduceAdd, Int.reduceSub])
 have tT : yrr ⟨0, 5, 0, 0, [], false, 1, 8, 0⟩ 0 = zgi 1 1 [] [5] := if_neg (by simp)
 have tS : (ym8 ⟨0, 5, 0, 0, [], false, 1, 8, 0⟩ 0).opn = true := by rw [ym8, if_neg (by simp)]
 have R := zll (k := 1) (e := 1) (b := []) (l := [5]) rfl (by decide) (by decide) ⟨by decide, by decide⟩ (by decide) (by intro x hx; simp at hx; subst hx; exact ⟨by decide, by decide⟩)
 rw [tT, tS, R.E, R.K, R.P, R.I]
 have hl := R.len
 exact ⟨⟨by decide, by decide⟩, by unfold upto; omega, fun _ => ⟨fun _ => ⟨fun _ => ⟨fun _ => ⟨fun _ => ⟨⟨by omega, by decide⟩, rfl⟩, rfl⟩, rfl⟩, rfl⟩, rfl⟩, by decide⟩
theorem ypu {x : Ct} {e v : Int} (he : zas e) (hv : zas v) : ctE x (zgi 1 e [] [v]) = zvq x e /\ ctS x (zgi 1 e [] [v]) = zqz x e /\ ctT x (zgi 1 e [] [v]) = zxl x e := by
 have R := zll (k := 1) (e := e) (b := []) (l := [v]) rfl (by decide) (by decide) he (by decide) (yux hv)
 have h0 : ctE x (zgi 1 e [] [v]) = zvq x e := by rw [ctE, if_neg (by rw [R.E]; decide), if_pos R.K, R.P]
 refine ⟨h0, ?_, ?_⟩
 · rw [ctS, h0, R.K, R.P]
   by_cases h : zvq x e = 0
   · rw [if_neg (by rw [h]; decide), if_pos rfl]
   · rw [if_pos h]
     unfold zvq at h
     unfold zqz
     rw [if_pos]
     split at h
     · rename_i q
       rcases q with q | q
       · exact .inl q
       · exact .inr (.inl q)
     · exact absurd rfl h
 · rw [ctT, h0, R.K, R.P]
   by_cases h : zvq x e = 0
   · rw [if_neg (by rw [h]; decide), if_pos rfl]
   · rw [if_pos h]
     unfold zvq at h
     unfold zxl
     rw [if_pos]
     split at h
     · assumption
     · exact absurd rfl h
def decN : List UInt8 -> Nat -> Nat
 | _, 0 => 0
 | [], _ + 1 => 0
 | b :: r, k + 1 => b.toNat % 128 + 128 * decN r k
theorem zv7 (b : UInt8) (r : List UInt8) (i : Nat) : cb (b :: r) (i + 1) = cb r i := rfl
theorem zv6 (b : UInt8) (r : List UInt8) : cb (b :: r) 0 = b.toNat := rfl
theorem zf4 : ∀ (k : Nat) (s : List UInt8), decN s (k + 1) = decN s k + cb s k % 128 * 128 ^ k
 | 0, [] => by simp [decN, cb]
 | 0, b :: r => by simp [decN, zv6]
 | k + 1, [] => by simp [decN, cb]
 | k + 1, b :: r => by
   have := zf4 k r
   rw [decN, decN, zv7, this, Nat.mul_add, Nat.pow_succ]
   have e : 128 * (cb r k % 128 * 128 ^ k) = cb r k % 128 * (128 ^ k * 128) := by
     rw [Nat.mul_comm 128, Nat.mul_assoc]
   omega
theorem yf6 (s : List UInt8) : ∀ k, decN s k < 128 ^ k
 | 0 => by cases s <;> simp [decN]
 | k + 1 => by
   have := yf6 s k
   rw [zf4, Nat.pow_succ]
   have h : cb s k % 128 * 128 ^ k <= 127 * 128 ^ k := Nat.mul_le_mul_right _ (by omega)
   omega
theorem yk0 : ∀ (k : Nat) (s : List UInt8), cb s k < 128 -> 0 < cb s k -> 0 < decN s (k + 1) := by
 intro k s h h0
 rw [zf4]
 have h1 : 0 < 128 ^ k := Nat.pow_pos (by decide)
 have : 0 < cb s k % 128 * 128 ^ k := Nat.mul_pos (by omega) h1
 omega
theorem yui : ∀ (k : Nat) (s : List UInt8), k < s.length -> (∀ j, j < k -> 128 <= cb s j) -> cb s k < 128 -> (0 < cb s k \/ k = 0) -> zdz (decN s (k + 1)) = s.take (k + 1)
 | _, [], h, _, _, _ => by simp at h
 | 0, b :: r, h, ha, hc, h0 => by
   rw [zv6] at hc
   rw [decN, decN, zbd (by omega), List.take_succ_cons, List.take_zero]
   congr 1
   apply UInt8.toNat_inj.1
   simp; omega
 | k + 1, b :: r, h, ha, hc, h0 => by
   rw [zv7] at hc h0
   have hp : 0 < cb r k := by omega
   have h2 := yk0 k r hc hp
   have hb := ha 0 (by omega)
   rw [zv6] at hb
   have hb' := b.toNat_lt
   have ih := yui k r (by simpa using h) (fun j hj => by have := ha (j + 1) (by omega); rwa [zv7] at this) hc (.inl hp)
   rw [decN, zeo (by omega), show (b.toNat % 128 + 128 * decN r (k + 1)) / 128 = decN r (k + 1) by omega, ih, List.take_succ_cons]
   congr 1
   apply UInt8.toNat_inj.1
   simp; omega
theorem zq0 {s : List UInt8} : ∀ k, k <= 9 -> k <= s.length -> (∀ j, j < k -> 128 <= cb s j) -> lng s 10 0 0 = lng s (10 - k) k (decN s k)
 | 0, _, _, _ => by cases s <;> rfl
 | k + 1, h9, hl, ha => by
   rw [zq0 k (by omega) (by omega) (fun j hj => ha j (by omega)), show 10 - k = (10 - (k + 1)) + 1 by omega, lng, if_neg (by omega), if_neg (by omega), if_pos (ha k (by omega)), zf4, show (2 : Nat) ^ (7 * k) = 128 ^ k by rw [Nat.pow_mul]]
theorem yiq {s : List UInt8} {k : Nat} (h9 : k <= 9) (hl : k < s.length) (ha : ∀ j, j < k -> 128 <= cb s j) (hc : cb s k < 128) :
   lng s 10 0 0 = if k = 9 /\ 1 < cb s k then (0, 0, 4) else if 0 < cb s k \/ k = 0 then (decN s (k + 1), k + 1, 0) else (0, 0, 4) := by
 rw [zq0 k h9 (by omega) ha, show 10 - k = (9 - k) + 1 by omega, lng, if_neg (by omega)]
 by_cases h : k = 9 /\ 1 < cb s k
 · rw [if_pos h, if_pos h]
 · rw [if_neg h, if_neg h, if_neg (by omega), zf4, show (2 : Nat) ^ (7 * k) = 128 ^ k by rw [Nat.pow_mul]]
theorem zwo {s : List UInt8} (hl : 9 < s.length) (ha : ∀ j, j < 10 -> 128 <= cb s j) : ¬ zdo s = 0 := by
 unfold zdo
 rw [zq0 9 (by omega) (by omega) (fun j hj => ha j (by omega)), lng, if_neg (by omega), if_pos ⟨rfl, by have := ha 9 (by omega); omega⟩]
 decide
theorem yod {s : List UInt8} (hl : s.length <= 9) (ha : ∀ j, j < s.length -> 128 <= cb s j) : ¬ zdo s = 0 := by
 unfold zdo
 rw [zq0 s.length hl (Nat.le_refl _) ha, show 10 - s.length = (9 - s.length) + 1 by omega, lng, if_pos (Nat.le_refl _)]
 decide
def dgS (s : List UInt8) (i : Nat) : Int := ((decN s i % 18446744073709551616 : Nat) : Int)
def zxj (i : Nat) : Int := ((128 ^ i % 18446744073709551616 : Nat) : Int)
theorem ys6 {s : List UInt8} {k : Nat} (h9 : k <= 9) (hl : k < s.length) (ha : ∀ j, j < k -> 128 <= cb s j) (hc : cb s k < 128) :
   (zat (dgS s (k + 1)) = s.take (k + 1) ↔ zdo s = 0) /\ (zdo s = 0 -> zb8 s = dgS s (k + 1) /\ zei s = (k : Int) + 1) := by
 have hs := yiq h9 hl ha hc
 have hso : zax (dgS s (k + 1)) := ⟨by unfold dgS; omega, by unfold dgS; omega⟩
 have fwd : zat (dgS s (k + 1)) = s.take (k + 1) -> zdo s = 0 := by
   intro h
   have := (yli hso (s.drop (k + 1))).2.2
   rwa [h, List.take_append_drop] at this
 have bwd : zdo s = 0 -> (0 < cb s k \/ k = 0) /\ ¬ (k = 9 /\ 1 < cb s k) := by
   intro h
   unfold zdo at h
   rw [hs] at h
   by_cases h1 : k = 9 /\ 1 < cb s k
   · rw [if_pos h1] at h; exact absurd h (by decide)
   · rw [if_neg h1] at h
     by_cases h2 : 0 < cb s k \/ k = 0
     · exact ⟨h2, h1⟩
     · rw [if_neg h2] at h; exact absurd h (by decide)
 have val : zdo s = 0 -> dgS s (k + 1) = (decN s (k + 1) : Int) := by
   intro h
   obtain ⟨h2, h1⟩ := bwd h
   have hb : decN s (k + 1) < 18446744073709551616 := by
     have hd := yf6 s k
     rw [zf4]
     by_cases hk : k = 9
     · subst hk
       have : cb s 9 % 128 * 128 ^ 9 <= 1 * 128 ^ 9 := Nat.mul_le_mul_right _ (by omega)
       omega
     · have h8 : 128 ^ k <= 128 ^ 8 := Nat.pow_le_pow_right (by decide) (by omega)
       have : cb s k % 128 * 128 ^ k <= 127 * 128 ^ k := Nat.mul_le_mul_right _ (by omega)
       omega
   unfold dgS
   rw [Nat.mod_eq_of_lt hb]
 refine ⟨⟨fwd, fun h => ?_⟩, fun h => ?_⟩
 · have hb := bwd h
   have hv := val h
   unfold zat
   rw [hv, Int.toNat_natCast]
   exact yui k s hl ha hc hb.1
 · have hb := bwd h
   have hv := val h
   unfold zb8 zei
   rw [hs, if_neg hb.2, if_pos hb.1, hv]
   exact ⟨rfl, by show ((k + 1 : Nat) : Int) = _; omega⟩
def yly (s : List UInt8) : Prop := s.length < 10 /\ ∀ j, j < s.length -> 128 <= cb s j
open Classical in
noncomputable def rlE (s : List UInt8) : Int := if zdo s = 0 then 0 else if yly s then 3 else 4
def rlN (s : List UInt8) : Int := if zdo s = 0 then zb8 s else 0
def rlK (s : List UInt8) : Int := if zdo s = 0 then zei s else 0
noncomputable def zti (L : za9) : zbn := (110, fun xs => match xs with | [.str s] => some (L2 L upto 900000 s, .tup [.int .u64 (L rlN s), .int .i64 (L rlK s), .int .i64 (L rlE s)]) | _ => none)
def ywp (s : List UInt8) (z : Nat) : Prop := 1 <= z /\ z <= s.length + 1 /\ ∀ j, j < z - 1 -> 128 <= cb s j
def leZ (z : Int) (i : Nat) : Prop := (i : Int) <= z
def lefZ (z : Int) (i : Nat) : Nat := (z - i).toNat
theorem ypp (s : List UInt8) (i : Nat) : zxj i * 128 % 18446744073709551616 = zxj (i + 1) /\
   (dgS s i + (((s.getD i 0).toNat : Int).tmod 128 % 18446744073709551616 * zxj i % 18446744073709551616)) % 18446744073709551616 = dgS s (i + 1) := by
 have a : ((s.getD i 0).toNat : Int).tmod 128 % 18446744073709551616 = ((cb s i % 128 : Nat) : Int) := by
   rw [Int.tmod_eq_emod_of_nonneg (by omega)]
   unfold cb; omega
 have m : (18446744073709551616 : Int) = ((18446744073709551616 : Nat) : Int) := rfl
 constructor
 · unfold zxj
   rw [m, show (128 : Int) = ((128 : Nat) : Int) from rfl, <- Int.natCast_mul, <- Int.natCast_emod, Nat.pow_succ]
   congr 1
   simp [Nat.mul_mod]
 · rw [a]
   unfold dgS zxj
   rw [m, <- Int.natCast_mul, <- Int.natCast_emod, <- Int.natCast_add, <- Int.natCast_emod, zf4]
   congr 1
   simp [Nat.add_mod, Nat.mul_mod]
def rlA (L : za9) (s : List UInt8) : Nat -> St -> Option Ann := fun id st => match id with
 | 0 => some ⟨Nat, fun z => [(5, .int .i64 (L zbu z))], fun _ => [], [0], [], fun z => L2 L ywp s z, fun z => L2 L (fun (s : List UInt8) (z : Nat) => s.length + 1 - z) s z⟩
 | 2 => zgj st 5 fun z => some ⟨Nat, fun i => [(8, .int .i64 (L zbu i)), (6, .int .u64 (L2 L dgS s i)), (7, .int .u64 (L zxj i))], fun _ => [], [0, 5], [],
     fun i => L2 L leZ z i, fun i => L2 L lefZ z i⟩
 | _ => none
theorem yck {s : List UInt8} (h : ¬ zdo s = 0) (h2 : ¬ yly s) : 0 = rlN s /\ 0 = rlK s /\ 4 = rlE s := by
 unfold rlN rlK rlE
 rw [if_neg h, if_neg h, if_neg h, if_neg h2]
 exact ⟨rfl, rfl, rfl⟩
theorem zyb : zay Tryz.prog (zti std) := by
 intro xs p r h hp
 dsimp only [zti] at h |-
 split at h <;> cases h
 try simp only [L2, L3, std] at hp |-
 rename_i s
 refine za5 (T := tt) (S := fun L => zai [zli L]) (lo := fun L => rlA L s) (lb := noA) 5 (fn := Tryz.f110) rfl rfl (by kernel_rfl) (by kernel_rfl) rfl zaa (za1 ⟨zme, trivial⟩) (by kernel_rfl) ?_
 have hl : s.length <= 900000 := hp
 intro L P' Q' hL hP hQ
 (cbv; try simp only [syT, true_and, and_true])
 refine ⟨⟨1, ?_⟩, fun z hz => ?_⟩
 · (cbv; try simp only [syT, true_and, and_true])
   (subst hL; subst hQ; simp only [L2, L3, std] at *; try simp only [syS, reduceCtorEq, Int.reduceToNat, Int.reduceAdd, Int.reduceSub] at *)
   exact ⟨Nat.le_refl _, by omega, fun j hj => by omega⟩
 · cbv at hz
   (cbv; try simp only [syT, true_and, and_true])
   refine ⟨fun h1 => ⟨?_, fun h2 => ⟨z + 1, ?_⟩, fun h2 => ⟨fun h3 => ?_, fun h3 => ⟨⟨0, ?_⟩, fun i hi => ?_⟩⟩⟩, fun h1 => ?_⟩
   · (subst hL; subst hQ; simp only [L2, L3, std] at *; try simp only [syS, reduceCtorEq, Int.reduceToNat, Int.reduceAdd, Int.reduceSub] at *)
     have := hz.1
     have := hz.2.1
     omega
   · (cbv; try simp only [syT, true_and, and_true])
     (subst hL; subst hQ; simp only [L2, L3, std] at *; try simp only [syS, reduceCtorEq, Int.reduceToNat, Int.reduceAdd, Int.reduceSub] at *)
     have z1 := hz.1
     have z2 := hz.2.1
     have ez : ((z : Int) - 1 + 9223372036854775808) % 18446744073709551616 - 9223372036854775808 = ((z - 1 : Nat) : Int) := by omega
     rw [ez, Int.toNat_natCast] at h2
     refine ⟨by omega, ⟨by omega, by omega, fun j hj => ?_⟩, by omega⟩
     by_cases hjz : j < z - 1
     · exact hz.2.2 j hjz
     · have : j = z - 1 := by omega
       subst this
       unfold cb
       omega
   · (subst hL; subst hQ; simp only [L2, L3, std] at *; try simp only [syS, reduceCtorEq, Int.reduceToNat, Int.reduceAdd, Int.reduceSub] at *)
     have z1 := hz.1
     have z2 := hz.2.1
     have hb : ¬ zdo s = 0 := zwo (by omega) (fun j hj => hz.2.2 j (by omega))
     exact yck hb (fun h => by have := h.1; omega)
   · (cbv; try simp only [syT, true_and, and_true])
     (subst hL; subst hQ; simp only [L2, L3, std] at *; try simp only [syS, reduceCtorEq, Int.reduceToNat, Int.reduceAdd, Int.reduceSub] at *)
     refine ⟨rfl, ?_, ?_⟩
     · cases s <;> rfl
     · show ((0 : Nat) : Int) <= z
       omega
   · cbv at hi
     (cbv; try simp only [syT, true_and, and_true])
     refine ⟨fun h4 => ⟨?_, ?_, ⟨i + 1, ?_⟩⟩, fun h4 => ⟨?_, ?_, fun h5 => ?_, fun h5 => ?_⟩⟩
     · (subst hL; subst hQ; simp only [L2, L3, std] at *; try simp only [syS, reduceCtorEq, Int.reduceToNat, Int.reduceAdd, Int.reduceSub] at *)
       have hi : (i : Int) <= z := hi
       omega
     · (subst hL; subst hQ; simp only [L2, L3, std] at *; try simp only [syS, reduceCtorEq, Int.reduceToNat, Int.reduceAdd, Int.reduceSub] at *)
       decide
     · (cbv; try simp only [syT, true_and, and_true])
       (subst hL; subst hQ; simp only [L2, L3, std] at *; try simp only [syS, reduceCtorEq, Int.reduceToNat, Int.reduceAdd, Int.reduceSub] at *)
       have hi : (i : Int) <= z := hi
       obtain ⟨d1, d2⟩ := ypp s i
       refine ⟨d1, d2, by omega, ?_, ?_⟩
       · show ((i + 1 : Nat) : Int) <= z
         omega
       · show ((z : Int) - ((i + 1 : Nat) : Int)).toNat + 1 <= ((z : Int) - (i : Int)).toNat
         omega
     · subst hL
       exact ⟨by show 0 <= dgS s i; unfold dgS; omega, by show dgS s i < _; unfold dgS; omega⟩
     · (subst hL; subst hQ; simp only [L2, L3, std] at *; try simp only [syS, reduceCtorEq, Int.reduceToNat, Int.reduceAdd, Int.reduceSub] at *)
       omega
     · (subst hL; subst hQ; simp only [L2, L3, std] at *; try simp only [syS, reduceCtorEq, Int.reduceToNat, Int.reduceAdd, Int.reduceSub] at *)
       have z1 := hz.1
       have z2 := hz.2.1
       have ez : ((z : Int) - 1 + 9223372036854775808) % 18446744073709551616 - 9223372036854775808 = ((z - 1 : Nat) : Int) := by omega
       rw [ez, Int.toNat_natCast] at h2
       have hi : (i : Int) <= z := hi
       have iz : i = z := by omega
       subst iz
       have R := ys6 (s := s) (k := i - 1) (by omega) (by omega) hz.2.2 (by unfold cb; omega)
       rw [show i - 1 + 1 = i by omega] at R
       exact yck (fun h => h5 (R.1.2 h)) (fun h => by
         have := h.2 (i - 1) (by omega)
         unfold cb at this
         omega)
     · (subst hL; subst hQ; simp only [L2, L3, std] at *; try simp only [syS, reduceCtorEq, Int.reduceToNat, Int.reduceAdd, Int.reduceSub] at *)
       have z1 := hz.1
       have z2 := hz.2.1
       have ez : ((z : Int) - 1 + 9223372036854775808) % 18446744073709551616 - 9223372036854775808 = ((z - 1 : Nat) : Int) := by omega
       rw [ez, Int.toNat_natCast] at h2
       have hi : (i : Int) <= z := hi
       have iz : i = z := by omega
       subst iz
       have R := ys6 (s := s) (k := i - 1) (by omega) (by omega) hz.2.2 (by unfold cb; omega)
       rw [show i - 1 + 1 = i by omega] at R
       have h0 := R.1.1 h5
       obtain ⟨e1, e2⟩ := R.2 h0
       unfold rlN rlK rlE
       rw [if_pos h0, if_pos h0, if_pos h0, e1, e2]
       exact ⟨rfl, by omega, rfl⟩
   · (subst hL; subst hQ; simp only [L2, L3, std] at *; try simp only [syS, reduceCtorEq, Int.reduceToNat, Int.reduceAdd, Int.reduceSub] at *)
     have z1 := hz.1
     have z2 := hz.2.1
     refine ⟨fun h => ?_, fun h => ?_⟩
     · exact yck (zwo (by omega) (fun j hj => hz.2.2 j (by omega))) (fun h => by have := h.1; omega)
     · have hb : ¬ zdo s = 0 := yod (by omega) (fun j hj => hz.2.2 j (by omega))
       unfold rlN rlK rlE
       rw [if_neg hb, if_neg hb, if_neg hb, if_pos ⟨by omega, fun j hj => hz.2.2 j (by omega)⟩]
       exact ⟨rfl, rfl, rfl⟩
end Sy
end Go.Proofs.YtcgikjfloloekaaGreatDoor
namespace Go.Proofs.YtcgikjfloloekaaGreatDoor
namespace Sy
open Go Go.RowKit
set_option maxRecDepth 100000
set_option linter.unusedSimpArgs false
set_option linter.unusedVariables false
theorem zi0 {s : List UInt8} (h : ¬ s = []) : (za3 s).length < s.length := by
 have : 0 < s.length := List.length_pos_iff.2 h
 unfold za3
 rw [List.length_drop, List.length_drop]
 omega
mutual
noncomputable def zcg (d : Nat) (s : List UInt8) : NR :=
 if hs : s = [] then zc4 3
 else if cb s 0 < 1 \/ 3 < cb s 0 then zc4 10
 else if ¬ rlE (s.drop 1) = 0 then zc4 (rlE (s.drop 1))
 else if cb s 0 = 1 then ⟨.mk 1 (zb8 (s.drop 1)) [] [], za3 s, 0⟩
 else if cb s 0 = 2 then
   if ((za3 s).length : Int) < zb8 (s.drop 1) then zc4 3
   else ⟨.mk 2 0 ((za3 s).take (zb8 (s.drop 1)).toNat) [], (za3 s).drop (zb8 (s.drop 1)).toNat, 0⟩
 else if d = 6 then zc4 8
 else zef d (zb8 (s.drop 1)) [] (za3 s)
termination_by 2 * s.length
decreasing_by
 have := zi0 hs
 omega
noncomputable def zef (d : Nat) (m : Int) (acc : List CV) (s : List UInt8) : NR :=
 if m <= 0 then ⟨.mk 3 0 [] acc, s, 0⟩
 else if ¬ (zcg (d + 1) s).e = 0 then zc4 (zcg (d + 1) s).e
 else if h : (zcg (d + 1) s).r.length < s.length then zef d (m - 1) (acc ++ [(zcg (d + 1) s).v]) (zcg (d + 1) s).r
 else zc4 8
termination_by 2 * s.length + 1
decreasing_by
 all_goals omega
end
theorem zkj {s : List UInt8} : rlE s = 0 ↔ zdo s = 0 := by
 unfold rlE
 by_cases h : zdo s = 0
 · rw [if_pos h]; exact ⟨fun _ => h, fun _ => rfl⟩
 · rw [if_neg h]
   refine ⟨fun h2 => ?_, fun h2 => absurd h2 h⟩
   split at h2 <;> exact absurd h2 (by decide)
section
variable {d : Nat} {s : List UInt8}
theorem yvj (h1 : s = []) : zcg d s = zc4 3 := by rw [zcg, dif_pos h1]
variable (h1 : ¬ s = [])
include h1
theorem ys1 (h2 : cb s 0 < 1 \/ 3 < cb s 0) : zcg d s = zc4 10 := by rw [zcg, dif_neg h1, if_pos h2]
variable (h2 : ¬ (cb s 0 < 1 \/ 3 < cb s 0))
include h2
theorem yvi (h3 : ¬ zdo (s.drop 1) = 0) : zcg d s = zc4 (rlE (s.drop 1)) /\ ¬ rlE (s.drop 1) = 0 := by
 have h3' : ¬ rlE (s.drop 1) = 0 := fun h => h3 (zkj.1 h)
 exact ⟨by rw [zcg, dif_neg h1, if_neg h2, if_pos h3'], h3'⟩
variable (h3 : zdo (s.drop 1) = 0)
include h3
theorem yvh (h4 : cb s 0 = 1) : zcg d s = ⟨.mk 1 (zb8 (s.drop 1)) [] [], za3 s, 0⟩ := by rw [zcg, dif_neg h1, if_neg h2, if_neg (fun h => h (zkj.2 h3)), if_pos h4]
variable (h4 : ¬ cb s 0 = 1)
include h4
theorem yvg (h5 : cb s 0 = 2) (h6 : ((za3 s).length : Int) < zb8 (s.drop 1)) : zcg d s = zc4 3 := by rw [zcg, dif_neg h1, if_neg h2, if_neg (fun h => h (zkj.2 h3)), if_neg h4, if_pos h5, if_pos h6]
theorem yvf (h5 : cb s 0 = 2) (h6 : ¬ ((za3 s).length : Int) < zb8 (s.drop 1)) : zcg d s = ⟨.mk 2 0 ((za3 s).take (zb8 (s.drop 1)).toNat) [], (za3 s).drop (zb8 (s.drop 1)).toNat, 0⟩ := by rw [zcg, dif_neg h1, if_neg h2, if_neg (fun h => h (zkj.2 h3)), if_neg h4, if_pos h5, if_neg h6]
variable (h5 : ¬ cb s 0 = 2)
include h5
theorem yve (h6 : d = 6) : zcg d s = zc4 8 := by rw [zcg, dif_neg h1, if_neg h2, if_neg (fun h => h (zkj.2 h3)), if_neg h4, if_neg h5, if_pos h6]
theorem yvd (h6 : ¬ d = 6) : zcg d s = zef d (zb8 (s.drop 1)) [] (za3 s) := by rw [zcg, dif_neg h1, if_neg h2, if_neg (fun h => h (zkj.2 h3)), if_neg h4, if_neg h5, if_neg h6]
end
theorem yhm {d : Nat} {m : Int} {acc : List CV} {s : List UInt8} (h : m <= 0) : zef d m acc s = ⟨.mk 3 0 [] acc, s, 0⟩ := by rw [zef, if_pos h]
theorem yhl {d : Nat} {m : Int} {acc : List CV} {s : List UInt8} (h : ¬ m <= 0) (h1 : ¬ (zcg (d + 1) s).e = 0) : zef d m acc s = zc4 (zcg (d + 1) s).e := by rw [zef, if_neg h, if_pos h1]
theorem zhd (s : List UInt8) : (∀ d, (zcg d s).e = 0 -> (zcg d s).r.length < s.length) /\ (∀ d m acc, (zef d m acc s).e = 0 -> (zef d m acc s).r.length <= s.length) := by
 induction hn : s.length using Nat.strongRecOn generalizing s with
 | _ n ih =>
   subst hn
   constructor
   · intro d
     by_cases h1 : s = []
     · rw [yvj h1]; intro h; exact absurd h (by decide)
     by_cases h2 : cb s 0 < 1 \/ 3 < cb s 0
     · rw [ys1 h1 h2]; intro h; exact absurd h (by decide)
     by_cases h3 : zdo (s.drop 1) = 0
     · have hr := zi0 h1
       by_cases h4 : cb s 0 = 1
       · rw [yvh h1 h2 h3 h4]; intro _; exact hr
       by_cases h5 : cb s 0 = 2
       · by_cases h6 : ((za3 s).length : Int) < zb8 (s.drop 1)
         · rw [yvg h1 h2 h3 h4 h5 h6]; intro h; exact absurd h (by decide)
         · rw [yvf h1 h2 h3 h4 h5 h6]; intro _
           show ((za3 s).drop _).length < _
           rw [List.length_drop]; omega
       by_cases h6 : d = 6
       · rw [yve h1 h2 h3 h4 h5 h6]; intro h; exact absurd h (by decide)
       · rw [yvd h1 h2 h3 h4 h5 h6]; intro h
         have := (ih _ hr _ rfl).2 _ _ _ h
         omega
     · obtain ⟨e, h⟩ := yvi (d := d) h1 h2 h3
       rw [e]; intro h'; exact absurd h' h
   · intro d m acc
     by_cases h : m <= 0
     · rw [yhm h]; intro _; exact Nat.le_refl _
     by_cases h1 : (zcg (d + 1) s).e = 0
     · rw [zef, if_neg h, if_neg (fun x => x h1)]
       by_cases h2 : (zcg (d + 1) s).r.length < s.length
       · rw [dif_pos h2]; intro h3
         have := (ih _ h2 _ rfl).2 _ _ _ h3
         omega
       · rw [dif_neg h2]; intro h; exact absurd h (by decide)
     · rw [yhl h h1]; intro h2; exact absurd h2 h1
theorem yn2 (s : List UInt8) : (∀ d, (zcg d s).e = 0 -> (zcg d s).r <:+ s) /\ (∀ d m acc, (zef d m acc s).e = 0 -> (zef d m acc s).r <:+ s) := by
 induction hn : s.length using Nat.strongRecOn generalizing s with
 | _ n ih =>
   subst hn
   have rest : za3 s <:+ s := (List.drop_suffix _ _).trans (List.drop_suffix _ _)
   have hv : ∀ d, (zcg d s).e = 0 -> (zcg d s).r <:+ s := by
     intro d
     by_cases h1 : s = []
     · rw [yvj h1]; intro h; exact absurd h (by decide)
     by_cases h2 : cb s 0 < 1 \/ 3 < cb s 0
     · rw [ys1 h1 h2]; intro h; exact absurd h (by decide)
     by_cases h3 : zdo (s.drop 1) = 0
     · have hr := zi0 h1
       by_cases h4 : cb s 0 = 1
       · rw [yvh h1 h2 h3 h4]; intro _; exact rest
       by_cases h5 : cb s 0 = 2
       · by_cases h6 : ((za3 s).length : Int) < zb8 (s.drop 1)
         · rw [yvg h1 h2 h3 h4 h5 h6]; intro h; exact absurd h (by decide)
         · rw [yvf h1 h2 h3 h4 h5 h6]; intro _
           exact (List.drop_suffix _ _).trans rest
       by_cases h6 : d = 6
       · rw [yve h1 h2 h3 h4 h5 h6]; intro h; exact absurd h (by decide)
       · rw [yvd h1 h2 h3 h4 h5 h6]; intro h
         exact ((ih _ hr _ rfl).2 _ _ _ h).trans rest
     · obtain ⟨e, h⟩ := yvi (d := d) h1 h2 h3
       rw [e]; intro h'; exact absurd h' h
   refine ⟨hv, ?_⟩
   · intro d m acc
     by_cases h : m <= 0
     · rw [yhm h]; intro _; exact List.suffix_refl _
     by_cases h1 : (zcg (d + 1) s).e = 0
     · have h2 := (zhd s).1 _ h1
       rw [zef, if_neg h, if_neg (fun x => x h1), dif_pos h2]
       intro h3
       exact ((ih _ h2 _ rfl).2 _ _ _ h3).trans (hv _ h1)
     · rw [yhl h h1]; intro h2; exact absurd h2 h1
theorem ys5 {d : Nat} {m : Int} {acc : List CV} {s : List UInt8} (h : ¬ m <= 0) (h1 : (zcg (d + 1) s).e = 0) : zef d m acc s = zef d (m - 1) (acc ++ [(zcg (d + 1) s).v]) (zcg (d + 1) s).r := by
 rw [zef, if_neg h, if_neg (fun x => x h1), dif_pos ((zhd s).1 _ h1)]
def SimV (s : List UInt8) : Prop := ∀ (st : List Lv) (f : Nat), s.length < f ->
 ((zcg st.length s).e = 0 -> ∃ f', (zcg st.length s).r.length < f' /\ zau f st s = zc6 (zau f') st (zcg st.length s).v (zcg st.length s).r) /\
 (¬ (zcg st.length s).e = 0 -> ∃ e, e ≠ 0 /\ zau f st s = zc4 e)
def SimL (s : List UInt8) : Prop := ∀ (st : List Lv) (m : Int) (acc : List CV) (f : Nat), 0 <= m -> s.length < f ->
 ((zef st.length m acc s).e = 0 -> ∃ f', (zef st.length m acc s).r.length < f' /\ zci (zau f) (⟨m, acc⟩ :: st) s = zc6 (zau f') st (zef st.length m acc s).v (zef st.length m acc s).r) /\
 (¬ (zef st.length m acc s).e = 0 -> ∃ e, e ≠ 0 /\ zci (zau f) (⟨m, acc⟩ :: st) s = zc4 e)
theorem yn3 (s : List UInt8) : SimV s /\ SimL s := by
 induction hn : s.length using Nat.strongRecOn generalizing s with
 | _ n ih =>
   subst hn
   have hv : SimV s := by
     intro st f hf
     obtain ⟨g, rfl⟩ : ∃ g, f = g + 1 := ⟨f - 1, by omega⟩
     have bad : ∀ e : Int, e ≠ 0 -> zcg st.length s = zc4 e -> ∀ e', e' ≠ 0 -> zau (g + 1) st s = zc4 e' ->
         ((zcg st.length s).e = 0 -> ∃ f', (zcg st.length s).r.length < f' /\ zau (g + 1) st s = zc6 (zau f') st (zcg st.length s).v (zcg st.length s).r) /\
         (¬ (zcg st.length s).e = 0 -> ∃ e, e ≠ 0 /\ zau (g + 1) st s = zc4 e) := by
       intro e he h e' he' h'
       rw [h]
       exact ⟨fun h => absurd h he, fun _ => ⟨e', he', h'⟩⟩
     by_cases h1 : s = []
     · exact bad 3 (by decide) (yvj h1) 3 (by decide) (by rw [zau, if_pos h1])
     by_cases h2 : cb s 0 < 1 \/ 3 < cb s 0
     · exact bad 10 (by decide) (ys1 h1 h2) 10 (by decide) (by rw [zau, if_neg h1, if_pos h2])
     by_cases h3 : zdo (s.drop 1) = 0
     · have hr := zi0 h1
       have h3' : ¬ zdo (s.drop 1) ≠ 0 := fun h => h h3
       by_cases h4 : cb s 0 = 1
       · rw [yvh h1 h2 h3 h4]
         exact ⟨fun _ => ⟨g, by show (za3 s).length < g; omega, by rw [zau, if_neg h1, if_neg h2, if_neg h3', if_pos h4]⟩, fun h => absurd rfl h⟩
       by_cases h5 : cb s 0 = 2
       · by_cases h6 : ((za3 s).length : Int) < zb8 (s.drop 1)
         · exact bad 3 (by decide) (yvg h1 h2 h3 h4 h5 h6) 3 (by decide) (by rw [zau, if_neg h1, if_neg h2, if_neg h3', if_neg h4, if_pos h5, if_pos h6])
         · rw [yvf h1 h2 h3 h4 h5 h6]
           exact ⟨fun _ => ⟨g, by show ((za3 s).drop _).length < g; rw [List.length_drop]; omega, by rw [zau, if_neg h1, if_neg h2, if_neg h3', if_neg h4, if_pos h5, if_neg h6]⟩, fun h => absurd rfl h⟩
       by_cases h6 : st.length = 6
       · exact bad 8 (by decide) (yve h1 h2 h3 h4 h5 h6) 8 (by decide) (by rw [zau, if_neg h1, if_neg h2, if_neg h3', if_neg h4, if_neg h5, if_pos h6])
       · rw [yvd h1 h2 h3 h4 h5 h6, zau, if_neg h1, if_neg h2, if_neg h3', if_neg h4, if_neg h5, if_neg h6]
         exact (ih _ hr _ rfl).2 st _ [] g (ziq h3).2.2.1 (by omega)
     · obtain ⟨e, h⟩ := yvi (d := st.length) h1 h2 h3
       exact bad _ h e _ h3 (by rw [zau, if_neg h1, if_neg h2, if_pos h3])
   refine ⟨hv, ?_⟩
   intro st m acc f hm hf
   by_cases h : m <= 0
   · have : m = 0 := by omega
     subst this
     rw [yhm h]
     exact ⟨fun _ => ⟨f, hf, by rw [zci, if_pos (show (0 : Int) = 0 from rfl)]⟩, fun h => absurd rfl h⟩
   have hs : zci (zau f) (⟨m, acc⟩ :: st) s = zau f (⟨m, acc⟩ :: st) s := by rw [zci, if_neg (show ¬ m = 0 by omega)]
   obtain ⟨v1, v2⟩ := hv (⟨m, acc⟩ :: st) f hf
   rw [List.length_cons] at v1 v2
   by_cases h1 : (zcg (st.length + 1) s).e = 0
   · rw [ys5 h h1, hs]
     obtain ⟨f', h2, h3⟩ := v1 h1
     have hlt := (zhd s).1 _ h1
     have := (ih _ hlt _ rfl).2 st (m - 1) (acc ++ [(zcg (st.length + 1) s).v]) f' (by omega) h2
     have e : zau f (⟨m, acc⟩ :: st) s = zci (zau f') (⟨m - 1, acc ++ [(zcg (st.length + 1) s).v]⟩ :: st) (zcg (st.length + 1) s).r := by
       rw [h3, zc6, zci]
     rw [e]
     exact this
   · rw [yhl h h1, hs]
     obtain ⟨e, he, h3⟩ := v2 h1
     exact ⟨fun h => absurd h h1, fun _ => ⟨e, he, h3⟩⟩
theorem yp6 {s : List UInt8} (hl : s.length <= 8192) : (znv s = 0 ↔ (zcg 0 s).e = 0 /\ (zcg 0 s).r = []) /\ (znv s = 0 -> zqc s = (zcg 0 s).v) := by
 have ht : zbk s = zau (s.length + 1) [] s := by unfold zbk; rw [if_neg (by omega)]
 obtain ⟨v1, v2⟩ := (yn3 s).1 [] (s.length + 1) (by omega)
 simp only [List.length_nil] at v1 v2
 by_cases h : (zcg 0 s).e = 0
 · obtain ⟨f', _, h2⟩ := v1 h
   have e : zbk s = ⟨(zcg 0 s).v, (zcg 0 s).r, 0⟩ := by rw [ht, h2, zc6]
   have iff : znv s = 0 ↔ (zcg 0 s).r = [] := by
     unfold znv
     rw [e]
     by_cases hr : (zcg 0 s).r = []
     · rw [if_neg (fun x => x.2 hr)]; exact ⟨fun _ => hr, fun _ => rfl⟩
     · rw [if_pos ⟨rfl, hr⟩]; exact ⟨fun x => absurd x (by decide), fun x => absurd x hr⟩
   refine ⟨⟨fun x => ⟨h, iff.1 x⟩, fun x => iff.2 x.2⟩, fun x => ?_⟩
   unfold zqc
   rw [if_pos x, e]
 · obtain ⟨e, he, h2⟩ := v2 h
   have e1 : znv s = e := by
     unfold znv
     rw [ht, h2, if_neg (fun x => he x.1)]; rfl
   refine ⟨⟨fun x => absurd (e1.symm.trans x) he, fun x => absurd x.1 h⟩, fun x => absurd (e1.symm.trans x) he⟩
end Sy
end Go.Proofs.YtcgikjfloloekaaGreatDoor
namespace Go.Proofs.YtcgikjfloloekaaGreatDoor
namespace Sy
open Go Go.RowKit
set_option maxRecDepth 100000
set_option linter.unusedSimpArgs false
set_option linter.unusedVariables false
noncomputable def zpb (s : List UInt8) (a d : Int) : NR := zcg d.toNat (s.drop a.toNat)
noncomputable def zlk (s : List UInt8) (a d : Int) : CV := if (zpb s a d).e = 0 then (zpb s a d).v else .mk 0 0 [] []
noncomputable def yah (s : List UInt8) (a d : Int) : Int := if (zpb s a d).e = 0 then (s.length : Int) - ((zpb s a d).r.length : Int) else 0
noncomputable def yag (s : List UInt8) (a d : Int) : Int := (zpb s a d).e
def ztf (N : Nat) (s : List UInt8) (a d : Int) : Prop := 0 <= a /\ a <= (s.length : Int) /\ (s.length : Int) - a < N /\ 0 <= d /\ d <= 6 /\ s.length <= 900000
noncomputable def yhj (N : Nat) (L : za9) : zbn := (77, fun xs => match xs with
 | [.str s, .int .i64 a, .int .i64 d] => some (L (L3 L (ztf N) s a) d, .tup [cvA L (L3 L zlk s a d), .int .i64 (L3 L yah s a d), .int .i64 (L3 L yag s a d)])
 | _ => none)
theorem zik {s : List UInt8} {a d e : Int} (he : ¬ e = 0) (h : zcg d.toNat (s.drop a.toNat) = zc4 e) : fits1 (cvA std (zlk s a d)) (.agg [.int .i64 0, .int .u64 0, .str [], .nils]) /\ 0 = yah s a d /\ e = yag s a d := by
 have e1 : (zpb s a d).e = e := by rw [zpb, h]; rfl
 have e2 : ¬ (zpb s a d).e = 0 := by rw [e1]; exact he
 refine ⟨?_, (if_neg e2).symm, e1.symm⟩
 rw [zlk, if_neg e2]
 show fits1 (.agg [.int .i64 0, .int .u64 0, .str [], .lst 4 0 (zer (.mk 0 0 [] []))]) _
 simp [zb7, zbh, zeq, zbi]
theorem yce {s : List UInt8} {a d : Int} {k n : Int} {t r : List UInt8} (h : zcg d.toNat (s.drop a.toNat) = ⟨.mk k n t [], r, 0⟩) : fits1 (cvA std (zlk s a d)) (.agg [.int .i64 k, .int .u64 n, .str t, .nils]) /\ (s.length : Int) - (r.length : Int) = yah s a d /\ 0 = yag s a d := by
 have e1 : zpb s a d = ⟨.mk k n t [], r, 0⟩ := h
 have e2 : (zpb s a d).e = 0 := by rw [e1]
 refine ⟨?_, by rw [yah, if_pos e2, e1], by rw [yag, e1]⟩
 rw [zlk, if_pos e2, e1]
 show fits1 (.agg [.int .i64 k, .int .u64 n, .str t, .lst 4 0 (zer (.mk k n t []))]) _
 simp [zb7, zbh, zeq, zbi]
theorem zja {N : Nat} {s : List UInt8} {a d : Int} (h : ztf N s a d) (ha : a < (s.length : Int)) :
   ¬ s.drop a.toNat = [] /\ ((s.getD a.toNat 0).toNat + 9223372036854775808 : Int) % 18446744073709551616 - 9223372036854775808 = (cb (s.drop a.toNat) 0 : Int) /\
   (a + 1 + 9223372036854775808) % 18446744073709551616 - 9223372036854775808 = a + 1 /\
   s.drop ((a + 1 + 9223372036854775808) % 18446744073709551616 - 9223372036854775808).toNat = (s.drop a.toNat).drop 1 := by
 obtain ⟨o1, o2, o3, o4, o5, o6⟩ := h
 have e : (a + 1 + 9223372036854775808) % 18446744073709551616 - 9223372036854775808 = a + 1 := by omega
 have c : cb (s.drop a.toNat) 0 = (s.getD a.toNat 0).toNat := by
   unfold cb
   rw [List.getD_eq_getElem?_getD, List.getD_eq_getElem?_getD, List.getElem?_drop]; rfl
 have hb := (s.getD a.toNat 0).toNat_lt
 refine ⟨fun h => ?_, by rw [c]; omega, e, ?_⟩
 · have := congrArg List.length h
   rw [List.length_drop, List.length_nil] at this
   omega
 · rw [e, List.drop_drop]
   congr 1
   omega
theorem zhw {s : List UInt8} {a : Int} (h0 : 0 <= a) (hl : s.length <= 900000) (hn : ¬ s.drop a.toNat = []) (h : zdo ((s.drop a.toNat).drop 1) = 0) :
   a + 1 + zei ((s.drop a.toNat).drop 1) = (s.length : Int) - ((za3 (s.drop a.toNat)).length : Int) /\ s.drop (a + 1 + zei ((s.drop a.toNat).drop 1)).toNat = za3 (s.drop a.toNat) /\
   rlK ((s.drop a.toNat).drop 1) = zei ((s.drop a.toNat).drop 1) /\ rlN ((s.drop a.toNat).drop 1) = zb8 ((s.drop a.toNat).drop 1) /\ 0 <= zb8 ((s.drop a.toNat).drop 1) /\ zb8 ((s.drop a.toNat).drop 1) < 18446744073709551616 /\
   (za3 (s.drop a.toNat)).length + 2 <= (s.drop a.toNat).length /\ a + 1 + zei ((s.drop a.toNat).drop 1) <= (s.length : Int) /\ 0 <= zei ((s.drop a.toNat).drop 1) := by
 have y := ziq h
 have rl := zgo hn h
 have hk := ye3 ((s.drop a.toNat).drop 1)
 have hd : (za3 (s.drop a.toNat)) = s.drop (a + 1 + zei ((s.drop a.toNat).drop 1)).toNat := by
   unfold za3
   rw [List.drop_drop, List.drop_drop]
   congr 1
   omega
 have l1 : (s.drop a.toNat).length = s.length - a.toNat := List.length_drop
 have l2 : 0 < (s.drop a.toNat).length := List.length_pos_iff.2 hn
 have l3 : (s.drop (a + 1 + zei ((s.drop a.toNat).drop 1)).toNat).length = s.length - (a + 1 + zei ((s.drop a.toNat).drop 1)).toNat := List.length_drop
 rw [<- hd] at l3
 refine ⟨by omega, hd.symm, if_pos h, if_pos h, y.2.2.1, y.2.2.2, rl.1, by omega, by omega⟩
structure RX where
 i : Nat
 l : List CV
 r : List UInt8
noncomputable def yhf (s : List UInt8) (a d : Int) (n : Int) (x : RX) : Prop :=
 x.l.length = x.i /\ (x.i : Int) <= n /\ 0 <= n /\ n < 18446744073709551616 /\ x.r.length + x.i + 2 <= (s.drop a.toNat).length /\ x.r <:+ s /\ zpb s a d = zef d.toNat (n - x.i) x.l x.r
def yc0 (s : List UInt8) (x : RX) : Int := (s.length : Int) - (x.r.length : Int)
noncomputable def rxA (L : za9) (s : List UInt8) (a d : Int) : Nat -> St -> Option Ann := fun id st => match id with
 | 0 => zgj st 10 fun n => some ⟨RX, fun x => [(13, .int .u64 (L zbu (L RX.i x))), (1, .int .i64 (L2 L yc0 s x)), (9, .ref 9 0)],
     fun x => [(9, .box 124 [.int .i64 3, .int .u64 0, .str [], .sl 900 4 0 (L RX.i x)]), (900, .row 124 4 (L RX.i x) (fun q j => cv1 L (L2 L zbj (L RX.l x) q) j))], [0, 2, 6, 10], [6],
     fun x => L2 L (L3 L yhf s a d) n x, fun x => L (fun x : RX => x.r.length) x⟩
 | _ => none
theorem zte {N : Nat} {s : List UInt8} {a d n : Int} {x : RX} (hp : ztf (N + 1) s a d) (hd : ¬ d = 6) (hx : yhf s a d n x) (hi : (x.i : Int) < n) :
   ztf N s (yc0 s x) ((d + 1 + 9223372036854775808) % 18446744073709551616 - 9223372036854775808) /\
   zpb s (yc0 s x) ((d + 1 + 9223372036854775808) % 18446744073709551616 - 9223372036854775808) = zcg (d.toNat + 1) x.r /\
   (¬ (zcg (d.toNat + 1) x.r).e = 0 -> zcg d.toNat (s.drop a.toNat) = zc4 (zcg (d.toNat + 1) x.r).e) /\
   ((zcg (d.toNat + 1) x.r).e = 0 -> yhf s a d n ⟨x.i + 1, x.l ++ [(zcg (d.toNat + 1) x.r).v], (zcg (d.toNat + 1) x.r).r⟩ /\ (zcg (d.toNat + 1) x.r).r.length < x.r.length /\
     zlk s (yc0 s x) ((d + 1 + 9223372036854775808) % 18446744073709551616 - 9223372036854775808) = (zcg (d.toNat + 1) x.r).v /\
     yah s (yc0 s x) ((d + 1 + 9223372036854775808) % 18446744073709551616 - 9223372036854775808) = (s.length : Int) - ((zcg (d.toNat + 1) x.r).r.length : Int)) := by
 obtain ⟨o1, o2, o3, o4, o5, o6⟩ := hp
 obtain ⟨i1, i2, i3, i4, i5, i6, i7⟩ := hx
 have hl : (s.drop a.toNat).length = s.length - a.toNat := List.length_drop
 have hs := i6.length_le
 have e : (d + 1 + 9223372036854775808) % 18446744073709551616 - 9223372036854775808 = d + 1 := by omega
 have hR : zpb s (yc0 s x) (d + 1) = zcg (d.toNat + 1) x.r := by
   unfold zpb yc0
   rw [show (d + 1).toNat = d.toNat + 1 by omega, show ((s.length : Int) - (x.r.length : Int)).toNat = s.length - x.r.length by omega, <- List.suffix_iff_eq_drop.1 i6]
 have hm : ¬ n - (x.i : Int) <= 0 := by omega
 rw [e]
 refine ⟨⟨by unfold yc0; omega, by unfold yc0; omega, by unfold yc0; omega, by omega, by omega, o6⟩, hR, fun h => ?_, fun h => ⟨⟨?_, ?_, i3, i4, ?_, ?_, ?_⟩, (zhd x.r).1 _ h, ?_, ?_⟩⟩
 · exact i7.trans (yhl hm h)
 · show (x.l ++ [_]).length = x.i + 1
   rw [List.length_append, i1]; rfl
 · show ((x.i + 1 : Nat) : Int) <= n
   omega
 · show (zcg (d.toNat + 1) x.r).r.length + (x.i + 1) + 2 <= _
   have := (zhd x.r).1 _ h
   omega
 · exact ((yn2 x.r).1 _ h).trans i6
 · show zpb s a d = zef d.toNat (n - ((x.i + 1 : Nat) : Int)) _ _
   rw [i7, ys5 hm h, show n - ((x.i + 1 : Nat) : Int) = n - (x.i : Int) - 1 by omega]
 · rw [zlk, hR, if_pos h]
 · rw [yah, hR, if_pos h]
theorem yk1 {l : List CV} {v : CV} {i q j : Nat} (hi : l.length = i) (hq : q < i + 1) (hj : j < 4) :
   zid std (zc9 q i) (cv1 std (zbj l q) j) (zby .dead [.int .i64 v.kd, .int .u64 v.nn, .str v.tx, .lst 4 (zcx v) (zer v)] ((q - i) * 4 + j)) = cv1 std (zbj (l ++ [v]) q) j := by
 subst hi
 by_cases h : q < l.length
 · rw [zi1 h, zel h, show q - l.length = 0 by omega, Nat.zero_mul, Nat.zero_add]
   match j, hj with
   | 0, _ => rfl
   | 1, _ => rfl
   | 2, _ => rfl
   | 3, _ => rfl
 · have : q = l.length := by omega
   subst this
   rw [zg4, zf7 (by omega), show l.length - l.length = 0 by omega, Nat.zero_mul, Nat.zero_add]
   match j, hj with
   | 0, _ => rfl
   | 1, _ => rfl
   | 2, _ => rfl
   | 3, _ => rfl
theorem ys0 {s : List UInt8} {a d n : Int} {x : RX} (hx : yhf s a d n x) (hi : n <= (x.i : Int)) :
   fits1 (cvA std (zlk s a d)) (.agg [.int .i64 3, .int .u64 0, .str [], .lst 4 x.i fun i => cv1 std (zbj x.l i)]) /\ yc0 s x = yah s a d /\ 0 = yag s a d := by
 obtain ⟨i1, i2, i3, i4, i5, i6, i7⟩ := hx
 have e1 : zpb s a d = ⟨.mk 3 0 [] x.l, x.r, 0⟩ := by rw [i7, yhm (by omega)]
 have e2 : (zpb s a d).e = 0 := by rw [e1]
 refine ⟨?_, by rw [yah, if_pos e2, e1]; rfl, by rw [yag, e1]⟩
 rw [zlk, if_pos e2, e1]
 show fits1 (.agg [.int .i64 3, .int .u64 0, .str [], .lst 4 x.l.length (zek x.l)]) _
 simp only [zb7, zbh, zdu, zbi, true_and, and_true]
 exact ⟨i1.symm, fun q j hq hj => by rw [zb4 _ _ _ hq]; exact zd6 _ j hj⟩
theorem yhk : ∀ N, zay Tryz.prog (yhj N std) := by
 intro N
 induction N with
 | zero =>
   intro xs p r h hp
   dsimp only [yhj] at h |-
   split at h <;> cases h
   try simp only [L2, L3, std] at hp |-
   rename_i s a d
   obtain ⟨h1, h2, h3, _⟩ : ztf 0 s a d := hp
   omega
 | succ N ih =>
   intro xs p r h hp
   dsimp only [yhj] at h |-
   split at h <;> cases h
   try simp only [L2, L3, std] at hp |-
   rename_i s a d
   refine za5 (T := tt) (S := fun L => zai [zti L, yhj N L]) (lo := fun L => rxA L s a d) (lb := noA) 5 (fn := Tryz.f77) rfl rfl (by kernel_rfl) (by kernel_rfl) rfl zaa (za1 ⟨zyb, ih, trivial⟩) (by kernel_rfl) ?_
   have hp' : ztf (N + 1) s a d := hp
   intro L P' Q' hL hP hQ
   (cbv; try simp only [syT, true_and, and_true])
   refine ⟨fun h1 => ?_, fun h1 => ⟨?_, fun h2 => ?_, fun h2 => ⟨fun h3 => ?_, fun h3 => ⟨?_, ?_, fun h4 => ?_, fun h4 => ⟨fun h5 => ?_, fun h5 => ⟨fun h6 => ⟨fun h7 => ?_, fun h7 => ⟨?_, ?_⟩⟩, fun h6 => ⟨fun h7 => ?_, fun h7 => ?_⟩⟩⟩⟩⟩⟩⟩
   · (subst hL; subst hQ; simp only [L2, L3, std] at *; try simp only [syS, reduceCtorEq, Int.reduceToNat, Int.reduceAdd, Int.reduceSub] at *)
     obtain ⟨o1, o2, o3, o4, o5, o6⟩ := hp'
     exact zik (by decide) (yvj (List.drop_eq_nil_of_le (by omega)))
   · (subst hL; subst hQ; simp only [L2, L3, std] at *; try simp only [syS, reduceCtorEq, Int.reduceToNat, Int.reduceAdd, Int.reduceSub] at *)
     obtain ⟨o1, o2, o3, o4, o5, o6⟩ := hp'
     omega
   · (subst hL; subst hQ; simp only [L2, L3, std] at *; try simp only [syS, reduceCtorEq, Int.reduceToNat, Int.reduceAdd, Int.reduceSub] at *)
     obtain ⟨f1, f2, f3, f4⟩ := zja hp' h1
     rw [f2] at h2
     exact zik (by decide) (ys1 f1 (by omega))
   · (subst hL; subst hQ; simp only [L2, L3, std] at *; try simp only [syS, reduceCtorEq, Int.reduceToNat, Int.reduceAdd, Int.reduceSub] at *)
     obtain ⟨f1, f2, f3, f4⟩ := zja hp' h1
     rw [f2] at h3
     exact zik (by decide) (ys1 f1 (by omega))
   · (subst hL; subst hQ; simp only [L2, L3, std] at *; try simp only [syS, reduceCtorEq, Int.reduceToNat, Int.reduceAdd, Int.reduceSub] at *)
     obtain ⟨o1, o2, o3, o4, o5, o6⟩ := hp'
     omega
   · (subst hL; subst hQ; simp only [L2, L3, std] at *; try simp only [syS, reduceCtorEq, Int.reduceToNat, Int.reduceAdd, Int.reduceSub] at *)
     obtain ⟨o1, o2, o3, o4, o5, o6⟩ := hp'
     unfold upto
     rw [List.length_drop]
     omega
   · (subst hL; subst hQ; simp only [L2, L3, std] at *; try simp only [syS, reduceCtorEq, Int.reduceToNat, Int.reduceAdd, Int.reduceSub] at *)
     obtain ⟨f1, f2, f3, f4⟩ := zja hp' h1
     rw [f2] at h2 h3
     rw [f4] at h4 |-
     have := yvi (d := d.toNat) f1 (by omega) (fun h => h4 (zkj.2 h))
     exact zik h4 this.1
   · (subst hL; subst hQ; simp only [L2, L3, std] at *; try simp only [syS, reduceCtorEq, Int.reduceToNat, Int.reduceAdd, Int.reduceSub] at *)
     obtain ⟨f1, f2, f3, f4⟩ := zja hp' h1
     obtain ⟨o1, o2, o3, o4, o5, o6⟩ := hp'
     rw [f2] at h2 h3 h5 |-
     rw [f4] at h4 |-
     rw [f3]
     have h4' := zkj.1 h4
     have hv := yvh (d := d.toNat) f1 (by omega) h4' (by omega)
     have g := zhw o1 o6 f1 h4'
     obtain ⟨g1, g2, g3, g4, g5, g6, g7, g8, g9⟩ := g
     obtain ⟨y1, y2, y3⟩ := yce hv
     rw [g3, g4, h5]
     exact ⟨y1, by rw [<- y2]; omega, y3⟩
   · (subst hL; subst hQ; simp only [L2, L3, std] at *; try simp only [syS, reduceCtorEq, Int.reduceToNat, Int.reduceAdd, Int.reduceSub] at *)
     obtain ⟨f1, f2, f3, f4⟩ := zja hp' h1
     obtain ⟨o1, o2, o3, o4, o5, o6⟩ := hp'
     have h4' : zdo ((s.drop a.toNat).drop 1) = 0 := zkj.1 (by rw [<- f4]; exact h4)
     obtain ⟨g1, g2, g3, g4, g5, g6, g7, g8, g9⟩ := zhw o1 o6 f1 h4'
     rw [f2] at h2 h3 h5 h6
     try rw [f4, f3] at h7
     try rw [g3, g4] at h7
     try rw [f4, f3]
     try rw [g3, g4]
     have w1 : (a + 1 + zei ((s.drop a.toNat).drop 1) + 9223372036854775808) % 18446744073709551616 - 9223372036854775808 = a + 1 + zei ((s.drop a.toNat).drop 1) := by omega
     try rw [w1] at h7
     have w2 : zb8 ((s.drop a.toNat).drop 1) <= ((za3 (s.drop a.toNat)).length : Int) -> (zb8 ((s.drop a.toNat).drop 1) + 9223372036854775808) % 18446744073709551616 - 9223372036854775808 = zb8 ((s.drop a.toNat).drop 1) := by omega
     exact zik (by decide) (yvg f1 (by omega) h4' (by omega) (by omega) (by omega))
   · (subst hL; subst hQ; simp only [L2, L3, std] at *; try simp only [syS, reduceCtorEq, Int.reduceToNat, Int.reduceAdd, Int.reduceSub] at *)
     obtain ⟨f1, f2, f3, f4⟩ := zja hp' h1
     obtain ⟨o1, o2, o3, o4, o5, o6⟩ := hp'
     have h4' : zdo ((s.drop a.toNat).drop 1) = 0 := zkj.1 (by rw [<- f4]; exact h4)
     obtain ⟨g1, g2, g3, g4, g5, g6, g7, g8, g9⟩ := zhw o1 o6 f1 h4'
     rw [f2] at h2 h3 h5 h6
     try rw [f4, f3] at h7
     try rw [g3, g4] at h7
     try rw [f4, f3]
     try rw [g3, g4]
     have w1 : (a + 1 + zei ((s.drop a.toNat).drop 1) + 9223372036854775808) % 18446744073709551616 - 9223372036854775808 = a + 1 + zei ((s.drop a.toNat).drop 1) := by omega
     try rw [w1] at h7
     have w2 : zb8 ((s.drop a.toNat).drop 1) <= ((za3 (s.drop a.toNat)).length : Int) -> (zb8 ((s.drop a.toNat).drop 1) + 9223372036854775808) % 18446744073709551616 - 9223372036854775808 = zb8 ((s.drop a.toNat).drop 1) := by omega
     have w3 : zb8 ((s.drop a.toNat).drop 1) <= ((za3 (s.drop a.toNat)).length : Int) := by omega
     rw [w1, w2 w3]
     omega
   · (subst hL; subst hQ; simp only [L2, L3, std] at *; try simp only [syS, reduceCtorEq, Int.reduceToNat, Int.reduceAdd, Int.reduceSub] at *)
     obtain ⟨f1, f2, f3, f4⟩ := zja hp' h1
     obtain ⟨o1, o2, o3, o4, o5, o6⟩ := hp'
     have h4' : zdo ((s.drop a.toNat).drop 1) = 0 := zkj.1 (by rw [<- f4]; exact h4)
     obtain ⟨g1, g2, g3, g4, g5, g6, g7, g8, g9⟩ := zhw o1 o6 f1 h4'
     rw [f2] at h2 h3 h5 h6
     try rw [f4, f3] at h7
     try rw [g3, g4] at h7
     try rw [f4, f3]
     try rw [g3, g4]
     have w1 : (a + 1 + zei ((s.drop a.toNat).drop 1) + 9223372036854775808) % 18446744073709551616 - 9223372036854775808 = a + 1 + zei ((s.drop a.toNat).drop 1) := by omega
     try rw [w1] at h7
     have w2 : zb8 ((s.drop a.toNat).drop 1) <= ((za3 (s.drop a.toNat)).length : Int) -> (zb8 ((s.drop a.toNat).drop 1) + 9223372036854775808) % 18446744073709551616 - 9223372036854775808 = zb8 ((s.drop a.toNat).drop 1) := by omega
     have w3 : zb8 ((s.drop a.toNat).drop 1) <= ((za3 (s.drop a.toNat)).length : Int) := by omega
     rw [w1, w2 w3]
     have hv := yvf (d := d.toNat) f1 (by omega) h4' (by omega) (by omega) (by omega)
     obtain ⟨y1, y2, y3⟩ := yce hv
     have w4 : (a + 1 + zei ((s.drop a.toNat).drop 1) + zb8 ((s.drop a.toNat).drop 1) + 9223372036854775808) % 18446744073709551616 - 9223372036854775808 = a + 1 + zei ((s.drop a.toNat).drop 1) + zb8 ((s.drop a.toNat).drop 1) := by omega
     rw [w4, f2, h6, List.drop_take, g2, show (a + 1 + zei ((s.drop a.toNat).drop 1) + zb8 ((s.drop a.toNat).drop 1)).toNat - (a + 1 + zei ((s.drop a.toNat).drop 1)).toNat = (zb8 ((s.drop a.toNat).drop 1)).toNat by omega]
     refine ⟨y1, ?_, y3⟩
     rw [<- y2, List.length_drop]
     omega
   · (subst hL; subst hQ; simp only [L2, L3, std] at *; try simp only [syS, reduceCtorEq, Int.reduceToNat, Int.reduceAdd, Int.reduceSub] at *)
     obtain ⟨f1, f2, f3, f4⟩ := zja hp' h1
     obtain ⟨o1, o2, o3, o4, o5, o6⟩ := hp'
     have h4' : zdo ((s.drop a.toNat).drop 1) = 0 := zkj.1 (by rw [<- f4]; exact h4)
     obtain ⟨g1, g2, g3, g4, g5, g6, g7, g8, g9⟩ := zhw o1 o6 f1 h4'
     rw [f2] at h2 h3 h5 h6
     try rw [f4, f3] at h7
     try rw [g3, g4] at h7
     try rw [f4, f3]
     try rw [g3, g4]
     have w1 : (a + 1 + zei ((s.drop a.toNat).drop 1) + 9223372036854775808) % 18446744073709551616 - 9223372036854775808 = a + 1 + zei ((s.drop a.toNat).drop 1) := by omega
     try rw [w1] at h7
     have w2 : zb8 ((s.drop a.toNat).drop 1) <= ((za3 (s.drop a.toNat)).length : Int) -> (zb8 ((s.drop a.toNat).drop 1) + 9223372036854775808) % 18446744073709551616 - 9223372036854775808 = zb8 ((s.drop a.toNat).drop 1) := by omega
     exact zik (by decide) (yve f1 (by omega) h4' (by omega) (by omega) (by omega))
   · obtain ⟨x0, hx0⟩ : ∃ x : RX, x = ⟨0, [], za3 (s.drop a.toNat)⟩ := ⟨_, rfl⟩
     refine ⟨⟨x0, ?_⟩, fun x hx => ?_⟩
     · (cbv; try simp only [syT, true_and, and_true])
       (subst hL; subst hQ; simp only [L2, L3, std] at *; try simp only [syS, reduceCtorEq, Int.reduceToNat, Int.reduceAdd, Int.reduceSub] at *)
       obtain ⟨f1, f2, f3, f4⟩ := zja hp' h1
       obtain ⟨o1, o2, o3, o4, o5, o6⟩ := hp'
       have h4' : zdo ((s.drop a.toNat).drop 1) = 0 := zkj.1 (by rw [<- f4]; exact h4)
       obtain ⟨g1, g2, g3, g4, g5, g6, g7, g8, g9⟩ := zhw o1 o6 f1 h4'
       rw [f2] at h2 h3 h5 h6
       try rw [f4, f3] at h7
       try rw [g3, g4] at h7
       try rw [f4, f3]
       try rw [g3, g4]
       have w1 : (a + 1 + zei ((s.drop a.toNat).drop 1) + 9223372036854775808) % 18446744073709551616 - 9223372036854775808 = a + 1 + zei ((s.drop a.toNat).drop 1) := by omega
       try rw [w1] at h7
       have w2 : zb8 ((s.drop a.toNat).drop 1) <= ((za3 (s.drop a.toNat)).length : Int) -> (zb8 ((s.drop a.toNat).drop 1) + 9223372036854775808) % 18446744073709551616 - 9223372036854775808 = zb8 ((s.drop a.toNat).drop 1) := by omega
       subst hx0
       have hv := yvd (d := d.toNat) f1 (by omega) h4' (by omega) (by omega) (by omega)
       refine ⟨rfl, rfl, ?_, ?_, rfl, ?_⟩
       · rw [f2]; omega
       · rw [w1]; exact g1
       · refine ⟨rfl, g5, g5, g6, by show (za3 _).length + 0 + 2 <= _; omega, ?_, ?_⟩
         · show za3 (s.drop a.toNat) <:+ s
           rw [<- g2]; exact List.drop_suffix _ _
         · show zpb s a d = zef d.toNat (zb8 ((s.drop a.toNat).drop 1) - ((0 : Nat) : Int)) [] (za3 (s.drop a.toNat))
           rw [show zb8 ((s.drop a.toNat).drop 1) - ((0 : Nat) : Int) = zb8 ((s.drop a.toNat).drop 1) by omega]
           exact hv
     · cbv at hx
       obtain ⟨nx, hnx⟩ : ∃ nx : RX, nx = ⟨x.i + 1, x.l ++ [(zcg (d.toNat + 1) x.r).v], (zcg (d.toNat + 1) x.r).r⟩ := ⟨_, rfl⟩
       (cbv; try simp only [syT, true_and, and_true])
       refine ⟨fun h8 => ⟨?_, fun h9 => ?_, fun h9 => ⟨?_, ⟨nx, ?_⟩⟩⟩, fun h8 => ?_⟩
       · (subst hL; subst hQ; simp only [L2, L3, std] at *; try simp only [syS, reduceCtorEq, Int.reduceToNat, Int.reduceAdd, Int.reduceSub] at *)
         exact (zte hp' h7 hx h8).1
       · (subst hL; subst hQ; simp only [L2, L3, std] at *; try simp only [syS, reduceCtorEq, Int.reduceToNat, Int.reduceAdd, Int.reduceSub] at *)
         obtain ⟨t1, t2, t3, t4⟩ := zte hp' h7 hx h8
         rw [yag, t2] at h9 |-
         exact zik h9 (t3 h9)
       · (subst hL; subst hQ; simp only [L2, L3, std] at *; try simp only [syS, reduceCtorEq, Int.reduceToNat, Int.reduceAdd, Int.reduceSub] at *)
         obtain ⟨o1, o2, o3, o4, o5, o6⟩ := hp'
         obtain ⟨i1, i2, i3, i4, i5, i6, i7⟩ := hx
         have hl : (s.drop a.toNat).length = s.length - a.toNat := List.length_drop
         omega
       · (cbv; try simp only [syT, true_and, and_true])
         (subst hL; subst hQ; simp only [L2, L3, std] at *; try simp only [syS, reduceCtorEq, Int.reduceToNat, Int.reduceAdd, Int.reduceSub] at *)
         obtain ⟨t1, t2, t3, t4⟩ := zte hp' h7 hx h8
         rw [yag, t2] at h9
         obtain ⟨t5, t6, t7, t8⟩ := t4 h9
         rw [t7, t8]
         subst hnx
         obtain ⟨i1, i2, i3, i4, i5, i6, i7⟩ := hx
         obtain ⟨o1, o2, o3, o4, o5, o6⟩ := hp'
         have hl : (s.drop a.toNat).length = s.length - a.toNat := List.length_drop
         refine ⟨⟨rfl, fun q j hq hj => yk1 i1 hq hj⟩, rfl, rfl, ?_, t5, t6⟩
         show ((x.i : Int) + 1) % 18446744073709551616 = ((x.i + 1 : Nat) : Int)
         omega
       · (subst hL; subst hQ; simp only [L2, L3, std] at *; try simp only [syS, reduceCtorEq, Int.reduceToNat, Int.reduceAdd, Int.reduceSub] at *)
         exact ys0 hx h8
theorem zv8 {P : Program} {f : FuncId} {args : Array Value} {w : World} {Q Q' : Ending -> World -> Prop} (h : zfp P f args w Q) (hq : ∀ e w, Q e w -> Q' e w) : zfp P f args w Q' := by
 unfold zfp at *
 split at h
 · exact Calls.mono h hq
 · exact hq _ _ h
 · exact h.elim
theorem yuz {P : Program} {f : FuncId} {xs : List AV} {r r' : AV} (e : ∀ (h : Array Obj) D v, R h D zav r v -> R h D zav r' v) (h : za7 P f xs r) : za7 P f xs r' := fun D w vs hD hx hg =>
 zv8 (h D w vs hD hx hg) fun _ _ ⟨v, D', h1, h2, h3, h4, h5⟩ => ⟨v, D', h1, h2, h3, h4, e _ _ _ h5⟩
theorem cvB_R {h : Array Obj} {D : Nat -> Prop} {μ : Mu} {c : CV} {v : Value} (r : R h D μ (cvA std c) v) : R h D μ (cvB std c) v := by
 obtain ⟨us, rfl, o1, s1, hr⟩ := R.inv_agg (cs := [.int .i64 c.kd, .int .u64 c.nn, .str c.tx, .lst 4 (zcx c) (zer c)]) r
 refine R.agg (cs := [.int .i64 c.kd, .int .u64 c.nn, .str c.tx, .lst 4 (zcx c) (fun i j => cv1 std (zbj c.ls i) j)]) _ (by rw [<- s1]; rfl) o1 fun i y v hy hv => ?_
 match i, hy with
 | 0, hy => cases hy; exact hr 0 _ v rfl hv
 | 1, hy => cases hy; exact hr 1 _ v rfl hv
 | 2, hy => cases hy; exact hr 2 _ v rfl hv
 | 3, hy =>
   cases hy
   exact zjt (hr 3 _ v rfl hv) fun i j hi hj => by rw [zd6 _ _ hj]; exact zb4 _ _ _ hi
 | i + 4, hy => simp at hy
theorem yrp {h : Array Obj} {D : Nat -> Prop} {μ : Mu} {x y a b : AV} {v : Value} (e : ∀ v, R h D μ x v -> R h D μ y v) (r : R h D μ (.tup [x, a, b]) v) : R h D μ (.tup [y, a, b]) v := by
 obtain ⟨us, rfl, hr⟩ := r.inv_tup
 have h2 := yvm e hr
 exact .tup _ _ h2.1 h2.2
noncomputable def ycf (L : za9) : zbn := (77, fun xs => match xs with
 | [.str s, .int .i64 a, .int .i64 d] => some (L (L3 L (ztf 1000000) s a) d, .tup [cvB L (L3 L zlk s a d), .int .i64 (L3 L yah s a d), .int .i64 (L3 L yag s a d)])
 | _ => none)
theorem ycg : zay Tryz.prog (ycf std) := by
 intro xs p r h hp
 dsimp only [ycf] at h |-
 split at h <;> cases h
 try simp only [L2, L3, std] at hp |-
 rename_i s a d
 exact yuz (fun h D v r => yrp (fun v => cvB_R) r) (yhk 1000000 _ _ _ rfl hp)
theorem zuz (g : Nat -> CV) {i q j : Nat} (hq : q < i + 1) (hj : j < 4) (hn : (g i).ls = []) :
   zid std (zc9 q i) (cv1 std (g q) j) (zby .dead [.int .i64 (g i).kd, .int .u64 (g i).nn, .str (g i).tx, .nils] ((q - i) * 4 + j)) = cv1 std (g q) j := by
 by_cases h : q < i
 · rw [zel h, show q - i = 0 by omega, Nat.zero_mul, Nat.zero_add]
   match j, hj with
   | 0, _ => rfl
   | 1, _ => rfl
   | 2, _ => rfl
   | 3, _ => rfl
 · have : q = i := by omega
   subst this
   rw [zf7 (by omega), show q - q = 0 by omega, Nat.zero_mul, Nat.zero_add]
   match j, hj with
   | 0, _ => rfl
   | 1, _ => rfl
   | 2, _ => rfl
   | 3, _ =>
     show AV.lst 4 0 (zer (g q)) = AV.lst 4 (g q).ls.length (zer (g q))
     rw [hn]; rfl
theorem yhu {l : List CV} {v : CV} {i : Nat} (hi : i = l.length) (hn : v.ls = []) :
   rdL (.lst 4 (i.add 1) fun q j => zid std (zc9 q i) (cv1 std (zbj l q) j) (zby .dead [.int .i64 v.kd, .int .u64 v.nn, .str v.tx, .nils] ((q - i) * 4 + j))) = l ++ [v] /\
   okL (.lst 4 (i.add 1) fun q j => zid std (zc9 q i) (cv1 std (zbj l q) j) (zby .dead [.int .i64 v.kd, .int .u64 v.nn, .str v.tx, .nils] ((q - i) * 4 + j))) := by
 subst hi
 refine zhy (by simp) fun q j hq hj => ?_
 have hq : q < l.length + 1 := hq
 by_cases h : q < l.length
 · rw [zi1 h, <- zd6 _ _ hj, zel h, show q - l.length = 0 by omega, Nat.zero_mul, Nat.zero_add]
   match j, hj with
   | 0, _ => rfl
   | 1, _ => rfl
   | 2, _ => rfl
   | 3, _ => rfl
 · have : q = l.length := by omega
   subst this
   rw [zg4, <- zd6 _ _ hj, zf7 (by omega), show l.length - l.length = 0 by omega, Nat.zero_mul, Nat.zero_add]
   match j, hj with
   | 0, _ => rfl
   | 1, _ => rfl
   | 2, _ => rfl
   | 3, _ =>
     have e : zbj l l.length = .mk 0 0 [] [] := by rw [zbj, List.getD_eq_getElem?_getD, List.getElem?_eq_none (Nat.le_refl _)]; rfl
     show AV.lst 4 0 (zer (zbj l l.length)) = AV.lst 4 v.ls.length (zek v.ls)
     rw [hn, e]; rfl
theorem zvy {e k : Int} {b : List UInt8} {l : List Int} (h : zns e b l) (x : Nat -> Nat -> AV) (n : Nat) (hr : rdL (.lst 4 n x) = zbg k b l) (ho : okL (.lst 4 n x)) :
   (okL (.lst 4 n x) /\ zj4 2000 (CV.mk 3 0 [] (rdL (.lst 4 n x))) /\ zp2 (mkV std 3 0 [] (.lst 4 n x))) /\
   (¬ zjf (mkV std 3 0 [] (.lst 4 n x)) = 0 -> [] = zgi k e b l) /\
   (zjf (mkV std 3 0 [] (.lst 4 n x)) = 0 -> yqd e (zje (mkV std 3 0 [] (.lst 4 n x))) /\ byT k e (zje (mkV std 3 0 [] (.lst 4 n x))) = zgi k e b l) := by
 rw [show mkV std 3 0 [] (.lst 4 n x) = CV.mk 3 0 [] (rdL (.lst 4 n x)) from rfl, hr, show CV.mk 3 0 [] (zbg k b l) = zno k b l from rfl]
 obtain ⟨m1, m2, m3⟩ := zu7 (k := k) h
 refine ⟨⟨ho, m1, m2⟩, fun hE => by rw [zgi, if_neg hE], fun hE => ⟨⟨h.1.1, h.1.2, ?_⟩, by rw [zgi, if_pos hE]⟩⟩
 have := m2.2
 rw [zje, if_pos hE]
 omega
def ywn (L : za9) (l : List Int) : Nat -> St -> Option Ann := fun id st => match id with
 | 0 => some ⟨Nat, fun i => [(19, .int .i64 (L zbu i)), (9, .ref 9 0)], fun i => [(9, .box 124 [.int .i64 3, .int .u64 0, .str [], .sl 900 4 0 i]), (900, .row 124 4 i (fun i j => cv1 L (L2 L zbj (L zc8 l) i) j))], [0, 1, 2, 17, 18], [],
     fun i => L2 L (fun (l : List Int) i => i <= l.length) l i, fun i => L2 L (fun (l : List Int) (i : Nat) => l.length - i) l i⟩
 | _ => none
def zra (L : za9) : zbn := (16, fun xs => match xs with
 | [.int .i64 k, .int .u64 e, .str b, x] => some (L okI x /\ L3 L zns e b (L rdI x), .str (L (L3 L zgi k e b) (L rdI x)))
 | _ => none)
theorem zmf : zay Tryz.prog (zra std) := by
 intro xs p r h hp
 dsimp only [zra] at h |-
 split at h <;> cases h
 try simp only [L2, L3, std] at hp |-
 rename_i k e b x
 obtain ⟨ho, hz⟩ := hp
 refine yv0 ho ?_
 have hz : zns e b (rdI x) := hz
 show za7 _ _ [.int .i64 k, .int .u64 e, .str b, zyz std (rdI x)] (.str (zgi k e b (rdI x)))
 generalize rdI x = l at hz |-
 refine za8 (T := tt) (S := fun L => zai [zpa 2000 L, yhs L]) (lo := fun L => ywn L l) (lb := noA) 5 (fn := Tryz.f16) (xs := fun L => [.int .i64 k, .int .u64 e, .str b, zyz L l]) rfl rfl (by kernel_rfl) (by kernel_rfl) rfl zaa
   (za1 ⟨zo8 _, zvz, trivial⟩) (by kernel_rfl) ?_
 intro L P' Q' hL hP hQ
 (cbv; try simp only [syT, true_and, and_true])
 refine ⟨⟨0, ?_⟩, fun i hi => ?_⟩
 · (cbv; try simp only [syT, true_and, and_true])
   (subst hL; subst hQ; simp only [L2, L3, std] at *; try simp only [syS, reduceCtorEq, Int.reduceToNat, Int.reduceAdd, Int.reduceSub] at *)
   exact Nat.zero_le _
 · cbv at hi
   (cbv; try simp only [syT, true_and, and_true])
   refine ⟨fun hlt => ⟨?_, ?_, ⟨i + 1, ?_⟩⟩, fun hge => ⟨fun h2 => ?_, fun h2 => ?_⟩⟩
   · (subst hL; subst hQ; simp only [L2, L3, std] at *; try simp only [syS, reduceCtorEq, Int.reduceToNat, Int.reduceAdd, Int.reduceSub] at *)
     omega
   · (subst hL; subst hQ; simp only [L2, L3, std] at *; try simp only [syS, reduceCtorEq, Int.reduceToNat, Int.reduceAdd, Int.reduceSub] at *)
     have : zuc l = l.length := rfl
     have := hz.2.2.1
     omega
   · (cbv; try simp only [syT, true_and, and_true])
     (subst hL; subst hQ; simp only [L2, L3, std] at *; try simp only [syS, reduceCtorEq, Int.reduceToNat, Int.reduceAdd, Int.reduceSub] at *)
     have : zuc l = l.length := rfl
     have e1 : zbj (zc8 l) i = zep (zd3 l i) := by
       rw [zbj, zc8, List.getD_eq_getElem?_getD, List.getElem?_map, zd3, List.getD_eq_getElem?_getD, List.getElem?_eq_getElem (by omega)]; rfl
     have hp := fun q j hq hj => zuz (zbj (zc8 l)) (i := i) (q := q) (j := j) hq hj (by rw [e1]; rfl)
     rw [e1] at hp
     have := hz.2.2.1
     exact ⟨hp, by omega, by omega, by omega⟩
   · (subst hL; subst hQ; simp only [L2, L3, std] at *; try simp only [syS, reduceCtorEq, Int.reduceToNat, Int.reduceAdd, Int.reduceSub] at *)
     have : zuc l = l.length := rfl
     have := hz.2.2.1
     subst h2
     obtain ⟨e1, e2⟩ := yhu (l := zc8 l) (v := zgh b) (i := i) (by rw [zc7]; omega) rfl
     refine ⟨by omega, zvy hz _ _ ?_ e2⟩
     have e3 : zbg 2 b l = zc8 l ++ [zgh b] := if_pos rfl
     rw [e3]; exact e1
   · (subst hL; subst hQ; simp only [L2, L3, std] at *; try simp only [syS, reduceCtorEq, Int.reduceToNat, Int.reduceAdd, Int.reduceSub] at *)
     have : zuc l = l.length := rfl
     obtain ⟨e1, e2⟩ := zhy (n := i) (get := fun q j => cv1 std (zbj (zc8 l) q) j) (l := zc8 l) (by rw [zc7]; omega) (fun q j hq hj => zd6 _ j hj)
     refine zvy hz _ _ ?_ e2
     have e3 : zbg k b l = zc8 l := if_neg h2
     rw [e3]; exact e1
noncomputable def ymz (L : za9) : zbn := (44, fun xs => match xs with
 | [.str s] => some (L2 L upto 900000 s, .tup [.int .i64 (L rsK s), .int .u64 (L rsP s), zyz L (L rsI s), .str (L rsB s)])
 | _ => none)
def zct (k : Int) : Int := zd3 [0, 1, 2, 2, 3] k.toNat
noncomputable def rrV (s : List UInt8) : CV := zlk (nxB s) 0 0
noncomputable def zkg (s : List UInt8) (i : Nat) : Prop := yib (rrV s).ls i /\ (i : Int) <= zct (nxK s)
def rrMu (s : List UInt8) (i : Nat) : Nat := (zct (nxK s) - i).toNat
theorem zdc (k : Int) : 0 <= zct k /\ zct k <= 3 := by
 unfold zct
 generalize k.toNat = m
 match m with
 | 0 => decide
 | 1 => decide
 | 2 => decide
 | 3 => decide
 | 4 => decide
 | m + 5 => exact ⟨by show (0 : Int) <= 0; decide, by show (0 : Int) <= 3; decide⟩
theorem zmd {k : Int} (h0 : 1 <= k) (h1 : k <= 4) : zct k = zif k := by
 have : k = 1 \/ k = 2 \/ k = 3 \/ k = 4 := by omega
 rcases this with rfl | rfl | rfl | rfl <;> rfl
noncomputable def rrA (L : za9) (s : List UInt8) : Nat -> St -> Option Ann := fun id st => match id with
 | 0 => some ⟨Nat, fun i => [(14, .int .i64 (L zbu i)), (13, .sl 901 1 0 i)], fun i => [(901, .row 22 1 i (fun i _ => .int .u64 (L2 L yt2 (L CV.ls (L rrV s)) i)))], [6, 9, 11, 12], [6, 9],
     fun i => L2 L zkg s i, fun i => L2 L rrMu s i⟩
 | _ => none
theorem zj9 {s : List UInt8} (h1 : nxE s = 0) : (nxB s).length <= 8192 /\ 1 <= nxK s /\ (paE s = 0 ↔ rnL s = (s.length : Int)) /\ (znv (nxB s) = 0 ↔ yag (nxB s) 0 0 = 0 /\ yah (nxB s) 0 0 = ((nxB s).length : Int)) /\ (znv (nxB s) = 0 -> zqc (nxB s) = rrV s) := by
 obtain ⟨hl, hn⟩ := ysr s h1
 obtain ⟨hN0, hN1⟩ := zjk s
 have hB : (nxB s).length <= 8192 := by
   rw [nxB, if_pos h1, List.length_drop, List.length_take]
   omega
 have hK : 1 <= nxK s := by
   rw [nxK, if_pos h1]
   have nc : nxE s = if s.length < 20 then 3 else if s.take 3 ≠ [79, 70, 1] then 4 else if (s.getD 3 0).toNat = 0 then 10 else if 8192 < nxN s then 5 else if (s.length : Int) < nxN s + 20 then 3 else zt1 (s.take (nxN s + 20).toNat) := rfl
   rw [nc] at h1
   split at h1
   · cases h1
   · split at h1
     · cases h1
     · split at h1
       · cases h1
       · omega
 have hR : rnL s = nxN s + 20 := if_pos h1
 have hr : nxR s = s.drop (nxN s + 20).toNat := by rw [nxR, if_pos h1]
 have g := yp6 hB
 have hx : zpb (nxB s) 0 0 = zcg 0 (nxB s) := rfl
 refine ⟨hB, hK, ?_, ?_, fun h => ?_⟩
 · have hd : nxR s = [] ↔ rnL s = (s.length : Int) := by
     rw [hr, hR]
     constructor
     · intro h
       have := congrArg List.length h
       rw [List.length_drop, List.length_nil] at this
       omega
     · intro h
       exact List.drop_eq_nil_of_le (by omega)
   rw [<- hd]
   unfold paE
   by_cases hn : nxR s = []
   · rw [if_neg (fun h => h.2 hn)]; exact ⟨fun _ => hn, fun _ => h1⟩
   · rw [if_pos ⟨h1, hn⟩]; exact ⟨fun h => absurd h (by decide), fun h => absurd h hn⟩
 · rw [g.1, yag, yah, hx]
   constructor
   · rintro ⟨a, b⟩
     rw [if_pos a, b]
     exact ⟨a, by simp⟩
   · rintro ⟨a, b⟩
     rw [if_pos a] at b
     exact ⟨a, List.eq_nil_of_length_eq_zero (by omega)⟩
 · rw [g.2 h, rrV, zlk, hx, if_pos (g.1.1 h).1]
theorem yn0 {s : List UInt8} (h : paE s = 0) : paK s = nxK s /\ paP s = nxP s /\ paB s = nxB s := ⟨if_pos h, if_pos h, if_pos h⟩
theorem ywx {s : List UInt8} (h : paE s = 0) : nxE s = 0 := by
 unfold paE at h
 split at h
 · cases h
 · exact h
theorem zff {s : List UInt8} : zy6 s ↔ nxE s = 0 /\ rnL s = (s.length : Int) /\ nxK s <= 4 /\ yag (nxB s) 0 0 = 0 /\ yah (nxB s) 0 0 = ((nxB s).length : Int) /\ (rrV s).kd = 3 /\
   (nxK s = 2 -> (rrV s).ls.length = 3 /\ (zbj (rrV s).ls 2).kd = 2) /\ (nxK s ≠ 2 -> ((rrV s).ls.length : Int) = zct (nxK s)) /\ yib (rrV s).ls (zct (nxK s)).toNat := by
 constructor
 · rintro ⟨a1, a2, a3, a4, a5, a6, a7⟩
   have n1 := ywx a1
   obtain ⟨f1, f2, f3, f4, f5⟩ := zj9 n1
   obtain ⟨p1, p2, p3⟩ := yn0 a1
   rw [p3] at a3 a4
   have eL : rsL s = (rrV s).ls := by rw [rsL, p3, f5 a3]
   have k4 : nxK s <= 4 := by
     rw [rsN, p1] at a2
     apply Int.not_lt.1
     intro h
     apply a2
     unfold zif
     rw [if_neg (by omega), if_neg (by omega), if_neg (by omega)]
   have eN : rsN s = zct (nxK s) := by rw [rsN, p1, zmd f2 k4]
   have eM : rsM s = (zct (nxK s)).toNat := by rw [rsM, eN]
   rw [p1, eL, eN, eM] at a5
   rw [p1, eL, eN] at a6
   rw [eL, eM] at a7
   rw [f5 a3] at a4
   refine ⟨n1, f3.1 a1, k4, (f4.1 a3).1, (f4.1 a3).2, a4, fun h => ?_, a6, a7⟩
   obtain ⟨b1, b2⟩ := a5 h
   rw [h] at b1 b2
   refine ⟨by have : zct 2 = 2 := rfl
              omega, b2⟩
 · rintro ⟨n1, a1, k4, a2, a3, a4, a5, a6, a7⟩
   obtain ⟨f1, f2, f3, f4, f5⟩ := zj9 n1
   have pe := f3.2 a1
   obtain ⟨p1, p2, p3⟩ := yn0 pe
   have ge := f4.2 ⟨a2, a3⟩
   have eL : rsL s = (rrV s).ls := by rw [rsL, p3, f5 ge]
   have eN : rsN s = zct (nxK s) := by rw [rsN, p1, zmd f2 k4]
   have eM : rsM s = (zct (nxK s)).toNat := by rw [rsM, eN]
   refine ⟨pe, ?_, by rw [p3]; exact ge, by rw [p3, f5 ge]; exact a4, fun h => ?_, fun h => ?_, by rw [eL, eM]; exact a7⟩
   · rw [rsN, p1]
     have : nxK s = 1 \/ nxK s = 2 \/ nxK s = 3 \/ nxK s = 4 := by omega
     rcases this with h | h | h | h <;> rw [h] <;> decide
   · rw [p1] at h
     obtain ⟨b1, b2⟩ := a5 h
     rw [eL, eN, eM, h]
     refine ⟨by have : zct 2 = 2 := rfl
                omega, b2⟩
   · rw [p1] at h
     rw [eL, eN]
     exact a6 h
theorem yl0 {s : List UInt8} {i : Nat} (h : zy6 s) (hi : (i : Int) = zct (nxK s)) : nxK s = rsK s /\ nxP s = rsP s /\ fits1 (zyz std (rsI s)) (.lst 1 i fun i x => .int .u64 (yt2 (rrV s).ls i)) /\ (if nxK s = 2 then (zbj (rrV s).ls 2).tx else []) = rsB s := by
 have a1 := h.1
 obtain ⟨n1, _, k4, r1, r2, _⟩ := zff.1 h
 obtain ⟨f1, f2, f3, f4, f5⟩ := zj9 n1
 obtain ⟨p1, p2, p3⟩ := yn0 a1
 have a3 := h.2.2.1
 rw [p3] at a3
 have eL : rsL s = (rrV s).ls := by rw [rsL, p3, f5 a3]
 have eN : rsN s = zct (nxK s) := by rw [rsN, p1, zmd f2 k4]
 have eM : rsM s = (zct (nxK s)).toNat := by rw [rsM, eN]
 obtain ⟨y1, y2, y3, y4, y5⟩ := yc6 (i := i) h (by rw [eM]; omega)
 rw [p1] at y1
 rw [p2] at y2
 rw [eL] at y3
 refine ⟨y1, y2, y3, ?_⟩
 rw [<- y4, p1, eL]
 by_cases hk : nxK s = 2
 · rw [if_pos hk, if_pos hk, eM, hk]; rfl
 · rw [if_neg hk, if_neg hk]
theorem yhh : zay Tryz.prog (ymz std) := by
 intro xs p r h hp
 dsimp only [ymz] at h |-
 split at h <;> cases h
 try simp only [L2, L3, std] at hp |-
 rename_i s
 refine za5 (T := tt) (S := fun L => zai [ztg L, ycf L]) (lo := fun L => rrA L s) (lb := noA) 5 (fn := Tryz.f44) rfl rfl (by kernel_rfl) (by kernel_rfl) rfl zaa (za1 ⟨zy8, ycg, trivial⟩) (by kernel_rfl) ?_
 intro L P' Q' hL hP hQ
 have bad : ¬ zy6 s -> zh6 (.tup [.int .i64 (rsK s), .int .u64 (rsP s), zyz std (rsI s), .str (rsB s)]) (.tup [.int .i64 0, .int .u64 0, .nils, .str []]) := by
   intro h
   have e : rsE s = 4 := if_neg h
   simp only [rsK, rsP, rsI, rsB, e]
   show zh6 (.tup [.int .i64 0, .int .u64 0, .lst 1 0 _, .str []]) _
   simp only [sySet]
   trivial
 (cbv; try simp only [syT, true_and, and_true])
 refine ⟨?_, fun h1 => ?_, fun h1 => ⟨fun h2 => ?_, fun h2 => ⟨fun h3 => ?_, fun h3 => ⟨?_, fun h4 => ?_, fun h4 => ⟨fun h5 => ?_, fun h5 => ⟨fun h6 => ?_, fun h6 => ⟨?_, fun h7 => ⟨fun h8 => ?_, fun h8 => ⟨?_, fun h9 => ?_, fun h9 => ⟨?_, ⟨0, ?_⟩, fun i hi => ?_⟩⟩⟩, fun h7 => ?_⟩⟩⟩⟩⟩⟩⟩
 · subst hL; exact hp
 · (subst hL; subst hQ; simp only [L2, L3, std] at *; try simp only [syS, reduceCtorEq, Int.reduceToNat, Int.reduceAdd, Int.reduceSub] at *); exact bad (fun h => h1 (zff.1 h).1)
 · (subst hL; subst hQ; simp only [L2, L3, std] at *; try simp only [syS, reduceCtorEq, Int.reduceToNat, Int.reduceAdd, Int.reduceSub] at *); exact bad (fun h => h2 (zff.1 h).2.1)
 · (subst hL; subst hQ; simp only [L2, L3, std] at *; try simp only [syS, reduceCtorEq, Int.reduceToNat, Int.reduceAdd, Int.reduceSub] at *); exact bad (fun h => by have := (zff.1 h).2.2.1; omega)
 · (subst hL; subst hQ; simp only [L2, L3, std] at *; try simp only [syS, reduceCtorEq, Int.reduceToNat, Int.reduceAdd, Int.reduceSub] at *)
   have f := (zj9 h1).1
   exact ⟨by omega, by omega, by omega, by omega, by omega, by omega⟩
 · (subst hL; subst hQ; simp only [L2, L3, std] at *; try simp only [syS, reduceCtorEq, Int.reduceToNat, Int.reduceAdd, Int.reduceSub] at *); exact bad (fun h => h4 (zff.1 h).2.2.2.1)
 · (subst hL; subst hQ; simp only [L2, L3, std] at *; try simp only [syS, reduceCtorEq, Int.reduceToNat, Int.reduceAdd, Int.reduceSub] at *); exact bad (fun h => h5 (zff.1 h).2.2.2.2.1)
 · (subst hL; subst hQ; simp only [L2, L3, std] at *; try simp only [syS, reduceCtorEq, Int.reduceToNat, Int.reduceAdd, Int.reduceSub] at *); exact bad (fun h => h6 (zff.1 h).2.2.2.2.2.1)
 · (subst hL; subst hQ; simp only [L2, L3, std] at *; try simp only [syS, reduceCtorEq, Int.reduceToNat, Int.reduceAdd, Int.reduceSub] at *)
   have f := (zj9 h1).2.1
   omega
 · (subst hL; subst hQ; simp only [L2, L3, std] at *; try simp only [syS, reduceCtorEq, Int.reduceToNat, Int.reduceAdd, Int.reduceSub] at *); exact bad fun h => h8 (by have := ((zff.1 h).2.2.2.2.2.2.1 h7).1; unfold zcx; unfold rrV at this; omega)
 · (subst hL; subst hQ; simp only [L2, L3, std] at *; try simp only [syS, reduceCtorEq, Int.reduceToNat, Int.reduceAdd, Int.reduceSub] at *)
   omega
 · (subst hL; subst hQ; simp only [L2, L3, std] at *; try simp only [syS, reduceCtorEq, Int.reduceToNat, Int.reduceAdd, Int.reduceSub] at *); exact bad (fun h => h9 ((zff.1 h).2.2.2.2.2.2.1 h7).2)
 · (subst hL; subst hQ; simp only [L2, L3, std] at *; try simp only [syS, reduceCtorEq, Int.reduceToNat, Int.reduceAdd, Int.reduceSub] at *)
   omega
 · (cbv; try simp only [syT, true_and, and_true])
   (subst hL; subst hQ; simp only [L2, L3, std] at *; try simp only [syS, reduceCtorEq, Int.reduceToNat, Int.reduceAdd, Int.reduceSub] at *)
   exact ⟨⟨Nat.zero_le _, fun j hj => by omega⟩, (zdc _).1⟩
 · cbv at hi
   (cbv; try simp only [syT, true_and, and_true])
   refine ⟨fun hlt => ⟨?_, fun h10 => ?_, fun h10 => ⟨?_, ?_, ⟨i + 1, ?_⟩⟩⟩, fun hge => ?_⟩
   · (subst hL; subst hQ; simp only [L2, L3, std] at *; try simp only [syS, reduceCtorEq, Int.reduceToNat, Int.reduceAdd, Int.reduceSub] at *)
     have hi' : zkg s i := hi
     have hr := zdc (nxK s)
     have ht : zd3 [0, 1, 2, 2, 3] (nxK s).toNat = zct (nxK s) := rfl
     have hi2 : (i : Int) <= zct (nxK s) := hi'.2
     have hlen : zct (nxK s) <= ((rrV s).ls.length : Int) := by rw [h7]; unfold zcx at h8; unfold rrV; have : zct 2 = 2 := rfl; omega
     have hv : zcx (zlk (nxB s) 0 0) = (rrV s).ls.length := rfl
     omega
   · (subst hL; subst hQ; simp only [L2, L3, std] at *; try simp only [syS, reduceCtorEq, Int.reduceToNat, Int.reduceAdd, Int.reduceSub] at *)
     have hi' : zkg s i := hi
     have hr := zdc (nxK s)
     have ht : zd3 [0, 1, 2, 2, 3] (nxK s).toNat = zct (nxK s) := rfl
     have hi2 : (i : Int) <= zct (nxK s) := hi'.2
     have hlen : zct (nxK s) <= ((rrV s).ls.length : Int) := by rw [h7]; unfold zcx at h8; unfold rrV; have : zct 2 = 2 := rfl; omega
     have hv : zcx (zlk (nxB s) 0 0) = (rrV s).ls.length := rfl
     exact bad fun h => h10 ((zff.1 h).2.2.2.2.2.2.2.2.2 i (by omega))
   · (subst hL; subst hQ; simp only [L2, L3, std] at *; try simp only [syS, reduceCtorEq, Int.reduceToNat, Int.reduceAdd, Int.reduceSub] at *)
     have hi' : zkg s i := hi
     have hr := zdc (nxK s)
     have ht : zd3 [0, 1, 2, 2, 3] (nxK s).toNat = zct (nxK s) := rfl
     have hi2 : (i : Int) <= zct (nxK s) := hi'.2
     have hlen : zct (nxK s) <= ((rrV s).ls.length : Int) := by rw [h7]; unfold zcx at h8; unfold rrV; have : zct 2 = 2 := rfl; omega
     have hv : zcx (zlk (nxB s) 0 0) = (rrV s).ls.length := rfl
     omega
   · (subst hL; subst hQ; simp only [L2, L3, std] at *; try simp only [syS, reduceCtorEq, Int.reduceToNat, Int.reduceAdd, Int.reduceSub] at *)
     have hi' : zkg s i := hi
     have hr := zdc (nxK s)
     have ht : zd3 [0, 1, 2, 2, 3] (nxK s).toNat = zct (nxK s) := rfl
     have hi2 : (i : Int) <= zct (nxK s) := hi'.2
     have hlen : zct (nxK s) <= ((rrV s).ls.length : Int) := by rw [h7]; unfold zcx at h8; unfold rrV; have : zct 2 = 2 := rfl; omega
     have hv : zcx (zlk (nxB s) 0 0) = (rrV s).ls.length := rfl
     omega
   · (cbv; try simp only [syT, true_and, and_true])
     (subst hL; subst hQ; simp only [L2, L3, std] at *; try simp only [syS, reduceCtorEq, Int.reduceToNat, Int.reduceAdd, Int.reduceSub] at *)
     have hi' : zkg s i := hi
     have hr := zdc (nxK s)
     have ht : zd3 [0, 1, 2, 2, 3] (nxK s).toNat = zct (nxK s) := rfl
     have hi2 : (i : Int) <= zct (nxK s) := hi'.2
     have hlen : zct (nxK s) <= ((rrV s).ls.length : Int) := by rw [h7]; unfold zcx at h8; unfold rrV; have : zct 2 = 2 := rfl; omega
     have hv : zcx (zlk (nxB s) 0 0) = (rrV s).ls.length := rfl
     refine ⟨fun q j hq hj => ?_, by omega, ⟨⟨by omega, fun j hj => ?_⟩, ?_⟩, ?_⟩
     · by_cases h : q < i
       · rw [zel h, show q - i = 0 by omega]; rfl
       · have : q = i := by omega
         subst this
         rw [zf7 (by omega), show q - q = 0 by omega]; rfl
     · by_cases h : j < i
       · exact hi'.1.2 j h
       · have : j = i := by omega
         subst this
         exact h10
     · show ((i + 1 : Nat) : Int) <= zct (nxK s)
       omega
     · show (zct (nxK s) - ((i + 1 : Nat) : Int)).toNat + 1 <= (zct (nxK s) - (i : Int)).toNat
       omega
   · (subst hL; subst hQ; simp only [L2, L3, std] at *; try simp only [syS, reduceCtorEq, Int.reduceToNat, Int.reduceAdd, Int.reduceSub] at *)
     have hi' : zkg s i := hi
     have hr := zdc (nxK s)
     have ht : zd3 [0, 1, 2, 2, 3] (nxK s).toNat = zct (nxK s) := rfl
     have hi2 : (i : Int) <= zct (nxK s) := hi'.2
     have hlen : zct (nxK s) <= ((rrV s).ls.length : Int) := by rw [h7]; unfold zcx at h8; unfold rrV; have : zct 2 = 2 := rfl; omega
     have hv : zcx (zlk (nxB s) 0 0) = (rrV s).ls.length := rfl
     have hM : (i : Int) = zct (nxK s) := by omega
     have hok : zy6 s := zff.2 ⟨h1, h2, h3, h4, h5, h6, fun _ => ⟨by unfold zcx at h8; unfold rrV; omega, h9⟩, fun h => absurd h7 h, by rw [<- hM, Int.toNat_natCast]; exact hi'.1⟩
     obtain ⟨y1, y2, y3, y4⟩ := yl0 hok hM
     refine ⟨y1, y2, y3, ?_⟩
     rw [<- y4, if_pos h7]
     try rfl
 · refine ⟨fun h8 => ?_, fun h8 => ⟨⟨0, ?_⟩, fun i hi => ?_⟩⟩
   · (subst hL; subst hQ; simp only [L2, L3, std] at *; try simp only [syS, reduceCtorEq, Int.reduceToNat, Int.reduceAdd, Int.reduceSub] at *)
     exact bad fun h => h8 ((zff.1 h).2.2.2.2.2.2.2.1 h7)
   · (cbv; try simp only [syT, true_and, and_true])
     (subst hL; subst hQ; simp only [L2, L3, std] at *; try simp only [syS, reduceCtorEq, Int.reduceToNat, Int.reduceAdd, Int.reduceSub] at *)
     exact ⟨⟨Nat.zero_le _, fun j hj => by omega⟩, (zdc _).1⟩
   · cbv at hi
     (cbv; try simp only [syT, true_and, and_true])
     refine ⟨fun hlt => ⟨?_, fun h10 => ?_, fun h10 => ⟨?_, ?_, ⟨i + 1, ?_⟩⟩⟩, fun hge => ?_⟩
     · (subst hL; subst hQ; simp only [L2, L3, std] at *; try simp only [syS, reduceCtorEq, Int.reduceToNat, Int.reduceAdd, Int.reduceSub] at *)
       have hi' : zkg s i := hi
       have hr := zdc (nxK s)
       have ht : zd3 [0, 1, 2, 2, 3] (nxK s).toNat = zct (nxK s) := rfl
       have hi2 : (i : Int) <= zct (nxK s) := hi'.2
       have hlen : zct (nxK s) <= ((rrV s).ls.length : Int) := Int.le_of_eq (Eq.symm h8)
       have hv : zcx (zlk (nxB s) 0 0) = (rrV s).ls.length := rfl
       omega
     · (subst hL; subst hQ; simp only [L2, L3, std] at *; try simp only [syS, reduceCtorEq, Int.reduceToNat, Int.reduceAdd, Int.reduceSub] at *)
       have hi' : zkg s i := hi
       have hr := zdc (nxK s)
       have ht : zd3 [0, 1, 2, 2, 3] (nxK s).toNat = zct (nxK s) := rfl
       have hi2 : (i : Int) <= zct (nxK s) := hi'.2
       have hlen : zct (nxK s) <= ((rrV s).ls.length : Int) := Int.le_of_eq (Eq.symm h8)
       have hv : zcx (zlk (nxB s) 0 0) = (rrV s).ls.length := rfl
       exact bad fun h => h10 ((zff.1 h).2.2.2.2.2.2.2.2.2 i (by omega))
     · (subst hL; subst hQ; simp only [L2, L3, std] at *; try simp only [syS, reduceCtorEq, Int.reduceToNat, Int.reduceAdd, Int.reduceSub] at *)
       have hi' : zkg s i := hi
       have hr := zdc (nxK s)
       have ht : zd3 [0, 1, 2, 2, 3] (nxK s).toNat = zct (nxK s) := rfl
       have hi2 : (i : Int) <= zct (nxK s) := hi'.2
       have hlen : zct (nxK s) <= ((rrV s).ls.length : Int) := Int.le_of_eq (Eq.symm h8)
       have hv : zcx (zlk (nxB s) 0 0) = (rrV s).ls.length := rfl
       omega
     · (subst hL; subst hQ; simp only [L2, L3, std] at *; try simp only [syS, reduceCtorEq, Int.reduceToNat, Int.reduceAdd, Int.reduceSub] at *)
       have hi' : zkg s i := hi
       have hr := zdc (nxK s)
       have ht : zd3 [0, 1, 2, 2, 3] (nxK s).toNat = zct (nxK s) := rfl
       have hi2 : (i : Int) <= zct (nxK s) := hi'.2
       have hlen : zct (nxK s) <= ((rrV s).ls.length : Int) := Int.le_of_eq (Eq.symm h8)
       have hv : zcx (zlk (nxB s) 0 0) = (rrV s).ls.length := rfl
       omega
     · (cbv; try simp only [syT, true_and, and_true])
       (subst hL; subst hQ; simp only [L2, L3, std] at *; try simp only [syS, reduceCtorEq, Int.reduceToNat, Int.reduceAdd, Int.reduceSub] at *)
       have hi' : zkg s i := hi
       have hr := zdc (nxK s)
       have ht : zd3 [0, 1, 2, 2, 3] (nxK s).toNat = zct (nxK s) := rfl
       have hi2 : (i : Int) <= zct (nxK s) := hi'.2
       have hlen : zct (nxK s) <= ((rrV s).ls.length : Int) := Int.le_of_eq (Eq.symm h8)
       have hv : zcx (zlk (nxB s) 0 0) = (rrV s).ls.length := rfl
       refine ⟨fun q j hq hj => ?_, by omega, ⟨⟨by omega, fun j hj => ?_⟩, ?_⟩, ?_⟩
       · by_cases h : q < i
         · rw [zel h, show q - i = 0 by omega]; rfl
         · have : q = i := by omega
           subst this
           rw [zf7 (by omega), show q - q = 0 by omega]; rfl
       · by_cases h : j < i
         · exact hi'.1.2 j h
         · have : j = i := by omega
           subst this
           exact h10
       · show ((i + 1 : Nat) : Int) <= zct (nxK s)
         omega
       · show (zct (nxK s) - ((i + 1 : Nat) : Int)).toNat + 1 <= (zct (nxK s) - (i : Int)).toNat
         omega
     · (subst hL; subst hQ; simp only [L2, L3, std] at *; try simp only [syS, reduceCtorEq, Int.reduceToNat, Int.reduceAdd, Int.reduceSub] at *)
       have hi' : zkg s i := hi
       have hr := zdc (nxK s)
       have ht : zd3 [0, 1, 2, 2, 3] (nxK s).toNat = zct (nxK s) := rfl
       have hi2 : (i : Int) <= zct (nxK s) := hi'.2
       have hlen : zct (nxK s) <= ((rrV s).ls.length : Int) := Int.le_of_eq (Eq.symm h8)
       have hv : zcx (zlk (nxB s) 0 0) = (rrV s).ls.length := rfl
       have hM : (i : Int) = zct (nxK s) := by omega
       have hok : zy6 s := zff.2 ⟨h1, h2, h3, h4, h5, h6, fun h => absurd h h7, fun _ => h8, by rw [<- hM, Int.toNat_natCast]; exact hi'.1⟩
       obtain ⟨y1, y2, y3, y4⟩ := yl0 hok hM
       refine ⟨y1, y2, y3, ?_⟩
       rw [<- y4, if_neg h7]
       try rfl
def n1 (v : CV) : Prop := zas v.nn /\ ∀ x ∈ v.ls, zas x.nn
def nSt (st : List Lv) : Prop := ∀ a ∈ st, ∀ x ∈ a.l, zas x.nn
theorem zt4 : zas 0 := ⟨by decide, by decide⟩
theorem zl4 (e : Int) : n1 (zc4 e).v := ⟨zt4, fun x hx => by cases hx⟩
theorem zpr {val : List Lv -> List UInt8 -> NR} (hv : ∀ st s, nSt st -> n1 (val st s).v) : ∀ (st : List Lv) (v : CV) (s : List UInt8), nSt st -> n1 v -> n1 (zc6 val st v s).v
 | [], v, s, _, h => h
 | a :: st, v, s, h0, h => by
   have ha := h0 a (by simp)
   have hl : ∀ x ∈ a.l ++ [v], zas x.nn := by
     intro x hx
     rcases List.mem_append.1 hx with hx | hx
     · exact ha x hx
     · rw [List.mem_singleton.1 hx]; exact h.1
   unfold zc6
   split
   · exact zpr hv st _ s (fun b hb => h0 b (by simp [hb])) ⟨zt4, hl⟩
   · refine hv _ _ (fun b hb => ?_)
     rcases List.mem_cons.1 hb with rfl | hb
     · exact hl
     · exact h0 b (by simp [hb])
theorem yle : ∀ (f : Nat) (st : List Lv) (s : List UInt8), nSt st -> n1 (zau f st s).v
 | 0, _, _, _ => zl4 0
 | f + 1, st, s, h => by
   have ih := yle f
   unfold zau
   split
   · exact zl4 _
   · split
     · exact zl4 _
     · split
       · exact zl4 _
       · rename_i _ _ hE
         have hE := ziq (Classical.not_not.1 hE)
         split
         · exact zpr ih st _ _ h ⟨⟨hE.2.2.1, hE.2.2.2⟩, fun x hx => by cases hx⟩
         · split
           · split
             · exact zl4 _
             · exact zpr ih st _ _ h ⟨zt4, fun x hx => by cases hx⟩
           · split
             · exact zl4 _
             · have h' : nSt (⟨zb8 (s.drop 1), []⟩ :: st) := fun b hb => by
                 rcases List.mem_cons.1 hb with rfl | hb
                 · intro x hx; cases hx
                 · exact h b hb
               unfold zci
               split
               · exact zl4 _
               · rename_i a st' _ he
                 cases he
                 split
                 · exact zpr ih st _ _ h ⟨zt4, fun x hx => by cases hx⟩
                 · exact ih _ _ h'
theorem yx4 {s : List UInt8} (i : Nat) : zas (zd3 (rsI s) i) := by
 have h1 : n1 (zqc (paB s)) := by
   unfold zqc
   split
   · unfold zbk
     split
     · exact zl4 _
     · exact yle _ _ _ (fun a ha => by cases ha)
   · exact ⟨zt4, fun x hx => by cases hx⟩
 unfold rsI zd3
 split
 · rw [List.getD_eq_getElem?_getD]
   cases hq : (yny ((rsL s).take (rsM s)))[i]? with
   | none => exact zt4
   | some x =>
     obtain ⟨y, hy, rfl⟩ := List.mem_map.1 (List.mem_of_getElem? hq)
     exact h1.2 y (List.mem_of_mem_take hy)
 · simp; exact zt4
def qtA (L : za9) (x : Ct) : AV := .agg [.int .u64 (L Ct.ver x), .str (L Ct.bod x), .bool (L Ct.som x), .int .u64 (L Ct.ep x), .int .u64 (L Ct.non x), .str (L Ct.las x), .int .u64 (L Ct.tv x), .int .u64 (L Ct.rv x), .int .u64 (L Ct.rc x), .bool (L Ct.ti x), .bool (L Ct.ri x)]
theorem zl2 {x : Ct} {a : Int} {b : List UInt8} {s : Bool} {e n : Int} {l : List UInt8} {p q : Int} {r : Bool} {t u : Int} {v : Bool} (h : x = ⟨a, b, s, e, n, l, p, q, r, t, u, v⟩) :
   fits1 (qtA std x) (.agg [.int .u64 a, .str b, .bool s, .int .u64 e, .int .u64 n, .str l, .int .u64 p, .int .u64 t, .int .u64 u, .bool r, .bool v]) := by
 subst h
 show fits1 (.agg [.int .u64 a, .str b, .bool s, .int .u64 e, .int .u64 n, .str l, .int .u64 p, .int .u64 t, .int .u64 u, .bool r, .bool v]) _
 simp only [zb7, zbh, zgb, zbi, and_self]
def yca (L : za9) : zbn := (12, fun xs => match xs with
 | [.agg [.int .u64 a, .str b, .bool s, .int .u64 e, .int .u64 n, .str l, .int .u64 p, .int .u64 t, .int .u64 u, .bool r, .bool v], .int .u64 w, .str x] =>
   some (L zas e /\ L2 L upto 1000000 x /\ L zas w, .tup [qtA L (L3 L zqu (zjr L a b s e n l p 0 r t u v) w x), .str (L3 L ysi (zjr L a b s e n l p 0 r t u v) w x)])
 | _ => none)
theorem ycb : zay Tryz.prog (yca std) := by
 intro xs p r h hp
 dsimp only [yca] at h |-
 split at h <;> cases h
 try simp only [L2, L3, std] at hp |-
 rename_i a b s e n l p t u r v w x
 refine za5 (T := tt) (S := fun L => zai [zra L]) (lo := noA) (lb := noA) 5 (fn := Tryz.f12) rfl rfl (by kernel_rfl) (by kernel_rfl) rfl zaa (za1 ⟨zmf, trivial⟩) (by kernel_rfl) ?_
 obtain ⟨p1, p2, p3⟩ : zas e /\ upto 1000000 x /\ zas w := hp
 (intro L P1 Q1 hL hP hQ; cbv; subst hL; simp only [L2, L3, std, syT]; subst hQ)
 (simp only [syS, reduceCtorEq, Int.reduceToNat, Int.reduceAdd, Int.reduceSub])
 have eX : zjr std a b s e n l p 0 r t u v = ⟨a, b, s, e, n, l, p, 0, r, t, u, v⟩ := rfl
 rw [eX]
 exact ⟨fun h => ⟨zl2 (if_pos h), (if_pos h).symm⟩, fun h => ⟨⟨yr0 _ _, p1, p2, by show (2 : Nat) <= 1000; decide, yrd p3 (ydu _)⟩, zl2 (if_neg h), (if_neg h).symm⟩⟩
theorem ywm (s : List UInt8) : (rsE s = 0 /\ ¬ rsK s = 0) \/ (rsE s = 4 /\ rsK s = 0) := by
 by_cases h : rsE s = 0
 · refine .inl ⟨h, ?_⟩
   rw [rsK, if_pos h]
   intro hk
   have := (ymx h).2.1
   rw [rsN, hk] at this
   exact this rfl
 · exact .inr ⟨rs_4 h, if_neg h⟩
noncomputable def ymw (L : za9) : zbn := (17, fun xs => match xs with
 | [.agg [.int .u64 a, .str b, .bool s, .int .u64 e, .int .u64 n, .str l, .int .u64 p, .int .u64 t, .int .u64 u, .bool r, .bool v], .str w] =>
   some (L2 L upto 900000 w /\ L2 L upto 1000000 b /\ L zas a, .tup [qtA L (L2 L ctS (zjr L a b s e n l p 0 r t u v) w), .str (L2 L ctT (zjr L a b s e n l p 0 r t u v) w), .int .i64 (L2 L ctE (zjr L a b s e n l p 0 r t u v) w)])
 | _ => none)
theorem yhg : zay Tryz.prog (ymw std) := by
 intro xs p r h hp
 dsimp only [ymw] at h |-
 split at h <;> cases h
 try simp only [L2, L3, std] at hp |-
 rename_i a b s e n l p t u r v w
 refine za5 (T := tt) (S := fun L => zai [ymz L, zra L]) (lo := noA) (lb := noA) 5 (fn := Tryz.f17) rfl rfl (by kernel_rfl) (by kernel_rfl) rfl zaa (za1 ⟨yhh, zmf, trivial⟩) (by kernel_rfl) ?_
 obtain ⟨p1, p2, p3⟩ : upto 900000 w /\ upto 1000000 b /\ zas a := hp
 (intro L P1 Q1 hL hP hQ; cbv; subst hL; simp only [L2, L3, std, syT]; subst hQ)
 (simp only [syS, reduceCtorEq, Int.reduceToNat, Int.reduceAdd, Int.reduceSub])
 have eX : zjr std a b s e n l p 0 r t u v = ⟨a, b, s, e, n, l, p, 0, r, t, u, v⟩ := rfl
 rw [eX]
 have no : ∀ z, ctE ⟨a, b, s, e, n, l, p, 0, r, t, u, v⟩ w = z -> z ≠ 0 -> fits1 (qtA std (ctS ⟨a, b, s, e, n, l, p, 0, r, t, u, v⟩ w)) (.agg [.int .u64 a, .str b, .bool s, .int .u64 e, .int .u64 n, .str l, .int .u64 p, .int .u64 t, .int .u64 u, .bool r, .bool v]) /\
     [] = ctT ⟨a, b, s, e, n, l, p, 0, r, t, u, v⟩ w /\ z = ctE ⟨a, b, s, e, n, l, p, 0, r, t, u, v⟩ w := fun z h h1 =>
   ⟨zl2 (if_pos (by rw [h]; exact h1)), (if_pos (by rw [h]; exact h1)).symm, h.symm⟩
 have hk := ywm w
 refine ⟨p1, fun h0 => ?_, fun h0 => ?_⟩
 · have h1 : rsE w = 4 := by rcases hk with q | q
                             · exact absurd h0 q.2
                             · exact q.1
   exact no 4 (by rw [ctE, if_pos (by rw [h1]; decide), h1]) (by decide)
 have h1 : rsE w = 0 := by rcases hk with q | q
                           · exact q.1
                           · exact absurd q.2 h0
 refine ⟨fun h2 => no 10 (by rw [ctE, if_neg (by rw [h1]; decide), if_neg (by rw [h2]; decide), if_pos h2]) (by decide), fun h2 => ⟨fun h3 => ?_, fun h3 => ?_⟩⟩
 · have e1 : ctE ⟨a, b, s, e, n, l, p, 0, r, t, u, v⟩ w = zvq ⟨a, b, s, e, n, l, p, 0, r, t, u, v⟩ (rsP w) := by rw [ctE, if_neg (by rw [h1]; decide), if_pos h3]
   refine ⟨fun h4 => no 18 (by rw [e1]; exact if_pos (.inl h4)) (by decide), fun h4 => ⟨fun h5 => no 18 (by rw [e1]; exact if_pos (.inr h5)) (by decide), fun h5 => ?_⟩⟩
   have hn : ¬ (rsP w < e \/ rsP w = 0) := by omega
   have e0 : ctE ⟨a, b, s, e, n, l, p, 0, r, t, u, v⟩ w = 0 := by rw [e1]; exact if_neg hn
   have e2 : ctS ⟨a, b, s, e, n, l, p, 0, r, t, u, v⟩ w = zqz ⟨a, b, s, e, n, l, p, 0, r, t, u, v⟩ (rsP w) := by rw [ctS, if_neg (by rw [e0]; decide), if_pos h3]
   have e3 : ctT ⟨a, b, s, e, n, l, p, 0, r, t, u, v⟩ w = zxl ⟨a, b, s, e, n, l, p, 0, r, t, u, v⟩ (rsP w) := by rw [ctT, if_neg (by rw [e0]; decide), if_pos h3]
   refine ⟨fun h6 => ?_, fun h6 => ?_⟩
   · have hm : ¬ (rsP w < e \/ rsP w = 0 \/ rsP w = e) := by omega
     refine ⟨fun h7 => ?_, fun h7 => ?_⟩
     · rw [rd2]
       refine ⟨⟨yr0 _ _, yc9 w, p2, by show (2 : Nat) <= 1000; decide, yrd p3 ⟨by decide, by decide⟩⟩, zl2 (q := 0) ?_, ?_, e0.symm⟩
       · rw [e2, zqz, if_neg hm, if_pos h7]; rfl
       · rw [e3, zxl, if_neg hn, if_neg (show ¬ rsP w = e by omega), if_pos h7]; rfl
     · refine ⟨zl2 (q := 0) ?_, ?_, e0.symm⟩
       · rw [e2, zqz, if_neg hm, if_neg (by show ¬ s = true; rw [h7]; decide)]; rfl
       · rw [e3, zxl, if_neg hn, if_neg (show ¬ rsP w = e by omega), if_neg (by show ¬ s = true; rw [h7]; decide)]
   · have h8 : rsP w = e := by omega
     refine ⟨zl2 (q := 0) ?_, ?_, e0.symm⟩
     · rw [e2, zqz, if_pos (.inr (.inr h8))]
     · rw [e3, zxl, if_neg hn, if_pos h8]
 · obtain ⟨l2, l3⟩ := yc7 h1 h3
   have i1 := yx4 (s := w) 1
   refine ⟨fun h4 => no 18 (by rw [ctE, if_neg (by rw [h1]; decide), if_neg h3, if_neg h2, if_pos (.inl h4)]) (by decide), fun h4 => ⟨⟨by omega, by omega⟩, fun h5 => no 18 (by rw [ctE, if_neg (by rw [h1]; decide), if_neg h3, if_neg h2, if_pos (.inr (.inl (by omega)))]) (by decide), fun h5 => ⟨⟨by omega, by omega⟩, fun h6 => no 18 (by rw [ctE, if_neg (by rw [h1]; decide), if_neg h3, if_neg h2, if_pos (.inr (.inr h6))]) (by decide), fun h6 => ?_⟩⟩⟩
   have e0 : ctE ⟨a, b, s, e, n, l, p, 0, r, t, u, v⟩ w = 0 := by
     have i2 := i1.1
     rw [ctE, if_neg (by rw [h1]; decide), if_neg h3, if_neg h2, if_neg]
     rintro (q | q | q)
     · exact q h4
     · omega
     · have q : n < zd3 (rsI w) 1 := q
       omega
   have e3 : ctT ⟨a, b, s, e, n, l, p, 0, r, t, u, v⟩ w = [] := by rw [ctT, if_neg (by rw [e0]; decide), if_neg h3]
   refine ⟨fun h7 => ⟨⟨by omega, by omega⟩, zl2 (q := 0) ?_, e3.symm, e0.symm⟩, fun h7 => ?_⟩
   · rw [ctS, if_neg (by rw [e0]; decide), if_neg h3, if_pos h7]
   · have l3 := l3 h2 h7
     refine ⟨⟨by omega, by omega⟩, ⟨by omega, by omega⟩, zl2 (q := 0) ?_, e3.symm, e0.symm⟩
     rw [ctS, if_neg (by rw [e0]; decide), if_neg h3, if_neg h7]
def isB (x y : Ct) : Bool := decide (x.ver = y.ver /\ x.ep = y.ep /\ x.tv = y.tv /\ x.ti = y.ti /\ x.rv = y.rv /\ x.rc = y.rc /\ x.ri = y.ri)
def yxl (L : za9) : zbn := (18, fun xs => match xs with
 | [.agg [.int .u64 a, .str b, .bool s, .int .u64 e, .int .u64 n, .str l, .int .u64 p, .int .u64 q, .bool r, .int .u64 t, .int .u64 u, .bool v], .agg [.int .u64 a', .str b', .bool s', .int .u64 e', .int .u64 n', .str l', .int .u64 p', .int .u64 t', .int .u64 u', .bool r', .bool v']] =>
   some (True, .bool (L2 L isB (zjr L a b s e n l p q r t u v) (zjr L a' b' s' e' n' l' p' 0 r' t' u' v')))
 | _ => none)
theorem yol : zay Tryz.prog (yxl std) := by
 intro xs p r h hp
 dsimp only [yxl] at h |-
 split at h <;> cases h
 try simp only [L2, L3, std] at hp |-
 rename_i a b s e n l p q r t u v a' b' s' e' n' l' p' t' u' r' v'
 refine za5 (T := tt) (S := fun L => zai [yf7 L, ykc L, yfe L, yfh L]) (lo := noA) (lb := noA) 5 (fn := Tryz.f18) rfl rfl (by kernel_rfl) (by kernel_rfl) rfl zaa (za1 ⟨yf8, zx7, yff, yfi, trivial⟩) (by kernel_rfl) ?_
 (intro L P1 Q1 hL hP hQ; cbv; subst hL; simp only [L2, L3, std, syT]; subst hQ)
 (simp only [syS, reduceCtorEq, Int.reduceToNat, Int.reduceAdd, Int.reduceSub])
 have eX : zjr std a b s e n l p q r t u v = ⟨a, b, s, e, n, l, p, q, r, t, u, v⟩ := rfl
 have eY : zjr std a' b' s' e' n' l' p' 0 r' t' u' v' = ⟨a', b', s', e', n', l', p', 0, r', t', u', v'⟩ := rfl
 rw [eX, eY]
 clear eX eY
 simp only [isB]
 repeat' first | refine And.intro ?_ ?_ | intro hh
 all_goals (cases r <;> cases r' <;> cases v <;> cases v' <;> simp_all [beqB])
end Sy
end Go.Proofs.YtcgikjfloloekaaGreatDoor
namespace Go.Proofs.YtcgikjfloloekaaGreatDoor
namespace Sy
open Go Go.RowKit
set_option linter.unusedVariables false
def DW (W : World) : Nat -> Prop := fun b => b < W.heap.size
structure zeb {H : Type} (enc : TypeId × Value -> H) (P : Program) (W : World) (t : TypeId) (α : Type) (sz : Nat) (av : α -> Nat -> AV) (ok : α -> Prop) : Prop where
 size : P.cellsOf t = sz
 go : ∀ fuel cs x, DataW.trod enc P W 0 (fun _ => true) true fuel t cs = some x -> ∃ y : α, ok y /\ cs.length = sz /\ ∀ j, j < sz -> ∃ v, cs[j]? = some v /\ one v /\ R W.heap (DW W) zav (av y j) v
structure zxg {H : Type} (enc : TypeId × Value -> H) (P : Program) (W : World) (fs : List Field) (off : Nat) (α : Type) (sz : Nat) (av : α -> Nat -> AV) (ok : α -> Prop) : Prop where
 go : ∀ fuel (cs : List Value) (xs : List (DataW H × List MemPlace)), (∀ (i : Nat) (f : Field), fs[i]? = some f -> ∃ x, DataW.trod enc P W 0 (fun _ => true) true fuel f.type ((cs.drop f.offset).take (P.cellsOf f.type)) = some x) -> ∃ y : α, ok y /\ ∀ j, j < sz -> ∃ v, cs[off + j]? = some v /\ one v /\ R W.heap (DW W) zav (av y j) v
theorem sgl {h : Array Obj} {D : Nat -> Prop} {f : Nat -> AV} {v : Value} (h1 : one v) (h2 : R h D zav (f 0) v) : ∀ j, j < 1 -> ∃ u, [v][j]? = some u /\ one u /\ R h D zav (f j) u := by
 intro j hj
 obtain rfl : j = 0 := by omega
 exact ⟨v, rfl, h1, h2⟩
theorem zub {α : Type} (p : Nat -> α -> Prop) : ∀ n, (∀ i, i < n -> ∃ y, p i y) -> ∃ l : List α, l.length = n /\ ∀ i, i < n -> ∃ y, l[i]? = some y /\ p i y
 | 0, _ => ⟨[], rfl, fun i hi => by omega⟩
 | m + 1, h => by
   obtain ⟨l, e1, e2⟩ := zub p m (fun i hi => h i (by omega))
   obtain ⟨y, hy⟩ := h m (by omega)
   refine ⟨l ++ [y], by simp [e1], fun i hi => ?_⟩
   by_cases hi' : i < m
   · obtain ⟨z, z1, z2⟩ := e2 i hi'
     exact ⟨z, by rw [List.getElem?_append_left (by omega)]; exact z1, z2⟩
   · have : i = m := by omega
     subst this
     exact ⟨y, by rw [<- e1]; simp, hy⟩
section
variable {H : Type} {enc : TypeId × Value -> H} {P : Program} {W : World}
theorem zde {t : TypeId} {k : IntKind} (ht : P.underlying t = some (.int k)) (hc : P.cellsOf t = 1) : zeb enc P W t Int 1 (fun n _ => .int k n) (fun n => (Lit.int k n).wf = true) := by
 refine ⟨hc, fun fuel cs x h => ?_⟩
 obtain ⟨n, rfl, rfl, hw⟩ := DataW.trod_int ht h
 exact ⟨n, hw, rfl, sgl rfl (.int k n)⟩
theorem zyo {t : TypeId} (ht : P.underlying t = some .bool) (hc : P.cellsOf t = 1) : zeb enc P W t Bool 1 (fun b _ => .bool b) (fun _ => True) := by
 refine ⟨hc, fun fuel cs x h => ?_⟩
 obtain ⟨b, rfl, rfl⟩ := DataW.trod_bool ht h
 exact ⟨b, trivial, rfl, sgl rfl (.bool b)⟩
theorem zg2 {t : TypeId} (ht : P.underlying t = some .string) (hc : P.cellsOf t = 1) : zeb enc P W t (List UInt8) 1 (fun l _ => .str l) (fun l => l.length <= maxLen) := by
 refine ⟨hc, fun fuel cs x h => ?_⟩
 obtain ⟨s, rfl, rfl, hs⟩ := DataW.trod_string ht h
 exact ⟨s.data.toList, by rw [Array.length_toList]; exact hs, rfl, sgl rfl (.str _ _ rfl)⟩
def avL {α : Type} (av : α -> Nat -> AV) (l : List α) (i j : Nat) : AV := match l[i]? with | some y => av y j | none => .dead
theorem opens_slice {t e : TypeId} {α : Type} {sz : Nat} {av : α -> Nat -> AV} {ok : α -> Prop} (ht : P.underlying t = some (.slice e)) (hc : P.cellsOf t = 1) (he : zeb enc P W e α sz av ok) (hs : 0 < sz) :
   zeb enc P W t (List α) 1 (fun l _ => .lst sz l.length (avL av l)) (fun l => l.length <= maxLen /\ ∀ y ∈ l, ok y) := by
 refine ⟨hc, fun fuel cs x h => ?_⟩
 rcases DataW.trod_slice ht h with ⟨rfl, rfl⟩ | ⟨a, len, cap, elems, rest, n, _, rfl, rfl, hb, hl, hm, hlen, hel, _, _⟩
 · exact ⟨[], ⟨Nat.zero_le _, fun y hy => by cases hy⟩, rfl, sgl rfl (.lst0 _ _ _ _ (fun _ => rfl))⟩
 · have each : ∀ i, i < len -> ∃ y : α, ok y /\ ∀ j, j < sz -> ∃ v, W.cell? ((a.add (i * sz)).add j) = some v /\ one v /\ R W.heap (DW W) zav (av y j) v := by
     intro i hi
     have h1 := hel i hi
     rw [he.size] at h1
     obtain ⟨z, hz⟩ : ∃ z, elems[i]? = some z := ⟨elems[i], by simp [hlen, hi]⟩
     rw [hz, Option.bind_eq_some_iff] at h1
     obtain ⟨cs', h2, h3⟩ := h1
     obtain ⟨y, y1, y2, y3⟩ := he.go _ _ _ h3
     refine ⟨y, y1, fun j hj => ?_⟩
     obtain ⟨v, v1, v2, v3⟩ := y3 j hj
     exact ⟨v, by rw [(World.cells?_some h2).2.2 j hj]; exact v1, v2, v3⟩
   obtain ⟨l, hl1, hl2⟩ : ∃ l : List α, l.length = len /\ ∀ i, i < len -> ∃ y, l[i]? = some y /\ ok y /\ ∀ j, j < sz -> ∃ v, W.cell? ((a.add (i * sz)).add j) = some v /\ one v /\ R W.heap (DW W) zav (av y j) v :=
     zub (fun i y => ok y /\ ∀ j, j < sz -> ∃ v, W.cell? ((a.add (i * sz)).add j) = some v /\ one v /\ R W.heap (DW W) zav (av y j) v) len each
   refine ⟨l, ⟨by omega, fun y hy => ?_⟩, rfl, sgl rfl ?_⟩
   · obtain ⟨i, hi, rfl⟩ := List.getElem_of_mem hy
     obtain ⟨z, z1, z2, _⟩ := hl2 i (by omega)
     rw [List.getElem?_eq_getElem hi] at z1
     cases z1; exact z2
   · show R W.heap (DW W) zav (.lst sz l.length (avL av l)) _
     by_cases h0 : len = 0
     · subst h0; rw [hl1]; exact .lst0 _ _ _ _ (fun h => by cases h)
     · have cell : ∀ i j, i < len -> j < sz -> ∃ v, hcell W.heap a.block (a.off + i * sz + j) = some v /\ one v /\ R W.heap (DW W) zav (avL av l i j) v := by
         intro i j hi hj
         obtain ⟨y, y1, _, y3⟩ := hl2 i hi
         obtain ⟨v, v1, v2, v3⟩ := y3 j hj
         refine ⟨v, ?_, v2, by rw [avL, y1]; exact v3⟩
         rw [<- znf]
         have hsp : ∀ p : Addr, W.cell? p = some v -> p.spot = none := by
           intro p hp
           unfold World.cell? at hp
           split at hp
           · split at hp
             · cases hp
             · rename_i hn; simpa using hn
           · cases hp
         have h1 := hsp _ v1
         have e : (a.add (i * sz)).add j = ⟨a.block, a.off + i * sz + j, none⟩ := by
           have hb1 : ((a.add (i * sz)).add j).block = a.block := by simp only [Addr.add]; split <;> split <;> rfl
           have hb2 : ((a.add (i * sz)).add j).off = a.off + i * sz + j := by simp only [Addr.add]; split <;> split <;> simp_all
           cases hq : (a.add (i * sz)).add j with
           | mk b o s => rw [hq] at h1 hb1 hb2; simp_all
         rw [<- e]; exact v1
       have hsp0 : a.spot = none := by
         obtain ⟨y, _, _, y3⟩ := hl2 0 (by omega)
         obtain ⟨v, v1, _⟩ := y3 0 hs
         rw [Nat.zero_mul] at v1
         simp only [Addr.add, if_true] at v1
         unfold World.cell? at v1
         split at v1
         · split at v1
           · cases v1
           · rename_i hn; simpa using hn
         · cases v1
       have hD : DW W a.block := by
         obtain ⟨v, v1, _⟩ := cell 0 0 (by omega) hs
         refine Classical.byContradiction fun hn => ?_
         unfold hcell at v1
         rw [Array.getElem?_eq_none (by unfold DW at hn; omega)] at v1
         cases v1
       have ea : a = ⟨a.block, a.off, none⟩ := by cases a; simp_all
       rw [ea, <- hl1]
       refine .lst sz l.length (avL av l) a.block a.off cap (fun i j => (hcell W.heap a.block (a.off + i * sz + j)).getD undef) hD (by omega) (fun i j hi hj => ?_) (fun i j hi hj => ?_) (fun i j hi hj => ?_)
       all_goals
         obtain ⟨v, v1, v2, v3⟩ := cell i j (by omega) hj
         rw [v1]
         first | rfl | exact v2 | exact v3
theorem yda {t e : TypeId} {α : Type} {sz n : Nat} {av : α -> Nat -> AV} {ok : α -> Prop} (ht : P.underlying t = some (.array n e)) (hc : P.cellsOf t = n * sz) (he : zeb enc P W e α sz av ok) (hs : 0 < sz) :
   zeb enc P W t (List α) (n * sz) (fun l j => avL av l (j / sz) (j % sz)) (fun l => l.length = n /\ ∀ y ∈ l, ok y) := by
 refine ⟨hc, fun fuel cs x h => ?_⟩
 obtain ⟨xs, m, _, rfl, hl, hx, hel⟩ := DataW.trod_array ht h
 obtain ⟨l, hl1, hl2⟩ : ∃ l : List α, l.length = n /\ ∀ i, i < n -> ∃ y, l[i]? = some y /\ ok y /\ ∀ j, j < sz -> ∃ v, cs[i * sz + j]? = some v /\ one v /\ R W.heap (DW W) zav (av y j) v :=
   zub (fun i y => ok y /\ ∀ j, j < sz -> ∃ v, cs[i * sz + j]? = some v /\ one v /\ R W.heap (DW W) zav (av y j) v) n (fun i hi => by
     have h1 := hel i hi
     rw [he.size, List.getElem?_eq_getElem (by omega)] at h1
     obtain ⟨y, y1, y2, y3⟩ := he.go _ _ _ h1
     refine ⟨y, y1, fun j hj => ?_⟩
     obtain ⟨v, v1, v2⟩ := y3 j hj
     rw [List.getElem?_take, if_pos hj, List.getElem?_drop] at v1
     exact ⟨v, v1, v2⟩)
 refine ⟨l, ⟨hl1, fun y hy => ?_⟩, by rw [hl, hc], fun j hj => ?_⟩
 · obtain ⟨i, hi, rfl⟩ := List.getElem_of_mem hy
   obtain ⟨z, z1, z2, _⟩ := hl2 i (by omega)
   rw [List.getElem?_eq_getElem hi] at z1
   cases z1; exact z2
 · have hi : j / sz < n := Nat.div_lt_of_lt_mul (by rw [Nat.mul_comm]; exact hj)
   obtain ⟨z, z1, _, z3⟩ := hl2 (j / sz) hi
   obtain ⟨v, v1, v2⟩ := z3 (j % sz) (Nat.mod_lt _ hs)
   rw [show j / sz * sz + j % sz = j by rw [Nat.mul_comm]; exact Nat.div_add_mod j sz] at v1
   exact ⟨v, v1, by unfold avL; rw [z1]; exact v2⟩
theorem zdr (off : Nat) : zxg enc P W [] off Unit 0 (fun _ _ => .dead) (fun _ => True) := ⟨fun _ _ _ _ => ⟨(), trivial, fun j hj => by omega⟩⟩
theorem zah {f : Field} {fs : List Field} {off : Nat} {α β : Type} {sz sz' : Nat} {av : α -> Nat -> AV} {av' : β -> Nat -> AV} {ok : α -> Prop} {ok' : β -> Prop} (ho : f.offset = off) (hf : zeb enc P W f.type α sz av ok) (hr : zxg enc P W fs (off + sz) β sz' av' ok') :
   zxg enc P W (f :: fs) off (α × β) (sz + sz') (fun y j => if j < sz then av y.1 j else av' y.2 (j - sz)) (fun y => ok y.1 /\ ok' y.2) := by
 refine ⟨fun fuel cs xs h => ?_⟩
 obtain ⟨x, hx⟩ := h 0 f rfl
 obtain ⟨y, y1, y2, y3⟩ := hf.go _ _ _ hx
 obtain ⟨z, z1, z2⟩ := hr.go fuel cs xs (fun i g hg => h (i + 1) g hg)
 refine ⟨(y, z), ⟨y1, z1⟩, fun j hj => ?_⟩
 by_cases hlt : j < sz
 · obtain ⟨v, v1, v2, v3⟩ := y3 j hlt
   refine ⟨v, ?_, v2, by simp only [if_pos hlt]; exact v3⟩
   rw [hf.size, List.getElem?_take, if_pos hlt, List.getElem?_drop, ho] at v1
   exact v1
 · obtain ⟨v, v1, v2, v3⟩ := z2 (j - sz) (by omega)
   refine ⟨v, ?_, v2, by simp only [if_neg hlt]; exact v3⟩
   rw [<- v1]; congr 1; omega
theorem zcn {t : TypeId} {fs : Array Field} {α : Type} {sz : Nat} {av : α -> Nat -> AV} {ok : α -> Prop} (ht : P.underlying t = some (.struct fs)) (hc : P.cellsOf t = sz) (hf : zxg enc P W fs.toList 0 α sz av ok) : zeb enc P W t α sz av ok := by
 refine ⟨hc, fun fuel cs x h => ?_⟩
 obtain ⟨xs, n, rfl, rfl, hl, hx, hfs⟩ := DataW.trod_struct ht h
 obtain ⟨y, y1, y2⟩ := hf.go n cs xs (fun i f hi => by
   have := hfs i f (by simpa using hi)
   have hlt : i < xs.length := by rw [hx]; simpa using (List.getElem?_eq_some_iff.1 hi).1
   exact ⟨xs[i], by rw [this]; simp [hlt]⟩)
 exact ⟨y, y1, by omega, fun j hj => by obtain ⟨v, v1, v2⟩ := y2 j hj; exact ⟨v, by simpa using v1, v2⟩⟩
theorem zeb.map {t : TypeId} {α β : Type} {sz : Nat} {av : α -> Nat -> AV} {av' : β -> Nat -> AV} {ok : α -> Prop} {ok' : β -> Prop} (O : zeb enc P W t α sz av ok) (f : α -> β) (h1 : ∀ y j, j < sz -> av y j = av' (f y) j) (h2 : ∀ y, ok y -> ok' (f y)) : zeb enc P W t β sz av' ok' := by
 refine ⟨O.size, fun fuel cs x h => ?_⟩
 obtain ⟨y, y1, y2, y3⟩ := O.go fuel cs x h
 refine ⟨f y, h2 y y1, y2, fun j hj => ?_⟩
 obtain ⟨v, v1, v2, v3⟩ := y3 j hj
 exact ⟨v, v1, v2, by rw [<- h1 y j hj]; exact v3⟩
theorem open_one {t : TypeId} {α : Type} {av : α -> Nat -> AV} {ok : α -> Prop} {v : Value} {d : DataW H} {p : List MemPlace} (O : zeb enc P W t α 1 av ok) (hv : v.cells = #[v]) (h : DataW.Trod enc P W 0 (fun _ => true) true t v d p) :
   ∃ y, ok y /\ R W.heap (DW W) zav (av y 0) v := by
 obtain ⟨fuel, h⟩ := h
 obtain ⟨y, y1, y2, y3⟩ := O.go _ _ _ h
 obtain ⟨u, u1, u2, u3⟩ := y3 0 (by omega)
 rw [hv] at u1
 simp at u1
 subst u1
 exact ⟨y, y1, u3⟩
end
theorem ygh {P : Program} {f : FuncId} {xs ys : List AV} {r : AV} (h : ∀ h D vs, RL h D zav xs vs -> RL h D zav ys vs) (ha : za7 P f ys r) : za7 P f xs r := fun D w vs hD hx => ha D w vs hD (h _ _ _ hx)
end Sy
end Go.Proofs.YtcgikjfloloekaaGreatDoor
namespace Go.Proofs.YtcgikjfloloekaaGreatDoor
namespace Sy
open Go Go.RowKit
set_option maxRecDepth 100000
set_option linter.unusedSimpArgs false
set_option linter.unusedVariables false
structure Vw (α : Type) where
 sz : Nat
 cell : za9 -> α -> Nat -> AV
 rd : (Nat -> AV) -> α
 ok : (Nat -> AV) -> Prop
 d : α
structure ya8 {α : Type} (V : Vw α) : Prop where
 turn : ∀ c, V.ok c -> ∀ j, j < V.sz -> ∀ (h : Array Obj) (D : Nat -> Prop) (μ : Mu) (v : Value), R h D μ (c j) v -> R h D μ (V.cell std (V.rd c) j) v
 back : ∀ c x, (∀ j, j < V.sz -> c j = V.cell std x j) -> V.ok c /\ V.rd c = x
def zps {α : Type} (V : Vw α) (l : List α) (i : Nat) : α := l.getD i V.d
def zb1 {α : Type} (l : List α) : Nat := l.length
def getW {α : Type} (L : za9) (V : Vw α) (l : List α) : Nat -> Nat -> AV := fun i j => V.cell L (L (L (zps V) l) i) j
def ygp {α : Type} (L : za9) (V : Vw α) (l : List α) : AV := .lst V.sz (L zb1 l) (getW L V l)
def rdW {α : Type} (V : Vw α) : AV -> List α
 | .lst _ n get => (List.range n).map fun i => V.rd (get i)
 | _ => []
def okW {α : Type} (V : Vw α) : AV -> Prop
 | .lst sz n get => sz = V.sz /\ ∀ i, i < n -> V.ok (get i)
 | .nils => True
 | _ => False
theorem zbq {α : Type} {V : Vw α} {l : List α} {i : Nat} (h : i < l.length) : zps V l i = l[i] := by
 rw [zps, List.getD_eq_getElem?_getD, List.getElem?_eq_getElem h]; rfl
theorem ztm {α : Type} (V : Vw α) (sz n : Nat) (get : Nat -> Nat -> AV) : (rdW V (.lst sz n get)).length = n := by simp [rdW]
theorem yl6 {α : Type} {V : Vw α} {sz n : Nat} {get : Nat -> Nat -> AV} {i : Nat} (h : i < n) : zps V (rdW V (.lst sz n get)) i = V.rd (get i) := by
 rw [zbq (by rw [ztm]; exact h)]
 simp [rdW]
theorem yde {α : Type} {V : Vw α} (K : ya8 V) {h : Array Obj} {D : Nat -> Prop} {μ : Mu} {x : AV} {v : Value} (ho : okW V x) (r : R h D μ x v) : R h D μ (ygp std V (rdW V x)) v := by
 match x, ho with
 | .nils, _ => cases r; exact .lst0 _ _ none 0 (fun _ => rfl)
 | .lst sz n get, ho =>
   obtain ⟨rfl, ho⟩ := ho
   have e : ygp std V (rdW V (.lst V.sz n get)) = .lst V.sz n (getW std V (rdW V (.lst V.sz n get))) := by
     show AV.lst V.sz (zb1 (rdW V (.lst V.sz n get))) _ = _
     rw [show zb1 (rdW V (.lst V.sz n get)) = n from ztm _ _ _ _]
   rw [e]
   cases r with
   | lst0 _ _ a cap hn => exact .lst0 _ _ a cap hn
   | lst _ _ _ b o cap vs hD hc hv h1 hr =>
     refine .lst _ _ _ b o cap vs hD hc hv h1 (fun i j hi hj => ?_)
     show R h D zav (V.cell std (zps V (rdW V (.lst V.sz n get)) i) j) (vs i j)
     rw [yl6 hi]
     exact K.turn _ (ho i hi) j hj _ _ _ _ (hr i j hi hj)
theorem yhp {α : Type} {V : Vw α} (K : ya8 V) {n : Nat} {get : Nat -> Nat -> AV} {l : List α} (hn : n = l.length) (h : ∀ i j, i < n -> j < V.sz -> get i j = V.cell std (zps V l i) j) : okW V (.lst V.sz n get) /\ rdW V (.lst V.sz n get) = l := by
 subst hn
 refine ⟨⟨rfl, fun i hi => (K.back _ _ (fun j hj => h i j hi hj)).1⟩, ?_⟩
 apply List.ext_getElem
 · rw [ztm]
 · intro i h1 h2
   have := yl6 (V := V) (sz := V.sz) (get := get) h2
   rw [zbq h1] at this
   rw [this, (K.back _ _ (fun j hj => h i j h2 hj)).2, zbq h2]
theorem ze8 {α : Type} {V : Vw α} (K : ya8 V) (l : List α) : okW V (ygp std V l) /\ rdW V (ygp std V l) = l := yhp K rfl (fun i j hi hj => rfl)
theorem zlh {α : Type} {V : Vw α} (K : ya8 V) {P : Program} {f : FuncId} {x r : AV} {xs : List AV} (ho : okW V x) (h : za7 P f (ygp std V (rdW V x) :: xs) r) : za7 P f (x :: xs) r :=
 ygh (fun hp D vs hr => by
   refine ⟨by rw [<- hr.1]; rfl, fun i z v hz hv => ?_⟩
   cases i with
   | zero => cases hz; exact yde K ho (hr.2 0 x v rfl hv)
   | succ i => exact hr.2 (i + 1) z v hz hv) h
def ycu (x : AV) : List UInt8 := match x with | .str s => s | _ => []
def isS (x : AV) : Prop := ∃ s, x = .str s
def isI (k : IntKind) (x : AV) : Prop := ∃ n, x = .int k n
theorem yea {x : AV} (h : isS x) {hp : Array Obj} {D : Nat -> Prop} {μ : Mu} {v : Value} (r : R hp D μ x v) : R hp D μ (.str (ycu x)) v := by obtain ⟨s, rfl⟩ := h; exact r
theorem zrx {k : IntKind} {x : AV} (h : isI k x) {hp : Array Obj} {D : Nat -> Prop} {μ : Mu} {v : Value} (r : R hp D μ x v) : R hp D μ (.int k x.toI) v := by obtain ⟨s, rfl⟩ := h; exact r
def zol {α : Type} (p : α -> Bool) : List α -> Int
 | [] => -1
 | x :: l => if p x = true then 0 else if zol p l < 0 then -1 else zol p l + 1
theorem zjz {α : Type} (p : α -> Bool) : ∀ l : List α, decide (0 <= zol p l) = l.any p
 | [] => by simp [zol]
 | x :: l => by
   have ih := zjz p l
   unfold zol
   by_cases h : p x = true
   · simp [h]
   · have h' : p x = false := by simpa using h
     rw [if_neg h, List.any_cons, h', Bool.false_or, <- ih]
     split
     · rename_i h2; rw [decide_eq_false (by omega), decide_eq_false (by omega)]
     · rename_i h2; rw [decide_eq_true (by omega), decide_eq_true (by omega)]
theorem yej {α : Type} {p : α -> Bool} : ∀ {l : List α} {i : Nat} (hi : i < l.length), (∀ k (hk : k < i), p (l[k]'(by omega)) = false) -> p l[i] = true -> zol p l = i
 | [], i, hi, _, _ => by simp at hi
 | x :: l, 0, hi, _, h => by simp at h; simp [zol, h]
 | x :: l, i + 1, hi, h0, h => by
   have hx : p x = false := by simpa using h0 0 (by omega)
   have ih := yej (p := p) (l := l) (i := i) (by simpa using hi) (fun k hk => by have := h0 (k + 1) (by omega); simpa using this) (by simpa using h)
   rw [zol, if_neg (by rw [hx]; decide), if_neg (by omega), ih]; simp
theorem yei {α : Type} {p : α -> Bool} : ∀ {l : List α}, (∀ x ∈ l, p x = false) -> zol p l = -1
 | [], _ => rfl
 | x :: l, h => by
   have hx := h x (by simp)
   have ih := yei (p := p) (l := l) (fun y hy => h y (by simp [hy]))
   rw [zol, if_neg (by rw [hx]; decide), if_pos (by omega)]
def zpu {α : Type} (p : α -> Bool) (l : List α) (i : Nat) : Prop := i <= l.length /\ ∀ x ∈ l.take i, p x = false
theorem zpt {α : Type} (p : α -> Bool) (l : List α) : zpu p l 0 := ⟨Nat.zero_le _, fun x hx => by simp at hx⟩
theorem zi2 {α : Type} {V : Vw α} {p : α -> Bool} {l : List α} {i : Nat} (h : zpu p l i) (hi : i < l.length) (hp : p (zps V l i) = false) : zpu p l (i + 1) := by
 refine ⟨hi, fun x hx => ?_⟩
 rw [List.take_succ_eq_append_getElem hi, List.mem_append] at hx
 rcases hx with hx | hx
 · exact h.2 x hx
 · rw [List.mem_singleton.1 hx, <- zbq (V := V) hi]; exact hp
theorem zjn {α : Type} {V : Vw α} {p : α -> Bool} {l : List α} {i : Nat} (h : zpu p l i) (hi : i < l.length) (hp : p (zps V l i) = true) : zol p l = i := by
 rw [zbq hi] at hp
 refine yej hi (fun k hk => h.2 _ ?_) hp
 rw [List.mem_take_iff_getElem]
 exact ⟨k, by omega, rfl⟩
theorem zjo {α : Type} {p : α -> Bool} {l : List α} {i : Nat} (h : zpu p l i) (hi : ¬ i < l.length) : zol p l = -1 := by
 have := h.2
 rw [List.take_of_length_le (by omega)] at this
 exact yei this
end Sy
end Go.Proofs.YtcgikjfloloekaaGreatDoor
