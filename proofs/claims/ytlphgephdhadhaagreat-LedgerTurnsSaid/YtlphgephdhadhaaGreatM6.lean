/-Chapter 7 (codec): the value that a text begins with: what the code does. Chapter 7 (codec): what is written is read as it was; Get. Chapter 7 (codec): Get; and what stands between these and the texts behind.-/
import Derived.Test.YtlphgephdhadhaaGreatM5
import Derived.Test.YtlphgephdhadhaaGreatM4
namespace Go.Proofs.YtlphgephdhadhaaGreat
namespace Sy
open Go Go.RowKit
set_option maxRecDepth 100000
set_option linter.unusedSimpArgs false
set_option linter.unusedVariables false
structure Lv where
 left : Int
 l : List CV
structure NR where
 v : CV
 r : List UInt8
 e : Int
structure NX where
 st : List Lv
 s : List UInt8
 f : Nat
 v : CV
def zc6 (e : Int) : NR := ⟨.mk 0 0 [] [], [], e⟩
def zbq (val : List Lv -> List UInt8 -> NR) : List Lv -> CV -> List UInt8 -> NR
 | [], v, s => ⟨v, s, 0⟩
 | a :: st, v, s => if a.left - 1 = 0 then zbq val st (.mk 3 0 [] (a.l ++ [v])) s else val (⟨a.left - 1, a.l ++ [v]⟩ :: st) s
def zca (val : List Lv -> List UInt8 -> NR) : List Lv -> List UInt8 -> NR
 | [], s => zc6 0
 | a :: st, s => if a.left = 0 then zbq val st (.mk 3 0 [] a.l) s else val (a :: st) s
def za7 (s : List UInt8) : List UInt8 := (s.drop 1).drop (ziu (s.drop 1)).toNat
def zaw : Nat -> List Lv -> List UInt8 -> NR
 | 0, _, _ => zc6 0
 | f + 1, st, s =>
   if s = [] then zc6 3
   else if cb s 0 < 1 \/ 3 < cb s 0 then zc6 10
   else if zh1 (s.drop 1) ≠ 0 then zc6 (zh1 (s.drop 1))
   else if cb s 0 = 1 then zbq (zaw f) st (.mk 1 (zbz (s.drop 1)) [] []) (za7 s)
   else if cb s 0 = 2 then
     if ((za7 s).length : Int) < zbz (s.drop 1) then zc6 3
     else zbq (zaw f) st (.mk 2 0 ((za7 s).take (zbz (s.drop 1)).toNat) []) ((za7 s).drop (zbz (s.drop 1)).toNat)
   else if st.length = 6 then zc6 8
   else zca (zaw f) (⟨zbz (s.drop 1), []⟩ :: st) (za7 s)
def zb8 (s : List UInt8) : NR := if 8192 < s.length then zc6 5 else zaw (s.length + 1) [] s
def ziz : List Lv -> Nat
 | [] => 0
 | a :: r => a.l.length + 1 + ziz r
def ywe (st : List Lv) : Prop := ∀ a ∈ st, 1 <= a.left /\ a.left < 18446744073709551616
def zz5 (s0 : List UInt8) (x : NX) : Prop := x.st.length <= 6 /\ ywe x.st /\ x.s.length < x.f /\ x.s.length + ziz x.st <= 8192 /\ zaw x.f x.st x.s = zb8 s0
def ztx (s0 : List UInt8) (x : NX) : Prop := x.st.length <= 6 /\ (∃ a r, x.st = a :: r /\ 0 <= a.left /\ a.left < 18446744073709551616 /\ ywe r) /\ x.s.length < x.f /\ x.s.length + ziz x.st <= 8192 /\ zca (zaw x.f) x.st x.s = zb8 s0
def zz4 (s0 : List UInt8) (x : NX) : Prop := x.st.length <= 6 /\ ywe x.st /\ x.s.length < x.f /\ x.s.length + ziz x.st + 1 <= 8192 /\ zbq (zaw x.f) x.st x.v x.s = zb8 s0
def nMu (c : Nat) (x : NX) : Nat := 20 * x.s.length + 3 * x.st.length + c
theorem zcq (s : List UInt8) : (((s.getD 0 0).toNat : Int) + 9223372036854775808) % 18446744073709551616 - 9223372036854775808 = (cb s 0 : Int) := by
 have := zzs s 0
 unfold cb at *
 omega
theorem zak (s : List UInt8) : s.drop ((1 + ziu (s.drop 1) + 9223372036854775808) % 18446744073709551616 - 9223372036854775808).toNat = za7 s /\ (1 + ziu (s.drop 1) + 9223372036854775808) % 18446744073709551616 - 9223372036854775808 = 1 + ziu (s.drop 1) := by
 have := yo5 (s.drop 1)
 have e : (1 + ziu (s.drop 1) + 9223372036854775808) % 18446744073709551616 - 9223372036854775808 = 1 + ziu (s.drop 1) := by omega
 rw [e]
 refine ⟨?_, rfl⟩
 unfold za7
 rw [List.drop_drop]
 congr 1
theorem zhy {s : List UInt8} (h0 : ¬ s = []) (h : zh1 (s.drop 1) = 0) : (za7 s).length + 2 <= s.length /\ 1 + ziu (s.drop 1) <= (s.length : Int) := by
 have h1 := zhe h
 have : 0 < s.length := List.length_pos_iff.2 h0
 have hl : (s.drop 1).length = s.length - 1 := List.length_drop
 unfold za7
 rw [List.length_drop]
 omega
theorem zb9 {s0 : List UInt8} {e : Int} (h : zb8 s0 = zc6 e) : zdv (.tup [cvA std (zb8 s0).v, .str (zb8 s0).r, .int .i64 (zb8 s0).e]) (.tup [.agg [.int .i64 0, .int .u64 0, .str [], .nils], .str [], .int .i64 e]) := by
 rw [h]
 show zdv (.tup [.agg [.int .i64 0, .int .u64 0, .str [], .lst 4 0 (zhp (.mk 0 0 [] []))], .str [], .int .i64 e]) _
 simp [sySet]
theorem ynt {s0 : List UInt8} {v : CV} {s : List UInt8} (h : zb8 s0 = ⟨v, s, 0⟩) : zdv (.tup [cvA std (zb8 s0).v, .str (zb8 s0).r, .int .i64 (zb8 s0).e]) (.tup [.agg [.int .i64 v.kd, .int .u64 v.nn, .str v.tx, .lst 4 (zhg v) (zhp v)], .str s, .int .i64 0]) := by
 rw [h]
 show zdv (.tup [.agg [.int .i64 v.kd, .int .u64 v.nn, .str v.tx, .lst 4 (zhg v) (zhp v)], .str s, .int .i64 0]) _
 simp [sySet]
section
variable {s0 s : List UInt8} {st : List Lv} {f : Nat} {v : CV}
theorem zrf (h : zz5 s0 ⟨st, s, f, v⟩) : zb8 s0 =
   if s = [] then zc6 3
   else if cb s 0 < 1 \/ 3 < cb s 0 then zc6 10
   else if zh1 (s.drop 1) ≠ 0 then zc6 (zh1 (s.drop 1))
   else if cb s 0 = 1 then zbq (zaw (f - 1)) st (.mk 1 (zbz (s.drop 1)) [] []) (za7 s)
   else if cb s 0 = 2 then
     if ((za7 s).length : Int) < zbz (s.drop 1) then zc6 3
     else zbq (zaw (f - 1)) st (.mk 2 0 ((za7 s).take (zbz (s.drop 1)).toNat) []) ((za7 s).drop (zbz (s.drop 1)).toNat)
   else if st.length = 6 then zc6 8
   else zca (zaw (f - 1)) (⟨zbz (s.drop 1), []⟩ :: st) (za7 s) := by
 obtain ⟨_, _, h3, _, h5⟩ := h
 simp only at h3 h5
 rw [<- h5]
 obtain ⟨g, rfl⟩ : ∃ g, f = g + 1 := ⟨f - 1, by omega⟩
 rw [zaw]
 rfl
variable (h : zz5 s0 ⟨st, s, f, v⟩)
include h
theorem ynr (h1 : s = []) : zb8 s0 = zc6 3 := by rw [zrf h, if_pos h1]
theorem zw6 (h1 : ¬ s = []) (h2 : (cb s 0 : Int) < 1 \/ 3 < (cb s 0 : Int)) : zb8 s0 = zc6 10 := by rw [zrf h, if_neg h1, if_pos (by omega)]
theorem ynq (h1 : ¬ s = []) (h2 : 1 <= (cb s 0 : Int)) (h3 : (cb s 0 : Int) <= 3) (h4 : ¬ zh1 (s.drop 1) = 0) : zb8 s0 = zc6 (zh1 (s.drop 1)) := by rw [zrf h, if_neg h1, if_neg (by omega), if_pos h4]
omit h in
theorem ztt (h1 : ¬ s = []) (h4 : zh1 (s.drop 1) = 0) : 0 <= 1 + ziu (s.drop 1) /\ 1 + ziu (s.drop 1) <= (s.length : Int) := by
 have := zhe h4
 exact ⟨by omega, (zhy h1 h4).2⟩
theorem ynp (h1 : ¬ s = []) (h4 : zh1 (s.drop 1) = 0) (h5 : (cb s 0 : Int) = 1) : zz4 s0 ⟨st, za7 s, f - 1, .mk 1 (zbz (s.drop 1)) [] []⟩ /\ 20 * (za7 s).length + 3 * st.length + 2 + 1 <= 20 * s.length + 3 * st.length + 0 := by
 have e := zrf h
 rw [if_neg h1, if_neg (by omega), if_neg (by simpa using h4), if_pos (by omega)] at e
 obtain ⟨a1, a2, a3, a4, a5⟩ := h
 have hr := zhy h1 h4
 simp only at a1 a2 a3 a4
 exact ⟨⟨a1, a2, by show (za7 s).length < f - 1; omega, by show (za7 s).length + ziz st + 1 <= 8192; omega, e.symm⟩, by omega⟩
theorem yno (h1 : ¬ s = []) (h4 : zh1 (s.drop 1) = 0) (h6 : (cb s 0 : Int) = 2) (h7 : ((za7 s).length : Int) % 18446744073709551616 < zbz (s.drop 1)) : zb8 s0 = zc6 3 := by
 have e := zrf h
 obtain ⟨a1, a2, a3, a4, a5⟩ := h
 have hr := zhy h1 h4
 simp only at a4
 rw [if_neg h1, if_neg (by omega), if_neg (by simpa using h4), if_neg (by omega), if_pos (by omega), if_pos (by omega)] at e
 exact e
theorem zw5 (h1 : ¬ s = []) (h4 : zh1 (s.drop 1) = 0) (h7 : zbz (s.drop 1) <= ((za7 s).length : Int) % 18446744073709551616) : 0 <= zbz (s.drop 1) /\ zbz (s.drop 1) <= ((za7 s).length : Int) := by
 obtain ⟨a1, a2, a3, a4, a5⟩ := h
 have hr := zhy h1 h4
 have := zhe h4
 simp only at a4
 omega
theorem ynn (h1 : ¬ s = []) (h4 : zh1 (s.drop 1) = 0) (h6 : (cb s 0 : Int) = 2) (h7 : zbz (s.drop 1) <= ((za7 s).length : Int) % 18446744073709551616) :
   zz4 s0 ⟨st, (za7 s).drop (zbz (s.drop 1)).toNat, f - 1, .mk 2 0 ((za7 s).take (zbz (s.drop 1)).toNat) []⟩ /\ 20 * ((za7 s).drop (zbz (s.drop 1)).toNat).length + 3 * st.length + 2 + 1 <= 20 * s.length + 3 * st.length + 0 := by
 have e := zrf h
 obtain ⟨a1, a2, a3, a4, a5⟩ := h
 have hr := zhy h1 h4
 simp only at a1 a2 a3 a4
 rw [if_neg h1, if_neg (by omega), if_neg (by simpa using h4), if_neg (by omega), if_pos (by omega), if_neg (by omega)] at e
 have hl : ((za7 s).drop (zbz (s.drop 1)).toNat).length <= (za7 s).length := by rw [List.length_drop]; omega
 exact ⟨⟨a1, a2, by show ((za7 s).drop (zbz (s.drop 1)).toNat).length < f - 1; omega, by show ((za7 s).drop (zbz (s.drop 1)).toNat).length + ziz st + 1 <= 8192; omega, e.symm⟩, by omega⟩
theorem nx_7 (h1 : ¬ s = []) (h4 : zh1 (s.drop 1) = 0) (h7 : (cb s 0 : Int) = 3) (h8 : st.length = 6) : zb8 s0 = zc6 8 := by
 have e := zrf h
 rw [if_neg h1, if_neg (by omega), if_neg (by simpa using h4), if_neg (by omega), if_neg (by omega), if_pos h8] at e
 exact e
theorem nx_8 (h1 : ¬ s = []) (h4 : zh1 (s.drop 1) = 0) (h7 : (cb s 0 : Int) = 3) (h8 : ¬ st.length = 6) : ztx s0 ⟨⟨zbz (s.drop 1), []⟩ :: st, za7 s, f - 1, v⟩ /\ 20 * (za7 s).length + 3 * (st.length + 1) + 1 + 1 <= 20 * s.length + 3 * st.length + 0 := by
 have e := zrf h
 rw [if_neg h1, if_neg (by omega), if_neg (by simpa using h4), if_neg (by omega), if_neg (by omega), if_neg h8] at e
 obtain ⟨a1, a2, a3, a4, a5⟩ := h
 have hr := zhy h1 h4
 have hn := zhe h4
 simp only at a1 a2 a3 a4
 refine ⟨⟨by show st.length + 1 <= 6; omega, ⟨_, _, rfl, hn.2.2.1, hn.2.2.2, a2⟩, by show (za7 s).length < f - 1; omega, ?_, e.symm⟩, by omega⟩
 show (za7 s).length + (0 + 1 + ziz st) <= 8192
 omega
end
section
variable {s0 s : List UInt8} {st : List Lv} {f : Nat} {v : CV} {a : Lv}
theorem nd_0 (h : zz4 s0 ⟨[], s, f, v⟩) : zb8 s0 = ⟨v, s, 0⟩ := h.2.2.2.2.symm
theorem zl6 (h : zz4 s0 ⟨a :: st, s, f, v⟩) : ztx s0 ⟨⟨a.left - 1, a.l ++ [v]⟩ :: st, s, f, v⟩ /\ a.l.length <= 8192 /\ 1 <= a.left /\ a.left < 18446744073709551616 /\ 20 * s.length + 3 * (st.length + 1) + 1 + 1 <= 20 * s.length + 3 * (st.length + 1) + 2 := by
 obtain ⟨a1, a2, a3, a4, a5⟩ := h
 simp only at a1 a2 a3 a4 a5
 have h1 := a2 a (by simp)
 have e4 : ziz (a :: st) = a.l.length + 1 + ziz st := rfl
 refine ⟨⟨a1, ⟨_, _, rfl, by show 0 <= a.left - 1; omega, by show a.left - 1 < _; omega, fun b hb => a2 b (by simp [hb])⟩, a3, ?_, ?_⟩, by omega, h1.1, h1.2, by omega⟩
 · show s.length + ((a.l ++ [v]).length + 1 + ziz st) <= 8192
   rw [List.length_append, List.length_singleton]
   omega
 · rw [<- a5]; rfl
theorem yqs (h : ztx s0 ⟨a :: st, s, f, v⟩) (h0 : a.left = 0) : zz4 s0 ⟨st, s, f, .mk 3 0 [] a.l⟩ /\ 20 * s.length + 3 * st.length + 2 + 1 <= 20 * s.length + 3 * (st.length + 1) + 1 := by
 obtain ⟨a1, ⟨b, r, e1, b1, b2, b3⟩, a3, a4, a5⟩ := h
 simp only at a1 a3 a4 a5 e1
 cases e1
 have e4 : ziz (a :: st) = a.l.length + 1 + ziz st := rfl
 have e5 : (a :: st).length = st.length + 1 := rfl
 refine ⟨⟨by show st.length <= 6; omega, b3, a3, by show s.length + ziz st + 1 <= 8192; omega, ?_⟩, by omega⟩
 rw [<- a5, zca, if_pos h0]
theorem yqr (h : ztx s0 ⟨a :: st, s, f, v⟩) (h0 : ¬ a.left = 0) : zz5 s0 ⟨a :: st, s, f, v⟩ := by
 obtain ⟨a1, ⟨b, r, e1, b1, b2, b3⟩, a3, a4, a5⟩ := h
 simp only at a1 a3 a4 a5 e1
 cases e1
 refine ⟨a1, fun c hc => ?_, a3, a4, ?_⟩
 · rcases List.mem_cons.1 hc with rfl | hc
   · exact ⟨by omega, b2⟩
   · exact b3 c hc
 · rw [<- a5, zca, if_neg h0]
end
theorem nm_1 (s0 : List UInt8) (h : ¬ 8192 < (s0.length : Int)) (v : CV) : zz5 s0 ⟨[], s0, s0.length + 1, v⟩ := by
 refine ⟨by simp, fun a ha => by simp at ha, by simp, by simp [ziz]; omega, ?_⟩
 unfold zb8
 rw [if_neg (by omega)]
theorem nm_0 (s0 : List UInt8) (h : 8192 < (s0.length : Int)) : zb8 s0 = zc6 5 := by
 unfold zb8
 rw [if_pos (by omega)]
theorem yqq {s0 s : List UInt8} {st : List Lv} {f f1 : Nat} {v : CV} {a1 : Lv} {s1 : List UInt8} (hx : zz5 s0 ⟨st, s, f, v⟩) (h1 : ¬ s = []) (h4 : zh1 (s.drop 1) = 0) (h7 : (cb s 0 : Int) = 3) (h8 : ¬ st.length = 6)
   (ha1 : a1 = ⟨zbz (s.drop 1), []⟩) (hs1 : s1 = za7 s) (hf1 : f1 = f - 1) : 0 = lenL a1.l /\ 0 = lenL a1.l /\ zbz (s.drop 1) = a1.left /\ za7 s = s1 /\ ztx s0 ⟨a1 :: st, s1, f1, v⟩ /\ nMu 1 ⟨a1 :: st, s1, f1, v⟩ + 1 <= nMu 0 ⟨st, s, f, v⟩ := by
 obtain ⟨q1, q2⟩ := nx_8 hx h1 h4 h7 h8
 subst ha1 hs1 hf1
 exact ⟨rfl, rfl, rfl, rfl, q1, q2⟩
theorem zi6 (a : List CV) (v : CV) {p j : Nat} (hp : p < a.length + 1) (hj : j < 4) :
   over std a.length 0 4 [.int .i64 v.kd, .int .u64 v.nn, .str v.tx, .lst 4 (zhg v) (zhp v)] (fun i j => zi7 std (zbr i a.length) (zfk a i j) (zc4 .dead [.int .i64 0, .int .u64 0, .str [], .nils] ((i - a.length) * 4 + j))) p j = zfk (a ++ [v]) p j := by
 rw [<- zgt a v hp hj, zgl, if_pos ⟨Nat.zero_le _, by omega⟩, Nat.sub_zero]
 have e0 : p - a.length = 0 := by omega
 rw [e0, Nat.zero_mul, Nat.zero_add]
 by_cases h : p < a.length
 · rw [zn0 h, zar (show p ≠ a.length by omega), zbj a p j h, <- zir _ j hj]
   match j, hj with
   | 0, _ => rfl
   | 1, _ => rfl
   | 2, _ => rfl
   | 3, _ => rfl
 · rw [zqf h, show zay p a.length = true by rw [show p = a.length by omega, za8], zmx a p j (by omega)]
   match j, hj with
   | 0, _ => rfl
   | 1, _ => rfl
   | 2, _ => rfl
   | 3, _ => rfl
theorem zel {a : Lv} (h : a.l.length <= 8192) : (lenL a.l + 1) * 56 <= 140737488355328 /\ lenL a.l + 1 <= 9223372036854775807 := by
 have : lenL a.l = a.l.length := rfl
 omega
theorem zz2 (n : Nat) : 0 <= (n : Int) /\ (n : Int) < ((n.add 1 : Nat) : Int) := by
 have : n.add 1 = n + 1 := rfl
 omega
def zta (L : zac) : List Lv -> List AV
 | [] => []
 | a :: r => zce (zta L r) [.int .u64 (L Lv.left a), .sl (911 + zeb r) 4 0 (L lenL (L Lv.l a))]
def yay (L : zac) : List Lv -> List (Nat × Ob)
 | [] => []
 | a :: r => (911 + zeb r, .row 66 4 (L lenL (L Lv.l a)) (L zfk (L Lv.l a))) :: yay L r
def stV : List Lv -> AV
 | [] => .nils
 | _ :: r => .sl 910 2 0 (zeb r + 1)
def stOs (L : zac) : List Lv -> List (Nat × Ob)
 | [] => []
 | a :: r => (910, .spr 112 (zta L (a :: r))) :: yay L (a :: r)
def yty : Nat × Ob := (6, .box 66 [.dead, .dead, .dead, .dead])
def ywb (L : zac) (s0 : List UInt8) : Nat -> St -> Option Ann := fun id _ => match id with
 | 1 => some ⟨NX, fun x => [(0, .str (L NX.s x)), (6, .ref 6 0), (5, stV x.st)], fun x => yty :: stOs L x.st, [2], [2],
     fun x => L2 L zz5 s0 x, fun x => L (nMu 0) x⟩
 | 2 => some ⟨NX, fun x => [(0, .str (L NX.s x)), (6, .ref 6 0), (5, stV x.st)], fun x => yty :: stOs L x.st, [2], [2],
     fun x => L2 L ztx s0 x, fun x => L (nMu 1) x⟩
 | 3 => some ⟨NX, fun x => [(0, .str (L NX.s x)), (6, .ref 6 0), (5, .sl 910 2 0 (zeb x.st))],
     fun x => (6, .box 66 [.int .i64 (L CV.kd (L NX.v x)), .int .u64 (L CV.nn (L NX.v x)), .str (L CV.tx (L NX.v x)), .sl 909 4 0 (L zhg (L NX.v x))]) ::
       (909, .row 66 4 (L zhg (L NX.v x)) (L zhp (L NX.v x))) :: (910, .spr 112 (zta L x.st)) :: yay L x.st, [2], [2],
     fun x => L2 L zz4 s0 x, fun x => L (nMu 2) x⟩
 | _ => none
def nrA (L : zac) (r : NR) : AV := .tup [cvA L (L NR.v r), .str (L NR.r r), .int .i64 (L NR.e r)]
def yd3 (L : zac) : zcr := (47, fun xs => match xs with | [.str s] => some (True, nrA L (L zb8 s)) | _ => none)
set_option maxHeartbeats 4000000 in
theorem yd4 : zcu Tryz.prog (yd3 std) := by
 intro xs p r h hp
 dsimp only [yd3] at h |-
 split at h <;> cases h
 try simp only [L2, L3, std] at hp |-
 rename_i s0
 refine zad (T := tt) (S := fun L => zbe [yis L]) (lo := noA) (lb := fun L => ywb L s0) 5 (fn := Tryz.f47) rfl rfl (by kernel_rfl) (by kernel_rfl) rfl zah (zab ⟨zws, trivial⟩) (by kernel_rfl) ?_
 intro L P' Q' hL hP hQ
 (cbv; try simp only [syT, true_and, and_true])
 refine ⟨fun x hx => ?_, fun x hx => ?_, fun x hx => ?_, ?_⟩
 · obtain ⟨st, s, f, v⟩ := x
   cbv at hx
   match st, hx with
   | [], hx =>
     (cbv; try simp only [syT, true_and, and_true])
     obtain ⟨s1, hs1⟩ : ∃ s1, s1 = za7 s := ⟨_, rfl⟩
     obtain ⟨s2, hs2⟩ : ∃ s2, s2 = (za7 s).drop (zbz (s.drop 1)).toNat := ⟨_, rfl⟩
     obtain ⟨v1, hv1⟩ : ∃ v1, v1 = CV.mk 1 (zbz (s.drop 1)) [] [] := ⟨_, rfl⟩
     obtain ⟨v2, hv2⟩ : ∃ v2, v2 = CV.mk 2 0 ((za7 s).take (zbz (s.drop 1)).toNat) [] := ⟨_, rfl⟩
     obtain ⟨a1, ha1⟩ : ∃ a1, a1 = Lv.mk (zbz (s.drop 1)) [] := ⟨_, rfl⟩
     obtain ⟨f1, hf1⟩ : ∃ f1, f1 = f - 1 := ⟨_, rfl⟩
     refine ⟨fun h1 => ?_, fun h1 => ⟨?_, fun h2 => ?_, fun h2 => ⟨fun h3 => ?_, fun h3 => ⟨?_, fun h4 => ?_, fun h4 => ⟨?_, fun h5 => ⟨⟨[], s1, f1, v1⟩, ?_⟩, fun h5 => ⟨fun h6 => ⟨fun h7 => ?_, fun h7 => ⟨?_, ?_, ⟨[], s2, f1, v2⟩, ?_⟩⟩, fun h6 => ⟨fun h7 => ⟨fun h8 => ?_, fun h8 => ⟨?_, ⟨[a1], s1, f1, v⟩, ?_⟩⟩, fun h7 => ?_⟩⟩⟩⟩⟩⟩⟩
     · (subst hL; subst hQ; simp only [L2, L3, std] at *; try simp only [syS, reduceCtorEq, Int.reduceToNat, Int.reduceAdd, Int.reduceSub] at *)
       exact zb9 (ynr hx h1)
     · (subst hL; subst hQ; simp only [L2, L3, std] at *; try simp only [syS, reduceCtorEq, Int.reduceToNat, Int.reduceAdd, Int.reduceSub] at *)
       have := List.length_pos_iff.2 h1
       omega
     · (subst hL; subst hQ; simp only [L2, L3, std] at *; try simp only [syS, reduceCtorEq, Int.reduceToNat, Int.reduceAdd, Int.reduceSub] at *)
       rw [zcq] at h2
       exact zb9 (zw6 hx h1 (.inl h2))
     · (subst hL; subst hQ; simp only [L2, L3, std] at *; try simp only [syS, reduceCtorEq, Int.reduceToNat, Int.reduceAdd, Int.reduceSub] at *)
       rw [zcq] at h3
       exact zb9 (zw6 hx h1 (.inr h3))
     · (subst hL; subst hQ; simp only [L2, L3, std] at *; try simp only [syS, reduceCtorEq, Int.reduceToNat, Int.reduceAdd, Int.reduceSub] at *)
       have := List.length_pos_iff.2 h1
       omega
     · (subst hL; subst hQ; simp only [L2, L3, std] at *; try simp only [syS, reduceCtorEq, Int.reduceToNat, Int.reduceAdd, Int.reduceSub] at *)
       rw [zcq] at h2 h3
       exact zb9 (ynq hx h1 h2 h3 h4)
     · (subst hL; subst hQ; simp only [L2, L3, std] at *; try simp only [syS, reduceCtorEq, Int.reduceToNat, Int.reduceAdd, Int.reduceSub] at *)
       rw [(zak s).2]
       exact ztt h1 h4
     · (cbv; try simp only [syT, true_and, and_true])
       (subst hL; subst hQ; simp only [L2, L3, std] at *; try simp only [syS, reduceCtorEq, Int.reduceToNat, Int.reduceAdd, Int.reduceSub] at *)
       simp only [zcq, (zak s).1] at h5 |-
       obtain ⟨q1, q2⟩ := ynp hx h1 h4 h5
       rw [hv1, hs1, hf1]
       exact ⟨rfl, rfl, rfl, rfl, h5, rfl, q1, q2⟩
     · (subst hL; subst hQ; simp only [L2, L3, std] at *; try simp only [syS, reduceCtorEq, Int.reduceToNat, Int.reduceAdd, Int.reduceSub] at *)
       simp only [zcq, (zak s).1] at h6 h7
       exact zb9 (yno hx h1 h4 h6 h7)
     · (subst hL; subst hQ; simp only [L2, L3, std] at *; try simp only [syS, reduceCtorEq, Int.reduceToNat, Int.reduceAdd, Int.reduceSub] at *)
       simp only [zcq, (zak s).1] at h7 |-
       exact zw5 hx h1 h4 h7
     · (subst hL; subst hQ; simp only [L2, L3, std] at *; try simp only [syS, reduceCtorEq, Int.reduceToNat, Int.reduceAdd, Int.reduceSub] at *)
       simp only [zcq, (zak s).1] at h7 |-
       exact zw5 hx h1 h4 h7
     · (cbv; try simp only [syT, true_and, and_true])
       (subst hL; subst hQ; simp only [L2, L3, std] at *; try simp only [syS, reduceCtorEq, Int.reduceToNat, Int.reduceAdd, Int.reduceSub] at *)
       simp only [zcq, (zak s).1] at h6 h7 |-
       obtain ⟨q1, q2⟩ := ynn hx h1 h4 h6 h7
       rw [hv2, hs2, hf1]
       exact ⟨rfl, rfl, rfl, rfl, h6, rfl, q1, q2⟩
     · (subst hL; subst hQ; simp only [L2, L3, std] at *; try simp only [syS, reduceCtorEq, Int.reduceToNat, Int.reduceAdd, Int.reduceSub] at *)
       simp only [zcq] at h7
       exact absurd h8 (by decide)
     · (subst hL; subst hQ; simp only [L2, L3, std] at *; try simp only [syS, reduceCtorEq, Int.reduceToNat, Int.reduceAdd, Int.reduceSub] at *)
       omega
     · (cbv; try simp only [syT, true_and, and_true])
       (subst hL; subst hQ; simp only [L2, L3, std] at *; try simp only [syS, reduceCtorEq, Int.reduceToNat, Int.reduceAdd, Int.reduceSub] at *)
       simp only [zcq, (zak s).1] at h7 |-; obtain ⟨q1, q2, q3, q4⟩ := yqq hx h1 h4 h7 (by decide) ha1 hs1 hf1; exact ⟨q1, q2, congrArg _ q3, q4⟩
     · (subst hL; subst hQ; simp only [L2, L3, std] at *; try simp only [syS, reduceCtorEq, Int.reduceToNat, Int.reduceAdd, Int.reduceSub] at *)
       simp only [zcq] at h2 h3 h5 h6 h7
       omega
   | [a], hx =>
     (cbv; try simp only [syT, true_and, and_true])
     obtain ⟨s1, hs1⟩ : ∃ s1, s1 = za7 s := ⟨_, rfl⟩
     obtain ⟨s2, hs2⟩ : ∃ s2, s2 = (za7 s).drop (zbz (s.drop 1)).toNat := ⟨_, rfl⟩
     obtain ⟨v1, hv1⟩ : ∃ v1, v1 = CV.mk 1 (zbz (s.drop 1)) [] [] := ⟨_, rfl⟩
     obtain ⟨v2, hv2⟩ : ∃ v2, v2 = CV.mk 2 0 ((za7 s).take (zbz (s.drop 1)).toNat) [] := ⟨_, rfl⟩
     obtain ⟨a1, ha1⟩ : ∃ a1, a1 = Lv.mk (zbz (s.drop 1)) [] := ⟨_, rfl⟩
     obtain ⟨f1, hf1⟩ : ∃ f1, f1 = f - 1 := ⟨_, rfl⟩
     refine ⟨fun h1 => ?_, fun h1 => ⟨?_, fun h2 => ?_, fun h2 => ⟨fun h3 => ?_, fun h3 => ⟨?_, fun h4 => ?_, fun h4 => ⟨?_, fun h5 => ⟨⟨[a], s1, f1, v1⟩, ?_⟩, fun h5 => ⟨fun h6 => ⟨fun h7 => ?_, fun h7 => ⟨?_, ?_, ⟨[a], s2, f1, v2⟩, ?_⟩⟩, fun h6 => ⟨fun h7 => ⟨fun h8 => ?_, fun h8 => ⟨?_, ⟨[a1, a], s1, f1, v⟩, ?_⟩⟩, fun h7 => ?_⟩⟩⟩⟩⟩⟩⟩
     · (subst hL; subst hQ; simp only [L2, L3, std] at *; try simp only [syS, reduceCtorEq, Int.reduceToNat, Int.reduceAdd, Int.reduceSub] at *)
       exact zb9 (ynr hx h1)
     · (subst hL; subst hQ; simp only [L2, L3, std] at *; try simp only [syS, reduceCtorEq, Int.reduceToNat, Int.reduceAdd, Int.reduceSub] at *)
       have := List.length_pos_iff.2 h1
       omega
     · (subst hL; subst hQ; simp only [L2, L3, std] at *; try simp only [syS, reduceCtorEq, Int.reduceToNat, Int.reduceAdd, Int.reduceSub] at *)
       rw [zcq] at h2
       exact zb9 (zw6 hx h1 (.inl h2))
     · (subst hL; subst hQ; simp only [L2, L3, std] at *; try simp only [syS, reduceCtorEq, Int.reduceToNat, Int.reduceAdd, Int.reduceSub] at *)
       rw [zcq] at h3
       exact zb9 (zw6 hx h1 (.inr h3))
     · (subst hL; subst hQ; simp only [L2, L3, std] at *; try simp only [syS, reduceCtorEq, Int.reduceToNat, Int.reduceAdd, Int.reduceSub] at *)
       have := List.length_pos_iff.2 h1
       omega
     · (subst hL; subst hQ; simp only [L2, L3, std] at *; try simp only [syS, reduceCtorEq, Int.reduceToNat, Int.reduceAdd, Int.reduceSub] at *)
       rw [zcq] at h2 h3
       exact zb9 (ynq hx h1 h2 h3 h4)
     · (subst hL; subst hQ; simp only [L2, L3, std] at *; try simp only [syS, reduceCtorEq, Int.reduceToNat, Int.reduceAdd, Int.reduceSub] at *)
       rw [(zak s).2]
       exact ztt h1 h4
     · (cbv; try simp only [syT, true_and, and_true])
       (subst hL; subst hQ; simp only [L2, L3, std] at *; try simp only [syS, reduceCtorEq, Int.reduceToNat, Int.reduceAdd, Int.reduceSub] at *)
       simp only [zcq, (zak s).1] at h5 |-
       obtain ⟨q1, q2⟩ := ynp hx h1 h4 h5
       rw [hv1, hs1, hf1]
       exact ⟨rfl, rfl, rfl, rfl, h5, rfl, q1, q2⟩
     · (subst hL; subst hQ; simp only [L2, L3, std] at *; try simp only [syS, reduceCtorEq, Int.reduceToNat, Int.reduceAdd, Int.reduceSub] at *)
       simp only [zcq, (zak s).1] at h6 h7
       exact zb9 (yno hx h1 h4 h6 h7)
     · (subst hL; subst hQ; simp only [L2, L3, std] at *; try simp only [syS, reduceCtorEq, Int.reduceToNat, Int.reduceAdd, Int.reduceSub] at *)
       simp only [zcq, (zak s).1] at h7 |-
       exact zw5 hx h1 h4 h7
     · (subst hL; subst hQ; simp only [L2, L3, std] at *; try simp only [syS, reduceCtorEq, Int.reduceToNat, Int.reduceAdd, Int.reduceSub] at *)
       simp only [zcq, (zak s).1] at h7 |-
       exact zw5 hx h1 h4 h7
     · (cbv; try simp only [syT, true_and, and_true])
       (subst hL; subst hQ; simp only [L2, L3, std] at *; try simp only [syS, reduceCtorEq, Int.reduceToNat, Int.reduceAdd, Int.reduceSub] at *)
       simp only [zcq, (zak s).1] at h6 h7 |-
       obtain ⟨q1, q2⟩ := ynn hx h1 h4 h6 h7
       rw [hv2, hs2, hf1]
       exact ⟨rfl, rfl, rfl, rfl, h6, rfl, q1, q2⟩
     · (subst hL; subst hQ; simp only [L2, L3, std] at *; try simp only [syS, reduceCtorEq, Int.reduceToNat, Int.reduceAdd, Int.reduceSub] at *)
       simp only [zcq] at h7
       exact absurd h8 (by decide)
     · (subst hL; subst hQ; simp only [L2, L3, std] at *; try simp only [syS, reduceCtorEq, Int.reduceToNat, Int.reduceAdd, Int.reduceSub] at *)
       omega
     · (cbv; try simp only [syT, true_and, and_true])
       (subst hL; subst hQ; simp only [L2, L3, std] at *; try simp only [syS, reduceCtorEq, Int.reduceToNat, Int.reduceAdd, Int.reduceSub] at *)
       simp only [zcq, (zak s).1] at h7 |-; exact yqq hx h1 h4 h7 (by simp) ha1 hs1 hf1
     · (subst hL; subst hQ; simp only [L2, L3, std] at *; try simp only [syS, reduceCtorEq, Int.reduceToNat, Int.reduceAdd, Int.reduceSub] at *)
       simp only [zcq] at h2 h3 h5 h6 h7
       omega
   | [a, b], hx =>
     (cbv; try simp only [syT, true_and, and_true])
     obtain ⟨s1, hs1⟩ : ∃ s1, s1 = za7 s := ⟨_, rfl⟩
     obtain ⟨s2, hs2⟩ : ∃ s2, s2 = (za7 s).drop (zbz (s.drop 1)).toNat := ⟨_, rfl⟩
     obtain ⟨v1, hv1⟩ : ∃ v1, v1 = CV.mk 1 (zbz (s.drop 1)) [] [] := ⟨_, rfl⟩
     obtain ⟨v2, hv2⟩ : ∃ v2, v2 = CV.mk 2 0 ((za7 s).take (zbz (s.drop 1)).toNat) [] := ⟨_, rfl⟩
     obtain ⟨a1, ha1⟩ : ∃ a1, a1 = Lv.mk (zbz (s.drop 1)) [] := ⟨_, rfl⟩
     obtain ⟨f1, hf1⟩ : ∃ f1, f1 = f - 1 := ⟨_, rfl⟩
     refine ⟨fun h1 => ?_, fun h1 => ⟨?_, fun h2 => ?_, fun h2 => ⟨fun h3 => ?_, fun h3 => ⟨?_, fun h4 => ?_, fun h4 => ⟨?_, fun h5 => ⟨⟨[a, b], s1, f1, v1⟩, ?_⟩, fun h5 => ⟨fun h6 => ⟨fun h7 => ?_, fun h7 => ⟨?_, ?_, ⟨[a, b], s2, f1, v2⟩, ?_⟩⟩, fun h6 => ⟨fun h7 => ⟨fun h8 => ?_, fun h8 => ⟨?_, ⟨[a1, a, b], s1, f1, v⟩, ?_⟩⟩, fun h7 => ?_⟩⟩⟩⟩⟩⟩⟩
     · (subst hL; subst hQ; simp only [L2, L3, std] at *; try simp only [syS, reduceCtorEq, Int.reduceToNat, Int.reduceAdd, Int.reduceSub] at *)
       exact zb9 (ynr hx h1)
     · (subst hL; subst hQ; simp only [L2, L3, std] at *; try simp only [syS, reduceCtorEq, Int.reduceToNat, Int.reduceAdd, Int.reduceSub] at *)
       have := List.length_pos_iff.2 h1
       omega
     · (subst hL; subst hQ; simp only [L2, L3, std] at *; try simp only [syS, reduceCtorEq, Int.reduceToNat, Int.reduceAdd, Int.reduceSub] at *)
       rw [zcq] at h2
       exact zb9 (zw6 hx h1 (.inl h2))
     · (subst hL; subst hQ; simp only [L2, L3, std] at *; try simp only [syS, reduceCtorEq, Int.reduceToNat, Int.reduceAdd, Int.reduceSub] at *)
       rw [zcq] at h3
       exact zb9 (zw6 hx h1 (.inr h3))
     · (subst hL; subst hQ; simp only [L2, L3, std] at *; try simp only [syS, reduceCtorEq, Int.reduceToNat, Int.reduceAdd, Int.reduceSub] at *)
       have := List.length_pos_iff.2 h1
       omega
     · (subst hL; subst hQ; simp only [L2, L3, std] at *; try simp only [syS, reduceCtorEq, Int.reduceToNat, Int.reduceAdd, Int.reduceSub] at *)
       rw [zcq] at h2 h3
       exact zb9 (ynq hx h1 h2 h3 h4)
     · (subst hL; subst hQ; simp only [L2, L3, std] at *; try simp only [syS, reduceCtorEq, Int.reduceToNat, Int.reduceAdd, Int.reduceSub] at *)
       rw [(zak s).2]
       exact ztt h1 h4
     · (cbv; try simp only [syT, true_and, and_true])
       (subst hL; subst hQ; simp only [L2, L3, std] at *; try simp only [syS, reduceCtorEq, Int.reduceToNat, Int.reduceAdd, Int.reduceSub] at *)
       simp only [zcq, (zak s).1] at h5 |-
       obtain ⟨q1, q2⟩ := ynp hx h1 h4 h5
       rw [hv1, hs1, hf1]
       exact ⟨rfl, rfl, rfl, rfl, h5, rfl, q1, q2⟩
     · (subst hL; subst hQ; simp only [L2, L3, std] at *; try simp only [syS, reduceCtorEq, Int.reduceToNat, Int.reduceAdd, Int.reduceSub] at *)
       simp only [zcq, (zak s).1] at h6 h7
       exact zb9 (yno hx h1 h4 h6 h7)
     · (subst hL; subst hQ; simp only [L2, L3, std] at *; try simp only [syS, reduceCtorEq, Int.reduceToNat, Int.reduceAdd, Int.reduceSub] at *)
       simp only [zcq, (zak s).1] at h7 |-
       exact zw5 hx h1 h4 h7
     · (subst hL; subst hQ; simp only [L2, L3, std] at *; try simp only [syS, reduceCtorEq, Int.reduceToNat, Int.reduceAdd, Int.reduceSub] at *)
       simp only [zcq, (zak s).1] at h7 |-
       exact zw5 hx h1 h4 h7
     · (cbv; try simp only [syT, true_and, and_true])
       (subst hL; subst hQ; simp only [L2, L3, std] at *; try simp only [syS, reduceCtorEq, Int.reduceToNat, Int.reduceAdd, Int.reduceSub] at *)
       simp only [zcq, (zak s).1] at h6 h7 |-
       obtain ⟨q1, q2⟩ := ynn hx h1 h4 h6 h7
       rw [hv2, hs2, hf1]
       exact ⟨rfl, rfl, rfl, rfl, h6, rfl, q1, q2⟩
     · (subst hL; subst hQ; simp only [L2, L3, std] at *; try simp only [syS, reduceCtorEq, Int.reduceToNat, Int.reduceAdd, Int.reduceSub] at *)
       simp only [zcq] at h7
       exact absurd h8 (by decide)
     · (subst hL; subst hQ; simp only [L2, L3, std] at *; try simp only [syS, reduceCtorEq, Int.reduceToNat, Int.reduceAdd, Int.reduceSub] at *)
       omega
     · (cbv; try simp only [syT, true_and, and_true])
       (subst hL; subst hQ; simp only [L2, L3, std] at *; try simp only [syS, reduceCtorEq, Int.reduceToNat, Int.reduceAdd, Int.reduceSub] at *)
       simp only [zcq, (zak s).1] at h7 |-; exact yqq hx h1 h4 h7 (by simp) ha1 hs1 hf1
     · (subst hL; subst hQ; simp only [L2, L3, std] at *; try simp only [syS, reduceCtorEq, Int.reduceToNat, Int.reduceAdd, Int.reduceSub] at *)
       simp only [zcq] at h2 h3 h5 h6 h7
       omega
   | [a, b, c], hx =>
     (cbv; try simp only [syT, true_and, and_true])
     obtain ⟨s1, hs1⟩ : ∃ s1, s1 = za7 s := ⟨_, rfl⟩
     obtain ⟨s2, hs2⟩ : ∃ s2, s2 = (za7 s).drop (zbz (s.drop 1)).toNat := ⟨_, rfl⟩
     obtain ⟨v1, hv1⟩ : ∃ v1, v1 = CV.mk 1 (zbz (s.drop 1)) [] [] := ⟨_, rfl⟩
     obtain ⟨v2, hv2⟩ : ∃ v2, v2 = CV.mk 2 0 ((za7 s).take (zbz (s.drop 1)).toNat) [] := ⟨_, rfl⟩
     obtain ⟨a1, ha1⟩ : ∃ a1, a1 = Lv.mk (zbz (s.drop 1)) [] := ⟨_, rfl⟩
     obtain ⟨f1, hf1⟩ : ∃ f1, f1 = f - 1 := ⟨_, rfl⟩
     refine ⟨fun h1 => ?_, fun h1 => ⟨?_, fun h2 => ?_, fun h2 => ⟨fun h3 => ?_, fun h3 => ⟨?_, fun h4 => ?_, fun h4 => ⟨?_, fun h5 => ⟨⟨[a, b, c], s1, f1, v1⟩, ?_⟩, fun h5 => ⟨fun h6 => ⟨fun h7 => ?_, fun h7 => ⟨?_, ?_, ⟨[a, b, c], s2, f1, v2⟩, ?_⟩⟩, fun h6 => ⟨fun h7 => ⟨fun h8 => ?_, fun h8 => ⟨?_, ⟨[a1, a, b, c], s1, f1, v⟩, ?_⟩⟩, fun h7 => ?_⟩⟩⟩⟩⟩⟩⟩
     · (subst hL; subst hQ; simp only [L2, L3, std] at *; try simp only [syS, reduceCtorEq, Int.reduceToNat, Int.reduceAdd, Int.reduceSub] at *)
       exact zb9 (ynr hx h1)
     · (subst hL; subst hQ; simp only [L2, L3, std] at *; try simp only [syS, reduceCtorEq, Int.reduceToNat, Int.reduceAdd, Int.reduceSub] at *)
       have := List.length_pos_iff.2 h1
       omega
     · (subst hL; subst hQ; simp only [L2, L3, std] at *; try simp only [syS, reduceCtorEq, Int.reduceToNat, Int.reduceAdd, Int.reduceSub] at *)
       rw [zcq] at h2
       exact zb9 (zw6 hx h1 (.inl h2))
     · (subst hL; subst hQ; simp only [L2, L3, std] at *; try simp only [syS, reduceCtorEq, Int.reduceToNat, Int.reduceAdd, Int.reduceSub] at *)
       rw [zcq] at h3
       exact zb9 (zw6 hx h1 (.inr h3))
     · (subst hL; subst hQ; simp only [L2, L3, std] at *; try simp only [syS, reduceCtorEq, Int.reduceToNat, Int.reduceAdd, Int.reduceSub] at *)
       have := List.length_pos_iff.2 h1
       omega
     · (subst hL; subst hQ; simp only [L2, L3, std] at *; try simp only [syS, reduceCtorEq, Int.reduceToNat, Int.reduceAdd, Int.reduceSub] at *)
       rw [zcq] at h2 h3
       exact zb9 (ynq hx h1 h2 h3 h4)
     · (subst hL; subst hQ; simp only [L2, L3, std] at *; try simp only [syS, reduceCtorEq, Int.reduceToNat, Int.reduceAdd, Int.reduceSub] at *)
       rw [(zak s).2]
       exact ztt h1 h4
     · (cbv; try simp only [syT, true_and, and_true])
       (subst hL; subst hQ; simp only [L2, L3, std] at *; try simp only [syS, reduceCtorEq, Int.reduceToNat, Int.reduceAdd, Int.reduceSub] at *)
       simp only [zcq, (zak s).1] at h5 |-
       obtain ⟨q1, q2⟩ := ynp hx h1 h4 h5
       rw [hv1, hs1, hf1]
       exact ⟨rfl, rfl, rfl, rfl, h5, rfl, q1, q2⟩
     · (subst hL; subst hQ; simp only [L2, L3, std] at *; try simp only [syS, reduceCtorEq, Int.reduceToNat, Int.reduceAdd, Int.reduceSub] at *)
       simp only [zcq, (zak s).1] at h6 h7
       exact zb9 (yno hx h1 h4 h6 h7)
     · (subst hL; subst hQ; simp only [L2, L3, std] at *; try simp only [syS, reduceCtorEq, Int.reduceToNat, Int.reduceAdd, Int.reduceSub] at *)
       simp only [zcq, (zak s).1] at h7 |-
       exact zw5 hx h1 h4 h7
     · (subst hL; subst hQ; simp only [L2, L3, std] at *; try simp only [syS, reduceCtorEq, Int.reduceToNat, Int.reduceAdd, Int.reduceSub] at *)
       simp only [zcq, (zak s).1] at h7 |-
       exact zw5 hx h1 h4 h7
     · (cbv; try simp only [syT, true_and, and_true])
       (subst hL; subst hQ; simp only [L2, L3, std] at *; try simp only [syS, reduceCtorEq, Int.reduceToNat, Int.reduceAdd, Int.reduceSub] at *)
       simp only [zcq, (zak s).1] at h6 h7 |-
       obtain ⟨q1, q2⟩ := ynn hx h1 h4 h6 h7
       rw [hv2, hs2, hf1]
       exact ⟨rfl, rfl, rfl, rfl, h6, rfl, q1, q2⟩
     · (subst hL; subst hQ; simp only [L2, L3, std] at *; try simp only [syS, reduceCtorEq, Int.reduceToNat, Int.reduceAdd, Int.reduceSub] at *)
       simp only [zcq] at h7
       exact absurd h8 (by decide)
     · (subst hL; subst hQ; simp only [L2, L3, std] at *; try simp only [syS, reduceCtorEq, Int.reduceToNat, Int.reduceAdd, Int.reduceSub] at *)
       omega
     · (cbv; try simp only [syT, true_and, and_true])
       (subst hL; subst hQ; simp only [L2, L3, std] at *; try simp only [syS, reduceCtorEq, Int.reduceToNat, Int.reduceAdd, Int.reduceSub] at *)
       simp only [zcq, (zak s).1] at h7 |-; exact yqq hx h1 h4 h7 (by simp) ha1 hs1 hf1
     · (subst hL; subst hQ; simp only [L2, L3, std] at *; try simp only [syS, reduceCtorEq, Int.reduceToNat, Int.reduceAdd, Int.reduceSub] at *)
       simp only [zcq] at h2 h3 h5 h6 h7
       omega
   | [a, b, c, d], hx =>
     (cbv; try simp only [syT, true_and, and_true])
     obtain ⟨s1, hs1⟩ : ∃ s1, s1 = za7 s := ⟨_, rfl⟩
     obtain ⟨s2, hs2⟩ : ∃ s2, s2 = (za7 s).drop (zbz (s.drop 1)).toNat := ⟨_, rfl⟩
     obtain ⟨v1, hv1⟩ : ∃ v1, v1 = CV.mk 1 (zbz (s.drop 1)) [] [] := ⟨_, rfl⟩
     obtain ⟨v2, hv2⟩ : ∃ v2, v2 = CV.mk 2 0 ((za7 s).take (zbz (s.drop 1)).toNat) [] := ⟨_, rfl⟩
     obtain ⟨a1, ha1⟩ : ∃ a1, a1 = Lv.mk (zbz (s.drop 1)) [] := ⟨_, rfl⟩
     obtain ⟨f1, hf1⟩ : ∃ f1, f1 = f - 1 := ⟨_, rfl⟩
     refine ⟨fun h1 => ?_, fun h1 => ⟨?_, fun h2 => ?_, fun h2 => ⟨fun h3 => ?_, fun h3 => ⟨?_, fun h4 => ?_, fun h4 => ⟨?_, fun h5 => ⟨⟨[a, b, c, d], s1, f1, v1⟩, ?_⟩, fun h5 => ⟨fun h6 => ⟨fun h7 => ?_, fun h7 => ⟨?_, ?_, ⟨[a, b, c, d], s2, f1, v2⟩, ?_⟩⟩, fun h6 => ⟨fun h7 => ⟨fun h8 => ?_, fun h8 => ⟨?_, ⟨[a1, a, b, c, d], s1, f1, v⟩, ?_⟩⟩, fun h7 => ?_⟩⟩⟩⟩⟩⟩⟩
     · (subst hL; subst hQ; simp only [L2, L3, std] at *; try simp only [syS, reduceCtorEq, Int.reduceToNat, Int.reduceAdd, Int.reduceSub] at *)
       exact zb9 (ynr hx h1)
     · (subst hL; subst hQ; simp only [L2, L3, std] at *; try simp only [syS, reduceCtorEq, Int.reduceToNat, Int.reduceAdd, Int.reduceSub] at *)
       have := List.length_pos_iff.2 h1
       omega
     · (subst hL; subst hQ; simp only [L2, L3, std] at *; try simp only [syS, reduceCtorEq, Int.reduceToNat, Int.reduceAdd, Int.reduceSub] at *)
       rw [zcq] at h2
       exact zb9 (zw6 hx h1 (.inl h2))
     · (subst hL; subst hQ; simp only [L2, L3, std] at *; try simp only [syS, reduceCtorEq, Int.reduceToNat, Int.reduceAdd, Int.reduceSub] at *)
       rw [zcq] at h3
       exact zb9 (zw6 hx h1 (.inr h3))
     · (subst hL; subst hQ; simp only [L2, L3, std] at *; try simp only [syS, reduceCtorEq, Int.reduceToNat, Int.reduceAdd, Int.reduceSub] at *)
       have := List.length_pos_iff.2 h1
       omega
     · (subst hL; subst hQ; simp only [L2, L3, std] at *; try simp only [syS, reduceCtorEq, Int.reduceToNat, Int.reduceAdd, Int.reduceSub] at *)
       rw [zcq] at h2 h3
       exact zb9 (ynq hx h1 h2 h3 h4)
     · (subst hL; subst hQ; simp only [L2, L3, std] at *; try simp only [syS, reduceCtorEq, Int.reduceToNat, Int.reduceAdd, Int.reduceSub] at *)
       rw [(zak s).2]
       exact ztt h1 h4
     · (cbv; try simp only [syT, true_and, and_true])
       (subst hL; subst hQ; simp only [L2, L3, std] at *; try simp only [syS, reduceCtorEq, Int.reduceToNat, Int.reduceAdd, Int.reduceSub] at *)
       simp only [zcq, (zak s).1] at h5 |-
       obtain ⟨q1, q2⟩ := ynp hx h1 h4 h5
       rw [hv1, hs1, hf1]
       exact ⟨rfl, rfl, rfl, rfl, h5, rfl, q1, q2⟩
     · (subst hL; subst hQ; simp only [L2, L3, std] at *; try simp only [syS, reduceCtorEq, Int.reduceToNat, Int.reduceAdd, Int.reduceSub] at *)
       simp only [zcq, (zak s).1] at h6 h7
       exact zb9 (yno hx h1 h4 h6 h7)
     · (subst hL; subst hQ; simp only [L2, L3, std] at *; try simp only [syS, reduceCtorEq, Int.reduceToNat, Int.reduceAdd, Int.reduceSub] at *)
       simp only [zcq, (zak s).1] at h7 |-
       exact zw5 hx h1 h4 h7
     · (subst hL; subst hQ; simp only [L2, L3, std] at *; try simp only [syS, reduceCtorEq, Int.reduceToNat, Int.reduceAdd, Int.reduceSub] at *)
       simp only [zcq, (zak s).1] at h7 |-
       exact zw5 hx h1 h4 h7
     · (cbv; try simp only [syT, true_and, and_true])
       (subst hL; subst hQ; simp only [L2, L3, std] at *; try simp only [syS, reduceCtorEq, Int.reduceToNat, Int.reduceAdd, Int.reduceSub] at *)
       simp only [zcq, (zak s).1] at h6 h7 |-
       obtain ⟨q1, q2⟩ := ynn hx h1 h4 h6 h7
       rw [hv2, hs2, hf1]
       exact ⟨rfl, rfl, rfl, rfl, h6, rfl, q1, q2⟩
     · (subst hL; subst hQ; simp only [L2, L3, std] at *; try simp only [syS, reduceCtorEq, Int.reduceToNat, Int.reduceAdd, Int.reduceSub] at *)
       simp only [zcq] at h7
       exact absurd h8 (by decide)
     · (subst hL; subst hQ; simp only [L2, L3, std] at *; try simp only [syS, reduceCtorEq, Int.reduceToNat, Int.reduceAdd, Int.reduceSub] at *)
       omega
     · (cbv; try simp only [syT, true_and, and_true])
       (subst hL; subst hQ; simp only [L2, L3, std] at *; try simp only [syS, reduceCtorEq, Int.reduceToNat, Int.reduceAdd, Int.reduceSub] at *)
       simp only [zcq, (zak s).1] at h7 |-; exact yqq hx h1 h4 h7 (by simp) ha1 hs1 hf1
     · (subst hL; subst hQ; simp only [L2, L3, std] at *; try simp only [syS, reduceCtorEq, Int.reduceToNat, Int.reduceAdd, Int.reduceSub] at *)
       simp only [zcq] at h2 h3 h5 h6 h7
       omega
   | [a, b, c, d, e], hx =>
     (cbv; try simp only [syT, true_and, and_true])
     obtain ⟨s1, hs1⟩ : ∃ s1, s1 = za7 s := ⟨_, rfl⟩
     obtain ⟨s2, hs2⟩ : ∃ s2, s2 = (za7 s).drop (zbz (s.drop 1)).toNat := ⟨_, rfl⟩
     obtain ⟨v1, hv1⟩ : ∃ v1, v1 = CV.mk 1 (zbz (s.drop 1)) [] [] := ⟨_, rfl⟩
     obtain ⟨v2, hv2⟩ : ∃ v2, v2 = CV.mk 2 0 ((za7 s).take (zbz (s.drop 1)).toNat) [] := ⟨_, rfl⟩
     obtain ⟨a1, ha1⟩ : ∃ a1, a1 = Lv.mk (zbz (s.drop 1)) [] := ⟨_, rfl⟩
     obtain ⟨f1, hf1⟩ : ∃ f1, f1 = f - 1 := ⟨_, rfl⟩
     refine ⟨fun h1 => ?_, fun h1 => ⟨?_, fun h2 => ?_, fun h2 => ⟨fun h3 => ?_, fun h3 => ⟨?_, fun h4 => ?_, fun h4 => ⟨?_, fun h5 => ⟨⟨[a, b, c, d, e], s1, f1, v1⟩, ?_⟩, fun h5 => ⟨fun h6 => ⟨fun h7 => ?_, fun h7 => ⟨?_, ?_, ⟨[a, b, c, d, e], s2, f1, v2⟩, ?_⟩⟩, fun h6 => ⟨fun h7 => ⟨fun h8 => ?_, fun h8 => ⟨?_, ⟨[a1, a, b, c, d, e], s1, f1, v⟩, ?_⟩⟩, fun h7 => ?_⟩⟩⟩⟩⟩⟩⟩
     · (subst hL; subst hQ; simp only [L2, L3, std] at *; try simp only [syS, reduceCtorEq, Int.reduceToNat, Int.reduceAdd, Int.reduceSub] at *)
       exact zb9 (ynr hx h1)
     · (subst hL; subst hQ; simp only [L2, L3, std] at *; try simp only [syS, reduceCtorEq, Int.reduceToNat, Int.reduceAdd, Int.reduceSub] at *)
       have := List.length_pos_iff.2 h1
       omega
     · (subst hL; subst hQ; simp only [L2, L3, std] at *; try simp only [syS, reduceCtorEq, Int.reduceToNat, Int.reduceAdd, Int.reduceSub] at *)
       rw [zcq] at h2
       exact zb9 (zw6 hx h1 (.inl h2))
     · (subst hL; subst hQ; simp only [L2, L3, std] at *; try simp only [syS, reduceCtorEq, Int.reduceToNat, Int.reduceAdd, Int.reduceSub] at *)
       rw [zcq] at h3
       exact zb9 (zw6 hx h1 (.inr h3))
     · (subst hL; subst hQ; simp only [L2, L3, std] at *; try simp only [syS, reduceCtorEq, Int.reduceToNat, Int.reduceAdd, Int.reduceSub] at *)
       have := List.length_pos_iff.2 h1
       omega
     · (subst hL; subst hQ; simp only [L2, L3, std] at *; try simp only [syS, reduceCtorEq, Int.reduceToNat, Int.reduceAdd, Int.reduceSub] at *)
       rw [zcq] at h2 h3
       exact zb9 (ynq hx h1 h2 h3 h4)
     · (subst hL; subst hQ; simp only [L2, L3, std] at *; try simp only [syS, reduceCtorEq, Int.reduceToNat, Int.reduceAdd, Int.reduceSub] at *)
       rw [(zak s).2]
       exact ztt h1 h4
     · (cbv; try simp only [syT, true_and, and_true])
       (subst hL; subst hQ; simp only [L2, L3, std] at *; try simp only [syS, reduceCtorEq, Int.reduceToNat, Int.reduceAdd, Int.reduceSub] at *)
       simp only [zcq, (zak s).1] at h5 |-
       obtain ⟨q1, q2⟩ := ynp hx h1 h4 h5
       rw [hv1, hs1, hf1]
       exact ⟨rfl, rfl, rfl, rfl, h5, rfl, q1, q2⟩
     · (subst hL; subst hQ; simp only [L2, L3, std] at *; try simp only [syS, reduceCtorEq, Int.reduceToNat, Int.reduceAdd, Int.reduceSub] at *)
       simp only [zcq, (zak s).1] at h6 h7
       exact zb9 (yno hx h1 h4 h6 h7)
     · (subst hL; subst hQ; simp only [L2, L3, std] at *; try simp only [syS, reduceCtorEq, Int.reduceToNat, Int.reduceAdd, Int.reduceSub] at *)
       simp only [zcq, (zak s).1] at h7 |-
       exact zw5 hx h1 h4 h7
     · (subst hL; subst hQ; simp only [L2, L3, std] at *; try simp only [syS, reduceCtorEq, Int.reduceToNat, Int.reduceAdd, Int.reduceSub] at *)
       simp only [zcq, (zak s).1] at h7 |-
       exact zw5 hx h1 h4 h7
     · (cbv; try simp only [syT, true_and, and_true])
       (subst hL; subst hQ; simp only [L2, L3, std] at *; try simp only [syS, reduceCtorEq, Int.reduceToNat, Int.reduceAdd, Int.reduceSub] at *)
       simp only [zcq, (zak s).1] at h6 h7 |-
       obtain ⟨q1, q2⟩ := ynn hx h1 h4 h6 h7
       rw [hv2, hs2, hf1]
       exact ⟨rfl, rfl, rfl, rfl, h6, rfl, q1, q2⟩
     · (subst hL; subst hQ; simp only [L2, L3, std] at *; try simp only [syS, reduceCtorEq, Int.reduceToNat, Int.reduceAdd, Int.reduceSub] at *)
       simp only [zcq] at h7
       exact absurd h8 (by decide)
     · (subst hL; subst hQ; simp only [L2, L3, std] at *; try simp only [syS, reduceCtorEq, Int.reduceToNat, Int.reduceAdd, Int.reduceSub] at *)
       omega
     · (cbv; try simp only [syT, true_and, and_true])
       (subst hL; subst hQ; simp only [L2, L3, std] at *; try simp only [syS, reduceCtorEq, Int.reduceToNat, Int.reduceAdd, Int.reduceSub] at *)
       simp only [zcq, (zak s).1] at h7 |-; exact yqq hx h1 h4 h7 (by simp) ha1 hs1 hf1
     · (subst hL; subst hQ; simp only [L2, L3, std] at *; try simp only [syS, reduceCtorEq, Int.reduceToNat, Int.reduceAdd, Int.reduceSub] at *)
       simp only [zcq] at h2 h3 h5 h6 h7
       omega
   | [a, b, c, d, e, k], hx =>
     (cbv; try simp only [syT, true_and, and_true])
     obtain ⟨s1, hs1⟩ : ∃ s1, s1 = za7 s := ⟨_, rfl⟩
     obtain ⟨s2, hs2⟩ : ∃ s2, s2 = (za7 s).drop (zbz (s.drop 1)).toNat := ⟨_, rfl⟩
     obtain ⟨v1, hv1⟩ : ∃ v1, v1 = CV.mk 1 (zbz (s.drop 1)) [] [] := ⟨_, rfl⟩
     obtain ⟨v2, hv2⟩ : ∃ v2, v2 = CV.mk 2 0 ((za7 s).take (zbz (s.drop 1)).toNat) [] := ⟨_, rfl⟩
     obtain ⟨a1, ha1⟩ : ∃ a1, a1 = Lv.mk (zbz (s.drop 1)) [] := ⟨_, rfl⟩
     obtain ⟨f1, hf1⟩ : ∃ f1, f1 = f - 1 := ⟨_, rfl⟩
     refine ⟨fun h1 => ?_, fun h1 => ⟨?_, fun h2 => ?_, fun h2 => ⟨fun h3 => ?_, fun h3 => ⟨?_, fun h4 => ?_, fun h4 => ⟨?_, fun h5 => ⟨⟨[a, b, c, d, e, k], s1, f1, v1⟩, ?_⟩, fun h5 => ⟨fun h6 => ⟨fun h7 => ?_, fun h7 => ⟨?_, ?_, ⟨[a, b, c, d, e, k], s2, f1, v2⟩, ?_⟩⟩, fun h6 => ⟨fun h7 => ⟨fun h8 => ?_, fun h8 => ⟨?_, ⟨[a1, a, b, c, d, e, k], s1, f1, v⟩, ?_⟩⟩, fun h7 => ?_⟩⟩⟩⟩⟩⟩⟩
     · (subst hL; subst hQ; simp only [L2, L3, std] at *; try simp only [syS, reduceCtorEq, Int.reduceToNat, Int.reduceAdd, Int.reduceSub] at *)
       exact zb9 (ynr hx h1)
     · (subst hL; subst hQ; simp only [L2, L3, std] at *; try simp only [syS, reduceCtorEq, Int.reduceToNat, Int.reduceAdd, Int.reduceSub] at *)
       have := List.length_pos_iff.2 h1
       omega
     · (subst hL; subst hQ; simp only [L2, L3, std] at *; try simp only [syS, reduceCtorEq, Int.reduceToNat, Int.reduceAdd, Int.reduceSub] at *)
       rw [zcq] at h2
       exact zb9 (zw6 hx h1 (.inl h2))
     · (subst hL; subst hQ; simp only [L2, L3, std] at *; try simp only [syS, reduceCtorEq, Int.reduceToNat, Int.reduceAdd, Int.reduceSub] at *)
       rw [zcq] at h3
       exact zb9 (zw6 hx h1 (.inr h3))
     · (subst hL; subst hQ; simp only [L2, L3, std] at *; try simp only [syS, reduceCtorEq, Int.reduceToNat, Int.reduceAdd, Int.reduceSub] at *)
       have := List.length_pos_iff.2 h1
       omega
     · (subst hL; subst hQ; simp only [L2, L3, std] at *; try simp only [syS, reduceCtorEq, Int.reduceToNat, Int.reduceAdd, Int.reduceSub] at *)
       rw [zcq] at h2 h3
       exact zb9 (ynq hx h1 h2 h3 h4)
     · (subst hL; subst hQ; simp only [L2, L3, std] at *; try simp only [syS, reduceCtorEq, Int.reduceToNat, Int.reduceAdd, Int.reduceSub] at *)
       rw [(zak s).2]
       exact ztt h1 h4
     · (cbv; try simp only [syT, true_and, and_true])
       (subst hL; subst hQ; simp only [L2, L3, std] at *; try simp only [syS, reduceCtorEq, Int.reduceToNat, Int.reduceAdd, Int.reduceSub] at *)
       simp only [zcq, (zak s).1] at h5 |-
       obtain ⟨q1, q2⟩ := ynp hx h1 h4 h5
       rw [hv1, hs1, hf1]
       exact ⟨rfl, rfl, rfl, rfl, h5, rfl, q1, q2⟩
     · (subst hL; subst hQ; simp only [L2, L3, std] at *; try simp only [syS, reduceCtorEq, Int.reduceToNat, Int.reduceAdd, Int.reduceSub] at *)
       simp only [zcq, (zak s).1] at h6 h7
       exact zb9 (yno hx h1 h4 h6 h7)
     · (subst hL; subst hQ; simp only [L2, L3, std] at *; try simp only [syS, reduceCtorEq, Int.reduceToNat, Int.reduceAdd, Int.reduceSub] at *)
       simp only [zcq, (zak s).1] at h7 |-
       exact zw5 hx h1 h4 h7
     · (subst hL; subst hQ; simp only [L2, L3, std] at *; try simp only [syS, reduceCtorEq, Int.reduceToNat, Int.reduceAdd, Int.reduceSub] at *)
       simp only [zcq, (zak s).1] at h7 |-
       exact zw5 hx h1 h4 h7
     · (cbv; try simp only [syT, true_and, and_true])
       (subst hL; subst hQ; simp only [L2, L3, std] at *; try simp only [syS, reduceCtorEq, Int.reduceToNat, Int.reduceAdd, Int.reduceSub] at *)
       simp only [zcq, (zak s).1] at h6 h7 |-
       obtain ⟨q1, q2⟩ := ynn hx h1 h4 h6 h7
       rw [hv2, hs2, hf1]
       exact ⟨rfl, rfl, rfl, rfl, h6, rfl, q1, q2⟩
     · (subst hL; subst hQ; simp only [L2, L3, std] at *; try simp only [syS, reduceCtorEq, Int.reduceToNat, Int.reduceAdd, Int.reduceSub] at *)
       simp only [zcq] at h7
       exact zb9 (nx_7 hx h1 h4 h7 rfl)
     · (subst hL; subst hQ; simp only [L2, L3, std] at *; try simp only [syS, reduceCtorEq, Int.reduceToNat, Int.reduceAdd, Int.reduceSub] at *)
       all_goals omega
     · all_goals skip
       (subst hL; subst hQ; simp only [L2, L3, std] at *; try simp only [syS, reduceCtorEq, Int.reduceToNat, Int.reduceAdd, Int.reduceSub] at *)
       all_goals omega
     · (subst hL; subst hQ; simp only [L2, L3, std] at *; try simp only [syS, reduceCtorEq, Int.reduceToNat, Int.reduceAdd, Int.reduceSub] at *)
       simp only [zcq] at h2 h3 h5 h6 h7
       omega
   | a :: b :: c :: d :: e :: k :: m :: r, hx =>
     have h7 : (a :: b :: c :: d :: e :: k :: m :: r).length <= 6 := by { (subst hL; subst hQ; simp only [L2, L3, std] at *; try simp only [syS, reduceCtorEq, Int.reduceToNat, Int.reduceAdd, Int.reduceSub] at *); exact hx.1 }
     exact absurd h7 (by simp)
 · obtain ⟨st, s, f, v⟩ := x
   cbv at hx
   match st, hx with
   | [], hx =>
     (cbv; try simp only [syT, true_and, and_true])
     refine ⟨fun h0 => ?_, fun h0 => ?_⟩
     · (subst hL; subst hQ; simp only [L2, L3, std] at *; try simp only [syS, reduceCtorEq, Int.reduceToNat, Int.reduceAdd, Int.reduceSub] at *)
       exact ynt (nd_0 hx)
     · (subst hL; subst hQ; simp only [L2, L3, std] at *; try simp only [syS, reduceCtorEq, Int.reduceToNat, Int.reduceAdd, Int.reduceSub] at *)
   | [a], hx =>
     (cbv; try simp only [syT, true_and, and_true])
     obtain ⟨a', ha'⟩ : ∃ a', a' = Lv.mk (a.left - 1) (a.l ++ [v]) := ⟨_, rfl⟩
     refine ⟨fun h0 => ?_, fun h0 => ⟨⟨?_, ?_, ?_, ?_, ?_, ⟨[a'], s, f, v⟩, ?_⟩, ?_, ?_, ?_, ?_, ?_, ?_, ⟨[a'], s, f, v⟩, ?_⟩⟩
     · (subst hL; subst hQ; simp only [L2, L3, std] at *; try simp only [syS, reduceCtorEq, Int.reduceToNat, Int.reduceAdd, Int.reduceSub] at *)
       exact absurd h0 (by decide)
     · (subst hL; subst hQ; simp only [L2, L3, std]; try simp only [syS, reduceCtorEq, Int.reduceToNat, Int.reduceAdd, Int.reduceSub]) <;> decide
     · (subst hL; subst hQ; simp only [L2, L3, std] at *; try simp only [syS, reduceCtorEq, Int.reduceToNat, Int.reduceAdd, Int.reduceSub] at *)
       exact zel (zl6 hx).2.1
     · (subst hL; subst hQ; simp only [L2, L3, std]; try simp only [syS, reduceCtorEq, Int.reduceToNat, Int.reduceAdd, Int.reduceSub]) <;> decide
     · (subst hL; subst hQ; simp only [L2, L3, std]; try simp only [syS, reduceCtorEq, Int.reduceToNat, Int.reduceAdd, Int.reduceSub]) <;> decide
     · (subst hL; subst hQ; simp only [L2, L3, std]; try simp only [syS, reduceCtorEq, Int.reduceToNat, Int.reduceAdd, Int.reduceSub]) <;> decide
     · (cbv; try simp only [syT, true_and, and_true])
       (subst hL; subst hQ; simp only [L2, L3, std] at *; try simp only [syS, reduceCtorEq, Int.reduceToNat, Int.reduceAdd, Int.reduceSub] at *)
       obtain ⟨q1, q2, q3, q4, q5⟩ := zl6 hx
       subst ha'
       have e : lenL (a.l ++ [v]) = a.l.length + 1 := by unfold lenL; simp
       exact ⟨⟨e.symm, fun i j hi hj => zgt a.l v (by rw [<- e]; exact hi) hj⟩, e.symm, Int.emod_eq_of_lt (by omega) (by omega), q1, q5⟩
     · (subst hL; subst hQ; simp only [L2, L3, std]; try simp only [syS, reduceCtorEq, Int.reduceToNat, Int.reduceAdd, Int.reduceSub]) <;> decide
     · (subst hL; subst hQ; simp only [L2, L3, std] at *; try simp only [syS, reduceCtorEq, Int.reduceToNat, Int.reduceAdd, Int.reduceSub] at *)
       exact zel (zl6 hx).2.1
     · (subst hL; subst hQ; simp only [L2, L3, std]; try simp only [syS, reduceCtorEq, Int.reduceToNat, Int.reduceAdd, Int.reduceSub]) <;> decide
     · (subst hL; subst hQ; simp only [L2, L3, std] at *; try simp only [syS, reduceCtorEq, Int.reduceToNat, Int.reduceAdd, Int.reduceSub] at *)
       exact zz2 _
     · (subst hL; subst hQ; simp only [L2, L3, std]; try simp only [syS, reduceCtorEq, Int.reduceToNat, Int.reduceAdd, Int.reduceSub]) <;> decide
     · (subst hL; subst hQ; simp only [L2, L3, std]; try simp only [syS, reduceCtorEq, Int.reduceToNat, Int.reduceAdd, Int.reduceSub]) <;> decide
     · (cbv; try simp only [syT, true_and, and_true])
       (subst hL; subst hQ; simp only [L2, L3, std] at *; try simp only [syS, reduceCtorEq, Int.reduceToNat, Int.reduceAdd, Int.reduceSub] at *)
       obtain ⟨q1, q2, q3, q4, q5⟩ := zl6 hx
       subst ha'
       have e : lenL (a.l ++ [v]) = a.l.length + 1 := by unfold lenL; simp
       exact ⟨⟨e.symm, fun i j hi hj => zi6 a.l v (by rw [<- e]; exact hi) hj⟩, e.symm, Int.emod_eq_of_lt (by omega) (by omega), q1, q5⟩
   | [a, b], hx =>
     (cbv; try simp only [syT, true_and, and_true])
     obtain ⟨a', ha'⟩ : ∃ a', a' = Lv.mk (a.left - 1) (a.l ++ [v]) := ⟨_, rfl⟩
     refine ⟨fun h0 => ?_, fun h0 => ⟨⟨?_, ?_, ?_, ?_, ?_, ⟨[a', b], s, f, v⟩, ?_⟩, ?_, ?_, ?_, ?_, ?_, ?_, ⟨[a', b], s, f, v⟩, ?_⟩⟩
     · (subst hL; subst hQ; simp only [L2, L3, std] at *; try simp only [syS, reduceCtorEq, Int.reduceToNat, Int.reduceAdd, Int.reduceSub] at *)
       exact absurd h0 (by decide)
     · (subst hL; subst hQ; simp only [L2, L3, std]; try simp only [syS, reduceCtorEq, Int.reduceToNat, Int.reduceAdd, Int.reduceSub]) <;> decide
     · (subst hL; subst hQ; simp only [L2, L3, std] at *; try simp only [syS, reduceCtorEq, Int.reduceToNat, Int.reduceAdd, Int.reduceSub] at *)
       exact zel (zl6 hx).2.1
     · (subst hL; subst hQ; simp only [L2, L3, std]; try simp only [syS, reduceCtorEq, Int.reduceToNat, Int.reduceAdd, Int.reduceSub]) <;> decide
     · (subst hL; subst hQ; simp only [L2, L3, std]; try simp only [syS, reduceCtorEq, Int.reduceToNat, Int.reduceAdd, Int.reduceSub]) <;> decide
     · (subst hL; subst hQ; simp only [L2, L3, std]; try simp only [syS, reduceCtorEq, Int.reduceToNat, Int.reduceAdd, Int.reduceSub]) <;> decide
     · (cbv; try simp only [syT, true_and, and_true])
       (subst hL; subst hQ; simp only [L2, L3, std] at *; try simp only [syS, reduceCtorEq, Int.reduceToNat, Int.reduceAdd, Int.reduceSub] at *)
       obtain ⟨q1, q2, q3, q4, q5⟩ := zl6 hx
       subst ha'
       have e : lenL (a.l ++ [v]) = a.l.length + 1 := by unfold lenL; simp
       exact ⟨⟨e.symm, fun i j hi hj => zgt a.l v (by rw [<- e]; exact hi) hj⟩, e.symm, Int.emod_eq_of_lt (by omega) (by omega), q1, q5⟩
     · (subst hL; subst hQ; simp only [L2, L3, std]; try simp only [syS, reduceCtorEq, Int.reduceToNat, Int.reduceAdd, Int.reduceSub]) <;> decide
     · (subst hL; subst hQ; simp only [L2, L3, std] at *; try simp only [syS, reduceCtorEq, Int.reduceToNat, Int.reduceAdd, Int.reduceSub] at *)
       exact zel (zl6 hx).2.1
     · (subst hL; subst hQ; simp only [L2, L3, std]; try simp only [syS, reduceCtorEq, Int.reduceToNat, Int.reduceAdd, Int.reduceSub]) <;> decide
     · (subst hL; subst hQ; simp only [L2, L3, std] at *; try simp only [syS, reduceCtorEq, Int.reduceToNat, Int.reduceAdd, Int.reduceSub] at *)
       exact zz2 _
     · (subst hL; subst hQ; simp only [L2, L3, std]; try simp only [syS, reduceCtorEq, Int.reduceToNat, Int.reduceAdd, Int.reduceSub]) <;> decide
     · (subst hL; subst hQ; simp only [L2, L3, std]; try simp only [syS, reduceCtorEq, Int.reduceToNat, Int.reduceAdd, Int.reduceSub]) <;> decide
     · (cbv; try simp only [syT, true_and, and_true])
       (subst hL; subst hQ; simp only [L2, L3, std] at *; try simp only [syS, reduceCtorEq, Int.reduceToNat, Int.reduceAdd, Int.reduceSub] at *)
       obtain ⟨q1, q2, q3, q4, q5⟩ := zl6 hx
       subst ha'
       have e : lenL (a.l ++ [v]) = a.l.length + 1 := by unfold lenL; simp
       exact ⟨⟨e.symm, fun i j hi hj => zi6 a.l v (by rw [<- e]; exact hi) hj⟩, e.symm, Int.emod_eq_of_lt (by omega) (by omega), q1, q5⟩
   | [a, b, c], hx =>
     (cbv; try simp only [syT, true_and, and_true])
     obtain ⟨a', ha'⟩ : ∃ a', a' = Lv.mk (a.left - 1) (a.l ++ [v]) := ⟨_, rfl⟩
     refine ⟨fun h0 => ?_, fun h0 => ⟨⟨?_, ?_, ?_, ?_, ?_, ⟨[a', b, c], s, f, v⟩, ?_⟩, ?_, ?_, ?_, ?_, ?_, ?_, ⟨[a', b, c], s, f, v⟩, ?_⟩⟩
     · (subst hL; subst hQ; simp only [L2, L3, std] at *; try simp only [syS, reduceCtorEq, Int.reduceToNat, Int.reduceAdd, Int.reduceSub] at *)
       exact absurd h0 (by decide)
     · (subst hL; subst hQ; simp only [L2, L3, std]; try simp only [syS, reduceCtorEq, Int.reduceToNat, Int.reduceAdd, Int.reduceSub]) <;> decide
     · (subst hL; subst hQ; simp only [L2, L3, std] at *; try simp only [syS, reduceCtorEq, Int.reduceToNat, Int.reduceAdd, Int.reduceSub] at *)
       exact zel (zl6 hx).2.1
     · (subst hL; subst hQ; simp only [L2, L3, std]; try simp only [syS, reduceCtorEq, Int.reduceToNat, Int.reduceAdd, Int.reduceSub]) <;> decide
     · (subst hL; subst hQ; simp only [L2, L3, std]; try simp only [syS, reduceCtorEq, Int.reduceToNat, Int.reduceAdd, Int.reduceSub]) <;> decide
     · (subst hL; subst hQ; simp only [L2, L3, std]; try simp only [syS, reduceCtorEq, Int.reduceToNat, Int.reduceAdd, Int.reduceSub]) <;> decide
     · (cbv; try simp only [syT, true_and, and_true])
       (subst hL; subst hQ; simp only [L2, L3, std] at *; try simp only [syS, reduceCtorEq, Int.reduceToNat, Int.reduceAdd, Int.reduceSub] at *)
       obtain ⟨q1, q2, q3, q4, q5⟩ := zl6 hx
       subst ha'
       have e : lenL (a.l ++ [v]) = a.l.length + 1 := by unfold lenL; simp
       exact ⟨⟨e.symm, fun i j hi hj => zgt a.l v (by rw [<- e]; exact hi) hj⟩, e.symm, Int.emod_eq_of_lt (by omega) (by omega), q1, q5⟩
     · (subst hL; subst hQ; simp only [L2, L3, std]; try simp only [syS, reduceCtorEq, Int.reduceToNat, Int.reduceAdd, Int.reduceSub]) <;> decide
     · (subst hL; subst hQ; simp only [L2, L3, std] at *; try simp only [syS, reduceCtorEq, Int.reduceToNat, Int.reduceAdd, Int.reduceSub] at *)
       exact zel (zl6 hx).2.1
     · (subst hL; subst hQ; simp only [L2, L3, std]; try simp only [syS, reduceCtorEq, Int.reduceToNat, Int.reduceAdd, Int.reduceSub]) <;> decide
     · (subst hL; subst hQ; simp only [L2, L3, std] at *; try simp only [syS, reduceCtorEq, Int.reduceToNat, Int.reduceAdd, Int.reduceSub] at *)
       exact zz2 _
     · (subst hL; subst hQ; simp only [L2, L3, std]; try simp only [syS, reduceCtorEq, Int.reduceToNat, Int.reduceAdd, Int.reduceSub]) <;> decide
     · (subst hL; subst hQ; simp only [L2, L3, std]; try simp only [syS, reduceCtorEq, Int.reduceToNat, Int.reduceAdd, Int.reduceSub]) <;> decide
     · (cbv; try simp only [syT, true_and, and_true])
       (subst hL; subst hQ; simp only [L2, L3, std] at *; try simp only [syS, reduceCtorEq, Int.reduceToNat, Int.reduceAdd, Int.reduceSub] at *)
       obtain ⟨q1, q2, q3, q4, q5⟩ := zl6 hx
       subst ha'
       have e : lenL (a.l ++ [v]) = a.l.length + 1 := by unfold lenL; simp
       exact ⟨⟨e.symm, fun i j hi hj => zi6 a.l v (by rw [<- e]; exact hi) hj⟩, e.symm, Int.emod_eq_of_lt (by omega) (by omega), q1, q5⟩
   | [a, b, c, d], hx =>
     (cbv; try simp only [syT, true_and, and_true])
     obtain ⟨a', ha'⟩ : ∃ a', a' = Lv.mk (a.left - 1) (a.l ++ [v]) := ⟨_, rfl⟩
     refine ⟨fun h0 => ?_, fun h0 => ⟨⟨?_, ?_, ?_, ?_, ?_, ⟨[a', b, c, d], s, f, v⟩, ?_⟩, ?_, ?_, ?_, ?_, ?_, ?_, ⟨[a', b, c, d], s, f, v⟩, ?_⟩⟩
     · (subst hL; subst hQ; simp only [L2, L3, std] at *; try simp only [syS, reduceCtorEq, Int.reduceToNat, Int.reduceAdd, Int.reduceSub] at *)
       exact absurd h0 (by decide)
     · (subst hL; subst hQ; simp only [L2, L3, std]; try simp only [syS, reduceCtorEq, Int.reduceToNat, Int.reduceAdd, Int.reduceSub]) <;> decide
     · (subst hL; subst hQ; simp only [L2, L3, std] at *; try simp only [syS, reduceCtorEq, Int.reduceToNat, Int.reduceAdd, Int.reduceSub] at *)
       exact zel (zl6 hx).2.1
     · (subst hL; subst hQ; simp only [L2, L3, std]; try simp only [syS, reduceCtorEq, Int.reduceToNat, Int.reduceAdd, Int.reduceSub]) <;> decide
     · (subst hL; subst hQ; simp only [L2, L3, std]; try simp only [syS, reduceCtorEq, Int.reduceToNat, Int.reduceAdd, Int.reduceSub]) <;> decide
     · (subst hL; subst hQ; simp only [L2, L3, std]; try simp only [syS, reduceCtorEq, Int.reduceToNat, Int.reduceAdd, Int.reduceSub]) <;> decide
     · (cbv; try simp only [syT, true_and, and_true])
       (subst hL; subst hQ; simp only [L2, L3, std] at *; try simp only [syS, reduceCtorEq, Int.reduceToNat, Int.reduceAdd, Int.reduceSub] at *)
       obtain ⟨q1, q2, q3, q4, q5⟩ := zl6 hx
       subst ha'
       have e : lenL (a.l ++ [v]) = a.l.length + 1 := by unfold lenL; simp
       exact ⟨⟨e.symm, fun i j hi hj => zgt a.l v (by rw [<- e]; exact hi) hj⟩, e.symm, Int.emod_eq_of_lt (by omega) (by omega), q1, q5⟩
     · (subst hL; subst hQ; simp only [L2, L3, std]; try simp only [syS, reduceCtorEq, Int.reduceToNat, Int.reduceAdd, Int.reduceSub]) <;> decide
     · (subst hL; subst hQ; simp only [L2, L3, std] at *; try simp only [syS, reduceCtorEq, Int.reduceToNat, Int.reduceAdd, Int.reduceSub] at *)
       exact zel (zl6 hx).2.1
     · (subst hL; subst hQ; simp only [L2, L3, std]; try simp only [syS, reduceCtorEq, Int.reduceToNat, Int.reduceAdd, Int.reduceSub]) <;> decide
     · (subst hL; subst hQ; simp only [L2, L3, std] at *; try simp only [syS, reduceCtorEq, Int.reduceToNat, Int.reduceAdd, Int.reduceSub] at *)
       exact zz2 _
     · (subst hL; subst hQ; simp only [L2, L3, std]; try simp only [syS, reduceCtorEq, Int.reduceToNat, Int.reduceAdd, Int.reduceSub]) <;> decide
     · (subst hL; subst hQ; simp only [L2, L3, std]; try simp only [syS, reduceCtorEq, Int.reduceToNat, Int.reduceAdd, Int.reduceSub]) <;> decide
     · (cbv; try simp only [syT, true_and, and_true])
       (subst hL; subst hQ; simp only [L2, L3, std] at *; try simp only [syS, reduceCtorEq, Int.reduceToNat, Int.reduceAdd, Int.reduceSub] at *)
       obtain ⟨q1, q2, q3, q4, q5⟩ := zl6 hx
       subst ha'
       have e : lenL (a.l ++ [v]) = a.l.length + 1 := by unfold lenL; simp
       exact ⟨⟨e.symm, fun i j hi hj => zi6 a.l v (by rw [<- e]; exact hi) hj⟩, e.symm, Int.emod_eq_of_lt (by omega) (by omega), q1, q5⟩
   | [a, b, c, d, e], hx =>
     (cbv; try simp only [syT, true_and, and_true])
     obtain ⟨a', ha'⟩ : ∃ a', a' = Lv.mk (a.left - 1) (a.l ++ [v]) := ⟨_, rfl⟩
     refine ⟨fun h0 => ?_, fun h0 => ⟨⟨?_, ?_, ?_, ?_, ?_, ⟨[a', b, c, d, e], s, f, v⟩, ?_⟩, ?_, ?_, ?_, ?_, ?_, ?_, ⟨[a', b, c, d, e], s, f, v⟩, ?_⟩⟩
     · (subst hL; subst hQ; simp only [L2, L3, std] at *; try simp only [syS, reduceCtorEq, Int.reduceToNat, Int.reduceAdd, Int.reduceSub] at *)
       exact absurd h0 (by decide)
     · (subst hL; subst hQ; simp only [L2, L3, std]; try simp only [syS, reduceCtorEq, Int.reduceToNat, Int.reduceAdd, Int.reduceSub]) <;> decide
     · (subst hL; subst hQ; simp only [L2, L3, std] at *; try simp only [syS, reduceCtorEq, Int.reduceToNat, Int.reduceAdd, Int.reduceSub] at *)
       exact zel (zl6 hx).2.1
     · (subst hL; subst hQ; simp only [L2, L3, std]; try simp only [syS, reduceCtorEq, Int.reduceToNat, Int.reduceAdd, Int.reduceSub]) <;> decide
     · (subst hL; subst hQ; simp only [L2, L3, std]; try simp only [syS, reduceCtorEq, Int.reduceToNat, Int.reduceAdd, Int.reduceSub]) <;> decide
     · (subst hL; subst hQ; simp only [L2, L3, std]; try simp only [syS, reduceCtorEq, Int.reduceToNat, Int.reduceAdd, Int.reduceSub]) <;> decide
     · (cbv; try simp only [syT, true_and, and_true])
       (subst hL; subst hQ; simp only [L2, L3, std] at *; try simp only [syS, reduceCtorEq, Int.reduceToNat, Int.reduceAdd, Int.reduceSub] at *)
       obtain ⟨q1, q2, q3, q4, q5⟩ := zl6 hx
       subst ha'
       have e : lenL (a.l ++ [v]) = a.l.length + 1 := by unfold lenL; simp
       exact ⟨⟨e.symm, fun i j hi hj => zgt a.l v (by rw [<- e]; exact hi) hj⟩, e.symm, Int.emod_eq_of_lt (by omega) (by omega), q1, q5⟩
     · (subst hL; subst hQ; simp only [L2, L3, std]; try simp only [syS, reduceCtorEq, Int.reduceToNat, Int.reduceAdd, Int.reduceSub]) <;> decide
     · (subst hL; subst hQ; simp only [L2, L3, std] at *; try simp only [syS, reduceCtorEq, Int.reduceToNat, Int.reduceAdd, Int.reduceSub] at *)
       exact zel (zl6 hx).2.1
     · (subst hL; subst hQ; simp only [L2, L3, std]; try simp only [syS, reduceCtorEq, Int.reduceToNat, Int.reduceAdd, Int.reduceSub]) <;> decide
     · (subst hL; subst hQ; simp only [L2, L3, std] at *; try simp only [syS, reduceCtorEq, Int.reduceToNat, Int.reduceAdd, Int.reduceSub] at *)
       exact zz2 _
     · (subst hL; subst hQ; simp only [L2, L3, std]; try simp only [syS, reduceCtorEq, Int.reduceToNat, Int.reduceAdd, Int.reduceSub]) <;> decide
     · (subst hL; subst hQ; simp only [L2, L3, std]; try simp only [syS, reduceCtorEq, Int.reduceToNat, Int.reduceAdd, Int.reduceSub]) <;> decide
     · (cbv; try simp only [syT, true_and, and_true])
       (subst hL; subst hQ; simp only [L2, L3, std] at *; try simp only [syS, reduceCtorEq, Int.reduceToNat, Int.reduceAdd, Int.reduceSub] at *)
       obtain ⟨q1, q2, q3, q4, q5⟩ := zl6 hx
       subst ha'
       have e : lenL (a.l ++ [v]) = a.l.length + 1 := by unfold lenL; simp
       exact ⟨⟨e.symm, fun i j hi hj => zi6 a.l v (by rw [<- e]; exact hi) hj⟩, e.symm, Int.emod_eq_of_lt (by omega) (by omega), q1, q5⟩
   | [a, b, c, d, e, k], hx =>
     (cbv; try simp only [syT, true_and, and_true])
     obtain ⟨a', ha'⟩ : ∃ a', a' = Lv.mk (a.left - 1) (a.l ++ [v]) := ⟨_, rfl⟩
     refine ⟨fun h0 => ?_, fun h0 => ⟨⟨?_, ?_, ?_, ?_, ?_, ⟨[a', b, c, d, e, k], s, f, v⟩, ?_⟩, ?_, ?_, ?_, ?_, ?_, ?_, ⟨[a', b, c, d, e, k], s, f, v⟩, ?_⟩⟩
     · (subst hL; subst hQ; simp only [L2, L3, std] at *; try simp only [syS, reduceCtorEq, Int.reduceToNat, Int.reduceAdd, Int.reduceSub] at *)
       exact absurd h0 (by decide)
     · (subst hL; subst hQ; simp only [L2, L3, std]; try simp only [syS, reduceCtorEq, Int.reduceToNat, Int.reduceAdd, Int.reduceSub]) <;> decide
     · (subst hL; subst hQ; simp only [L2, L3, std] at *; try simp only [syS, reduceCtorEq, Int.reduceToNat, Int.reduceAdd, Int.reduceSub] at *)
       exact zel (zl6 hx).2.1
     · (subst hL; subst hQ; simp only [L2, L3, std]; try simp only [syS, reduceCtorEq, Int.reduceToNat, Int.reduceAdd, Int.reduceSub]) <;> decide
     · (subst hL; subst hQ; simp only [L2, L3, std]; try simp only [syS, reduceCtorEq, Int.reduceToNat, Int.reduceAdd, Int.reduceSub]) <;> decide
     · (subst hL; subst hQ; simp only [L2, L3, std]; try simp only [syS, reduceCtorEq, Int.reduceToNat, Int.reduceAdd, Int.reduceSub]) <;> decide
     · (cbv; try simp only [syT, true_and, and_true])
       (subst hL; subst hQ; simp only [L2, L3, std] at *; try simp only [syS, reduceCtorEq, Int.reduceToNat, Int.reduceAdd, Int.reduceSub] at *)
       obtain ⟨q1, q2, q3, q4, q5⟩ := zl6 hx
       subst ha'
       have e : lenL (a.l ++ [v]) = a.l.length + 1 := by unfold lenL; simp
       exact ⟨⟨e.symm, fun i j hi hj => zgt a.l v (by rw [<- e]; exact hi) hj⟩, e.symm, Int.emod_eq_of_lt (by omega) (by omega), q1, q5⟩
     · (subst hL; subst hQ; simp only [L2, L3, std]; try simp only [syS, reduceCtorEq, Int.reduceToNat, Int.reduceAdd, Int.reduceSub]) <;> decide
     · (subst hL; subst hQ; simp only [L2, L3, std] at *; try simp only [syS, reduceCtorEq, Int.reduceToNat, Int.reduceAdd, Int.reduceSub] at *)
       exact zel (zl6 hx).2.1
     · (subst hL; subst hQ; simp only [L2, L3, std]; try simp only [syS, reduceCtorEq, Int.reduceToNat, Int.reduceAdd, Int.reduceSub]) <;> decide
     · (subst hL; subst hQ; simp only [L2, L3, std] at *; try simp only [syS, reduceCtorEq, Int.reduceToNat, Int.reduceAdd, Int.reduceSub] at *)
       exact zz2 _
     · (subst hL; subst hQ; simp only [L2, L3, std]; try simp only [syS, reduceCtorEq, Int.reduceToNat, Int.reduceAdd, Int.reduceSub]) <;> decide
     · (subst hL; subst hQ; simp only [L2, L3, std]; try simp only [syS, reduceCtorEq, Int.reduceToNat, Int.reduceAdd, Int.reduceSub]) <;> decide
     · (cbv; try simp only [syT, true_and, and_true])
       (subst hL; subst hQ; simp only [L2, L3, std] at *; try simp only [syS, reduceCtorEq, Int.reduceToNat, Int.reduceAdd, Int.reduceSub] at *)
       obtain ⟨q1, q2, q3, q4, q5⟩ := zl6 hx
       subst ha'
       have e : lenL (a.l ++ [v]) = a.l.length + 1 := by unfold lenL; simp
       exact ⟨⟨e.symm, fun i j hi hj => zi6 a.l v (by rw [<- e]; exact hi) hj⟩, e.symm, Int.emod_eq_of_lt (by omega) (by omega), q1, q5⟩
   | a :: b :: c :: d :: e :: k :: m :: r, hx =>
     have h7 : (a :: b :: c :: d :: e :: k :: m :: r).length <= 6 := by { (subst hL; subst hQ; simp only [L2, L3, std] at *; try simp only [syS, reduceCtorEq, Int.reduceToNat, Int.reduceAdd, Int.reduceSub] at *); exact hx.1 }
     exact absurd h7 (by simp)
 · obtain ⟨st, s, f, v⟩ := x
   cbv at hx
   match st, hx with
   | [], hx =>
     obtain ⟨_, ⟨a, r, h, _⟩, _⟩ : ztx s0 ⟨[], s, f, v⟩ := by (subst hL; subst hQ; simp only [L2, L3, std] at *; try simp only [syS, reduceCtorEq, Int.reduceToNat, Int.reduceAdd, Int.reduceSub] at *); exact hx
     cases h
   | [a], hx =>
     (cbv; try simp only [syT, true_and, and_true])
     obtain ⟨v', hv'⟩ : ∃ v', v' = CV.mk 3 0 [] a.l := ⟨_, rfl⟩
     refine ⟨?_, fun h0 => ⟨?_, ⟨[], s, f, v'⟩, ?_⟩, fun h0 => ⟨⟨[a], s, f, v⟩, ?_⟩⟩
     · (subst hL; subst hQ; simp only [L2, L3, std]; try simp only [syS, reduceCtorEq, Int.reduceToNat, Int.reduceAdd, Int.reduceSub]) <;> decide
     · (subst hL; subst hQ; simp only [L2, L3, std] at *; try simp only [syS, reduceCtorEq, Int.reduceToNat, Int.reduceAdd, Int.reduceSub] at *)
       decide
     · (cbv; try simp only [syT, true_and, and_true])
       (subst hL; subst hQ; simp only [L2, L3, std] at *; try simp only [syS, reduceCtorEq, Int.reduceToNat, Int.reduceAdd, Int.reduceSub] at *)
       obtain ⟨q1, q2⟩ := yqs hx h0
       subst hv'
       exact ⟨⟨rfl, fun i j hi hj => rfl⟩, rfl, rfl, rfl, rfl, by decide, q1, q2⟩
     · (cbv; try simp only [syT, true_and, and_true])
       (subst hL; subst hQ; simp only [L2, L3, std] at *; try simp only [syS, reduceCtorEq, Int.reduceToNat, Int.reduceAdd, Int.reduceSub] at *)
       exact ⟨yqr hx h0, Nat.le_refl _⟩
   | [a, b], hx =>
     (cbv; try simp only [syT, true_and, and_true])
     obtain ⟨v', hv'⟩ : ∃ v', v' = CV.mk 3 0 [] a.l := ⟨_, rfl⟩
     refine ⟨?_, fun h0 => ⟨?_, ⟨[b], s, f, v'⟩, ?_⟩, fun h0 => ⟨⟨[a, b], s, f, v⟩, ?_⟩⟩
     · (subst hL; subst hQ; simp only [L2, L3, std]; try simp only [syS, reduceCtorEq, Int.reduceToNat, Int.reduceAdd, Int.reduceSub]) <;> decide
     · (subst hL; subst hQ; simp only [L2, L3, std] at *; try simp only [syS, reduceCtorEq, Int.reduceToNat, Int.reduceAdd, Int.reduceSub] at *)
       decide
     · (cbv; try simp only [syT, true_and, and_true])
       (subst hL; subst hQ; simp only [L2, L3, std] at *; try simp only [syS, reduceCtorEq, Int.reduceToNat, Int.reduceAdd, Int.reduceSub] at *)
       obtain ⟨q1, q2⟩ := yqs hx h0
       subst hv'
       exact ⟨⟨rfl, fun i j hi hj => rfl⟩, rfl, rfl, rfl, rfl, by decide, q1, q2⟩
     · (cbv; try simp only [syT, true_and, and_true])
       (subst hL; subst hQ; simp only [L2, L3, std] at *; try simp only [syS, reduceCtorEq, Int.reduceToNat, Int.reduceAdd, Int.reduceSub] at *)
       exact ⟨yqr hx h0, Nat.le_refl _⟩
   | [a, b, c], hx =>
     (cbv; try simp only [syT, true_and, and_true])
     obtain ⟨v', hv'⟩ : ∃ v', v' = CV.mk 3 0 [] a.l := ⟨_, rfl⟩
     refine ⟨?_, fun h0 => ⟨?_, ⟨[b, c], s, f, v'⟩, ?_⟩, fun h0 => ⟨⟨[a, b, c], s, f, v⟩, ?_⟩⟩
     · (subst hL; subst hQ; simp only [L2, L3, std]; try simp only [syS, reduceCtorEq, Int.reduceToNat, Int.reduceAdd, Int.reduceSub]) <;> decide
     · (subst hL; subst hQ; simp only [L2, L3, std] at *; try simp only [syS, reduceCtorEq, Int.reduceToNat, Int.reduceAdd, Int.reduceSub] at *)
       decide
     · (cbv; try simp only [syT, true_and, and_true])
       (subst hL; subst hQ; simp only [L2, L3, std] at *; try simp only [syS, reduceCtorEq, Int.reduceToNat, Int.reduceAdd, Int.reduceSub] at *)
       obtain ⟨q1, q2⟩ := yqs hx h0
       subst hv'
       exact ⟨⟨rfl, fun i j hi hj => rfl⟩, rfl, rfl, rfl, rfl, by decide, q1, q2⟩
     · (cbv; try simp only [syT, true_and, and_true])
       (subst hL; subst hQ; simp only [L2, L3, std] at *; try simp only [syS, reduceCtorEq, Int.reduceToNat, Int.reduceAdd, Int.reduceSub] at *)
       exact ⟨yqr hx h0, Nat.le_refl _⟩
   | [a, b, c, d], hx =>
     (cbv; try simp only [syT, true_and, and_true])
     obtain ⟨v', hv'⟩ : ∃ v', v' = CV.mk 3 0 [] a.l := ⟨_, rfl⟩
     refine ⟨?_, fun h0 => ⟨?_, ⟨[b, c, d], s, f, v'⟩, ?_⟩, fun h0 => ⟨⟨[a, b, c, d], s, f, v⟩, ?_⟩⟩
     · (subst hL; subst hQ; simp only [L2, L3, std]; try simp only [syS, reduceCtorEq, Int.reduceToNat, Int.reduceAdd, Int.reduceSub]) <;> decide
     · (subst hL; subst hQ; simp only [L2, L3, std] at *; try simp only [syS, reduceCtorEq, Int.reduceToNat, Int.reduceAdd, Int.reduceSub] at *)
       decide
     · (cbv; try simp only [syT, true_and, and_true])
       (subst hL; subst hQ; simp only [L2, L3, std] at *; try simp only [syS, reduceCtorEq, Int.reduceToNat, Int.reduceAdd, Int.reduceSub] at *)
       obtain ⟨q1, q2⟩ := yqs hx h0
       subst hv'
       exact ⟨⟨rfl, fun i j hi hj => rfl⟩, rfl, rfl, rfl, rfl, by decide, q1, q2⟩
     · (cbv; try simp only [syT, true_and, and_true])
       (subst hL; subst hQ; simp only [L2, L3, std] at *; try simp only [syS, reduceCtorEq, Int.reduceToNat, Int.reduceAdd, Int.reduceSub] at *)
       exact ⟨yqr hx h0, Nat.le_refl _⟩
   | [a, b, c, d, e], hx =>
     (cbv; try simp only [syT, true_and, and_true])
     obtain ⟨v', hv'⟩ : ∃ v', v' = CV.mk 3 0 [] a.l := ⟨_, rfl⟩
     refine ⟨?_, fun h0 => ⟨?_, ⟨[b, c, d, e], s, f, v'⟩, ?_⟩, fun h0 => ⟨⟨[a, b, c, d, e], s, f, v⟩, ?_⟩⟩
     · (subst hL; subst hQ; simp only [L2, L3, std]; try simp only [syS, reduceCtorEq, Int.reduceToNat, Int.reduceAdd, Int.reduceSub]) <;> decide
     · (subst hL; subst hQ; simp only [L2, L3, std] at *; try simp only [syS, reduceCtorEq, Int.reduceToNat, Int.reduceAdd, Int.reduceSub] at *)
       decide
     · (cbv; try simp only [syT, true_and, and_true])
       (subst hL; subst hQ; simp only [L2, L3, std] at *; try simp only [syS, reduceCtorEq, Int.reduceToNat, Int.reduceAdd, Int.reduceSub] at *)
       obtain ⟨q1, q2⟩ := yqs hx h0
       subst hv'
       exact ⟨⟨rfl, fun i j hi hj => rfl⟩, rfl, rfl, rfl, rfl, by decide, q1, q2⟩
     · (cbv; try simp only [syT, true_and, and_true])
       (subst hL; subst hQ; simp only [L2, L3, std] at *; try simp only [syS, reduceCtorEq, Int.reduceToNat, Int.reduceAdd, Int.reduceSub] at *)
       exact ⟨yqr hx h0, Nat.le_refl _⟩
   | [a, b, c, d, e, k], hx =>
     (cbv; try simp only [syT, true_and, and_true])
     obtain ⟨v', hv'⟩ : ∃ v', v' = CV.mk 3 0 [] a.l := ⟨_, rfl⟩
     refine ⟨?_, fun h0 => ⟨?_, ⟨[b, c, d, e, k], s, f, v'⟩, ?_⟩, fun h0 => ⟨⟨[a, b, c, d, e, k], s, f, v⟩, ?_⟩⟩
     · (subst hL; subst hQ; simp only [L2, L3, std]; try simp only [syS, reduceCtorEq, Int.reduceToNat, Int.reduceAdd, Int.reduceSub]) <;> decide
     · (subst hL; subst hQ; simp only [L2, L3, std] at *; try simp only [syS, reduceCtorEq, Int.reduceToNat, Int.reduceAdd, Int.reduceSub] at *)
       decide
     · (cbv; try simp only [syT, true_and, and_true])
       (subst hL; subst hQ; simp only [L2, L3, std] at *; try simp only [syS, reduceCtorEq, Int.reduceToNat, Int.reduceAdd, Int.reduceSub] at *)
       obtain ⟨q1, q2⟩ := yqs hx h0
       subst hv'
       exact ⟨⟨rfl, fun i j hi hj => rfl⟩, rfl, rfl, rfl, rfl, by decide, q1, q2⟩
     · (cbv; try simp only [syT, true_and, and_true])
       (subst hL; subst hQ; simp only [L2, L3, std] at *; try simp only [syS, reduceCtorEq, Int.reduceToNat, Int.reduceAdd, Int.reduceSub] at *)
       exact ⟨yqr hx h0, Nat.le_refl _⟩
   | a :: b :: c :: d :: e :: k :: m :: r, hx =>
     have h7 : (a :: b :: c :: d :: e :: k :: m :: r).length <= 6 := by { (subst hL; subst hQ; simp only [L2, L3, std] at *; try simp only [syS, reduceCtorEq, Int.reduceToNat, Int.reduceAdd, Int.reduceSub] at *); exact hx.1 }
     exact absurd h7 (by simp)
 · (cbv; try simp only [syT, true_and, and_true])
   obtain ⟨f, hf⟩ : ∃ f, f = s0.length + 1 := ⟨_, rfl⟩
   refine ⟨fun h => ?_, fun h => ⟨⟨[], s0, f, .mk 0 0 [] []⟩, ?_⟩⟩
   · (subst hL; subst hQ; simp only [L2, L3, std] at *; try simp only [syS, reduceCtorEq, Int.reduceToNat, Int.reduceAdd, Int.reduceSub] at *)
     exact zb9 (nm_0 s0 h)
   · (cbv; try simp only [syT, true_and, and_true])
     (subst hL; subst hQ; simp only [L2, L3, std] at *; try simp only [syS, reduceCtorEq, Int.reduceToNat, Int.reduceAdd, Int.reduceSub] at *)
     rw [hf]
     exact nm_1 s0 (by omega) _
end Sy
end Go.Proofs.YtlphgephdhadhaaGreat
namespace Go.Proofs.YtlphgephdhadhaaGreat
namespace Sy
open Go Go.RowKit
set_option maxRecDepth 100000
set_option linter.unusedSimpArgs false
set_option linter.unusedVariables false
theorem zp8 {m : Int} (h : zc8 m) (g : Nat) (st : List Lv) (c : UInt8) (r : List UInt8) (hc : 1 <= c.toNat /\ c.toNat <= 3) : zaw (g + 1) st (c :: (zav m ++ r)) =
   if c.toNat = 1 then zbq (zaw g) st (.mk 1 m [] []) r
   else if c.toNat = 2 then
     if (r.length : Int) < m then zc6 3
     else zbq (zaw g) st (.mk 2 0 (r.take m.toNat) []) (r.drop m.toNat)
   else if st.length = 6 then zc6 8
   else zca (zaw g) (⟨m, []⟩ :: st) r := by
 obtain ⟨e1, e2, e3⟩ := ydj h r
 have hcb : cb (c :: (zav m ++ r)) 0 = c.toNat := rfl
 have hr : za7 (c :: (zav m ++ r)) = r := by
   unfold za7
   rw [List.drop_succ_cons, List.drop_zero, e2]
   simp
 rw [zaw, if_neg (by simp), hcb, if_neg (by omega), List.drop_succ_cons, List.drop_zero, e1, e3, hr, if_neg (by simp)]
theorem ypk (v : CV) : 0 <= zdt v /\ 0 <= zb6 v.ls := by
 have h0 : ∀ b : List CV, 0 <= zb6 b := by
   intro b
   induction b with
   | nil => rw [zb6]; omega
   | cons v l ih => rw [zb6]; omega
 refine ⟨?_, h0 _⟩
 cases v with
 | mk k n s l =>
   rw [zdt]
   have := h0 l
   split <;> omega
def yqh (v : CV) : Prop := ∀ (st : List Lv) (s : List UInt8) (f : Nat), wfV v -> zfb v = true -> (st.length : Int) + zdt v <= 6 -> (zbb v).length <= 90000000 -> (zbb v).length + s.length < f ->
 ∃ f', s.length < f' /\ zaw f st (zbb v ++ s) = zbq (zaw f') st v s
theorem yh2 (v : CV) : 0 < (zbb v).length := by
 cases v with
 | mk k n s l =>
   rw [zai, List.length_append]
   show 0 < 1 + _
   omega
theorem zqp : ∀ l : List CV, l.length <= (zao l).length
 | [] => by simp
 | v :: l => by
   have := zqp l
   have := yh2 v
   rw [zao, List.length_append, List.length_cons]
   omega
theorem zw4 (st : List Lv) (s : List UInt8) : ∀ (l : List CV) (acc : List CV) (f : Nat), (∀ w ∈ l, yqh w) -> zgd l -> zdu l = true -> (st.length : Int) + 1 + zb6 l <= 6 -> (zao l).length <= 90000000 -> (zao l).length + s.length < f ->
   ∃ f', s.length < f' /\ zca (zaw f) (⟨(l.length : Int), acc⟩ :: st) (zao l ++ s) = zbq (zaw f') st (.mk 3 0 [] (acc ++ l)) s
 | [], acc, f, hr, hw, hb, hd, ht, hf => by
   refine ⟨f, by rw [zao] at hf; simpa using hf, ?_⟩
   rw [zca, if_pos (show ((List.length ([] : List CV) : Nat) : Int) = 0 from rfl), zao, List.nil_append, List.append_nil]
 | v :: l, acc, f, hr, hw, hb, hd, ht, hf => by
   rw [zgd] at hw
   rw [zdu, Bool.and_eq_true] at hb
   rw [zb6] at hd
   rw [zao, List.length_append] at ht hf
   obtain ⟨f1, h1, e1⟩ := hr v (by simp) (⟨((v :: l).length : Int), acc⟩ :: st) (zao l ++ s) f hw.1 hb.1 (by rw [List.length_cons]; omega) (by omega) (by rw [List.length_append]; omega)
   rw [List.length_append] at h1
   obtain ⟨f2, h2, e2⟩ := zw4 st s l (acc ++ [v]) f1 (fun w hw => hr w (by simp [hw])) hw.2 hb.2 (by omega) (by omega) h1
   refine ⟨f2, h2, ?_⟩
   rw [zca, if_neg (by simp; omega), zao, List.append_assoc, e1]
   have e3 : (((v :: l).length : Int) - 1) = (l.length : Int) := by simp
   rw [zca] at e2
   rw [zbq]
   simp only [e3]
   rw [e2, List.append_assoc, List.singleton_append]
theorem reads (v : CV) : yqh v := by
 refine yf5 (p := yqh) (fun k n s l ih => ?_) v
 intro st r f hw hb hd ht hf
 rw [wfV] at hw
 obtain ⟨g, rfl⟩ : ∃ g, f = g + 1 := ⟨f - 1, by omega⟩
 rw [zai] at ht hf |-
 rw [zfb] at hb
 by_cases h1 : k = 1
 · subst h1
   rw [if_pos rfl] at hb ht hf |-
   simp only [Bool.and_eq_true, decide_eq_true_eq, List.isEmpty_iff] at hb
   obtain ⟨rfl, rfl⟩ := hb
   rw [List.length_append] at hf
   have e : zeu 1 = [1] := rfl
   rw [e] at hf |-
   refine ⟨g, by simp at hf; omega, ?_⟩
   rw [List.singleton_append, List.cons_append, zp8 hw.1 g st 1 r (by decide)]
   rfl
 · rw [if_neg h1] at hb ht hf |-
   by_cases h2 : k = 2
   · subst h2
     rw [if_pos rfl] at hb ht hf |-
     simp only [Bool.and_eq_true, decide_eq_true_eq, List.isEmpty_iff] at hb
     obtain ⟨rfl, rfl⟩ := hb
     rw [List.length_append, List.length_append] at ht hf
     have e : zeu 2 = [2] := rfl
     rw [e] at hf |-
     refine ⟨g, by simp at hf; omega, ?_⟩
     rw [List.singleton_append, List.cons_append, List.append_assoc, zp8 ⟨by omega, by omega⟩ g st 2 (s ++ r) (by decide)]
     rw [if_neg (by decide), if_pos (by decide), if_neg (by simp; omega)]
     rw [Int.toNat_natCast, List.take_left, List.drop_left]
   · rw [if_neg h2] at hb ht hf |-
     by_cases h3 : k = 3
     · subst h3
       rw [if_pos rfl] at hb
       simp only [Bool.and_eq_true, decide_eq_true_eq] at hb
       obtain ⟨⟨rfl, rfl⟩, hb⟩ := hb
       rw [zdt, if_pos rfl] at hd
       rw [List.length_append, List.length_append] at ht hf
       have e : zeu 3 = [3] := rfl
       rw [e] at hf |-
       have hll := zqp l
       have hdn := (ypk (.mk 3 0 [] l)).2
       have hdn : 0 <= zb6 l := hdn
       obtain ⟨f', h5, h6⟩ := zw4 st r l [] g ih hw.2.2 hb (by omega) (by omega) (by simp at hf; omega)
       refine ⟨f', h5, ?_⟩
       rw [List.singleton_append, List.cons_append, List.append_assoc, zp8 ⟨by omega, by omega⟩ g st 3 (zao l ++ r) (by decide)]
       rw [if_neg (by decide), if_neg (by decide), if_neg (by omega), h6, List.nil_append]
     · rw [if_neg h3] at hb; cases hb
theorem ynu {v : CV} (hw : wfV v) (hb : zfb v = true) (hd : zdt v <= 6) {s : List UInt8} (hl : (zbb v).length + s.length <= 8192) : zb8 (zbb v ++ s) = ⟨v, s, 0⟩ := by
 unfold zb8
 rw [if_neg (by rw [List.length_append]; omega)]
 obtain ⟨f', h1, h2⟩ := reads v [] s ((zbb v ++ s).length + 1) hw hb (by simp; exact hd) (by omega) (by rw [List.length_append]; exact Nat.lt_succ_self _)
 rw [h2, zbq]
def zjl (s : List UInt8) : Int := if (zb8 s).e = 0 /\ ¬ (zb8 s).r = [] then 4 else (zb8 s).e
def zcf (s : List UInt8) : CV := if zjl s = 0 then (zb8 s).v else .mk 0 0 [] []
theorem yth {v : CV} (hw : wfV v) (hb : zfb v = true) (hd : zdt v <= 6) (hl : (zbb v).length <= 8192) : zcf (zbb v) = v /\ zjl (zbb v) = 0 := by
 have h := ynu hw hb hd (s := []) (by simpa using hl)
 rw [List.append_nil] at h
 have e : zjl (zbb v) = 0 := by unfold zjl; rw [h]; rfl
 exact ⟨by unfold zcf; rw [if_pos e, h], e⟩
theorem zvp {n : Nat} {get : Nat -> Nat -> AV} {l : List CV} (hn : n = l.length) (h : ∀ i j, i < n -> j < 4 -> get i j = zfa (zax l i) j) : rdL (.lst 4 n get) = l /\ okL (.lst 4 n get) := by
 constructor
 · apply List.ext_getElem
   · rw [zj1, hn]
   · intro i h1 h2
     have hi : i < n := by omega
     have e : ∀ m : List CV, ∀ hm : i < m.length, m[i] = zax m i := fun m hm => by rw [zax, List.getD_eq_getElem?_getD, List.getElem?_eq_getElem hm]; rfl
     rw [e _ h1, e _ h2, zr2 hi, h i 0 hi (by omega), h i 1 hi (by omega), h i 2 hi (by omega), h i 3 hi (by omega), zgx, zgw, zgv, zgu]
     show CV.mk _ _ _ (rdL (.lst 4 (zhg (zax l i)) (zhp (zax l i)))) = _
     exact zer _
 · refine ⟨rfl, fun i hi => ?_⟩
   rw [h i 0 hi (by omega), h i 1 hi (by omega), h i 2 hi (by omega), h i 3 hi (by omega), zgx, zgw, zgv, zgu]
   exact ⟨⟨_, rfl⟩, ⟨_, rfl⟩, ⟨_, rfl⟩, (zk0 (zax l i)).2⟩
theorem ygp (a b : List CV) : zgd (a ++ b) ↔ zgd a /\ zgd b := by
 induction a with
 | nil => rw [List.nil_append, zgd]; simp
 | cons x l ih => rw [List.cons_append, zgd, zgd, ih]; exact ⟨fun h => ⟨⟨h.1, h.2.1⟩, h.2.2⟩, fun h => ⟨h.1.1, h.1.2, h.2⟩⟩
def cvB (L : zac) (v : CV) : AV := .agg [.int .i64 (L CV.kd v), .int .u64 (L CV.nn v), .str (L CV.tx v), .lst 4 (L zhg v) (fun i j => cv1 L (L2 L zax (L CV.ls v) i) j)]
def zuq (L : zac) : zcr := (30, fun xs => match xs with | [.str s] => some (True, .tup [cvB L (L zcf s), .int .i64 (L zjl s)]) | _ => none)
theorem zsp {s : List UInt8} {e : Int} (h : zjl s = e) (he : ¬ e = 0) : zbl (cvB std (zcf s)) (.agg [.int .i64 0, .int .u64 0, .str [], .nils]) /\ e = zjl s := by
 have e0 : zcf s = .mk 0 0 [] [] := by unfold zcf; rw [if_neg (by rw [h]; exact he)]
 rw [e0]
 refine ⟨?_, h.symm⟩
 show zbl (.agg [.int .i64 0, .int .u64 0, .str [], .lst 4 0 _]) _
 simp [zcz, ze9, zex, zc0]
theorem yfc {s : List UInt8} {v : CV} (hv : (zb8 s).v = v) (h : zjl s = 0) : zbl (cvB std (zcf s)) (.agg [.int .i64 v.kd, .int .u64 v.nn, .str v.tx, .lst 4 (zhg v) (zhp v)]) /\ 0 = zjl s := by
 have e0 : zcf s = v := by unfold zcf; rw [if_pos h, hv]
 rw [e0]
 refine ⟨?_, h.symm⟩
 show zbl (.agg [.int .i64 v.kd, .int .u64 v.nn, .str v.tx, .lst 4 (zhg v) (fun i j => cv1 std (zax v.ls i) j)]) _
 simp only [zcz, ze9, zg8, zc0, true_and, and_true]
 exact fun i j hi hj => by rw [zir _ _ hj]; exact zbj _ _ _ hi
theorem zzr : zcu Tryz.prog (zuq std) := by
 intro xs p r h hp
 dsimp only [zuq] at h |-
 split at h <;> cases h
 try simp only [L2, L3, std] at hp |-
 rename_i s
 refine zad (T := tt) (S := fun L => zbe [yd3 L]) (lo := noA) (lb := noA) 5 (fn := Tryz.f30) rfl rfl (by kernel_rfl) (by kernel_rfl) rfl zah (zab ⟨yd4, trivial⟩) (by kernel_rfl) ?_
 (intro L P1 Q1 hL hP hQ; cbv; subst hL; simp only [L2, L3, std, syT]; subst hQ)
 (simp only [syS, reduceCtorEq, Int.reduceToNat, Int.reduceAdd, Int.reduceSub])
 refine ⟨fun h1 => ⟨fun h2 => ⟨fun _ => ?_, fun h => absurd h (by decide)⟩, fun h2 => ⟨fun h => absurd h1 h, fun _ => ?_⟩⟩, fun h1 => ⟨fun _ => ?_, fun h => absurd h h1⟩⟩
 · exact zsp (by unfold zjl; rw [if_pos ⟨h1, h2⟩]) (by decide)
 · exact yfc rfl (by unfold zjl; rw [if_neg (fun h => h.2 h2)]; exact h1)
 · exact zsp (by unfold zjl; rw [if_neg (fun h => h1 h.1)]) h1
theorem zw9 {α : Type} {V : Vw α} (val : α -> CV) {l : List α} {i : Nat} (h : i < l.length) : zax (l.map val) i = val (ya7 V l i) := by
 rw [zij h, zax, List.getD_eq_getElem?_getD, List.getElem?_eq_getElem (by simpa using h)]; simp
def zxr : List CV -> List AV
 | [] => []
 | v :: l => .int .i64 v.kd :: .int .u64 v.nn :: .str v.tx :: .lst 4 (zhg v) (zhp v) :: zxr l
theorem zsq : ∀ (l : List CV) (i j : Nat), i < l.length -> j < 4 -> zc4 .dead (zxr l) (i * 4 + j) = zfa (zax l i) j
 | [], i, j, hi, _ => by simp at hi
 | v :: l, 0, j, _, hj => by
   match j, hj with
   | 0, _ => exact (zgx v).symm
   | 1, _ => exact (zgw v).symm
   | 2, _ => exact (zgv v).symm
   | 3, _ => exact (zgu v).symm
 | v :: l, i + 1, j, hi, hj => by
   rw [show (i + 1) * 4 + j = i * 4 + j + 4 by omega]
   exact zsq l i j (by simpa using hi) hj
theorem yfd (l : List CV) {n : Nat} {cs : List AV} (hn : n = l.length) (h : cs = zxr l) : rdL (.lst 4 n fun i j => zc4 .dead cs (i * 4 + j)) = l /\ okL (.lst 4 n fun i j => zc4 .dead cs (i * 4 + j)) :=
 zvp hn fun i j hi hj => by rw [h]; exact zsq l i j (by omega) hj
theorem zob (l : List CV) {n : Nat} {cs : List AV} (hn : n = l.length) (h : cs = zxr l) : rdL (.lst 4 n fun i j => zc4 .dead cs (Nat.add 0 i * 4 + j)) = l /\ okL (.lst 4 n fun i j => zc4 .dead cs (Nat.add 0 i * 4 + j)) := by
 have e : (fun i j => zc4 .dead cs (Nat.add 0 i * 4 + j)) = fun i j => zc4 AV.dead cs (i * 4 + j) := by
   funext i j
   rw [show Nat.add 0 i = i from Nat.zero_add i]
 rw [e]
 exact yfd l hn h
theorem ynh (y : Pr) : bytesOf 16 (fun i => za9 [za0 y 0, za0 y 1, za0 y 2, za0 y 3, za0 y 4, za0 y 5, za0 y 6, za0 y 7, za0 y 8, za0 y 9, za0 y 10, za0 y 11, za0 y 12, za0 y 13, za0 y 14, za0 y 15] i) = zl3 y := by
 rw [zp2]
 have := yc9 y
 rw [<- this]
 unfold bytesOf
 apply List.ext_getElem
 · simp
 · intro i h1 h2
   have hi : i < 16 := by simpa using h1
   simp only [List.getElem_map, List.getElem_range]
   unfold zvr za0
   rw [if_pos hi]
def ylz (L : zac) : Prop :=
 (∀ y : Pr, L (L bytesOf 16) (fun i => (AV.int .u8 (L2 L za9 [L (L za0 y) 0, L (L za0 y) 1, L (L za0 y) 2, L (L za0 y) 3, L (L za0 y) 4, L (L za0 y) 5, L (L za0 y) 6, L (L za0 y) 7, L (L za0 y) 8, L (L za0 y) 9, L (L za0 y) 10, L (L za0 y) 11, L (L za0 y) 12, L (L za0 y) 13, L (L za0 y) 14, L (L za0 y) 15] i)).toI) = L zl3 y) /\
 (∀ a b c : CV, L rdL (.lst 4 3 fun i j => zc4 .dead [.int .i64 (L CV.kd a), .int .u64 (L CV.nn a), .str (L CV.tx a), .lst 4 (L zhg a) (L zhp a), .int .i64 (L CV.kd b), .int .u64 (L CV.nn b), .str (L CV.tx b), .lst 4 (L zhg b) (L zhp b), .int .i64 (L CV.kd c), .int .u64 (L CV.nn c), .str (L CV.tx c), .lst 4 (L zhg c) (L zhp c)] (L2 L Nat.add 0 i * 4 + j)) = [a, b, c]) /\
 (∀ a b c : CV, (L okL (.lst 4 3 fun i j => zc4 .dead [.int .i64 (L CV.kd a), .int .u64 (L CV.nn a), .str (L CV.tx a), .lst 4 (L zhg a) (L zhp a), .int .i64 (L CV.kd b), .int .u64 (L CV.nn b), .str (L CV.tx b), .lst 4 (L zhg b) (L zhp b), .int .i64 (L CV.kd c), .int .u64 (L CV.nn c), .str (L CV.tx c), .lst 4 (L zhg c) (L zhp c)] (L2 L Nat.add 0 i * 4 + j))) = True)
theorem yu0 : ylz std :=
 ⟨fun y => ynh y,
  fun a b c => (zob [a, b, c] rfl rfl).1,
  fun a b c => eq_true (zob [a, b, c] rfl rfl).2⟩
def zkw (b : Bool) : Int := if b = true then 1 else 0
def yo7 (e : Le) : List CV := [yge (zl3 e.p), zkt e.d, zkt (zkw e.h)]
def zc5 (e : Le) : CV := zff (yo7 e)
def zic (l : List Le) : List CV := l.map zc5
def zdl (l : List Le) : CV := zff (zic l)
def ldT (l : List Le) : List UInt8 := zbb (zdl l)
def zpn (l : List Le) : Prop := l.length <= 64 /\ ∀ e ∈ l, zg1 e
theorem yj0 {e : Le} (h : zg1 e) : wfV (zc5 e) := by
 obtain ⟨h1, h2, h3⟩ := h
 have hl := zp0 e.p
 have hb : 0 <= zkw e.h /\ zkw e.h <= 1 := by unfold zkw; split <;> omega
 simp only [zc5, yo7, zff, yge, zkt, wfV, zgd, zc8, List.length_nil]
 refine ⟨⟨by omega, by omega⟩, by omega, ⟨⟨by omega, by omega⟩, by omega, trivial⟩, ⟨⟨by omega, by omega⟩, by omega, trivial⟩, ⟨⟨by omega, by omega⟩, by omega, trivial⟩, trivial⟩
theorem zzd (e : Le) : zfb (zc5 e) = true := by
 simp only [zc5, yo7, zff, yge, zkt, zfb, zdu]
 simp
theorem zzc (e : Le) : zdt (zc5 e) = 1 := by
 simp only [zc5, yo7, zff, yge, zkt, zdt, zb6]
 decide
theorem zzb (e : Le) : sizeC (zc5 e) = 4 := by
 simp only [zc5, yo7, zff, yge, zkt, zea, zc3, ze1]
theorem ydo {e : Le} (h : zg1 e) : (zbb (zc5 e)).length <= 60 := by
 obtain ⟨h1, h2, h3⟩ := h
 have hl := zp0 e.p
 have hb : 0 <= zkw e.h /\ zkw e.h <= 1 := by unfold zkw; split <;> omega
 have s1 := zc7 (n := (3 : Nat)) ⟨by omega, by omega⟩
 have s2 := zc7 (n := ((zl3 e.p).length : Int)) ⟨by omega, by omega⟩
 have s3 := zc7 (n := e.d) ⟨by omega, by omega⟩
 have s4 := zc7 (n := zkw e.h) ⟨by omega, by omega⟩
 have hk : ∀ k, (zeu k).length = 1 := fun k => rfl
 unfold zc5 yo7 zff yge zkt
 rw [zai, if_neg (by decide), if_neg (by decide), zao, zao, zao, zao, zai, if_neg (by decide), if_pos rfl, zai, if_pos rfl, zai, if_pos rfl]
 simp only [List.length_append, hk, List.length_nil, List.length_cons, Nat.zero_add, Nat.reduceAdd]
 have s1 : (zav ((3 : Nat) : Int)).length <= 10 := s1
 omega
theorem znv : ∀ {l : List Le}, (∀ e ∈ l, zg1 e) -> zgd (zic l) /\ zdu (zic l) = true /\ zb6 (zic l) <= 1 /\ sizeCs (zic l) = 4 * l.length /\ (zao (zic l)).length <= 60 * l.length
 | [], _ => by
   unfold zic
   simp only [List.map_nil]
   rw [zgd, zdu, zb6, ze1, zao]
   exact ⟨trivial, rfl, by decide, rfl, Nat.le_refl _⟩
 | e :: l, h => by
   obtain ⟨h1, h2, h3, h4, h5⟩ := znv (l := l) (fun x hx => h x (List.mem_cons_of_mem _ hx))
   have he := h e (by simp)
   have e1 : zic (e :: l) = zc5 e :: zic l := rfl
   rw [e1, zgd, zdu, zb6, zc3, zao, List.length_append, zzd, zzc, zzb, List.length_cons]
   have := ydo he
   refine ⟨⟨yj0 he, h1⟩, by rw [h2]; rfl, by omega, by omega, by omega⟩
theorem zim {l : List Le} (h : zpn l) : zt2 (zdl l) /\ ycd (zdl l) = 0 /\ ygh (zdl l) = ldT l /\ zn7 300 (zdl l) /\ wfV (zdl l) /\ zfb (zdl l) = true /\ zdt (zdl l) <= 6 /\ (ldT l).length <= 8192 := by
 obtain ⟨hl, ho⟩ := h
 obtain ⟨h1, h2, h3, h4, h5⟩ := znv ho
 have hlen : (zic l).length = l.length := by simp [zic]
 have s1 := zc7 (n := ((zic l).length : Int)) ⟨by omega, by omega⟩
 have hw : wfV (zdl l) := by
   unfold zdl zff
   rw [wfV]
   exact ⟨⟨by omega, by omega⟩, by simp, h1⟩
 have hb : zfb (zdl l) = true := by
   unfold zdl zff
   rw [zfb, if_neg (by decide), if_neg (by decide), if_pos rfl, h2]
   simp
 have hd : zdt (zdl l) <= 2 := by
   unfold zdl zff
   rw [zdt, if_pos rfl]
   omega
 have ht : (zbb (zdl l)).length <= 8000 := by
   unfold zdl zff
   rw [zai, if_neg (by decide), if_neg (by decide), List.length_append, List.length_append]
   have : (zeu 3).length = 1 := rfl
   omega
 have hp : ycd (zdl l) = 0 := by
   unfold ycd
   rw [if_pos hb, if_neg (by omega), if_neg (by omega)]
 refine ⟨⟨hw, by omega⟩, hp, by unfold ygh; rw [if_pos hp]; rfl, ⟨?_, by decide⟩, hw, hb, by omega, by unfold ldT; omega⟩
 unfold zdl zff
 rw [zea]
 omega
theorem yk5 (g : Nat -> CV) {v : CV} {i q j : Nat} (hv : v = g i) (hq : q < i + 1) (hj : j < 4) :
   zi7 std (zbr q i) (cv1 std (g q) j) (zc4 .dead [.int .i64 v.kd, .int .u64 v.nn, .str v.tx, .lst 4 (zhg v) (zhp v)] (Nat.add 0 (Nat.sub q i) * 4 + j)) = cv1 std (g q) j := by
 subst hv
 rw [show Nat.add 0 (Nat.sub q i) = q - i from Nat.zero_add _]
 exact ypm g hq hj
def yq9 (L : zac) : zcr := (37, fun xs => match xs with | [.bool b] => some (True, .int .u64 (L zkw b)) | _ => none)
theorem yka : zcu Tryz.prog (yq9 std) := by
 intro xs p r h hp
 dsimp only [yq9] at h |-
 split at h <;> cases h
 try simp only [L2, L3, std] at hp |-
 rename_i b
 refine zad (T := tt) (S := noS) (lo := noA) (lb := noA) 5 (fn := Tryz.f37) rfl rfl (by kernel_rfl) (by kernel_rfl) rfl zah (zd0 _) (by kernel_rfl) ?_
 (intro L P1 Q1 hL hP hQ; cbv; subst hL; simp only [L2, L3, std, syT]; subst hQ)
 cases b <;> simp [zkw, zes]
def ltxA (L : zac) (l : List Le) : Nat -> St -> Option Ann := fun id st => match id with
 | 0 => some ⟨Nat, fun i => [(11, .int .i64 (L za6 i)), (3, .sl 900 4 0 i)], fun i => [(900, .row 66 4 i (fun q j => cv1 L (L zc5 (L (L za4 l) q)) j))], [9, 10], [], fun i => L2 L yv1 l i, fun i => L2 L yrg l i⟩
 | _ => none
def yin (L : zac) : zcr := (16, fun xs => match xs with
 | [.agg [x]] => some (L zf4 x /\ L zpn (L zaa x), .str (L ldT (L zaa x)))
 | _ => none)
theorem zwm : zcu Tryz.prog (yin std) := by
 intro xs p r h hp
 dsimp only [yin] at h |-
 split at h <;> cases h
 try simp only [L2, L3, std] at hp |-
 rename_i x
 obtain ⟨ho, hp⟩ := hp
 refine zqi zch ho ?_
 have hp : zpn (zaa x) := hp
 show zae Tryz.prog 16 (.agg [zl9 std leV (zaa x)] :: []) (.str (ldT (zaa x)))
 generalize zaa x = l at hp |-
 obtain ⟨q1, q2, q3, q4, q5, q6, q7, q8⟩ := zim hp
 obtain ⟨hl64, hok⟩ := hp
 refine zal (T := tt) (S := fun L => zbe [ym5 L, yi5 L, yq9 L, zwu L, zxq 300 L]) (lo := fun L => ltxA L l) (lb := noA) 5 (fn := Tryz.f16) (xs := fun L => [.agg [zbf L l]]) rfl rfl (by kernel_rfl) (by kernel_rfl) rfl zah (zab ⟨ygt, zw7, yka, zrr, zoa 300, trivial⟩) (by kernel_rfl) ?_
 intro L P' Q' hL hP hQ
 have hw : zg4 l = l.length := rfl
 obtain ⟨hE, hEo, hF, hFo, hEta, hPe, hMp, hQ0, hQo, hQ1, hQ1o, hG, hGo⟩ : ze0 L := by subst hL; exact zeg
 (cbv; try simp only [syT, true_and, and_true])
 refine ⟨⟨0, ?_⟩, fun i hi => ?_⟩
 · (cbv; try simp only [syT, true_and, and_true])
   subst hL
   exact ⟨fun _ _ _ _ => trivial, rfl, Nat.zero_le _⟩
 · have hi2 : i <= l.length := by
     have h := hi
     rw [hL] at h
     exact h
   clear hi
   obtain ⟨hRB, hR3, hR3o⟩ : ylz L := by subst hL; exact yu0
   obtain ⟨i', hi'⟩ : ∃ i', i' = i + 1 := ⟨_, rfl⟩
   (cbv; try simp only [syT, true_and, and_true])
   simp only [hRB, hR3, hR3o, true_and]
   have hin : L (L ilt (L za6 i)) (L za6 (L zg4 l)) = true -> i < l.length := by
     intro h
     rw [hL] at h
     have h : ilt (za6 i) (za6 l.length) = true := h
     rw [zc2, za3, za3] at h
     omega
   refine ⟨fun hlt => ⟨?_, fun q hq => ⟨_, rfl⟩, ?_, ?_, i', ?_⟩, fun hge => ?_⟩
   · have hi := hin hlt
     subst hL
     show inR (za6 i) (za6 l.length) = true
     rw [zfj, za3, za3]; omega
   · subst hL
     show 3 <= 1000000
     omega
   · subst hL
     show zc9 56 i 1 = true
     rw [zd8]; omega
   · have hi := hin hlt
     (cbv; try simp only [syT, true_and, and_true])
     try simp only [hRB, hR3, hR3o, true_and]
     subst hL
     have ho := hok _ (List.getElem_mem hi)
     rw [<- zb5 hi] at ho
     have ew : IntKind.u64.wrap (za4 l i).d = (za4 l i).d := by
       have := ho.2
       rw [zqm]; omega
     have ev : zff [yge (zl3 (za4 l i).p), zkt (IntKind.u64.wrap (za4 l i).d), zkt (zkw (za4 l i).h)] = zc5 (za4 l i) := by rw [ew]; rfl
     refine ⟨⟨hi'.symm, fun q j hq hj => yk5 (fun q => zc5 (za4 l q)) ev (by omega) hj⟩, fun _ _ _ _ => trivial, hi'.symm, ?_, ?_, ?_⟩
     · show zbt .i64 (za6 i) 1 = za6 i'
       unfold zbt za6
       rw [zco]; omega
     · show i' <= l.length
       omega
     · show l.length - i' < l.length - i
       omega
   · have hil : i = l.length := by
       rw [hL] at hge
       have hge : ilt (za6 i) (za6 l.length) = false := hge
       rw [zdw, za3, za3] at hge
       omega
     subst hL; subst hQ
     subst hil
     obtain ⟨k1, k2⟩ : rdL (.lst 4 l.length fun q => cv1 std (zc5 (za4 l (Nat.add 0 q)))) = zic l /\ okL (.lst 4 l.length fun q => cv1 std (zc5 (za4 l (Nat.add 0 q)))) :=
       zvp (by simp [zic]) fun q j hq hj => by rw [zir _ _ hj, show Nat.add 0 q = q from Nat.zero_add q, zic, zw9 (V := leV) zc5 hq]; rfl
     have k3 : zff (rdL (.lst 4 l.length fun q => cv1 std (zc5 (za4 l (Nat.add 0 q))))) = zdl l := by rw [k1]; rfl
     have k4 : mkV std (zdl l).kd (zdl l).nn (zdl l).tx (.lst 4 (zhg (zdl l)) (zhp (zdl l))) = zdl l := zbs _
     refine ⟨⟨k2, ?_⟩, ⟨?_, ?_, ?_⟩, ?_⟩
     · show ydn (rdL (.lst 4 l.length fun q => cv1 std (zc5 (za4 l (Nat.add 0 q)))))
       rw [k1]
       show (zic l).length <= 1000000
       simp only [zic, List.length_map]; omega
     · exact (zk0 _).2
     · show zn7 300 (mkV std (zff (rdL (.lst 4 l.length fun q => cv1 std (zc5 (za4 l (Nat.add 0 q)))))).kd (zff (rdL (.lst 4 l.length fun q => cv1 std (zc5 (za4 l (Nat.add 0 q)))))).nn (zff (rdL (.lst 4 l.length fun q => cv1 std (zc5 (za4 l (Nat.add 0 q)))))).tx (.lst 4 (zhg (zff (rdL (.lst 4 l.length fun q => cv1 std (zc5 (za4 l (Nat.add 0 q))))))) (zhp (zff (rdL (.lst 4 l.length fun q => cv1 std (zc5 (za4 l (Nat.add 0 q)))))))))
       rw [k3, k4]; exact q4
     · show zt2 (mkV std (zff (rdL (.lst 4 l.length fun q => cv1 std (zc5 (za4 l (Nat.add 0 q)))))).kd (zff (rdL (.lst 4 l.length fun q => cv1 std (zc5 (za4 l (Nat.add 0 q)))))).nn (zff (rdL (.lst 4 l.length fun q => cv1 std (zc5 (za4 l (Nat.add 0 q)))))).tx (.lst 4 (zhg (zff (rdL (.lst 4 l.length fun q => cv1 std (zc5 (za4 l (Nat.add 0 q))))))) (zhp (zff (rdL (.lst 4 l.length fun q => cv1 std (zc5 (za4 l (Nat.add 0 q)))))))))
       rw [k3, k4]; exact q1
     · show zdv (.str (ldT l)) (.str (ygh (mkV std (zff (rdL (.lst 4 l.length fun q => cv1 std (zc5 (za4 l (Nat.add 0 q)))))).kd (zff (rdL (.lst 4 l.length fun q => cv1 std (zc5 (za4 l (Nat.add 0 q)))))).nn (zff (rdL (.lst 4 l.length fun q => cv1 std (zc5 (za4 l (Nat.add 0 q)))))).tx (.lst 4 (zhg (zff (rdL (.lst 4 l.length fun q => cv1 std (zc5 (za4 l (Nat.add 0 q))))))) (zhp (zff (rdL (.lst 4 l.length fun q => cv1 std (zc5 (za4 l (Nat.add 0 q)))))))))))
       rw [k3, k4, zgs]; exact q3
def zk7 (L : zac) (e : Le) : Nat -> AV
 | 0 => .int .i64 3
 | 1 => .int .u64 0
 | 2 => .str []
 | _ => .lst 4 3 (fun q j => zc4 .dead [.int .i64 2, .int .u64 0, .str (L zl3 (L Le.p e)), .nils, .int .i64 1, .int .u64 (L IntKind.u64.wrap (L Le.d e)), .str [], .nils, .int .i64 1, .int .u64 (L zkw (L Le.h e)), .str [], .nils] (L2 L Nat.add 0 q * 4 + j))
theorem ydp {e : Le} (h : zg1 e) : rdL (zk7 std e 3) = yo7 e /\ okL (zk7 std e 3) := by
 have ew : IntKind.u64.wrap e.d = e.d := by
   have := h.2
   rw [zqm]; omega
 refine ⟨?_, ?_⟩
 · have e1 : rdL (zk7 std e 3) = [.mk 2 0 (zl3 e.p) [], .mk 1 (IntKind.u64.wrap e.d) [] [], .mk 1 (zkw e.h) [] []] := rfl
   rw [e1, ew]; rfl
 · refine ⟨rfl, fun i hi => ?_⟩
   match i, hi with
   | 0, _ => exact ⟨⟨_, rfl⟩, ⟨_, rfl⟩, ⟨_, rfl⟩, trivial⟩
   | 1, _ => exact ⟨⟨_, rfl⟩, ⟨_, rfl⟩, ⟨_, rfl⟩, trivial⟩
   | 2, _ => exact ⟨⟨_, rfl⟩, ⟨_, rfl⟩, ⟨_, rfl⟩, trivial⟩
theorem yj1 {l : List Le} {n : Nat} (hn : n = l.length) (h : ∀ e ∈ l, zg1 e) : rdL (.lst 4 n fun q => zk7 std (za4 l (Nat.add 0 q))) = zic l /\ okL (.lst 4 n fun q => zk7 std (za4 l (Nat.add 0 q))) := by
 have hat : ∀ i, i < n -> zg1 (za4 l i) := fun i hi => by rw [zb5 (by omega)]; exact h _ (List.getElem_mem _)
 have e0 : ∀ i, Nat.add 0 i = i := Nat.zero_add
 refine ⟨yf4 (by rw [zj1, zic, List.length_map, hn]) fun i hi => ?_, rfl, fun i hi => ?_⟩
 · rw [zj1] at hi
   rw [zr2 hi, zic, zw9 (V := leV) zc5 (by omega)]
   simp only [e0]
   show CV.mk 3 0 [] (rdL (zk7 std (za4 l i) 3)) = zc5 (za4 l i)
   rw [(ydp (hat i hi)).1]; rfl
 · simp only [e0]
   exact ⟨⟨_, rfl⟩, ⟨_, rfl⟩, ⟨_, rfl⟩, (ydp (hat i hi)).2⟩
theorem zze (l : List Le) {i q j : Nat} {y : Int} (hy : y = zkw (za4 l i).h) (hq : q < i + 1) (hj : j < 4) :
   zi7 std (zbr q i) (zk7 std (za4 l q) j) (zc4 .dead [.int .i64 3, .int .u64 0, .str [], .lst 4 3 (fun q j => zc4 .dead [.int .i64 2, .int .u64 0, .str (zl3 (za4 l i).p), .nils, .int .i64 1, .int .u64 (IntKind.u64.wrap (za4 l i).d), .str [], .nils, .int .i64 1, .int .u64 y, .str [], .nils] (Nat.add 0 q * 4 + j))] (Nat.add 0 (Nat.sub q i) * 4 + j)) = zk7 std (za4 l q) j := by
 subst hy
 rw [show Nat.add 0 (Nat.sub q i) = q - i from Nat.zero_add _]
 by_cases h : q < i
 · rw [zn0 h, show q - i = 0 by omega, Nat.zero_mul, Nat.zero_add]
   match j, hj with
   | 0, _ => rfl
   | 1, _ => rfl
   | 2, _ => rfl
   | 3, _ => rfl
 · have : q = i := by omega
   subst this
   rw [zqf (by omega), show q - q = 0 by omega, Nat.zero_mul, Nat.zero_add]
   match j, hj with
   | 0, _ => rfl
   | 1, _ => rfl
   | 2, _ => rfl
   | 3, _ => rfl
def rtB (l : List Le) (i y : Int) : Prop := y = zkw (za4 l i.toNat).h
def rtxA (L : zac) (l : List Le) : Nat -> St -> Option Ann := fun id st => match id with
 | 1000015 => yai st 10 fun i => some ⟨Int, fun y => [(6, .int .u64 y)], fun _ => [], [3, 5, 8, 9, 10], [3, 5, 900], fun y => L3 L rtB l i y, fun _ => 0⟩
 | 0 => some ⟨Nat, fun i => [(10, .int .i64 (L za6 i))], fun i => [(3, .box 73 [.int .i64 3, .int .u64 0, .str [], .sl 900 4 0 i]), (900, .row 73 4 i (fun q => zk7 L (L (L za4 l) q)))], [3, 8, 9], [], fun i => L2 L yv1 l i, fun i => L2 L yrg l i⟩
 | _ => none
def ymx (L : zac) : zcr := (21, fun xs => match xs with
 | [x] => some (L zf4 x /\ L zpn (L zaa x), .str (L ldT (L zaa x)))
 | _ => none)
theorem yhn : zcu Tryz.prog (ymx std) := by
 intro xs p r h hp
 dsimp only [ymx] at h |-
 split at h <;> cases h
 try simp only [L2, L3, std] at hp |-
 rename_i x
 obtain ⟨ho, hp⟩ := hp
 refine zuz zch ho ?_
 have hp : zpn (zaa x) := hp
 show zae Tryz.prog 21 (zl9 std leV (zaa x) :: []) (.str (ldT (zaa x)))
 generalize zaa x = l at hp |-
 obtain ⟨q1, q2, q3, q4, q5, q6, q7, q8⟩ := zim hp
 obtain ⟨hl64, hok⟩ := hp
 refine zal (T := tt) (S := fun L => zbe [yhw L, zlw 300 L]) (lo := fun L => rtxA L l) (lb := noA) 5 (fn := Tryz.f21) (xs := fun L => [zbf L l]) rfl rfl (by kernel_rfl) (by kernel_rfl) rfl zah (zab ⟨zvq, zyo 300, trivial⟩) (by kernel_rfl) ?_
 intro L P' Q' hL hP hQ
 have hw : zg4 l = l.length := rfl
 obtain ⟨hE, hEo, hF, hFo, hEta, hPe, hMp, hQ0, hQo, hQ1, hQ1o, hG, hGo⟩ : ze0 L := by subst hL; exact zeg
 (cbv; try simp only [syT, true_and, and_true])
 refine ⟨⟨0, ?_⟩, fun i hi => ?_⟩
 · (cbv; try simp only [syT, true_and, and_true])
   subst hL
   exact ⟨fun _ _ _ _ => trivial, rfl, Nat.zero_le _⟩
 · have hi2 : i <= l.length := by
     have h := hi
     rw [hL] at h
     exact h
   clear hi
   obtain ⟨i', hi'⟩ : ∃ i', i' = i + 1 := ⟨_, rfl⟩
   obtain ⟨y0, hy0⟩ : ∃ y : Int, y = zkw (za4 l i).h := ⟨_, rfl⟩
   have hin : L (L ilt (L za6 i)) (L za6 (L zg4 l)) = true -> i < l.length := by
     intro h
     rw [hL] at h
     have h : ilt (za6 i) (za6 l.length) = true := h
     rw [zc2, za3, za3] at h
     omega
   (cbv; try simp only [syT, true_and, and_true])
   refine ⟨fun hlt => ⟨?_, ⟨fun hb => ⟨y0, ?_⟩, fun hb => ⟨y0, ?_⟩⟩, fun y hy => ?_⟩, fun hge => ?_⟩
   · have hi := hin hlt
     subst hL
     show inR (za6 i) (za6 l.length) = true
     rw [zfj, za3, za3]; omega
   · (cbv; try simp only [syT, true_and, and_true])
     subst hL
     have hb : (za4 l i).h = true := hb
     exact ⟨fun _ _ _ _ => trivial, fun _ _ _ _ => trivial, by rw [hy0, zkw, if_pos hb], hy0⟩
   · (cbv; try simp only [syT, true_and, and_true])
     subst hL
     have hb : (za4 l i).h = false := hb
     exact ⟨fun _ _ _ _ => trivial, fun _ _ _ _ => trivial, by rw [hy0, zkw, if_neg (by rw [hb]; decide)], hy0⟩
   · have hi := hin hlt
     have hyy : y = zkw (za4 l i).h := by
       have h := hy
       rw [hL] at h
       exact h
     clear hy
     (cbv; try simp only [syT, true_and, and_true])
     simp only [hPe, hE, hEo, hF, hFo, hEta, hMp, hQ1, hQ1o, hQ0, hQo, hG, hGo, true_and]
     refine ⟨?_, ?_, i', ?_⟩
     · subst hL
       show zfh (za4 l i).p
       rw [zb5 hi]
       exact (hok _ (List.getElem_mem hi)).1
     · subst hL
       show zc9 56 i 1 = true
       rw [zd8]; omega
     · (cbv; try simp only [syT, true_and, and_true])
       subst hL
       refine ⟨⟨hi'.symm, fun q j hq hj => zze l hyy (by omega) hj⟩, hi'.symm, fun _ _ _ _ => trivial, ?_, ?_, ?_⟩
       · show zbt .i64 (za6 i) 1 = za6 i'
         unfold zbt za6
         rw [zco]; omega
       · show i' <= l.length
         omega
       · show l.length - i' < l.length - i
         omega
   · have hil : i = l.length := by
       rw [hL] at hge
       have hge : ilt (za6 i) (za6 l.length) = false := hge
       rw [zdw, za3, za3] at hge
       omega
     (cbv; try simp only [syT, true_and, and_true])
     subst hL; subst hQ
     subst hil
     obtain ⟨k1, k2⟩ := yj1 (l := l) rfl hok
     have k3 : mkV std 3 0 [] (.lst 4 l.length fun q => zk7 std (za4 l (Nat.add 0 q))) = zdl l := by
       show CV.mk 3 0 [] (rdL _) = zdl l
       rw [k1]; rfl
     refine ⟨⟨k2, ?_, ?_⟩, ?_⟩
     · show zn7 300 (mkV std 3 0 [] (.lst 4 l.length fun q => zk7 std (za4 l (Nat.add 0 q))))
       rw [k3]; exact q4
     · show zt2 (mkV std 3 0 [] (.lst 4 l.length fun q => zk7 std (za4 l (Nat.add 0 q))))
       rw [k3]; exact q1
     · show zdv (.str (ldT l)) (.str (zbb (mkV std 3 0 [] (.lst 4 l.length fun q => zk7 std (za4 l (Nat.add 0 q))))))
       rw [k3, zgs]; rfl
def yuk (s : List UInt8) : Prop := s.length < 10 /\ ∀ j, j < s.length -> 128 <= cb s j
open Classical in
noncomputable def rlE (s : List UInt8) : Int := if zh1 s = 0 then 0 else if yuk s then 3 else 4
end Sy
end Go.Proofs.YtlphgephdhadhaaGreat
namespace Go.Proofs.YtlphgephdhadhaaGreat
namespace Sy
open Go Go.RowKit
set_option maxRecDepth 100000
set_option linter.unusedSimpArgs false
set_option linter.unusedVariables false
theorem zk4 {s : List UInt8} (h : ¬ s = []) : (za7 s).length < s.length := by
 have : 0 < s.length := List.length_pos_iff.2 h
 unfold za7
 rw [List.length_drop, List.length_drop]
 omega
mutual
noncomputable def zdo (d : Nat) (s : List UInt8) : NR :=
 if hs : s = [] then zc6 3
 else if cb s 0 < 1 \/ 3 < cb s 0 then zc6 10
 else if ¬ rlE (s.drop 1) = 0 then zc6 (rlE (s.drop 1))
 else if cb s 0 = 1 then ⟨.mk 1 (zbz (s.drop 1)) [] [], za7 s, 0⟩
 else if cb s 0 = 2 then
   if ((za7 s).length : Int) < zbz (s.drop 1) then zc6 3
   else ⟨.mk 2 0 ((za7 s).take (zbz (s.drop 1)).toNat) [], (za7 s).drop (zbz (s.drop 1)).toNat, 0⟩
 else if d = 6 then zc6 8
 else zh4 d (zbz (s.drop 1)) [] (za7 s)
termination_by 2 * s.length
decreasing_by
 have := zk4 hs
 omega
noncomputable def zh4 (d : Nat) (m : Int) (acc : List CV) (s : List UInt8) : NR :=
 if m <= 0 then ⟨.mk 3 0 [] acc, s, 0⟩
 else if ¬ (zdo (d + 1) s).e = 0 then zc6 (zdo (d + 1) s).e
 else if h : (zdo (d + 1) s).r.length < s.length then zh4 d (m - 1) (acc ++ [(zdo (d + 1) s).v]) (zdo (d + 1) s).r
 else zc6 8
termination_by 2 * s.length + 1
decreasing_by
 all_goals omega
end
theorem zyq {s : List UInt8} : rlE s = 0 ↔ zh1 s = 0 := by
 unfold rlE
 by_cases h : zh1 s = 0
 · rw [if_pos h]; exact ⟨fun _ => h, fun _ => rfl⟩
 · rw [if_neg h]
   refine ⟨fun h2 => ?_, fun h2 => absurd h2 h⟩
   split at h2 <;> exact absurd h2 (by decide)
section
variable {d : Nat} {s : List UInt8}
theorem rv_0 (h1 : s = []) : zdo d s = zc6 3 := by rw [zdo, dif_pos h1]
variable (h1 : ¬ s = [])
include h1
theorem rv_1 (h2 : cb s 0 < 1 \/ 3 < cb s 0) : zdo d s = zc6 10 := by rw [zdo, dif_neg h1, if_pos h2]
variable (h2 : ¬ (cb s 0 < 1 \/ 3 < cb s 0))
include h2
theorem rv_2 (h3 : ¬ zh1 (s.drop 1) = 0) : zdo d s = zc6 (rlE (s.drop 1)) /\ ¬ rlE (s.drop 1) = 0 := by
 have h3' : ¬ rlE (s.drop 1) = 0 := fun h => h3 (zyq.1 h)
 exact ⟨by rw [zdo, dif_neg h1, if_neg h2, if_pos h3'], h3'⟩
variable (h3 : zh1 (s.drop 1) = 0)
include h3
theorem rv_3 (h4 : cb s 0 = 1) : zdo d s = ⟨.mk 1 (zbz (s.drop 1)) [] [], za7 s, 0⟩ := by rw [zdo, dif_neg h1, if_neg h2, if_neg (fun h => h (zyq.2 h3)), if_pos h4]
variable (h4 : ¬ cb s 0 = 1)
include h4
theorem rv_4 (h5 : cb s 0 = 2) (h6 : ((za7 s).length : Int) < zbz (s.drop 1)) : zdo d s = zc6 3 := by rw [zdo, dif_neg h1, if_neg h2, if_neg (fun h => h (zyq.2 h3)), if_neg h4, if_pos h5, if_pos h6]
theorem rv_5 (h5 : cb s 0 = 2) (h6 : ¬ ((za7 s).length : Int) < zbz (s.drop 1)) : zdo d s = ⟨.mk 2 0 ((za7 s).take (zbz (s.drop 1)).toNat) [], (za7 s).drop (zbz (s.drop 1)).toNat, 0⟩ := by rw [zdo, dif_neg h1, if_neg h2, if_neg (fun h => h (zyq.2 h3)), if_neg h4, if_pos h5, if_neg h6]
variable (h5 : ¬ cb s 0 = 2)
include h5
theorem rv_6 (h6 : d = 6) : zdo d s = zc6 8 := by rw [zdo, dif_neg h1, if_neg h2, if_neg (fun h => h (zyq.2 h3)), if_neg h4, if_neg h5, if_pos h6]
theorem rv_7 (h6 : ¬ d = 6) : zdo d s = zh4 d (zbz (s.drop 1)) [] (za7 s) := by rw [zdo, dif_neg h1, if_neg h2, if_neg (fun h => h (zyq.2 h3)), if_neg h4, if_neg h5, if_neg h6]
end
theorem ys3 {d : Nat} {m : Int} {acc : List CV} {s : List UInt8} (h : m <= 0) : zh4 d m acc s = ⟨.mk 3 0 [] acc, s, 0⟩ := by rw [zh4, if_pos h]
theorem ys2 {d : Nat} {m : Int} {acc : List CV} {s : List UInt8} (h : ¬ m <= 0) (h1 : ¬ (zdo (d + 1) s).e = 0) : zh4 d m acc s = zc6 (zdo (d + 1) s).e := by rw [zh4, if_neg h, if_pos h1]
theorem zr1 (s : List UInt8) : (∀ d, (zdo d s).e = 0 -> (zdo d s).r.length < s.length) /\ (∀ d m acc, (zh4 d m acc s).e = 0 -> (zh4 d m acc s).r.length <= s.length) := by
 induction hn : s.length using Nat.strongRecOn generalizing s with
 | _ n ih =>
   subst hn
   constructor
   · intro d
     by_cases h1 : s = []
     · rw [rv_0 h1]; intro h; exact absurd h (by decide)
     by_cases h2 : cb s 0 < 1 \/ 3 < cb s 0
     · rw [rv_1 h1 h2]; intro h; exact absurd h (by decide)
     by_cases h3 : zh1 (s.drop 1) = 0
     · have hr := zk4 h1
       by_cases h4 : cb s 0 = 1
       · rw [rv_3 h1 h2 h3 h4]; intro _; exact hr
       by_cases h5 : cb s 0 = 2
       · by_cases h6 : ((za7 s).length : Int) < zbz (s.drop 1)
         · rw [rv_4 h1 h2 h3 h4 h5 h6]; intro h; exact absurd h (by decide)
         · rw [rv_5 h1 h2 h3 h4 h5 h6]; intro _
           show ((za7 s).drop _).length < _
           rw [List.length_drop]; omega
       by_cases h6 : d = 6
       · rw [rv_6 h1 h2 h3 h4 h5 h6]; intro h; exact absurd h (by decide)
       · rw [rv_7 h1 h2 h3 h4 h5 h6]; intro h
         have := (ih _ hr _ rfl).2 _ _ _ h
         omega
     · obtain ⟨e, h⟩ := rv_2 (d := d) h1 h2 h3
       rw [e]; intro h'; exact absurd h' h
   · intro d m acc
     by_cases h : m <= 0
     · rw [ys3 h]; intro _; exact Nat.le_refl _
     by_cases h1 : (zdo (d + 1) s).e = 0
     · rw [zh4, if_neg h, if_neg (fun x => x h1)]
       by_cases h2 : (zdo (d + 1) s).r.length < s.length
       · rw [dif_pos h2]; intro h3
         have := (ih _ h2 _ rfl).2 _ _ _ h3
         omega
       · rw [dif_neg h2]; intro h; exact absurd h (by decide)
     · rw [ys2 h h1]; intro h2; exact absurd h2 h1
theorem yvq {d : Nat} {m : Int} {acc : List CV} {s : List UInt8} (h : ¬ m <= 0) (h1 : (zdo (d + 1) s).e = 0) : zh4 d m acc s = zh4 d (m - 1) (acc ++ [(zdo (d + 1) s).v]) (zdo (d + 1) s).r := by
 rw [zh4, if_neg h, if_neg (fun x => x h1), dif_pos ((zr1 s).1 _ h1)]
def SimV (s : List UInt8) : Prop := ∀ (st : List Lv) (f : Nat), s.length < f ->
 ((zdo st.length s).e = 0 -> ∃ f', (zdo st.length s).r.length < f' /\ zaw f st s = zbq (zaw f') st (zdo st.length s).v (zdo st.length s).r) /\
 (¬ (zdo st.length s).e = 0 -> ∃ e, e ≠ 0 /\ zaw f st s = zc6 e)
def SimL (s : List UInt8) : Prop := ∀ (st : List Lv) (m : Int) (acc : List CV) (f : Nat), 0 <= m -> s.length < f ->
 ((zh4 st.length m acc s).e = 0 -> ∃ f', (zh4 st.length m acc s).r.length < f' /\ zca (zaw f) (⟨m, acc⟩ :: st) s = zbq (zaw f') st (zh4 st.length m acc s).v (zh4 st.length m acc s).r) /\
 (¬ (zh4 st.length m acc s).e = 0 -> ∃ e, e ≠ 0 /\ zca (zaw f) (⟨m, acc⟩ :: st) s = zc6 e)
theorem yn4 (s : List UInt8) : SimV s /\ SimL s := by
 induction hn : s.length using Nat.strongRecOn generalizing s with
 | _ n ih =>
   subst hn
   have hv : SimV s := by
     intro st f hf
     obtain ⟨g, rfl⟩ : ∃ g, f = g + 1 := ⟨f - 1, by omega⟩
     have bad : ∀ e : Int, e ≠ 0 -> zdo st.length s = zc6 e -> ∀ e', e' ≠ 0 -> zaw (g + 1) st s = zc6 e' ->
         ((zdo st.length s).e = 0 -> ∃ f', (zdo st.length s).r.length < f' /\ zaw (g + 1) st s = zbq (zaw f') st (zdo st.length s).v (zdo st.length s).r) /\
         (¬ (zdo st.length s).e = 0 -> ∃ e, e ≠ 0 /\ zaw (g + 1) st s = zc6 e) := by
       intro e he h e' he' h'
       rw [h]
       exact ⟨fun h => absurd h he, fun _ => ⟨e', he', h'⟩⟩
     by_cases h1 : s = []
     · exact bad 3 (by decide) (rv_0 h1) 3 (by decide) (by rw [zaw, if_pos h1])
     by_cases h2 : cb s 0 < 1 \/ 3 < cb s 0
     · exact bad 10 (by decide) (rv_1 h1 h2) 10 (by decide) (by rw [zaw, if_neg h1, if_pos h2])
     by_cases h3 : zh1 (s.drop 1) = 0
     · have hr := zk4 h1
       have h3' : ¬ zh1 (s.drop 1) ≠ 0 := fun h => h h3
       by_cases h4 : cb s 0 = 1
       · rw [rv_3 h1 h2 h3 h4]
         exact ⟨fun _ => ⟨g, by show (za7 s).length < g; omega, by rw [zaw, if_neg h1, if_neg h2, if_neg h3', if_pos h4]⟩, fun h => absurd rfl h⟩
       by_cases h5 : cb s 0 = 2
       · by_cases h6 : ((za7 s).length : Int) < zbz (s.drop 1)
         · exact bad 3 (by decide) (rv_4 h1 h2 h3 h4 h5 h6) 3 (by decide) (by rw [zaw, if_neg h1, if_neg h2, if_neg h3', if_neg h4, if_pos h5, if_pos h6])
         · rw [rv_5 h1 h2 h3 h4 h5 h6]
           exact ⟨fun _ => ⟨g, by show ((za7 s).drop _).length < g; rw [List.length_drop]; omega, by rw [zaw, if_neg h1, if_neg h2, if_neg h3', if_neg h4, if_pos h5, if_neg h6]⟩, fun h => absurd rfl h⟩
       by_cases h6 : st.length = 6
       · exact bad 8 (by decide) (rv_6 h1 h2 h3 h4 h5 h6) 8 (by decide) (by rw [zaw, if_neg h1, if_neg h2, if_neg h3', if_neg h4, if_neg h5, if_pos h6])
       · rw [rv_7 h1 h2 h3 h4 h5 h6, zaw, if_neg h1, if_neg h2, if_neg h3', if_neg h4, if_neg h5, if_neg h6]
         exact (ih _ hr _ rfl).2 st _ [] g (zhe h3).2.2.1 (by omega)
     · obtain ⟨e, h⟩ := rv_2 (d := st.length) h1 h2 h3
       exact bad _ h e _ h3 (by rw [zaw, if_neg h1, if_neg h2, if_pos h3])
   refine ⟨hv, ?_⟩
   intro st m acc f hm hf
   by_cases h : m <= 0
   · have : m = 0 := by omega
     subst this
     rw [ys3 h]
     exact ⟨fun _ => ⟨f, hf, by rw [zca, if_pos (show (0 : Int) = 0 from rfl)]⟩, fun h => absurd rfl h⟩
   have hs : zca (zaw f) (⟨m, acc⟩ :: st) s = zaw f (⟨m, acc⟩ :: st) s := by rw [zca, if_neg (show ¬ m = 0 by omega)]
   obtain ⟨v1, v2⟩ := hv (⟨m, acc⟩ :: st) f hf
   rw [List.length_cons] at v1 v2
   by_cases h1 : (zdo (st.length + 1) s).e = 0
   · rw [yvq h h1, hs]
     obtain ⟨f', h2, h3⟩ := v1 h1
     have hlt := (zr1 s).1 _ h1
     have := (ih _ hlt _ rfl).2 st (m - 1) (acc ++ [(zdo (st.length + 1) s).v]) f' (by omega) h2
     have e : zaw f (⟨m, acc⟩ :: st) s = zca (zaw f') (⟨m - 1, acc ++ [(zdo (st.length + 1) s).v]⟩ :: st) (zdo (st.length + 1) s).r := by
       rw [h3, zbq, zca]
     rw [e]
     exact this
   · rw [ys2 h h1, hs]
     obtain ⟨e, he, h3⟩ := v2 h1
     exact ⟨fun h => absurd h h1, fun _ => ⟨e, he, h3⟩⟩
theorem yp1 {s : List UInt8} (hl : s.length <= 8192) : (zjl s = 0 ↔ (zdo 0 s).e = 0 /\ (zdo 0 s).r = []) /\ (zjl s = 0 -> zcf s = (zdo 0 s).v) := by
 have ht : zb8 s = zaw (s.length + 1) [] s := by unfold zb8; rw [if_neg (by omega)]
 obtain ⟨v1, v2⟩ := (yn4 s).1 [] (s.length + 1) (by omega)
 simp only [List.length_nil] at v1 v2
 by_cases h : (zdo 0 s).e = 0
 · obtain ⟨f', _, h2⟩ := v1 h
   have e : zb8 s = ⟨(zdo 0 s).v, (zdo 0 s).r, 0⟩ := by rw [ht, h2, zbq]
   have iff : zjl s = 0 ↔ (zdo 0 s).r = [] := by
     unfold zjl
     rw [e]
     by_cases hr : (zdo 0 s).r = []
     · rw [if_neg (fun x => x.2 hr)]; exact ⟨fun _ => hr, fun _ => rfl⟩
     · rw [if_pos ⟨rfl, hr⟩]; exact ⟨fun x => absurd x (by decide), fun x => absurd x hr⟩
   refine ⟨⟨fun x => ⟨h, iff.1 x⟩, fun x => iff.2 x.2⟩, fun x => ?_⟩
   unfold zcf
   rw [if_pos x, e]
 · obtain ⟨e, he, h2⟩ := v2 h
   have e1 : zjl s = e := by
     unfold zjl
     rw [ht, h2, if_neg (fun x => he x.1)]; rfl
   refine ⟨⟨fun x => absurd (e1.symm.trans x) he, fun x => absurd x.1 h⟩, fun x => absurd (e1.symm.trans x) he⟩
end Sy
end Go.Proofs.YtlphgephdhadhaaGreat
namespace Go.Proofs.YtlphgephdhadhaaGreat
namespace Sy
open Go Go.RowKit
set_option maxRecDepth 100000
set_option linter.unusedSimpArgs false
set_option linter.unusedVariables false
noncomputable def yqp (s : List UInt8) (a d : Int) : NR := zdo d.toNat (s.drop a.toNat)
noncomputable def yqo (s : List UInt8) (a d : Int) : CV := if (yqp s a d).e = 0 then (yqp s a d).v else .mk 0 0 [] []
noncomputable def ys1 (s : List UInt8) (a d : Int) : Int := if (yqp s a d).e = 0 then (s.length : Int) - ((yqp s a d).r.length : Int) else 0
noncomputable def ys0 (s : List UInt8) (a d : Int) : Int := (yqp s a d).e
theorem zwt {s : List UInt8} : ∀ (f i n N K : Nat), f + i = 10 -> lng s f i n = (N, K, 0) -> i <= s.length -> ∃ m : Nat, N = n + m * 2 ^ (7 * i) /\ K = i + (zdq m).length /\ s.drop i = zdq m ++ s.drop K /\ (1 <= i -> 0 < m)
 | 0, i, n, N, K, hf, h, hi => by
   rw [lng] at h
   simp at h
 | f + 1, i, n, N, K, hf, h, hi => by
   rw [lng] at h
   split at h
   · simp at h
   · rename_i h1
     split at h
     · simp at h
     · rename_i h2
       have hlt : i < s.length := by omega
       have hd : s.drop i = s[i] :: s.drop (i + 1) := List.drop_eq_getElem_cons hlt
       have hc : cb s i = s[i].toNat := by
         unfold cb
         rw [List.getD_eq_getElem?_getD, List.getElem?_eq_getElem hlt]; rfl
       have hpow : 2 ^ (7 * (i + 1)) = 128 * 2 ^ (7 * i) := by rw [show 7 * (i + 1) = 7 + 7 * i by omega, Nat.pow_add]
       split at h
       · rename_i h3
         obtain ⟨m, e1, e2, e3, e4⟩ := zwt f (i + 1) _ N K (by omega) h hlt
         have hm : 0 < m := e4 (by omega)
         have hmd : (cb s i % 128 + 128 * m) / 128 = m := by omega
         have hmm : (cb s i % 128 + 128 * m) % 128 = cb s i % 128 := by omega
         refine ⟨cb s i % 128 + 128 * m, ?_, ?_, ?_, fun _ => by omega⟩
         · rw [e1, hpow, Nat.add_mul, Nat.mul_assoc, Nat.mul_left_comm m 128]
           omega
         · rw [ze2 (by omega), hmd, List.length_cons, e2]
           omega
         · rw [hd, e3, ze2 (n := cb s i % 128 + 128 * m) (by omega), hmd, hmm, List.cons_append]
           congr 1
           have : cb s i < 256 := zzs s i
           have e5 : cb s i % 128 + 128 = cb s i := by omega
           rw [e5, hc]
           exact UInt8.ofNat_toNat.symm
       · rename_i h3
         split at h
         · rename_i h4
           have h5 : N = n + cb s i % 128 * 2 ^ (7 * i) /\ K = i + 1 := by
             simp only [Prod.mk.injEq] at h
             exact ⟨h.1.symm, h.2.1.symm⟩
           refine ⟨cb s i, ?_, ?_, ?_, ?_⟩
           · rw [h5.1, Nat.mod_eq_of_lt (by omega)]
           · rw [zbm (by omega), h5.2]; rfl
           · rw [zbm (by omega), hd, h5.2, hc, UInt8.ofNat_toNat]; rfl
           · intro h6
             rcases h4 with h4 | h4 <;> omega
         · simp at h
theorem yir {s : List UInt8} (h : zh1 s = 0) : s = zav (zbz s) ++ s.drop (ziu s).toNat := by
 unfold zh1 at h
 unfold zbz ziu
 generalize hx : lng s 10 0 0 = x at h |-
 obtain ⟨N, K, E⟩ := x
 have h : (E : Int) = 0 := h
 obtain rfl : E = 0 := by omega
 obtain ⟨m, e1, e2, e3, _⟩ := zwt 10 0 0 N K rfl hx (Nat.zero_le _)
 simp only [Nat.mul_zero, Nat.pow_zero, Nat.mul_one, Nat.zero_add, List.drop_zero] at e1 e3
 subst e1
 show s = zdq ((N : Int)).toNat ++ s.drop ((K : Int)).toNat
 rw [Int.toNat_natCast, Int.toNat_natCast]
 exact e3
def zfl : List Lv -> List UInt8
 | [] => []
 | a :: st => zfl st ++ (zeu 3 ++ (zav (a.left + a.l.length) ++ zao a.l))
theorem zjo {M : Nat} {val : List Lv -> List UInt8 -> NR} {w : CV} {r : List UInt8} (hv : ∀ st s, s.length < M -> val st s = ⟨w, r, 0⟩ -> zfl st ++ s = zbb w ++ r) : ∀ {st : List Lv} {v : CV} {s : List UInt8}, s.length < M ->
   zbq val st v s = ⟨w, r, 0⟩ -> zfl st ++ (zbb v ++ s) = zbb w ++ r
 | [], v, s, hs, h => by
   rw [zbq] at h
   cases h
   rfl
 | a :: st, v, s, hs, h => by
   rw [zbq] at h
   have hl : zao (a.l ++ [v]) = zao a.l ++ zbb v := by rw [zhw, zao, zao, List.append_nil]
   split at h
   · rename_i h0
     have := zjo hv hs h
     rw [zfl, <- this, zai, if_neg (by decide), if_neg (by decide), hl]
     have e : ((a.l ++ [v]).length : Int) = a.left + a.l.length := by simp; omega
     rw [e]
     simp only [List.append_assoc]
   · have := hv _ _ hs h
     rw [<- this, zfl, zfl, hl]
     have e : a.left - 1 + ((a.l ++ [v]).length : Int) = a.left + a.l.length := by simp; omega
     show _ = zfl st ++ (zeu 3 ++ (zav (a.left - 1 + ((a.l ++ [v]).length : Int)) ++ (zao a.l ++ zbb v))) ++ s
     rw [e]
     simp only [List.append_assoc]
theorem yb1 {M : Nat} {val : List Lv -> List UInt8 -> NR} {w : CV} {r : List UInt8} {a : Lv} {st : List Lv} {s : List UInt8} (hv : ∀ st s, s.length < M -> val st s = ⟨w, r, 0⟩ -> zfl st ++ s = zbb w ++ r) (hs : s.length < M)
   (h : zca val (a :: st) s = ⟨w, r, 0⟩) : zfl (a :: st) ++ s = zbb w ++ r := by
 rw [zca] at h
 split at h
 · rename_i h0
   have := zjo hv hs h
   rw [<- this, zfl, zai, if_neg (by decide), if_neg (by decide), h0, Int.zero_add]
   simp only [List.append_assoc]
 · exact hv _ _ hs h
theorem zoe {e : Int} {w : CV} {r : List UInt8} (he : e ≠ 0) (h : zc6 e = ⟨w, r, 0⟩) : False := he (congrArg NR.e h)
theorem zv4 {w : CV} {r : List UInt8} : ∀ (f : Nat) (st : List Lv) (s : List UInt8), s.length < f -> zaw f st s = ⟨w, r, 0⟩ -> zfl st ++ s = zbb w ++ r
 | 0, st, s, hs, h => by omega
 | f + 1, st, s, hs, h => by
   rw [zaw] at h
   split at h
   · exact (zoe (by decide) h).elim
   rename_i h0
   split at h
   · exact (zoe (by decide) h).elim
   rename_i h1
   split at h
   · rename_i h2; exact (zoe h2 h).elim
   rename_i h2
   have h2 : zh1 (s.drop 1) = 0 := Classical.not_not.1 h2
   match s, h0 with
   | c :: s1, _ =>
   have ht := yir h2
   have hr : za7 (c :: s1) = s1.drop (ziu s1).toNat := rfl
   have hcb : cb (c :: s1) 0 = c.toNat := rfl
   have hlen : (za7 (c :: s1)).length <= s1.length := by rw [hr, List.length_drop]; omega
   have ht : s1 = zav (zbz s1) ++ za7 (c :: s1) := ht
   have hs1 : s1.length < f := by
     have hs : s1.length + 1 < f + 1 := hs
     omega
   have hd1 : (c :: s1).drop 1 = s1 := rfl
   rw [hd1] at h
   have ih := zv4 (w := w) (r := r) f
   have hbk : ∀ k : Nat, cb (c :: s1) 0 = k -> k < 256 -> zeu (k : Int) = [c] := by
     intro k hk hk2
     unfold zeu
     rw [show ((k : Int) % 256).toNat = k by omega, <- hk, hcb, UInt8.ofNat_toNat]
   split at h
   · rename_i h3
     have := zjo (M := f) ih (by omega) h
     rw [<- this, zai, if_pos rfl, show zeu 1 = [c] from hbk 1 h3 (by omega)]
     conv => lhs; rw [ht]
     simp only [List.append_assoc, List.cons_append, List.nil_append]
   · split at h
     · rename_i h3 h4
       split at h
       · exact (zoe (by decide) h).elim
       · rename_i h5
         have := zjo (M := f) ih (by rw [List.length_drop]; omega) h
         have hl5 : (((za7 (c :: s1)).take (zbz s1).toNat).length : Int) = zbz s1 := by
           have hn : 0 <= zbz s1 := (zhe h2).2.2.1
           rw [List.length_take]; omega
         rw [<- this, zai, if_neg (by decide), if_pos rfl, show zeu 2 = [c] from hbk 2 h4 (by omega), hl5]
         conv => lhs; rw [ht]
         simp only [List.append_assoc, List.cons_append, List.nil_append, List.take_append_drop]
     · rename_i h3 h4
       split at h
       · exact (zoe (by decide) h).elim
       · have h6 : cb (c :: s1) 0 = 3 := by omega
         have := yb1 (M := f) ih (by omega) h
         rw [<- this, zfl, show zeu 3 = [c] from hbk 3 h6 (by omega)]
         conv => lhs; rw [ht]
         show _ = zfl st ++ ([c] ++ (zav (zbz s1 + ((0 : Nat) : Int)) ++ zao [])) ++ _
         rw [zao, List.append_nil, show zbz s1 + ((0 : Nat) : Int) = zbz s1 by omega]
         simp only [List.append_assoc, List.cons_append, List.nil_append]
theorem yjp {s : List UInt8} (h : zjl s = 0) : zbb (zcf s) = s := by
 unfold zjl at h
 split at h
 · cases h
 · rename_i h1
   have hv : zcf s = (zb8 s).v := by
     unfold zcf zjl
     rw [if_pos]
     rw [if_neg h1]; exact h
   have hr : (zb8 s).r = [] := by
     refine Classical.byContradiction fun h2 => h1 ⟨h, h2⟩
   rw [hv]
   generalize hx : zb8 s = x at h hr |-
   obtain ⟨v, r, e⟩ := x
   have h : e = 0 := h
   have hr : r = [] := hr
   subst h; subst hr
   unfold zb8 at hx
   split at hx
   · exact (zoe (by decide) hx).elim
   · have := zv4 (s.length + 1) [] s (Nat.lt_succ_self _) hx
     rw [zfl, List.nil_append, List.append_nil] at this
     exact this.symm
def zyy (s : List UInt8) : Pr := if h : s.length = 16 then ⟨s.map fun b => (b.toNat : Int), by simpa using h⟩ else prZ
def enB (v : CV) : Bool := decide (v.kd = 3) && (decide (v.ls.length = 3) && (decide ((zax v.ls 0).tx.length = 16) && (decide ((zax v.ls 1).nn <= 255) && decide ((zax v.ls 2).nn <= 1))))
def enD (v : CV) : Le := ⟨zyy (zax v.ls 0).tx, (zax v.ls 1).nn, decide ((zax v.ls 2).nn = 1)⟩
def enV (v : CV) : Le := if enB v = true then enD v else ⟨prZ, 0, false⟩
def yx2 (v : CV) : Prop := wfV v
theorem yci (s : List UInt8) : zfh (zyy s) := by
 unfold zyy
 split
 · intro x hx
   have hx : x ∈ s.map fun b => (b.toNat : Int) := hx
   obtain ⟨b, _, rfl⟩ := List.mem_map.1 hx
   have := b.toNat_lt
   omega
 · intro x hx
   have hx : x ∈ [0, 0, 0, 0, 0, 0, 0, 0, 0, 0, 0, 0, 0, 0, 0, 0] := hx
   simp only [List.mem_cons, List.not_mem_nil, or_false, or_self] at hx
   omega
theorem yne {s : List UInt8} (h : s.length = 16) {j : Nat} (hj : j < 16) : za0 (zyy s) j = zap s j := by
 unfold za0 zyy za9 zap
 rw [dif_pos h]
 simp [List.getD_eq_getElem?_getD, h, hj]
theorem yng {s : List UInt8} (h : s.length = 16) : zl3 (zyy s) = s := by
 unfold zl3 prB zyy
 rw [dif_pos h]
 simp only [List.map_map]
 conv => rhs; rw [<- List.map_id s]
 apply List.map_congr_left
 intro b _
 simp
theorem ynd {p : Pr} (h : zfh p) : zyy (zl3 p) = p := by
 apply Subtype.ext
 unfold zyy
 rw [dif_pos (zp0 p)]
 show (prB p.1).map _ = p.1
 unfold prB
 rw [List.map_map]
 conv => rhs; rw [<- List.map_id p.1]
 apply List.map_congr_left
 intro x hx
 have := h x hx
 show ((UInt8.ofNat x.toNat).toNat : Int) = x
 rw [UInt8.toNat_ofNat']
 omega
theorem zsj {v : CV} : enB v = true ↔ v.kd = 3 /\ v.ls.length = 3 /\ (zax v.ls 0).tx.length = 16 /\ (zax v.ls 1).nn <= 255 /\ (zax v.ls 2).nn <= 1 := by
 unfold enB
 simp only [Bool.and_eq_true, decide_eq_true_eq]
theorem zma {v : CV} (h : enB v = false) : zdv (.tup [leA std (enV v), .bool (enB v)]) (.tup [.agg [.int .u8 0, .int .u8 0, .int .u8 0, .int .u8 0, .int .u8 0, .int .u8 0, .int .u8 0, .int .u8 0, .int .u8 0, .int .u8 0, .int .u8 0, .int .u8 0, .int .u8 0, .int .u8 0, .int .u8 0, .int .u8 0, .int .i64 0, .bool false], .bool false]) := by
 have e : enV v = ⟨prZ, 0, false⟩ := by unfold enV; rw [h]; rfl
 rw [e, h, zee, zb2, zb2, zd5, zi3]
 exact ⟨zo3 ⟨prZ, 0, false⟩ ⟨prZ, 0, false⟩ rfl, rfl, trivial⟩
theorem yix {v : CV} (h : enB v = true) (hn : 0 <= (zax v.ls 1).nn) : zdv (.tup [leA std (enV v), .bool (enB v)]) (.tup [.agg [.int .u8 (zap (zax v.ls 0).tx (Nat.add 0 0)), .int .u8 (zap (zax v.ls 0).tx (Nat.add 0 1)), .int .u8 (zap (zax v.ls 0).tx (Nat.add 0 2)), .int .u8 (zap (zax v.ls 0).tx (Nat.add 0 3)), .int .u8 (zap (zax v.ls 0).tx (Nat.add 0 4)), .int .u8 (zap (zax v.ls 0).tx (Nat.add 0 5)), .int .u8 (zap (zax v.ls 0).tx (Nat.add 0 6)), .int .u8 (zap (zax v.ls 0).tx (Nat.add 0 7)), .int .u8 (zap (zax v.ls 0).tx (Nat.add 0 8)), .int .u8 (zap (zax v.ls 0).tx (Nat.add 0 9)), .int .u8 (zap (zax v.ls 0).tx (Nat.add 0 10)), .int .u8 (zap (zax v.ls 0).tx (Nat.add 0 11)), .int .u8 (zap (zax v.ls 0).tx (Nat.add 0 12)), .int .u8 (zap (zax v.ls 0).tx (Nat.add 0 13)), .int .u8 (zap (zax v.ls 0).tx (Nat.add 0 14)), .int .u8 (zap (zax v.ls 0).tx (Nat.add 0 15)), .int .i64 (IntKind.i64.wrap (zax v.ls 1).nn), .bool (ieq (zax v.ls 2).nn 1)], .bool true]) := by
 have e : enV v = enD v := by unfold enV; rw [if_pos h]
 obtain ⟨h1, h2, h3, h4, h5⟩ := zsj.1 h
 have hp : ∀ j, j < 16 -> zap (zax v.ls 0).tx (Nat.add 0 j) = za0 (zyy (zax v.ls 0).tx) j := fun j hj => by
   rw [show Nat.add 0 j = j from Nat.zero_add j, yne h3 hj]
 have hd : IntKind.i64.wrap (zax v.ls 1).nn = (zax v.ls 1).nn := by rw [zco]; omega
 have hh : ieq (zax v.ls 2).nn 1 = decide ((zax v.ls 2).nn = 1) := rfl
 rw [e, h, zee, zb2, zb2, zd5, zi3, hd, hh]
 iterate 16 rw [hp _ (by omega)]
 exact ⟨zo3 (enD v) (enD v) rfl, rfl, trivial⟩
theorem ziw (e : Int) : wfV (zc6 e).v := by
 show wfV (.mk 0 0 [] [])
 rw [wfV, zgd]
 exact ⟨⟨by decide, by decide⟩, by decide, trivial⟩
theorem yko {n : Int} {l : List CV} (hn : zc8 n) (h : zgd l) : wfV (.mk 3 n [] l) := by
 rw [wfV]
 exact ⟨hn, by simp, h⟩
theorem ztc : zc8 0 := ⟨by decide, by decide⟩
theorem zon {M : Nat} {val : List Lv -> List UInt8 -> NR} (hv : ∀ st s, (∀ a ∈ st, zgd a.l) -> s.length <= M -> wfV (val st s).v) : ∀ (st : List Lv) (v : CV) (s : List UInt8), (∀ a ∈ st, zgd a.l) -> s.length <= M -> wfV v -> wfV (zbq val st v s).v
 | [], v, s, _, _, h => h
 | a :: st, v, s, h0, hs, h => by
   have hl : zgd (a.l ++ [v]) := (ygp _ _).2 ⟨h0 a (by simp), by rw [zgd, zgd]; exact ⟨h, trivial⟩⟩
   unfold zbq
   split
   · exact zon hv st _ s (fun b hb => h0 b (by simp [hb])) hs (yko ztc hl)
   · refine hv _ _ (fun b hb => ?_) hs
     rcases List.mem_cons.1 hb with rfl | hb
     · exact hl
     · exact h0 b (by simp [hb])
theorem yby (s : List UInt8) : (za7 s).length <= s.length := by
 unfold za7
 rw [List.length_drop, List.length_drop]; omega
theorem ykn {M : Nat} (hM : M <= 8192) : ∀ (f : Nat) (st : List Lv) (s : List UInt8), (∀ a ∈ st, zgd a.l) -> s.length <= M -> wfV (zaw f st s).v
 | 0, _, _, _, _ => ziw 0
 | f + 1, st, s, h, hs => by
   have ih := ykn hM f
   have hr := yby s
   have hn : zgd [] := by rw [zgd]; trivial
   unfold zaw
   split
   · exact ziw _
   · split
     · exact ziw _
     · split
       · exact ziw _
       · rename_i _ _ hE
         have hE := zhe (Classical.not_not.1 hE)
         split
         · refine zon ih st _ _ h (by omega) ?_
           rw [wfV]
           exact ⟨⟨hE.2.2.1, hE.2.2.2⟩, by simp, hn⟩
         · split
           · split
             · exact ziw _
             · refine zon ih st _ _ h (by rw [List.length_drop]; omega) ?_
               rw [wfV]
               exact ⟨ztc, by rw [List.length_take]; omega, hn⟩
           · split
             · exact ziw _
             · have h' : ∀ b ∈ (⟨zbz (s.drop 1), []⟩ : Lv) :: st, zgd b.l := fun b hb => by
                 rcases List.mem_cons.1 hb with rfl | hb
                 · exact hn
                 · exact h b hb
               unfold zca
               split
               · exact ziw _
               · rename_i a st' _ he
                 cases he
                 split
                 · exact zon ih st _ _ h (by omega) (yko ztc hn)
                 · exact ih _ _ h' (by omega)
theorem yr9 (s : List UInt8) : wfV (zcf s) := by
 unfold zcf
 split
 · unfold zb8
   split
   · exact ziw _
   · exact ykn (M := 8192) (by omega) _ _ _ (fun a ha => by cases ha) (by omega)
 · exact ziw 0
def ypi (L : zac) : zcr := (31, fun xs => match xs with
 | [.agg [.int .i64 k, .int .u64 n, .str s, x]] => some (L okL x /\ L yx2 (mkV L k n s x), .tup [leA L (L enV (mkV L k n s x)), .bool (L enB (mkV L k n s x))])
 | _ => none)
theorem yk0 : zcu Tryz.prog (ypi std) := by
 intro xs p r h hp
 unfold ypi at h
 simp only at h
 split at h
 rotate_left
 · cases h
 rename_i k n s x
 cases h
 obtain ⟨ho, hw⟩ := hp
 refine yr0 ho ?_
 rw [show mkV std k n s x = .mk k n s (rdL x) from rfl] at hw |-
 generalize rdL x = l at hw |-
 have hw : wfV (.mk k n s l) := hw
 refine zal (T := tt) (S := noS) (lo := fun _ => noA std) (lb := noA) 5 (fn := Tryz.f31) (xs := fun L => [.agg [.int .i64 k, .int .u64 n, .str s, cvL L l]]) rfl rfl (by kernel_rfl) (by kernel_rfl) rfl zah (zd0 _) (by kernel_rfl) ?_
 intro L P' Q' hL hP hQ
 have hwl : ∀ i, i < l.length -> zc8 (zax l i).nn := fun i hi => by
   rw [wfV] at hw
   have := zng hw.2.2 hi
   generalize zax l i = v at this
   cases v
   rw [wfV] at this
   exact this.1
 (cbv; try simp only [syT, true_and, and_true])
 subst hL; subst hQ
 have hl2 : ∀ j : Nat, ieq (za6 (lenL l)) 3 = true -> j < 3 -> inR j (za6 (lenL l)) = true := fun j h hj => by
   rw [yeb, za3] at h
   rw [zfj, za3]; omega
 have neg : ¬ (k = 3 /\ l.length = 3 /\ (zax l 0).tx.length = 16 /\ (zax l 1).nn <= 255 /\ (zax l 2).nn <= 1) -> enB (.mk k n s l) = false := fun h => Bool.eq_false_iff.2 fun h2 => h (zsj.1 h2)
 refine ⟨fun h => zma (neg ?_), fun h1 => ⟨fun h => zma (neg ?_), fun h2 => ?_⟩⟩
 · have h : ine k 3 = true := h
   rw [zs5] at h
   omega
 · have h : ine (za6 l.length) 3 = true := h
   rw [zs5, za3] at h
   omega
 · have h1 : ine k 3 = false := h1
   have h2 : ine (za6 l.length) 3 = false := h2
   rw [zu4] at h1
   rw [zu4, za3] at h2
   have hr : ∀ j : Int, 0 <= j -> j < 3 -> inR j (za6 (lenL l)) = true := fun j h0 hj => by
     show inR j (za6 l.length) = true
     rw [zfj, za3]; omega
   refine ⟨hr 0 (by decide) (by decide), fun h => zma (neg ?_), fun h3 => ⟨hr 1 (by decide) (by decide), fun h => zma (neg ?_), fun h4 => ⟨hr 2 (by decide) (by decide), fun h => zma (neg ?_), fun h5 => ?_⟩⟩⟩
   · have h : ine (slen (zax l 0).tx) 16 = true := h
     rw [zs5, ztb] at h
     omega
   · have h : ilt 255 (zax l 1).nn = true := h
     rw [zc2] at h
     omega
   · have h : ilt 1 (zax l 2).nn = true := h
     rw [zc2] at h
     omega
   · have h3 : ine (slen (zax l 0).tx) 16 = false := h3
     have h4 : ilt 255 (zax l 1).nn = false := h4
     have h5 : ilt 1 (zax l 2).nn = false := h5
     rw [zu4, ztb] at h3
     rw [zdw] at h4 h5
     have hn1 := (hwl 1 (by omega)).1
     refine ⟨hr 0 (by decide) (by decide), ?_, hr 1 (by decide) (by decide), hr 2 (by decide) (by decide), ?_⟩
     · show zc1 16 (zax l 0).tx.length = true
       rw [yd5]; omega
     · exact yix (v := .mk k n s l) (zsj.2 ⟨h1, by show l.length = 3; omega, by show (zax l 0).tx.length = 16; omega, by show (zax l 1).nn <= 255; omega, by show (zax l 2).nn <= 1; omega⟩) hn1
def pzF (vs : List CV) : List Le := vs.foldl (fun l v => zb1 l (enV v)) []
def pzL (s : List UInt8) (i : Nat) : List Le := pzF ((zcf s).ls.take i)
def pzI (s : List UInt8) (i : Nat) : Prop := i <= (zcf s).ls.length /\ ∀ j, j < i -> enB (zax (zcf s).ls j) = true
def pzMu (s : List UInt8) (i : Nat) : Nat := (zcf s).ls.length - i
def ygm (s : List UInt8) : Bool := decide (zjl s = 0) && (decide ((zcf s).kd = 3) && (decide ((zcf s).ls.length <= 64) && ((zcf s).ls.all enB && decide (ldT (pzF (zcf s).ls) = s))))
def zpg (s : List UInt8) : List Le := if ygm s = true then pzF (zcf s).ls else []
def yiq (s : List UInt8) : Int := if ygm s = true then 0 else 23
theorem yew (v : CV) (hn : wfV v) : zg1 (enV v) := by
 unfold enV
 split
 · rename_i h
   obtain ⟨h1, h2, h3, h4, h5⟩ := zsj.1 h
   refine ⟨yci _, ?_, h4⟩
   obtain ⟨k, n, t, l⟩ := v
   rw [wfV] at hn
   have h2 : l.length = 3 := h2
   have := zng hn.2.2 (i := 1) (by omega)
   show 0 <= (zax l 1).nn
   generalize zax l 1 = w at this |-
   cases w
   rw [wfV] at this
   exact this.1.1
 · exact ⟨yci [], Int.le_refl _, by show (0 : Int) <= 255; decide⟩
theorem zzg {l : List Le} {e : Le} (hl : zcs l) (he : zg1 e) : (zb1 l e).length <= l.length + 1 := by
 have ho : (zem e l).length <= l.length := by
   unfold zem
   split
   · unfold zeh
     simp only [List.length_append, List.length_take, List.length_drop]; omega
   · omega
 obtain ⟨_, _, h3⟩ := zj4 hl he
 unfold zb1
 split
 · rw [zlb h3]; omega
 · omega
theorem yca : ∀ (vs : List CV) (l : List Le), zcs l -> (∀ v ∈ vs, wfV v) -> zcs (vs.foldl (fun l v => zb1 l (enV v)) l) /\ (vs.foldl (fun l v => zb1 l (enV v)) l).length <= l.length + vs.length
 | [], l, h, _ => ⟨h, by simp⟩
 | v :: vs, l, h, hv => by
   have he := yew v (hv v (by simp))
   obtain ⟨h1, h2⟩ := yca vs _ (zla h he) (fun w hw => hv w (by simp [hw]))
   have := zzg h he
   exact ⟨h1, by rw [List.foldl_cons, List.length_cons]; omega⟩
theorem yaj {l : List CV} (h : zgd l) : ∀ v ∈ l, wfV v := by
 intro v hv
 obtain ⟨i, hi, rfl⟩ := List.getElem_of_mem hv
 have := zng h hi
 rw [zax, List.getD_eq_getElem?_getD, List.getElem?_eq_getElem hi] at this
 exact this
theorem yj4 : zcs [] := ⟨List.Pairwise.nil, fun e he => by cases he⟩
theorem ygo (s : List UInt8) : zgd (zcf s).ls := by
 have := yr9 s
 generalize zcf s = v at this |-
 cases v
 rw [wfV] at this
 exact this.2.2
theorem ysa (s : List UInt8) (i : Nat) : zcs (pzL s i) /\ (pzL s i).length <= i := by
 have := yca ((zcf s).ls.take i) [] yj4 (fun v hv => yaj (ygo s) v (List.mem_of_mem_take hv))
 refine ⟨this.1, ?_⟩
 have h2 := this.2
 rw [List.length_take] at h2
 show (pzL s i).length <= i
 unfold pzL pzF
 simp only [List.length_nil] at h2
 omega
theorem yhx {s : List UInt8} {i : Nat} (h : i < (zcf s).ls.length) : pzL s (i + 1) = zb1 (pzL s i) (enV (zax (zcf s).ls i)) := by
 unfold pzL pzF
 rw [List.take_add_one, List.foldl_append, List.getElem?_eq_getElem h, zax, List.getD_eq_getElem?_getD, List.getElem?_eq_getElem h]
 rfl
def lpaA (L : zac) (s : List UInt8) : Nat -> St -> Option Ann := fun id st => match id with
 | 0 => some ⟨Nat, fun i => [(32, .int .i64 (L za6 i))], fun i => [(4, .box 25 [zbf L (L2 L pzL s i)])], [0, 2, 3, 4, 30, 31], [2], fun i => L2 L pzI s i, fun i => L2 L pzMu s i⟩
 | _ => none
def yo4 (L : zac) : zcr := (13, fun xs => match xs with
 | [.str s] => some (True, .tup [.agg [zbf L (L zpg s)], .int .i64 (L yiq s)])
 | _ => none)
theorem zph {s : List UInt8} : ygm s = true ↔ zjl s = 0 /\ (zcf s).kd = 3 /\ (zcf s).ls.length <= 64 /\ (∀ v ∈ (zcf s).ls, enB v = true) /\ ldT (pzF (zcf s).ls) = s := by
 unfold ygm
 simp only [Bool.and_eq_true, decide_eq_true_eq, List.all_eq_true]
theorem zrp {s : List UInt8} (h : ¬ (zjl s = 0 /\ (zcf s).kd = 3 /\ (zcf s).ls.length <= 64 /\ (∀ v ∈ (zcf s).ls, enB v = true) /\ ldT (pzF (zcf s).ls) = s)) : zdv (.tup [.agg [zbf std (zpg s)], .int .i64 (yiq s)]) (.tup [.agg [.nils], .int .i64 23]) := by
 have h := Bool.eq_false_iff.2 fun x => h (zph.1 x)
 have e1 : zpg s = [] := by unfold zpg; rw [h]; rfl
 have e2 : yiq s = 23 := by unfold yiq; rw [h]; rfl
 rw [e1, e2, zee, zb2, zb2, zd5, zei]
 refine ⟨?_, rfl, trivial⟩
 show zbl (.agg [.lst 18 0 _]) (.agg [.nils])
 rw [zex, zc0]
 exact ⟨rfl, trivial⟩
theorem yo3 {s : List UInt8} (h : ygm s = true) {l : List Le} (hl : l = pzF (zcf s).ls) : zdv (.tup [.agg [zbf std (zpg s)], .int .i64 (yiq s)]) (.tup [.agg [zbf std l], .int .i64 0]) := by
 have e1 : zpg s = l := by unfold zpg; rw [if_pos h, hl]
 have e2 : yiq s = 0 := by unfold yiq; rw [if_pos h]
 rw [e1, e2, zee, zb2, zb2, zd5, zei]
 refine ⟨?_, rfl, trivial⟩
 show zbl (.agg [.lst 18 _ _]) (.agg [.lst 18 _ _])
 rw [zg8, zc0]
 exact ⟨⟨rfl, fun i j _ _ => rfl⟩, trivial⟩
theorem yip : zcu Tryz.prog (yo4 std) := by
 intro xs p r h hp
 dsimp only [yo4] at h |-
 split at h <;> cases h
 try simp only [L2, L3, std] at hp |-
 rename_i s
 refine zal (T := tt) (S := fun L => zbe [zuq L, ypi L, zz9 L, yin L]) (lo := fun L => lpaA L s) (lb := noA) 5 (fn := Tryz.f13) (xs := fun L => [.str s]) rfl rfl (by kernel_rfl) (by kernel_rfl) rfl zah (zab ⟨zzr, yk0, zl7, zwm, trivial⟩) (by kernel_rfl) ?_
 intro L P' Q' hL hP hQ
 obtain ⟨hE, hEo, hF, hFo, hEta, hPe, hMp, hQ0, hQo, hQ1, hQ1o, hG, hGo⟩ : ze0 L := by subst hL; exact zeg
 have hM : ∀ v : CV, mkV L (L CV.kd v) (L CV.nn v) (L CV.tx v) (.lst 4 (L zhg v) (L zhp v)) = v := by subst hL; exact zbs
 (cbv; try simp only [syT, true_and, and_true])
 refine ⟨fun h1 => ?_, fun h1 => ⟨fun h2 => ?_, fun h2 => ⟨fun h3 => ?_, fun h3 => ⟨⟨0, ?_⟩, fun i hi => ?_⟩⟩⟩⟩
 · subst hL; subst hQ
   have h1 : ine (zjl s) 0 = true := h1
   rw [zs5] at h1
   exact zrp fun h => h1 h.1
 · subst hL; subst hQ
   have h2 : ine (zcf s).kd 3 = true := h2
   rw [zs5] at h2
   exact zrp fun h => h2 h.2.1
 · subst hL; subst hQ
   have h3 : ilt 64 (za6 (zcf s).ls.length) = true := h3
   rw [zc2, za3] at h3
   exact zrp fun h => by have := h.2.2.1; omega
 · (cbv; try simp only [syT, true_and, and_true])
   subst hL
   exact ⟨rfl, fun _ _ _ _ => trivial, rfl, Nat.zero_le _, fun j hj => by omega⟩
 · obtain ⟨hi1, hi2⟩ : pzI s i := by
     have h := hi
     rw [hL] at h
     exact h
   clear hi
   obtain ⟨i', hi'⟩ : ∃ i', i' = i + 1 := ⟨_, rfl⟩
   (cbv; try simp only [syT, true_and, and_true])
   simp only [hM]
   simp only [hPe, hE, hEo, hF, hFo, hEta, hMp, hQ1, hQ1o, hQ0, hQo, hG, hGo, true_and]
   obtain ⟨o1, o2⟩ := ysa s i
   refine ⟨fun hlt => ?_, fun hge => ?_⟩
   · have hlt2 : i < (zcf s).ls.length := by
       have h := hlt
       rw [hL] at h
       have h : ilt (za6 i) (za6 (zcf s).ls.length) = true := h
       rw [zc2, za3, za3] at h
       omega
     have h3 : (zcf s).ls.length <= 64 := by
       rw [hL] at h3
       have h : ilt 64 (za6 (zcf s).ls.length) = false := h3
       rw [zdw, za3] at h
       omega
     have hw := zng (ygo s) hlt2
     have hi0 : L Int.toNat (L za6 i) = i := by rw [hL]; exact Int.toNat_natCast i
     rw [hi0]
     refine ⟨?_, ⟨?_, ?_⟩, fun h4 => ?_, fun h4 => ⟨⟨?_, ?_, ?_⟩, i', ?_⟩⟩
     · subst hL
       show inR (za6 i) (za6 (zcf s).ls.length) = true
       rw [zfj, za3, za3]; omega
     · subst hL; exact (zk0 _).2
     · subst hL; exact hw
     · subst hL; subst hQ
       have h4 : (!(enB (zax (zcf s).ls i))) = true := h4
       refine zrp fun h => ?_
       have := h.2.2.2.1 _ (List.getElem_mem hlt2)
       rw [zax, List.getD_eq_getElem?_getD, List.getElem?_eq_getElem hlt2] at h4
       rw [show ((some (zcf s).ls[i]).getD _) = (zcf s).ls[i] from rfl, this] at h4
       cases h4
     · subst hL
       show (pzL s i).length <= 1000000
       omega
     · subst hL; exact o1
     · subst hL; exact yew _ hw
     · (cbv; try simp only [syT, true_and, and_true])
       subst hL
       have h4 : (!(enB (zax (zcf s).ls i))) = false := h4
       have h4 : enB (zax (zcf s).ls i) = true := by
         cases hh : enB (zax (zcf s).ls i) with
         | true => rfl
         | false => rw [hh] at h4; cases h4
       have e : zb1 (pzL s i) (enV (zax (zcf s).ls i)) = pzL s i' := by
         rw [hi', yhx hlt2]
       refine ⟨⟨congrArg zg4 e, fun q r _ _ => congrArg (fun l => leC std (za4 l q) r) e⟩, fun _ _ _ _ => trivial, ?_, ⟨?_, fun j hj => ?_⟩, ?_⟩
       · show zbt .i64 (za6 i) 1 = za6 i'
         unfold zbt za6
         rw [zco]; omega
       · omega
       · by_cases hj2 : j < i
         · exact hi2 j hj2
         · have : j = i := by omega
           rw [this]; exact h4
       · show (zcf s).ls.length - i' < (zcf s).ls.length - i
         omega
   · have hge2 : i = (zcf s).ls.length := by
       have h := hge
       rw [hL] at h
       have h : ilt (za6 i) (za6 (zcf s).ls.length) = false := h
       rw [zdw, za3, za3] at h
       omega
     subst hL; subst hQ
     have h1 : zjl s = 0 := by
       have h : ine (zjl s) 0 = false := h1
       rw [zu4] at h
       exact h
     have h2 : (zcf s).kd = 3 := by
       have h : ine (zcf s).kd 3 = false := h2
       rw [zu4] at h
       exact h
     have h3 : (zcf s).ls.length <= 64 := by
       have h : ilt 64 (za6 (zcf s).ls.length) = false := h3
       rw [zdw, za3] at h
       omega
     have hL2 : pzL s i = pzF (zcf s).ls := by
       unfold pzL
       rw [hge2, List.take_length]
     have hall : ∀ v ∈ (zcf s).ls, enB v = true := by
       intro v hv
       obtain ⟨j, hj, rfl⟩ := List.getElem_of_mem hv
       have := hi2 j (by omega)
       rw [zax, List.getD_eq_getElem?_getD, List.getElem?_eq_getElem hj] at this
       exact this
     refine ⟨⟨?_, o1.ok⟩, fun h4 => ?_, fun h4 => ?_⟩
     · show (pzL s i).length <= 64
       omega
     · have h4 : seq (ldT (pzL s i)) s = true := h4
       rw [ymn] at h4
       rw [hL2] at h4
       exact yo3 (zph.2 ⟨h1, h2, h3, hall, h4⟩) hL2
     · have h4 : seq (ldT (pzL s i)) s = false := h4
       rw [yrr] at h4
       rw [hL2] at h4
       exact zrp fun h => h4 h.2.2.2.2
noncomputable def rqV (s : List UInt8) : List CV := (yqo s 0 0).ls
def enR (v : CV) : Bool := decide (v.kd = 3) && (decide (v.ls.length = 3) && (decide ((zax v.ls 0).kd = 2) && (decide ((zax v.ls 0).tx.length = 16) && (decide ((zax v.ls 1).kd = 1) && (decide ((zax v.ls 1).nn <= 255) && (decide ((zax v.ls 2).kd = 1) && decide ((zax v.ls 2).nn <= 1)))))))
theorem yex {v : CV} : enR v = true ↔ v.kd = 3 /\ v.ls.length = 3 /\ (zax v.ls 0).kd = 2 /\ (zax v.ls 0).tx.length = 16 /\ (zax v.ls 1).kd = 1 /\ (zax v.ls 1).nn <= 255 /\ (zax v.ls 2).kd = 1 /\ (zax v.ls 2).nn <= 1 := by
 unfold enR
 simp only [Bool.and_eq_true, decide_eq_true_eq]
noncomputable def rqE (s : List UInt8) (i : Nat) : Le := enD (zax (rqV s) i)
noncomputable def rqG (s : List UInt8) (i : Nat) : Bool := enR (zax (rqV s) i) && (zbk (rqE s i) && (decide (i = 0) || decide (prN (rqE s (i - 1)).p < prN (rqE s i).p)))
noncomputable def rqB (s : List UInt8) : Bool := decide (s.length <= 8192) && (decide (ys0 s 0 0 = 0) && (decide (ys1 s 0 0 = (s.length : Int)) && (decide ((yqo s 0 0).kd = 3) && (decide ((rqV s).length <= 64) && (List.range (rqV s).length).all (rqG s)))))
noncomputable def rqF (s : List UInt8) : List Le := (rqV s).map enD
noncomputable def rqL (s : List UInt8) : List Le := if rqB s = true then rqF s else []
theorem ykz {s : List UInt8} : rqB s = true ↔ s.length <= 8192 /\ ys0 s 0 0 = 0 /\ ys1 s 0 0 = (s.length : Int) /\ (yqo s 0 0).kd = 3 /\ (rqV s).length <= 64 /\ ∀ j, j < (rqV s).length -> rqG s j = true := by
 unfold rqB
 simp only [Bool.and_eq_true, decide_eq_true_eq, List.all_eq_true, List.mem_range]
theorem yky {s : List UInt8} (hl : s.length <= 8192) : (zjl s = 0 ↔ ys0 s 0 0 = 0 /\ ys1 s 0 0 = (s.length : Int)) /\ (zjl s = 0 -> yqo s 0 0 = zcf s) := by
 have e : yqp s 0 0 = zdo 0 s := rfl
 obtain ⟨h1, h2⟩ := yp1 hl
 have e1 : ys0 s 0 0 = (zdo 0 s).e := by unfold ys0; rw [e]
 have e2 : (zdo 0 s).e = 0 -> ys1 s 0 0 = (s.length : Int) - ((zdo 0 s).r.length : Int) := fun h => by unfold ys1; rw [e, if_pos h]
 have e3 : (zdo 0 s).e = 0 -> yqo s 0 0 = (zdo 0 s).v := fun h => by unfold yqo; rw [e, if_pos h]
 refine ⟨?_, fun h => ?_⟩
 · rw [h1, e1]
   refine and_congr_right fun h => ?_
   rw [e2 h]
   refine ⟨fun h => by rw [h]; simp, fun h => List.eq_nil_of_length_eq_zero (by omega)⟩
 · rw [h2 h, e3 (h1.1 h).1]
theorem ywa {w : CV} (h : wfV w) : 0 <= w.nn := by
 cases w
 rw [wfV] at h
 exact h.1.1
theorem zvk {s : List UInt8} {i : Nat} : rqG s i = true ↔ enR (zax (rqV s) i) = true /\ zbk (rqE s i) = true /\ (i = 0 \/ prN (rqE s (i - 1)).p < prN (rqE s i).p) := by
 unfold rqG
 simp only [Bool.and_eq_true, Bool.or_eq_true, decide_eq_true_eq]
theorem ytv {v : CV} (h : enR v = true) : enB v = true := by
 obtain ⟨h1, h2, h3, h4, h5, h6, h7, h8⟩ := yex.1 h
 exact zsj.2 ⟨h1, h2, h4, h6, h8⟩
theorem ylo {e : Le} (h : zg1 e) : enD (zc5 e) = e := by
 obtain ⟨h1, h2⟩ := h
 show (⟨zyy (zl3 e.p), e.d, decide (zkw e.h = 1)⟩ : Le) = e
 rw [ynd h1]
 cases e with
 | mk p d h => cases h <;> rfl
theorem ytu {e : Le} (h : zg1 e) : enR (zc5 e) = true := by
 refine yex.2 ⟨rfl, rfl, rfl, zp0 e.p, rfl, h.2.2, rfl, ?_⟩
 show zkw e.h <= 1
 unfold zkw
 split <;> omega
theorem ym9 {v : CV} (hw : wfV v) (h : enR v = true) : zbb (zc5 (enD v)) = zbb v := by
 obtain ⟨h1, h2, h3, h4, h5, h6, h7, h8⟩ := yex.1 h
 obtain ⟨k, n, t, l⟩ := v
 have h1 : k = 3 := h1
 subst h1
 match l, h2 with
 | [a, b, c], _ =>
   have h3 : a.kd = 2 := h3
   have h4 : a.tx.length = 16 := h4
   have h5 : b.kd = 1 := h5
   have h7 : c.kd = 1 := h7
   have h8 : c.nn <= 1 := h8
   rw [wfV, zgd, zgd, zgd] at hw
   have hc := ywa hw.2.2.2.2.1
   have e1 : enD (.mk 3 n t [a, b, c]) = ⟨zyy a.tx, b.nn, decide (c.nn = 1)⟩ := rfl
   rw [e1]
   have hb : zkw (decide (c.nn = 1)) = c.nn := by
     unfold zkw
     by_cases h9 : c.nn = 1
     · rw [if_pos (decide_eq_true h9), h9]
     · rw [if_neg (by rw [decide_eq_false h9]; decide)]; omega
   show zbb (zff [yge (zl3 (zyy a.tx)), zkt b.nn, zkt (zkw (decide (c.nn = 1)))]) = _
   rw [yng h4, hb]
   unfold zff
   rw [zai, zai, if_neg (by decide), if_neg (by decide), if_neg (by decide), if_neg (by decide)]
   congr 2
   rw [zao, zao, zao, zao, zao, zao, zao, zao]
   obtain ⟨ka, na, ta, la⟩ := a
   obtain ⟨kb, nb, tb, lb⟩ := b
   obtain ⟨kc, nc, tc, lc⟩ := c
   have h3 : ka = 2 := h3
   have h5 : kb = 1 := h5
   have h7 : kc = 1 := h7
   subst h3 h5 h7
   rfl
theorem zva : ∀ {l : List CV}, zgd l -> (∀ v ∈ l, enR v = true) -> zao (zic (l.map enD)) = zao l
 | [], _, _ => rfl
 | v :: l, hw, h => by
   rw [zgd] at hw
   have ih := zva hw.2 (fun x hx => h x (List.mem_cons_of_mem _ hx))
   have e : zic ((v :: l).map enD) = zc5 (enD v) :: zic (l.map enD) := rfl
   rw [e, zao, zao, ih, ym9 hw.1 (h v (by simp))]
theorem yh1 : ∀ {v : CV}, v.kd = 3 -> zgd v.ls -> (∀ x ∈ v.ls, enR x = true) -> ldT (v.ls.map enD) = zbb v
 | .mk k n t l, hk, hw, h => by
   have hk : k = 3 := hk
   subst hk
   have hw : zgd l := hw
   have h : ∀ x ∈ l, enR x = true := h
   show ldT (l.map enD) = _
   have hlen : (zic (l.map enD)).length = l.length := by simp [zic]
   unfold ldT zdl zff
   rw [zai, zai, if_neg (by decide), if_neg (by decide), if_neg (by decide), if_neg (by decide), zva hw h, hlen]
theorem yna {l : List Le} {e : Le} (hl : zcs l) (he : zg1 e) (hk : zbk e = true) (h : ∀ x ∈ l, kLe x < kLe e) : zb1 l e = l ++ [e] := by
 have hno : zby e.p l = false := by
   cases hh : zby e.p l with
   | false => rfl
   | true =>
     obtain ⟨x, hx, hp⟩ := yoy.1 hh
     have := h x hx
     rw [kLe, kLe, hp] at this
     omega
 have hlb : ∀ {m : List Le}, (∀ x ∈ m, kLe x < kLe e) -> zdb (kLe e) m = m.length := by
   intro m
   induction m with
   | nil => intro _; rfl
   | cons y m ih =>
     intro h
     unfold zdb
     rw [if_pos (h y (by simp)), ih (fun x hx => h x (List.mem_cons_of_mem _ hx)), List.length_cons]
 unfold zb1
 rw [if_pos hk]
 unfold zem
 rw [if_neg (by rw [hno]; decide), hlb h]
 unfold ya8
 rw [List.take_length, List.drop_length]
theorem zvs : ∀ {vs : List CV} {l : List Le}, zcs l -> (∀ v ∈ vs, enV v = enD v /\ zg1 (enD v) /\ zbk (enD v) = true) -> ((l ++ vs.map enD).Pairwise fun a b => kLe a < kLe b) -> vs.foldl (fun l v => zb1 l (enV v)) l = l ++ vs.map enD
 | [], l, _, _, _ => by simp
 | v :: vs, l, hl, hv, hp => by
   obtain ⟨e1, e2, e3⟩ := hv v (by simp)
   have hlt : ∀ x ∈ l, kLe x < kLe (enD v) := fun x hx => (List.pairwise_append.1 hp).2.2 x hx _ (by simp)
   have e4 := yna hl e2 e3 hlt
   rw [List.foldl_cons, e1, e4, zvs (by rw [<- e4]; exact zla hl e2) (fun x hx => hv x (List.mem_cons_of_mem _ hx)) (by simpa using hp)]
   simp
theorem zlz {l : List Le} {e : Le} (h : ∀ x ∈ l, zbk x = true) : ∀ x ∈ zb1 l e, zbk x = true := by
 have ho : ∀ x ∈ zem e l, zbk x = true := by
   intro x hx
   unfold zem at hx
   split at hx
   · exact h x (zmd hx)
   · exact h x hx
 intro x hx
 unfold zb1 at hx
 split at hx
 · rename_i hk
   unfold ya8 at hx
   rcases List.mem_append.1 hx with hx | hx
   · exact ho x (List.mem_of_mem_take hx)
   · rcases List.mem_cons.1 hx with rfl | hx
     · exact hk
     · exact ho x (List.mem_of_mem_drop hx)
 · exact ho x hx
theorem znm : ∀ (vs : List CV) (l : List Le), (∀ x ∈ l, zbk x = true) -> ∀ x ∈ vs.foldl (fun l v => zb1 l (enV v)) l, zbk x = true
 | [], l, h => h
 | v :: vs, l, h => znm vs _ (zlz h)
theorem ys5 {s : List UInt8} (h : ∀ j, j < (rqV s).length -> rqG s j = true) : (rqF s).Pairwise fun a b => kLe a < kLe b := by
 have hl : (rqF s).length = (rqV s).length := by unfold rqF; rw [List.length_map]
 have at' : ∀ (j : Nat) (hj : j < (rqF s).length), (rqF s)[j] = rqE s j := fun j hj => by
   unfold rqE zax
   refine (List.getElem_map (f := enD) (l := rqV s) (i := j) (h := hj)).trans ?_
   rw [List.getD_eq_getElem?_getD, List.getElem?_eq_getElem (by omega)]
   rfl
 have key : ∀ (d i : Nat), i + d + 1 < (rqV s).length -> prN (rqE s i).p < prN (rqE s (i + d + 1)).p := by
   intro d
   induction d with
   | zero =>
     intro i hi
     rcases (zvk.1 (h (i + 0 + 1) hi)).2.2 with h0 | h0
     · omega
     · exact h0
   | succ d ih =>
     intro i hi
     have h1 := ih i (by omega)
     rcases (zvk.1 (h (i + (d + 1) + 1) hi)).2.2 with h0 | h0
     · omega
     · have e : i + (d + 1) + 1 - 1 = i + d + 1 := by omega
       rw [e] at h0
       omega
 rw [List.pairwise_iff_getElem]
 intro i j hi hj hij
 rw [at' i hi, at' j hj]
 have := key (j - i - 1) i (by omega)
 rw [show i + (j - i - 1) + 1 = j by omega] at this
 exact this
theorem yrw {s : List UInt8} (h : rqB s = true) : ygm s = true /\ zpg s = rqL s := by
 obtain ⟨h1, h2, h3, h4, h5, h6⟩ := ykz.1 h
 obtain ⟨g1, g2⟩ := yky h1
 have g1 := g1.2 ⟨h2, h3⟩
 have g2 := g2 g1
 have eV : rqV s = (zcf s).ls := by unfold rqV; rw [g2]
 have hw := ygo s
 have hR : ∀ v ∈ (zcf s).ls, enR v = true /\ zbk (enD v) = true := by
   intro v hv
   obtain ⟨j, hj, rfl⟩ := List.getElem_of_mem hv
   obtain ⟨k1, k2, _⟩ := zvk.1 (h6 j (by rw [eV]; exact hj))
   unfold rqE at k2
   rw [eV, zax, List.getD_eq_getElem?_getD, List.getElem?_eq_getElem hj] at k1 k2
   exact ⟨k1, k2⟩
 have hF : rqF s = (zcf s).ls.map enD := by unfold rqF; rw [eV]
 have hk : ∀ v ∈ (zcf s).ls, enV v = enD v /\ zg1 (enD v) /\ zbk (enD v) = true := by
   intro v hv
   have e : enV v = enD v := by unfold enV; rw [if_pos (ytv (hR v hv).1)]
   have := yew v (yaj hw v hv)
   rw [e] at this
   exact ⟨e, this, (hR v hv).2⟩
 have hp : pzF (zcf s).ls = (zcf s).ls.map enD := by
   have := zvs (l := []) yj4 hk (by rw [List.nil_append, <- hF]; exact ys5 h6)
   rw [List.nil_append] at this
   exact this
 have hT : ldT (pzF (zcf s).ls) = s := by
   rw [hp]
   rw [yh1 (by rw [<- g2]; exact h4) hw (fun v hv => (hR v hv).1)]
   exact yjp g1
 have hB : ygm s = true := zph.2 ⟨g1, by rw [<- g2]; exact h4, by rw [<- eV]; exact h5, fun v hv => ytv (hR v hv).1, hT⟩
 refine ⟨hB, ?_⟩
 unfold zpg rqL
 rw [if_pos hB, if_pos h, hp, hF]
theorem ydr {l : List Le} (hl : zpn l) (hk : ∀ e ∈ l, zbk e = true) (hr : l.Pairwise fun a b => kLe a < kLe b) : rqB (ldT l) = true /\ rqL (ldT l) = l := by
 obtain ⟨q1, q2, q3, q4, q5, q6, q7, q8⟩ := zim hl
 obtain ⟨hl64, hok⟩ := hl
 obtain ⟨g1, g2⟩ := yth q5 q6 q7 q8
 obtain ⟨r1, r2⟩ := yky q8
 have r2 := r2 g2
 have r1 := r1.1 g2
 have eV : rqV (ldT l) = zic l := by
   unfold rqV
   rw [r2]
   show (zcf (zbb (zdl l))).ls = zic l
   rw [g1]; rfl
 have hlen : (zic l).length = l.length := by simp [zic]
 have hat : ∀ (j : Nat) (hj : j < l.length), zax (rqV (ldT l)) j = zc5 l[j] := fun j hj => by
   rw [eV, zax, List.getD_eq_getElem?_getD, List.getElem?_eq_getElem (by rw [hlen]; exact hj)]
   show (zic l)[j]'_ = zc5 l[j]
   unfold zic
   rw [List.getElem_map]
 have hE : ∀ (j : Nat) (hj : j < l.length), rqE (ldT l) j = l[j] := fun j hj => by
   unfold rqE
   rw [hat j hj, ylo (hok _ (List.getElem_mem hj))]
 have hB : rqB (ldT l) = true := by
   refine ykz.2 ⟨q8, r1.1, r1.2, ?_, by rw [eV, hlen]; exact hl64, fun j hj => ?_⟩
   · rw [r2]
     show (zcf (zbb (zdl l))).kd = 3
     rw [g1]; rfl
   · have hj : j < l.length := by rw [eV, hlen] at hj; exact hj
     refine zvk.2 ⟨?_, ?_, ?_⟩
     · rw [hat j hj]; exact ytu (hok _ (List.getElem_mem hj))
     · rw [hE j hj]; exact hk _ (List.getElem_mem hj)
     · by_cases h0 : j = 0
       · exact .inl h0
       · refine .inr ?_
         rw [hE j hj, hE (j - 1) (by omega)]
         exact List.pairwise_iff_getElem.1 hr (j - 1) j (by omega) hj (by omega)
 refine ⟨hB, ?_⟩
 unfold rqL rqF
 rw [if_pos hB, eV]
 unfold zic
 rw [List.map_map]
 conv => rhs; rw [<- List.map_id l]
 exact List.map_congr_left fun e he => ylo (hok e he)
theorem ysy {s : List UInt8} (h : ygm s = true) : rqB s = true /\ zpn (zpg s) /\ ldT (zpg s) = s := by
 obtain ⟨h1, h2, h3, h4, h5⟩ := zph.1 h
 have e : zpg s = pzF (zcf s).ls := by unfold zpg; rw [if_pos h]
 have hz := yca (zcf s).ls [] yj4 (fun v hv => yaj (ygo s) v hv)
 have hz1 : zcs (pzF (zcf s).ls) := hz.1
 have hz2 : (pzF (zcf s).ls).length <= 64 := by
   have : (pzF (zcf s).ls).length <= _ := hz.2
   simp only [List.length_nil] at this
   omega
 have hk : ∀ x ∈ pzF (zcf s).ls, zbk x = true := znm (zcf s).ls [] (fun x hx => by cases hx)
 have hp : zpn (pzF (zcf s).ls) := ⟨hz2, hz1.ok⟩
 have := ydr hp hk hz1.ris
 rw [h5] at this
 refine ⟨this.1, ?_, ?_⟩
 · rw [e]; exact hp
 · rw [e]; exact h5
theorem ycn (s : List UInt8) : ygm s = rqB s /\ zpg s = rqL s := by
 by_cases h : rqB s = true
 · obtain ⟨h1, h2⟩ := yrw h
   exact ⟨by rw [h1, h], h2⟩
 · have h0 : ¬ ygm s = true := fun h2 => h (ysy h2).1
   refine ⟨by rw [Bool.eq_false_iff.2 h, Bool.eq_false_iff.2 h0], ?_⟩
   unfold zpg rqL
   rw [if_neg h, if_neg h0]
end Sy
end Go.Proofs.YtlphgephdhadhaaGreat
namespace Go.Proofs.YtlphgephdhadhaaGreat
namespace Sy
open Go Go.RowKit
theorem okWide_arr {P : Program} {w : World} {r : Reach} {base : Nat} {t e : TypeId} {n : Nat} {v : Value} (ht : P.underlying t = some (.array n e)) (h : Value.okWide P w r base t v) : ∃ cs, v = .agg cs /\ cs.size = P.cellsOf t := by
 simp only [Value.okWide, ht] at h
 obtain ⟨cs, h1, h2, _⟩ := h
 exact ⟨cs, h1, h2⟩
theorem zht.turn {H : Type} {enc : TypeId × Value -> H} {P : Program} {W : World} {t : TypeId} {α β : Type} {sz : Nat} {av : α -> Nat -> AV} {av' : β -> Nat -> AV} {ok : α -> Prop} {ok' : β -> Prop} (O : zht enc P W t α sz av ok) (f : α -> β) (h2 : ∀ y, ok y -> ok' (f y))
   (h1 : ∀ y, ok y -> ∀ j, j < sz -> ∀ v, R W.heap (DW W) zb0 (av y j) v -> R W.heap (DW W) zb0 (av' (f y) j) v) : zht enc P W t β sz av' ok' := by
 refine ⟨O.size, fun fuel cs x h => ?_⟩
 obtain ⟨y, y1, y2, y3⟩ := O.go fuel cs x h
 refine ⟨f y, h2 y y1, y2, fun j hj => ?_⟩
 obtain ⟨v, v1, v2, v3⟩ := y3 j hj
 exact ⟨v, v1, v2, h1 y y1 j hj v v3⟩
end Sy
end Go.Proofs.YtlphgephdhadhaaGreat
namespace Go.Proofs.YtlphgephdhadhaaGreat
namespace Sy
open Go Go.RowKit
set_option maxRecDepth 100000
set_option linter.unusedSimpArgs false
set_option linter.unusedVariables false
structure Tu where
 l : List Le
 i : Nat
def TuI (acs : List La) (x : Tu) : Prop := x.i <= acs.length /\ zcs x.l /\ x.l.length <= 64 /\ ∀ e ∈ x.l, zbk e = true
def tuMu (acs : List La) (x : Tu) : Nat := acs.length - x.i
def tuA (L : zac) (acs : List La) : Nat -> St -> Option Ann := fun id st => match id with
 | 0 => some ⟨Tu, fun x => [(22, .int .i64 (L za6 (L Tu.i x))), (6, zbf L (L Tu.l x))], fun x => [(5, .box 25 [zbf L (L Tu.l x)])], [3, 5, 20, 21], [3], fun x => L2 L TuI acs x, fun x => L2 L tuMu acs x⟩
 | _ => none
theorem ykp {l : List Le} {e : Le} (hl : zcs l) (h64 : l.length <= 64) (hk : ∀ x ∈ l, zbk x = true) (he : zg1 e) (h : zbk e = true -> zby e.p l = true) : zcs (zb1 l e) /\ (zb1 l e).length <= 64 /\ ∀ x ∈ zb1 l e, zbk x = true := by
 refine ⟨zla hl he, ?_, zlz hk⟩
 obtain ⟨h1, h2⟩ := zrw hl he
 cases hh : zbk e with
 | true => rw [if_pos (h hh)] at h1; omega
 | false => have := h2 hh; omega
theorem ygx {l : List Le} {p : Pr} (hl : zcs l) (h64 : l.length <= 64) (hk : ∀ x ∈ l, zbk x = true) (hp : zfh p) : zcs (zb1 l ⟨p, 0, (zan l p).h⟩) /\ (zb1 l ⟨p, 0, (zan l p).h⟩).length <= 64 /\ ∀ x ∈ zb1 l ⟨p, 0, (zan l p).h⟩, zbk x = true := by
 refine ykp hl h64 hk (zoy hl hp) fun h => ?_
 show zby p l = true
 cases hh : zby p l with
 | true => rfl
 | false =>
   rw [zuf hh] at h
   cases h
theorem ygy {l : List Le} {p : Pr} (hl : zcs l) (h64 : l.length <= 64) (hk : ∀ x ∈ l, zbk x = true) (hp : zfh p) : zcs (zb1 l ⟨p, 0, false⟩) /\ (zb1 l ⟨p, 0, false⟩).length <= 64 /\ ∀ x ∈ zb1 l ⟨p, 0, false⟩, zbk x = true :=
 ykp hl h64 hk ⟨hp, Int.le_refl _, by show (0 : Int) <= 255; decide⟩ fun h => by cases h
theorem ym6 {l : List Le} (hk : ∀ x ∈ l, zbk x = true) (p : Pr) (k : Int) : ∀ x ∈ zcl l p k, zbk x = true := by
 unfold zcl
 split
 · refine zlz fun x hx => ?_
   unfold zd9 at hx
   split at hx
   · exact hk x (zmd hx)
   · exact hk x hx
 · intro x hx; cases hx
theorem ygu (acs : List La) (hl : ∀ y ∈ acs, yus y) (p : Pr) (hp : zfh p) : zae Tryz.prog 6 [ysx std acs, zi8 std p] (.bool true) := by
 refine zal (T := tt) (S := fun L => zbe [tru 7, yqd L, yo2 L, zvo L, zvl L, yo9 L, yj2 L, yn5 L, ywr L, yin L, yo4 L, zu1 L, ymx L]) (lo := fun L => tuA L acs) (lb := noA) 5 (fn := Tryz.f6) (xs := fun L => [ysx L acs, zi8 L p]) rfl rfl (by kernel_rfl) (by kernel_rfl) rfl zah (zab ⟨zcx zzv, ykd, yio, zqz, zqx, yj6, zwy, yht, yoj, zwm, yip, zje, yhn, trivial⟩) (by kernel_rfl) ?_
 intro L P' Q' hL hP hQ
 obtain ⟨hE, hEo, hF, hFo, hEta, hPe, hMp, hQ0, hQo, hQ1, hQ1o, hG, hGo⟩ : ze0 L := by subst hL; exact zeg
 (cbv; try simp only [syT, true_and, and_true])
 refine ⟨fun h => ?_, fun _ => ⟨fun h1 => ?_, fun h1 => ⟨⟨⟨[], 0⟩, ?_⟩, fun x hx => ?_⟩⟩⟩
 · subst hL; cases h
 · subst hL; subst hQ; rw [zcb]
 · (cbv; try simp only [syT, true_and, and_true])
   subst hL
   exact ⟨fun _ _ _ _ => trivial, rfl, fun _ _ _ _ => trivial, rfl, rfl, Nat.zero_le _, yj4, Nat.zero_le _, fun e h => by cases h⟩
 · obtain ⟨hi, hok, h64, hkn⟩ : TuI acs x := by
     have h := hx
     rw [hL] at h
     exact h
   clear hx
   (cbv; try simp only [syT, true_and, and_true])
   simp only [hPe, hE, hEo, hF, hFo, hEta, hMp, hQ1, hQ1o, hQ0, hQo, hG, hGo, true_and]
   obtain ⟨a, ha⟩ : ∃ a : La, L (L ztu acs) (L Int.toNat (L za6 (L Tu.i x))) = a := ⟨_, rfl⟩
   rw [ha]
   have hin : L (L ilt (L za6 (L Tu.i x))) (L za6 (L yt4 acs)) = true -> x.i < acs.length := by
     intro h
     rw [hL] at h
     have h : ilt (za6 x.i) (za6 acs.length) = true := h
     rw [zc2, za3, za3] at h
     omega
   have h200 : acs.length <= 200 := by
     have h := h1
     rw [hL] at h
     have h : ilt 200 (za6 acs.length) = false := h
     rw [zdw, za3] at h
     omega
   have hz : L zcd (L Tu.l x) := by
     rw [hL]
     show x.l.length <= 1000000
     omega
   have hz2 : L zcs (L Tu.l x) := by rw [hL]; exact hok
   have hpre : L zpn (L Tu.l x) := by rw [hL]; exact ⟨h64, hok.ok⟩
   refine ⟨fun hlt => ?_, fun hge => ?_⟩
   · have hi2 := hin hlt
     have haa : a = ztu acs x.i := by rw [<- ha, hL]; rfl
     have hwa : yus a := by rw [haa]; exact hl _ (ycy hi2)
     have hu : L u8x (L La.p a) := by rw [hL]; exact hwa.2.1
     have hq0 : zfh (apP a.p) := by
       have := hwa.2.1
       exact yl2 hwa.2.1 (by omega)
     have hq : L zfh (L apP (L La.p a)) := by rw [hL]; exact hq0
     obtain ⟨xr, hxr⟩ : ∃ x' : Tu, x' = ⟨zb1 x.l ⟨apP a.p, 0, (zan x.l (apP a.p)).h⟩, x.i + 1⟩ := ⟨_, rfl⟩
     obtain ⟨xc, hxc⟩ : ∃ x' : Tu, x' = ⟨zb1 x.l ⟨apP a.p, 0, false⟩, x.i + 1⟩ := ⟨_, rfl⟩
     obtain ⟨xd, hxd⟩ : ∃ x' : Tu, x' = ⟨zcl x.l (apP a.p) a.k, x.i + 1⟩ := ⟨_, rfl⟩
     obtain ⟨xs, hxs⟩ : ∃ x' : Tu, x' = ⟨x.l, x.i + 1⟩ := ⟨_, rfl⟩
     obtain ⟨r1, r2, r3⟩ := ygx hok h64 hkn hq0
     obtain ⟨c1, c2, c3⟩ := ygy hok h64 hkn hq0
     have d1 := zxo a.k hok hq0
     have d2 := zsn a.k hok hq0 h64
     have d3 := ym6 hkn (apP a.p) a.k
     refine ⟨?_, ?_, fun k1 => ⟨hu, ⟨hz, hz2, hq⟩, hu, hu, hz, ⟨hz, hz2, ?_⟩, fun k2 => ?_, fun k2 => ⟨xr, ?_⟩⟩, fun k1 => ⟨fun k2 => ⟨hu, ⟨hz, hz2, hq⟩, hu, ⟨hz, hz2, ?_⟩, fun k3 => ?_, fun k3 => ⟨xc, ?_⟩⟩, fun k2 => ⟨hu, ⟨hz, hz2, hq⟩, hu, ⟨hz, hz2, hq⟩, fun k3 => ?_, fun k3 => ⟨⟨?_, ?_, ?_⟩, fun k4 => ?_, fun k4 => ⟨fun k5 => ⟨fun k6 => ?_, fun k6 => ⟨xd, ?_⟩⟩, fun k5 => ⟨fun k6 => ?_, fun k6 => ⟨xs, ?_⟩⟩⟩⟩⟩⟩⟩
     · subst hL
       show inR (za6 x.i) (za6 acs.length) = true
       rw [zfj, za3, za3]; omega
     · subst hL; rfl
     · subst hL; exact zoy hok hq0
     · subst hL
       have h : ilt 64 (za6 (zb1 x.l ⟨apP a.p, 0, (zan x.l (apP a.p)).h⟩).length) = true := k2
       rw [zc2, za3] at h
       omega
     · (cbv; try simp only [syT, true_and, and_true])
       subst hL
       have e : xr.l = zb1 x.l ⟨apP a.p, 0, (zan x.l (apP a.p)).h⟩ := by rw [hxr]
       have e2 : xr.i = x.i + 1 := by rw [hxr]
       refine ⟨fun _ _ _ _ => trivial, ⟨congrArg zg4 e.symm, fun q r _ _ => congrArg (fun l => leC std (za4 l q) r) e.symm⟩, fun _ _ _ _ => trivial, ⟨congrArg zg4 e.symm, fun q r _ _ => congrArg (fun l => leC std (za4 l q) r) e.symm⟩, ?_, ⟨?_, ?_, ?_, ?_⟩, ?_⟩
       · show zbt .i64 (za6 x.i) 1 = za6 xr.i
         rw [e2]
         unfold zbt za6
         rw [zco]; omega
       · show xr.i <= acs.length
         omega
       · rw [e]; exact r1
       · rw [e]; exact r2
       · rw [e]; exact r3
       · show acs.length - xr.i < acs.length - x.i
         omega
     · subst hL; exact ⟨hq0, Int.le_refl _, by show (0 : Int) <= 255; decide⟩
     · subst hL
       have h : ilt 64 (za6 (zb1 x.l ⟨apP a.p, 0, false⟩).length) = true := k3
       rw [zc2, za3] at h
       omega
     · (cbv; try simp only [syT, true_and, and_true])
       subst hL
       have e : xc.l = zb1 x.l ⟨apP a.p, 0, false⟩ := by rw [hxc]
       have e2 : xc.i = x.i + 1 := by rw [hxc]
       refine ⟨fun _ _ _ _ => trivial, ⟨congrArg zg4 e.symm, fun q r _ _ => congrArg (fun l => leC std (za4 l q) r) e.symm⟩, fun _ _ _ _ => trivial, ⟨congrArg zg4 e.symm, fun q r _ _ => congrArg (fun l => leC std (za4 l q) r) e.symm⟩, ?_, ⟨?_, ?_, ?_, ?_⟩, ?_⟩
       · show zbt .i64 (za6 x.i) 1 = za6 xc.i
         rw [e2]
         unfold zbt za6
         rw [zco]; omega
       · show xc.i <= acs.length
         omega
       · rw [e]; exact c1
       · rw [e]; exact c2
       · rw [e]; exact c3
       · show acs.length - xc.i < acs.length - x.i
         omega
     · subst hL
       have h : ine (zcm x.l (apP a.p) a.k) (zcm x.l (apP a.p) a.k) = true := k3
       rw [zs5] at h
       exact absurd rfl h
     · subst hL
       show (zcl x.l (apP a.p) a.k).length <= 1000000
       omega
     · subst hL
       show (zcl x.l (apP a.p) a.k).length <= 1000000
       omega
     · subst hL; exact d1
     · subst hL
       have h : (!(yom (zcl x.l (apP a.p) a.k) (zcl x.l (apP a.p) a.k))) = true := k4
       unfold yom at h
       rw [decide_eq_true rfl] at h
       cases h
     · subst hL
       have h : ilt 64 (za6 (zcl x.l (apP a.p) a.k).length) = true := k6
       rw [zc2, za3] at h
       omega
     · (cbv; try simp only [syT, true_and, and_true])
       subst hL
       have e : xd.l = zcl x.l (apP a.p) a.k := by rw [hxd]
       have e2 : xd.i = x.i + 1 := by rw [hxd]
       refine ⟨fun _ _ _ _ => trivial, ⟨congrArg zg4 e.symm, fun q r _ _ => congrArg (fun l => leC std (za4 l q) r) e.symm⟩, fun _ _ _ _ => trivial, ⟨congrArg zg4 e.symm, fun q r _ _ => congrArg (fun l => leC std (za4 l q) r) e.symm⟩, ?_, ⟨?_, ?_, ?_, ?_⟩, ?_⟩
       · show zbt .i64 (za6 x.i) 1 = za6 xd.i
         rw [e2]
         unfold zbt za6
         rw [zco]; omega
       · show xd.i <= acs.length
         omega
       · rw [e]; exact d1
       · rw [e]; exact d2
       · rw [e]; exact d3
       · show acs.length - xd.i < acs.length - x.i
         omega
     · subst hL
       have h : ilt 64 (za6 x.l.length) = true := k6
       rw [zc2, za3] at h
       omega
     · (cbv; try simp only [syT, true_and, and_true])
       subst hL
       have e : xs.l = x.l := by rw [hxs]
       have e2 : xs.i = x.i + 1 := by rw [hxs]
       refine ⟨fun _ _ _ _ => trivial, ⟨congrArg zg4 e.symm, fun q r _ _ => congrArg (fun l => leC std (za4 l q) r) e.symm⟩, fun _ _ _ _ => trivial, ⟨congrArg zg4 e.symm, fun q r _ _ => congrArg (fun l => leC std (za4 l q) r) e.symm⟩, ?_, ⟨?_, ?_, ?_, ?_⟩, ?_⟩
       · show zbt .i64 (za6 x.i) 1 = za6 xs.i
         rw [e2]
         unfold zbt za6
         rw [zco]; omega
       · show xs.i <= acs.length
         omega
       · rw [e]; exact hok
       · rw [e]; exact h64
       · rw [e]; exact hkn
       · show acs.length - xs.i < acs.length - x.i
         omega
   · subst hL; subst hQ
     obtain ⟨e1, e2⟩ := ydr ⟨h64, hok.ok⟩ hkn hok.ris
     obtain ⟨e3, e4⟩ := ycn (ldT x.l)
     have hLl : zpg (ldT x.l) = x.l := e4.trans e2
     have hE : ieq (yiq (ldT x.l)) 0 = true := by
       unfold yiq
       rw [e3, e1]; rfl
     have hI : yom x.l x.l = true := by unfold yom; exact decide_eq_true rfl
     have hS : seq (ldT x.l) (ldT x.l) = true := by rw [ymn]
     have hG : (and (ynf (zan x.l p).p (zan x.l p).p) (and (ieq (zan x.l p).d (zan x.l p).d) (and (yud (zan x.l p).h (zan x.l p).h) true))) = true := by
       rw [zpm]; exact decide_eq_true rfl
     refine ⟨hpre, ⟨hz, hz, hz2⟩, fun _ => ⟨⟨hz, hz2, hp⟩, hz, fun _ => ⟨hpre, hpre, fun _ => ⟨fun _ => ⟨⟨?_, hz, ?_⟩, ?_⟩, fun h => ?_⟩, fun h => ?_⟩, fun h => ?_⟩, fun h => ?_⟩
     · show zcd (zpg (ldT x.l))
       rw [hLl]; exact hz
     · show zcs (zpg (ldT x.l))
       rw [hLl]; exact hok
     · rw [zcb]
       show yom (zpg (ldT x.l)) x.l = true
       rw [hLl]; exact hI
     · exact absurd (hE.symm.trans h) (by decide)
     · exact absurd (hS.symm.trans h) (by decide)
     · exact absurd (hG.symm.trans h) (by decide)
     · exact absurd (hI.symm.trans h) (by decide)
def yse (l : List Int) : Prop := l.length = 16 /\ ∀ x ∈ l, 0 <= x /\ x < 256
theorem opens_pr {H : Type} {enc : TypeId × Value -> H} {W : World} : zht enc Tryz.prog W 30 (List Int) 16 (fun l j => .int .u8 (za9 l j)) (fun l => yse l) :=
 (ycs (n := 16) (sz := 1) Tryz.underlying30 (by kernel_rfl) (zj5 Tryz.underlying5 (by kernel_rfl)) (by decide)).turn (fun l => l) (fun l h => ⟨h.1, fun x hx => by have := bounds_u8 (h.2 x hx); omega⟩) (fun l h j hj v r => by
   have e : avL (fun n (_ : Nat) => AV.int .u8 n) l (j / 1) (j % 1) = .int .u8 (za9 l j) := by
     rw [Nat.div_one, avL, za9, List.getD_eq_getElem?_getD, List.getElem?_eq_getElem (by rw [h.1]; omega : j < l.length)]; rfl
   rw [e] at r
   exact r)
theorem law_LedgerTurns (acs : List La) (hl : acs.length <= maxLen /\ ∀ y ∈ acs, yus y) (l : List Int) (hp : yse l) : zae Tryz.prog 6 [.lst 3 acs.length (avL (laC std) acs), .agg ((List.range 16).map fun j => .int .u8 (za9 l j))] (.bool true) :=
 zv1 (fun h D vs r => ys4 (fun i j hi hj => avLa acs i j hi) r) (ygu acs hl.2 ⟨l, hp.1⟩ hp.2)
end Sy
end Go.Proofs.YtlphgephdhadhaaGreat
