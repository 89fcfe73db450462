/-Chapter 1: a zit by sevens of bits: how long; the zit that a text begins with; of what is written it is what was written. Chapter 14 (file): zaa and Open; the plain law of what is sealed; and what stands between these and the texts behind.-/
import Derived.Test.YtlphgephdhadhaaGreatM4
import Derived.Tactics
import Derived.Tactics2
import Derived.StillTactics
import Derived.Laws.Cells
import Derived.Laws.Pointers
import Derived.Laws.Sem
import Derived.Laws.Small
import Derived.LoopTactic
import Derived.LoopN
import Derived.Laws.IdiomRangeMap
import Derived.Maps.RangeRun
import Derived.Shelf.SlIter.Nil
import Derived.Shelf.SortM.Plain
import Derived.Shelf.SortM.SortNone
import Derived.Shelf.SlMaps.Clone
import Derived.Ground.GgzProg
import Derived.Ground.SlgmProg
import Derived.Ground.SlmcProg
import Derived.Test.YtlphgephdhadhaaGreatProg
import Derived.Test.YtlphgephdhadhaaGreatShelf
namespace Go.Proofs.YtlphgephdhadhaaGreat
namespace Sy
open Go Go.RowKit
set_option maxRecDepth 100000
set_option linter.unusedSimpArgs false
set_option linter.unusedVariables false
theorem zna : ∀ (k n : Nat), n < 128 ^ (k + 1) -> (zdc n).length <= k + 1
 | 0, n, h => by rw [zbc (by omega)]; simp
 | k + 1, n, h => by
   by_cases h1 : n < 128
   · rw [zbc h1]; simp
   · rw [zdb (by omega), List.length_cons]
     have := zna k (n / 128) (by rw [Nat.div_lt_iff_lt_mul (by omega)]; rw [Nat.pow_succ] at h; exact h)
     omega
theorem zda {n : Int} (h : zbx n) : (zar n).length <= 10 := zna 9 n.toNat (by
 have := h.2
 have := h.1
 rw [show (128 : Nat) ^ (9 + 1) = 1180591620717411303424 from by decide]
 omega)
theorem zwz (a : Int) : bytesOf 1 (fun i => (AV.int .u8 (za7 [a] (0 + i))).toI) = [UInt8.ofNat a.toNat] := rfl
def yv7 (n x : Int) (p : List UInt8) : Prop := zbx x /\ p ++ zar x = zar n
def rshA (L : zaa) (n : Int) : Nat -> St -> Option Ann := fun id s => match id with
 | 0 => some ⟨Int × List UInt8, fun x => [(0, .int .u64 x.1), (3, .str x.2)], fun i => [], [], [],
     fun x => L3 L yv7 n x.1 x.2, fun x => L Int.toNat x.1⟩
 | _ => none
def zom (L : zaa) : zcl := (55, fun xs => match xs with | [.int .u64 n] => some (L zbx n, .str (L zar n)) | _ => none)
theorem zxd {x : Int} (h : zbx x) (hx : 127 < x) : zar x = UInt8.ofNat (x % 128 + 128).toNat :: zar (x / 128) := by
 have := h.1
 unfold zar
 rw [zdb (by omega)]
 congr 1
 · congr 1; omega
 · congr 1; omega
theorem zk7 {x : Int} (h : zbx x) (hx : x <= 127) : zar x = [UInt8.ofNat x.toNat] := by
 have := h.1
 unfold zar
 exact zbc (by omega)
theorem zst : zcs Tryz.prog (zom std) := by
 intro xs p r h hp
 unfold zom at h
 simp only at h
 split at h
 rotate_left
 · cases h
 rename_i n
 cases h
 have hn : zbx n := hp
 have hl := zda hn
 refine zab (T := tt) (S := noS) (lo := fun L => rshA L n) (lb := noA) 5 (fn := Tryz.f55) rfl rfl (by kernel_rfl) (by kernel_rfl) rfl zah (zdd _) (by kernel_rfl) ?_
 intro L P' Q' hL hP hQ
 (cbv; try simp only [syT, true_and, and_true])
 refine ⟨⟨(n, []), ?_⟩, fun x hx => ?_⟩
 · (cbv; try simp only [syT, true_and, and_true])
   (subst hL; subst hQ; simp only [L2, L3, std] at *; try simp only [syS, reduceCtorEq, Int.reduceToNat, Int.reduceAdd, Int.reduceSub] at *)
   exact ⟨hn, rfl⟩
 · cbv at hx
   obtain ⟨x, pre⟩ := x
   (cbv; try simp only [syT, true_and, and_true])
   obtain ⟨x', hx'⟩ : ∃ x', x' = x / 128 := ⟨_, rfl⟩
   obtain ⟨p', hp'⟩ : ∃ p', p' = pre ++ [UInt8.ofNat (x % 128 + 128).toNat] := ⟨_, rfl⟩
   refine ⟨fun h => ⟨?_, ?_, ?_, ?_, ⟨(x', p'), ?_⟩⟩, fun h => ⟨?_, ?_, ?_⟩⟩
   · (subst hL; subst hQ; simp only [L2, L3, std] at *; try simp only [syS, reduceCtorEq, Int.reduceToNat, Int.reduceAdd, Int.reduceSub] at *)
     omega
   · (subst hL; subst hQ; simp only [L2, L3, std] at *; try simp only [syS, reduceCtorEq, Int.reduceToNat, Int.reduceAdd, Int.reduceSub] at *)
     exact ⟨Nat.le_refl _, fun i hi => ⟨_, rfl⟩⟩
   · (subst hL; subst hQ; simp only [L2, L3, std] at *; try simp only [syS, reduceCtorEq, Int.reduceToNat, Int.reduceAdd, Int.reduceSub] at *)
     rw [zwz]
     have := congrArg List.length hx.2
     rw [List.length_append] at this
     simp; omega
   · (subst hL; subst hQ; simp only [L2, L3, std] at *; try simp only [syS, reduceCtorEq, Int.reduceToNat, Int.reduceAdd, Int.reduceSub] at *)
     omega
   · (cbv; try simp only [syT, true_and, and_true])
     (subst hL; subst hQ; simp only [L2, L3, std] at *; try simp only [syS, reduceCtorEq, Int.reduceToNat, Int.reduceAdd, Int.reduceSub] at *)
     rw [zwz]
     have h0 := hx.1.1
     have h1 := hx.1.2
     have e1 : x.tmod 128 = x % 128 := Int.tmod_eq_emod_of_nonneg h0
     have e2 : x.tdiv 128 = x / 128 := Int.tdiv_eq_ediv_of_nonneg h0
     have e3 := hx.2
     rw [zxd hx.1 h] at e3
     refine ⟨?_, ?_, ⟨⟨by omega, by omega⟩, ?_⟩, by omega⟩
     · have e4 : (x % 128 + 128) % 18446744073709551616 % 256 = x % 128 + 128 := by omega
       rw [hp', e1, e4]
     · rw [yqi, zsj, e2, hx']
       exact Int.emod_eq_of_lt (by omega) (by omega)
     · rw [hp', hx', List.append_assoc]; exact e3
   · (subst hL; subst hQ; simp only [L2, L3, std] at *; try simp only [syS, reduceCtorEq, Int.reduceToNat, Int.reduceAdd, Int.reduceSub] at *)
     exact ⟨Nat.le_refl _, fun i hi => ⟨_, rfl⟩⟩
   · (subst hL; subst hQ; simp only [L2, L3, std] at *; try simp only [syS, reduceCtorEq, Int.reduceToNat, Int.reduceAdd, Int.reduceSub] at *)
     rw [zwz]
     have := congrArg List.length hx.2
     rw [List.length_append] at this
     have := (zk7 hx.1 h)
     simp; omega
   · (subst hL; subst hQ; simp only [L2, L3, std] at *; try simp only [syS, reduceCtorEq, Int.reduceToNat, Int.reduceAdd, Int.reduceSub] at *)
     rw [zwz, <- hx.2, zk7 hx.1 h]
     have h0 := hx.1.1
     congr 3; omega
def cb (s : List UInt8) (i : Nat) : Nat := (s.getD i 0).toNat
theorem zz0 (s : List UInt8) (i : Nat) : cb s i < 256 := UInt8.toNat_lt _
def lng (s : List UInt8) : Nat -> Nat -> Nat -> Nat × Nat × Nat
 | 0, _, _ => (0, 0, 4)
 | f + 1, i, n =>
   if s.length <= i then (0, 0, 3)
   else if i = 9 /\ 1 < cb s i then (0, 0, 4)
   else if 128 <= cb s i then lng s f (i + 1) (n + cb s i % 128 * 2 ^ (7 * i))
   else if 0 < cb s i \/ i = 0 then (n + cb s i % 128 * 2 ^ (7 * i), i + 1, 0)
   else (0, 0, 4)
def zb2 (s : List UInt8) : Int := (lng s 10 0 0).1
def ze2 (s : List UInt8) : Int := (lng s 10 0 0).2.1
def zdj (s : List UInt8) : Int := (lng s 10 0 0).2.2
def ziy (s : List UInt8) (x : Nat × Nat) : Prop := x.1 <= s.length /\ x.1 <= 9 /\ x.2 < 2 ^ (7 * x.1) /\ lng s (10 - x.1) x.1 x.2 = lng s 10 0 0
theorem ypm {n m i : Nat} (hn : n < 2 ^ i) (hm : m * 2 ^ i < 2 ^ 64) (hn' : n < 2 ^ 64) : bor .u64 (n : Int) ((m * 2 ^ i : Nat) : Int) = ((n + m * 2 ^ i : Nat) : Int) := by
 have e : n ||| m * 2 ^ i = n + m * 2 ^ i := by
   have := Nat.shiftLeft_add_eq_or_of_lt hn m
   rw [Nat.shiftLeft_eq] at this
   rw [Nat.or_comm, <- this, Nat.add_comm]
 have hlt : n ||| m * 2 ^ i < 2 ^ 64 := Nat.or_lt_two_pow hn' hm
 unfold bor
 rw [show IntKind.u64.bits = 64 from rfl, BitVec.ofInt_natCast, BitVec.ofInt_natCast, BitVec.toNat_or, BitVec.toNat_ofNat, BitVec.toNat_ofNat, Nat.mod_eq_of_lt hn', Nat.mod_eq_of_lt hm, zsj, <- e]
 omega
theorem yr1 {c i : Nat} (h : c * 2 ^ (7 * i) < 2 ^ 64) (hi : i <= 9) : yfq .u64 (c : Int) (7 * (i : Int)) = ((c * 2 ^ (7 * i) : Nat) : Int) := by
 unfold yfq
 rw [show (7 * (i : Int)).toNat = 7 * i by omega, show IntKind.u64.bits = 64 from rfl, Nat.min_eq_left (by omega), zsj]
 have e : ((c : Int) * 2 ^ (7 * i)) = ((c * 2 ^ (7 * i) : Nat) : Int) := by simp
 rw [e]
 omega
theorem pow9 {i : Nat} (hi : i <= 9) : 2 ^ (7 * i) <= 2 ^ 63 := Nat.pow_le_pow_right (by decide) (by omega)
theorem zp8 {c i n : Nat} (hi : i <= 9) (hn : n < 2 ^ (7 * i)) (hc : c < 256) (h9 : ¬ (i = 9 /\ 1 < c)) : n + c % 128 * 2 ^ (7 * i) < 2 ^ (7 * (i + 1)) /\ n + c % 128 * 2 ^ (7 * i) < 2 ^ 64 /\ c % 128 * 2 ^ (7 * i) < 2 ^ 64 /\ n < 2 ^ 64 := by
 have h1 := pow9 hi
 have e : 2 ^ (7 * (i + 1)) = 128 * 2 ^ (7 * i) := by rw [show 7 * (i + 1) = 7 + 7 * i by omega, Nat.pow_add]
 have h2 : c % 128 * 2 ^ (7 * i) <= 127 * 2 ^ (7 * i) := Nat.mul_le_mul_right _ (by omega)
 rw [e]
 refine ⟨by omega, ?_⟩
 by_cases h : i = 9
 · subst h
   have : c <= 1 := by omega
   have h3 : c % 128 * 2 ^ (7 * 9) <= 1 * 2 ^ (7 * 9) := Nat.mul_le_mul_right _ (by omega)
   omega
 · have h3 : 2 ^ (7 * i) <= 2 ^ 56 := Nat.pow_le_pow_right (by decide) (by omega)
   omega
theorem ysd {c i n : Nat} (hi : i <= 9) (hn : n < 2 ^ (7 * i)) (hc : c < 256) (h9 : ¬ (i = 9 /\ 1 < c)) : bor .u64 (n : Int) (yfq .u64 ((c : Int) % 128) (7 * (i : Int))) = ((n + c % 128 * 2 ^ (7 * i) : Nat) : Int) := by
 obtain ⟨_, _, h3, h4⟩ := zp8 hi hn hc h9
 rw [show ((c : Int) % 128) = ((c % 128 : Nat) : Int) by omega, yr1 h3 hi, ypm hn h3 h4]
theorem zix {s : List UInt8} {i n : Nat} (hx : ziy s (i, n)) : lng s 10 0 0 = if s.length <= i then (0, 0, 3)
   else if i = 9 /\ 1 < cb s i then (0, 0, 4)
   else if 128 <= cb s i then lng s (9 - i) (i + 1) (n + cb s i % 128 * 2 ^ (7 * i))
   else if 0 < cb s i \/ i = 0 then (n + cb s i % 128 * 2 ^ (7 * i), i + 1, 0)
   else (0, 0, 4) := by
 obtain ⟨h1, h2, h3, h4⟩ := hx
 rw [<- h4]
 simp only at h2 |-
 rw [show 10 - i = (9 - i) + 1 by omega, lng]
theorem zw5 {s : List UInt8} {a b c : Nat} (h : lng s 10 0 0 = (a, b, c)) : (a : Int) = zb2 s /\ (b : Int) = ze2 s /\ (c : Int) = zdj s := by
 unfold zb2 ze2 zdj
 rw [h]
 exact ⟨rfl, rfl, rfl⟩
theorem yw2 {s : List UInt8} {i n : Nat} (hx : ziy s (i, n)) (h : (i : Int) = (s.length : Int)) : 0 = zb2 s /\ 0 = ze2 s /\ 3 = zdj s := by
 have := zix hx
 rw [if_pos (by omega)] at this
 exact zw5 this
theorem zkp (s : List UInt8) (i : Nat) : ((s.getD i 0).toNat : Int) % 18446744073709551616 = (cb s i : Int) := by
 have := zz0 s i
 unfold cb at *
 omega
theorem yw1 {s : List UInt8} {i n : Nat} (hx : ziy s (i, n)) (h : ¬ (i : Int) = (s.length : Int)) (h9 : (i : Int) = 9) (hc : 1 < ((s.getD i 0).toNat : Int) % 18446744073709551616) : 0 = zb2 s /\ 0 = ze2 s /\ 4 = zdj s := by
 have := zix hx
 have h1 := hx.1
 rw [zkp] at hc
 simp only at h1
 rw [if_neg (by omega), if_pos ⟨by omega, by omega⟩] at this
 exact zw5 this
theorem ysc {s : List UInt8} {i n : Nat} (hx : ziy s (i, n)) (h9 : ¬ (i = 9 /\ 1 < cb s i)) : bor .u64 (n : Int) (yfq .u64 ((((s.getD i 0).toNat : Int) % 18446744073709551616).tmod 128) ((7 * (i : Int) + 9223372036854775808) % 18446744073709551616 - 9223372036854775808)) = ((n + cb s i % 128 * 2 ^ (7 * i) : Nat) : Int) := by
 have h1 := hx.2.1
 have h2 := hx.2.2.1
 simp only at h1 h2
 rw [zkp, Int.tmod_eq_emod_of_nonneg (by omega), show (7 * (i : Int) + 9223372036854775808) % 18446744073709551616 - 9223372036854775808 = 7 * (i : Int) by omega]
 exact ysd h1 h2 (zz0 s i) h9
theorem yw0 {s : List UInt8} {i n : Nat} (hx : ziy s (i, n)) (h : ¬ (i : Int) = (s.length : Int)) (h9 : ¬ (i = 9 /\ 1 < cb s i)) (hm : 128 <= ((s.getD i 0).toNat : Int) % 18446744073709551616) : ziy s (i + 1, n + cb s i % 128 * 2 ^ (7 * i)) /\ 10 - (i + 1) + 1 <= 10 - i /\ i <= 8 := by
 have h0 := zix hx
 have h1 := hx.2.1
 have h2 := hx.2.2.1
 have h3 := hx.1
 rw [zkp] at hm
 simp only at h1 h2 h3
 rw [if_neg (by omega), if_neg h9, if_pos (by omega)] at h0
 refine ⟨⟨?_, ?_, (zp8 h1 h2 (zz0 s i) h9).1, ?_⟩, by omega, by omega⟩
 · simp only; omega
 · simp only; omega
 · simp only
   rw [h0]; congr 1; omega
theorem yi7 {s : List UInt8} {i n : Nat} (hx : ziy s (i, n)) (h : ¬ (i : Int) = (s.length : Int)) (h9 : ¬ (i = 9 /\ 1 < cb s i)) (hm : ((s.getD i 0).toNat : Int) % 18446744073709551616 < 128) (hp : 0 < cb s i \/ i = 0) :
   bor .u64 (n : Int) (yfq .u64 ((((s.getD i 0).toNat : Int) % 18446744073709551616).tmod 128) ((7 * (i : Int) + 9223372036854775808) % 18446744073709551616 - 9223372036854775808)) = zb2 s /\
     ((i : Int) + 1 + 9223372036854775808) % 18446744073709551616 - 9223372036854775808 = ze2 s /\ 0 = zdj s := by
 have h0 := zix hx
 have h1 := hx.2.1
 have h3 := hx.1
 rw [zkp] at hm
 simp only at h1 h3
 rw [if_neg (by omega), if_neg h9, if_neg (by omega), if_pos hp] at h0
 obtain ⟨e1, e2, e3⟩ := zw5 h0
 rw [ysc hx h9]
 exact ⟨e1, by rw [<- e2]; omega, e3⟩
theorem yse {s : List UInt8} {i n : Nat} (hx : ziy s (i, n)) (h : ¬ (i : Int) = (s.length : Int)) (h9 : ¬ (i = 9 /\ 1 < cb s i)) (hm : ((s.getD i 0).toNat : Int) % 18446744073709551616 < 128) (hp : ((s.getD i 0).toNat : Int) % 18446744073709551616 <= 0)
   (h1 : ¬ ((i : Int) + 1 + 9223372036854775808) % 18446744073709551616 - 9223372036854775808 = 1) : 0 = zb2 s /\ 0 = ze2 s /\ 4 = zdj s := by
 have h0 := zix hx
 have h2 := hx.2.1
 have h3 := hx.1
 rw [zkp] at hm hp
 simp only at h2 h3
 rw [if_neg (by omega), if_neg h9, if_neg (by omega), if_neg (by omega)] at h0
 exact zw5 h0
def lngA (L : zaa) (s : List UInt8) : Nat -> St -> Option Ann := fun id st => match id with
 | 0 => some ⟨Nat × Nat, fun x => [(6, .int .i64 (L za8 (L Prod.fst x))), (5, .int .u64 (L za8 (L Prod.snd x)))], fun _ => [], [0], [],
     fun x => L2 L ziy s x, fun x => L (fun x : Nat × Nat => 10 - x.1) x⟩
 | _ => none
def yi6 (L : zaa) : zcl := (65, fun xs => match xs with | [.str s] => some (True, .tup [.int .u64 (L zb2 s), .int .i64 (L ze2 s), .int .i64 (L zdj s)]) | _ => none)
theorem zw6 : zcs Tryz.prog (yi6 std) := by
 intro xs p r h hp
 dsimp only [yi6] at h |-
 split at h <;> cases h
 try simp only [L2, L3, std] at hp |-
 rename_i s
 refine zab (T := tt) (S := noS) (lo := noA) (lb := fun L => lngA L s) 5 (fn := Tryz.f65) rfl rfl (by kernel_rfl) (by kernel_rfl) rfl zah (zdd _) (by kernel_rfl) ?_
 intro L P' Q' hL hP hQ
 (cbv; try simp only [syT, true_and, and_true])
 refine ⟨fun x hx => ?_, ⟨(0, 0), ?_⟩⟩
 · cbv at hx
   obtain ⟨i, n⟩ := x
   (cbv; try simp only [syT, true_and, and_true])
   obtain ⟨m, hm'⟩ : ∃ m, m = n + cb s i % 128 * 2 ^ (7 * i) := ⟨_, rfl⟩
   refine ⟨fun h => ?_, fun h => ⟨?_, fun h9 => ⟨fun hc => ?_, fun hc => ⟨?_, ?_, fun hm => ⟨(i + 1, m), ?_⟩, fun hm => ⟨fun hp => ?_, fun hp => ⟨fun h1 => ?_, fun h1 => ?_⟩⟩⟩⟩,
     fun h9 => ⟨?_, ?_, fun hm => ⟨(i + 1, m), ?_⟩, fun hm => ⟨fun hp => ?_, fun hp => ⟨fun h1 => ?_, fun h1 => ?_⟩⟩⟩⟩⟩
   · (subst hL; subst hQ; simp only [L2, L3, std] at *; try simp only [syS, reduceCtorEq, Int.reduceToNat, Int.reduceAdd, Int.reduceSub] at *)
     exact yw2 hx h
   · (subst hL; subst hQ; simp only [L2, L3, std] at *; try simp only [syS, reduceCtorEq, Int.reduceToNat, Int.reduceAdd, Int.reduceSub] at *)
     have := hx.1
     simp only at this
     omega
   · (subst hL; subst hQ; simp only [L2, L3, std] at *; try simp only [syS, reduceCtorEq, Int.reduceToNat, Int.reduceAdd, Int.reduceSub] at *)
     exact yw1 hx h h9 hc
   · (subst hL; subst hQ; simp only [L2, L3, std] at *; try simp only [syS, reduceCtorEq, Int.reduceToNat, Int.reduceAdd, Int.reduceSub] at *)
     decide
   · (subst hL; subst hQ; simp only [L2, L3, std] at *; try simp only [syS, reduceCtorEq, Int.reduceToNat, Int.reduceAdd, Int.reduceSub] at *)
     have := hx.2.1
     simp only at this
     rw [Int.emod_eq_of_lt (by omega) (by omega)]
     omega
   · (cbv; try simp only [syT, true_and, and_true])
     (subst hL; subst hQ; simp only [L2, L3, std] at *; try simp only [syS, reduceCtorEq, Int.reduceToNat, Int.reduceAdd, Int.reduceSub] at *)
     rw [zkp] at hc
     exact absurd hm (by rw [zkp]; omega)
   · (subst hL; subst hQ; simp only [L2, L3, std] at *; try simp only [syS, reduceCtorEq, Int.reduceToNat, Int.reduceAdd, Int.reduceSub] at *)
     rw [zkp] at hc
     exact yi7 hx h (by omega) hm (by rw [zkp] at hp; omega)
   · (subst hL; subst hQ; simp only [L2, L3, std] at *; try simp only [syS, reduceCtorEq, Int.reduceToNat, Int.reduceAdd, Int.reduceSub] at *)
     rw [zkp] at hc
     have := hx.2.1
     simp only at this
     exact yi7 hx h (by omega) hm (by omega)
   · (subst hL; subst hQ; simp only [L2, L3, std] at *; try simp only [syS, reduceCtorEq, Int.reduceToNat, Int.reduceAdd, Int.reduceSub] at *)
     rw [zkp] at hc
     exact yse hx h (by omega) hm hp h1
   · (subst hL; subst hQ; simp only [L2, L3, std] at *; try simp only [syS, reduceCtorEq, Int.reduceToNat, Int.reduceAdd, Int.reduceSub] at *)
     decide
   · (subst hL; subst hQ; simp only [L2, L3, std] at *; try simp only [syS, reduceCtorEq, Int.reduceToNat, Int.reduceAdd, Int.reduceSub] at *)
     have := hx.2.1
     simp only at this
     rw [Int.emod_eq_of_lt (by omega) (by omega)]
     omega
   · (cbv; try simp only [syT, true_and, and_true])
     (subst hL; subst hQ; simp only [L2, L3, std] at *; try simp only [syS, reduceCtorEq, Int.reduceToNat, Int.reduceAdd, Int.reduceSub] at *)
     obtain ⟨q1, q2, q3⟩ := yw0 hx h (by omega) hm
     rw [ysc hx (by omega), hm']
     exact ⟨rfl, by omega, q1, q2⟩
   · (subst hL; subst hQ; simp only [L2, L3, std] at *; try simp only [syS, reduceCtorEq, Int.reduceToNat, Int.reduceAdd, Int.reduceSub] at *)
     exact yi7 hx h (by omega) hm (by rw [zkp] at hp; omega)
   · (subst hL; subst hQ; simp only [L2, L3, std] at *; try simp only [syS, reduceCtorEq, Int.reduceToNat, Int.reduceAdd, Int.reduceSub] at *)
     have := hx.2.1
     simp only at this
     exact yi7 hx h (by omega) hm (by omega)
   · (subst hL; subst hQ; simp only [L2, L3, std] at *; try simp only [syS, reduceCtorEq, Int.reduceToNat, Int.reduceAdd, Int.reduceSub] at *)
     exact yse hx h (by omega) hm hp h1
 · (cbv; try simp only [syT, true_and, and_true])
   (subst hL; subst hQ; simp only [L2, L3, std] at *; try simp only [syS, reduceCtorEq, Int.reduceToNat, Int.reduceAdd, Int.reduceSub] at *)
   exact ⟨Nat.zero_le _, by omega, by simp, rfl⟩
theorem yti (p : List UInt8) (c : UInt8) (r : List UInt8) : cb (p ++ c :: r) p.length = c.toNat := by
 unfold cb
 rw [List.getD_eq_getElem?_getD, List.getElem?_append_right (Nat.le_refl _), Nat.sub_self]
 rfl
theorem zr2 (r : List UInt8) : ∀ (f m n0 : Nat) (p : List UInt8), f + p.length = 10 -> m * 2 ^ (7 * p.length) < 2 ^ 64 -> (0 < m \/ p.length = 0) ->
   lng (p ++ (zdc m ++ r)) f p.length n0 = (n0 + m * 2 ^ (7 * p.length), p.length + (zdc m).length, 0)
 | 0, m, n0, p, hf, hm, h0 => by
   have : p.length = 10 := by omega
   rw [this] at hm h0
   have : 2 ^ (7 * 10) <= m * 2 ^ (7 * 10) := Nat.le_mul_of_pos_left _ (by omega)
   omega
 | f + 1, m, n0, p, hf, hm, h0 => by
   by_cases hb : 128 <= m
   · rw [zdb hb]
     have hc : cb (p ++ (UInt8.ofNat (m % 128 + 128) :: zdc (m / 128) ++ r)) p.length = m % 128 + 128 := by
       rw [List.cons_append, yti]
       simp; omega
     have h9 : p.length ≠ 9 := by
       intro h
       rw [h] at hm
       have : 128 * 2 ^ (7 * 9) <= m * 2 ^ (7 * 9) := Nat.mul_le_mul_right _ hb
       omega
     rw [lng, if_neg (by simp), hc, if_neg (by omega), if_pos (by omega)]
     have e : p ++ (UInt8.ofNat (m % 128 + 128) :: zdc (m / 128) ++ r) = (p ++ [UInt8.ofNat (m % 128 + 128)]) ++ (zdc (m / 128) ++ r) := by simp
     have hl : (p ++ [UInt8.ofNat (m % 128 + 128)]).length = p.length + 1 := by simp
     have hp : 2 ^ (7 * (p.length + 1)) = 128 * 2 ^ (7 * p.length) := by rw [show 7 * (p.length + 1) = 7 + 7 * p.length by omega, Nat.pow_add]
     have hd : m / 128 * (128 * 2 ^ (7 * p.length)) + m % 128 * 2 ^ (7 * p.length) = m * 2 ^ (7 * p.length) := by
       rw [<- Nat.mul_assoc, <- Nat.add_mul]
       congr 1; omega
     have ih := zr2 r f (m / 128) (n0 + (m % 128 + 128) % 128 * 2 ^ (7 * p.length)) (p ++ [UInt8.ofNat (m % 128 + 128)]) (by rw [hl]; omega) (by rw [hl, hp]; omega) (.inl (by omega))
     rw [hl] at ih
     rw [e, ih, hp, List.length_cons, show (m % 128 + 128) % 128 = m % 128 by omega]
     refine Prod.ext ?_ (Prod.ext ?_ rfl)
     · show n0 + m % 128 * 2 ^ (7 * p.length) + m / 128 * (128 * 2 ^ (7 * p.length)) = n0 + m * 2 ^ (7 * p.length)
       omega
     · show p.length + 1 + _ = p.length + (_ + 1)
       omega
   · rw [zbc (by omega)]
     have hc : cb (p ++ ([UInt8.ofNat m] ++ r)) p.length = m := by
       rw [List.singleton_append, yti]
       simp; omega
     have h9 : ¬ (p.length = 9 /\ 1 < m) := by
       rintro ⟨h, h1⟩
       rw [h] at hm
       have : 2 * 2 ^ (7 * 9) <= m * 2 ^ (7 * 9) := Nat.mul_le_mul_right _ h1
       omega
     rw [lng, if_neg (by simp), hc, if_neg h9, if_neg (by omega), if_pos h0, Nat.mod_eq_of_lt (by omega)]
     rfl
theorem zw3 {m : Int} (h : zbx m) (r : List UInt8) : zb2 (zar m ++ r) = m /\ ze2 (zar m ++ r) = ((zar m).length : Int) /\ zdj (zar m ++ r) = 0 := by
 have h0 := h.1
 have h1 := h.2
 have := zr2 r 10 m.toNat 0 [] rfl (by simp; omega) (.inr rfl)
 simp only [List.nil_append, List.length_nil, Nat.zero_add, Nat.mul_zero, Nat.pow_zero, Nat.mul_one] at this
 unfold zb2 ze2 zdj zar
 rw [this]
 refine ⟨?_, rfl, rfl⟩
 show ((m.toNat : Nat) : Int) = m
 omega
theorem zp7 {s : List UInt8} : ∀ (f i n : Nat), f + i = 10 -> n < 2 ^ (7 * i) -> i <= s.length -> (lng s f i n).2.1 <= 10 /\ ((lng s f i n).2.2 = 0 -> 1 <= (lng s f i n).2.1 /\ (lng s f i n).2.1 <= s.length /\ (lng s f i n).1 < 2 ^ 64)
 | 0, i, n, hf, hn, hi => by simp [lng]
 | f + 1, i, n, hf, hn, hi => by
   rw [lng]
   by_cases h1 : s.length <= i
   · rw [if_pos h1]; simp
   · rw [if_neg h1]
     by_cases h2 : i = 9 /\ 1 < cb s i
     · rw [if_pos h2]; simp
     · rw [if_neg h2]
       have hb := zp8 (by omega) hn (zz0 s i) h2
       by_cases h3 : 128 <= cb s i
       · rw [if_pos h3]
         by_cases h9 : i = 9
         · omega
         · exact zp7 f (i + 1) _ (by omega) hb.1 (by omega)
       · rw [if_neg h3]
         by_cases h4 : 0 < cb s i \/ i = 0
         · rw [if_pos h4]
           exact ⟨by show i + 1 <= 10; omega, fun _ => ⟨by show 1 <= i + 1; omega, by show i + 1 <= s.length; omega, hb.2.1⟩⟩
         · rw [if_neg h4]; simp
theorem ycw (s : List UInt8) : 0 <= ze2 s /\ ze2 s <= 10 := by
 have := (zp7 (s := s) 10 0 0 rfl (by simp) (Nat.zero_le _)).1
 unfold ze2
 omega
theorem zgk {s : List UInt8} (h : zdj s = 0) : 1 <= ze2 s /\ ze2 s <= (s.length : Int) /\ 0 <= zb2 s /\ zb2 s < 18446744073709551616 := by
 have := (zp7 (s := s) 10 0 0 rfl (by simp) (Nat.zero_le _)).2
 unfold zdj at h
 unfold ze2 zb2
 have := this (by omega)
 omega
def cpT (a b : List UInt8) : List UInt8 := if yfv a b = true then a.drop b.length else a
def yp4 (L : zaa) : zcl := (80, fun xs => match xs with | [.str a, .str b] => some (L2 L ybu a b, .tup [.str (L2 L cpT a b), .bool (L2 L yfv a b)]) | _ => none)
def ywp (L : zaa) : zcl := (72, fun xs => match xs with | [.str a, .str b] => some (L2 L ybu a b, .tup [.str (L2 L cpT a b), .bool (L2 L yfv a b)]) | _ => none)
theorem ybt {a b : List UInt8} (h : yfv a b = true) : b.length <= a.length := by
 have h : a.take b.length = b := by simpa [yfv] using h
 have := congrArg List.length h
 simp at this
 omega
theorem yjk : zcs Tryz.prog (yp4 std) := by
 intro xs p r h hp
 dsimp only [yp4] at h |-
 split at h <;> cases h
 try simp only [L2, L3, std] at hp |-
 rename_i a b
 obtain ⟨p1, p2⟩ : ybu a b := hp
 refine zab (T := tt) (S := fun L => zbi [zv7 L]) (lo := noA) (lb := noA) 5 (fn := Tryz.f80) rfl rfl (by kernel_rfl) (by kernel_rfl) rfl zah (za9 ⟨zql, trivial⟩) (by kernel_rfl) ?_
 (intro L P1 Q1 hL hP hQ; cbv; subst hL; simp only [L2, L3, std, syT]; subst hQ)
 (simp only [syS, reduceCtorEq, Int.reduceToNat, Int.reduceAdd, Int.reduceSub])
 refine ⟨⟨p1, p2⟩, fun h => ⟨(if_neg (by rw [h]; decide)).symm, h.symm⟩, fun h => ⟨⟨by omega, ?_⟩, (if_pos h).symm, h.symm⟩⟩
 have := ybt h
 omega
theorem yp3 : zcs Tryz.prog (ywp std) := by
 intro xs p r h hp
 dsimp only [ywp] at h |-
 split at h <;> cases h
 try simp only [L2, L3, std] at hp |-
 rename_i a b
 refine zab (T := tt) (S := fun L => zbi [yp4 L]) (lo := noA) (lb := noA) 5 (fn := Tryz.f72) rfl rfl (by kernel_rfl) (by kernel_rfl) rfl zah (za9 ⟨yjk, trivial⟩) (by kernel_rfl) ?_
 (intro L P1 Q1 hL hP hQ; cbv; subst hL; simp only [L2, L3, std, syT]; subst hQ)
 (simp only [syS, reduceCtorEq, Int.reduceToNat, Int.reduceAdd, Int.reduceSub])
 exact hp
def slH (t : List UInt8) : List UInt8 := yft (yft [79, 84] (zar (t.length : Int))) t
def slT (t : List UInt8) : List UInt8 := slH t ++ (zy6 (slH t)).take 16
def slS (s t : List UInt8) : Bool := slT t == s
def opT (s : List UInt8) : List UInt8 := (s.drop (2 + (ze2 (s.drop 2)).toNat)).take (zb2 (s.drop 2)).toNat
def opB (s : List UInt8) : Bool := slS s (opT s)
def opV (s : List UInt8) : List UInt8 := if opB s = true then opT s else []
def opE (s : List UInt8) : Int := if opB s = true then 0 else 23
theorem ybr (s : List UInt8) : ((zy6 s).take 16).length = 16 := by rw [List.length_take, zkw]; rfl
theorem zg9 (t : List UInt8) (h : t.length <= 1000000) : zbx (t.length : Int) := ⟨by omega, by omega⟩
theorem ya6 (t : List UInt8) : (slH t).length = 2 + (zar (t.length : Int)).length + t.length := by simp [slH, yft]; omega
theorem ya5 (t : List UInt8) : (slT t).length = 2 + (zar (t.length : Int)).length + t.length + 16 := by rw [slT, List.length_append, ya6, ybr]
theorem zog (t : List UInt8) : (slT t).drop 2 = zar (t.length : Int) ++ (t ++ (zy6 (slH t)).take 16) := by simp [slT, slH, yft]
theorem yru (t : List UInt8) (h : t.length <= 1000000) : opT (slT t) = t := by
 obtain ⟨e1, e2, e3⟩ := zw3 (zg9 t h) (t ++ (zy6 (slH t)).take 16)
 rw [opT, zog, e1, e2]
 have e : (slT t).drop (2 + ((zar (t.length : Int)).length : Int).toNat) = t ++ (zy6 (slH t)).take 16 := by
   rw [<- List.drop_drop, zog, Int.toNat_natCast, List.drop_left]
 rw [e, Int.toNat_natCast, List.take_left]
theorem ykh (t : List UInt8) (h : t.length <= 1000000) : opB (slT t) = true := by
 rw [opB, yru t h, slS]; simp
theorem yc8 {s : List UInt8} (h : opB s = true) : slT (opT s) = s := by simpa [opB, slS] using h
theorem yrv (t : List UInt8) (h : t.length <= 1000000) : opV (slT t) = t := by rw [opV, if_pos (ykh t h), yru t h]
theorem yrw (t : List UInt8) (h : t.length <= 1000000) : opE (slT t) = 0 := by rw [opE, if_pos (ykh t h)]
def zuu (L : zaa) : zcl := (58, fun xs => match xs with | [.str t] => some (L2 L upto 100000 t, .str (L slT t)) | _ => none)
theorem zqb : zcs Tryz.prog (zuu std) := by
 intro xs p r h hp
 dsimp only [zuu] at h |-
 split at h <;> cases h
 try simp only [L2, L3, std] at hp |-
 rename_i t
 have hl : t.length <= 100000 := hp
 refine zab (T := tt) (S := fun L => zbi [zjm L, zun L]) (lo := noA) (lb := noA) 5 (fn := Tryz.f58) rfl rfl (by kernel_rfl) (by kernel_rfl) rfl zah (za9 ⟨zhj, zqa, trivial⟩) (by kernel_rfl) ?_
 (intro L P1 Q1 hL hP hQ; cbv; subst hL; simp only [L2, L3, std, syT]; subst hQ)
 have hk := zg9 t (by omega)
 have hz := zda hk
 have e1 : IntKind.u64.wrap (slen t) = (t.length : Int) := by rw [zsj, slen]; omega
 rw [e1, yge]
 have hs := ya6 t
 have e2 : yft (yft [79, 84] (zar (t.length : Int))) t = slH t := rfl
 rw [e2]
 refine ⟨hk, ?_, ?_, yiq _ (by omega), ?_, ?_, ?_⟩
 · rw [zpv, List.length_cons, List.length_cons, List.length_nil]; omega
 · rw [zpv, yft, List.length_append, List.length_cons, List.length_cons, List.length_nil]; omega
 · rw [yo2, slen, zkw]; decide
 · rw [zpv, List.length_take, zkw]; omega
 · rw [zhr]; rfl
def yc5 (L : zaa) : zcl := (57, fun xs => match xs with | [.str s] => some (L2 L upto 100000 s, .tup [.str (L opV s), .int .i64 (L opE s)]) | _ => none)
theorem ykg (s : List UInt8) : (opT s).length <= s.length := by
 rw [opT, List.length_take, List.length_drop]; omega
theorem zt5 {s : List UInt8} (h : opB s = true) (hs : s.length <= 1000000) : yfv s [79, 84] = true /\ zdj (s.drop 2) = 0 /\ zb2 (s.drop 2) = ((opT s).length : Int) /\ ze2 (s.drop 2) = ((zar ((opT s).length : Int)).length : Int) /\ s.length = 2 + (zar ((opT s).length : Int)).length + (opT s).length + 16 := by
 have hl := ykg s
 obtain ⟨e1, e2, e3⟩ := zw3 (zg9 (opT s) (by omega)) (opT s ++ (zy6 (slH (opT s))).take 16)
 rw [<- zog, yc8 h] at e1 e2 e3
 have hn := ya5 (opT s)
 rw [yc8 h] at hn
 refine ⟨?_, e3, e1, e2, hn⟩
 rw [<- yc8 h]
 rfl
theorem yrx {s : List UInt8} (h : ¬ slT (opT s) = s) : opB s = false := by
 unfold opB slS
 simpa using h
theorem yhh {s : List UInt8} (h : opB s = false) : [] = opV s /\ 23 = opE s := by
 rw [opV, opE, if_neg (by rw [h]; decide), if_neg (by rw [h]; decide)]
 exact ⟨rfl, rfl⟩
theorem yc6 : zcs Tryz.prog (yc5 std) := by
 intro xs p r h hp
 dsimp only [yc5] at h |-
 split at h <;> cases h
 try simp only [L2, L3, std] at hp |-
 rename_i s
 have hl : s.length <= 100000 := hp
 refine zab (T := tt) (S := fun L => zbi [ywp L, yi6 L, zuu L]) (lo := noA) (lb := noA) 5 (fn := Tryz.f57) rfl rfl (by kernel_rfl) (by kernel_rfl) rfl zah (za9 ⟨yp3, zw6, zqb, trivial⟩) (by kernel_rfl) ?_
 (intro L P1 Q1 hL hP hQ; cbv; subst hL; simp only [L2, L3, std, syT]; subst hQ)
 (simp only [syS, reduceCtorEq, Int.reduceToNat, Int.reduceAdd, Int.reduceSub])
 refine ⟨⟨by omega, by decide⟩, fun hpre => yhh (by
   cases h : opB s with
   | false => rfl
   | true => rw [(zt5 h (by omega)).1] at hpre; cases hpre), fun hpre => ?_⟩
 have hr : cpT s [79, 84] = s.drop 2 := if_pos hpre
 have hlen := ybt hpre
 have hlen : 2 <= s.length := hlen
 rw [hr]
 have hdl : (s.drop 2).length = s.length - 2 := List.length_drop
 refine ⟨fun he => yhh (by
   cases h : opB s with
   | false => rfl
   | true => exact absurd (zt5 h (by omega)).2.1 he), fun he => ⟨fun hn => yhh (by
   cases h : opB s with
   | false => rfl
   | true =>
     obtain ⟨_, _, h1, h2, h3⟩ := zt5 h (by omega)
     exfalso
     apply hn
     rw [h1, h2, hdl]
     omega), fun hn => ?_⟩⟩
 obtain ⟨k1, k2, n1, n2⟩ := zgk he
 rw [hdl] at hn k2 |-
 generalize hK : ze2 (s.drop 2) = K at hn k1 k2 |-
 generalize hN : zb2 (s.drop 2) = N at hn n1 n2 |-
 have eN : (K + ((N + 9223372036854775808) % 18446744073709551616 - 9223372036854775808) + 9223372036854775808) % 18446744073709551616 - 9223372036854775808 = K + N := by omega
 rw [eN]
 have et : List.drop K.toNat (List.take (K + N).toNat (s.drop 2)) = opT s := by
   rw [opT, hK, hN, <- List.drop_drop, List.drop_take]
   congr 1; omega
 rw [et]
 have := ykg s
 refine ⟨⟨by omega, by omega, by omega⟩, (show (opT s).length <= 100000 by omega), fun h => ?_, fun h => yhh (yrx h)⟩
 have hb : opB s = true := by rw [opB, slS, h]; simp
 rw [opV, opE, if_pos hb, if_pos hb]
 exact ⟨rfl, rfl⟩
def yoj : zcl := (61, fun xs => match xs with | [] => some (True, .int .i64 4) | _ => none)
theorem yj4 : zcs Tryz.prog yoj := by
 intro xs p r h hp
 dsimp only [yoj] at h |-
 split at h <;> cases h
 try simp only [L2, L3, std] at hp |-
 refine zab (T := tt) (S := noS) (lo := noA) (lb := noA) 5 (fn := Tryz.f61) rfl rfl (by kernel_rfl) (by kernel_rfl) rfl zah (zdd _) (by kernel_rfl) ?_
 (intro L P1 Q1 hL hP hQ; cbv; subst hL; simp only [L2, L3, std, syT]; subst hQ)
 (simp only [syS, reduceCtorEq, Int.reduceToNat, Int.reduceAdd, Int.reduceSub])
inductive DkS where
 | a (k : Int)
 | b (k : Int) (x s : List UInt8)
 | c (k : Int) (x s : List UInt8)
 | d (k : Int) (x s y t : List UInt8)
def nmA : List UInt8 := [97]
def nmB : List UInt8 := [98]
def zdg (x s : List UInt8) : Ob := .box 156 [.str x, .str s]
def yhe (key : List UInt8) : Ob := .row 159 4 1 (fun _ j => zby .dead [.int .i64 1, .str [], .str key, .dead] j)
def zwv (n s : Nat) (pend : AV) (k : Int) : Ob := .box 152 [.int .i64 100, .mp n, .mp s, pend, .int .i64 k, .int .i64 (-1), .bool false]
def ztv (pend : AV) (k : Int) : Ob := zwv 500001 500002 pend k
def dkO (p : Nat) : DkS -> List (Nat × Ob)
 | .a k => [(500000, ztv .nils k), (500001, .mapl .s []), (500002, .mapl .s [])]
 | .b k x s => [(500000, ztv (.sl p 4 0 1) k), (500001, .mapl .s [(.s nmA, .ref 500003 0)]), (500002, .mapl .s []), (500003, zdg x s), (p, yhe nmA)]
 | .c k x s => [(500000, ztv .nils k), (500001, .mapl .s [(.s nmA, .ref 500003 0)]), (500002, .mapl .s [(.s nmA, .ref 500003 0)]), (500003, zdg x s)]
 | .d k x s y t => [(500000, ztv (.sl p 4 0 1) k), (500001, .mapl .s [(.s nmA, .ref 500003 0), (.s nmB, .ref 500004 0)]), (500002, .mapl .s [(.s nmA, .ref 500003 0)]), (500003, zdg x s), (500004, zdg y t), (p, yhe nmB)]
def zbt : Option Ob -> List UInt8 × List UInt8
 | some (.box _ [.str x, .str s]) => (x, s)
 | _ => ([], [])
def ye9 (ob : Nat -> Option Ob) (id : Nat) : Option DkS := match ob id with
 | some (.box _ [_, .mp n, _, .nils, .int _ k, _, _]) => match ob n with
   | some (.mapl _ []) => some (.a k)
   | some (.mapl _ [(_, .ref i _)]) => some (.c k (zbt (ob i)).1 (zbt (ob i)).2)
   | _ => none
 | some (.box _ [_, .mp n, _, .sl _ _ _ _, .int _ k, _, _]) => match ob n with
   | some (.mapl _ [(_, .ref i _)]) => some (.b k (zbt (ob i)).1 (zbt (ob i)).2)
   | some (.mapl _ [(_, .ref i _), (_, .ref j _)]) => some (.d k (zbt (ob i)).1 (zbt (ob i)).2 (zbt (ob j)).1 (zbt (ob j)).2)
   | _ => none
 | _ => none
def inc (k : Int) : Int := k + 1
def DkS.up (L : zaa) : DkS -> DkS
 | .a k => .a (L inc k)
 | .b k x s => .b (L inc k) x s
 | .c k x s => .c (L inc k) x s
 | .d k x s y t => .d (L inc k) x s y t
def DkS.k : DkS -> Int
 | .a k => k
 | .b k _ _ => k
 | .c k _ _ => k
 | .d k _ _ _ _ => k
def zd4 (k : Int) : Prop := 0 <= k /\ k <= 1000
theorem yg2 {k : Int} (h : zd4 k) : zcc .i64 k 1 = inc k := by
 obtain ⟨h0, h1⟩ := h
 unfold zcc inc
 rw [zct]
 omega
def ymy : zgz := (98, fun raw ob => match raw with
 | [.ref id 0] => match ye9 ob id with
   | some sh => some ⟨[.ref 500000 0], dkO 500005 sh, True, .int .i64 0, dkO 500005 sh⟩
   | _ => none
 | _ => none)
theorem yvt (sh : DkS) : zb0 Tryz.prog 98 [.ref 500000 0] (dkO 500005 sh) (.int .i64 0) (dkO 500005 sh) := by
 cases sh <;>
 · refine zat (T := tt) (S := fun L => zbe [] []) (lo := noA) (lb := noA) 8 (fn := Tryz.f98) (xs := fun L => [.ref 500000 0]) (rts := fun _ => [.int .i64 0]) (O := fun L => dkO 500005 _) (O1 := fun L => dkO 500005 _)
     rfl rfl (by kernel_rfl) (by kernel_rfl) (by kernel_rfl) zah (zai trivial trivial) (by kernel_rfl) ?_
   intro L P' Q' hL hP hQ
   (cbv; try simp only [syT, true_and, and_true])
   subst hL
   simp [std]
theorem zlv : zd1 Tryz.prog ymy := by
 intro raw ob T hT hp
 unfold ymy at hT
 simp only at hT
 repeat' split at hT
 all_goals first | (cases hT; done) | (cases hT; exact yvt _)
def zk2 (L : zaa) : zgz := (101, fun raw ob => match raw with
 | [.ref id 0] => match ye9 ob id with
   | some sh => some ⟨[.ref 500000 0], dkO 500005 sh, L zd4 sh.k, .int .i64 0, dkO 500005 (sh.up L)⟩
   | _ => none
 | _ => none)
theorem ylr (sh : DkS) (hk : zd4 sh.k) : zb0 Tryz.prog 101 [.ref 500000 0] (dkO 500005 sh) (.int .i64 0) (dkO 500005 (sh.up std)) := by
 cases sh <;>
 · refine zat (T := tt) (S := fun L => zbe [] []) (lo := noA) (lb := noA) 8 (fn := Tryz.f101) (xs := fun L => [.ref 500000 0]) (rts := fun _ => [.int .i64 0]) (O := fun L => dkO 500005 _) (O1 := fun L => dkO 500005 (DkS.up L _))
     rfl rfl (by kernel_rfl) (by kernel_rfl) (by kernel_rfl) zah (zai trivial trivial) (by kernel_rfl) ?_
   intro L P' Q' hL hP hQ
   (cbv; try simp only [syT, true_and, and_true])
   subst hL
   simp only [DkS.k] at hk
   have e0 : ieq (-1) 0 = false := by decide
   have e1 : ilt 0 (-1) = false := by decide
   simp [std, e0, e1, yg2 hk]
theorem zht : zd1 Tryz.prog (zk2 std) := by
 intro raw ob T hT hp
 unfold zk2 at hT
 simp only at hT
 repeat' split at hT
 all_goals first | (cases hT; done) | (cases hT; exact ylr _ hp)
def ywj (L : zaa) : List (Nat × Ob) := [(14, zwv 11 12 .nils 0), (11, .mapl .s []), (12, .mapl .s [])]
def yn9 (L : zaa) : zgz := (83, fun raw ob => match raw with
 | [.int .i64 n] => some ⟨[.int .i64 100], [], True, .tup [.ref 14 0, .int .i64 0], ywj L⟩
 | _ => none)
theorem ys4 : zb0 Tryz.prog 83 [.int .i64 100] [] (.tup [.ref 14 0, .int .i64 0]) (ywj std) := by
 refine zat (T := tt) (S := fun L => zbe [] []) (lo := noA) (lb := noA) 8 (fn := Tryz.f83) (xs := fun L => [.int .i64 100]) (rts := fun _ => [.ref 14 0, .int .i64 0]) (O := fun L => []) (O1 := fun L => ywj L)
     rfl rfl (by kernel_rfl) (by kernel_rfl) (by kernel_rfl) zah (zai trivial trivial) (by kernel_rfl) ?_
 intro L P' Q' hL hP hQ
 (cbv; try simp only [syT, true_and, and_true])
 subst hL
 have e0 : ilt 100 0 = false := by decide
 have e1 : ilt 65536 100 = false := by decide
 simp [std, e0, e1]
theorem yho : zd1 Tryz.prog (yn9 std) := by
 intro raw ob T hT hp
 unfold yn9 at hT
 simp only at hT
 repeat' split at hT
 all_goals first | (cases hT; done) | (cases hT; exact ys4)
def zod : zgz := (104, fun raw ob => match raw with
 | [.ref id 0, .str key] => match ye9 ob id with
   | some (.a _) => none
   | some sh => some ⟨[.ref 500000 0, .str nmA], dkO 500005 sh, True, .tup [.ref 500003 0, .int .i64 0], dkO 500005 sh⟩
   | _ => none
 | _ => none)
def DkS.some : DkS -> Prop
 | .a _ => False
 | _ => True
theorem yg9 (sh : DkS) (hs : sh.some) : zb0 Tryz.prog 104 [.ref 500000 0, .str nmA] (dkO 500005 sh) (.tup [.ref 500003 0, .int .i64 0]) (dkO 500005 sh) := by
 cases sh
 case a => exact hs.elim
 all_goals
   refine zat (T := tt) (S := fun L => zbe [] [ymy]) (lo := noA) (lb := noA) 8 (fn := Tryz.f104) (xs := fun L => [.ref 500000 0, .str nmA]) (rts := fun _ => [.ref 500003 0, .int .i64 0]) (O := fun L => dkO 500005 _) (O1 := fun L => dkO 500005 _)
     rfl rfl (by kernel_rfl) (by kernel_rfl) (by kernel_rfl) zah (zai trivial ⟨zlv, trivial⟩) (by kernel_rfl) ?_
   intro L P' Q' hL hP hQ
   (cbv; try simp only [syT, true_and, and_true])
   subst hL
   have e0 : ine 0 0 = false := by decide
   simp [std, e0]
theorem zn9 : zd1 Tryz.prog zod := by
 intro raw ob T hT hp
 unfold zod at hT
 simp only at hT
 repeat' split at hT
 all_goals first | (cases hT; done) | skip
 rename_i sh h1 h2
 cases hT
 refine yg9 sh ?_
 cases sh
 · exact absurd rfl (h1 _)
 all_goals trivial
def zxb : AV := .agg [.int .i64 1, .str [], .str nmA, .ref 500003 0]
def zxa : AV := .agg [.int .i64 1, .str [], .str nmB, .ref 500004 0]
def do0 (x s : List UInt8) : List (Nat × Ob) := [(500001, .mapl .s []), (500003, zdg x s)]
def do1 (x s : List UInt8) : List (Nat × Ob) := [(500001, .mapl .s [(.s nmA, .ref 500003 0)]), (500003, zdg x s)]
def do2 (x s y t : List UInt8) : List (Nat × Ob) := [(500001, .mapl .s [(.s nmA, .ref 500003 0)]), (500003, zdg x s), (500004, zdg y t)]
def do3 (x s y t : List UInt8) : List (Nat × Ob) := [(500001, .mapl .s [(.s nmA, .ref 500003 0), (.s nmB, .ref 500004 0)]), (500003, zdg x s), (500004, zdg y t)]
def yt8 : zgz := (106, fun raw ob => match raw with
 | [.mp n, .agg [_, _, _, .ref i _]] => match ob n with
   | some (.mapl _ []) => some ⟨[.mp 500001, zxb], do0 (zbt (ob i)).1 (zbt (ob i)).2, True, .tup [], do1 (zbt (ob i)).1 (zbt (ob i)).2⟩
   | some (.mapl _ [(_, .ref j _)]) => some ⟨[.mp 500001, zxa], do2 (zbt (ob j)).1 (zbt (ob j)).2 (zbt (ob i)).1 (zbt (ob i)).2, True, .tup [], do3 (zbt (ob j)).1 (zbt (ob j)).2 (zbt (ob i)).1 (zbt (ob i)).2⟩
   | _ => none
 | _ => none)
theorem do_a (x s : List UInt8) : zb0 Tryz.prog 106 [.mp 500001, zxb] (do0 x s) (.tup []) (do1 x s) := by
 refine zat (T := tt) (S := fun L => zbe [] []) (lo := noA) (lb := noA) 8 (fn := Tryz.f106) (xs := fun L => [.mp 500001, zxb]) (rts := fun _ => []) (O := fun L => do0 x s) (O1 := fun L => do1 x s)
   rfl rfl (by kernel_rfl) (by kernel_rfl) (by kernel_rfl) zah (zai trivial trivial) (by kernel_rfl) ?_
 intro L P' Q' hL hP hQ
 (cbv; try simp only [syT, true_and, and_true])
 subst hL
 have e0 : ieq 1 1 = true := by decide
 simp [std, e0]
theorem do_b (x s y t : List UInt8) : zb0 Tryz.prog 106 [.mp 500001, zxa] (do2 x s y t) (.tup []) (do3 x s y t) := by
 refine zat (T := tt) (S := fun L => zbe [] []) (lo := noA) (lb := noA) 8 (fn := Tryz.f106) (xs := fun L => [.mp 500001, zxa]) (rts := fun _ => []) (O := fun L => do2 x s y t) (O1 := fun L => do3 x s y t)
   rfl rfl (by kernel_rfl) (by kernel_rfl) (by kernel_rfl) zah (zai trivial trivial) (by kernel_rfl) ?_
 intro L P' Q' hL hP hQ
 (cbv; try simp only [syT, true_and, and_true])
 subst hL
 have e0 : ieq 1 1 = true := by decide
 simp [std, e0]
theorem ztu : zd1 Tryz.prog yt8 := by
 intro raw ob T hT hp
 unfold yt8 at hT
 simp only at hT
 repeat' split at hT
 all_goals first | (cases hT; done) | (cases hT; exact do_a _ _) | (cases hT; exact do_b _ _ _ _)
def zkr : zgz := (102, fun raw ob => match raw with
 | [.ref id 0, .agg [_, _, _, .ref i _]] => match ye9 ob id with
   | some (.a k) => some ⟨[.ref 500000 0, zxb], zc5 (dkO 500005 (.a k)) [(500003, zdg (zbt (ob i)).1 (zbt (ob i)).2)], True, .tup [], dkO 17 (.b k (zbt (ob i)).1 (zbt (ob i)).2)⟩
   | some (.c k x s) => some ⟨[.ref 500000 0, zxa], zc5 (dkO 500005 (.c k x s)) [(500004, zdg (zbt (ob i)).1 (zbt (ob i)).2)], True, .tup [], dkO 17 (.d k x s (zbt (ob i)).1 (zbt (ob i)).2)⟩
   | _ => none
 | _ => none)
theorem yg7 (k : Int) (x s : List UInt8) : zb0 Tryz.prog 102 [.ref 500000 0, zxb] (zc5 (dkO 500005 (.a k)) [(500003, zdg x s)]) (.tup []) (dkO 17 (.b k x s)) := by
 refine zat (T := tt) (S := fun L => zbe [] [yt8]) (lo := noA) (lb := noA) 8 (fn := Tryz.f102) (xs := fun L => [.ref 500000 0, zxb]) (rts := fun _ => []) (O := fun L => zc5 (dkO 500005 (.a k)) [(500003, zdg x s)]) (O1 := fun L => dkO 17 (.b k x s))
   rfl rfl (by kernel_rfl) (by kernel_rfl) (by kernel_rfl) zah (zai trivial ⟨ztu, trivial⟩) (by kernel_rfl) ?_
 intro L P' Q' hL hP hQ
 (cbv; try simp only [syT, true_and, and_true])
 subst hL
 simp [std]
 exact ⟨by decide, fun i j hi hj => by subst hi; simp [L2, std]⟩
theorem yg6 (k : Int) (x s y t : List UInt8) : zb0 Tryz.prog 102 [.ref 500000 0, zxa] (zc5 (dkO 500005 (.c k x s)) [(500004, zdg y t)]) (.tup []) (dkO 17 (.d k x s y t)) := by
 refine zat (T := tt) (S := fun L => zbe [] [yt8]) (lo := noA) (lb := noA) 8 (fn := Tryz.f102) (xs := fun L => [.ref 500000 0, zxa]) (rts := fun _ => []) (O := fun L => zc5 (dkO 500005 (.c k x s)) [(500004, zdg y t)]) (O1 := fun L => dkO 17 (.d k x s y t))
   rfl rfl (by kernel_rfl) (by kernel_rfl) (by kernel_rfl) zah (zai trivial ⟨ztu, trivial⟩) (by kernel_rfl) ?_
 intro L P' Q' hL hP hQ
 (cbv; try simp only [syT, true_and, and_true])
 subst hL
 simp [std]
 exact ⟨by decide, fun i j hi hj => by subst hi; simp [L2, std]⟩
theorem zle : zd1 Tryz.prog zkr := by
 intro raw ob T hT hp
 unfold zkr at hT
 simp only at hT
 repeat' split at hT
 all_goals first | (cases hT; done) | (cases hT; exact yg7 _ _ _) | (cases hT; exact yg6 _ _ _ _ _)
end Sy
end Go.Proofs.YtlphgephdhadhaaGreat
namespace Go.Proofs.YtlphgephdhadhaaGreat
open Go Go.RowKit
open Go.ChangeMaps (setBlock)
theorem zyk (seen : Array Nat) : leftOf #[] seen = #[] := by simp [leftOf]
set_option maxRecDepth 1000000 in
theorem yv3 (w : World) (b bm : Nat) (clock : Nat) (hc : w.cell? ⟨b, 1, none⟩ = some (.map (some bm))) (hm : w.heap[bm]? = some (.map #[] clock)) :
   Calls Tryz.prog 100 #[.pointer (some ⟨b, 0, none⟩)] w fun e w' => e = .returned (.int .i64 0) /\ Below w.heap.size w w' := by
 have hrg := run_range_map (P := Tryz.prog) w 149 9 153 bm #[] clock Tryz.underlying149 hm
 have hnx : ∀ ty, (Instr.next (.pointer (some ⟨w.heap.size, 0, none⟩)) false ty).run Tryz.prog (w.alloc (.mapIter (some bm) clock #[] clock)) = .ok (.tuple #[.bool false]) (w.alloc (.mapIter (some bm) clock #[] clock)) := fun ty => by
   rcases run_next_map (P := Tryz.prog) w ty bm clock clock #[] #[] clock hm (by simp) (Nat.le_refl _) with ⟨_, h⟩ | ⟨e, he, _⟩
   · exact h
   · rw [zyk] at he; simp at he
 go_enter Tryz.func100, Tryz.ntmps100
 go_wp2
 refine wp_loop_rounds 1 ?_
 rw [rounds_succ]
 go_wp2
 go_ret
 exact ⟨rfl, (Below.refl _ w).alloc (Nat.le_refl _) _⟩
set_option maxRecDepth 1000000 in
theorem yv2 (w : World) (b bm bn : Nat) (clock : Nat) (x : MapEntry) (s : ByteArray) (hc : w.cell? ⟨b, 1, none⟩ = some (.map (some bm))) (hm : w.heap[bm]? = some (.map #[x] clock)) (hst : MapKept.Stamped #[x] clock)
   (hx : x.val = .pointer (some ⟨bn, 0, none⟩)) (hn : w.cell? ⟨bn, 0, none⟩ = some (.string s)) :
   Calls Tryz.prog 100 #[.pointer (some ⟨b, 0, none⟩)] w fun e w' => e = .returned (.int .i64 (wrap64 s.size)) /\ Below w.heap.size w w' := by
 have hrg := run_range_map (P := Tryz.prog) w 149 9 153 bm #[x] clock Tryz.underlying149 hm
 have hbn : bn < w.heap.size := by
   rcases Nat.lt_or_ge bn w.heap.size with h | h
   · exact h
   · simp [World.cell?, Array.getElem?_eq_none h] at hn
 have hbm : bm < w.heap.size := by
   rcases Nat.lt_or_ge bm w.heap.size with h | h
   · exact h
   · simp [Array.getElem?_eq_none h] at hm
 obtain ⟨W2, hr2, hk2, hB2, hnx⟩ : ∃ W2 : World, W2.heap[w.heap.size]? = some (.mapIter (some bm) clock #[x.born] clock) /\ (∀ k, k < w.heap.size -> W2.heap[k]? = w.heap[k]?) /\ Below w.heap.size w W2 /\
     ∀ ty, (Instr.next (.pointer (some ⟨w.heap.size, 0, none⟩)) false ty).run Tryz.prog (w.alloc (.mapIter (some bm) clock #[] clock)) = .ok (.tuple #[.bool true, x.key, .pointer (some ⟨bn, 0, none⟩)]) W2 := by
   rcases run_next_at (P := Tryz.prog) (w.alloc (.mapIter (some bm) clock #[] clock)) 0 w.heap.size bm clock clock #[] #[x] clock (heap_alloc_new _ _) ((heap_alloc_old w _ hbm).trans hm) hst.1 (Nat.le_refl _) with ⟨h0, _⟩ | ⟨e, he, w1, hal, h⟩
   · simp [leftOf] at h0
   · simp [leftOf] at he
     subst he
     rw [hx] at h
     have hB : Below w.heap.size w (w.alloc (.mapIter (some bm) clock #[] clock)) := (Below.refl _ w).alloc (Nat.le_refl _) _
     have hw : w1.heap = (w.alloc (.mapIter (some bm) clock #[] clock)).heap /\ w1.os = w.os /\ w1.tape = w.tape /\ w1.output = w.output := by
       rcases hal with rfl | rfl
       · exact ⟨rfl, rfl, rfl, rfl⟩
       · exact ⟨rfl, rfl, rfl, rfl⟩
     obtain ⟨h1, h2, h3, h4⟩ := hw
     have hl : w.heap.size < (w.alloc (.mapIter (some bm) clock #[] clock)).heap.size := by
       show w.heap.size < (w.heap.push _).size
       rw [Array.size_push]
       omega
     have hne : ∀ k, k < w.heap.size -> (w1.heap.setIfInBounds w.heap.size (.mapIter (some bm) clock #[e.born] clock))[k]? = w.heap[k]? := fun k hk => by
       rw [Array.getElem?_setIfInBounds_ne (by omega), h1]
       exact heap_alloc_old w _ hk
     refine ⟨setBlock w1 w.heap.size (.mapIter (some bm) clock #[e.born] clock), ?_, hne, ⟨h2, h3, h4, ?_, hne⟩, fun ty => h⟩
     · show (w1.heap.setIfInBounds w.heap.size _)[w.heap.size]? = _
       rw [h1, Array.getElem?_setIfInBounds, if_pos rfl, if_pos hl]
     · show w.heap.size <= (w1.heap.setIfInBounds w.heap.size _).size
       rw [h1, Array.size_setIfInBounds]
       exact Nat.le_of_lt hl
 have hm2 : W2.heap[bm]? = some (.map #[x] clock) := (hk2 bm hbm).trans hm
 have hen : (Instr.entry (.pointer (some ⟨w.heap.size, 0, none⟩))).run Tryz.prog W2 = .ok (.tuple #[x.key, .pointer (some ⟨bn, 0, none⟩)]) W2 := by
   have hen := run_entry_at (P := Tryz.prog) W2 w.heap.size bm clock #[] #[x] clock x hr2 hm2 (by simp) hst.2.1
   rw [hx] at hen
   exact hen
 have hn1 : W2.cell? ⟨bn, 0, none⟩ = some (.string s) := by
   simp only [World.cell?, hk2 bn hbn]
   exact hn
 have hnx2 : ∀ ty, (Instr.next (.pointer (some ⟨w.heap.size, 0, none⟩)) false ty).run Tryz.prog W2 = .ok (.tuple #[.bool false]) W2 := fun ty => by
   rcases run_next_at (P := Tryz.prog) W2 ty w.heap.size bm clock clock #[x.born] #[x] clock hr2 hm2 hst.1 (Nat.le_refl _) with ⟨_, h⟩ | ⟨e, he, _⟩
   · exact h
   · simp [leftOf] at he
 go_enter Tryz.func100, Tryz.ntmps100
 go_wp2
 refine wp_loop_rounds 2 ?_
 rw [rounds_succ]
 go_wp2
 rw [rounds_succ]
 go_wp2
 go_ret
 exact ⟨rfl, hB2⟩
end Go.Proofs.YtlphgephdhadhaaGreat
namespace Go.Proofs
open Go.Shelf
def Tryz.keys108_ren : Go.Shelf.Ren := ⟨fun | 7 => 108 | 10 => 120 | n => n, fun | 23 => 149 | 26 => 9 | 3 => 153 | 28 => 169 | 0 => 0 | 27 => 168 | 33 => 47 | 4 => 4 | n => n, fun | n => n⟩
theorem Tryz.keys108 : Go.Proofs.SlLaysZ.n7 Tryz.prog Tryz.keys108_ren := {
 mixed := by kernel_rfl
 f7 := ⟨Tryz.f108.name, by decide, Tryz.func108.trans (congrArg some (by kernel_rfl))⟩
 f10 := ⟨Tryz.f120.name, by decide, Tryz.func120.trans (congrArg some (by kernel_rfl))⟩
 t0 := Tryz.underlying0
 a0 := Tryz.isAgg0
 z0 := Tryz.sizeOf0
 v0 := Tryz.zeroValue0
 t4 := Tryz.underlying4
 a4 := Tryz.isAgg4
 z4 := Tryz.sizeOf4
 v4 := Tryz.zeroValue4
 t23 := Tryz.underlying149
 a23 := Tryz.isAgg149
 z23 := Tryz.sizeOf149
 v23 := Tryz.zeroValue149
 t26 := Tryz.underlying9
 a26 := Tryz.isAgg9
 z26 := Tryz.sizeOf9
 v26 := Tryz.zeroValue9
 t27 := Tryz.underlying168
 a27 := Tryz.isAgg168
 z27 := Tryz.sizeOf168
 v27 := Tryz.zeroValue168
 t28 := Tryz.underlying169
 a28 := Tryz.isAgg169
 z28 := Tryz.sizeOf169
 v28 := Tryz.zeroValue169
 t33 := Tryz.underlying47
 a33 := Tryz.isAgg47
 z33 := Tryz.sizeOf47
 v33 := Tryz.zeroValue47 }
def Tryz.sorted107_ren : Go.Shelf.Ren := ⟨fun | 6 => 107 | 8 => 118 | 9 => 119 | 11 => 125 | 13 => 127 | 12 => 126 | 23 => 140 | 24 => 141 | 14 => 131 | 15 => 132 | 16 => 133 | 17 => 134 | 18 => 135 | 19 => 136 | 20 => 137 | 21 => 138 | 22 => 139 | 25 => 142 | 26 => 143 | 27 => 144 | 28 => 145 | 29 => 146 | 30 => 147 | 31 => 148 | n => n, fun | 26 => 9 | 28 => 169 | 24 => 125 | 0 => 0 | 3 => 3 | 37 => 105 | 48 => 142 | 50 => 63 | 4 => 4 | 40 => 196 | 39 => 195 | 45 => 56 | 5 => 5 | 9 => 9 | 51 => 203 | 55 => 207 | 57 => 209 | 58 => 210 | 33 => 47 | n => n, fun | n => n⟩
theorem Tryz.sorted107 : Go.Proofs.SlLaysZ.n6 Tryz.prog Tryz.sorted107_ren := {
 mixed := by kernel_rfl
 f6 := ⟨Tryz.f107.name, by decide, Tryz.func107.trans (congrArg some (by kernel_rfl))⟩
 f8 := ⟨Tryz.f118.name, by decide, Tryz.func118.trans (congrArg some (by kernel_rfl))⟩
 f11 := ⟨Tryz.f125.name, by decide, Tryz.func125.trans (congrArg some (by kernel_rfl))⟩
 t0 := Tryz.underlying0
 a0 := Tryz.isAgg0
 z0 := Tryz.sizeOf0
 v0 := Tryz.zeroValue0
 t24 := Tryz.underlying125
 a24 := Tryz.isAgg125
 z24 := Tryz.sizeOf125
 v24 := Tryz.zeroValue125
 t26 := Tryz.underlying9
 a26 := Tryz.isAgg9
 z26 := Tryz.sizeOf9
 v26 := Tryz.zeroValue9
 t28 := Tryz.underlying169
 a28 := Tryz.isAgg169
 z28 := Tryz.sizeOf169
 v28 := Tryz.zeroValue169
 i26 := by kernel_rfl }
def Tryz.sort119_ren : Go.Shelf.Ren := ⟨fun | 6 => 119 | 8 => 127 | 9 => 126 | 19 => 140 | 20 => 141 | 21 => 131 | 22 => 132 | 23 => 133 | 24 => 134 | 25 => 135 | 26 => 136 | 27 => 137 | 28 => 138 | 29 => 139 | 36 => 142 | 31 => 143 | 32 => 144 | 37 => 145 | 38 => 146 | 39 => 147 | 41 => 148 | n => n, fun | 27 => 125 | 29 => 9 | 3 => 3 | 32 => 105 | 26 => 125 | 0 => 0 | 44 => 142 | 46 => 63 | 4 => 4 | 36 => 196 | 35 => 195 | 41 => 56 | 5 => 5 | 9 => 9 | 53 => 203 | 57 => 207 | 63 => 209 | 64 => 210 | n => n, fun | n => n⟩
theorem Tryz.sort119 : Go.Proofs.SlLaysM.n6 Tryz.prog Tryz.sort119_ren := {
 mixed := by kernel_rfl
 f6 := ⟨Tryz.f119.name, by decide, Tryz.func119.trans (congrArg some (by kernel_rfl))⟩
 f8 := Tryz.func127.trans (congrArg some (by kernel_rfl))
 f9 := ⟨Tryz.f126.name, by decide, Tryz.func126.trans (congrArg some (by kernel_rfl))⟩
 f19 := Tryz.func140.trans (congrArg some (by kernel_rfl))
 f20 := Tryz.func141.trans (congrArg some (by kernel_rfl))
 f21 := ⟨Tryz.f131.name, by decide, Tryz.func131.trans (congrArg some (by kernel_rfl))⟩
 f22 := ⟨Tryz.f132.name, by decide, Tryz.func132.trans (congrArg some (by kernel_rfl))⟩
 f23 := ⟨Tryz.f133.name, by decide, Tryz.func133.trans (congrArg some (by kernel_rfl))⟩
 f24 := ⟨Tryz.f134.name, by decide, Tryz.func134.trans (congrArg some (by kernel_rfl))⟩
 f25 := ⟨Tryz.f135.name, by decide, Tryz.func135.trans (congrArg some (by kernel_rfl))⟩
 f26 := ⟨Tryz.f136.name, by decide, Tryz.func136.trans (congrArg some (by kernel_rfl))⟩
 f27 := ⟨Tryz.f137.name, by decide, Tryz.func137.trans (congrArg some (by kernel_rfl))⟩
 f28 := ⟨Tryz.f138.name, by decide, Tryz.func138.trans (congrArg some (by kernel_rfl))⟩
 f29 := ⟨Tryz.f139.name, by decide, Tryz.func139.trans (congrArg some (by kernel_rfl))⟩
 f31 := Tryz.func143.trans (congrArg some (by kernel_rfl))
 f32 := Tryz.func144.trans (congrArg some (by kernel_rfl))
 f36 := ⟨Tryz.f142.name, by decide, Tryz.func142.trans (congrArg some (by kernel_rfl))⟩
 f37 := ⟨Tryz.f145.name, by decide, Tryz.func145.trans (congrArg some (by kernel_rfl))⟩
 f38 := ⟨Tryz.f146.name, by decide, Tryz.func146.trans (congrArg some (by kernel_rfl))⟩
 f39 := ⟨Tryz.f147.name, by decide, Tryz.func147.trans (congrArg some (by kernel_rfl))⟩
 f41 := ⟨Tryz.f148.name, by decide, Tryz.func148.trans (congrArg some (by kernel_rfl))⟩
 t0 := Tryz.underlying0
 a0 := Tryz.isAgg0
 z0 := Tryz.sizeOf0
 v0 := Tryz.zeroValue0
 t3 := Tryz.underlying3
 a3 := Tryz.isAgg3
 z3 := Tryz.sizeOf3
 v3 := Tryz.zeroValue3
 t4 := Tryz.underlying4
 a4 := Tryz.isAgg4
 z4 := Tryz.sizeOf4
 v4 := Tryz.zeroValue4
 t5 := Tryz.underlying5
 a5 := Tryz.isAgg5
 z5 := Tryz.sizeOf5
 v5 := Tryz.zeroValue5
 t9 := Tryz.underlying9
 a9 := Tryz.isAgg9
 z9 := Tryz.sizeOf9
 v9 := Tryz.zeroValue9
 t26 := Tryz.underlying125
 a26 := Tryz.isAgg125
 z26 := Tryz.sizeOf125
 v26 := Tryz.zeroValue125
 t27 := Tryz.underlying125
 a27 := Tryz.isAgg125
 z27 := Tryz.sizeOf125
 v27 := Tryz.zeroValue125
 t29 := Tryz.underlying9
 a29 := Tryz.isAgg9
 z29 := Tryz.sizeOf9
 v29 := Tryz.zeroValue9
 t32 := Tryz.underlying105
 a32 := Tryz.isAgg105
 z32 := Tryz.sizeOf105
 v32 := Tryz.zeroValue105
 t35 := Tryz.underlying195
 a35 := Tryz.isAgg195
 z35 := Tryz.sizeOf195
 v35 := Tryz.zeroValue195
 t36 := Tryz.underlying196
 a36 := Tryz.isAgg196
 z36 := Tryz.sizeOf196
 v36 := Tryz.zeroValue196
 t41 := Tryz.underlying56
 a41 := Tryz.isAgg56
 z41 := Tryz.sizeOf56
 v41 := Tryz.zeroValue56
 t44 := Tryz.underlying142
 a44 := Tryz.isAgg142
 z44 := Tryz.sizeOf142
 v44 := Tryz.zeroValue142
 t46 := Tryz.underlying63
 a46 := Tryz.isAgg63
 z46 := Tryz.sizeOf63
 v46 := Tryz.zeroValue63
 t53 := Tryz.underlying203
 a53 := Tryz.isAgg203
 z53 := Tryz.sizeOf203
 v53 := Tryz.zeroValue203
 t57 := Tryz.underlying207
 a57 := Tryz.isAgg207
 z57 := Tryz.sizeOf207
 v57 := Tryz.zeroValue207
 t63 := Tryz.underlying209
 a63 := Tryz.isAgg209
 z63 := Tryz.sizeOf209
 v63 := Tryz.zeroValue209
 t64 := Tryz.underlying210
 a64 := Tryz.isAgg210
 z64 := Tryz.sizeOf210
 v64 := Tryz.zeroValue210 }
def Tryz.clone105_ren : Go.Shelf.Ren := ⟨fun | 5 => 105 | 7 => 117 | n => n, fun | 23 => 149 | 25 => 9 | 3 => 153 | 4 => 4 | 20 => 20 | n => n, fun | n => n⟩
theorem Tryz.clone105 : Go.Proofs.SlLaysW.n5 Tryz.prog Tryz.clone105_ren := {
 mixed := by kernel_rfl
 f5 := ⟨Tryz.f105.name, by decide, Tryz.func105.trans (congrArg some (by kernel_rfl))⟩
 f7 := Tryz.func117.trans (congrArg some (by kernel_rfl))
 t4 := Tryz.underlying4
 a4 := Tryz.isAgg4
 z4 := Tryz.sizeOf4
 v4 := Tryz.zeroValue4
 t20 := Tryz.underlying20
 a20 := Tryz.isAgg20
 z20 := Tryz.sizeOf20
 v20 := Tryz.zeroValue20
 t23 := Tryz.underlying149
 a23 := Tryz.isAgg149
 z23 := Tryz.sizeOf149
 v23 := Tryz.zeroValue149 }
end Go.Proofs
namespace Go.Proofs.YtlphgephdhadhaaGreat
open Go Go.RowKit
open Go.WideElems (Fit rd rg rg_of)
open Go.Maps
theorem ygh (m : Nat) : AnyZ.SortsIn Tryz.prog Tryz.sorted107_ren Fence.wide m :=
 ⟨fun blk off cap ss W hH hblk hsz => callsIn_wide.2 (AnyM.slices_Sort_string Tryz.sort119 blk off cap ss W hH hblk hsz),
  fun p cap W => callsIn_wide.2 (AnyM.slices_Sort_string_none Tryz.sort119 p cap W)⟩
def yvs (_ : Value) : Option (DataW Unit × List MemPlace) := some (.lit (.bool true), [])
set_option maxHeartbeats 1000000 in
theorem ylw (w : World) (Bm b clock : Nat) (x : MapEntry) (s : ByteArray) (hB : Bm < w.heap.size) (hc : w.cell? ⟨Bm, 0, none⟩ = some (.map (some b))) (hb : w.heap[b]? = some (.map #[x] clock)) (hst : MapKept.Stamped #[x] clock)
   (hk : x.key = .string s) (hs : s.size <= 1000) :
   Calls Tryz.prog 107 #[.func (.func 120) #[] #[.pointer (some ⟨Bm, 0, none⟩)]] w fun e w' => ∃ v, e = .returned v /\ w'.ownsRow w.heap.size 9 1 v 1 [.string s] /\ Below w.heap.size w w' := by
 have hrd : rd Tryz.prog 9 yvs x = some (.string s.data.toList, .lit (.bool true)) := by
   have hl : s.size <= maxLen := Nat.le_trans hs (by decide)
   simp [rd, yvs, Go.keyOf, hk, mapKey, Tryz.underlying9, hl]
 have hown : w.ownsMap Tryz.prog 9 yvs b 1 (.map [(.string s.data.toList, .lit (.bool true))]) := by
   refine ⟨#[x], clock, hb, ⟨(show 1 <= maxLen by decide), hst, fun y hy => ?_⟩, by simp, ?_⟩
   · simp at hy; subst hy; exact ⟨_, hrd⟩
   · simp [rg_of hrd, DataW.insert]
 have hseq := AnyZ.keys_gives (ρ := Tryz.keys108_ren) (F := Fence.wide) (n := 2) { Tryz.keys108 with } trivial rfl (by omega) Bm b 1 _ w hB hc hown
 refine (callsIn_wide.1 (AnyZ.sorted_in Tryz.sorted107 Fence.wide 5 trivial trivial trivial trivial rfl (by omega) (ygh _) (enters_of Tryz.func119 (by kernel_rfl) rfl) 120 _ trivial (enters_of Tryz.func120 (by kernel_rfl) rfl) _ 1 (by decide) (by omega) w hseq)).mono ?_
 rintro e w' ⟨v, ss, rfl, hS, hrow, -, hB⟩
 have : ss = [s.data.toList] := by simpa [strKeys, strOf] using hS
 subst this
 have hrow := hrow
 simp [encStr] at hrow
 exact ⟨v, rfl, hrow, hB⟩
namespace Sy
theorem zjd {P : Program} {f : FuncId} {fn : Func} {c : Code} {vs : Array Value} {w : World} {Q : Ending -> World -> Prop} (hf : P.funcs[f]? = some fn) (hb : fn.body = some c) (hn : (fn.name == "runtime.NumGoroutine") = false) (h : Calls P f vs w Q) : zdv P f vs w Q := by
 unfold zdv
 rw [zcn hf hn hb]
 exact h
theorem zlz {D D' : Nat -> Prop} {w w' : World} {μ : Mu} {O : List (Nat × Ob)} {r : AV} {v : Value} (hD : ∀ b, D b -> b < w.heap.size)
   (hdom : ∀ n, μ n = none ↔ za2 O n = none) (hobs : ∀ n o x, za2 O n = some o -> μ n = some x -> zi2 w.heap D μ o x)
   (hinj : ∀ n n' b z z', μ n = some (some (b, z)) -> μ n' = some (some (b, z')) -> n = n') (hown : ∀ n b z, μ n = some (some (b, z)) -> b < w.heap.size /\ ¬ D b)
   (B : Below w.heap.size w w') (up : ∀ b, D b -> D' b) (dn : ∀ b, D' b -> D b \/ (w.heap.size <= b /\ b < w'.heap.size)) (rv : R w'.heap D' μ r v) : ylc D w μ O O r (.returned v) v w' D' μ :=
 { ret := rfl, os := B.os, tape := B.tape, output := B.output, size := B.size, old := fun b hb _ => B.block b hb, up := up,
   dn := fun b hb => (dn b hb).elim .inl (fun h => .inr (.inl h)), dom := hdom,
   obs := fun n o x ho hx => (hobs n o x ho hx).mono (fun b hb => B.block b (hD b hb)) up (fun _ _ h => h) (fun b z e _ => by subst e; exact B.block b (hown n b z hx).1),
   inj := hinj,
   own := fun n b z h => ⟨Nat.lt_of_lt_of_le (hown n b z h).1 B.size, fun hb => (dn b hb).elim (hown n b z h).2 (fun h2 => absurd (hown n b z h).1 (by omega)), .inr ⟨n, z, h⟩⟩,
   keep := fun _ _ _ => rfl, val := rv }
theorem yhv {D : Nat -> Prop} {w w' : World} {μ : Mu} {O : List (Nat × Ob)} {r : AV} {v : Value} (id : Nat) (o : Ob) (z : Nat × Nat) (hD : ∀ b, D b -> b < w.heap.size) (hid : za2 O id = none)
   (hdom : ∀ n, μ n = none ↔ za2 O n = none) (hobs : ∀ n o x, za2 O n = some o -> μ n = some x -> zi2 w.heap D μ o x)
   (hinj : ∀ n n' b z z', μ n = some (some (b, z)) -> μ n' = some (some (b, z')) -> n = n') (hown : ∀ n b z, μ n = some (some (b, z)) -> b < w.heap.size /\ ¬ D b)
   (B : Below w.heap.size w w') (hlt : w.heap.size < w'.heap.size)
   (ok : zi2 w'.heap D (fun n => if n = id then some (some (w.heap.size, z)) else μ n) o (some (w.heap.size, z)))
   (rv : R w'.heap D (fun n => if n = id then some (some (w.heap.size, z)) else μ n) r v) :
   ylc D w μ O (zc5 O [(id, o)]) r (.returned v) v w' D (fun n => if n = id then some (some (w.heap.size, z)) else μ n) := by
 have hμ : μ id = none := (hdom id).2 hid
 have hm : ∀ n x, μ n = some x -> (if n = id then some (some (w.heap.size, z)) else μ n) = some x := fun n x h => by
   rw [if_neg (by rintro rfl; rw [hμ] at h; cases h)]; exact h
 have ha : ∀ n, za2 (zc5 O [(id, o)]) n = if n = id then some o else za2 O n := fun n => by
   rw [zf5]
   by_cases e : n = id
   · subst e; rw [hid, if_pos rfl]; simp [za2, za6]
   · rw [if_neg e]
     cases za2 O n with
     | some _ => rfl
     | none => simp [za2, zaq (fun h => e h.symm)]
 refine { ret := rfl, os := B.os, tape := B.tape, output := B.output, size := B.size, old := fun b hb _ => B.block b hb, up := fun _ h => h, dn := fun b hb => .inl hb, dom := fun n => ?_, obs := fun n o' x ho hx => ?_, inj := fun n n' b z1 z2 h1 h2 => ?_, own := fun n b z1 h => ?_, keep := fun n h _ => ?_, val := rv }
 · rw [ha]
   by_cases e : n = id
   · simp [e]
   · simp only [if_neg e]; exact hdom n
 · rw [ha] at ho
   by_cases e : n = id
   · simp only [if_pos e] at ho hx
     cases ho; cases hx
     exact ok
   · simp only [if_neg e] at ho hx
     exact (hobs n o' x ho hx).mono (fun b hb => B.block b (hD b hb)) (fun _ h => h) hm (fun b z e _ => by subst e; exact B.block b (hown n b z hx).1)
 · by_cases e : n = id <;> by_cases e' : n' = id
   · rw [e, e']
   · simp only [if_pos e, if_neg e'] at h1 h2
     cases h1
     exact absurd (hown n' _ _ h2).1 (by omega)
   · simp only [if_neg e, if_pos e'] at h1 h2
     cases h2
     exact absurd (hown n _ _ h1).1 (by omega)
   · simp only [if_neg e, if_neg e'] at h1 h2
     exact hinj n n' b z1 z2 h1 h2
 · by_cases e : n = id
   · simp only [if_pos e] at h
     cases h
     exact ⟨hlt, fun hb => absurd (hD _ hb) (by omega), .inl (Nat.le_refl _)⟩
   · simp only [if_neg e] at h
     exact ⟨Nat.lt_of_lt_of_le (hown n b z1 h).1 B.size, (hown n b z1 h).2, .inr ⟨n, z1, h⟩⟩
 · exact if_neg (fun e => h (by rw [e]; exact hid))
end Sy
end Go.Proofs.YtlphgephdhadhaaGreat
namespace Go.Proofs.YtlphgephdhadhaaGreat
namespace Sy
open Go Go.RowKit
set_option maxRecDepth 100000
set_option linter.unusedSimpArgs false
set_option linter.unusedVariables false
def yki (x s : List UInt8) : List (Nat × Ob) := [(500001, .mapl .s [(.s nmA, .ref 500003 0)]), (500003, zdg x s)]
theorem zox {h : Array Obj} {D : Nat -> Prop} {μ : Mu} {x : AV} {vs : Array Value} (hr : RL h D μ [x] vs) : ∃ v, vs = #[v] /\ R h D μ x v := by
 obtain ⟨hl, hr⟩ := hr
 obtain ⟨a, ha⟩ : ∃ a, vs.toList = [a] := List.length_eq_one_iff.1 (by simpa using hl.symm)
 have : vs = #[a] := by rw [<- Array.toArray_toList (xs := vs), ha]
 subst this
 exact ⟨a, rfl, hr 0 x a rfl rfl⟩
theorem zqs {h : Array Obj} {D : Nat -> Prop} {μ : Mu} {b z m : Nat} {v : AV} (k : zi2 h D μ (.mapl .s [(.s nmA, v)]) (some (b, z, m))) :
   ∃ x clock s, h[b]? = some (.map #[x] clock) /\ MapKept.Stamped #[x] clock /\ x.key = .string s /\ s.data.toList = nmA /\ R h D μ v x.val := by
 obtain ⟨es, clock, kf, hb, hn, hks, hnd, hr⟩ := k
 have hn : es.size = 1 := hn
 obtain ⟨x, rfl⟩ : ∃ x, es = #[x] := ⟨es[0], by
   apply Array.ext
   · simpa using hn
   · intro i h1 h2
     have : i = 0 := by simp at h2; exact h2
     subst this; rfl⟩
 obtain ⟨y, hy, ry⟩ := hr 0 x rfl
 obtain ⟨k1, k2⟩ := hks.key 0 x rfl
 obtain ⟨s, k3, k4⟩ := k1
 have hkf : kf 0 = .s nmA /\ y = v := by
   simp only [zbm] at hy
   split at hy
   · rename_i h; exact ⟨(zm8 h).symm, by cases hy; rfl⟩
   · cases hy
 obtain ⟨h1, rfl⟩ := hkf
 rw [h1] at k4
 exact ⟨x, clock, s, hb, hks.st, k3, (Ky.s.inj k4).symm, ry⟩
def zl6 : zgz := (105, fun raw ob => match raw with
 | [.mp n] => match ob n with
   | some (.mapl _ [(_, .ref i _)]) => some ⟨[.mp 500001], yki (zbt (ob i)).1 (zbt (ob i)).2, True, .mp 600000, zc5 (yki (zbt (ob i)).1 (zbt (ob i)).2) [(600000, .mapl .s [(.s nmA, .ref 500003 0)])]⟩
   | _ => none
 | _ => none)
theorem zmn : zd1 Tryz.prog zl6 := by
 intro raw ob T hT hp
 unfold zl6 at hT
 simp only at hT
 repeat' split at hT
 all_goals first | (cases hT; done) | skip
 cases hT
 intro D w μ vs hD hxs hdom hobs hinj hown hg hgb
 obtain ⟨v, rfl, r1⟩ := zox hxs
 cases r1 with
 | mp _ b z m hμ =>
   obtain ⟨es, clock, kf, hb, hn, hks, hnd, hr⟩ := hobs 500001 _ _ rfl hμ
   refine zjd (fn := Tryz.f105) rfl rfl (by kernel_rfl) ((AnyW.maps_Clone Tryz.clone105 b es clock w hb).mono ?_)
   rintro e w' ⟨rfl, rfl⟩
   have B : Below w.heap.size w (w.alloc (.map es clock)) := (Below.refl _ w).alloc (Nat.le_refl _) _
   have hm : ∀ n x, μ n = some x -> (if n = 600000 then some (some (w.heap.size, (0, 0))) else μ n) = some x := fun n x h => by
     rw [if_neg (by rintro rfl; rw [(hdom 600000).2 rfl] at h; cases h)]; exact h
   refine ⟨_, D, _, yhv 600000 _ (0, 0) hD rfl hdom hobs hinj hown B (by show w.heap.size < (w.heap.push _).size; simp) ⟨es, clock, kf, heap_alloc_new _ _, hn, hks, hnd, fun i x hx => ?_⟩ (.mp _ w.heap.size 0 0 (if_pos rfl))⟩
   obtain ⟨y, h1, h2⟩ := hr i x hx
   exact ⟨y, h1, h2.mono (fun b hb => B.block b (hD b hb)) (fun _ h => h) hm⟩
def seqO (x s : List UInt8) : List (Nat × Ob) := [(500010, .box 149 [.mp 500001]), (500001, .mapl .s [(.s nmA, .ref 500003 0)]), (500003, zdg x s)]
def zks : zgz := (107, fun raw ob => match raw with
 | [.fn _ [] [.ref c _]] => match ob c with
   | some (.box _ [.mp n]) => match ob n with
     | some (.mapl _ [(_, .ref i _)]) => some ⟨[.fn 120 [] [.ref 500010 0]], seqO (zbt (ob i)).1 (zbt (ob i)).2, True, .lst 1 1 (fun _ _ => .str nmA), seqO (zbt (ob i)).1 (zbt (ob i)).2⟩
     | _ => none
   | _ => none
 | _ => none)
theorem zlh : zd1 Tryz.prog zks := by
 intro raw ob T hT hp
 unfold zks at hT
 simp only at hT
 repeat' split at hT
 all_goals first | (cases hT; done) | skip
 cases hT
 intro D w μ vs hD hxs hdom hobs hinj hown hg hgb
 obtain ⟨v, rfl, r1⟩ := zox hxs
 cases r1 with
 | fn _ _ _ us1 us2 e1 e2 h1 h2 =>
   obtain ⟨u, hu⟩ : ∃ u, us2.toList = [u] := List.length_eq_one_iff.1 (by simpa using e2.symm)
   have : us2 = #[u] := by rw [<- Array.toArray_toList (xs := us2), hu]
   subst this
   have : us1 = #[] := by
     apply Array.eq_empty_of_size_eq_zero
     simpa using e1.symm
   subst this
   have r2 : R w.heap D μ (.ref 500010 0) u := h2 0 _ u rfl rfl
   cases r2 with
   | ref _ _ b z m hμ =>
     obtain ⟨C, t, fr, hb, hz, hf, ho, hC⟩ := hobs 500010 _ _ rfl hμ
     obtain ⟨v0, rfl, r3⟩ := zox hC
     cases r3 with
     | mp _ bm zm mm hμm =>
       obtain ⟨x, clock, s, hbm, hst, hk, hs, rx⟩ := zqs (hobs 500001 _ _ rfl hμm)
       have hss : s.size = 1 := by
         have := congrArg List.length hs
         simpa [nmA] using this
       refine zjd (fn := Tryz.f107) rfl rfl (by kernel_rfl) ((ylw w b bm clock x s (hown _ _ _ hμ).1 (by rw [zhf]; simp [zbg hb]) hbm hst hk (by omega)).mono ?_)
       rintro e w' ⟨v, rfl, ⟨-, hrow⟩, B⟩
       rcases hrow with ⟨-, h0⟩ | ⟨g, cap, cur, rfl, hg0, hgb, hc1, hc2, hc3, hc4⟩
       · cases h0
       have hcur : cur[0]? = some (.string s) := by
         have := congrArg (fun l => l[0]?) hc4
         simpa using this
       have hlt : g < w'.heap.size := (Array.getElem?_eq_some_iff.1 hgb).1
       refine ⟨_, fun b => D b \/ b = g, μ, zlz hD hdom hobs hinj hown B (fun b h => .inl h) (fun b h => h.elim .inl (fun e => .inr (by subst e; exact ⟨hg0, hlt⟩))) (.lst 1 1 _ g 0 cap (fun _ _ => .string s) (.inr rfl) hc1 (fun i j hi hj => ?_) (fun i j hi hj => rfl) (fun i j hi hj => .str _ s hs))⟩
       have : i = 0 := by omega
       subst this
       have : j = 0 := by omega
       subst this
       rw [zbg hgb]
       exact hcur
def zcw (a : List UInt8) : Prop := a.length <= 1000
def yaf (L : zaa) : zcl := (116, fun xs => match xs with | [.str a] => some (L zcw a, .str a) | _ => none)
def ygj (L : zaa) : zcl := (103, fun xs => match xs with | [.str a] => some (L zcw a, .str a) | _ => none)
theorem yag : zcs Tryz.prog (yaf std) := by
 intro xs p r h hp
 dsimp only [yaf] at h |-
 split at h <;> cases h
 try simp only [L2, L3, std] at hp |-
 rename_i a
 have h1 : a.length <= 1000 := hp
 exact zf6 (fn := Tryz.f116) rfl rfl (by kernel_rfl) (ypr (zlf _)) (fun h D => ya1 h D zaz _) (fun w => Tryz.stringslite_Clone ⟨a.toArray⟩ w (by show a.toArray.size <= _; rw [List.size_toArray]; omega))
theorem zuw : zcs Tryz.prog (ygj std) := by
 intro xs p r h hp
 dsimp only [ygj] at h |-
 split at h <;> cases h
 try simp only [L2, L3, std] at hp |-
 rename_i a
 have h1 : zcw a := hp
 refine zab (T := tt) (S := fun L => zbi [yaf L]) (lo := noA) (lb := noA) 5 (fn := Tryz.f103) rfl rfl (by kernel_rfl) (by kernel_rfl) rfl zah (za9 ⟨yag, trivial⟩) (by kernel_rfl) ?_
 (intro L P1 Q1 hL hP hQ; cbv; subst hL; simp only [L2, L3, std, syT]; subst hQ)
 (simp only [syS, reduceCtorEq, Int.reduceToNat, Int.reduceAdd, Int.reduceSub])
 exact h1
def yhp (a : List UInt8) : Bool := !decide (a = []) && decide (a.length <= 32)
def zvo (L : zaa) : zcl := (99, fun xs => match xs with | [.str a] => some (L zcw a, .bool (L yhp a)) | _ => none)
theorem zqv : zcs Tryz.prog (zvo std) := by
 intro xs p r h hp
 dsimp only [zvo] at h |-
 split at h <;> cases h
 try simp only [L2, L3, std] at hp |-
 rename_i a
 have h1 : a.length <= 1000 := hp
 refine zab (T := tt) (S := noS) (lo := noA) (lb := noA) 5 (fn := Tryz.f99) rfl rfl (by kernel_rfl) (by kernel_rfl) rfl zah (zdd _) (by kernel_rfl) ?_
 (intro L P1 Q1 hL hP hQ; cbv; subst hL; simp only [L2, L3, std, syT]; subst hQ)
 (simp only [syS, reduceCtorEq, Int.reduceToNat, Int.reduceAdd, Int.reduceSub])
 refine ⟨fun h => ?_, fun h => ?_⟩
 · unfold yhp
   rw [decide_eq_false h]
   unfold ile
   simp
   omega
 · subst h; rfl
def zj2 (s : List UInt8) (i q : Nat) : Int := if q < i then zoh s q else 0
def yw6 (L : zaa) (s : List UInt8) : Nat -> St -> Option Ann := fun id st => match id with
 | 0 => some ⟨Nat, fun i => [(27, .int .i64 (L za8 i))], fun i => [(24, .row 5 1 (L lenN s) (fun q _ => .int .u8 (L3 L zj2 s i q)))], [0, 1, 6, 26], [500003],
     fun i => L2 L (fun (s : List UInt8) i => i <= s.length) s i, fun i => L2 L (fun (s : List UInt8) (i : Nat) => s.length - i) s i⟩
 | _ => none
theorem yf7 (s : List UInt8) : bytesOf s.length (fun k => zoh s k) = s := by
 apply List.ext_getElem
 · simp [bytesOf]
 · intro i h1 h2
   simp [bytesOf, zoh, h2]
theorem shr0 (k : IntKind) (b : Int) : zo7 k 0 b = 0 := by unfold zo7; simp
theorem yqy {i : Nat} (h : i <= 1000) : ile 0 (Int.tmod (yu5 .i64 (za8 i) 64) 63) = true := by
 have e1 : (za8 i).tdiv 64 = ((i / 64 : Nat) : Int) := by
   unfold za8
   exact (Int.ofNat_tdiv i 64).symm
 unfold yu5
 rw [zct, e1]
 have e2 : ((i / 64 : Nat) : Int) + 9223372036854775808 < 18446744073709551616 := by omega
 rw [Int.emod_eq_of_lt (by omega) e2]
 unfold ile
 rw [decide_eq_true_eq]
 exact Int.tmod_nonneg _ (by omega)
def yde (L : zaa) : zgz := (109, fun raw ob => match raw with
 | [.ref i 0, .int .u64 _] => some ⟨[.ref 500003 0, .int .u64 0], [(500003, zdg (zbt (ob i)).1 (zbt (ob i)).2)], L zcw (zbt (ob i)).2, .str (zbt (ob i)).2, [(500003, zdg (zbt (ob i)).1 (zbt (ob i)).2)]⟩
 | _ => none)
theorem yns (x s : List UInt8) (hs : zcw s) : zb0 Tryz.prog 109 [.ref 500003 0, .int .u64 0] [(500003, zdg x s)] (.str s) [(500003, zdg x s)] := by
 have hs : s.length <= 1000 := hs
 refine zat (T := tt) (S := fun L => zbe [] []) (lo := fun L => yw6 L s) (lb := noA) 8 (fn := Tryz.f109) (xs := fun L => [.ref 500003 0, .int .u64 0]) (rts := fun _ => [.str s]) (O := fun L => [(500003, zdg x s)]) (O1 := fun L => [(500003, zdg x s)])
   rfl rfl (by kernel_rfl) (by kernel_rfl) (by kernel_rfl) zah (zai trivial trivial) (by kernel_rfl) ?_
 intro L P' Q' hL hP hQ
 (cbv; try simp only [syT, true_and, and_true])
 refine ⟨?_, fun h1 => ?_, fun h1 => ⟨?_, ⟨0, ?_⟩, fun i hi => ?_⟩⟩
 · subst hL; decide
 · exfalso
   subst hL
   revert h1
   simp only [std, L2]
   decide
 · subst hL
   show ys6 1 (slen s) (slen s) = true
   rw [ykp]
   unfold slen
   omega
 · (cbv; try simp only [syT, true_and, and_true])
   subst hL
   refine ⟨⟨rfl, fun a b ha hb => ?_⟩, rfl, Nat.zero_le _⟩
   have : b = 0 := by omega
   subst this
   simp [zby, L3, std, zj2]
 · (cbv; try simp only [syT, true_and, and_true])
   refine ⟨fun h2 => ⟨?_, ?_, ?_, fun h3 => ?_, fun h3 => ⟨fun h4 => ⟨?_, ?_, ⟨i + 1, ?_⟩⟩, fun h4 => ?_⟩⟩, fun h2 => ?_⟩
   · subst hL; decide
   · subst hL; decide
   · subst hL
     have hi : i <= s.length := hi
     exact yqy (by omega)
   · exfalso
     subst hL
     revert h3
     simp only [std, shr0]
     decide
   · subst hL
     have h4 : ilt (za8 i) (slen s) = true := h4
     rw [zc6] at h4
     show inR (za8 i) (slen s) = true
     rw [zfn]
     exact ⟨Int.natCast_nonneg _, h4⟩
   · subst hL
     have h4 : ilt (za8 i) (slen s) = true := h4
     rw [zc6] at h4
     show inR (za8 i) (za8 (Int.toNat (slen s))) = true
     rw [zfn]
     exact ⟨Int.natCast_nonneg _, h4⟩
   · (cbv; try simp only [syT, true_and, and_true])
     subst hL
     have hi : i <= s.length := hi
     have h4 : ilt (za8 i) (slen s) = true := h4
     rw [zc6] at h4
     have h4 : (i : Int) < (s.length : Int) := h4
     refine ⟨fun a b ha hb => ?_, ?_, ?_, ?_⟩
     · refine (yrs _ .u8 _ (zj2 s i) a b hb).trans (congrArg (AV.int .u8) ?_)
       show (if a = 0 + (za8 i).toNat then zoh s (za8 i) else zj2 s i a) = zj2 s (i + 1) a
       have e1 : 0 + (za8 i).toNat = i := by unfold za8; omega
       rw [e1]
       unfold zj2
       by_cases e : a = i
       · subst e
         rw [if_pos rfl, if_pos (by omega)]; rfl
       · rw [if_neg e]
         by_cases e2 : a < i
         · rw [if_pos e2, if_pos (by omega)]
         · rw [if_neg e2, if_neg (by omega)]
     · show zcc .i64 (za8 i) 1 = za8 (i + 1)
       unfold zcc za8
       rw [zct]
       omega
     · show i + 1 <= s.length
       omega
     · show s.length - (i + 1) < s.length - i
       omega
   · exfalso
     subst hL
     have h2 : ilt (za8 i) (za8 (Int.toNat (slen s))) = true := h2
     have h4 : ilt (za8 i) (slen s) = false := h4
     have e : za8 (Int.toNat (slen s)) = slen s := by unfold za8 slen; omega
     rw [e, h4] at h2
     cases h2
   · subst hL
     have hi : i <= s.length := hi
     have h2 : ilt (za8 i) (za8 (Int.toNat (slen s))) = false := h2
     rw [ze4] at h2
     have e : i = s.length := by unfold za8 slen at h2; omega
     subst e
     refine ⟨⟨?_, fun k _ => ⟨_, rfl⟩⟩, ?_⟩
     · show 0 + s.length <= s.length
       omega
     · show bytesOf s.length (fun k => zj2 s s.length (0 + k)) = s
       refine Eq.trans ?_ (yf7 s)
       unfold bytesOf
       refine List.map_congr_left fun k hk => ?_
       have hk : k < s.length := by simpa using hk
       show UInt8.ofNat (zj2 s s.length (0 + k)).toNat = UInt8.ofNat (zoh s k).toNat
       unfold zj2
       rw [if_pos (by omega), Nat.zero_add]
theorem ydf : zd1 Tryz.prog (yde std) := by
 intro raw ob T hT hp
 unfold yde at hT
 simp only at hT
 repeat' split at hT
 all_goals first | (cases hT; done) | (cases hT; exact yns _ _ hp)
def DkS.used (L : zaa) : DkS -> Int
 | .c _ x _ => L slen x
 | _ => 0
def DkS.usable : DkS -> Prop
 | .a _ => True
 | .c _ x _ => zcw x
 | _ => False
def zuj (L : zaa) : zgz := (100, fun raw ob => match raw with
 | [.ref id 0] => match ye9 ob id with
   | some sh => some ⟨[.ref 500000 0], dkO 500005 sh, L DkS.usable sh, .int .i64 (sh.used L), dkO 500005 sh⟩
   | _ => none
 | _ => none)
theorem zq7 : zd1 Tryz.prog (zuj std) := by
 intro raw ob T hT hp
 unfold zuj at hT
 simp only at hT
 repeat' split at hT
 all_goals first | (cases hT; done) | skip
 rename_i sh hsh
 cases hT
 intro D w μ vs hD hxs hdom hobs hinj hown hg hgb
 obtain ⟨v, rfl, r1⟩ := zox hxs
 cases r1 with
 | ref _ _ b z m hμ =>
   cases sh with
   | b k x s => exact hp.elim
   | d k x s y t => exact hp.elim
   | a k =>
     obtain ⟨C, t, fr, hb, hz, hf, ho, hC1, hC2⟩ := hobs 500000 _ _ rfl hμ
     obtain ⟨v1, hv1⟩ : ∃ v1, C[1]? = some v1 := ⟨C[1]'(by rw [<- hC1]; simp), by simp⟩
     have r2 : R w.heap D μ (.mp 500001) v1 := hC2 1 _ v1 rfl hv1
     cases r2 with
     | mp _ bm zm mm hμm =>
       obtain ⟨es, clock, kf, hbm, hn, hks, hnd, hr⟩ := hobs 500001 _ _ rfl hμm
       have hes : es = #[] := Array.eq_empty_of_size_eq_zero hn
       subst hes
       refine zjd (fn := Tryz.f100) rfl rfl (by kernel_rfl) ((yv3 w b bm clock (by rw [zhf, zbg hb]; exact hv1) hbm).mono ?_)
       rintro e w' ⟨rfl, B⟩
       exact ⟨_, D, μ, zlz hD hdom hobs hinj hown B (fun b h => h) (fun b h => .inl h) (.int _ _)⟩
   | c k x s =>
     obtain ⟨C, t, fr, hb, hz, hf, ho, hC1, hC2⟩ := hobs 500000 _ _ rfl hμ
     obtain ⟨v1, hv1⟩ : ∃ v1, C[1]? = some v1 := ⟨C[1]'(by rw [<- hC1]; simp), by simp⟩
     have r2 : R w.heap D μ (.mp 500001) v1 := hC2 1 _ v1 rfl hv1
     cases r2 with
     | mp _ bm zm mm hμm =>
       obtain ⟨e, clock, s1, hbm, hst, hk, hs, rx⟩ := zqs (hobs 500001 _ _ rfl hμm)
       generalize hev : e.val = ev at rx
       cases rx with
       | ref _ _ bn zn mn hμn =>
         obtain ⟨C', t', fr', hb', hz', hf', ho', hC1', hC2'⟩ := hobs 500003 _ _ rfl hμn
         obtain ⟨v2, hv2⟩ : ∃ v2, C'[0]? = some v2 := ⟨C'[0]'(by rw [<- hC1']; simp), by simp⟩
         have r3 : R w.heap D μ (.str x) v2 := hC2' 0 _ v2 rfl hv2
         obtain ⟨s2, rfl, hs2⟩ := r3.inv_str
         have hsh : x.length <= 1000 := hp
         have hsz : s2.size = x.length := by rw [<- hs2]; simp
         refine zjd (fn := Tryz.f100) rfl rfl (by kernel_rfl) ((yv2 w b bm bn clock e s2 (by rw [zhf, zbg hb]; exact hv1) hbm hst hev (by rw [zhf, zbg hb']; exact hv2)).mono ?_)
         rintro e w' ⟨rfl, B⟩
         have he : wrap64 (s2.size : Int) = slen x := by
           unfold wrap64 slen
           omega
         rw [he]
         exact ⟨_, D, μ, zlz hD hdom hobs hinj hown B (fun b h => h) (fun b h => .inl h) (.int _ _)⟩
def wrO (L : zaa) (x : List UInt8) : DkS -> List (Nat × Ob)
 | .a k => [(500000, ztv (.sl 17 4 0 1) (L inc k)), (500001, .mapl .s [(.s nmA, .ref 64 0)]), (500002, .mapl .s []), (64, zdg x []), (17, yhe nmA)]
 | .c k y s => [(500000, ztv (.sl 17 4 0 1) (L inc k)), (500001, .mapl .s [(.s nmA, .ref 500003 0), (.s nmB, .ref 64 0)]), (500002, .mapl .s [(.s nmA, .ref 500003 0)]), (500003, zdg y s), (64, zdg x []), (17, yhe nmB)]
 | _ => []
def yuv : DkS -> List UInt8
 | .a _ => nmA
 | _ => nmB
def yu4 (x : List UInt8) : DkS -> Prop
 | .a k => zd4 k /\ x.length <= 50
 | .c k y s => zd4 k /\ x.length <= 50 /\ y.length <= 50
 | _ => False
def zsh (L : zaa) : zgz := (84, fun raw ob => match raw with
 | [.ref id 0, .str _, .str x] => match ye9 ob id with
   | some sh => some ⟨[.ref 500000 0, .str (yuv sh), .str x], dkO 500005 sh, L2 L yu4 x sh, .int .i64 0, wrO L x sh⟩
   | _ => none
 | _ => none)
theorem ylg (k : Int) (x : List UInt8) (hk : zd4 k) (hx : x.length <= 50) : zb0 Tryz.prog 84 [.ref 500000 0, .str nmA, .str x] (dkO 500005 (.a k)) (.int .i64 0) (wrO std x (.a k)) := by
 refine zat (T := tt) (S := fun L => zbe [ygj L, zvo L] [ymy, zuj L, zk2 L, zkr]) (lo := noA) (lb := noA) 8 (fn := Tryz.f84) (xs := fun L => [.ref 500000 0, .str nmA, .str x]) (rts := fun _ => [.int .i64 0]) (O := fun L => dkO 500005 (.a k)) (O1 := fun L => wrO L x (.a k))
   rfl rfl (by kernel_rfl) (by kernel_rfl) (by kernel_rfl) zah (zai ⟨zuw, zqv, trivial⟩ ⟨zlv, zq7, zht, zle, trivial⟩) (by kernel_rfl) ?_
 intro L P' Q' hL hP hQ
 (cbv; try simp only [syT, true_and, and_true])
 subst hL
 have e0 : ine 0 0 = false := by decide
 have e1 : yhp [97] = true := by decide
 have e2 : ile 16 (Int.ofNat 0) = false := by decide
 have e3 : ilt 100 (zcc .i64 (slen x) 0) = false := by
   rw [ze4]
   unfold zcc slen
   rw [zct]
   omega
 have e4 : zcw x := by unfold zcw; omega
 have e5 : zcw [97] := by unfold zcw; decide
 simp [std, e0, e1, e2, e3, e4, e5, DkS.usable, DkS.k, hk]
 decide
theorem ylf (k : Int) (x y s : List UInt8) (hk : zd4 k) (hx : x.length <= 50) (hy : y.length <= 50) : zb0 Tryz.prog 84 [.ref 500000 0, .str nmB, .str x] (dkO 500005 (.c k y s)) (.int .i64 0) (wrO std x (.c k y s)) := by
 refine zat (T := tt) (S := fun L => zbe [ygj L, zvo L] [ymy, zuj L, zk2 L, zkr]) (lo := noA) (lb := noA) 8 (fn := Tryz.f84) (xs := fun L => [.ref 500000 0, .str nmB, .str x]) (rts := fun _ => [.int .i64 0]) (O := fun L => dkO 500005 (.c k y s)) (O1 := fun L => wrO L x (.c k y s))
   rfl rfl (by kernel_rfl) (by kernel_rfl) (by kernel_rfl) zah (zai ⟨zuw, zqv, trivial⟩ ⟨zlv, zq7, zht, zle, trivial⟩) (by kernel_rfl) ?_
 intro L P' Q' hL hP hQ
 (cbv; try simp only [syT, true_and, and_true])
 subst hL
 have e0 : ine 0 0 = false := by decide
 have e1 : yhp [98] = true := by decide
 have e2 : ile 16 (Int.ofNat 1) = false := by decide
 have e3 : ilt 100 (zcc .i64 (slen x) (slen y)) = false := by
   rw [ze4]
   unfold zcc slen
   rw [zct]
   omega
 have e4 : zcw x := by unfold zcw; omega
 have e6 : zcw y := by unfold zcw; omega
 have e5 : zcw [98] := by unfold zcw; decide
 simp [std, e0, e1, e2, e3, e4, e5, e6, DkS.usable, DkS.k, hk]
 decide
theorem zx6 : zd1 Tryz.prog (zsh std) := by
 intro raw ob T hT hp
 unfold zsh at hT
 simp only at hT
 repeat' split at hT
 all_goals first | (cases hT; done) | skip
 rename_i x _ sh hsh
 cases hT
 have hp : yu4 x sh := hp
 cases sh with
 | a k => exact ylg k x hp.1 hp.2
 | b k y s => exact hp.elim
 | c k y s => exact ylf k x y s hp.1 hp.2.1 hp.2.2
 | d k y s z t => exact hp.elim
def zzz (L : zaa) : zgz := (85, fun raw ob => match raw with
 | [.ref id 0, .str _] => match ye9 ob id with
   | some (.b k x s) => some ⟨[.ref 500000 0, .str nmA], dkO 500005 (.b k x s), L zd4 k, .int .i64 0, dkO 500005 (.b (L inc k) x x)⟩
   | _ => none
 | _ => none)
theorem yqt (k : Int) (x s : List UInt8) (hk : zd4 k) : zb0 Tryz.prog 85 [.ref 500000 0, .str nmA] (dkO 500005 (.b k x s)) (.int .i64 0) (dkO 500005 (.b (inc k) x x)) := by
 refine zat (T := tt) (S := fun L => zbe [] [zod, zk2 L]) (lo := noA) (lb := noA) 8 (fn := Tryz.f85) (xs := fun L => [.ref 500000 0, .str nmA]) (rts := fun _ => [.int .i64 0]) (O := fun L => dkO 500005 (.b k x s)) (O1 := fun L => dkO 500005 (.b (L inc k) x x))
   rfl rfl (by kernel_rfl) (by kernel_rfl) (by kernel_rfl) zah (zai trivial ⟨zn9, zht, trivial⟩) (by kernel_rfl) ?_
 intro L P' Q' hL hP hQ
 (cbv; try simp only [syT, true_and, and_true])
 subst hL
 have e0 : ieq 0 0 = true := by decide
 simp [std, e0, DkS.k, hk]
theorem ya0 : zd1 Tryz.prog (zzz std) := by
 intro raw ob T hT hp
 unfold zzz at hT
 simp only at hT
 repeat' split at hT
 all_goals first | (cases hT; done) | (cases hT; exact yqt _ _ _ hp)
def sdO (k : Int) (x s : List UInt8) : List (Nat × Ob) := [(500000, zwv 500001 18 .nils k), (500001, .mapl .s [(.s nmA, .ref 500003 0)]), (18, .mapl .s [(.s nmA, .ref 500003 0)]), (500003, zdg x s)]
def yad (L : zaa) : zgz := (86, fun raw ob => match raw with
 | [.ref id 0] => match ye9 ob id with
   | some (.b k x s) => some ⟨[.ref 500000 0], dkO 500005 (.b k x s), L zd4 k, .int .i64 0, sdO (L inc k) x s⟩
   | _ => none
 | _ => none)
theorem yr4 (k : Int) (x s : List UInt8) (hk : zd4 k) : zb0 Tryz.prog 86 [.ref 500000 0] (dkO 500005 (.b k x s)) (.int .i64 0) (sdO (inc k) x s) := by
 refine zat (T := tt) (S := fun L => zbe [] [ymy, zk2 L, zl6]) (lo := noA) (lb := noA) 8 (fn := Tryz.f86) (xs := fun L => [.ref 500000 0]) (rts := fun _ => [.int .i64 0]) (O := fun L => dkO 500005 (.b k x s)) (O1 := fun L => sdO (L inc k) x s)
   rfl rfl (by kernel_rfl) (by kernel_rfl) (by kernel_rfl) zah (zai trivial ⟨zlv, zht, zmn, trivial⟩) (by kernel_rfl) ?_
 intro L P' Q' hL hP hQ
 (cbv; try simp only [syT, true_and, and_true])
 subst hL
 have e0 : ieq 0 0 = true := by decide
 simp [std, e0, DkS.k, hk]
theorem yae : zd1 Tryz.prog (yad std) := by
 intro raw ob T hT hp
 unfold yad at hT
 simp only at hT
 repeat' split at hT
 all_goals first | (cases hT; done) | (cases hT; exact yr4 _ _ _ hp)
def ybh : zgz := (88, fun raw ob => match raw with
 | [.ref id 0, .str _] => match ye9 ob id with
   | some (.c k x s) => some ⟨[.ref 500000 0, .str nmA], dkO 500005 (.c k x s), True, .tup [.str x, .int .i64 0], dkO 500005 (.c k x s)⟩
   | _ => none
 | _ => none)
theorem yrk (k : Int) (x s : List UInt8) : zb0 Tryz.prog 88 [.ref 500000 0, .str nmA] (dkO 500005 (.c k x s)) (.tup [.str x, .int .i64 0]) (dkO 500005 (.c k x s)) := by
 refine zat (T := tt) (S := fun L => zbe [] [zod]) (lo := noA) (lb := noA) 8 (fn := Tryz.f88) (xs := fun L => [.ref 500000 0, .str nmA]) (rts := fun _ => [.str x, .int .i64 0]) (O := fun L => dkO 500005 (.c k x s)) (O1 := fun L => dkO 500005 (.c k x s))
   rfl rfl (by kernel_rfl) (by kernel_rfl) (by kernel_rfl) zah (zai trivial ⟨zn9, trivial⟩) (by kernel_rfl) ?_
 intro L P' Q' hL hP hQ
 (cbv; try simp only [syT, true_and, and_true])
 subst hL
 have e0 : ine 0 0 = false := by decide
 simp [std, e0]
theorem ybi : zd1 Tryz.prog ybh := by
 intro raw ob T hT hp
 unfold ybh at hT
 simp only at hT
 repeat' split at hT
 all_goals first | (cases hT; done) | (cases hT; exact yrk _ _ _)
def zpr : zgz := (108, fun raw ob => match raw with
 | [.mp n] => match ob n with
   | some (.mapl _ [(_, .ref i _)]) => some ⟨[.mp 500001], yki (zbt (ob i)).1 (zbt (ob i)).2, True, .fn 120 [] [.ref 1 0], zc5 [(1, .box 149 [.mp 500001])] (yki (zbt (ob i)).1 (zbt (ob i)).2)⟩
   | _ => none
 | _ => none)
theorem yjc (x s : List UInt8) : zb0 Tryz.prog 108 [.mp 500001] (yki x s) (.fn 120 [] [.ref 1 0]) (zc5 [(1, .box 149 [.mp 500001])] (yki x s)) := by
 refine zat (T := tt) (S := fun L => zbe [] []) (lo := noA) (lb := noA) 8 (fn := Tryz.f108) (xs := fun L => [.mp 500001]) (rts := fun _ => [.fn 120 [] [.ref 1 0]]) (O := fun L => yki x s) (O1 := fun L => zc5 [(1, .box 149 [.mp 500001])] (yki x s))
   rfl rfl (by kernel_rfl) (by kernel_rfl) (by kernel_rfl) zah (zai trivial trivial) (by kernel_rfl) ?_
 intro L P' Q' hL hP hQ
 (cbv; try simp only [syT, true_and, and_true])
theorem znx : zd1 Tryz.prog zpr := by
 intro raw ob T hT hp
 unfold zpr at hT
 simp only at hT
 repeat' split at hT
 all_goals first | (cases hT; done) | (cases hT; exact yjc _ _)
def zta : zgz := (89, fun raw ob => match raw with
 | [.ref id 0] => match ye9 ob id with
   | some (.c k x s) => some ⟨[.ref 500000 0], dkO 500005 (.c k x s), True, .lst 1 1 (fun _ _ => .str nmA), dkO 500005 (.c k x s)⟩
   | _ => none
 | _ => none)
theorem yna (k : Int) (x s : List UInt8) : zb0 Tryz.prog 89 [.ref 500000 0] (dkO 500005 (.c k x s)) (.lst 1 1 (fun _ _ => .str nmA)) (dkO 500005 (.c k x s)) := by
 refine zat (T := tt) (S := fun L => zbe [] [ymy, zpr, zks]) (lo := noA) (lb := noA) 8 (fn := Tryz.f89) (xs := fun L => [.ref 500000 0]) (rts := fun _ => [.lst 1 1 (fun _ _ => .str nmA)]) (O := fun L => dkO 500005 (.c k x s)) (O1 := fun L => dkO 500005 (.c k x s))
   rfl rfl (by kernel_rfl) (by kernel_rfl) (by kernel_rfl) zah (zai trivial ⟨zlv, znx, zlh, trivial⟩) (by kernel_rfl) ?_
 intro L P' Q' hL hP hQ
 (cbv; try simp only [syT, true_and, and_true])
 subst hL
 have e0 : ine 0 0 = false := by decide
 simp [std, e0]
theorem zye : zd1 Tryz.prog zta := by
 intro raw ob T hT hp
 unfold zta at hT
 simp only at hT
 repeat' split at hT
 all_goals first | (cases hT; done) | (cases hT; exact yna _ _ _)
def ycb (x s : List UInt8) (i : Nat) : List UInt8 := if i = 0 then x else s
def isZ (i : Nat) : Bool := decide (i = 0)
def crA (L : zaa) (k : Int) (x s y t : List UInt8) : Nat -> St -> Option Ann := fun id st => match id with
 | 0 => some ⟨Nat, fun i => [(21, .int .i64 (L za8 i))], fun _ => [], [0, 1, 2, 19, 20], [500000, 500001, 500002, 500003, 500004, 500005], fun i => L (fun i => i <= 1) i, fun i => L (fun (i : Nat) => 1 - i) i⟩
 | 2 => some ⟨Nat, fun i => [(51, .int .i64 (L za8 i)), (9, .int .i64 (L za8 i))], fun i => [(500000, ztv (.sl 500005 4 0 1) k), (500001, .mapl .s [(.s nmA, .ref 500003 0), (.s nmB, .ref 500004 0)]), (500002, .mapl .s [(.s nmA, .ref 500003 0)]), (500003, .box 156 [.str (L3 L ycb x s i), .str s]), (500004, zdg y t), (43, .mapq (L isZ i))], [0, 2, 8, 49, 50], [500005], fun i => L (fun i => i <= 1) i, fun i => L (fun (i : Nat) => 1 - i) i⟩
 | _ => none
def crO (k : Int) (s : List UInt8) : List (Nat × Ob) := [(500000, zwv 19 500002 .nils k), (19, .mapl .s [(.s nmA, .ref 500003 0)]), (500002, .mapl .s [(.s nmA, .ref 500003 0)]), (500003, zdg s s)]
def zty (L : zaa) : zgz := (87, fun raw ob => match raw with
 | [.ref id 0, .nils, .nils] => match ye9 ob id with
   | some (.d k x s y t) => some ⟨[.ref 500000 0, .nils, .nils], dkO 500005 (.d k x s y t), L zcw s, .tup [], crO k s⟩
   | _ => none
 | _ => none)
theorem yp2 (k : Int) (x s y t : List UInt8) (hs : zcw s) : zb0 Tryz.prog 87 [.ref 500000 0, .nils, .nils] (dkO 500005 (.d k x s y t)) (.tup []) (crO k s) := by
 refine zat (T := tt) (S := fun L => zbe [] [yt8, zpr, zks, yde L, zl6]) (lo := fun L => crA L k x s y t) (lb := noA) 12 (fn := Tryz.f87) (xs := fun L => [.ref 500000 0, .nils, .nils]) (rts := fun _ => []) (O := fun L => dkO 500005 (.d k x s y t)) (O1 := fun L => crO k s)
   rfl rfl (by kernel_rfl) (by kernel_rfl) (by kernel_rfl) zah (zai trivial ⟨ztu, znx, zlh, ydf, zmn, trivial⟩) (by kernel_rfl) ?_
 intro L P' Q' hL hP hQ
 (cbv; try simp only [syT, true_and, and_true])
 refine ⟨fun h => (by cases h), fun _ => ⟨⟨0, ?_⟩, fun i hi => ?_⟩⟩
 · (cbv; try simp only [syT, true_and, and_true])
   subst hL
   exact ⟨fun _ _ _ _ => trivial, rfl, Nat.zero_le _⟩
 · (cbv; try simp only [syT, true_and, and_true])
   refine ⟨fun h2 => ⟨?_, fun h3 => ?_, fun h3 => ⟨i + 1, ?_⟩⟩, fun h2 => ⟨⟨0, ?_⟩, fun j hj => ?_⟩⟩
   · subst hL
     have h2 : ilt (za8 i) (za8 1) = true := h2
     rw [zc6] at h2
     show inR (za8 i) (za8 1) = true
     rw [zfn]
     exact ⟨Int.natCast_nonneg _, h2⟩
   · subst hL
     have h3 : ilt (za8 i) 0 = true := h3
     rw [zc6] at h3
     unfold za8 at h3
     omega
   · (cbv; try simp only [syT, true_and, and_true])
     subst hL
     have hi : i <= 1 := hi
     have h2 : ilt (za8 i) (za8 1) = true := h2
     rw [zc6] at h2
     unfold za8 at h2
     refine ⟨fun _ _ _ _ => trivial, ?_, ?_, ?_⟩
     · show zcc .i64 (za8 i) 1 = za8 (i + 1)
       unfold zcc za8
       rw [zct]
       omega
     · show i + 1 <= 1
       omega
     · show 1 - (i + 1) < 1 - i
       omega
   · (cbv; try simp only [syT, true_and, and_true])
     subst hL
     exact ⟨fun _ _ _ _ => trivial, fun _ => trivial, rfl, fun _ _ _ _ => trivial, rfl, rfl, Nat.zero_le _⟩
   · (cbv; try simp only [syT, true_and, and_true])
     refine ⟨fun h3 => ⟨?_, ?_, fun h => (by cases h), fun _ => ⟨fun h4 => ?_, fun h4 => ⟨?_, ?_, ⟨j + 1, ?_⟩⟩⟩⟩, fun h3 => ?_⟩
     · subst hL
       have h3 : ilt (za8 j) (za8 1) = true := h3
       rw [zc6] at h3
       show inR (za8 j) (za8 1) = true
       rw [zfn]
       exact ⟨Int.natCast_nonneg _, h3⟩
     · subst hL
       have h3 : ilt (za8 j) (za8 1) = true := h3
       rw [zc6] at h3
       unfold za8 at h3
       exact decide_eq_true (show j = 0 by omega)
     · subst hL
       have h4 : ilt (za8 j) 0 = true := h4
       rw [zc6] at h4
       unfold za8 at h4
       omega
     · subst hL
       exact hs
     · subst hL
       have h3 : ilt (za8 j) (za8 1) = true := h3
       rw [zc6] at h3
       unfold za8 at h3
       exact decide_eq_true (show j = 0 by omega)
     · (cbv; try simp only [syT, true_and, and_true])
       subst hL
       have hj : j <= 1 := hj
       have h3 : ilt (za8 j) (za8 1) = true := h3
       rw [zc6] at h3
       unfold za8 at h3
       have ew : zcc .i64 (za8 j) 1 = za8 (j + 1) := by
         unfold zcc za8
         rw [zct]
         omega
       refine ⟨fun _ _ _ _ => trivial, fun h => ?_, ?_, fun _ _ _ _ => trivial, ew, ew, ?_, ?_⟩
       · have h : decide (j + 1 = 0) = true := h
         simp at h
       · show s = ycb x s (j + 1)
         unfold ycb
         rw [if_neg (by omega)]
       · show j + 1 <= 1
         omega
       · show 1 - (j + 1) < 1 - j
         omega
     · subst hL
       have h3 : ilt (za8 j) (za8 1) = false := h3
       rw [ze4] at h3
       unfold za8 at h3
       show ycb x s j = s
       unfold ycb
       rw [if_neg (by omega)]
theorem zyw : zd1 Tryz.prog (zty std) := by
 intro raw ob T hT hp
 unfold zty at hT
 simp only at hT
 repeat' split at hT
 all_goals first | (cases hT; done) | (cases hT; exact yp2 _ _ _ _ _ hp)
theorem zz5 : zaf Tryz.prog 75 [] (.bool true) := by
 refine zab (T := tt) (S := fun L => zbe [] [yn9 L, zsh L, zzz L, yad L, zty L, ybh, zta]) (lo := noA) (lb := noA) 12 (fn := Tryz.f75) rfl rfl (by kernel_rfl) (by kernel_rfl) rfl zah (zai trivial ⟨yho, zx6, ya0, yae, zyw, ybi, zye, trivial⟩) (by kernel_rfl) ?_
 intro L P' Q' hL hP hQ
 (cbv; try simp only [syT, true_and, and_true])
 subst hL
 subst hQ
 have e0 : ine 0 0 = false := by decide
 have e1 : ieq 0 0 = true := by decide
 have s0 : zd4 0 := ⟨by decide, by decide⟩
 have s1 : zd4 (inc 0) := ⟨by decide, by decide⟩
 have s2 : zd4 (inc (inc 0)) := ⟨by decide, by decide⟩
 have s3 : zd4 (inc (inc (inc 0))) := ⟨by decide, by decide⟩
 have w1 : yu4 [120] (.a 0) := ⟨s0, by decide⟩
 have w2 : yu4 [121] (.c (inc (inc (inc 0))) [120] [120]) := ⟨s3, by decide, by decide⟩
 have sh : zcw [120] := by unfold zcw; decide
 have q1 : seq [120] [120] = true := by decide
 have q2 : ieq (za8 1) 1 = true := by decide
 simp [std, e0, e1, s1, s2, w1, w2, sh, q1, q2, zbp]
theorem zze : zaf Tryz.prog 59 [] (.bool true) := by
 refine zab (T := tt) (S := fun L => zbi [tru 74]) (lo := noA) (lb := noA) 5 (fn := Tryz.f59) rfl rfl (by kernel_rfl) (by kernel_rfl) rfl zah (za9 ⟨zco zz7, trivial⟩) (by kernel_rfl) ?_
 (intro L P1 Q1 hL hP hQ; cbv; subst hL; simp only [L2, L3, std, syT]; subst hQ)
 (simp only [syS, reduceCtorEq, Int.reduceToNat, Int.reduceAdd, Int.reduceSub])
theorem zzc : zaf Tryz.prog 60 [] (.bool true) := by
 refine zab (T := tt) (S := fun L => zbi [tru 75]) (lo := noA) (lb := noA) 5 (fn := Tryz.f60) rfl rfl (by kernel_rfl) (by kernel_rfl) rfl zah (za9 ⟨zco zz5, trivial⟩) (by kernel_rfl) ?_
 (intro L P1 Q1 hL hP hQ; cbv; subst hL; simp only [L2, L3, std, syT]; subst hQ)
 (simp only [syS, reduceCtorEq, Int.reduceToNat, Int.reduceAdd, Int.reduceSub])
theorem zz4 : zaf Tryz.prog 42 [] (.bool true) := by
 refine zab (T := tt) (S := fun L => zbi [zuu L, yc5 L, yoj, tru 56, tru 59, tru 60]) (lo := noA) (lb := noA) 5 (fn := Tryz.f42) rfl rfl (by kernel_rfl) (by kernel_rfl) rfl zah (za9 ⟨zqb, yc6, yj4, zco zk5, zco zze, zco zzc, trivial⟩) (by kernel_rfl) ?_
 (intro L P1 Q1 hL hP hQ; cbv; subst hL; simp only [L2, L3, std, syT]; subst hQ)
 have e1 : opV (slT [97]) = [97] := yrv [97] (by decide)
 have e2 : opE (slT [97]) = 0 := yrw [97] (by decide)
 have h1 : upto 100000 [97] := by show [97].length <= 100000; decide
 have hk := zda (zg9 [97] (by decide))
 have h2 : upto 100000 (slT [97]) := by
   have := ya5 [97]
   show (slT [97]).length <= 100000
   have e : [(97 : UInt8)].length = 1 := rfl
   omega
 rw [e1, e2]
 have q1 : ieq 0 0 = true := by decide
 have q2 : seq [97] [97] = true := by decide
 have q3 : ieq 4 4 = true := by decide
 simp [h1, h2, q1, q2, q3, zbp]
theorem zzb : zaf Tryz.prog 23 [] (.bool true) := by
 refine zab (T := tt) (S := fun L => zbi [tru 42]) (lo := noA) (lb := noA) 5 (fn := Tryz.f23) rfl rfl (by kernel_rfl) (by kernel_rfl) rfl zah (za9 ⟨zco zz4, trivial⟩) (by kernel_rfl) ?_
 (intro L P1 Q1 hL hP hQ; cbv; subst hL; simp only [L2, L3, std, syT]; subst hQ)
 (simp only [syS, reduceCtorEq, Int.reduceToNat, Int.reduceAdd, Int.reduceSub])
theorem zk3 : ∀ l : List CV, zdp l = true ↔ ∀ i, i < l.length -> zf4 (zae l i) = true
 | [] => by rw [zdp]; simp
 | v :: l => by
   rw [zdp, Bool.and_eq_true, zk3 l]
   refine ⟨fun ⟨h1, h2⟩ i hi => ?_, fun h => ⟨h 0 (by simp), fun i hi => h (i + 1) (by simpa using hi)⟩⟩
   cases i with
   | zero => exact h1
   | succ i => exact h2 i (by simpa using hi)
def yiv (l : List CV) : Int := if zdp l = true then -1 else (l.findIdx fun v => !zf4 v : Nat)
def ytq (l : List CV) (i : Nat) : Prop := i <= l.length /\ ∀ j, j < i -> zf4 (zae l j) = true
theorem yo8 {l : List CV} {i : Nat} (hi : i < l.length) (h : ∀ j, j < i -> zf4 (zae l j) = true) (hn : zf4 (zae l i) = false) : yiv l = (i : Int) := by
 have hb : ¬ zdp l = true := by
   rw [zk3]
   intro h2
   have := h2 i hi
   rw [hn] at this; cases this
 rw [yiv, if_neg hb]
 congr 1
 rw [List.findIdx_eq hi]
 have get : ∀ (j : Nat) (hj : j < l.length), l[j] = zae l j := by
   intro j hj
   rw [zae, List.getD_eq_getElem?_getD, List.getElem?_eq_getElem hj]; rfl
 refine ⟨by rw [get i hi, hn]; rfl, fun j hj => ?_⟩
 have hj' := h j hj
 rw [get j (by omega), hj']; rfl
theorem yiu {l : List CV} (h : ∀ j, j < l.length -> zf4 (zae l j) = true) : yiv l = -1 := by rw [yiv, if_pos ((zk3 l).2 h)]
theorem yo7 (l : List CV) : (0 <= yiv l) = (zdp l = false) := by
 unfold yiv
 split
 · rename_i h; rw [h]; simp
 · rename_i h; simp at h; rw [h]; simp
def yur (N : Nat) (L : zaa) : zcl := (67, fun xs => match xs with
 | [.agg [.int .i64 k, .int .u64 n, .str s, x]] => some (L okL x /\ L2 L zoe N (mkV L k n s x), .bool (L not (L zf4 (mkV L k n s x))))
 | _ => none)
def yuo (N : Nat) (L : zaa) : zcl := (77, fun xs => match xs with
 | [x, .fn 67 [] []] => some (L okL x /\ L2 L zsm N (L rdL x), .int .i64 (L yiv (L rdL x)))
 | _ => none)
def ywt (N : Nat) (L : zaa) : zcl := (66, fun xs => match xs with
 | [x, .fn 67 [] []] => some (L okL x /\ L2 L zsm N (L rdL x), .bool (L not (L zdp (L rdL x))))
 | _ => none)
def zo3 (N : Nat) (L : zaa) : zcl := (50, fun xs => match xs with
 | [.agg [.int .i64 k, .int .u64 n, .str s, x]] => some (L okL x /\ L2 L zoe N (mkV L k n s x), .bool (L zf4 (mkV L k n s x)))
 | _ => none)
theorem yw4 (l : List CV) : ieq ((lenL l : Nat) : Int) 0 = l.isEmpty := by
 cases l with
 | nil => rfl
 | cons v l =>
   simp [lenL, ieq]
   omega
theorem ysq (a b : Int) : (ile a b = false) = ¬ a <= b := by simp [ile]
theorem yx5 {N : Nat} (ih : zcs Tryz.prog (zo3 N std)) : zcs Tryz.prog (yur N std) := by
 intro xs p r h hp
 unfold yur at h
 simp only at h
 split at h
 rotate_left
 · cases h
 rename_i k n s x
 cases h
 obtain ⟨ho, hz⟩ := hp
 refine ytz ho ?_
 rw [show mkV std k n s x = .mk k n s (rdL x) from rfl] at hz |-
 generalize rdL x = l at hz |-
 have hz : zoe N (.mk k n s l) := hz
 refine zau (xs := fun L => [.agg [.int .i64 k, .int .u64 n, .str s, cvL L l]]) (T := tt) (S := fun L => zbi [zo3 N L]) (lo := noA) (lb := noA) 5 (fn := Tryz.f67) rfl rfl (by kernel_rfl) (by kernel_rfl) rfl zah (za9 ⟨ih, trivial⟩) (by kernel_rfl) ?_
 intro L P' Q' hL hP hQ
 (cbv; try simp only [syT, true_and, and_true])
 (subst hL; subst hQ; simp only [L2, L3, std] at *; try simp only [syS, reduceCtorEq, Int.reduceToNat, Int.reduceAdd, Int.reduceSub] at *)
 rw [rdl, mkl]
 exact ⟨⟨okl l, hz⟩, rfl⟩
def ifA (L : zaa) (l : List CV) : Nat -> St -> Option Ann := fun id s => match id with
 | 0 => some ⟨Nat, fun i => [(8, .int .i64 (L za8 i))], fun i => [], [0, 1, 6, 7], [],
     fun i => L2 L ytq l i, fun i => L2 L (fun (l : List CV) (i : Nat) => l.length - i) l i⟩
 | _ => none
theorem ywe {N : Nat} (ih : zcs Tryz.prog (yur N std)) : zcs Tryz.prog (yuo N std) := by
 intro xs p r h hp
 unfold yuo at h
 simp only at h
 split at h
 rotate_left
 · cases h
 rename_i x
 cases h
 obtain ⟨ho, hz⟩ := hp
 refine yus ho ?_
 have hz : zsm N (rdL x) := hz
 show zaf _ _ _ (.int .i64 (yiv (rdL x)))
 generalize rdL x = l at hz |-
 refine zau (T := tt) (S := fun L => zbi [yur N L]) (lo := fun L => ifA L l) (lb := noA) 5 (fn := Tryz.f77) (xs := fun L => [cvL L l, .fn 67 [] []]) rfl rfl (by kernel_rfl) (by kernel_rfl) rfl zah
   (za9 ⟨ih, trivial⟩) (by kernel_rfl) ?_
 intro L P' Q' hL hP hQ
 (cbv; try simp only [syT, true_and, and_true])
 refine ⟨⟨0, ?_⟩, fun i hi => ?_⟩
 · (cbv; try simp only [syT, true_and, and_true])
   (subst hL; subst hQ; simp only [L2, L3, std] at *; try simp only [syS, reduceCtorEq, Int.reduceToNat, Int.reduceAdd, Int.reduceSub] at *)
   exact ⟨Nat.zero_le _, fun j hj => by omega⟩
 · cbv at hi
   (cbv; try simp only [syT, true_and, and_true])
   refine ⟨fun hlt => ⟨?_, ⟨?_, ?_⟩, fun hb => ?_, fun hb => ⟨i + 1, ?_⟩⟩, fun hge => ?_⟩
   · (subst hL; subst hQ; simp only [L2, L3, std] at *; try simp only [syS, reduceCtorEq, Int.reduceToNat, Int.reduceAdd, Int.reduceSub] at *)
     omega
   · (subst hL; subst hQ; simp only [L2, L3, std] at *; try simp only [syS, reduceCtorEq, Int.reduceToNat, Int.reduceAdd, Int.reduceSub] at *)
     exact (zkk _).2
   · (subst hL; subst hQ; simp only [L2, L3, std] at *; try simp only [syS, reduceCtorEq, Int.reduceToNat, Int.reduceAdd, Int.reduceSub] at *)
     rw [zfe]
     exact zvk hz (by have : lenL l = l.length := rfl; omega)
   · (subst hL; subst hQ; simp only [L2, L3, std] at *; try simp only [syS, reduceCtorEq, Int.reduceToNat, Int.reduceAdd, Int.reduceSub] at *)
     rw [zce] at hb
     exact (yo8 (by have : lenL l = l.length := rfl; omega) hi.2 hb).symm
   · (cbv; try simp only [syT, true_and, and_true])
     (subst hL; subst hQ; simp only [L2, L3, std] at *; try simp only [syS, reduceCtorEq, Int.reduceToNat, Int.reduceAdd, Int.reduceSub] at *)
     rw [zce] at hb
     have : lenL l = l.length := rfl
     have := znk l
     have h1 := hz.1
     have h2 := hz.2
     refine ⟨by omega, ⟨by omega, fun j hj => ?_⟩, by omega⟩
     by_cases e : j = i
     · rw [e]; exact hb
     · exact hi.2 j (by omega)
   · (subst hL; subst hQ; simp only [L2, L3, std] at *; try simp only [syS, reduceCtorEq, Int.reduceToNat, Int.reduceAdd, Int.reduceSub] at *)
     have : lenL l = l.length := rfl
     exact (yiu fun j hj => hi.2 j (by omega)).symm
theorem ywu {N : Nat} (ih : zcs Tryz.prog (yuo N std)) : zcs Tryz.prog (ywt N std) := by
 intro xs p r h hp
 unfold ywt at h
 simp only at h
 split at h
 rotate_left
 · cases h
 rename_i x
 cases h
 obtain ⟨ho, hz⟩ := hp
 refine yus ho ?_
 have hz : zsm N (rdL x) := hz
 show zaf _ _ _ (.bool (not (zdp (rdL x))))
 generalize rdL x = l at hz |-
 refine zau (xs := fun L => [cvL L l, .fn 67 [] []]) (T := tt) (S := fun L => zbi [yuo N L]) (lo := noA) (lb := noA) 5 (fn := Tryz.f66) rfl rfl (by kernel_rfl) (by kernel_rfl) rfl zah (za9 ⟨ih, trivial⟩) (by kernel_rfl) ?_
 intro L P' Q' hL hP hQ
 (cbv; try simp only [syT, true_and, and_true])
 (subst hL; subst hQ; simp only [L2, L3, std] at *; try simp only [syS, reduceCtorEq, Int.reduceToNat, Int.reduceAdd, Int.reduceSub] at *)
 rw [rdl]
 refine ⟨⟨okl l, hz⟩, ?_⟩
 have := yo7 l
 cases hb : zdp l with
 | true =>
   rw [hb] at this
   simp only [Bool.true_eq_false, eq_iff_iff, iff_false] at this
   have h : ile 0 (yiv l) = false := by rw [ysq]; exact this
   rw [h]; rfl
 | false =>
   rw [hb] at this
   simp only [eq_iff_iff, iff_true] at this
   simpa [ile] using this
theorem yfd : ∀ N, zcs Tryz.prog (zo3 N std) := by
 intro N
 induction N with
 | zero =>
   intro xs p r h hp
   unfold zo3 at h
   simp only at h
   split at h
   · rename_i k n s x
     cases h
     have h1 : sizeC (mkV std k n s x) <= 0 := hp.2.1
     have := zfr (mkV std k n s x)
     omega
   · cases h
 | succ N ih =>
   intro xs p r h hp
   unfold zo3 at h
   simp only at h
   split at h
   rotate_left
   · cases h
   rename_i k n s x
   cases h
   obtain ⟨ho, hz⟩ := hp
   refine ytz ho ?_
   rw [show mkV std k n s x = .mk k n s (rdL x) from rfl] at hz |-
   generalize rdL x = l at hz |-
   have hz : zoe (N + 1) (.mk k n s l) := hz
   refine zau (T := tt) (S := fun L => zbi [ywt N L]) (lo := noA) (lb := noA) 5 (fn := Tryz.f50) (xs := fun L => [.agg [.int .i64 k, .int .u64 n, .str s, cvL L l]]) rfl rfl (by kernel_rfl) (by kernel_rfl) rfl zah
     (za9 ⟨ywu (ywe (yx5 ih)), trivial⟩) (by kernel_rfl) ?_
   intro L P' Q' hL hP hQ
   (cbv; try simp only [syT, true_and, and_true])
   (subst hL; subst hQ; simp only [L2, L3, std] at *; try simp only [syS, reduceCtorEq, Int.reduceToNat, Int.reduceAdd, Int.reduceSub] at *)
   simp only [rdl, yw4]
   rw [zd6] at hz
   rw [zf4]
   by_cases h1 : k = 1
   · simp [h1]
     exact ⟨fun a _ => a, fun a b => absurd b a⟩
   · by_cases h2 : k = 2
     · simp [h2]
       exact ⟨fun a _ => a, fun a b => absurd b a⟩
     · by_cases h3 : k = 3
       · simp [h3]
         refine ⟨fun h4 => ⟨fun h5 => ⟨⟨okl l, hz.1⟩, by simp [h4, h5]⟩, fun h5 => by simp [h5]⟩, fun h4 => by simp [h4]⟩
       · simp [h1, h2, h3]
mutual
def wfV : CV -> Prop
 | .mk _ n s l => zbx n /\ s.length <= 9223372036854775807 /\ zg6 l
def zg6 : List CV -> Prop
 | [] => True
 | v :: l => wfV v /\ zg6 l
end
theorem zk6 : ∀ {l : List CV} {i : Nat}, zg6 l -> i < l.length -> wfV (zae l i)
 | [], i, _, h => by simp at h
 | v :: l, 0, w, _ => by rw [zg6] at w; exact w.1
 | v :: l, i + 1, w, h => by rw [zg6] at w; exact zk6 (l := l) w.2 (by simpa using h)
theorem zjl (l : List CV) : ∀ i, (zhz l i).length <= (zao l).length := by
 intro i
 have := zhi (l.take i) (l.drop i)
 rw [List.take_append_drop] at this
 rw [this, List.length_append, zhz]; omega
theorem zal (k n : Int) (s : List UInt8) (l : List CV) : zbd (.mk k n s l) = zf3 k ++ if k = 1 then zar n else if k = 2 then zar s.length ++ s else zar l.length ++ zao l := by rw [zbd]
def zx9 (v : CV) : Prop := wfV v /\ (zbd v).length <= 90000000
theorem zzq {k n : Int} {s : List UInt8} {l : List CV} : zx9 (.mk k n s l) = ((zbx n /\ s.length <= 9223372036854775807 /\ zg6 l) /\ (zbd (.mk k n s l)).length <= 90000000) := by
 unfold zx9; rw [wfV]
theorem zij {x : Int} (h : 0 <= x) (h1 : x < 18446744073709551616) : x % 18446744073709551616 = x := Int.emod_eq_of_lt h h1
theorem zjj {k n : Int} {s : List UInt8} {l : List CV} (h : wfV (.mk k n s l)) : (s.length : Int) % 18446744073709551616 = s.length := by
 rw [wfV] at h
 exact zij (by omega) (by omega)
theorem zmo {N : Nat} {k n : Int} {s : List UInt8} {l : List CV} (h : zoe (N + 1) (.mk k n s l)) : zbx ((l.length : Nat) : Int) := by
 rw [zd6] at h
 have := znk l
 have h1 := h.1.1
 have h2 := h.1.2
 exact ⟨by omega, by omega⟩
theorem zjk {N : Nat} {k n : Int} {s : List UInt8} {l : List CV} (h : zoe (N + 1) (.mk k n s l)) : ((lenL l : Nat) : Int) % 18446744073709551616 = ((l.length : Nat) : Int) := by
 have := zmo h
 exact zij this.1 this.2
theorem yk2 {k n : Int} {s : List UInt8} {l : List CV} (h : zx9 (.mk k n s l)) (h1 : k ≠ 1) (h2 : k ≠ 2) {i : Nat} (hi : i < l.length) : zx9 (zae l i) := by
 rw [zzq] at h
 refine ⟨zk6 h.1.2.2 hi, ?_⟩
 have h3 := h.2
 have h4 := zer hi
 have h5 := zjl l (i + 1)
 rw [h4, List.length_append] at h5
 rw [zal, if_neg h1, if_neg h2] at h3
 simp only [List.length_append] at h3
 omega
def zor (b : List UInt8) (k : Int) (l : List CV) (i : Nat) : List UInt8 := b ++ zf3 k ++ zar l.length ++ zhz l i
def putA (L : zaa) (b : List UInt8) (k : Int) (l : List CV) : Nat -> St -> Option Ann := fun id s => match id with
 | 1 => some ⟨Nat, fun i => [(23, .int .i64 (L za8 i))], fun i => [(500000, .box 97 [.ref 500000 0, .sl 901 1 0 (L lenN (L (L3 L zor b k l) i))]), (901, .row 5 1 (L lenN (L (L3 L zor b k l) i)) (fun j _ => .int .u8 (L2 L zac (L (L3 L zor b k l) i) j)))], [0, 21, 22], [],
     fun i => L2 L (fun (l : List CV) i => i <= l.length) l i, fun i => L2 L (fun (l : List CV) (i : Nat) => l.length - i) l i⟩
 | _ => none
def zqk (N : Nat) (L : zaa) : zgz := (52, fun raw ob => match raw with
 | [.ref id 0, .agg [.int .i64 k, .int .u64 n, .str s, x]] => match yfc L ob id with
   | some none => some ⟨[.ref 500000 0, .agg [.int .i64 k, .int .u64 n, .str s, x]], yqc, L okL x /\ L2 L zoe N (mkV L k n s x) /\ L zx9 (mkV L k n s x), .tup [], zuc L (L zbd (mkV L k n s x))⟩
   | some (some l) => some ⟨[.ref 500000 0, .agg [.int .i64 k, .int .u64 n, .str s, x]], bld L l, L okL x /\ L2 L zoe N (mkV L k n s x) /\ L zx9 (mkV L k n s x) /\ L2 L zgb l (L zbd (mkV L k n s x)), .tup [], zuc L (L2 L zad l (L zbd (mkV L k n s x)))⟩
   | none => none
 | _ => none)
theorem yrd {b : List UInt8} {k n : Int} {s : List UInt8} {l : List CV} (h : zgb b (zbd (.mk k n s l))) : zgb b (zcv (k % 256)) := by
 rw [zal] at h
 unfold zgb at h |-
 have : (zf3 k).length = 1 := rfl
 have : (zcv (k % 256)).length = 1 := rfl
 rw [List.length_append] at h
 omega
theorem zuz {b q : List UInt8} {k : Int} (h : zgb b (zf3 k ++ q)) : zgb (zad b (zcv (k % 256))) q := by
 unfold zgb zad at *
 have : (zf3 k).length = 1 := rfl
 have : (zcv (k % 256)).length = 1 := rfl
 rw [List.length_append] at h |-
 omega
theorem ykc {b q r : List UInt8} {k : Int} (h : zgb b (zf3 k ++ (q ++ r))) : zgb (zad b (zcv (k % 256))) q := by
 unfold zgb zad at *
 have : (zf3 k).length = 1 := rfl
 have : (zcv (k % 256)).length = 1 := rfl
 rw [List.length_append, List.length_append] at h
 rw [List.length_append]
 omega
theorem zux {x y : List UInt8} (h : x = y) : (lenN x = lenN y /\ ∀ i j : Nat, i < lenN y -> j < 1 -> AV.int .u8 (zac x i) = AV.int .u8 (zac y i)) /\ lenN x = lenN y := by
 subst h; exact ⟨⟨rfl, fun _ _ _ _ => rfl⟩, rfl⟩
theorem yk8 {b q t : List UInt8} {k : Int} (h : t = zf3 k ++ q) : (lenN (zad (zad b (zcv (k % 256))) q) = lenN (zad b t) /\ ∀ i j : Nat, i < lenN (zad b t) -> j < 1 -> AV.int .u8 (zac (zad (zad b (zcv (k % 256))) q) i) = AV.int .u8 (zac (zad b t) i)) /\ lenN (zad (zad b (zcv (k % 256))) q) = lenN (zad b t) :=
 zux (by rw [h]; unfold zad; rw [List.append_assoc]; rfl)
theorem yk9 {q t : List UInt8} {k : Int} (h : t = zf3 k ++ q) : (lenN (zad (zcv (k % 256)) q) = lenN t /\ ∀ i j : Nat, i < lenN t -> j < 1 -> AV.int .u8 (zac (zad (zcv (k % 256)) q) i) = AV.int .u8 (zac t i)) /\ lenN (zad (zcv (k % 256)) q) = lenN t :=
 zux (by rw [h]; rfl)
theorem yml {N : Nat} (ih : zd1 Tryz.prog (zqk N std)) (b : List UInt8) (k n : Int) (s : List UInt8) (l : List CV) (hz : zoe (N + 1) (.mk k n s l)) (hw : zx9 (.mk k n s l)) (hb : zgb b (zbd (.mk k n s l))) :
   zb0 Tryz.prog 52 [.ref 500000 0, .agg [.int .i64 k, .int .u64 n, .str s, cvL std l]] (bld std b) (.tup []) (zuc std (zad b (zbd (.mk k n s l)))) := by
 refine zat (T := tt) (S := fun L => zbe [zjm L] [yu6 L, yu3 L, zqk N L]) (lo := fun L => putA L b k l) (lb := noA) 5 (fn := Tryz.f52) (xs := fun L => [.ref 500000 0, .agg [.int .i64 k, .int .u64 n, .str s, cvL L l]]) (rts := fun _ => []) (O := fun L => bld L b) (O1 := fun L => zuc L (L2 L zad b (L zbd (.mk k n s l))))
   rfl rfl (by kernel_rfl) (by kernel_rfl) (by kernel_rfl) zah (zai ⟨zhj, trivial⟩ ⟨zzr, zzm, ih, trivial⟩) (by kernel_rfl) ?_
 intro L P' Q' hL hP hQ
 have hB : ∀ b : List UInt8, L (L bytesOf (L lenN b)) (fun i => (AV.int .u8 (L2 L zac b i)).toI) = b := by subst hL; exact zg2
 (cbv; try simp only [syT, true_and, and_true])
 simp only [hB]
 refine ⟨⟨trivial, fun _ _ _ _ => trivial⟩, trivial, ⟨?_, ?_⟩, fun h1 => ⟨?_, ⟨trivial, fun _ _ _ _ => trivial⟩, trivial, ?_, ?_⟩, fun h1 => ⟨fun h2 => ⟨?_, ?_, ⟨trivial, fun _ _ _ _ => trivial⟩, trivial, ?_, ?_⟩, fun h2 => ⟨?_, ⟨trivial, fun _ _ _ _ => trivial⟩, trivial, ?_, ⟨0, ?_⟩, fun i hi => ?_⟩⟩⟩
 · (subst hL; subst hQ; simp only [L2, L3, std] at *; try simp only [syS, reduceCtorEq, Int.reduceToNat, Int.reduceAdd, Int.reduceSub] at *)
   exact ⟨Int.emod_nonneg _ (by omega), Int.emod_lt_of_pos _ (by omega)⟩
 · (subst hL; subst hQ; simp only [L2, L3, std] at *; try simp only [syS, reduceCtorEq, Int.reduceToNat, Int.reduceAdd, Int.reduceSub] at *)
   exact yrd hb
 · (subst hL; subst hQ; simp only [L2, L3, std] at *; try simp only [syS, reduceCtorEq, Int.reduceToNat, Int.reduceAdd, Int.reduceSub] at *)
   rw [zzq] at hw
   exact hw.1.1
 · (subst hL; subst hQ; simp only [L2, L3, std] at *; try simp only [syS, reduceCtorEq, Int.reduceToNat, Int.reduceAdd, Int.reduceSub] at *)
   rw [zal, if_pos h1] at hb
   exact zuz hb
 · (subst hL; subst hQ; simp only [L2, L3, std] at *; try simp only [syS, reduceCtorEq, Int.reduceToNat, Int.reduceAdd, Int.reduceSub] at *)
   exact yk8 (by rw [zal, if_pos h1])
 · (subst hL; subst hQ; simp only [L2, L3, std] at *; try simp only [syS, reduceCtorEq, Int.reduceToNat, Int.reduceAdd, Int.reduceSub] at *)
   rw [zzq] at hw
   rw [zij (by omega) (by omega)]
   exact ⟨by omega, by omega⟩
 · (subst hL; subst hQ; simp only [L2, L3, std] at *; try simp only [syS, reduceCtorEq, Int.reduceToNat, Int.reduceAdd, Int.reduceSub] at *)
   rw [zjj hw.1]
   have h3 := hw.2
   rw [zal, if_neg h1, if_pos h2] at h3
   simp at h3 |-
   omega
 · (subst hL; subst hQ; simp only [L2, L3, std] at *; try simp only [syS, reduceCtorEq, Int.reduceToNat, Int.reduceAdd, Int.reduceSub] at *)
   rw [zjj hw.1]
   rw [zal, if_neg h1, if_pos h2] at hb
   exact zuz hb
 · (subst hL; subst hQ; simp only [L2, L3, std] at *; try simp only [syS, reduceCtorEq, Int.reduceToNat, Int.reduceAdd, Int.reduceSub] at *)
   rw [zjj hw.1]
   exact yk8 (by rw [zal, if_neg h1, if_pos h2])
 · (subst hL; subst hQ; simp only [L2, L3, std] at *; try simp only [syS, reduceCtorEq, Int.reduceToNat, Int.reduceAdd, Int.reduceSub] at *)
   rw [zjk hz]
   exact zmo hz
 · (subst hL; subst hQ; simp only [L2, L3, std] at *; try simp only [syS, reduceCtorEq, Int.reduceToNat, Int.reduceAdd, Int.reduceSub] at *)
   rw [zjk hz]
   rw [zal, if_neg h1, if_neg h2] at hb
   exact ykc hb
 · (cbv; try simp only [syT, true_and, and_true])
   (subst hL; subst hQ; simp only [L2, L3, std] at *; try simp only [syS, reduceCtorEq, Int.reduceToNat, Int.reduceAdd, Int.reduceSub] at *)
   rw [zjk hz]
   have e : zad (zad b (zcv (k % 256))) (zar ((l.length : Nat) : Int)) = zor b k l 0 := by
     rw [zor, zhz, List.take_zero, zao, List.append_nil]; rfl
   rw [e]
   exact ⟨⟨rfl, fun _ _ _ _ => rfl⟩, rfl, Nat.zero_le _⟩
 · cbv at hi
   (cbv; try simp only [syT, true_and, and_true])
   simp only [hB]
   refine ⟨fun hlt => ⟨?_, ⟨trivial, fun _ _ _ _ => trivial⟩, trivial, fun _ _ _ _ => trivial, ⟨?_, ?_, ?_, ?_⟩, ⟨i + 1, ?_⟩⟩, fun hge => ?_⟩
   · (subst hL; subst hQ; simp only [L2, L3, std] at *; try simp only [syS, reduceCtorEq, Int.reduceToNat, Int.reduceAdd, Int.reduceSub] at *)
     omega
   · (subst hL; subst hQ; simp only [L2, L3, std] at *; try simp only [syS, reduceCtorEq, Int.reduceToNat, Int.reduceAdd, Int.reduceSub] at *)
     exact (zkk _).2
   · (subst hL; subst hQ; simp only [L2, L3, std] at *; try simp only [syS, reduceCtorEq, Int.reduceToNat, Int.reduceAdd, Int.reduceSub] at *)
     rw [zfe]
     rw [zd6] at hz
     exact zvk hz.1 (by have : lenL l = l.length := rfl; omega)
   · (subst hL; subst hQ; simp only [L2, L3, std] at *; try simp only [syS, reduceCtorEq, Int.reduceToNat, Int.reduceAdd, Int.reduceSub] at *)
     rw [zce]
     exact yk2 hw (by omega) (by omega) (by have : lenL l = l.length := rfl; omega)
   · (subst hL; subst hQ; simp only [L2, L3, std] at *; try simp only [syS, reduceCtorEq, Int.reduceToNat, Int.reduceAdd, Int.reduceSub] at *)
     rw [zce]
     have h4 := zer (l := l) (i := i) (by have : lenL l = l.length := rfl; omega)
     have h5 := zjl l (i + 1)
     rw [h4, List.length_append] at h5
     rw [zal, if_neg h1, if_neg h2] at hb
     unfold zgb at hb |-
     simp only [List.length_append, zor] at hb |-
     omega
   · (cbv; try simp only [syT, true_and, and_true])
     (subst hL; subst hQ; simp only [L2, L3, std] at *; try simp only [syS, reduceCtorEq, Int.reduceToNat, Int.reduceAdd, Int.reduceSub] at *)
     have : lenL l = l.length := rfl
     have := znk l
     rw [zd6] at hz
     have h4 := hz.1.1
     have h5 := hz.1.2
     rw [zce]
     have e : zad (zor b k l i) (zbd (zae l i)) = zor b k l (i + 1) := by
       rw [zor, zor, zer (by omega)]; unfold zad; simp only [List.append_assoc]
     rw [e]
     exact ⟨⟨rfl, fun _ _ _ _ => rfl⟩, rfl, by omega, by omega, by omega⟩
   · (subst hL; subst hQ; simp only [L2, L3, std] at *; try simp only [syS, reduceCtorEq, Int.reduceToNat, Int.reduceAdd, Int.reduceSub] at *)
     have : lenL l = l.length := rfl
     have hil : i = l.length := by omega
     exact zux (by rw [zal, if_neg h1, if_neg h2, zor, hil, zhz, List.take_length]; unfold zad; simp only [List.append_assoc])
theorem ymm {N : Nat} (ih : zd1 Tryz.prog (zqk N std)) (k n : Int) (s : List UInt8) (l : List CV) (hz : zoe (N + 1) (.mk k n s l)) (hw : zx9 (.mk k n s l)) :
   zb0 Tryz.prog 52 [.ref 500000 0, .agg [.int .i64 k, .int .u64 n, .str s, cvL std l]] yqc (.tup []) (zuc std (zbd (.mk k n s l))) := by
 refine zat (T := tt) (S := fun L => zbe [zjm L] [yu6 L, yu3 L, zqk N L]) (lo := fun L => putA L [] k l) (lb := noA) 5 (fn := Tryz.f52) (xs := fun L => [.ref 500000 0, .agg [.int .i64 k, .int .u64 n, .str s, cvL L l]]) (rts := fun _ => []) (O := fun L => yqc) (O1 := fun L => zuc L (L zbd (.mk k n s l)))
   rfl rfl (by kernel_rfl) (by kernel_rfl) (by kernel_rfl) zah (zai ⟨zhj, trivial⟩ ⟨zzr, zzm, ih, trivial⟩) (by kernel_rfl) ?_
 intro L P' Q' hL hP hQ
 have hb : zgb [] (zbd (.mk k n s l)) := by have := hw.2; unfold zgb; simp; omega
 have hB : ∀ b : List UInt8, L (L bytesOf (L lenN b)) (fun i => (AV.int .u8 (L2 L zac b i)).toI) = b := by subst hL; exact zg2
 (cbv; try simp only [syT, true_and, and_true])
 simp only [hB]
 refine ⟨?_, fun h1 => ⟨?_, ⟨trivial, fun _ _ _ _ => trivial⟩, trivial, ?_, ?_⟩, fun h1 => ⟨fun h2 => ⟨?_, ?_, ⟨trivial, fun _ _ _ _ => trivial⟩, trivial, ?_, ?_⟩, fun h2 => ⟨?_, ⟨trivial, fun _ _ _ _ => trivial⟩, trivial, ?_, ⟨0, ?_⟩, fun i hi => ?_⟩⟩⟩
 · (subst hL; subst hQ; simp only [L2, L3, std] at *; try simp only [syS, reduceCtorEq, Int.reduceToNat, Int.reduceAdd, Int.reduceSub] at *)
   exact ⟨Int.emod_nonneg _ (by omega), Int.emod_lt_of_pos _ (by omega)⟩
 · (subst hL; subst hQ; simp only [L2, L3, std] at *; try simp only [syS, reduceCtorEq, Int.reduceToNat, Int.reduceAdd, Int.reduceSub] at *)
   rw [zzq] at hw
   exact hw.1.1
 · (subst hL; subst hQ; simp only [L2, L3, std] at *; try simp only [syS, reduceCtorEq, Int.reduceToNat, Int.reduceAdd, Int.reduceSub] at *)
   rw [zal, if_pos h1] at hb
   exact zuz hb
 · (subst hL; subst hQ; simp only [L2, L3, std] at *; try simp only [syS, reduceCtorEq, Int.reduceToNat, Int.reduceAdd, Int.reduceSub] at *)
   exact yk9 (by rw [zal, if_pos h1])
 · (subst hL; subst hQ; simp only [L2, L3, std] at *; try simp only [syS, reduceCtorEq, Int.reduceToNat, Int.reduceAdd, Int.reduceSub] at *)
   rw [zzq] at hw
   rw [zij (by omega) (by omega)]
   exact ⟨by omega, by omega⟩
 · (subst hL; subst hQ; simp only [L2, L3, std] at *; try simp only [syS, reduceCtorEq, Int.reduceToNat, Int.reduceAdd, Int.reduceSub] at *)
   rw [zjj hw.1]
   have h3 := hw.2
   rw [zal, if_neg h1, if_pos h2] at h3
   simp at h3 |-
   omega
 · (subst hL; subst hQ; simp only [L2, L3, std] at *; try simp only [syS, reduceCtorEq, Int.reduceToNat, Int.reduceAdd, Int.reduceSub] at *)
   rw [zjj hw.1]
   rw [zal, if_neg h1, if_pos h2] at hb
   exact zuz hb
 · (subst hL; subst hQ; simp only [L2, L3, std] at *; try simp only [syS, reduceCtorEq, Int.reduceToNat, Int.reduceAdd, Int.reduceSub] at *)
   rw [zjj hw.1]
   exact yk9 (by rw [zal, if_neg h1, if_pos h2])
 · (subst hL; subst hQ; simp only [L2, L3, std] at *; try simp only [syS, reduceCtorEq, Int.reduceToNat, Int.reduceAdd, Int.reduceSub] at *)
   rw [zjk hz]
   exact zmo hz
 · (subst hL; subst hQ; simp only [L2, L3, std] at *; try simp only [syS, reduceCtorEq, Int.reduceToNat, Int.reduceAdd, Int.reduceSub] at *)
   rw [zjk hz]
   rw [zal, if_neg h1, if_neg h2] at hb
   exact ykc hb
 · (cbv; try simp only [syT, true_and, and_true])
   (subst hL; subst hQ; simp only [L2, L3, std] at *; try simp only [syS, reduceCtorEq, Int.reduceToNat, Int.reduceAdd, Int.reduceSub] at *)
   rw [zjk hz]
   have e : zad (zcv (k % 256)) (zar ((l.length : Nat) : Int)) = zor [] k l 0 := by
     rw [zor, zhz, List.take_zero, zao, List.append_nil]; rfl
   rw [e]
   exact ⟨⟨rfl, fun _ _ _ _ => rfl⟩, rfl, Nat.zero_le _⟩
 · cbv at hi
   (cbv; try simp only [syT, true_and, and_true])
   simp only [hB]
   refine ⟨fun hlt => ⟨?_, ⟨trivial, fun _ _ _ _ => trivial⟩, trivial, fun _ _ _ _ => trivial, ⟨?_, ?_, ?_, ?_⟩, ⟨i + 1, ?_⟩⟩, fun hge => ?_⟩
   · (subst hL; subst hQ; simp only [L2, L3, std] at *; try simp only [syS, reduceCtorEq, Int.reduceToNat, Int.reduceAdd, Int.reduceSub] at *)
     omega
   · (subst hL; subst hQ; simp only [L2, L3, std] at *; try simp only [syS, reduceCtorEq, Int.reduceToNat, Int.reduceAdd, Int.reduceSub] at *)
     exact (zkk _).2
   · (subst hL; subst hQ; simp only [L2, L3, std] at *; try simp only [syS, reduceCtorEq, Int.reduceToNat, Int.reduceAdd, Int.reduceSub] at *)
     rw [zfe]
     rw [zd6] at hz
     exact zvk hz.1 (by have : lenL l = l.length := rfl; omega)
   · (subst hL; subst hQ; simp only [L2, L3, std] at *; try simp only [syS, reduceCtorEq, Int.reduceToNat, Int.reduceAdd, Int.reduceSub] at *)
     rw [zce]
     exact yk2 hw (by omega) (by omega) (by have : lenL l = l.length := rfl; omega)
   · (subst hL; subst hQ; simp only [L2, L3, std] at *; try simp only [syS, reduceCtorEq, Int.reduceToNat, Int.reduceAdd, Int.reduceSub] at *)
     rw [zce]
     have h4 := zer (l := l) (i := i) (by have : lenL l = l.length := rfl; omega)
     have h5 := zjl l (i + 1)
     rw [h4, List.length_append] at h5
     rw [zal, if_neg h1, if_neg h2] at hb
     unfold zgb at hb |-
     simp only [List.length_append, zor] at hb |-
     omega
   · (cbv; try simp only [syT, true_and, and_true])
     (subst hL; subst hQ; simp only [L2, L3, std] at *; try simp only [syS, reduceCtorEq, Int.reduceToNat, Int.reduceAdd, Int.reduceSub] at *)
     have : lenL l = l.length := rfl
     have := znk l
     rw [zd6] at hz
     have h4 := hz.1.1
     have h5 := hz.1.2
     rw [zce]
     have e : zad (zor [] k l i) (zbd (zae l i)) = zor [] k l (i + 1) := by
       rw [zor, zor, zer (by omega)]; unfold zad; simp only [List.append_assoc]
     rw [e]
     exact ⟨⟨rfl, fun _ _ _ _ => rfl⟩, rfl, by omega, by omega, by omega⟩
   · (subst hL; subst hQ; simp only [L2, L3, std] at *; try simp only [syS, reduceCtorEq, Int.reduceToNat, Int.reduceAdd, Int.reduceSub] at *)
     have : lenL l = l.length := rfl
     have hil : i = l.length := by omega
     exact zux (by rw [zal, if_neg h1, if_neg h2, zor, hil, zhz, List.take_length, List.nil_append, List.append_assoc])
theorem ycs {P : Program} {f : FuncId} {xs ys : List AV} {O O1 : List (Nat × Ob)} {r : AV} (e : ∀ h D μ vs, RL h D μ xs vs -> RL h D μ ys vs) (hm : zb0 P f ys O r O1) : zb0 P f xs O r O1 :=
 fun D w μ vs hD hx => hm D w μ vs hD (e _ _ _ _ hx)
theorem yeg : ∀ N, zd1 Tryz.prog (zqk N std) := by
 intro N
 induction N with
 | zero =>
   intro raw ob T hT hp
   unfold zqk at hT
   simp only at hT
   split at hT
   · rename_i k n s x
     split at hT <;> cases hT
     · have h1 : sizeC (mkV std k n s x) <= 0 := hp.2.1.1
       have := zfr (mkV std k n s x)
       omega
     · have h1 : sizeC (mkV std k n s x) <= 0 := hp.2.1.1
       have := zfr (mkV std k n s x)
       omega
   · cases hT
 | succ N ih =>
   intro raw ob T hT hp
   unfold zqk at hT
   simp only at hT
   split at hT
   rotate_left
   · cases hT
   rename_i k n s x
   split at hT <;> cases hT
   · refine ycs (fun h D μ vs hr => rl_2 (fun v => ylj hp.1) hr) ?_
     exact ymm ih k n s (rdL x) hp.2.1 hp.2.2
   · refine ycs (fun h D μ vs hr => rl_2 (fun v => ylj hp.1) hr) ?_
     exact yml ih _ k n s (rdL x) hp.2.1 hp.2.2.1 hp.2.2.2
theorem zuf {P : Program} {f : FuncId} {sz n : Nat} {get : Nat -> Nat -> AV} {r : AV} (h0 : n = 0 -> zaf P f [.nils] r) (h1 : n = 0 -> zaf P f [.emp] r) (h2 : 0 < n -> zaf P f [.lst sz n get] r) : zaf P f [.lst sz n get] r := by
 by_cases e : n = 0
 · subst e
   intro D w vs hD hx
   obtain ⟨v, hv⟩ : ∃ v, vs.toList = [v] := List.length_eq_one_iff.1 (by simpa using hx.1.symm)
   have : vs = #[v] := by rw [<- Array.toArray_toList (xs := vs), hv]
   subst this
   have hr := hx.2 0 _ _ rfl rfl
   have one : ∀ y, R w.heap D zaz y v -> RL w.heap D zaz [y] #[v] := fun y r => ⟨rfl, fun i x u hx hu => by
     match i with
     | 0 => cases hx; cases hu; exact r
     | i + 1 => simp at hx⟩
   cases hr with
   | lst0 _ _ a cap hn =>
     cases a with
     | none =>
       obtain rfl := hn rfl
       exact h0 rfl D w _ hD (one _ .nils)
     | some a => exact h1 rfl D w _ hD (one _ (.emp a cap))
   | lst _ _ _ b o cap vs' hD' hc hv' h1' hr' => exact h1 rfl D w _ hD (one _ (.emp _ cap))
 · exact h2 (by omega)
def zkm (n : Int) : CV := .mk 1 n [] []
def yfr (s : List UInt8) : CV := .mk 2 0 s []
def zf7 (l : List CV) : CV := .mk 3 0 [] l
def yhi (L : zaa) : zcl := (36, fun xs => match xs with | [.int .u64 n] => some (True, cvA L (L zkm n)) | _ => none)
def ylk (L : zaa) : zcl := (35, fun xs => match xs with | [.str s] => some (True, cvA L (L yfr s)) | _ => none)
theorem zvj : zcs Tryz.prog (yhi std) := by
 intro xs p r h hp
 unfold yhi at h
 simp only at h
 split at h
 rotate_left
 · cases h
 rename_i n
 cases h
 refine zab (T := tt) (S := noS) (lo := noA) (lb := noA) 5 (fn := Tryz.f36) rfl rfl (by kernel_rfl) (by kernel_rfl) rfl zah (zdd _) (by kernel_rfl) ?_
 (intro L P1 Q1 hL hP hQ; cbv; subst hL; simp only [L2, L3, std, syT]; subst hQ)
 show zed (.agg [.int .i64 1, .int .u64 n, .str [], .lst 4 0 (zgq (zkm n))]) _
 simp [zj7, zc2, zch, zdf, zbh]
theorem yg5 : zcs Tryz.prog (ylk std) := by
 intro xs p r h hp
 unfold ylk at h
 simp only at h
 split at h
 rotate_left
 · cases h
 rename_i n
 cases h
 refine zab (T := tt) (S := noS) (lo := noA) (lb := noA) 5 (fn := Tryz.f35) rfl rfl (by kernel_rfl) (by kernel_rfl) rfl zah (zdd _) (by kernel_rfl) ?_
 (intro L P1 Q1 hL hP hQ; cbv; subst hL; simp only [L2, L3, std, syT]; subst hQ)
 show zed (.agg [.int .i64 2, .int .u64 0, .str n, .lst 4 0 (zgq (yfr n))]) _
 simp [zj7, zc2, zch, zdf, zbh]
def yd1 (l : List CV) : Prop := l.length <= 1000000
def zu0 (L : zaa) : zcl := (49, fun xs => match xs with
 | [x] => some (L okL x /\ L yd1 (L rdL x), .lst 4 (L lenL (L rdL x)) (L zf1 (L rdL x)))
 | _ => none)
theorem zyy : zcs Tryz.prog (zu0 std) := by
 intro xs p r h hp
 unfold zu0 at h
 simp only at h
 split at h
 rotate_left
 · cases h
 rename_i x
 cases h
 obtain ⟨ho, hz⟩ := hp
 refine yus ho ?_
 have hz : yd1 (rdL x) := hz
 show zaf _ _ [cvL std (rdL x)] (.lst 4 (lenL (rdL x)) (zf1 (rdL x)))
 generalize rdL x = l at hz |-
 refine zuf (fun h => ?_) (fun h => ?_) (fun h => ?_)
 · refine zab (T := tt) (S := noS) (lo := noA) (lb := noA) 5 (fn := Tryz.f49) rfl rfl (by kernel_rfl) (by kernel_rfl) rfl zah (zdd _) (by kernel_rfl) ?_
   intro L P' Q' hL hP hQ
   (cbv; try simp only [syT, true_and, and_true])
   (subst hL; subst hQ; simp only [L2, L3, std] at *; try simp only [syS, reduceCtorEq, Int.reduceToNat, Int.reduceAdd, Int.reduceSub] at *)
   exact h.symm
 · refine zab (T := tt) (S := noS) (lo := noA) (lb := noA) 5 (fn := Tryz.f49) rfl rfl (by kernel_rfl) (by kernel_rfl) rfl zah (zdd _) (by kernel_rfl) ?_
   intro L P' Q' hL hP hQ
   (cbv; try simp only [syT, true_and, and_true])
   (subst hL; subst hQ; simp only [L2, L3, std] at *; try simp only [syS, reduceCtorEq, Int.reduceToNat, Int.reduceAdd, Int.reduceSub] at *)
   exact ⟨by omega, h.symm, fun i j hi => by omega⟩
 · refine zau (T := tt) (S := noS) (lo := fun _ => noA std) (lb := noA) 5 (fn := Tryz.f49) (xs := fun L => [cvL L l]) rfl rfl (by kernel_rfl) (by kernel_rfl) rfl zah (zdd _) (by kernel_rfl) ?_
   intro L P' Q' hL hP hQ
   (cbv; try simp only [syT, true_and, and_true])
   (subst hL; subst hQ; simp only [L2, L3, std] at *; try simp only [syS, reduceCtorEq, Int.reduceToNat, Int.reduceAdd, Int.reduceSub] at *)
   have h1 : lenL l <= 1000000 := hz
   exact ⟨zms h, by omega, fun i j hi hj => by rw [zfo _ _ hj, zb4 _ _ _ hi]⟩
def zw8 (L : zaa) : zcl := (34, fun xs => match xs with
 | [x] => some (L okL x /\ L yd1 (L rdL x), cvA L (L zf7 (L rdL x)))
 | _ => none)
theorem zr3 : zcs Tryz.prog (zw8 std) := by
 intro xs p r h hp
 unfold zw8 at h
 simp only at h
 split at h
 rotate_left
 · cases h
 rename_i x
 cases h
 obtain ⟨ho, hz⟩ := hp
 refine yus ho ?_
 have hz : yd1 (rdL x) := hz
 show zaf _ _ [cvL std (rdL x)] (cvA std (zf7 (rdL x)))
 generalize rdL x = l at hz |-
 refine zau (T := tt) (S := fun L => zbi [zu0 L]) (lo := fun _ => noA std) (lb := noA) 5 (fn := Tryz.f34) (xs := fun L => [cvL L l]) rfl rfl (by kernel_rfl) (by kernel_rfl) rfl zah (za9 ⟨zyy, trivial⟩) (by kernel_rfl) ?_
 intro L P' Q' hL hP hQ
 (cbv; try simp only [syT, true_and, and_true])
 (subst hL; subst hQ; simp only [L2, L3, std] at *; try simp only [syS, reduceCtorEq, Int.reduceToNat, Int.reduceAdd, Int.reduceSub] at *)
 rw [rdl]
 refine ⟨⟨okl l, hz⟩, ?_⟩
 show zed (.agg [.int .i64 3, .int .u64 0, .str [], .lst 4 (lenL l) (zf1 l)]) _
 simp [zj7, zc2, zch, zeo, zbh]
def ybq (v : CV) : Int := if zf4 v = true then (if zdo v > 6 then 8 else if (zbd v).length > 8192 then 5 else 0) else 10
def yfu (v : CV) : List UInt8 := if ybq v = 0 then zbd v else []
def zwx (N : Nat) (L : zaa) : zcl := (38, fun xs => match xs with
 | [.agg [.int .i64 k, .int .u64 n, .str s, x]] => some (L okL x /\ L2 L zoe N (mkV L k n s x) /\ L zx9 (mkV L k n s x), .tup [.str (L yfu (mkV L k n s x)), .int .i64 (L ybq (mkV L k n s x))])
 | _ => none)
theorem zo0 (N : Nat) : zcs Tryz.prog (zwx N std) := by
 intro xs p r h hp
 unfold zwx at h
 simp only at h
 split at h
 rotate_left
 · cases h
 rename_i k n s x
 cases h
 obtain ⟨ho, hz, hw⟩ := hp
 refine ytz ho ?_
 rw [show mkV std k n s x = .mk k n s (rdL x) from rfl] at hz hw |-
 generalize rdL x = l at hz hw |-
 have hz : zoe N (.mk k n s l) := hz
 have hw : zx9 (.mk k n s l) := hw
 refine zau (T := tt) (S := fun L => zbe [zo3 N L, zrz N L] [zqk N L, yx3 L, yx2 L]) (lo := fun _ => noA std) (lb := noA) 5 (fn := Tryz.f38) (xs := fun L => [.agg [.int .i64 k, .int .u64 n, .str s, cvL L l]]) rfl rfl (by kernel_rfl) (by kernel_rfl) rfl zah
   (zai ⟨yfd N, yec N, trivial⟩ ⟨yeg N, ypn, ypl, trivial⟩) (by kernel_rfl) ?_
 intro L P' Q' hL hP hQ
 have hB : ∀ b : List UInt8, L (L bytesOf (L lenN b)) (fun i => (AV.int .u8 (L2 L zac b i)).toI) = b := by subst hL; exact zg2
 (cbv; try simp only [syT, true_and, and_true])
 simp only [hB]
 (subst hL; subst hQ; simp only [L2, L3, std] at *; try simp only [syS, reduceCtorEq, Int.reduceToNat, Int.reduceAdd, Int.reduceSub] at *)
 simp only [rdl, mkl]
 refine ⟨⟨okl l, hz⟩, fun h1 => ?_, fun h1 => ⟨⟨okl l, hz⟩, fun h2 => ?_, fun h2 => ⟨⟨okl l, hz, hw⟩, fun h3 => ?_, fun h3 => ⟨⟨?_, hw.2⟩, ?_⟩⟩⟩⟩
 · simp [yfu, ybq, h1]
 · simp [yfu, ybq, h1, h2]
 · have h4 : ¬ 6 < zdo (.mk k n s l) := by omega
   have h5 : 8192 < (zbd (.mk k n s l)).length := by omega
   simp [yfu, ybq, h1, h4, h5]
 · rw [zal]; simp [zf3]
 · have h4 : ¬ 6 < zdo (.mk k n s l) := by omega
   have h5 : ¬ 8192 < (zbd (.mk k n s l)).length := by omega
   simp [yfu, ybq, h1, h4, h5]
theorem one1 (v : CV) : rdL (.lst 4 1 fun i j => zby .dead [.int .i64 v.kd, .int .u64 v.nn, .str v.tx, .lst 4 (zfa v) (zgq v)] (i * 4 + j)) = [v] := by
 show [CV.mk v.kd v.nn v.tx (rdL (.lst 4 (zfa v) (zgq v)))] = [v]
 rw [zfe]
theorem ymx (v : CV) : okL (.lst 4 1 fun i j => zby .dead [.int .i64 v.kd, .int .u64 v.nn, .str v.tx, .lst 4 (zfa v) (zgq v)] (i * 4 + j)) := by
 refine ⟨rfl, fun i hi => ?_⟩
 have : i = 0 := by omega
 subst this
 exact ⟨⟨_, rfl⟩, ⟨_, rfl⟩, ⟨_, rfl⟩, (zkk v).2⟩
theorem yr0 : zar 1 = [1] := by rw [zar, show (1 : Int).toNat = 1 from rfl, zbc (by decide)]; rfl
theorem yqz : zar 5 = [5] := by rw [zar, show (5 : Int).toNat = 5 from rfl, zbc (by decide)]; rfl
theorem ztr : zbd (zf7 [zkm 5]) = [3, 1, 1, 5] := by
 rw [zf7, zkm, zal, if_neg (by decide), if_neg (by decide), zao, zal, if_pos rfl, zao, yqz]
 show _ ++ (zar 1 ++ _) = _
 rw [yr0]; rfl
theorem yos : zf4 (zf7 [zkm 5]) = true := by rw [zf7, zkm, zf4, zdp, zf4, zdp]; rfl
theorem yor : zdo (zf7 [zkm 5]) = 1 := by rw [zf7, zkm, zdo, zb3, zdo, zb3]; rfl
theorem yop : sizeC (zf7 [zkm 5]) = 2 := by rw [zf7, zkm, ze6, zbw, zdw, ze6, zdw]
theorem ye6 : ybq (zf7 [zkm 5]) = 0 := by rw [ybq, yos, yor, ztr]; rfl
theorem yoq : yfu (zf7 [zkm 5]) = [3, 1, 1, 5] := by rw [yfu, ye6, ztr]; rfl
theorem ywi : zx9 (zf7 [zkm 5]) := by
 refine ⟨?_, by rw [ztr]; decide⟩
 simp only [zf7, zkm, wfV, zg6, zbx]
 decide
theorem zz6 : zaf Tryz.prog 41 [] (.bool true) := by
 refine zab (T := tt) (S := fun L => zbi [yhi L, zw8 L, zwx 100 L, tru 56]) (lo := noA) (lb := noA) 5 (fn := Tryz.f41) rfl rfl (by kernel_rfl) (by kernel_rfl) rfl zah (za9 ⟨zvj, zr3, zo0 100, zco zk5, trivial⟩) (by kernel_rfl) ?_
 intro L P' Q' hL hP hQ
 (cbv; try simp only [syT, true_and, and_true])
 (subst hL; subst hQ; simp only [L2, L3, std] at *; try simp only [syS, reduceCtorEq, Int.reduceToNat, Int.reduceAdd, Int.reduceSub] at *)
 simp only [one1, zfe, zce, ye6, yoq]
 exact ⟨⟨ymx _, by show (1 : Nat) <= 1000000; omega⟩, ⟨(zkk _).2, ⟨by rw [yop]; omega, by omega⟩, ywi⟩, fun _ => trivial, trivial⟩
theorem zzd : zaf Tryz.prog 22 [] (.bool true) := by
 refine zab (T := tt) (S := fun L => zbi [tru 41]) (lo := noA) (lb := noA) 5 (fn := Tryz.f22) rfl rfl (by kernel_rfl) (by kernel_rfl) rfl zah (za9 ⟨zco zz6, trivial⟩) (by kernel_rfl) ?_
 (intro L P1 Q1 hL hP hQ; cbv; subst hL; simp only [L2, L3, std, syT]; subst hQ)
 (simp only [syS, reduceCtorEq, Int.reduceToNat, Int.reduceAdd, Int.reduceSub])
theorem yp1 (g : Nat -> CV) {i q j : Nat} (hq : q < i + 1) (hj : j < 4) :
   zhv std (zbo q i) (cv1 std (g q) j) (zby .dead [.int .i64 (g i).kd, .int .u64 (g i).nn, .str (g i).tx, .lst 4 (zfa (g i)) (zgq (g i))] ((q - i) * 4 + j)) = cv1 std (g q) j := by
 by_cases h : q < i
 · rw [zms h, show q - i = 0 by omega, Nat.zero_mul, Nat.zero_add]
   match j, hj with
   | 0, _ => rfl
   | 1, _ => rfl
   | 2, _ => rfl
   | 3, _ => rfl
 · have : q = i := by omega
   subst this
   rw [zq1 (by omega), show q - q = 0 by omega, Nat.zero_mul, Nat.zero_add]
   match j, hj with
   | 0, _ => rfl
   | 1, _ => rfl
   | 2, _ => rfl
   | 3, _ => rfl
def pr2 (a b : Int) : Pr := ⟨[a, b, 0, 0, 0, 0, 0, 0, 0, 0, 0, 0, 0, 0, 0, 0], rfl⟩
theorem yrp {a b : Int} (ha : 0 <= a /\ a < 256) (hb : 0 <= b /\ b < 256) : zi0 (pr2 a b) := by
 intro x hx
 have hx : x ∈ [a, b, 0, 0, 0, 0, 0, 0, 0, 0, 0, 0, 0, 0, 0, 0] := hx
 simp only [List.mem_cons, List.not_mem_nil, or_false] at hx
 omega
theorem yui (a b : Int) : zkl (.agg [.int .u8 a, .int .u8 b, .int .u8 0, .int .u8 0, .int .u8 0, .int .u8 0, .int .u8 0, .int .u8 0, .int .u8 0, .int .u8 0, .int .u8 0, .int .u8 0, .int .u8 0, .int .u8 0, .int .u8 0, .int .u8 0]) /\ zbl (.agg [.int .u8 a, .int .u8 b, .int .u8 0, .int .u8 0, .int .u8 0, .int .u8 0, .int .u8 0, .int .u8 0, .int .u8 0, .int .u8 0, .int .u8 0, .int .u8 0, .int .u8 0, .int .u8 0, .int .u8 0, .int .u8 0]) = pr2 a b := ybj (pr2 a b)
def yfl (L : zaa) : Prop :=
 (∀ a b : Int, L zbl (.agg [.int .u8 a, .int .u8 b, .int .u8 0, .int .u8 0, .int .u8 0, .int .u8 0, .int .u8 0, .int .u8 0, .int .u8 0, .int .u8 0, .int .u8 0, .int .u8 0, .int .u8 0, .int .u8 0, .int .u8 0, .int .u8 0]) = L (L pr2 a) b) /\
 (∀ a b : Int, (L zkl (.agg [.int .u8 a, .int .u8 b, .int .u8 0, .int .u8 0, .int .u8 0, .int .u8 0, .int .u8 0, .int .u8 0, .int .u8 0, .int .u8 0, .int .u8 0, .int .u8 0, .int .u8 0, .int .u8 0, .int .u8 0, .int .u8 0])) = True) /\
 (∀ a b : Int, L zbl (.agg [.int .u8 (L (L za7 [a, b, 0, 0, 0, 0, 0, 0, 0, 0, 0, 0, 0, 0, 0, 0]) 0), .int .u8 (L (L za7 [a, b, 0, 0, 0, 0, 0, 0, 0, 0, 0, 0, 0, 0, 0, 0]) 1), .int .u8 (L (L za7 [a, b, 0, 0, 0, 0, 0, 0, 0, 0, 0, 0, 0, 0, 0, 0]) 2), .int .u8 (L (L za7 [a, b, 0, 0, 0, 0, 0, 0, 0, 0, 0, 0, 0, 0, 0, 0]) 3), .int .u8 (L (L za7 [a, b, 0, 0, 0, 0, 0, 0, 0, 0, 0, 0, 0, 0, 0, 0]) 4), .int .u8 (L (L za7 [a, b, 0, 0, 0, 0, 0, 0, 0, 0, 0, 0, 0, 0, 0, 0]) 5), .int .u8 (L (L za7 [a, b, 0, 0, 0, 0, 0, 0, 0, 0, 0, 0, 0, 0, 0, 0]) 6), .int .u8 (L (L za7 [a, b, 0, 0, 0, 0, 0, 0, 0, 0, 0, 0, 0, 0, 0, 0]) 7), .int .u8 (L (L za7 [a, b, 0, 0, 0, 0, 0, 0, 0, 0, 0, 0, 0, 0, 0, 0]) 8), .int .u8 (L (L za7 [a, b, 0, 0, 0, 0, 0, 0, 0, 0, 0, 0, 0, 0, 0, 0]) 9), .int .u8 (L (L za7 [a, b, 0, 0, 0, 0, 0, 0, 0, 0, 0, 0, 0, 0, 0, 0]) 10), .int .u8 (L (L za7 [a, b, 0, 0, 0, 0, 0, 0, 0, 0, 0, 0, 0, 0, 0, 0]) 11), .int .u8 (L (L za7 [a, b, 0, 0, 0, 0, 0, 0, 0, 0, 0, 0, 0, 0, 0, 0]) 12), .int .u8 (L (L za7 [a, b, 0, 0, 0, 0, 0, 0, 0, 0, 0, 0, 0, 0, 0, 0]) 13), .int .u8 (L (L za7 [a, b, 0, 0, 0, 0, 0, 0, 0, 0, 0, 0, 0, 0, 0, 0]) 14), .int .u8 (L (L za7 [a, b, 0, 0, 0, 0, 0, 0, 0, 0, 0, 0, 0, 0, 0, 0]) 15)]) = L (L pr2 a) b) /\
 (∀ a b : Int, (L zkl (.agg [.int .u8 (L (L za7 [a, b, 0, 0, 0, 0, 0, 0, 0, 0, 0, 0, 0, 0, 0, 0]) 0), .int .u8 (L (L za7 [a, b, 0, 0, 0, 0, 0, 0, 0, 0, 0, 0, 0, 0, 0, 0]) 1), .int .u8 (L (L za7 [a, b, 0, 0, 0, 0, 0, 0, 0, 0, 0, 0, 0, 0, 0, 0]) 2), .int .u8 (L (L za7 [a, b, 0, 0, 0, 0, 0, 0, 0, 0, 0, 0, 0, 0, 0, 0]) 3), .int .u8 (L (L za7 [a, b, 0, 0, 0, 0, 0, 0, 0, 0, 0, 0, 0, 0, 0, 0]) 4), .int .u8 (L (L za7 [a, b, 0, 0, 0, 0, 0, 0, 0, 0, 0, 0, 0, 0, 0, 0]) 5), .int .u8 (L (L za7 [a, b, 0, 0, 0, 0, 0, 0, 0, 0, 0, 0, 0, 0, 0, 0]) 6), .int .u8 (L (L za7 [a, b, 0, 0, 0, 0, 0, 0, 0, 0, 0, 0, 0, 0, 0, 0]) 7), .int .u8 (L (L za7 [a, b, 0, 0, 0, 0, 0, 0, 0, 0, 0, 0, 0, 0, 0, 0]) 8), .int .u8 (L (L za7 [a, b, 0, 0, 0, 0, 0, 0, 0, 0, 0, 0, 0, 0, 0, 0]) 9), .int .u8 (L (L za7 [a, b, 0, 0, 0, 0, 0, 0, 0, 0, 0, 0, 0, 0, 0, 0]) 10), .int .u8 (L (L za7 [a, b, 0, 0, 0, 0, 0, 0, 0, 0, 0, 0, 0, 0, 0, 0]) 11), .int .u8 (L (L za7 [a, b, 0, 0, 0, 0, 0, 0, 0, 0, 0, 0, 0, 0, 0, 0]) 12), .int .u8 (L (L za7 [a, b, 0, 0, 0, 0, 0, 0, 0, 0, 0, 0, 0, 0, 0, 0]) 13), .int .u8 (L (L za7 [a, b, 0, 0, 0, 0, 0, 0, 0, 0, 0, 0, 0, 0, 0, 0]) 14), .int .u8 (L (L za7 [a, b, 0, 0, 0, 0, 0, 0, 0, 0, 0, 0, 0, 0, 0, 0]) 15)])) = True)
theorem ymu : yfl std :=
 ⟨fun a b => (yui a b).2,
  fun a b => eq_true (yui a b).1,
  fun a b => (yui a b).2,
  fun a b => eq_true (yui a b).1⟩
theorem zwa : zef [] := ⟨List.Pairwise.nil, fun e h => by cases h⟩
theorem zz3 : zaf Tryz.prog 7 [] (.bool true) := by
 refine zab (T := tt) (S := fun L => zbi [ynk L, ycy L, tru 22, tru 23]) (lo := noA) (lb := noA) 5 (fn := Tryz.f7) rfl rfl (by kernel_rfl) (by kernel_rfl) rfl zah (za9 ⟨yif, zp9, zco zzd, zco zzb, trivial⟩) (by kernel_rfl) ?_
 intro L P' Q' hL hP hQ
 obtain ⟨hE, hEo, hF, hFo, hEta, hPe, hMp, hQ0, hQo, hQ1, hQ1o, hG, hGo⟩ : zg4 L := by subst hL; exact zgx
 obtain ⟨h2, h2o, h2n, h2no⟩ : yfl L := by subst hL; exact ymu
 have hN : L zan .nils = [] := by subst hL; rfl
 have hNo : (L zi6 .nils) = True := by subst hL; exact eq_true trivial
 (cbv; try simp only [syT, true_and, and_true])
 simp only [h2, h2o, hN, hNo, true_and, hG, hGo]
 clear hPe hE hEo hF hFo hEta hMp hQ0 hQo hQ1 hQ1o hG hGo
 subst hL; subst hQ
 have o1 : zi0 (pr2 1 0) := yrp (by omega) (by omega)
 have e1 : ieq (zez [] (pr2 1 0) 1) 0 = true := by decide +kernel
 have e2 : (zcy (zfb [] (pr2 1 0) 1) (pr2 1 0)).h = true := by decide +kernel
 have e3 : (zcy [] (pr2 1 0)).h = false := rfl
 have o2 := yjd 1 zwa o1
 have o3 := yea 1 zwa o1 (by decide)
 have o3 : ze3 (zfb [] (pr2 1 0) 1) := by show (zfb [] (pr2 1 0) 1).length <= 1000000; omega
 have o0 : ze3 [] := by show [].length <= 1000000; decide
 refine ⟨⟨o0, zwa, o1⟩, fun _ => ⟨fun _ => ⟨fun _ => ⟨⟨o3, o2, o1⟩, fun _ => ⟨⟨o0, zwa, o1⟩, ?_⟩, fun h => ?_⟩, fun h => ?_⟩, fun h => (by cases h)⟩, fun h => (by cases h)⟩
 · show zed (.bool true) (.bool (!(zcy [] (pr2 1 0)).h))
   rw [e3, zbp]; rfl
 · have h : (zcy (zfb [] (pr2 1 0) 1) (pr2 1 0)).h = false := h
   rw [e2] at h; cases h
 · have h : ieq (zez [] (pr2 1 0) 1) 0 = false := h
   rw [e1] at h; cases h
def zjr (p : Pr) : List UInt8 := prB p.1
def zv3 (p : Pr) (i q : Nat) : Int := if q < i then za0 p q else 0
def rawI (i : Nat) : Prop := i <= 16
def rawM (i : Nat) : Nat := 16 - i
def rawA (L : zaa) (p : Pr) : Nat -> St -> Option Ann := fun id st => match id with
 | 0 => some ⟨Nat, fun i => [(4, .int .i64 (L za8 i))], fun i => [(5, .row 5 1 16 (fun q _ => .int .u8 (L3 L zv3 p i q)))], [1, 3], [1], fun i => L rawI i, fun i => L rawM i⟩
 | _ => none
def ymk (L : zaa) : zcl := (33, fun xs => match xs with
 | [q] => some (L zkl q /\ L zi0 (L zbl q), .str (L zjr (L zbl q)))
 | _ => none)
theorem zoq (p : Pr) : (zjr p).length = 16 := by
 unfold zjr prB
 rw [List.length_map, p.2]
theorem ybm (p : Pr) : bytesOf 16 (fun i => zv3 p 16 i) = zjr p := by
 unfold bytesOf zjr prB
 apply List.ext_getElem
 · simp [p.2]
 · intro i h1 h2
   have hi : i < 16 := by simpa using h1
   simp only [List.getElem_map, List.getElem_range]
   unfold zv3 za0 za7
   rw [if_pos hi, List.getD_eq_getElem?_getD, List.getElem?_eq_getElem (by rw [p.2]; exact hi)]; rfl
theorem yh9 : zcs Tryz.prog (ymk std) := by
 intro xs p r h hp
 dsimp only [ymk] at h |-
 split at h <;> cases h
 try simp only [L2, L3, std] at hp |-
 rename_i q
 obtain ⟨ho, hpo⟩ := hp
 refine yx8 zlq ho ?_
 rw [zjq]
 have hpo : zi0 (zbl q) := hpo
 show zaf Tryz.prog 33 [zsz std (zbl q)] (.str (zjr (zbl q)))
 generalize zbl q = p at hpo |-
 refine zau (T := tt) (S := noS) (lo := fun L => rawA L p) (lb := noA) 5 (fn := Tryz.f33) (xs := fun L => [zsz L p]) rfl rfl (by kernel_rfl) (by kernel_rfl) rfl zah (zdd _) (by kernel_rfl) ?_
 intro L P' Q' hL hP hQ
 (cbv; try simp only [syT, true_and, and_true])
 refine ⟨?_, ⟨0, ?_⟩, fun i hi => ?_⟩
 · subst hL; decide
 · (cbv; try simp only [syT, true_and, and_true])
   subst hL
   repeat' first | exact fun _ _ _ _ => trivial | refine And.intro ?_ ?_
   all_goals first | rfl | exact Nat.zero_le _ | exact fun q j hq hj => (by
     obtain rfl : j = 0 := by omega
     show AV.int .u8 0 = AV.int .u8 (zv3 p 0 q)
     rw [zv3, if_neg (Nat.not_lt_zero _)])
 · have hi2 : i <= 16 := by
     have h := hi
     rw [hL] at h
     exact h
   clear hi
   obtain ⟨i', hi'⟩ : ∃ i', i' = i + 1 := ⟨_, rfl⟩
   (cbv; try simp only [syT, true_and, and_true])
   refine ⟨fun hlt => ⟨?_, ?_, ⟨i', ?_⟩⟩, fun hge => ⟨?_, ?_⟩⟩
   · subst hL
     have hlt : ilt (za8 i) 16 = true := hlt
     rw [zc6, za5] at hlt
     show inR (za8 i) (za8 16) = true
     rw [zfn, za5, za5]; omega
   · subst hL
     have hlt : ilt (za8 i) 16 = true := hlt
     rw [zc6, za5] at hlt
     show inR (za8 i) (za8 (Int.toNat 16)) = true
     rw [zfn, za5, za5, show Int.toNat 16 = 16 from rfl]; omega
   · (cbv; try simp only [syT, true_and, and_true])
     subst hL
     have hlt : ilt (za8 i) 16 = true := hlt
     rw [zc6, za5] at hlt
     repeat' first | exact fun _ _ _ _ => trivial | refine And.intro ?_ ?_
     · intro q j hq hj
       refine (yrs _ .u8 _ (fun q => zv3 p i q) q j hj).trans ?_
       show AV.int .u8 (if q = 0 + (za8 i).toNat then za7 [za0 p 0, za0 p 1, za0 p 2, za0 p 3, za0 p 4, za0 p 5, za0 p 6, za0 p 7, za0 p 8, za0 p 9, za0 p 10, za0 p 11, za0 p 12, za0 p 13, za0 p 14, za0 p 15] (za8 i).toNat else zv3 p i q) = AV.int .u8 (zv3 p i' q)
       rw [zos, Nat.zero_add, show (za8 i).toNat = i from Int.toNat_natCast i, hi']
       congr 1
       unfold zv3
       by_cases h : q = i
       · rw [if_pos h, if_pos (by omega), h]; rfl
       · rw [if_neg h]
         by_cases h2 : q < i
         · rw [if_pos h2, if_pos (by omega)]
         · rw [if_neg h2, if_neg (by omega)]
     · show zcc .i64 (za8 i) 1 = za8 i'
       unfold zcc za8
       rw [zct]; omega
     · show i' <= 16
       omega
     · show 16 - i' < 16 - i
       omega
   · subst hL
     exact ⟨show 0 + Int.toNat 16 <= 16 by decide, fun q hq => ⟨_, rfl⟩⟩
   · subst hL; subst hQ
     have hge : ilt (za8 i) 16 = false := hge
     rw [ze4, za5] at hge
     obtain rfl : i = 16 := by omega
     rw [zhr]
     have e : (fun q => (AV.int .u8 (zv3 p 16 (0 + q))).toI) = zv3 p 16 := funext fun q => congrArg (zv3 p 16) (Nat.zero_add q)
     show bytesOf (Int.toNat 16) (fun q => (AV.int .u8 (zv3 p 16 (0 + q))).toI) = zjr p
     rw [e]
     exact ybm p
theorem yr3 (c : Bool) (x y : Le) {j : Nat} (hj : j < 18) : zhv std c (leC std x j) (leC std y j) = leC std (if c = true then x else y) j := by
 have : j < 16 \/ j = 16 \/ j = 17 := by omega
 rcases this with h | rfl | rfl
 · rw [yd3 x h, yd3 y h, yd3 _ h]
   cases c <;> rfl
 · cases c <;> rfl
 · cases c <;> rfl
def leLe (l : List Le) (i : Nat) : Prop := i <= l.length
def toLe (l : List Le) (i : Nat) : Nat := l.length - i
theorem zte (y z : Le) : (and (yvn y.p z.p) (and (ieq y.d z.d) (and (ytp y.h z.h) true))) = decide (y = z) := by
 cases y with
 | mk p d h =>
   cases z with
   | mk p' d' h' =>
     simp [yvn, ieq, ytp, Bool.beq_eq_decide_eq]
def isN9 (l m : List Le) (i : Nat) : Prop := i <= l.length /\ l.length = m.length /\ ∀ j, j < i -> zak l j = zak m j
def yum (l m : List Le) : Bool := decide (l = m)
def isA (L : zaa) (l m : List Le) : Nat -> St -> Option Ann := fun id st => match id with
 | 0 => some ⟨Nat, fun i => [(17, .int .i64 (L za8 i))], fun _ => [], [1, 2, 15, 16], [2], fun i => L3 L isN9 l m i, fun i => L2 L toLe l i⟩
 | _ => none
def ywc (L : zaa) : zcl := (15, fun xs => match xs with
 | [.agg [x], y] => some (L zi6 x /\ L zi6 y /\ L ze3 (L zan x) /\ L ze3 (L zan y) /\ L zef (L zan x), .bool (L2 L yum (L zan x) (L zan y)))
 | _ => none)
theorem ynx : zcs Tryz.prog (ywc std) := by
 intro xs p r h hp
 dsimp only [ywc] at h |-
 split at h <;> cases h
 try simp only [L2, L3, std] at hp |-
 rename_i x y
 obtain ⟨ho, ho2, hz, hz2, hok⟩ := hp
 refine zue zec ho (yx7 zec ho2 ?_)
 have hz : ze3 (zan x) := hz
 have hz2 : ze3 (zan y) := hz2
 have hok : zef (zan x) := hok
 show zaf Tryz.prog 15 (.agg [zr0 std leV (zan x)] :: zr0 std leV (zan y) :: []) (.bool (yum (zan x) (zan y)))
 generalize zan x = l at hz hok |-
 generalize zan y = m at hz2 |-
 refine zau (T := tt) (S := fun L => zbi [ynq L, ycy L]) (lo := fun L => isA L l m) (lb := noA) 5 (fn := Tryz.f15) (xs := fun L => [.agg [zci L l], zci L m]) rfl rfl (by kernel_rfl) (by kernel_rfl) rfl zah (za9 ⟨yik, zp9, trivial⟩) (by kernel_rfl) ?_
 intro L P' Q' hL hP hQ
 have hz : l.length <= 1000000 := hz
 have hz2 : m.length <= 1000000 := hz2
 obtain ⟨hE, hEo, hF, hFo, hEta, hPe, hMp, hQ0, hQo, hQ1, hQ1o, hG, hGo⟩ : zg4 L := by subst hL; exact zgx
 (cbv; try simp only [syT, true_and, and_true])
 simp only [hPe, hE, hEo, hF, hFo, hEta, hMp, hQ1, hQ1o, hQ0, hQo, hG, hGo, true_and]
 refine ⟨?_, fun h => ?_, fun h => ⟨⟨0, ?_⟩, fun i hi => ?_⟩⟩
 · subst hL; exact hz
 · subst hL; subst hQ
   have h : ine (za8 l.length) (za8 m.length) = true := h
   rw [zhx, za5, za5] at h
   rw [zbp]
   show false = decide (l = m)
   rw [decide_eq_false]
   intro e
   rw [e] at h
   exact h rfl
 · (cbv; try simp only [syT, true_and, and_true])
   subst hL
   have h : ine (za8 l.length) (za8 m.length) = false := h
   rw [zic, za5, za5] at h
   exact ⟨fun _ _ _ _ => trivial, fun _ _ _ _ => trivial, fun _ _ _ _ => trivial, rfl, Nat.zero_le _, Int.ofNat.inj h, fun j hj => by omega⟩
 · have hi2 : isN9 l m i := by
     have h := hi
     rw [hL] at h
     exact h
   clear hi
   obtain ⟨i1, i2, i3⟩ := hi2
   obtain ⟨i', hi'⟩ : ∃ i', i' = i + 1 := ⟨_, rfl⟩
   (cbv; try simp only [syT, true_and, and_true])
   simp only [hPe, hE, hEo, hF, hFo, hEta, hMp, hQ1, hQ1o, hQ0, hQo, hG, hGo, true_and]
   have hin : L (L ilt (L za8 i)) (L za8 (L zkn l)) = true -> i < l.length := by
     intro h
     rw [hL] at h
     have h : ilt (za8 i) (za8 l.length) = true := h
     rw [zc6, za5, za5] at h
     omega
   refine ⟨fun hlt => ⟨?_, ?_, fun hq => ?_, fun hq => ⟨?_, fun hg => ?_, fun hg => ⟨i', ?_⟩⟩⟩, fun hge => ?_⟩
   · have hi := hin hlt
     subst hL
     show inR (za8 i) (za8 l.length) = true
     rw [zfn, za5, za5]; omega
   · have hi := hin hlt
     subst hL
     show inR (za8 i) (za8 m.length) = true
     rw [zfn, za5, za5]; omega
   · have hi := hin hlt
     subst hL; subst hQ
     have hq2 : (!decide (zak l i = zak m i)) = true := (congrArg not (zte (zak l i) (zak m i))).symm.trans hq
     rw [zbp]
     show false = decide (l = m)
     rw [decide_eq_false]
     intro e
     rw [e] at hq2
     simp at hq2
   · have hi := hin hlt
     subst hL
     refine ⟨hz, hok, ?_⟩
     show zi0 (zak l i).p
     rw [zd2 hi]
     exact (hok.ok _ (List.getElem_mem hi)).1
   · have hi := hin hlt
     subst hL
     have hg2 : (!decide (zcy l (zak l i).p = zak l i)) = true := (congrArg not (zte (zcy l (zak l i).p) (zak l i))).symm.trans hg
     have e : zcy l (zak l i).p = zak l i := by
       rw [zd2 hi]
       exact yof hok (List.getElem_mem hi)
     rw [e] at hg2
     simp at hg2
   · have hi := hin hlt
     (cbv; try simp only [syT, true_and, and_true])
     subst hL
     have hq2 : (!decide (zak l i = zak m i)) = false := (congrArg not (zte (zak l i) (zak m i))).symm.trans hq
     have hq3 : zak l i = zak m i := by simpa using hq2
     refine ⟨fun _ _ _ _ => trivial, fun _ _ _ _ => trivial, fun _ _ _ _ => trivial, ?_, ⟨?_, i2, fun j hj => ?_⟩, ?_⟩
     · show zcc .i64 (za8 i) 1 = za8 i'
       unfold zcc za8
       rw [zct]; omega
     · omega
     · by_cases h : j = i
       · rw [h]; exact hq3
       · exact i3 j (by omega)
     · show l.length - i' < l.length - i
       omega
   · subst hL; subst hQ
     have hge : ilt (za8 i) (za8 l.length) = false := hge
     rw [ze4, za5, za5] at hge
     rw [zbp]
     show true = decide (l = m)
     symm
     apply decide_eq_true
     apply List.ext_getElem i2
     intro j h1 h2
     rw [<- zd2 h1, <- zd2 h2]
     exact i3 j (by omega)
structure Nd where
 k : Int
 n : Int
 s : List UInt8
 b : List UInt8
def yuk (l : List Nd) (i : Nat) : Nd := l.getD i ⟨0, 0, [], []⟩
def ypq {α : Type} (all : List α) : List UInt8 -> List α
 | [] => []
 | x :: b => if h : x.toNat < all.length then all[all.length - 1 - x.toNat] :: ypq all b else ypq all b
def sumI : List Int -> Int
 | [] => 0
 | x :: l => x + sumI l
def sizN (all : List Int) (d : Nd) : Int := 1 + ((d.s.length / 8 : Nat) : Int) + sumI (ypq all d.b)
def yly (l : List Nd) : Nat -> List Int
 | 0 => []
 | i + 1 => yly l i ++ [sizN (yly l i) (yuk l i)]
def sizD (l : List Nd) (i : Nat) : Int := sizN (yly l i) (yuk l i)
def yj9 (l : List Nd) (i : Nat) : Prop := sizD l i <= 2000 /\ (yuk l i).s.length <= 9000 /\ (yuk l i).b.length <= 20 /\ l.length <= 40
def yky (l : List Nd) (i : Nat) : Prop := ∀ j, j < i -> yj9 l j
instance (l : List Nd) (i : Nat) : Decidable (yj9 l i) := by unfold yj9; exact inferInstance
instance (l : List Nd) (i : Nat) : Decidable (yky l i) := by unfold yky; exact Nat.decidableBallLT i fun j _ => yj9 l j
theorem yji (a : List CV) (v : CV) {p j : Nat} (hp : p < a.length + 1) (hj : j < 4) :
   zhv std (zbo p a.length) (cv1 std (zae a p) j) (zby .dead [.int .i64 v.kd, .int .u64 v.nn, .str v.tx, .lst 4 (zfa v) (zgq v)] ((p - a.length) * 4 + j)) = cv1 std (zae (a ++ [v]) p) j := by
 by_cases h : p < a.length
 · have e : zae (a ++ [v]) p = zae a p := by
     rw [zae, zae, List.getD_eq_getElem?_getD, List.getD_eq_getElem?_getD, List.getElem?_append_left h]
   rw [zms h, e, show p - a.length = 0 by omega, Nat.zero_mul, Nat.zero_add]
   match j, hj with
   | 0, _ => rfl
   | 1, _ => rfl
   | 2, _ => rfl
   | 3, _ => rfl
 · have e : zae (a ++ [v]) p = v := by
     have : p = a.length := by omega
     subst this
     rw [zae, List.getD_eq_getElem?_getD, List.getElem?_append_right (Nat.le_refl _)]
     simp
   rw [zq1 h, e, show p - a.length = 0 by omega, Nat.zero_mul, Nat.zero_add]
   match j, hj with
   | 0, _ => rfl
   | 1, _ => rfl
   | 2, _ => rfl
   | 3, _ => rfl
theorem zmp : ∀ (a : List CV) (p j : Nat), a.length <= p -> zf1 a p j = dflC j
 | [], p, j, _ => by rw [zf1]
 | v :: a, 0, j, h => by simp at h
 | v :: a, p + 1, j, h => by rw [zf1]; exact zmp a p j (by simpa using h)
theorem zgp (a : List CV) (v : CV) {p j : Nat} (hp : p < a.length + 1) (hj : j < 4) :
   zhv std (zbo p a.length) (zf1 a p j) (zby .dead [.int .i64 v.kd, .int .u64 v.nn, .str v.tx, .lst 4 (zfa v) (zgq v)] ((p - a.length) * 4 + j)) = zf1 (a ++ [v]) p j := by
 rw [zb4 (a ++ [v]) p j (by simpa using hp), <- zfo _ j hj, <- yji a v hp hj]
 by_cases h : p < a.length
 · rw [zb4 a p j h, <- zfo _ j hj]
 · rw [zq1 h, zmp a p j (by omega)]
   have : p - a.length = 0 := by omega
   rw [this, Nat.zero_mul, Nat.zero_add]
   match j, hj with
   | 0, _ => rfl
   | 1, _ => rfl
   | 2, _ => rfl
   | 3, _ => rfl
structure Lv where
 left : Int
 l : List CV
structure NR where
 v : CV
 r : List UInt8
 e : Int
structure NX where
 st : List Lv
 s : List UInt8
 f : Nat
 v : CV
def zbu (e : Int) : NR := ⟨.mk 0 0 [] [], [], e⟩
def zbn (val : List Lv -> List UInt8 -> NR) : List Lv -> CV -> List UInt8 -> NR
 | [], v, s => ⟨v, s, 0⟩
 | a :: st, v, s => if a.left - 1 = 0 then zbn val st (.mk 3 0 [] (a.l ++ [v])) s else val (⟨a.left - 1, a.l ++ [v]⟩ :: st) s
def zbz (val : List Lv -> List UInt8 -> NR) : List Lv -> List UInt8 -> NR
 | [], s => zbu 0
 | a :: st, s => if a.left = 0 then zbn val st (.mk 3 0 [] a.l) s else val (a :: st) s
def za3 (s : List UInt8) : List UInt8 := (s.drop 1).drop (ze2 (s.drop 1)).toNat
def zaw : Nat -> List Lv -> List UInt8 -> NR
 | 0, _, _ => zbu 0
 | f + 1, st, s =>
   if s = [] then zbu 3
   else if cb s 0 < 1 \/ 3 < cb s 0 then zbu 10
   else if zdj (s.drop 1) ≠ 0 then zbu (zdj (s.drop 1))
   else if cb s 0 = 1 then zbn (zaw f) st (.mk 1 (zb2 (s.drop 1)) [] []) (za3 s)
   else if cb s 0 = 2 then
     if ((za3 s).length : Int) < zb2 (s.drop 1) then zbu 3
     else zbn (zaw f) st (.mk 2 0 ((za3 s).take (zb2 (s.drop 1)).toNat) []) ((za3 s).drop (zb2 (s.drop 1)).toNat)
   else if st.length = 6 then zbu 8
   else zbz (zaw f) (⟨zb2 (s.drop 1), []⟩ :: st) (za3 s)
def zb6 (s : List UInt8) : NR := if 8192 < s.length then zbu 5 else zaw (s.length + 1) [] s
def zim : List Lv -> Nat
 | [] => 0
 | a :: r => a.l.length + 1 + zim r
def yvz (st : List Lv) : Prop := ∀ a ∈ st, 1 <= a.left /\ a.left < 18446744073709551616
def zyg (s0 : List UInt8) (x : NX) : Prop := x.st.length <= 6 /\ yvz x.st /\ x.s.length < x.f /\ x.s.length + zim x.st <= 8192 /\ zaw x.f x.st x.s = zb6 s0
def ztb (s0 : List UInt8) (x : NX) : Prop := x.st.length <= 6 /\ (∃ a r, x.st = a :: r /\ 0 <= a.left /\ a.left < 18446744073709551616 /\ yvz r) /\ x.s.length < x.f /\ x.s.length + zim x.st <= 8192 /\ zbz (zaw x.f) x.st x.s = zb6 s0
def zyf (s0 : List UInt8) (x : NX) : Prop := x.st.length <= 6 /\ yvz x.st /\ x.s.length < x.f /\ x.s.length + zim x.st + 1 <= 8192 /\ zbn (zaw x.f) x.st x.v x.s = zb6 s0
def nMu (c : Nat) (x : NX) : Nat := 20 * x.s.length + 3 * x.st.length + c
theorem zcg (s : List UInt8) : (((s.getD 0 0).toNat : Int) + 9223372036854775808) % 18446744073709551616 - 9223372036854775808 = (cb s 0 : Int) := by
 have := zz0 s 0
 unfold cb at *
 omega
theorem zaj (s : List UInt8) : s.drop ((1 + ze2 (s.drop 1) + 9223372036854775808) % 18446744073709551616 - 9223372036854775808).toNat = za3 s /\ (1 + ze2 (s.drop 1) + 9223372036854775808) % 18446744073709551616 - 9223372036854775808 = 1 + ze2 (s.drop 1) := by
 have := ycw (s.drop 1)
 have e : (1 + ze2 (s.drop 1) + 9223372036854775808) % 18446744073709551616 - 9223372036854775808 = 1 + ze2 (s.drop 1) := by omega
 rw [e]
 refine ⟨?_, rfl⟩
 unfold za3
 rw [List.drop_drop]
 congr 1
theorem zgc {s : List UInt8} (h0 : ¬ s = []) (h : zdj (s.drop 1) = 0) : (za3 s).length + 2 <= s.length /\ 1 + ze2 (s.drop 1) <= (s.length : Int) := by
 have h1 := zgk h
 have : 0 < s.length := List.length_pos_iff.2 h0
 have hl : (s.drop 1).length = s.length - 1 := List.length_drop
 unfold za3
 rw [List.length_drop]
 omega
theorem zb7 {s0 : List UInt8} {e : Int} (h : zb6 s0 = zbu e) : zed (.tup [cvA std (zb6 s0).v, .str (zb6 s0).r, .int .i64 (zb6 s0).e]) (.tup [.agg [.int .i64 0, .int .u64 0, .str [], .nils], .str [], .int .i64 e]) := by
 rw [h]
 show zed (.tup [.agg [.int .i64 0, .int .u64 0, .str [], .lst 4 0 (zgq (.mk 0 0 [] []))], .str [], .int .i64 e]) _
 simp [sySet]
theorem yn6 {s0 : List UInt8} {v : CV} {s : List UInt8} (h : zb6 s0 = ⟨v, s, 0⟩) : zed (.tup [cvA std (zb6 s0).v, .str (zb6 s0).r, .int .i64 (zb6 s0).e]) (.tup [.agg [.int .i64 v.kd, .int .u64 v.nn, .str v.tx, .lst 4 (zfa v) (zgq v)], .str s, .int .i64 0]) := by
 rw [h]
 show zed (.tup [.agg [.int .i64 v.kd, .int .u64 v.nn, .str v.tx, .lst 4 (zfa v) (zgq v)], .str s, .int .i64 0]) _
 simp [sySet]
section
variable {s0 s : List UInt8} {st : List Lv} {f : Nat} {v : CV}
theorem zqt (h : zyg s0 ⟨st, s, f, v⟩) : zb6 s0 =
   if s = [] then zbu 3
   else if cb s 0 < 1 \/ 3 < cb s 0 then zbu 10
   else if zdj (s.drop 1) ≠ 0 then zbu (zdj (s.drop 1))
   else if cb s 0 = 1 then zbn (zaw (f - 1)) st (.mk 1 (zb2 (s.drop 1)) [] []) (za3 s)
   else if cb s 0 = 2 then
     if ((za3 s).length : Int) < zb2 (s.drop 1) then zbu 3
     else zbn (zaw (f - 1)) st (.mk 2 0 ((za3 s).take (zb2 (s.drop 1)).toNat) []) ((za3 s).drop (zb2 (s.drop 1)).toNat)
   else if st.length = 6 then zbu 8
   else zbz (zaw (f - 1)) (⟨zb2 (s.drop 1), []⟩ :: st) (za3 s) := by
 obtain ⟨_, _, h3, _, h5⟩ := h
 simp only at h3 h5
 rw [<- h5]
 obtain ⟨g, rfl⟩ : ∃ g, f = g + 1 := ⟨f - 1, by omega⟩
 rw [zaw]
 rfl
variable (h : zyg s0 ⟨st, s, f, v⟩)
include h
theorem yn4 (h1 : s = []) : zb6 s0 = zbu 3 := by rw [zqt h, if_pos h1]
theorem zvi (h1 : ¬ s = []) (h2 : (cb s 0 : Int) < 1 \/ 3 < (cb s 0 : Int)) : zb6 s0 = zbu 10 := by rw [zqt h, if_neg h1, if_pos (by omega)]
theorem yn3 (h1 : ¬ s = []) (h2 : 1 <= (cb s 0 : Int)) (h3 : (cb s 0 : Int) <= 3) (h4 : ¬ zdj (s.drop 1) = 0) : zb6 s0 = zbu (zdj (s.drop 1)) := by rw [zqt h, if_neg h1, if_neg (by omega), if_pos h4]
omit h in
theorem zt7 (h1 : ¬ s = []) (h4 : zdj (s.drop 1) = 0) : 0 <= 1 + ze2 (s.drop 1) /\ 1 + ze2 (s.drop 1) <= (s.length : Int) := by
 have := zgk h4
 exact ⟨by omega, (zgc h1 h4).2⟩
theorem yn2 (h1 : ¬ s = []) (h4 : zdj (s.drop 1) = 0) (h5 : (cb s 0 : Int) = 1) : zyf s0 ⟨st, za3 s, f - 1, .mk 1 (zb2 (s.drop 1)) [] []⟩ /\ 20 * (za3 s).length + 3 * st.length + 2 + 1 <= 20 * s.length + 3 * st.length + 0 := by
 have e := zqt h
 rw [if_neg h1, if_neg (by omega), if_neg (by simpa using h4), if_pos (by omega)] at e
 obtain ⟨a1, a2, a3, a4, a5⟩ := h
 have hr := zgc h1 h4
 simp only at a1 a2 a3 a4
 exact ⟨⟨a1, a2, by show (za3 s).length < f - 1; omega, by show (za3 s).length + zim st + 1 <= 8192; omega, e.symm⟩, by omega⟩
theorem yn1 (h1 : ¬ s = []) (h4 : zdj (s.drop 1) = 0) (h6 : (cb s 0 : Int) = 2) (h7 : ((za3 s).length : Int) % 18446744073709551616 < zb2 (s.drop 1)) : zb6 s0 = zbu 3 := by
 have e := zqt h
 obtain ⟨a1, a2, a3, a4, a5⟩ := h
 have hr := zgc h1 h4
 simp only at a4
 rw [if_neg h1, if_neg (by omega), if_neg (by simpa using h4), if_neg (by omega), if_pos (by omega), if_pos (by omega)] at e
 exact e
theorem zvh (h1 : ¬ s = []) (h4 : zdj (s.drop 1) = 0) (h7 : zb2 (s.drop 1) <= ((za3 s).length : Int) % 18446744073709551616) : 0 <= zb2 (s.drop 1) /\ zb2 (s.drop 1) <= ((za3 s).length : Int) := by
 obtain ⟨a1, a2, a3, a4, a5⟩ := h
 have hr := zgc h1 h4
 have := zgk h4
 simp only at a4
 omega
theorem yn0 (h1 : ¬ s = []) (h4 : zdj (s.drop 1) = 0) (h6 : (cb s 0 : Int) = 2) (h7 : zb2 (s.drop 1) <= ((za3 s).length : Int) % 18446744073709551616) :
   zyf s0 ⟨st, (za3 s).drop (zb2 (s.drop 1)).toNat, f - 1, .mk 2 0 ((za3 s).take (zb2 (s.drop 1)).toNat) []⟩ /\ 20 * ((za3 s).drop (zb2 (s.drop 1)).toNat).length + 3 * st.length + 2 + 1 <= 20 * s.length + 3 * st.length + 0 := by
 have e := zqt h
 obtain ⟨a1, a2, a3, a4, a5⟩ := h
 have hr := zgc h1 h4
 simp only at a1 a2 a3 a4
 rw [if_neg h1, if_neg (by omega), if_neg (by simpa using h4), if_neg (by omega), if_pos (by omega), if_neg (by omega)] at e
 have hl : ((za3 s).drop (zb2 (s.drop 1)).toNat).length <= (za3 s).length := by rw [List.length_drop]; omega
 exact ⟨⟨a1, a2, by show ((za3 s).drop (zb2 (s.drop 1)).toNat).length < f - 1; omega, by show ((za3 s).drop (zb2 (s.drop 1)).toNat).length + zim st + 1 <= 8192; omega, e.symm⟩, by omega⟩
theorem nx_7 (h1 : ¬ s = []) (h4 : zdj (s.drop 1) = 0) (h7 : (cb s 0 : Int) = 3) (h8 : st.length = 6) : zb6 s0 = zbu 8 := by
 have e := zqt h
 rw [if_neg h1, if_neg (by omega), if_neg (by simpa using h4), if_neg (by omega), if_neg (by omega), if_pos h8] at e
 exact e
theorem nx_8 (h1 : ¬ s = []) (h4 : zdj (s.drop 1) = 0) (h7 : (cb s 0 : Int) = 3) (h8 : ¬ st.length = 6) : ztb s0 ⟨⟨zb2 (s.drop 1), []⟩ :: st, za3 s, f - 1, v⟩ /\ 20 * (za3 s).length + 3 * (st.length + 1) + 1 + 1 <= 20 * s.length + 3 * st.length + 0 := by
 have e := zqt h
 rw [if_neg h1, if_neg (by omega), if_neg (by simpa using h4), if_neg (by omega), if_neg (by omega), if_neg h8] at e
 obtain ⟨a1, a2, a3, a4, a5⟩ := h
 have hr := zgc h1 h4
 have hn := zgk h4
 simp only at a1 a2 a3 a4
 refine ⟨⟨by show st.length + 1 <= 6; omega, ⟨_, _, rfl, hn.2.2.1, hn.2.2.2, a2⟩, by show (za3 s).length < f - 1; omega, ?_, e.symm⟩, by omega⟩
 show (za3 s).length + (0 + 1 + zim st) <= 8192
 omega
end
section
variable {s0 s : List UInt8} {st : List Lv} {f : Nat} {v : CV} {a : Lv}
theorem nd_0 (h : zyf s0 ⟨[], s, f, v⟩) : zb6 s0 = ⟨v, s, 0⟩ := h.2.2.2.2.symm
theorem zkz (h : zyf s0 ⟨a :: st, s, f, v⟩) : ztb s0 ⟨⟨a.left - 1, a.l ++ [v]⟩ :: st, s, f, v⟩ /\ a.l.length <= 8192 /\ 1 <= a.left /\ a.left < 18446744073709551616 /\ 20 * s.length + 3 * (st.length + 1) + 1 + 1 <= 20 * s.length + 3 * (st.length + 1) + 2 := by
 obtain ⟨a1, a2, a3, a4, a5⟩ := h
 simp only at a1 a2 a3 a4 a5
 have h1 := a2 a (by simp)
 have e4 : zim (a :: st) = a.l.length + 1 + zim st := rfl
 refine ⟨⟨a1, ⟨_, _, rfl, by show 0 <= a.left - 1; omega, by show a.left - 1 < _; omega, fun b hb => a2 b (by simp [hb])⟩, a3, ?_, ?_⟩, by omega, h1.1, h1.2, by omega⟩
 · show s.length + ((a.l ++ [v]).length + 1 + zim st) <= 8192
   rw [List.length_append, List.length_singleton]
   omega
 · rw [<- a5]; rfl
theorem yq3 (h : ztb s0 ⟨a :: st, s, f, v⟩) (h0 : a.left = 0) : zyf s0 ⟨st, s, f, .mk 3 0 [] a.l⟩ /\ 20 * s.length + 3 * st.length + 2 + 1 <= 20 * s.length + 3 * (st.length + 1) + 1 := by
 obtain ⟨a1, ⟨b, r, e1, b1, b2, b3⟩, a3, a4, a5⟩ := h
 simp only at a1 a3 a4 a5 e1
 cases e1
 have e4 : zim (a :: st) = a.l.length + 1 + zim st := rfl
 have e5 : (a :: st).length = st.length + 1 := rfl
 refine ⟨⟨by show st.length <= 6; omega, b3, a3, by show s.length + zim st + 1 <= 8192; omega, ?_⟩, by omega⟩
 rw [<- a5, zbz, if_pos h0]
theorem yq2 (h : ztb s0 ⟨a :: st, s, f, v⟩) (h0 : ¬ a.left = 0) : zyg s0 ⟨a :: st, s, f, v⟩ := by
 obtain ⟨a1, ⟨b, r, e1, b1, b2, b3⟩, a3, a4, a5⟩ := h
 simp only at a1 a3 a4 a5 e1
 cases e1
 refine ⟨a1, fun c hc => ?_, a3, a4, ?_⟩
 · rcases List.mem_cons.1 hc with rfl | hc
   · exact ⟨by omega, b2⟩
   · exact b3 c hc
 · rw [<- a5, zbz, if_neg h0]
end
theorem nm_1 (s0 : List UInt8) (h : ¬ 8192 < (s0.length : Int)) (v : CV) : zyg s0 ⟨[], s0, s0.length + 1, v⟩ := by
 refine ⟨by simp, fun a ha => by simp at ha, by simp, by simp [zim]; omega, ?_⟩
 unfold zb6
 rw [if_neg (by omega)]
theorem nm_0 (s0 : List UInt8) (h : 8192 < (s0.length : Int)) : zb6 s0 = zbu 5 := by
 unfold zb6
 rw [if_pos (by omega)]
theorem yq1 {s0 s : List UInt8} {st : List Lv} {f f1 : Nat} {v : CV} {a1 : Lv} {s1 : List UInt8} (hx : zyg s0 ⟨st, s, f, v⟩) (h1 : ¬ s = []) (h4 : zdj (s.drop 1) = 0) (h7 : (cb s 0 : Int) = 3) (h8 : ¬ st.length = 6)
   (ha1 : a1 = ⟨zb2 (s.drop 1), []⟩) (hs1 : s1 = za3 s) (hf1 : f1 = f - 1) : 0 = lenL a1.l /\ 0 = lenL a1.l /\ zb2 (s.drop 1) = a1.left /\ za3 s = s1 /\ ztb s0 ⟨a1 :: st, s1, f1, v⟩ /\ nMu 1 ⟨a1 :: st, s1, f1, v⟩ + 1 <= nMu 0 ⟨st, s, f, v⟩ := by
 obtain ⟨q1, q2⟩ := nx_8 hx h1 h4 h7 h8
 subst ha1 hs1 hf1
 exact ⟨rfl, rfl, rfl, rfl, q1, q2⟩
theorem zhu (a : List CV) (v : CV) {p j : Nat} (hp : p < a.length + 1) (hj : j < 4) :
   over std a.length 0 4 [.int .i64 v.kd, .int .u64 v.nn, .str v.tx, .lst 4 (zfa v) (zgq v)] (fun i j => zhv std (zbo i a.length) (zf1 a i j) (zby .dead [.int .i64 0, .int .u64 0, .str [], .nils] ((i - a.length) * 4 + j))) p j = zf1 (a ++ [v]) p j := by
 rw [<- zgp a v hp hj, zgf, if_pos ⟨Nat.zero_le _, by omega⟩, Nat.sub_zero]
 have e0 : p - a.length = 0 := by omega
 rw [e0, Nat.zero_mul, Nat.zero_add]
 by_cases h : p < a.length
 · rw [zms h, zaq (show p ≠ a.length by omega), zb4 a p j h, <- zfo _ j hj]
   match j, hj with
   | 0, _ => rfl
   | 1, _ => rfl
   | 2, _ => rfl
   | 3, _ => rfl
 · rw [zq1 h, show zav p a.length = true by rw [show p = a.length by omega, za6], zmp a p j (by omega)]
   match j, hj with
   | 0, _ => rfl
   | 1, _ => rfl
   | 2, _ => rfl
   | 3, _ => rfl
theorem zeg {a : Lv} (h : a.l.length <= 8192) : (lenL a.l + 1) * 56 <= 140737488355328 /\ lenL a.l + 1 <= 9223372036854775807 := by
 have : lenL a.l = a.l.length := rfl
 omega
theorem zyd (n : Nat) : 0 <= (n : Int) /\ (n : Int) < ((n.add 1 : Nat) : Int) := by
 have : n.add 1 = n + 1 := rfl
 omega
def zsn (L : zaa) : List Lv -> List AV
 | [] => []
 | a :: r => zc5 (zsn L r) [.int .u64 (L Lv.left a), .sl (911 + ze7 r) 4 0 (L lenL (L Lv.l a))]
def ya4 (L : zaa) : List Lv -> List (Nat × Ob)
 | [] => []
 | a :: r => (911 + ze7 r, .row 66 4 (L lenL (L Lv.l a)) (L zf1 (L Lv.l a))) :: ya4 L r
def stV : List Lv -> AV
 | [] => .nils
 | _ :: r => .sl 910 2 0 (ze7 r + 1)
def stOs (L : zaa) : List Lv -> List (Nat × Ob)
 | [] => []
 | a :: r => (910, .spr 112 (zsn L (a :: r))) :: ya4 L (a :: r)
def yt9 : Nat × Ob := (6, .box 66 [.dead, .dead, .dead, .dead])
def yvw (L : zaa) (s0 : List UInt8) : Nat -> St -> Option Ann := fun id _ => match id with
 | 1 => some ⟨NX, fun x => [(0, .str (L NX.s x)), (6, .ref 6 0), (5, stV x.st)], fun x => yt9 :: stOs L x.st, [2], [2],
     fun x => L2 L zyg s0 x, fun x => L (nMu 0) x⟩
 | 2 => some ⟨NX, fun x => [(0, .str (L NX.s x)), (6, .ref 6 0), (5, stV x.st)], fun x => yt9 :: stOs L x.st, [2], [2],
     fun x => L2 L ztb s0 x, fun x => L (nMu 1) x⟩
 | 3 => some ⟨NX, fun x => [(0, .str (L NX.s x)), (6, .ref 6 0), (5, .sl 910 2 0 (ze7 x.st))],
     fun x => (6, .box 66 [.int .i64 (L CV.kd (L NX.v x)), .int .u64 (L CV.nn (L NX.v x)), .str (L CV.tx (L NX.v x)), .sl 909 4 0 (L zfa (L NX.v x))]) ::
       (909, .row 66 4 (L zfa (L NX.v x)) (L zgq (L NX.v x))) :: (910, .spr 112 (zsn L x.st)) :: ya4 L x.st, [2], [2],
     fun x => L2 L zyf s0 x, fun x => L (nMu 2) x⟩
 | _ => none
def nrA (L : zaa) (r : NR) : AV := .tup [cvA L (L NR.v r), .str (L NR.r r), .int .i64 (L NR.e r)]
def ycf (L : zaa) : zcl := (47, fun xs => match xs with | [.str s] => some (True, nrA L (L zb6 s)) | _ => none)
set_option maxHeartbeats 4000000 in
theorem ycg : zcs Tryz.prog (ycf std) := by
 intro xs p r h hp
 dsimp only [ycf] at h |-
 split at h <;> cases h
 try simp only [L2, L3, std] at hp |-
 rename_i s0
 refine zab (T := tt) (S := fun L => zbi [yi6 L]) (lo := noA) (lb := fun L => yvw L s0) 5 (fn := Tryz.f47) rfl rfl (by kernel_rfl) (by kernel_rfl) rfl zah (za9 ⟨zw6, trivial⟩) (by kernel_rfl) ?_
 intro L P' Q' hL hP hQ
 (cbv; try simp only [syT, true_and, and_true])
 refine ⟨fun x hx => ?_, fun x hx => ?_, fun x hx => ?_, ?_⟩
 · obtain ⟨st, s, f, v⟩ := x
   cbv at hx
   match st, hx with
   | [], hx =>
     (cbv; try simp only [syT, true_and, and_true])
     obtain ⟨s1, hs1⟩ : ∃ s1, s1 = za3 s := ⟨_, rfl⟩
     obtain ⟨s2, hs2⟩ : ∃ s2, s2 = (za3 s).drop (zb2 (s.drop 1)).toNat := ⟨_, rfl⟩
     obtain ⟨v1, hv1⟩ : ∃ v1, v1 = CV.mk 1 (zb2 (s.drop 1)) [] [] := ⟨_, rfl⟩
     obtain ⟨v2, hv2⟩ : ∃ v2, v2 = CV.mk 2 0 ((za3 s).take (zb2 (s.drop 1)).toNat) [] := ⟨_, rfl⟩
     obtain ⟨a1, ha1⟩ : ∃ a1, a1 = Lv.mk (zb2 (s.drop 1)) [] := ⟨_, rfl⟩
     obtain ⟨f1, hf1⟩ : ∃ f1, f1 = f - 1 := ⟨_, rfl⟩
     refine ⟨fun h1 => ?_, fun h1 => ⟨?_, fun h2 => ?_, fun h2 => ⟨fun h3 => ?_, fun h3 => ⟨?_, fun h4 => ?_, fun h4 => ⟨?_, fun h5 => ⟨⟨[], s1, f1, v1⟩, ?_⟩, fun h5 => ⟨fun h6 => ⟨fun h7 => ?_, fun h7 => ⟨?_, ?_, ⟨[], s2, f1, v2⟩, ?_⟩⟩, fun h6 => ⟨fun h7 => ⟨fun h8 => ?_, fun h8 => ⟨?_, ⟨[a1], s1, f1, v⟩, ?_⟩⟩, fun h7 => ?_⟩⟩⟩⟩⟩⟩⟩
     · (subst hL; subst hQ; simp only [L2, L3, std] at *; try simp only [syS, reduceCtorEq, Int.reduceToNat, Int.reduceAdd, Int.reduceSub] at *)
       exact zb7 (yn4 hx h1)
     · (subst hL; subst hQ; simp only [L2, L3, std] at *; try simp only [syS, reduceCtorEq, Int.reduceToNat, Int.reduceAdd, Int.reduceSub] at *)
       have := List.length_pos_iff.2 h1
       omega
     · (subst hL; subst hQ; simp only [L2, L3, std] at *; try simp only [syS, reduceCtorEq, Int.reduceToNat, Int.reduceAdd, Int.reduceSub] at *)
       rw [zcg] at h2
       exact zb7 (zvi hx h1 (.inl h2))
     · (subst hL; subst hQ; simp only [L2, L3, std] at *; try simp only [syS, reduceCtorEq, Int.reduceToNat, Int.reduceAdd, Int.reduceSub] at *)
       rw [zcg] at h3
       exact zb7 (zvi hx h1 (.inr h3))
     · (subst hL; subst hQ; simp only [L2, L3, std] at *; try simp only [syS, reduceCtorEq, Int.reduceToNat, Int.reduceAdd, Int.reduceSub] at *)
       have := List.length_pos_iff.2 h1
       omega
     · (subst hL; subst hQ; simp only [L2, L3, std] at *; try simp only [syS, reduceCtorEq, Int.reduceToNat, Int.reduceAdd, Int.reduceSub] at *)
       rw [zcg] at h2 h3
       exact zb7 (yn3 hx h1 h2 h3 h4)
     · (subst hL; subst hQ; simp only [L2, L3, std] at *; try simp only [syS, reduceCtorEq, Int.reduceToNat, Int.reduceAdd, Int.reduceSub] at *)
       rw [(zaj s).2]
       exact zt7 h1 h4
     · (cbv; try simp only [syT, true_and, and_true])
       (subst hL; subst hQ; simp only [L2, L3, std] at *; try simp only [syS, reduceCtorEq, Int.reduceToNat, Int.reduceAdd, Int.reduceSub] at *)
       simp only [zcg, (zaj s).1] at h5 |-
       obtain ⟨q1, q2⟩ := yn2 hx h1 h4 h5
       rw [hv1, hs1, hf1]
       exact ⟨rfl, rfl, rfl, rfl, h5, rfl, q1, q2⟩
     · (subst hL; subst hQ; simp only [L2, L3, std] at *; try simp only [syS, reduceCtorEq, Int.reduceToNat, Int.reduceAdd, Int.reduceSub] at *)
       simp only [zcg, (zaj s).1] at h6 h7
       exact zb7 (yn1 hx h1 h4 h6 h7)
     · (subst hL; subst hQ; simp only [L2, L3, std] at *; try simp only [syS, reduceCtorEq, Int.reduceToNat, Int.reduceAdd, Int.reduceSub] at *)
       simp only [zcg, (zaj s).1] at h7 |-
       exact zvh hx h1 h4 h7
     · (subst hL; subst hQ; simp only [L2, L3, std] at *; try simp only [syS, reduceCtorEq, Int.reduceToNat, Int.reduceAdd, Int.reduceSub] at *)
       simp only [zcg, (zaj s).1] at h7 |-
       exact zvh hx h1 h4 h7
     · (cbv; try simp only [syT, true_and, and_true])
       (subst hL; subst hQ; simp only [L2, L3, std] at *; try simp only [syS, reduceCtorEq, Int.reduceToNat, Int.reduceAdd, Int.reduceSub] at *)
       simp only [zcg, (zaj s).1] at h6 h7 |-
       obtain ⟨q1, q2⟩ := yn0 hx h1 h4 h6 h7
       rw [hv2, hs2, hf1]
       exact ⟨rfl, rfl, rfl, rfl, h6, rfl, q1, q2⟩
     · (subst hL; subst hQ; simp only [L2, L3, std] at *; try simp only [syS, reduceCtorEq, Int.reduceToNat, Int.reduceAdd, Int.reduceSub] at *)
       simp only [zcg] at h7
       exact absurd h8 (by decide)
     · (subst hL; subst hQ; simp only [L2, L3, std] at *; try simp only [syS, reduceCtorEq, Int.reduceToNat, Int.reduceAdd, Int.reduceSub] at *)
       omega
     · (cbv; try simp only [syT, true_and, and_true])
       (subst hL; subst hQ; simp only [L2, L3, std] at *; try simp only [syS, reduceCtorEq, Int.reduceToNat, Int.reduceAdd, Int.reduceSub] at *)
       simp only [zcg, (zaj s).1] at h7 |-; obtain ⟨q1, q2, q3, q4⟩ := yq1 hx h1 h4 h7 (by decide) ha1 hs1 hf1; exact ⟨q1, q2, congrArg _ q3, q4⟩
     · (subst hL; subst hQ; simp only [L2, L3, std] at *; try simp only [syS, reduceCtorEq, Int.reduceToNat, Int.reduceAdd, Int.reduceSub] at *)
       simp only [zcg] at h2 h3 h5 h6 h7
       omega
   | [a], hx =>
     (cbv; try simp only [syT, true_and, and_true])
     obtain ⟨s1, hs1⟩ : ∃ s1, s1 = za3 s := ⟨_, rfl⟩
     obtain ⟨s2, hs2⟩ : ∃ s2, s2 = (za3 s).drop (zb2 (s.drop 1)).toNat := ⟨_, rfl⟩
     obtain ⟨v1, hv1⟩ : ∃ v1, v1 = CV.mk 1 (zb2 (s.drop 1)) [] [] := ⟨_, rfl⟩
     obtain ⟨v2, hv2⟩ : ∃ v2, v2 = CV.mk 2 0 ((za3 s).take (zb2 (s.drop 1)).toNat) [] := ⟨_, rfl⟩
     obtain ⟨a1, ha1⟩ : ∃ a1, a1 = Lv.mk (zb2 (s.drop 1)) [] := ⟨_, rfl⟩
     obtain ⟨f1, hf1⟩ : ∃ f1, f1 = f - 1 := ⟨_, rfl⟩
     refine ⟨fun h1 => ?_, fun h1 => ⟨?_, fun h2 => ?_, fun h2 => ⟨fun h3 => ?_, fun h3 => ⟨?_, fun h4 => ?_, fun h4 => ⟨?_, fun h5 => ⟨⟨[a], s1, f1, v1⟩, ?_⟩, fun h5 => ⟨fun h6 => ⟨fun h7 => ?_, fun h7 => ⟨?_, ?_, ⟨[a], s2, f1, v2⟩, ?_⟩⟩, fun h6 => ⟨fun h7 => ⟨fun h8 => ?_, fun h8 => ⟨?_, ⟨[a1, a], s1, f1, v⟩, ?_⟩⟩, fun h7 => ?_⟩⟩⟩⟩⟩⟩⟩
     · (subst hL; subst hQ; simp only [L2, L3, std] at *; try simp only [syS, reduceCtorEq, Int.reduceToNat, Int.reduceAdd, Int.reduceSub] at *)
       exact zb7 (yn4 hx h1)
     · (subst hL; subst hQ; simp only [L2, L3, std] at *; try simp only [syS, reduceCtorEq, Int.reduceToNat, Int.reduceAdd, Int.reduceSub] at *)
       have := List.length_pos_iff.2 h1
       omega
     · (subst hL; subst hQ; simp only [L2, L3, std] at *; try simp only [syS, reduceCtorEq, Int.reduceToNat, Int.reduceAdd, Int.reduceSub] at *)
       rw [zcg] at h2
       exact zb7 (zvi hx h1 (.inl h2))
     · (subst hL; subst hQ; simp only [L2, L3, std] at *; try simp only [syS, reduceCtorEq, Int.reduceToNat, Int.reduceAdd, Int.reduceSub] at *)
       rw [zcg] at h3
       exact zb7 (zvi hx h1 (.inr h3))
     · (subst hL; subst hQ; simp only [L2, L3, std] at *; try simp only [syS, reduceCtorEq, Int.reduceToNat, Int.reduceAdd, Int.reduceSub] at *)
       have := List.length_pos_iff.2 h1
       omega
     · (subst hL; subst hQ; simp only [L2, L3, std] at *; try simp only [syS, reduceCtorEq, Int.reduceToNat, Int.reduceAdd, Int.reduceSub] at *)
       rw [zcg] at h2 h3
       exact zb7 (yn3 hx h1 h2 h3 h4)
     · (subst hL; subst hQ; simp only [L2, L3, std] at *; try simp only [syS, reduceCtorEq, Int.reduceToNat, Int.reduceAdd, Int.reduceSub] at *)
       rw [(zaj s).2]
       exact zt7 h1 h4
     · (cbv; try simp only [syT, true_and, and_true])
       (subst hL; subst hQ; simp only [L2, L3, std] at *; try simp only [syS, reduceCtorEq, Int.reduceToNat, Int.reduceAdd, Int.reduceSub] at *)
       simp only [zcg, (zaj s).1] at h5 |-
       obtain ⟨q1, q2⟩ := yn2 hx h1 h4 h5
       rw [hv1, hs1, hf1]
       exact ⟨rfl, rfl, rfl, rfl, h5, rfl, q1, q2⟩
     · (subst hL; subst hQ; simp only [L2, L3, std] at *; try simp only [syS, reduceCtorEq, Int.reduceToNat, Int.reduceAdd, Int.reduceSub] at *)
       simp only [zcg, (zaj s).1] at h6 h7
       exact zb7 (yn1 hx h1 h4 h6 h7)
     · (subst hL; subst hQ; simp only [L2, L3, std] at *; try simp only [syS, reduceCtorEq, Int.reduceToNat, Int.reduceAdd, Int.reduceSub] at *)
       simp only [zcg, (zaj s).1] at h7 |-
       exact zvh hx h1 h4 h7
     · (subst hL; subst hQ; simp only [L2, L3, std] at *; try simp only [syS, reduceCtorEq, Int.reduceToNat, Int.reduceAdd, Int.reduceSub] at *)
       simp only [zcg, (zaj s).1] at h7 |-
       exact zvh hx h1 h4 h7
     · (cbv; try simp only [syT, true_and, and_true])
       (subst hL; subst hQ; simp only [L2, L3, std] at *; try simp only [syS, reduceCtorEq, Int.reduceToNat, Int.reduceAdd, Int.reduceSub] at *)
       simp only [zcg, (zaj s).1] at h6 h7 |-
       obtain ⟨q1, q2⟩ := yn0 hx h1 h4 h6 h7
       rw [hv2, hs2, hf1]
       exact ⟨rfl, rfl, rfl, rfl, h6, rfl, q1, q2⟩
     · (subst hL; subst hQ; simp only [L2, L3, std] at *; try simp only [syS, reduceCtorEq, Int.reduceToNat, Int.reduceAdd, Int.reduceSub] at *)
       simp only [zcg] at h7
       exact absurd h8 (by decide)
     · (subst hL; subst hQ; simp only [L2, L3, std] at *; try simp only [syS, reduceCtorEq, Int.reduceToNat, Int.reduceAdd, Int.reduceSub] at *)
       omega
     · (cbv; try simp only [syT, true_and, and_true])
       (subst hL; subst hQ; simp only [L2, L3, std] at *; try simp only [syS, reduceCtorEq, Int.reduceToNat, Int.reduceAdd, Int.reduceSub] at *)
       simp only [zcg, (zaj s).1] at h7 |-; exact yq1 hx h1 h4 h7 (by simp) ha1 hs1 hf1
     · (subst hL; subst hQ; simp only [L2, L3, std] at *; try simp only [syS, reduceCtorEq, Int.reduceToNat, Int.reduceAdd, Int.reduceSub] at *)
       simp only [zcg] at h2 h3 h5 h6 h7
       omega
   | [a, b], hx =>
     (cbv; try simp only [syT, true_and, and_true])
     obtain ⟨s1, hs1⟩ : ∃ s1, s1 = za3 s := ⟨_, rfl⟩
     obtain ⟨s2, hs2⟩ : ∃ s2, s2 = (za3 s).drop (zb2 (s.drop 1)).toNat := ⟨_, rfl⟩
     obtain ⟨v1, hv1⟩ : ∃ v1, v1 = CV.mk 1 (zb2 (s.drop 1)) [] [] := ⟨_, rfl⟩
     obtain ⟨v2, hv2⟩ : ∃ v2, v2 = CV.mk 2 0 ((za3 s).take (zb2 (s.drop 1)).toNat) [] := ⟨_, rfl⟩
     obtain ⟨a1, ha1⟩ : ∃ a1, a1 = Lv.mk (zb2 (s.drop 1)) [] := ⟨_, rfl⟩
     obtain ⟨f1, hf1⟩ : ∃ f1, f1 = f - 1 := ⟨_, rfl⟩
     refine ⟨fun h1 => ?_, fun h1 => ⟨?_, fun h2 => ?_, fun h2 => ⟨fun h3 => ?_, fun h3 => ⟨?_, fun h4 => ?_, fun h4 => ⟨?_, fun h5 => ⟨⟨[a, b], s1, f1, v1⟩, ?_⟩, fun h5 => ⟨fun h6 => ⟨fun h7 => ?_, fun h7 => ⟨?_, ?_, ⟨[a, b], s2, f1, v2⟩, ?_⟩⟩, fun h6 => ⟨fun h7 => ⟨fun h8 => ?_, fun h8 => ⟨?_, ⟨[a1, a, b], s1, f1, v⟩, ?_⟩⟩, fun h7 => ?_⟩⟩⟩⟩⟩⟩⟩
     · (subst hL; subst hQ; simp only [L2, L3, std] at *; try simp only [syS, reduceCtorEq, Int.reduceToNat, Int.reduceAdd, Int.reduceSub] at *)
       exact zb7 (yn4 hx h1)
     · (subst hL; subst hQ; simp only [L2, L3, std] at *; try simp only [syS, reduceCtorEq, Int.reduceToNat, Int.reduceAdd, Int.reduceSub] at *)
       have := List.length_pos_iff.2 h1
       omega
     · (subst hL; subst hQ; simp only [L2, L3, std] at *; try simp only [syS, reduceCtorEq, Int.reduceToNat, Int.reduceAdd, Int.reduceSub] at *)
       rw [zcg] at h2
       exact zb7 (zvi hx h1 (.inl h2))
     · (subst hL; subst hQ; simp only [L2, L3, std] at *; try simp only [syS, reduceCtorEq, Int.reduceToNat, Int.reduceAdd, Int.reduceSub] at *)
       rw [zcg] at h3
       exact zb7 (zvi hx h1 (.inr h3))
     · (subst hL; subst hQ; simp only [L2, L3, std] at *; try simp only [syS, reduceCtorEq, Int.reduceToNat, Int.reduceAdd, Int.reduceSub] at *)
       have := List.length_pos_iff.2 h1
       omega
     · (subst hL; subst hQ; simp only [L2, L3, std] at *; try simp only [syS, reduceCtorEq, Int.reduceToNat, Int.reduceAdd, Int.reduceSub] at *)
       rw [zcg] at h2 h3
       exact zb7 (yn3 hx h1 h2 h3 h4)
     · (subst hL; subst hQ; simp only [L2, L3, std] at *; try simp only [syS, reduceCtorEq, Int.reduceToNat, Int.reduceAdd, Int.reduceSub] at *)
       rw [(zaj s).2]
       exact zt7 h1 h4
     · (cbv; try simp only [syT, true_and, and_true])
       (subst hL; subst hQ; simp only [L2, L3, std] at *; try simp only [syS, reduceCtorEq, Int.reduceToNat, Int.reduceAdd, Int.reduceSub] at *)
       simp only [zcg, (zaj s).1] at h5 |-
       obtain ⟨q1, q2⟩ := yn2 hx h1 h4 h5
       rw [hv1, hs1, hf1]
       exact ⟨rfl, rfl, rfl, rfl, h5, rfl, q1, q2⟩
     · (subst hL; subst hQ; simp only [L2, L3, std] at *; try simp only [syS, reduceCtorEq, Int.reduceToNat, Int.reduceAdd, Int.reduceSub] at *)
       simp only [zcg, (zaj s).1] at h6 h7
       exact zb7 (yn1 hx h1 h4 h6 h7)
     · (subst hL; subst hQ; simp only [L2, L3, std] at *; try simp only [syS, reduceCtorEq, Int.reduceToNat, Int.reduceAdd, Int.reduceSub] at *)
       simp only [zcg, (zaj s).1] at h7 |-
       exact zvh hx h1 h4 h7
     · (subst hL; subst hQ; simp only [L2, L3, std] at *; try simp only [syS, reduceCtorEq, Int.reduceToNat, Int.reduceAdd, Int.reduceSub] at *)
       simp only [zcg, (zaj s).1] at h7 |-
       exact zvh hx h1 h4 h7
     · (cbv; try simp only [syT, true_and, and_true])
       (subst hL; subst hQ; simp only [L2, L3, std] at *; try simp only [syS, reduceCtorEq, Int.reduceToNat, Int.reduceAdd, Int.reduceSub] at *)
       simp only [zcg, (zaj s).1] at h6 h7 |-
       obtain ⟨q1, q2⟩ := yn0 hx h1 h4 h6 h7
       rw [hv2, hs2, hf1]
       exact ⟨rfl, rfl, rfl, rfl, h6, rfl, q1, q2⟩
     · (subst hL; subst hQ; simp only [L2, L3, std] at *; try simp only [syS, reduceCtorEq, Int.reduceToNat, Int.reduceAdd, Int.reduceSub] at *)
       simp only [zcg] at h7
       exact absurd h8 (by decide)
     · (subst hL; subst hQ; simp only [L2, L3, std] at *; try simp only [syS, reduceCtorEq, Int.reduceToNat, Int.reduceAdd, Int.reduceSub] at *)
       omega
     · (cbv; try simp only [syT, true_and, and_true])
       (subst hL; subst hQ; simp only [L2, L3, std] at *; try simp only [syS, reduceCtorEq, Int.reduceToNat, Int.reduceAdd, Int.reduceSub] at *)
       simp only [zcg, (zaj s).1] at h7 |-; exact yq1 hx h1 h4 h7 (by simp) ha1 hs1 hf1
     · (subst hL; subst hQ; simp only [L2, L3, std] at *; try simp only [syS, reduceCtorEq, Int.reduceToNat, Int.reduceAdd, Int.reduceSub] at *)
       simp only [zcg] at h2 h3 h5 h6 h7
       omega
   | [a, b, c], hx =>
     (cbv; try simp only [syT, true_and, and_true])
     obtain ⟨s1, hs1⟩ : ∃ s1, s1 = za3 s := ⟨_, rfl⟩
     obtain ⟨s2, hs2⟩ : ∃ s2, s2 = (za3 s).drop (zb2 (s.drop 1)).toNat := ⟨_, rfl⟩
     obtain ⟨v1, hv1⟩ : ∃ v1, v1 = CV.mk 1 (zb2 (s.drop 1)) [] [] := ⟨_, rfl⟩
     obtain ⟨v2, hv2⟩ : ∃ v2, v2 = CV.mk 2 0 ((za3 s).take (zb2 (s.drop 1)).toNat) [] := ⟨_, rfl⟩
     obtain ⟨a1, ha1⟩ : ∃ a1, a1 = Lv.mk (zb2 (s.drop 1)) [] := ⟨_, rfl⟩
     obtain ⟨f1, hf1⟩ : ∃ f1, f1 = f - 1 := ⟨_, rfl⟩
     refine ⟨fun h1 => ?_, fun h1 => ⟨?_, fun h2 => ?_, fun h2 => ⟨fun h3 => ?_, fun h3 => ⟨?_, fun h4 => ?_, fun h4 => ⟨?_, fun h5 => ⟨⟨[a, b, c], s1, f1, v1⟩, ?_⟩, fun h5 => ⟨fun h6 => ⟨fun h7 => ?_, fun h7 => ⟨?_, ?_, ⟨[a, b, c], s2, f1, v2⟩, ?_⟩⟩, fun h6 => ⟨fun h7 => ⟨fun h8 => ?_, fun h8 => ⟨?_, ⟨[a1, a, b, c], s1, f1, v⟩, ?_⟩⟩, fun h7 => ?_⟩⟩⟩⟩⟩⟩⟩
     · (subst hL; subst hQ; simp only [L2, L3, std] at *; try simp only [syS, reduceCtorEq, Int.reduceToNat, Int.reduceAdd, Int.reduceSub] at *)
       exact zb7 (yn4 hx h1)
     · (subst hL; subst hQ; simp only [L2, L3, std] at *; try simp only [syS, reduceCtorEq, Int.reduceToNat, Int.reduceAdd, Int.reduceSub] at *)
       have := List.length_pos_iff.2 h1
       omega
     · (subst hL; subst hQ; simp only [L2, L3, std] at *; try simp only [syS, reduceCtorEq, Int.reduceToNat, Int.reduceAdd, Int.reduceSub] at *)
       rw [zcg] at h2
       exact zb7 (zvi hx h1 (.inl h2))
     · (subst hL; subst hQ; simp only [L2, L3, std] at *; try simp only [syS, reduceCtorEq, Int.reduceToNat, Int.reduceAdd, Int.reduceSub] at *)
       rw [zcg] at h3
       exact zb7 (zvi hx h1 (.inr h3))
     · (subst hL; subst hQ; simp only [L2, L3, std] at *; try simp only [syS, reduceCtorEq, Int.reduceToNat, Int.reduceAdd, Int.reduceSub] at *)
       have := List.length_pos_iff.2 h1
       omega
     · (subst hL; subst hQ; simp only [L2, L3, std] at *; try simp only [syS, reduceCtorEq, Int.reduceToNat, Int.reduceAdd, Int.reduceSub] at *)
       rw [zcg] at h2 h3
       exact zb7 (yn3 hx h1 h2 h3 h4)
     · (subst hL; subst hQ; simp only [L2, L3, std] at *; try simp only [syS, reduceCtorEq, Int.reduceToNat, Int.reduceAdd, Int.reduceSub] at *)
       rw [(zaj s).2]
       exact zt7 h1 h4
     · (cbv; try simp only [syT, true_and, and_true])
       (subst hL; subst hQ; simp only [L2, L3, std] at *; try simp only [syS, reduceCtorEq, Int.reduceToNat, Int.reduceAdd, Int.reduceSub] at *)
       simp only [zcg, (zaj s).1] at h5 |-
       obtain ⟨q1, q2⟩ := yn2 hx h1 h4 h5
       rw [hv1, hs1, hf1]
       exact ⟨rfl, rfl, rfl, rfl, h5, rfl, q1, q2⟩
     · (subst hL; subst hQ; simp only [L2, L3, std] at *; try simp only [syS, reduceCtorEq, Int.reduceToNat, Int.reduceAdd, Int.reduceSub] at *)
       simp only [zcg, (zaj s).1] at h6 h7
       exact zb7 (yn1 hx h1 h4 h6 h7)
     · (subst hL; subst hQ; simp only [L2, L3, std] at *; try simp only [syS, reduceCtorEq, Int.reduceToNat, Int.reduceAdd, Int.reduceSub] at *)
       simp only [zcg, (zaj s).1] at h7 |-
       exact zvh hx h1 h4 h7
     · (subst hL; subst hQ; simp only [L2, L3, std] at *; try simp only [syS, reduceCtorEq, Int.reduceToNat, Int.reduceAdd, Int.reduceSub] at *)
       simp only [zcg, (zaj s).1] at h7 |-
       exact zvh hx h1 h4 h7
     · (cbv; try simp only [syT, true_and, and_true])
       (subst hL; subst hQ; simp only [L2, L3, std] at *; try simp only [syS, reduceCtorEq, Int.reduceToNat, Int.reduceAdd, Int.reduceSub] at *)
       simp only [zcg, (zaj s).1] at h6 h7 |-
       obtain ⟨q1, q2⟩ := yn0 hx h1 h4 h6 h7
       rw [hv2, hs2, hf1]
       exact ⟨rfl, rfl, rfl, rfl, h6, rfl, q1, q2⟩
     · (subst hL; subst hQ; simp only [L2, L3, std] at *; try simp only [syS, reduceCtorEq, Int.reduceToNat, Int.reduceAdd, Int.reduceSub] at *)
       simp only [zcg] at h7
       exact absurd h8 (by decide)
     · (subst hL; subst hQ; simp only [L2, L3, std] at *; try simp only [syS, reduceCtorEq, Int.reduceToNat, Int.reduceAdd, Int.reduceSub] at *)
       omega
     · (cbv; try simp only [syT, true_and, and_true])
       (subst hL; subst hQ; simp only [L2, L3, std] at *; try simp only [syS, reduceCtorEq, Int.reduceToNat, Int.reduceAdd, Int.reduceSub] at *)
       simp only [zcg, (zaj s).1] at h7 |-; exact yq1 hx h1 h4 h7 (by simp) ha1 hs1 hf1
     · (subst hL; subst hQ; simp only [L2, L3, std] at *; try simp only [syS, reduceCtorEq, Int.reduceToNat, Int.reduceAdd, Int.reduceSub] at *)
       simp only [zcg] at h2 h3 h5 h6 h7
       omega
   | [a, b, c, d], hx =>
     (cbv; try simp only [syT, true_and, and_true])
     obtain ⟨s1, hs1⟩ : ∃ s1, s1 = za3 s := ⟨_, rfl⟩
     obtain ⟨s2, hs2⟩ : ∃ s2, s2 = (za3 s).drop (zb2 (s.drop 1)).toNat := ⟨_, rfl⟩
     obtain ⟨v1, hv1⟩ : ∃ v1, v1 = CV.mk 1 (zb2 (s.drop 1)) [] [] := ⟨_, rfl⟩
     obtain ⟨v2, hv2⟩ : ∃ v2, v2 = CV.mk 2 0 ((za3 s).take (zb2 (s.drop 1)).toNat) [] := ⟨_, rfl⟩
     obtain ⟨a1, ha1⟩ : ∃ a1, a1 = Lv.mk (zb2 (s.drop 1)) [] := ⟨_, rfl⟩
     obtain ⟨f1, hf1⟩ : ∃ f1, f1 = f - 1 := ⟨_, rfl⟩
     refine ⟨fun h1 => ?_, fun h1 => ⟨?_, fun h2 => ?_, fun h2 => ⟨fun h3 => ?_, fun h3 => ⟨?_, fun h4 => ?_, fun h4 => ⟨?_, fun h5 => ⟨⟨[a, b, c, d], s1, f1, v1⟩, ?_⟩, fun h5 => ⟨fun h6 => ⟨fun h7 => ?_, fun h7 => ⟨?_, ?_, ⟨[a, b, c, d], s2, f1, v2⟩, ?_⟩⟩, fun h6 => ⟨fun h7 => ⟨fun h8 => ?_, fun h8 => ⟨?_, ⟨[a1, a, b, c, d], s1, f1, v⟩, ?_⟩⟩, fun h7 => ?_⟩⟩⟩⟩⟩⟩⟩
     · (subst hL; subst hQ; simp only [L2, L3, std] at *; try simp only [syS, reduceCtorEq, Int.reduceToNat, Int.reduceAdd, Int.reduceSub] at *)
       exact zb7 (yn4 hx h1)
     · (subst hL; subst hQ; simp only [L2, L3, std] at *; try simp only [syS, reduceCtorEq, Int.reduceToNat, Int.reduceAdd, Int.reduceSub] at *)
       have := List.length_pos_iff.2 h1
       omega
     · (subst hL; subst hQ; simp only [L2, L3, std] at *; try simp only [syS, reduceCtorEq, Int.reduceToNat, Int.reduceAdd, Int.reduceSub] at *)
       rw [zcg] at h2
       exact zb7 (zvi hx h1 (.inl h2))
     · (subst hL; subst hQ; simp only [L2, L3, std] at *; try simp only [syS, reduceCtorEq, Int.reduceToNat, Int.reduceAdd, Int.reduceSub] at *)
       rw [zcg] at h3
       exact zb7 (zvi hx h1 (.inr h3))
     · (subst hL; subst hQ; simp only [L2, L3, std] at *; try simp only [syS, reduceCtorEq, Int.reduceToNat, Int.reduceAdd, Int.reduceSub] at *)
       have := List.length_pos_iff.2 h1
       omega
     · (subst hL; subst hQ; simp only [L2, L3, std] at *; try simp only [syS, reduceCtorEq, Int.reduceToNat, Int.reduceAdd, Int.reduceSub] at *)
       rw [zcg] at h2 h3
       exact zb7 (yn3 hx h1 h2 h3 h4)
     · (subst hL; subst hQ; simp only [L2, L3, std] at *; try simp only [syS, reduceCtorEq, Int.reduceToNat, Int.reduceAdd, Int.reduceSub] at *)
       rw [(zaj s).2]
       exact zt7 h1 h4
     · (cbv; try simp only [syT, true_and, and_true])
       (subst hL; subst hQ; simp only [L2, L3, std] at *; try simp only [syS, reduceCtorEq, Int.reduceToNat, Int.reduceAdd, Int.reduceSub] at *)
       simp only [zcg, (zaj s).1] at h5 |-
       obtain ⟨q1, q2⟩ := yn2 hx h1 h4 h5
       rw [hv1, hs1, hf1]
       exact ⟨rfl, rfl, rfl, rfl, h5, rfl, q1, q2⟩
     · (subst hL; subst hQ; simp only [L2, L3, std] at *; try simp only [syS, reduceCtorEq, Int.reduceToNat, Int.reduceAdd, Int.reduceSub] at *)
       simp only [zcg, (zaj s).1] at h6 h7
       exact zb7 (yn1 hx h1 h4 h6 h7)
     · (subst hL; subst hQ; simp only [L2, L3, std] at *; try simp only [syS, reduceCtorEq, Int.reduceToNat, Int.reduceAdd, Int.reduceSub] at *)
       simp only [zcg, (zaj s).1] at h7 |-
       exact zvh hx h1 h4 h7
     · (subst hL; subst hQ; simp only [L2, L3, std] at *; try simp only [syS, reduceCtorEq, Int.reduceToNat, Int.reduceAdd, Int.reduceSub] at *)
       simp only [zcg, (zaj s).1] at h7 |-
       exact zvh hx h1 h4 h7
     · (cbv; try simp only [syT, true_and, and_true])
       (subst hL; subst hQ; simp only [L2, L3, std] at *; try simp only [syS, reduceCtorEq, Int.reduceToNat, Int.reduceAdd, Int.reduceSub] at *)
       simp only [zcg, (zaj s).1] at h6 h7 |-
       obtain ⟨q1, q2⟩ := yn0 hx h1 h4 h6 h7
       rw [hv2, hs2, hf1]
       exact ⟨rfl, rfl, rfl, rfl, h6, rfl, q1, q2⟩
     · (subst hL; subst hQ; simp only [L2, L3, std] at *; try simp only [syS, reduceCtorEq, Int.reduceToNat, Int.reduceAdd, Int.reduceSub] at *)
       simp only [zcg] at h7
       exact absurd h8 (by decide)
     · (subst hL; subst hQ; simp only [L2, L3, std] at *; try simp only [syS, reduceCtorEq, Int.reduceToNat, Int.reduceAdd, Int.reduceSub] at *)
       omega
     · (cbv; try simp only [syT, true_and, and_true])
       (subst hL; subst hQ; simp only [L2, L3, std] at *; try simp only [syS, reduceCtorEq, Int.reduceToNat, Int.reduceAdd, Int.reduceSub] at *)
       simp only [zcg, (zaj s).1] at h7 |-; exact yq1 hx h1 h4 h7 (by simp) ha1 hs1 hf1
     · (subst hL; subst hQ; simp only [L2, L3, std] at *; try simp only [syS, reduceCtorEq, Int.reduceToNat, Int.reduceAdd, Int.reduceSub] at *)
       simp only [zcg] at h2 h3 h5 h6 h7
       omega
   | [a, b, c, d, e], hx =>
     (cbv; try simp only [syT, true_and, and_true])
     obtain ⟨s1, hs1⟩ : ∃ s1, s1 = za3 s := ⟨_, rfl⟩
     obtain ⟨s2, hs2⟩ : ∃ s2, s2 = (za3 s).drop (zb2 (s.drop 1)).toNat := ⟨_, rfl⟩
     obtain ⟨v1, hv1⟩ : ∃ v1, v1 = CV.mk 1 (zb2 (s.drop 1)) [] [] := ⟨_, rfl⟩
     obtain ⟨v2, hv2⟩ : ∃ v2, v2 = CV.mk 2 0 ((za3 s).take (zb2 (s.drop 1)).toNat) [] := ⟨_, rfl⟩
     obtain ⟨a1, ha1⟩ : ∃ a1, a1 = Lv.mk (zb2 (s.drop 1)) [] := ⟨_, rfl⟩
     obtain ⟨f1, hf1⟩ : ∃ f1, f1 = f - 1 := ⟨_, rfl⟩
     refine ⟨fun h1 => ?_, fun h1 => ⟨?_, fun h2 => ?_, fun h2 => ⟨fun h3 => ?_, fun h3 => ⟨?_, fun h4 => ?_, fun h4 => ⟨?_, fun h5 => ⟨⟨[a, b, c, d, e], s1, f1, v1⟩, ?_⟩, fun h5 => ⟨fun h6 => ⟨fun h7 => ?_, fun h7 => ⟨?_, ?_, ⟨[a, b, c, d, e], s2, f1, v2⟩, ?_⟩⟩, fun h6 => ⟨fun h7 => ⟨fun h8 => ?_, fun h8 => ⟨?_, ⟨[a1, a, b, c, d, e], s1, f1, v⟩, ?_⟩⟩, fun h7 => ?_⟩⟩⟩⟩⟩⟩⟩
     · (subst hL; subst hQ; simp only [L2, L3, std] at *; try simp only [syS, reduceCtorEq, Int.reduceToNat, Int.reduceAdd, Int.reduceSub] at *)
       exact zb7 (yn4 hx h1)
     · (subst hL; subst hQ; simp only [L2, L3, std] at *; try simp only [syS, reduceCtorEq, Int.reduceToNat, Int.reduceAdd, Int.reduceSub] at *)
       have := List.length_pos_iff.2 h1
       omega
     · (subst hL; subst hQ; simp only [L2, L3, std] at *; try simp only [syS, reduceCtorEq, Int.reduceToNat, Int.reduceAdd, Int.reduceSub] at *)
       rw [zcg] at h2
       exact zb7 (zvi hx h1 (.inl h2))
     · (subst hL; subst hQ; simp only [L2, L3, std] at *; try simp only [syS, reduceCtorEq, Int.reduceToNat, Int.reduceAdd, Int.reduceSub] at *)
       rw [zcg] at h3
       exact zb7 (zvi hx h1 (.inr h3))
     · (subst hL; subst hQ; simp only [L2, L3, std] at *; try simp only [syS, reduceCtorEq, Int.reduceToNat, Int.reduceAdd, Int.reduceSub] at *)
       have := List.length_pos_iff.2 h1
       omega
     · (subst hL; subst hQ; simp only [L2, L3, std] at *; try simp only [syS, reduceCtorEq, Int.reduceToNat, Int.reduceAdd, Int.reduceSub] at *)
       rw [zcg] at h2 h3
       exact zb7 (yn3 hx h1 h2 h3 h4)
     · (subst hL; subst hQ; simp only [L2, L3, std] at *; try simp only [syS, reduceCtorEq, Int.reduceToNat, Int.reduceAdd, Int.reduceSub] at *)
       rw [(zaj s).2]
       exact zt7 h1 h4
     · (cbv; try simp only [syT, true_and, and_true])
       (subst hL; subst hQ; simp only [L2, L3, std] at *; try simp only [syS, reduceCtorEq, Int.reduceToNat, Int.reduceAdd, Int.reduceSub] at *)
       simp only [zcg, (zaj s).1] at h5 |-
       obtain ⟨q1, q2⟩ := yn2 hx h1 h4 h5
       rw [hv1, hs1, hf1]
       exact ⟨rfl, rfl, rfl, rfl, h5, rfl, q1, q2⟩
     · (subst hL; subst hQ; simp only [L2, L3, std] at *; try simp only [syS, reduceCtorEq, Int.reduceToNat, Int.reduceAdd, Int.reduceSub] at *)
       simp only [zcg, (zaj s).1] at h6 h7
       exact zb7 (yn1 hx h1 h4 h6 h7)
     · (subst hL; subst hQ; simp only [L2, L3, std] at *; try simp only [syS, reduceCtorEq, Int.reduceToNat, Int.reduceAdd, Int.reduceSub] at *)
       simp only [zcg, (zaj s).1] at h7 |-
       exact zvh hx h1 h4 h7
     · (subst hL; subst hQ; simp only [L2, L3, std] at *; try simp only [syS, reduceCtorEq, Int.reduceToNat, Int.reduceAdd, Int.reduceSub] at *)
       simp only [zcg, (zaj s).1] at h7 |-
       exact zvh hx h1 h4 h7
     · (cbv; try simp only [syT, true_and, and_true])
       (subst hL; subst hQ; simp only [L2, L3, std] at *; try simp only [syS, reduceCtorEq, Int.reduceToNat, Int.reduceAdd, Int.reduceSub] at *)
       simp only [zcg, (zaj s).1] at h6 h7 |-
       obtain ⟨q1, q2⟩ := yn0 hx h1 h4 h6 h7
       rw [hv2, hs2, hf1]
       exact ⟨rfl, rfl, rfl, rfl, h6, rfl, q1, q2⟩
     · (subst hL; subst hQ; simp only [L2, L3, std] at *; try simp only [syS, reduceCtorEq, Int.reduceToNat, Int.reduceAdd, Int.reduceSub] at *)
       simp only [zcg] at h7
       exact absurd h8 (by decide)
     · (subst hL; subst hQ; simp only [L2, L3, std] at *; try simp only [syS, reduceCtorEq, Int.reduceToNat, Int.reduceAdd, Int.reduceSub] at *)
       omega
     · (cbv; try simp only [syT, true_and, and_true])
       (subst hL; subst hQ; simp only [L2, L3, std] at *; try simp only [syS, reduceCtorEq, Int.reduceToNat, Int.reduceAdd, Int.reduceSub] at *)
       simp only [zcg, (zaj s).1] at h7 |-; exact yq1 hx h1 h4 h7 (by simp) ha1 hs1 hf1
     · (subst hL; subst hQ; simp only [L2, L3, std] at *; try simp only [syS, reduceCtorEq, Int.reduceToNat, Int.reduceAdd, Int.reduceSub] at *)
       simp only [zcg] at h2 h3 h5 h6 h7
       omega
   | [a, b, c, d, e, k], hx =>
     (cbv; try simp only [syT, true_and, and_true])
     obtain ⟨s1, hs1⟩ : ∃ s1, s1 = za3 s := ⟨_, rfl⟩
     obtain ⟨s2, hs2⟩ : ∃ s2, s2 = (za3 s).drop (zb2 (s.drop 1)).toNat := ⟨_, rfl⟩
     obtain ⟨v1, hv1⟩ : ∃ v1, v1 = CV.mk 1 (zb2 (s.drop 1)) [] [] := ⟨_, rfl⟩
     obtain ⟨v2, hv2⟩ : ∃ v2, v2 = CV.mk 2 0 ((za3 s).take (zb2 (s.drop 1)).toNat) [] := ⟨_, rfl⟩
     obtain ⟨a1, ha1⟩ : ∃ a1, a1 = Lv.mk (zb2 (s.drop 1)) [] := ⟨_, rfl⟩
     obtain ⟨f1, hf1⟩ : ∃ f1, f1 = f - 1 := ⟨_, rfl⟩
     refine ⟨fun h1 => ?_, fun h1 => ⟨?_, fun h2 => ?_, fun h2 => ⟨fun h3 => ?_, fun h3 => ⟨?_, fun h4 => ?_, fun h4 => ⟨?_, fun h5 => ⟨⟨[a, b, c, d, e, k], s1, f1, v1⟩, ?_⟩, fun h5 => ⟨fun h6 => ⟨fun h7 => ?_, fun h7 => ⟨?_, ?_, ⟨[a, b, c, d, e, k], s2, f1, v2⟩, ?_⟩⟩, fun h6 => ⟨fun h7 => ⟨fun h8 => ?_, fun h8 => ⟨?_, ⟨[a1, a, b, c, d, e, k], s1, f1, v⟩, ?_⟩⟩, fun h7 => ?_⟩⟩⟩⟩⟩⟩⟩
     · (subst hL; subst hQ; simp only [L2, L3, std] at *; try simp only [syS, reduceCtorEq, Int.reduceToNat, Int.reduceAdd, Int.reduceSub] at *)
       exact zb7 (yn4 hx h1)
     · (subst hL; subst hQ; simp only [L2, L3, std] at *; try simp only [syS, reduceCtorEq, Int.reduceToNat, Int.reduceAdd, Int.reduceSub] at *)
       have := List.length_pos_iff.2 h1
       omega
     · (subst hL; subst hQ; simp only [L2, L3, std] at *; try simp only [syS, reduceCtorEq, Int.reduceToNat, Int.reduceAdd, Int.reduceSub] at *)
       rw [zcg] at h2
       exact zb7 (zvi hx h1 (.inl h2))
     · (subst hL; subst hQ; simp only [L2, L3, std] at *; try simp only [syS, reduceCtorEq, Int.reduceToNat, Int.reduceAdd, Int.reduceSub] at *)
       rw [zcg] at h3
       exact zb7 (zvi hx h1 (.inr h3))
     · (subst hL; subst hQ; simp only [L2, L3, std] at *; try simp only [syS, reduceCtorEq, Int.reduceToNat, Int.reduceAdd, Int.reduceSub] at *)
       have := List.length_pos_iff.2 h1
       omega
     · (subst hL; subst hQ; simp only [L2, L3, std] at *; try simp only [syS, reduceCtorEq, Int.reduceToNat, Int.reduceAdd, Int.reduceSub] at *)
       rw [zcg] at h2 h3
       exact zb7 (yn3 hx h1 h2 h3 h4)
     · (subst hL; subst hQ; simp only [L2, L3, std] at *; try simp only [syS, reduceCtorEq, Int.reduceToNat, Int.reduceAdd, Int.reduceSub] at *)
       rw [(zaj s).2]
       exact zt7 h1 h4
     · (cbv; try simp only [syT, true_and, and_true])
       (subst hL; subst hQ; simp only [L2, L3, std] at *; try simp only [syS, reduceCtorEq, Int.reduceToNat, Int.reduceAdd, Int.reduceSub] at *)
       simp only [zcg, (zaj s).1] at h5 |-
       obtain ⟨q1, q2⟩ := yn2 hx h1 h4 h5
       rw [hv1, hs1, hf1]
       exact ⟨rfl, rfl, rfl, rfl, h5, rfl, q1, q2⟩
     · (subst hL; subst hQ; simp only [L2, L3, std] at *; try simp only [syS, reduceCtorEq, Int.reduceToNat, Int.reduceAdd, Int.reduceSub] at *)
       simp only [zcg, (zaj s).1] at h6 h7
       exact zb7 (yn1 hx h1 h4 h6 h7)
     · (subst hL; subst hQ; simp only [L2, L3, std] at *; try simp only [syS, reduceCtorEq, Int.reduceToNat, Int.reduceAdd, Int.reduceSub] at *)
       simp only [zcg, (zaj s).1] at h7 |-
       exact zvh hx h1 h4 h7
     · (subst hL; subst hQ; simp only [L2, L3, std] at *; try simp only [syS, reduceCtorEq, Int.reduceToNat, Int.reduceAdd, Int.reduceSub] at *)
       simp only [zcg, (zaj s).1] at h7 |-
       exact zvh hx h1 h4 h7
     · (cbv; try simp only [syT, true_and, and_true])
       (subst hL; subst hQ; simp only [L2, L3, std] at *; try simp only [syS, reduceCtorEq, Int.reduceToNat, Int.reduceAdd, Int.reduceSub] at *)
       simp only [zcg, (zaj s).1] at h6 h7 |-
       obtain ⟨q1, q2⟩ := yn0 hx h1 h4 h6 h7
       rw [hv2, hs2, hf1]
       exact ⟨rfl, rfl, rfl, rfl, h6, rfl, q1, q2⟩
     · (subst hL; subst hQ; simp only [L2, L3, std] at *; try simp only [syS, reduceCtorEq, Int.reduceToNat, Int.reduceAdd, Int.reduceSub] at *)
       simp only [zcg] at h7
       exact zb7 (nx_7 hx h1 h4 h7 rfl)
     · (subst hL; subst hQ; simp only [L2, L3, std] at *; try simp only [syS, reduceCtorEq, Int.reduceToNat, Int.reduceAdd, Int.reduceSub] at *)
       all_goals omega
     · all_goals skip
       (subst hL; subst hQ; simp only [L2, L3, std] at *; try simp only [syS, reduceCtorEq, Int.reduceToNat, Int.reduceAdd, Int.reduceSub] at *)
       all_goals omega
     · (subst hL; subst hQ; simp only [L2, L3, std] at *; try simp only [syS, reduceCtorEq, Int.reduceToNat, Int.reduceAdd, Int.reduceSub] at *)
       simp only [zcg] at h2 h3 h5 h6 h7
       omega
   | a :: b :: c :: d :: e :: k :: m :: r, hx =>
     have h7 : (a :: b :: c :: d :: e :: k :: m :: r).length <= 6 := by { (subst hL; subst hQ; simp only [L2, L3, std] at *; try simp only [syS, reduceCtorEq, Int.reduceToNat, Int.reduceAdd, Int.reduceSub] at *); exact hx.1 }
     exact absurd h7 (by simp)
 · obtain ⟨st, s, f, v⟩ := x
   cbv at hx
   match st, hx with
   | [], hx =>
     (cbv; try simp only [syT, true_and, and_true])
     refine ⟨fun h0 => ?_, fun h0 => ?_⟩
     · (subst hL; subst hQ; simp only [L2, L3, std] at *; try simp only [syS, reduceCtorEq, Int.reduceToNat, Int.reduceAdd, Int.reduceSub] at *)
       exact yn6 (nd_0 hx)
     · (subst hL; subst hQ; simp only [L2, L3, std] at *; try simp only [syS, reduceCtorEq, Int.reduceToNat, Int.reduceAdd, Int.reduceSub] at *)
   | [a], hx =>
     (cbv; try simp only [syT, true_and, and_true])
     obtain ⟨a', ha'⟩ : ∃ a', a' = Lv.mk (a.left - 1) (a.l ++ [v]) := ⟨_, rfl⟩
     refine ⟨fun h0 => ?_, fun h0 => ⟨⟨?_, ?_, ?_, ?_, ?_, ⟨[a'], s, f, v⟩, ?_⟩, ?_, ?_, ?_, ?_, ?_, ?_, ⟨[a'], s, f, v⟩, ?_⟩⟩
     · (subst hL; subst hQ; simp only [L2, L3, std] at *; try simp only [syS, reduceCtorEq, Int.reduceToNat, Int.reduceAdd, Int.reduceSub] at *)
       exact absurd h0 (by decide)
     · (subst hL; subst hQ; simp only [L2, L3, std]; try simp only [syS, reduceCtorEq, Int.reduceToNat, Int.reduceAdd, Int.reduceSub]) <;> decide
     · (subst hL; subst hQ; simp only [L2, L3, std] at *; try simp only [syS, reduceCtorEq, Int.reduceToNat, Int.reduceAdd, Int.reduceSub] at *)
       exact zeg (zkz hx).2.1
     · (subst hL; subst hQ; simp only [L2, L3, std]; try simp only [syS, reduceCtorEq, Int.reduceToNat, Int.reduceAdd, Int.reduceSub]) <;> decide
     · (subst hL; subst hQ; simp only [L2, L3, std]; try simp only [syS, reduceCtorEq, Int.reduceToNat, Int.reduceAdd, Int.reduceSub]) <;> decide
     · (subst hL; subst hQ; simp only [L2, L3, std]; try simp only [syS, reduceCtorEq, Int.reduceToNat, Int.reduceAdd, Int.reduceSub]) <;> decide
     · (cbv; try simp only [syT, true_and, and_true])
       (subst hL; subst hQ; simp only [L2, L3, std] at *; try simp only [syS, reduceCtorEq, Int.reduceToNat, Int.reduceAdd, Int.reduceSub] at *)
       obtain ⟨q1, q2, q3, q4, q5⟩ := zkz hx
       subst ha'
       have e : lenL (a.l ++ [v]) = a.l.length + 1 := by unfold lenL; simp
       exact ⟨⟨e.symm, fun i j hi hj => zgp a.l v (by rw [<- e]; exact hi) hj⟩, e.symm, Int.emod_eq_of_lt (by omega) (by omega), q1, q5⟩
     · (subst hL; subst hQ; simp only [L2, L3, std]; try simp only [syS, reduceCtorEq, Int.reduceToNat, Int.reduceAdd, Int.reduceSub]) <;> decide
     · (subst hL; subst hQ; simp only [L2, L3, std] at *; try simp only [syS, reduceCtorEq, Int.reduceToNat, Int.reduceAdd, Int.reduceSub] at *)
       exact zeg (zkz hx).2.1
     · (subst hL; subst hQ; simp only [L2, L3, std]; try simp only [syS, reduceCtorEq, Int.reduceToNat, Int.reduceAdd, Int.reduceSub]) <;> decide
     · (subst hL; subst hQ; simp only [L2, L3, std] at *; try simp only [syS, reduceCtorEq, Int.reduceToNat, Int.reduceAdd, Int.reduceSub] at *)
       exact zyd _
     · (subst hL; subst hQ; simp only [L2, L3, std]; try simp only [syS, reduceCtorEq, Int.reduceToNat, Int.reduceAdd, Int.reduceSub]) <;> decide
     · (subst hL; subst hQ; simp only [L2, L3, std]; try simp only [syS, reduceCtorEq, Int.reduceToNat, Int.reduceAdd, Int.reduceSub]) <;> decide
     · (cbv; try simp only [syT, true_and, and_true])
       (subst hL; subst hQ; simp only [L2, L3, std] at *; try simp only [syS, reduceCtorEq, Int.reduceToNat, Int.reduceAdd, Int.reduceSub] at *)
       obtain ⟨q1, q2, q3, q4, q5⟩ := zkz hx
       subst ha'
       have e : lenL (a.l ++ [v]) = a.l.length + 1 := by unfold lenL; simp
       exact ⟨⟨e.symm, fun i j hi hj => zhu a.l v (by rw [<- e]; exact hi) hj⟩, e.symm, Int.emod_eq_of_lt (by omega) (by omega), q1, q5⟩
   | [a, b], hx =>
     (cbv; try simp only [syT, true_and, and_true])
     obtain ⟨a', ha'⟩ : ∃ a', a' = Lv.mk (a.left - 1) (a.l ++ [v]) := ⟨_, rfl⟩
     refine ⟨fun h0 => ?_, fun h0 => ⟨⟨?_, ?_, ?_, ?_, ?_, ⟨[a', b], s, f, v⟩, ?_⟩, ?_, ?_, ?_, ?_, ?_, ?_, ⟨[a', b], s, f, v⟩, ?_⟩⟩
     · (subst hL; subst hQ; simp only [L2, L3, std] at *; try simp only [syS, reduceCtorEq, Int.reduceToNat, Int.reduceAdd, Int.reduceSub] at *)
       exact absurd h0 (by decide)
     · (subst hL; subst hQ; simp only [L2, L3, std]; try simp only [syS, reduceCtorEq, Int.reduceToNat, Int.reduceAdd, Int.reduceSub]) <;> decide
     · (subst hL; subst hQ; simp only [L2, L3, std] at *; try simp only [syS, reduceCtorEq, Int.reduceToNat, Int.reduceAdd, Int.reduceSub] at *)
       exact zeg (zkz hx).2.1
     · (subst hL; subst hQ; simp only [L2, L3, std]; try simp only [syS, reduceCtorEq, Int.reduceToNat, Int.reduceAdd, Int.reduceSub]) <;> decide
     · (subst hL; subst hQ; simp only [L2, L3, std]; try simp only [syS, reduceCtorEq, Int.reduceToNat, Int.reduceAdd, Int.reduceSub]) <;> decide
     · (subst hL; subst hQ; simp only [L2, L3, std]; try simp only [syS, reduceCtorEq, Int.reduceToNat, Int.reduceAdd, Int.reduceSub]) <;> decide
     · (cbv; try simp only [syT, true_and, and_true])
       (subst hL; subst hQ; simp only [L2, L3, std] at *; try simp only [syS, reduceCtorEq, Int.reduceToNat, Int.reduceAdd, Int.reduceSub] at *)
       obtain ⟨q1, q2, q3, q4, q5⟩ := zkz hx
       subst ha'
       have e : lenL (a.l ++ [v]) = a.l.length + 1 := by unfold lenL; simp
       exact ⟨⟨e.symm, fun i j hi hj => zgp a.l v (by rw [<- e]; exact hi) hj⟩, e.symm, Int.emod_eq_of_lt (by omega) (by omega), q1, q5⟩
     · (subst hL; subst hQ; simp only [L2, L3, std]; try simp only [syS, reduceCtorEq, Int.reduceToNat, Int.reduceAdd, Int.reduceSub]) <;> decide
     · (subst hL; subst hQ; simp only [L2, L3, std] at *; try simp only [syS, reduceCtorEq, Int.reduceToNat, Int.reduceAdd, Int.reduceSub] at *)
       exact zeg (zkz hx).2.1
     · (subst hL; subst hQ; simp only [L2, L3, std]; try simp only [syS, reduceCtorEq, Int.reduceToNat, Int.reduceAdd, Int.reduceSub]) <;> decide
     · (subst hL; subst hQ; simp only [L2, L3, std] at *; try simp only [syS, reduceCtorEq, Int.reduceToNat, Int.reduceAdd, Int.reduceSub] at *)
       exact zyd _
     · (subst hL; subst hQ; simp only [L2, L3, std]; try simp only [syS, reduceCtorEq, Int.reduceToNat, Int.reduceAdd, Int.reduceSub]) <;> decide
     · (subst hL; subst hQ; simp only [L2, L3, std]; try simp only [syS, reduceCtorEq, Int.reduceToNat, Int.reduceAdd, Int.reduceSub]) <;> decide
     · (cbv; try simp only [syT, true_and, and_true])
       (subst hL; subst hQ; simp only [L2, L3, std] at *; try simp only [syS, reduceCtorEq, Int.reduceToNat, Int.reduceAdd, Int.reduceSub] at *)
       obtain ⟨q1, q2, q3, q4, q5⟩ := zkz hx
       subst ha'
       have e : lenL (a.l ++ [v]) = a.l.length + 1 := by unfold lenL; simp
       exact ⟨⟨e.symm, fun i j hi hj => zhu a.l v (by rw [<- e]; exact hi) hj⟩, e.symm, Int.emod_eq_of_lt (by omega) (by omega), q1, q5⟩
   | [a, b, c], hx =>
     (cbv; try simp only [syT, true_and, and_true])
     obtain ⟨a', ha'⟩ : ∃ a', a' = Lv.mk (a.left - 1) (a.l ++ [v]) := ⟨_, rfl⟩
     refine ⟨fun h0 => ?_, fun h0 => ⟨⟨?_, ?_, ?_, ?_, ?_, ⟨[a', b, c], s, f, v⟩, ?_⟩, ?_, ?_, ?_, ?_, ?_, ?_, ⟨[a', b, c], s, f, v⟩, ?_⟩⟩
     · (subst hL; subst hQ; simp only [L2, L3, std] at *; try simp only [syS, reduceCtorEq, Int.reduceToNat, Int.reduceAdd, Int.reduceSub] at *)
       exact absurd h0 (by decide)
     · (subst hL; subst hQ; simp only [L2, L3, std]; try simp only [syS, reduceCtorEq, Int.reduceToNat, Int.reduceAdd, Int.reduceSub]) <;> decide
     · (subst hL; subst hQ; simp only [L2, L3, std] at *; try simp only [syS, reduceCtorEq, Int.reduceToNat, Int.reduceAdd, Int.reduceSub] at *)
       exact zeg (zkz hx).2.1
     · (subst hL; subst hQ; simp only [L2, L3, std]; try simp only [syS, reduceCtorEq, Int.reduceToNat, Int.reduceAdd, Int.reduceSub]) <;> decide
     · (subst hL; subst hQ; simp only [L2, L3, std]; try simp only [syS, reduceCtorEq, Int.reduceToNat, Int.reduceAdd, Int.reduceSub]) <;> decide
     · (subst hL; subst hQ; simp only [L2, L3, std]; try simp only [syS, reduceCtorEq, Int.reduceToNat, Int.reduceAdd, Int.reduceSub]) <;> decide
     · (cbv; try simp only [syT, true_and, and_true])
       (subst hL; subst hQ; simp only [L2, L3, std] at *; try simp only [syS, reduceCtorEq, Int.reduceToNat, Int.reduceAdd, Int.reduceSub] at *)
       obtain ⟨q1, q2, q3, q4, q5⟩ := zkz hx
       subst ha'
       have e : lenL (a.l ++ [v]) = a.l.length + 1 := by unfold lenL; simp
       exact ⟨⟨e.symm, fun i j hi hj => zgp a.l v (by rw [<- e]; exact hi) hj⟩, e.symm, Int.emod_eq_of_lt (by omega) (by omega), q1, q5⟩
     · (subst hL; subst hQ; simp only [L2, L3, std]; try simp only [syS, reduceCtorEq, Int.reduceToNat, Int.reduceAdd, Int.reduceSub]) <;> decide
     · (subst hL; subst hQ; simp only [L2, L3, std] at *; try simp only [syS, reduceCtorEq, Int.reduceToNat, Int.reduceAdd, Int.reduceSub] at *)
       exact zeg (zkz hx).2.1
     · (subst hL; subst hQ; simp only [L2, L3, std]; try simp only [syS, reduceCtorEq, Int.reduceToNat, Int.reduceAdd, Int.reduceSub]) <;> decide
     · (subst hL; subst hQ; simp only [L2, L3, std] at *; try simp only [syS, reduceCtorEq, Int.reduceToNat, Int.reduceAdd, Int.reduceSub] at *)
       exact zyd _
     · (subst hL; subst hQ; simp only [L2, L3, std]; try simp only [syS, reduceCtorEq, Int.reduceToNat, Int.reduceAdd, Int.reduceSub]) <;> decide
     · (subst hL; subst hQ; simp only [L2, L3, std]; try simp only [syS, reduceCtorEq, Int.reduceToNat, Int.reduceAdd, Int.reduceSub]) <;> decide
     · (cbv; try simp only [syT, true_and, and_true])
       (subst hL; subst hQ; simp only [L2, L3, std] at *; try simp only [syS, reduceCtorEq, Int.reduceToNat, Int.reduceAdd, Int.reduceSub] at *)
       obtain ⟨q1, q2, q3, q4, q5⟩ := zkz hx
       subst ha'
       have e : lenL (a.l ++ [v]) = a.l.length + 1 := by unfold lenL; simp
       exact ⟨⟨e.symm, fun i j hi hj => zhu a.l v (by rw [<- e]; exact hi) hj⟩, e.symm, Int.emod_eq_of_lt (by omega) (by omega), q1, q5⟩
   | [a, b, c, d], hx =>
     (cbv; try simp only [syT, true_and, and_true])
     obtain ⟨a', ha'⟩ : ∃ a', a' = Lv.mk (a.left - 1) (a.l ++ [v]) := ⟨_, rfl⟩
     refine ⟨fun h0 => ?_, fun h0 => ⟨⟨?_, ?_, ?_, ?_, ?_, ⟨[a', b, c, d], s, f, v⟩, ?_⟩, ?_, ?_, ?_, ?_, ?_, ?_, ⟨[a', b, c, d], s, f, v⟩, ?_⟩⟩
     · (subst hL; subst hQ; simp only [L2, L3, std] at *; try simp only [syS, reduceCtorEq, Int.reduceToNat, Int.reduceAdd, Int.reduceSub] at *)
       exact absurd h0 (by decide)
     · (subst hL; subst hQ; simp only [L2, L3, std]; try simp only [syS, reduceCtorEq, Int.reduceToNat, Int.reduceAdd, Int.reduceSub]) <;> decide
     · (subst hL; subst hQ; simp only [L2, L3, std] at *; try simp only [syS, reduceCtorEq, Int.reduceToNat, Int.reduceAdd, Int.reduceSub] at *)
       exact zeg (zkz hx).2.1
     · (subst hL; subst hQ; simp only [L2, L3, std]; try simp only [syS, reduceCtorEq, Int.reduceToNat, Int.reduceAdd, Int.reduceSub]) <;> decide
     · (subst hL; subst hQ; simp only [L2, L3, std]; try simp only [syS, reduceCtorEq, Int.reduceToNat, Int.reduceAdd, Int.reduceSub]) <;> decide
     · (subst hL; subst hQ; simp only [L2, L3, std]; try simp only [syS, reduceCtorEq, Int.reduceToNat, Int.reduceAdd, Int.reduceSub]) <;> decide
     · (cbv; try simp only [syT, true_and, and_true])
       (subst hL; subst hQ; simp only [L2, L3, std] at *; try simp only [syS, reduceCtorEq, Int.reduceToNat, Int.reduceAdd, Int.reduceSub] at *)
       obtain ⟨q1, q2, q3, q4, q5⟩ := zkz hx
       subst ha'
       have e : lenL (a.l ++ [v]) = a.l.length + 1 := by unfold lenL; simp
       exact ⟨⟨e.symm, fun i j hi hj => zgp a.l v (by rw [<- e]; exact hi) hj⟩, e.symm, Int.emod_eq_of_lt (by omega) (by omega), q1, q5⟩
     · (subst hL; subst hQ; simp only [L2, L3, std]; try simp only [syS, reduceCtorEq, Int.reduceToNat, Int.reduceAdd, Int.reduceSub]) <;> decide
     · (subst hL; subst hQ; simp only [L2, L3, std] at *; try simp only [syS, reduceCtorEq, Int.reduceToNat, Int.reduceAdd, Int.reduceSub] at *)
       exact zeg (zkz hx).2.1
     · (subst hL; subst hQ; simp only [L2, L3, std]; try simp only [syS, reduceCtorEq, Int.reduceToNat, Int.reduceAdd, Int.reduceSub]) <;> decide
     · (subst hL; subst hQ; simp only [L2, L3, std] at *; try simp only [syS, reduceCtorEq, Int.reduceToNat, Int.reduceAdd, Int.reduceSub] at *)
       exact zyd _
     · (subst hL; subst hQ; simp only [L2, L3, std]; try simp only [syS, reduceCtorEq, Int.reduceToNat, Int.reduceAdd, Int.reduceSub]) <;> decide
     · (subst hL; subst hQ; simp only [L2, L3, std]; try simp only [syS, reduceCtorEq, Int.reduceToNat, Int.reduceAdd, Int.reduceSub]) <;> decide
     · (cbv; try simp only [syT, true_and, and_true])
       (subst hL; subst hQ; simp only [L2, L3, std] at *; try simp only [syS, reduceCtorEq, Int.reduceToNat, Int.reduceAdd, Int.reduceSub] at *)
       obtain ⟨q1, q2, q3, q4, q5⟩ := zkz hx
       subst ha'
       have e : lenL (a.l ++ [v]) = a.l.length + 1 := by unfold lenL; simp
       exact ⟨⟨e.symm, fun i j hi hj => zhu a.l v (by rw [<- e]; exact hi) hj⟩, e.symm, Int.emod_eq_of_lt (by omega) (by omega), q1, q5⟩
   | [a, b, c, d, e], hx =>
     (cbv; try simp only [syT, true_and, and_true])
     obtain ⟨a', ha'⟩ : ∃ a', a' = Lv.mk (a.left - 1) (a.l ++ [v]) := ⟨_, rfl⟩
     refine ⟨fun h0 => ?_, fun h0 => ⟨⟨?_, ?_, ?_, ?_, ?_, ⟨[a', b, c, d, e], s, f, v⟩, ?_⟩, ?_, ?_, ?_, ?_, ?_, ?_, ⟨[a', b, c, d, e], s, f, v⟩, ?_⟩⟩
     · (subst hL; subst hQ; simp only [L2, L3, std] at *; try simp only [syS, reduceCtorEq, Int.reduceToNat, Int.reduceAdd, Int.reduceSub] at *)
       exact absurd h0 (by decide)
     · (subst hL; subst hQ; simp only [L2, L3, std]; try simp only [syS, reduceCtorEq, Int.reduceToNat, Int.reduceAdd, Int.reduceSub]) <;> decide
     · (subst hL; subst hQ; simp only [L2, L3, std] at *; try simp only [syS, reduceCtorEq, Int.reduceToNat, Int.reduceAdd, Int.reduceSub] at *)
       exact zeg (zkz hx).2.1
     · (subst hL; subst hQ; simp only [L2, L3, std]; try simp only [syS, reduceCtorEq, Int.reduceToNat, Int.reduceAdd, Int.reduceSub]) <;> decide
     · (subst hL; subst hQ; simp only [L2, L3, std]; try simp only [syS, reduceCtorEq, Int.reduceToNat, Int.reduceAdd, Int.reduceSub]) <;> decide
     · (subst hL; subst hQ; simp only [L2, L3, std]; try simp only [syS, reduceCtorEq, Int.reduceToNat, Int.reduceAdd, Int.reduceSub]) <;> decide
     · (cbv; try simp only [syT, true_and, and_true])
       (subst hL; subst hQ; simp only [L2, L3, std] at *; try simp only [syS, reduceCtorEq, Int.reduceToNat, Int.reduceAdd, Int.reduceSub] at *)
       obtain ⟨q1, q2, q3, q4, q5⟩ := zkz hx
       subst ha'
       have e : lenL (a.l ++ [v]) = a.l.length + 1 := by unfold lenL; simp
       exact ⟨⟨e.symm, fun i j hi hj => zgp a.l v (by rw [<- e]; exact hi) hj⟩, e.symm, Int.emod_eq_of_lt (by omega) (by omega), q1, q5⟩
     · (subst hL; subst hQ; simp only [L2, L3, std]; try simp only [syS, reduceCtorEq, Int.reduceToNat, Int.reduceAdd, Int.reduceSub]) <;> decide
     · (subst hL; subst hQ; simp only [L2, L3, std] at *; try simp only [syS, reduceCtorEq, Int.reduceToNat, Int.reduceAdd, Int.reduceSub] at *)
       exact zeg (zkz hx).2.1
     · (subst hL; subst hQ; simp only [L2, L3, std]; try simp only [syS, reduceCtorEq, Int.reduceToNat, Int.reduceAdd, Int.reduceSub]) <;> decide
     · (subst hL; subst hQ; simp only [L2, L3, std] at *; try simp only [syS, reduceCtorEq, Int.reduceToNat, Int.reduceAdd, Int.reduceSub] at *)
       exact zyd _
     · (subst hL; subst hQ; simp only [L2, L3, std]; try simp only [syS, reduceCtorEq, Int.reduceToNat, Int.reduceAdd, Int.reduceSub]) <;> decide
     · (subst hL; subst hQ; simp only [L2, L3, std]; try simp only [syS, reduceCtorEq, Int.reduceToNat, Int.reduceAdd, Int.reduceSub]) <;> decide
     · (cbv; try simp only [syT, true_and, and_true])
       (subst hL; subst hQ; simp only [L2, L3, std] at *; try simp only [syS, reduceCtorEq, Int.reduceToNat, Int.reduceAdd, Int.reduceSub] at *)
       obtain ⟨q1, q2, q3, q4, q5⟩ := zkz hx
       subst ha'
       have e : lenL (a.l ++ [v]) = a.l.length + 1 := by unfold lenL; simp
       exact ⟨⟨e.symm, fun i j hi hj => zhu a.l v (by rw [<- e]; exact hi) hj⟩, e.symm, Int.emod_eq_of_lt (by omega) (by omega), q1, q5⟩
   | [a, b, c, d, e, k], hx =>
     (cbv; try simp only [syT, true_and, and_true])
     obtain ⟨a', ha'⟩ : ∃ a', a' = Lv.mk (a.left - 1) (a.l ++ [v]) := ⟨_, rfl⟩
     refine ⟨fun h0 => ?_, fun h0 => ⟨⟨?_, ?_, ?_, ?_, ?_, ⟨[a', b, c, d, e, k], s, f, v⟩, ?_⟩, ?_, ?_, ?_, ?_, ?_, ?_, ⟨[a', b, c, d, e, k], s, f, v⟩, ?_⟩⟩
     · (subst hL; subst hQ; simp only [L2, L3, std] at *; try simp only [syS, reduceCtorEq, Int.reduceToNat, Int.reduceAdd, Int.reduceSub] at *)
       exact absurd h0 (by decide)
     · (subst hL; subst hQ; simp only [L2, L3, std]; try simp only [syS, reduceCtorEq, Int.reduceToNat, Int.reduceAdd, Int.reduceSub]) <;> decide
     · (subst hL; subst hQ; simp only [L2, L3, std] at *; try simp only [syS, reduceCtorEq, Int.reduceToNat, Int.reduceAdd, Int.reduceSub] at *)
       exact zeg (zkz hx).2.1
     · (subst hL; subst hQ; simp only [L2, L3, std]; try simp only [syS, reduceCtorEq, Int.reduceToNat, Int.reduceAdd, Int.reduceSub]) <;> decide
     · (subst hL; subst hQ; simp only [L2, L3, std]; try simp only [syS, reduceCtorEq, Int.reduceToNat, Int.reduceAdd, Int.reduceSub]) <;> decide
     · (subst hL; subst hQ; simp only [L2, L3, std]; try simp only [syS, reduceCtorEq, Int.reduceToNat, Int.reduceAdd, Int.reduceSub]) <;> decide
     · (cbv; try simp only [syT, true_and, and_true])
       (subst hL; subst hQ; simp only [L2, L3, std] at *; try simp only [syS, reduceCtorEq, Int.reduceToNat, Int.reduceAdd, Int.reduceSub] at *)
       obtain ⟨q1, q2, q3, q4, q5⟩ := zkz hx
       subst ha'
       have e : lenL (a.l ++ [v]) = a.l.length + 1 := by unfold lenL; simp
       exact ⟨⟨e.symm, fun i j hi hj => zgp a.l v (by rw [<- e]; exact hi) hj⟩, e.symm, Int.emod_eq_of_lt (by omega) (by omega), q1, q5⟩
     · (subst hL; subst hQ; simp only [L2, L3, std]; try simp only [syS, reduceCtorEq, Int.reduceToNat, Int.reduceAdd, Int.reduceSub]) <;> decide
     · (subst hL; subst hQ; simp only [L2, L3, std] at *; try simp only [syS, reduceCtorEq, Int.reduceToNat, Int.reduceAdd, Int.reduceSub] at *)
       exact zeg (zkz hx).2.1
     · (subst hL; subst hQ; simp only [L2, L3, std]; try simp only [syS, reduceCtorEq, Int.reduceToNat, Int.reduceAdd, Int.reduceSub]) <;> decide
     · (subst hL; subst hQ; simp only [L2, L3, std] at *; try simp only [syS, reduceCtorEq, Int.reduceToNat, Int.reduceAdd, Int.reduceSub] at *)
       exact zyd _
     · (subst hL; subst hQ; simp only [L2, L3, std]; try simp only [syS, reduceCtorEq, Int.reduceToNat, Int.reduceAdd, Int.reduceSub]) <;> decide
     · (subst hL; subst hQ; simp only [L2, L3, std]; try simp only [syS, reduceCtorEq, Int.reduceToNat, Int.reduceAdd, Int.reduceSub]) <;> decide
     · (cbv; try simp only [syT, true_and, and_true])
       (subst hL; subst hQ; simp only [L2, L3, std] at *; try simp only [syS, reduceCtorEq, Int.reduceToNat, Int.reduceAdd, Int.reduceSub] at *)
       obtain ⟨q1, q2, q3, q4, q5⟩ := zkz hx
       subst ha'
       have e : lenL (a.l ++ [v]) = a.l.length + 1 := by unfold lenL; simp
       exact ⟨⟨e.symm, fun i j hi hj => zhu a.l v (by rw [<- e]; exact hi) hj⟩, e.symm, Int.emod_eq_of_lt (by omega) (by omega), q1, q5⟩
   | a :: b :: c :: d :: e :: k :: m :: r, hx =>
     have h7 : (a :: b :: c :: d :: e :: k :: m :: r).length <= 6 := by { (subst hL; subst hQ; simp only [L2, L3, std] at *; try simp only [syS, reduceCtorEq, Int.reduceToNat, Int.reduceAdd, Int.reduceSub] at *); exact hx.1 }
     exact absurd h7 (by simp)
 · obtain ⟨st, s, f, v⟩ := x
   cbv at hx
   match st, hx with
   | [], hx =>
     obtain ⟨_, ⟨a, r, h, _⟩, _⟩ : ztb s0 ⟨[], s, f, v⟩ := by (subst hL; subst hQ; simp only [L2, L3, std] at *; try simp only [syS, reduceCtorEq, Int.reduceToNat, Int.reduceAdd, Int.reduceSub] at *); exact hx
     cases h
   | [a], hx =>
     (cbv; try simp only [syT, true_and, and_true])
     obtain ⟨v', hv'⟩ : ∃ v', v' = CV.mk 3 0 [] a.l := ⟨_, rfl⟩
     refine ⟨?_, fun h0 => ⟨?_, ⟨[], s, f, v'⟩, ?_⟩, fun h0 => ⟨⟨[a], s, f, v⟩, ?_⟩⟩
     · (subst hL; subst hQ; simp only [L2, L3, std]; try simp only [syS, reduceCtorEq, Int.reduceToNat, Int.reduceAdd, Int.reduceSub]) <;> decide
     · (subst hL; subst hQ; simp only [L2, L3, std] at *; try simp only [syS, reduceCtorEq, Int.reduceToNat, Int.reduceAdd, Int.reduceSub] at *)
       decide
     · (cbv; try simp only [syT, true_and, and_true])
       (subst hL; subst hQ; simp only [L2, L3, std] at *; try simp only [syS, reduceCtorEq, Int.reduceToNat, Int.reduceAdd, Int.reduceSub] at *)
       obtain ⟨q1, q2⟩ := yq3 hx h0
       subst hv'
       exact ⟨⟨rfl, fun i j hi hj => rfl⟩, rfl, rfl, rfl, rfl, by decide, q1, q2⟩
     · (cbv; try simp only [syT, true_and, and_true])
       (subst hL; subst hQ; simp only [L2, L3, std] at *; try simp only [syS, reduceCtorEq, Int.reduceToNat, Int.reduceAdd, Int.reduceSub] at *)
       exact ⟨yq2 hx h0, Nat.le_refl _⟩
   | [a, b], hx =>
     (cbv; try simp only [syT, true_and, and_true])
     obtain ⟨v', hv'⟩ : ∃ v', v' = CV.mk 3 0 [] a.l := ⟨_, rfl⟩
     refine ⟨?_, fun h0 => ⟨?_, ⟨[b], s, f, v'⟩, ?_⟩, fun h0 => ⟨⟨[a, b], s, f, v⟩, ?_⟩⟩
     · (subst hL; subst hQ; simp only [L2, L3, std]; try simp only [syS, reduceCtorEq, Int.reduceToNat, Int.reduceAdd, Int.reduceSub]) <;> decide
     · (subst hL; subst hQ; simp only [L2, L3, std] at *; try simp only [syS, reduceCtorEq, Int.reduceToNat, Int.reduceAdd, Int.reduceSub] at *)
       decide
     · (cbv; try simp only [syT, true_and, and_true])
       (subst hL; subst hQ; simp only [L2, L3, std] at *; try simp only [syS, reduceCtorEq, Int.reduceToNat, Int.reduceAdd, Int.reduceSub] at *)
       obtain ⟨q1, q2⟩ := yq3 hx h0
       subst hv'
       exact ⟨⟨rfl, fun i j hi hj => rfl⟩, rfl, rfl, rfl, rfl, by decide, q1, q2⟩
     · (cbv; try simp only [syT, true_and, and_true])
       (subst hL; subst hQ; simp only [L2, L3, std] at *; try simp only [syS, reduceCtorEq, Int.reduceToNat, Int.reduceAdd, Int.reduceSub] at *)
       exact ⟨yq2 hx h0, Nat.le_refl _⟩
   | [a, b, c], hx =>
     (cbv; try simp only [syT, true_and, and_true])
     obtain ⟨v', hv'⟩ : ∃ v', v' = CV.mk 3 0 [] a.l := ⟨_, rfl⟩
     refine ⟨?_, fun h0 => ⟨?_, ⟨[b, c], s, f, v'⟩, ?_⟩, fun h0 => ⟨⟨[a, b, c], s, f, v⟩, ?_⟩⟩
     · (subst hL; subst hQ; simp only [L2, L3, std]; try simp only [syS, reduceCtorEq, Int.reduceToNat, Int.reduceAdd, Int.reduceSub]) <;> decide
     · (subst hL; subst hQ; simp only [L2, L3, std] at *; try simp only [syS, reduceCtorEq, Int.reduceToNat, Int.reduceAdd, Int.reduceSub] at *)
       decide
     · (cbv; try simp only [syT, true_and, and_true])
       (subst hL; subst hQ; simp only [L2, L3, std] at *; try simp only [syS, reduceCtorEq, Int.reduceToNat, Int.reduceAdd, Int.reduceSub] at *)
       obtain ⟨q1, q2⟩ := yq3 hx h0
       subst hv'
       exact ⟨⟨rfl, fun i j hi hj => rfl⟩, rfl, rfl, rfl, rfl, by decide, q1, q2⟩
     · (cbv; try simp only [syT, true_and, and_true])
       (subst hL; subst hQ; simp only [L2, L3, std] at *; try simp only [syS, reduceCtorEq, Int.reduceToNat, Int.reduceAdd, Int.reduceSub] at *)
       exact ⟨yq2 hx h0, Nat.le_refl _⟩
   | [a, b, c, d], hx =>
     (cbv; try simp only [syT, true_and, and_true])
     obtain ⟨v', hv'⟩ : ∃ v', v' = CV.mk 3 0 [] a.l := ⟨_, rfl⟩
     refine ⟨?_, fun h0 => ⟨?_, ⟨[b, c, d], s, f, v'⟩, ?_⟩, fun h0 => ⟨⟨[a, b, c, d], s, f, v⟩, ?_⟩⟩
     · (subst hL; subst hQ; simp only [L2, L3, std]; try simp only [syS, reduceCtorEq, Int.reduceToNat, Int.reduceAdd, Int.reduceSub]) <;> decide
     · (subst hL; subst hQ; simp only [L2, L3, std] at *; try simp only [syS, reduceCtorEq, Int.reduceToNat, Int.reduceAdd, Int.reduceSub] at *)
       decide
     · (cbv; try simp only [syT, true_and, and_true])
       (subst hL; subst hQ; simp only [L2, L3, std] at *; try simp only [syS, reduceCtorEq, Int.reduceToNat, Int.reduceAdd, Int.reduceSub] at *)
       obtain ⟨q1, q2⟩ := yq3 hx h0
       subst hv'
       exact ⟨⟨rfl, fun i j hi hj => rfl⟩, rfl, rfl, rfl, rfl, by decide, q1, q2⟩
     · (cbv; try simp only [syT, true_and, and_true])
       (subst hL; subst hQ; simp only [L2, L3, std] at *; try simp only [syS, reduceCtorEq, Int.reduceToNat, Int.reduceAdd, Int.reduceSub] at *)
       exact ⟨yq2 hx h0, Nat.le_refl _⟩
   | [a, b, c, d, e], hx =>
     (cbv; try simp only [syT, true_and, and_true])
     obtain ⟨v', hv'⟩ : ∃ v', v' = CV.mk 3 0 [] a.l := ⟨_, rfl⟩
     refine ⟨?_, fun h0 => ⟨?_, ⟨[b, c, d, e], s, f, v'⟩, ?_⟩, fun h0 => ⟨⟨[a, b, c, d, e], s, f, v⟩, ?_⟩⟩
     · (subst hL; subst hQ; simp only [L2, L3, std]; try simp only [syS, reduceCtorEq, Int.reduceToNat, Int.reduceAdd, Int.reduceSub]) <;> decide
     · (subst hL; subst hQ; simp only [L2, L3, std] at *; try simp only [syS, reduceCtorEq, Int.reduceToNat, Int.reduceAdd, Int.reduceSub] at *)
       decide
     · (cbv; try simp only [syT, true_and, and_true])
       (subst hL; subst hQ; simp only [L2, L3, std] at *; try simp only [syS, reduceCtorEq, Int.reduceToNat, Int.reduceAdd, Int.reduceSub] at *)
       obtain ⟨q1, q2⟩ := yq3 hx h0
       subst hv'
       exact ⟨⟨rfl, fun i j hi hj => rfl⟩, rfl, rfl, rfl, rfl, by decide, q1, q2⟩
     · (cbv; try simp only [syT, true_and, and_true])
       (subst hL; subst hQ; simp only [L2, L3, std] at *; try simp only [syS, reduceCtorEq, Int.reduceToNat, Int.reduceAdd, Int.reduceSub] at *)
       exact ⟨yq2 hx h0, Nat.le_refl _⟩
   | [a, b, c, d, e, k], hx =>
     (cbv; try simp only [syT, true_and, and_true])
     obtain ⟨v', hv'⟩ : ∃ v', v' = CV.mk 3 0 [] a.l := ⟨_, rfl⟩
     refine ⟨?_, fun h0 => ⟨?_, ⟨[b, c, d, e, k], s, f, v'⟩, ?_⟩, fun h0 => ⟨⟨[a, b, c, d, e, k], s, f, v⟩, ?_⟩⟩
     · (subst hL; subst hQ; simp only [L2, L3, std]; try simp only [syS, reduceCtorEq, Int.reduceToNat, Int.reduceAdd, Int.reduceSub]) <;> decide
     · (subst hL; subst hQ; simp only [L2, L3, std] at *; try simp only [syS, reduceCtorEq, Int.reduceToNat, Int.reduceAdd, Int.reduceSub] at *)
       decide
     · (cbv; try simp only [syT, true_and, and_true])
       (subst hL; subst hQ; simp only [L2, L3, std] at *; try simp only [syS, reduceCtorEq, Int.reduceToNat, Int.reduceAdd, Int.reduceSub] at *)
       obtain ⟨q1, q2⟩ := yq3 hx h0
       subst hv'
       exact ⟨⟨rfl, fun i j hi hj => rfl⟩, rfl, rfl, rfl, rfl, by decide, q1, q2⟩
     · (cbv; try simp only [syT, true_and, and_true])
       (subst hL; subst hQ; simp only [L2, L3, std] at *; try simp only [syS, reduceCtorEq, Int.reduceToNat, Int.reduceAdd, Int.reduceSub] at *)
       exact ⟨yq2 hx h0, Nat.le_refl _⟩
   | a :: b :: c :: d :: e :: k :: m :: r, hx =>
     have h7 : (a :: b :: c :: d :: e :: k :: m :: r).length <= 6 := by { (subst hL; subst hQ; simp only [L2, L3, std] at *; try simp only [syS, reduceCtorEq, Int.reduceToNat, Int.reduceAdd, Int.reduceSub] at *); exact hx.1 }
     exact absurd h7 (by simp)
 · (cbv; try simp only [syT, true_and, and_true])
   obtain ⟨f, hf⟩ : ∃ f, f = s0.length + 1 := ⟨_, rfl⟩
   refine ⟨fun h => ?_, fun h => ⟨⟨[], s0, f, .mk 0 0 [] []⟩, ?_⟩⟩
   · (subst hL; subst hQ; simp only [L2, L3, std] at *; try simp only [syS, reduceCtorEq, Int.reduceToNat, Int.reduceAdd, Int.reduceSub] at *)
     exact zb7 (nm_0 s0 h)
   · (cbv; try simp only [syT, true_and, and_true])
     (subst hL; subst hQ; simp only [L2, L3, std] at *; try simp only [syS, reduceCtorEq, Int.reduceToNat, Int.reduceAdd, Int.reduceSub] at *)
     rw [hf]
     exact nm_1 s0 (by omega) _
end Sy
end Go.Proofs.YtlphgephdhadhaaGreat
namespace Go.Proofs.YtlphgephdhadhaaGreat
namespace Sy
open Go Go.RowKit
set_option maxRecDepth 100000
set_option linter.unusedSimpArgs false
set_option linter.unusedVariables false
theorem zoy {m : Int} (h : zbx m) (g : Nat) (st : List Lv) (c : UInt8) (r : List UInt8) (hc : 1 <= c.toNat /\ c.toNat <= 3) : zaw (g + 1) st (c :: (zar m ++ r)) =
   if c.toNat = 1 then zbn (zaw g) st (.mk 1 m [] []) r
   else if c.toNat = 2 then
     if (r.length : Int) < m then zbu 3
     else zbn (zaw g) st (.mk 2 0 (r.take m.toNat) []) (r.drop m.toNat)
   else if st.length = 6 then zbu 8
   else zbz (zaw g) (⟨m, []⟩ :: st) r := by
 obtain ⟨e1, e2, e3⟩ := zw3 h r
 have hcb : cb (c :: (zar m ++ r)) 0 = c.toNat := rfl
 have hr : za3 (c :: (zar m ++ r)) = r := by
   unfold za3
   rw [List.drop_succ_cons, List.drop_zero, e2]
   simp
 rw [zaw, if_neg (by simp), hcb, if_neg (by omega), List.drop_succ_cons, List.drop_zero, e1, e3, hr, if_neg (by simp)]
theorem yoz (v : CV) : 0 <= zdo v /\ 0 <= zb3 v.ls := by
 have h0 : ∀ b : List CV, 0 <= zb3 b := by
   intro b
   induction b with
   | nil => rw [zb3]; omega
   | cons v l ih => rw [zb3]; omega
 refine ⟨?_, h0 _⟩
 cases v with
 | mk k n s l =>
   rw [zdo]
   have := h0 l
   split <;> omega
def ypv (v : CV) : Prop := ∀ (st : List Lv) (s : List UInt8) (f : Nat), wfV v -> zf4 v = true -> (st.length : Int) + zdo v <= 6 -> (zbd v).length <= 90000000 -> (zbd v).length + s.length < f ->
 ∃ f', s.length < f' /\ zaw f st (zbd v ++ s) = zbn (zaw f') st v s
theorem ygc (v : CV) : 0 < (zbd v).length := by
 cases v with
 | mk k n s l =>
   rw [zal, List.length_append]
   show 0 < 1 + _
   omega
theorem zq9 : ∀ l : List CV, l.length <= (zao l).length
 | [] => by simp
 | v :: l => by
   have := zq9 l
   have := ygc v
   rw [zao, List.length_append, List.length_cons]
   omega
theorem zvg (st : List Lv) (s : List UInt8) : ∀ (l : List CV) (acc : List CV) (f : Nat), (∀ w ∈ l, ypv w) -> zg6 l -> zdp l = true -> (st.length : Int) + 1 + zb3 l <= 6 -> (zao l).length <= 90000000 -> (zao l).length + s.length < f ->
   ∃ f', s.length < f' /\ zbz (zaw f) (⟨(l.length : Int), acc⟩ :: st) (zao l ++ s) = zbn (zaw f') st (.mk 3 0 [] (acc ++ l)) s
 | [], acc, f, hr, hw, hb, hd, ht, hf => by
   refine ⟨f, by rw [zao] at hf; simpa using hf, ?_⟩
   rw [zbz, if_pos (show ((List.length ([] : List CV) : Nat) : Int) = 0 from rfl), zao, List.nil_append, List.append_nil]
 | v :: l, acc, f, hr, hw, hb, hd, ht, hf => by
   rw [zg6] at hw
   rw [zdp, Bool.and_eq_true] at hb
   rw [zb3] at hd
   rw [zao, List.length_append] at ht hf
   obtain ⟨f1, h1, e1⟩ := hr v (by simp) (⟨((v :: l).length : Int), acc⟩ :: st) (zao l ++ s) f hw.1 hb.1 (by rw [List.length_cons]; omega) (by omega) (by rw [List.length_append]; omega)
   rw [List.length_append] at h1
   obtain ⟨f2, h2, e2⟩ := zvg st s l (acc ++ [v]) f1 (fun w hw => hr w (by simp [hw])) hw.2 hb.2 (by omega) (by omega) h1
   refine ⟨f2, h2, ?_⟩
   rw [zbz, if_neg (by simp; omega), zao, List.append_assoc, e1]
   have e3 : (((v :: l).length : Int) - 1) = (l.length : Int) := by simp
   rw [zbz] at e2
   rw [zbn]
   simp only [e3]
   rw [e2, List.append_assoc, List.singleton_append]
theorem reads (v : CV) : ypv v := by
 refine yef (p := ypv) (fun k n s l ih => ?_) v
 intro st r f hw hb hd ht hf
 rw [wfV] at hw
 obtain ⟨g, rfl⟩ : ∃ g, f = g + 1 := ⟨f - 1, by omega⟩
 rw [zal] at ht hf |-
 rw [zf4] at hb
 by_cases h1 : k = 1
 · subst h1
   rw [if_pos rfl] at hb ht hf |-
   simp only [Bool.and_eq_true, decide_eq_true_eq, List.isEmpty_iff] at hb
   obtain ⟨rfl, rfl⟩ := hb
   rw [List.length_append] at hf
   have e : zf3 1 = [1] := rfl
   rw [e] at hf |-
   refine ⟨g, by simp at hf; omega, ?_⟩
   rw [List.singleton_append, List.cons_append, zoy hw.1 g st 1 r (by decide)]
   rfl
 · rw [if_neg h1] at hb ht hf |-
   by_cases h2 : k = 2
   · subst h2
     rw [if_pos rfl] at hb ht hf |-
     simp only [Bool.and_eq_true, decide_eq_true_eq, List.isEmpty_iff] at hb
     obtain ⟨rfl, rfl⟩ := hb
     rw [List.length_append, List.length_append] at ht hf
     have e : zf3 2 = [2] := rfl
     rw [e] at hf |-
     refine ⟨g, by simp at hf; omega, ?_⟩
     rw [List.singleton_append, List.cons_append, List.append_assoc, zoy ⟨by omega, by omega⟩ g st 2 (s ++ r) (by decide)]
     rw [if_neg (by decide), if_pos (by decide), if_neg (by simp; omega)]
     rw [Int.toNat_natCast, List.take_left, List.drop_left]
   · rw [if_neg h2] at hb ht hf |-
     by_cases h3 : k = 3
     · subst h3
       rw [if_pos rfl] at hb
       simp only [Bool.and_eq_true, decide_eq_true_eq] at hb
       obtain ⟨⟨rfl, rfl⟩, hb⟩ := hb
       rw [zdo, if_pos rfl] at hd
       rw [List.length_append, List.length_append] at ht hf
       have e : zf3 3 = [3] := rfl
       rw [e] at hf |-
       have hll := zq9 l
       have hdn := (yoz (.mk 3 0 [] l)).2
       have hdn : 0 <= zb3 l := hdn
       obtain ⟨f', h5, h6⟩ := zvg st r l [] g ih hw.2.2 hb (by omega) (by omega) (by simp at hf; omega)
       refine ⟨f', h5, ?_⟩
       rw [List.singleton_append, List.cons_append, List.append_assoc, zoy ⟨by omega, by omega⟩ g st 3 (zao l ++ r) (by decide)]
       rw [if_neg (by decide), if_neg (by decide), if_neg (by omega), h6, List.nil_append]
     · rw [if_neg h3] at hb; cases hb
theorem yn8 {v : CV} (hw : wfV v) (hb : zf4 v = true) (hd : zdo v <= 6) {s : List UInt8} (hl : (zbd v).length + s.length <= 8192) : zb6 (zbd v ++ s) = ⟨v, s, 0⟩ := by
 unfold zb6
 rw [if_neg (by rw [List.length_append]; omega)]
 obtain ⟨f', h1, h2⟩ := reads v [] s ((zbd v ++ s).length + 1) hw hb (by simp; exact hd) (by omega) (by rw [List.length_append]; exact Nat.lt_succ_self _)
 rw [h2, zbn]
def zj6 (s : List UInt8) : Int := if (zb6 s).e = 0 /\ ¬ (zb6 s).r = [] then 4 else (zb6 s).e
def zc1 (s : List UInt8) : CV := if zj6 s = 0 then (zb6 s).v else .mk 0 0 [] []
theorem ysu {v : CV} (hw : wfV v) (hb : zf4 v = true) (hd : zdo v <= 6) (hl : (zbd v).length <= 8192) : zc1 (zbd v) = v /\ zj6 (zbd v) = 0 := by
 have h := yn8 hw hb hd (s := []) (by simpa using hl)
 rw [List.append_nil] at h
 have e : zj6 (zbd v) = 0 := by unfold zj6; rw [h]; rfl
 exact ⟨by unfold zc1; rw [if_pos e, h], e⟩
theorem zv1 {n : Nat} {get : Nat -> Nat -> AV} {l : List CV} (hn : n = l.length) (h : ∀ i j, i < n -> j < 4 -> get i j = zf2 (zae l i) j) : rdL (.lst 4 n get) = l /\ okL (.lst 4 n get) := by
 constructor
 · apply List.ext_getElem
   · rw [zln, hn]
   · intro i h1 h2
     have hi : i < n := by omega
     have e : ∀ m : List CV, ∀ hm : i < m.length, m[i] = zae m i := fun m hm => by rw [zae, List.getD_eq_getElem?_getD, List.getElem?_eq_getElem hm]; rfl
     rw [e _ h1, e _ h2, zv0 hi, h i 0 hi (by omega), h i 1 hi (by omega), h i 2 hi (by omega), h i 3 hi (by omega), zgu, zgt, zgs, zgr]
     show CV.mk _ _ _ (rdL (.lst 4 (zfa (zae l i)) (zgq (zae l i)))) = _
     exact zfe _
 · refine ⟨rfl, fun i hi => ?_⟩
   rw [h i 0 hi (by omega), h i 1 hi (by omega), h i 2 hi (by omega), h i 3 hi (by omega), zgu, zgt, zgs, zgr]
   exact ⟨⟨_, rfl⟩, ⟨_, rfl⟩, ⟨_, rfl⟩, (zkk (zae l i)).2⟩
theorem zy9 {a b : List CV} {i : Nat} (h : i < a.length) : zae (a ++ b) i = zae a i := by
 rw [zae, zae, List.getD_eq_getElem?_getD, List.getD_eq_getElem?_getD, List.getElem?_append_left h]
theorem zy8 (a : List CV) (v : CV) : zae (a ++ [v]) a.length = v := by
 rw [zae, List.getD_eq_getElem?_getD, List.getElem?_append_right (Nat.le_refl _)]; simp
theorem yg1 (a b : List CV) : zg6 (a ++ b) ↔ zg6 a /\ zg6 b := by
 induction a with
 | nil => rw [List.nil_append, zg6]; simp
 | cons x l ih => rw [List.cons_append, zg6, zg6, ih]; exact ⟨fun h => ⟨⟨h.1, h.2.1⟩, h.2.2⟩, fun h => ⟨h.1.1, h.1.2, h.2⟩⟩
def cvB (L : zaa) (v : CV) : AV := .agg [.int .i64 (L CV.kd v), .int .u64 (L CV.nn v), .str (L CV.tx v), .lst 4 (L zfa v) (fun i j => cv1 L (L2 L zae (L CV.ls v) i) j)]
def zu2 (L : zaa) : zcl := (30, fun xs => match xs with | [.str s] => some (True, .tup [cvB L (L zc1 s), .int .i64 (L zj6 s)]) | _ => none)
theorem zs0 {s : List UInt8} {e : Int} (h : zj6 s = e) (he : ¬ e = 0) : zb9 (cvB std (zc1 s)) (.agg [.int .i64 0, .int .u64 0, .str [], .nils]) /\ e = zj6 s := by
 have e0 : zc1 s = .mk 0 0 [] [] := by unfold zc1; rw [if_neg (by rw [h]; exact he)]
 rw [e0]
 refine ⟨?_, h.symm⟩
 show zb9 (.agg [.int .i64 0, .int .u64 0, .str [], .lst 4 0 _]) _
 simp [zc2, zch, zdf, zbh]
theorem yem {s : List UInt8} {v : CV} (hv : (zb6 s).v = v) (h : zj6 s = 0) : zb9 (cvB std (zc1 s)) (.agg [.int .i64 v.kd, .int .u64 v.nn, .str v.tx, .lst 4 (zfa v) (zgq v)]) /\ 0 = zj6 s := by
 have e0 : zc1 s = v := by unfold zc1; rw [if_pos h, hv]
 rw [e0]
 refine ⟨?_, h.symm⟩
 show zb9 (.agg [.int .i64 v.kd, .int .u64 v.nn, .str v.tx, .lst 4 (zfa v) (fun i j => cv1 std (zae v.ls i) j)]) _
 simp only [zc2, zch, zeo, zbh, true_and, and_true]
 exact fun i j hi hj => by rw [zfo _ _ hj]; exact zb4 _ _ _ hi
theorem zyz : zcs Tryz.prog (zu2 std) := by
 intro xs p r h hp
 dsimp only [zu2] at h |-
 split at h <;> cases h
 try simp only [L2, L3, std] at hp |-
 rename_i s
 refine zab (T := tt) (S := fun L => zbi [ycf L]) (lo := noA) (lb := noA) 5 (fn := Tryz.f30) rfl rfl (by kernel_rfl) (by kernel_rfl) rfl zah (za9 ⟨ycg, trivial⟩) (by kernel_rfl) ?_
 (intro L P1 Q1 hL hP hQ; cbv; subst hL; simp only [L2, L3, std, syT]; subst hQ)
 (simp only [syS, reduceCtorEq, Int.reduceToNat, Int.reduceAdd, Int.reduceSub])
 refine ⟨fun h1 => ⟨fun h2 => ⟨fun _ => ?_, fun h => absurd h (by decide)⟩, fun h2 => ⟨fun h => absurd h1 h, fun _ => ?_⟩⟩, fun h1 => ⟨fun _ => ?_, fun h => absurd h h1⟩⟩
 · exact zs0 (by unfold zj6; rw [if_pos ⟨h1, h2⟩]) (by decide)
 · exact yem rfl (by unfold zj6; rw [if_neg (fun h => h.2 h2)]; exact h1)
 · exact zs0 (by unfold zj6; rw [if_neg (fun h => h1 h.1)]) h1
theorem yhj {α : Type} {V : Vw α} (val : α -> CV) {l : List α} {i : Nat} (h : i < l.length) : zae (l.map val) i = val (zzg V l i) := by
 rw [zi7 h, zae, List.getD_eq_getElem?_getD, List.getElem?_eq_getElem (by simpa using h)]; simp
def zwy : List CV -> List AV
 | [] => []
 | v :: l => .int .i64 v.kd :: .int .u64 v.nn :: .str v.tx :: .lst 4 (zfa v) (zgq v) :: zwy l
theorem zs1 : ∀ (l : List CV) (i j : Nat), i < l.length -> j < 4 -> zby .dead (zwy l) (i * 4 + j) = zf2 (zae l i) j
 | [], i, j, hi, _ => by simp at hi
 | v :: l, 0, j, _, hj => by
   match j, hj with
   | 0, _ => exact (zgu v).symm
   | 1, _ => exact (zgt v).symm
   | 2, _ => exact (zgs v).symm
   | 3, _ => exact (zgr v).symm
 | v :: l, i + 1, j, hi, hj => by
   rw [show (i + 1) * 4 + j = i * 4 + j + 4 by omega]
   exact zs1 l i j (by simpa using hi) hj
theorem yen (l : List CV) {n : Nat} {cs : List AV} (hn : n = l.length) (h : cs = zwy l) : rdL (.lst 4 n fun i j => zby .dead cs (i * 4 + j)) = l /\ okL (.lst 4 n fun i j => zby .dead cs (i * 4 + j)) :=
 zv1 hn fun i j hi hj => by rw [h]; exact zs1 l i j (by omega) hj
theorem zo1 (l : List CV) {n : Nat} {cs : List AV} (hn : n = l.length) (h : cs = zwy l) : rdL (.lst 4 n fun i j => zby .dead cs (Nat.add 0 i * 4 + j)) = l /\ okL (.lst 4 n fun i j => zby .dead cs (Nat.add 0 i * 4 + j)) := by
 have e : (fun i j => zby .dead cs (Nat.add 0 i * 4 + j)) = fun i j => zby AV.dead cs (i * 4 + j) := by
   funext i j
   rw [show Nat.add 0 i = i from Nat.zero_add i]
 rw [e]
 exact yen l hn h
theorem ymt (y : Pr) : bytesOf 16 (fun i => za7 [za0 y 0, za0 y 1, za0 y 2, za0 y 3, za0 y 4, za0 y 5, za0 y 6, za0 y 7, za0 y 8, za0 y 9, za0 y 10, za0 y 11, za0 y 12, za0 y 13, za0 y 14, za0 y 15] i) = zjr y := by
 rw [zos]
 have := ybm y
 rw [<- this]
 unfold bytesOf
 apply List.ext_getElem
 · simp
 · intro i h1 h2
   have hi : i < 16 := by simpa using h1
   simp only [List.getElem_map, List.getElem_range]
   unfold zv3 za0
   rw [if_pos hi]
def yle (L : zaa) : Prop :=
 (∀ y : Pr, L (L bytesOf 16) (fun i => (AV.int .u8 (L2 L za7 [L (L za0 y) 0, L (L za0 y) 1, L (L za0 y) 2, L (L za0 y) 3, L (L za0 y) 4, L (L za0 y) 5, L (L za0 y) 6, L (L za0 y) 7, L (L za0 y) 8, L (L za0 y) 9, L (L za0 y) 10, L (L za0 y) 11, L (L za0 y) 12, L (L za0 y) 13, L (L za0 y) 14, L (L za0 y) 15] i)).toI) = L zjr y) /\
 (∀ a b c : CV, L rdL (.lst 4 3 fun i j => zby .dead [.int .i64 (L CV.kd a), .int .u64 (L CV.nn a), .str (L CV.tx a), .lst 4 (L zfa a) (L zgq a), .int .i64 (L CV.kd b), .int .u64 (L CV.nn b), .str (L CV.tx b), .lst 4 (L zfa b) (L zgq b), .int .i64 (L CV.kd c), .int .u64 (L CV.nn c), .str (L CV.tx c), .lst 4 (L zfa c) (L zgq c)] (L2 L Nat.add 0 i * 4 + j)) = [a, b, c]) /\
 (∀ a b c : CV, (L okL (.lst 4 3 fun i j => zby .dead [.int .i64 (L CV.kd a), .int .u64 (L CV.nn a), .str (L CV.tx a), .lst 4 (L zfa a) (L zgq a), .int .i64 (L CV.kd b), .int .u64 (L CV.nn b), .str (L CV.tx b), .lst 4 (L zfa b) (L zgq b), .int .i64 (L CV.kd c), .int .u64 (L CV.nn c), .str (L CV.tx c), .lst 4 (L zfa c) (L zgq c)] (L2 L Nat.add 0 i * 4 + j))) = True)
theorem ytb : yle std :=
 ⟨fun y => ymt y,
  fun a b c => (zo1 [a, b, c] rfl rfl).1,
  fun a b c => eq_true (zo1 [a, b, c] rfl rfl).2⟩
def zs5 (b : Bool) : Int := if b = true then 1 else 0
def yq7 (e : Le) : List CV := [yfr (zjr e.p), zkm e.d, zkm (zs5 e.h)]
def zc0 (e : Le) : CV := zf7 (yq7 e)
def zj0 (l : List Le) : List CV := l.map zc0
def zdq (l : List Le) : CV := zf7 (zj0 l)
def ldT (l : List Le) : List UInt8 := zbd (zdq l)
def ztf (l : List Le) : Prop := l.length <= 64 /\ ∀ e ∈ l, zig e
theorem yie {e : Le} (h : zig e) : wfV (zc0 e) := by
 obtain ⟨h1, h2, h3⟩ := h
 have hl := zoq e.p
 have hb : 0 <= zs5 e.h /\ zs5 e.h <= 1 := by unfold zs5; split <;> omega
 simp only [zc0, yq7, zf7, yfr, zkm, wfV, zg6, zbx, List.length_nil]
 refine ⟨⟨by omega, by omega⟩, by omega, ⟨⟨by omega, by omega⟩, by omega, trivial⟩, ⟨⟨by omega, by omega⟩, by omega, trivial⟩, ⟨⟨by omega, by omega⟩, by omega, trivial⟩, trivial⟩
theorem zyn (e : Le) : zf4 (zc0 e) = true := by
 simp only [zc0, yq7, zf7, yfr, zkm, zf4, zdp]
 simp
theorem zym (e : Le) : zdo (zc0 e) = 1 := by
 simp only [zc0, yq7, zf7, yfr, zkm, zdo, zb3]
 decide
theorem zyl (e : Le) : sizeC (zc0 e) = 4 := by
 simp only [zc0, yq7, zf7, yfr, zkm, ze6, zbw, zdw]
theorem yd2 {e : Le} (h : zig e) : (zbd (zc0 e)).length <= 60 := by
 obtain ⟨h1, h2, h3⟩ := h
 have hl := zoq e.p
 have hb : 0 <= zs5 e.h /\ zs5 e.h <= 1 := by unfold zs5; split <;> omega
 have s1 := zda (n := (3 : Nat)) ⟨by omega, by omega⟩
 have s2 := zda (n := ((zjr e.p).length : Int)) ⟨by omega, by omega⟩
 have s3 := zda (n := e.d) ⟨by omega, by omega⟩
 have s4 := zda (n := zs5 e.h) ⟨by omega, by omega⟩
 have hk : ∀ k, (zf3 k).length = 1 := fun k => rfl
 unfold zc0 yq7 zf7 yfr zkm
 rw [zal, if_neg (by decide), if_neg (by decide), zao, zao, zao, zao, zal, if_neg (by decide), if_pos rfl, zal, if_pos rfl, zal, if_pos rfl]
 simp only [List.length_append, hk, List.length_nil, List.length_cons, Nat.zero_add, Nat.reduceAdd]
 have s1 : (zar ((3 : Nat) : Int)).length <= 10 := s1
 omega
theorem znm : ∀ {l : List Le}, (∀ e ∈ l, zig e) -> zg6 (zj0 l) /\ zdp (zj0 l) = true /\ zb3 (zj0 l) <= 1 /\ sizeCs (zj0 l) = 4 * l.length /\ (zao (zj0 l)).length <= 60 * l.length
 | [], _ => by
   unfold zj0
   simp only [List.map_nil]
   rw [zg6, zdp, zb3, zdw, zao]
   exact ⟨trivial, rfl, by decide, rfl, Nat.le_refl _⟩
 | e :: l, h => by
   obtain ⟨h1, h2, h3, h4, h5⟩ := znm (l := l) (fun x hx => h x (List.mem_cons_of_mem _ hx))
   have he := h e (by simp)
   have e1 : zj0 (e :: l) = zc0 e :: zj0 l := rfl
   rw [e1, zg6, zdp, zb3, zbw, zao, List.length_append, zyn, zym, zyl, List.length_cons]
   have := yd2 he
   refine ⟨⟨yie he, h1⟩, by rw [h2]; rfl, by omega, by omega, by omega⟩
theorem zm4 {l : List Le} (h : ztf l) : zx9 (zdq l) /\ ybq (zdq l) = 0 /\ yfu (zdq l) = ldT l /\ zoe 300 (zdq l) /\ wfV (zdq l) /\ zf4 (zdq l) = true /\ zdo (zdq l) <= 6 /\ (ldT l).length <= 8192 := by
 obtain ⟨hl, ho⟩ := h
 obtain ⟨h1, h2, h3, h4, h5⟩ := znm ho
 have hlen : (zj0 l).length = l.length := by simp [zj0]
 have s1 := zda (n := ((zj0 l).length : Int)) ⟨by omega, by omega⟩
 have hw : wfV (zdq l) := by
   unfold zdq zf7
   rw [wfV]
   exact ⟨⟨by omega, by omega⟩, by simp, h1⟩
 have hb : zf4 (zdq l) = true := by
   unfold zdq zf7
   rw [zf4, if_neg (by decide), if_neg (by decide), if_pos rfl, h2]
   simp
 have hd : zdo (zdq l) <= 2 := by
   unfold zdq zf7
   rw [zdo, if_pos rfl]
   omega
 have ht : (zbd (zdq l)).length <= 8000 := by
   unfold zdq zf7
   rw [zal, if_neg (by decide), if_neg (by decide), List.length_append, List.length_append]
   have : (zf3 3).length = 1 := rfl
   omega
 have hp : ybq (zdq l) = 0 := by
   unfold ybq
   rw [if_pos hb, if_neg (by omega), if_neg (by omega)]
 refine ⟨⟨hw, by omega⟩, hp, by unfold yfu; rw [if_pos hp]; rfl, ⟨?_, by decide⟩, hw, hb, by omega, by unfold ldT; omega⟩
 unfold zdq zf7
 rw [ze6]
 omega
theorem yjj (g : Nat -> CV) {v : CV} {i q j : Nat} (hv : v = g i) (hq : q < i + 1) (hj : j < 4) :
   zhv std (zbo q i) (cv1 std (g q) j) (zby .dead [.int .i64 v.kd, .int .u64 v.nn, .str v.tx, .lst 4 (zfa v) (zgq v)] (Nat.add 0 (Nat.sub q i) * 4 + j)) = cv1 std (g q) j := by
 subst hv
 rw [show Nat.add 0 (Nat.sub q i) = q - i from Nat.zero_add _]
 exact yp1 g hq hj
def ypo (L : zaa) : zcl := (37, fun xs => match xs with | [.bool b] => some (True, .int .u64 (L zs5 b)) | _ => none)
theorem yjo : zcs Tryz.prog (ypo std) := by
 intro xs p r h hp
 dsimp only [ypo] at h |-
 split at h <;> cases h
 try simp only [L2, L3, std] at hp |-
 rename_i b
 refine zab (T := tt) (S := noS) (lo := noA) (lb := noA) 5 (fn := Tryz.f37) rfl rfl (by kernel_rfl) (by kernel_rfl) rfl zah (zdd _) (by kernel_rfl) ?_
 (intro L P1 Q1 hL hP hQ; cbv; subst hL; simp only [L2, L3, std, syT]; subst hQ)
 cases b <;> simp [zs5, zgo]
def ltxA (L : zaa) (l : List Le) : Nat -> St -> Option Ann := fun id st => match id with
 | 0 => some ⟨Nat, fun i => [(11, .int .i64 (L za8 i)), (3, .sl 900 4 0 i)], fun i => [(900, .row 66 4 i (fun q j => cv1 L (L zc0 (L (L zak l) q)) j))], [9, 10], [], fun i => L2 L leLe l i, fun i => L2 L toLe l i⟩
 | _ => none
def yi2 (L : zaa) : zcl := (16, fun xs => match xs with
 | [.agg [x]] => some (L zi6 x /\ L ztf (L zan x), .str (L ldT (L zan x)))
 | _ => none)
theorem zvz : zcs Tryz.prog (yi2 std) := by
 intro xs p r h hp
 dsimp only [yi2] at h |-
 split at h <;> cases h
 try simp only [L2, L3, std] at hp |-
 rename_i x
 obtain ⟨ho, hp⟩ := hp
 refine zue zec ho ?_
 have hp : ztf (zan x) := hp
 show zaf Tryz.prog 16 (.agg [zr0 std leV (zan x)] :: []) (.str (ldT (zan x)))
 generalize zan x = l at hp |-
 obtain ⟨q1, q2, q3, q4, q5, q6, q7, q8⟩ := zm4 hp
 obtain ⟨hl64, hok⟩ := hp
 refine zau (T := tt) (S := fun L => zbi [ylk L, yhi L, ypo L, zw8 L, zwx 300 L]) (lo := fun L => ltxA L l) (lb := noA) 5 (fn := Tryz.f16) (xs := fun L => [.agg [zci L l]]) rfl rfl (by kernel_rfl) (by kernel_rfl) rfl zah (za9 ⟨yg5, zvj, yjo, zr3, zo0 300, trivial⟩) (by kernel_rfl) ?_
 intro L P' Q' hL hP hQ
 have hw : zkn l = l.length := rfl
 obtain ⟨hE, hEo, hF, hFo, hEta, hPe, hMp, hQ0, hQo, hQ1, hQ1o, hG, hGo⟩ : zg4 L := by subst hL; exact zgx
 (cbv; try simp only [syT, true_and, and_true])
 refine ⟨⟨0, ?_⟩, fun i hi => ?_⟩
 · (cbv; try simp only [syT, true_and, and_true])
   subst hL
   exact ⟨fun _ _ _ _ => trivial, rfl, Nat.zero_le _⟩
 · have hi2 : i <= l.length := by
     have h := hi
     rw [hL] at h
     exact h
   clear hi
   obtain ⟨hRB, hR3, hR3o⟩ : yle L := by subst hL; exact ytb
   obtain ⟨i', hi'⟩ : ∃ i', i' = i + 1 := ⟨_, rfl⟩
   (cbv; try simp only [syT, true_and, and_true])
   simp only [hRB, hR3, hR3o, true_and]
   have hin : L (L ilt (L za8 i)) (L za8 (L zkn l)) = true -> i < l.length := by
     intro h
     rw [hL] at h
     have h : ilt (za8 i) (za8 l.length) = true := h
     rw [zc6, za5, za5] at h
     omega
   refine ⟨fun hlt => ⟨?_, fun q hq => ⟨_, rfl⟩, ?_, ?_, i', ?_⟩, fun hge => ?_⟩
   · have hi := hin hlt
     subst hL
     show inR (za8 i) (za8 l.length) = true
     rw [zfn, za5, za5]; omega
   · subst hL
     show 3 <= 1000000
     omega
   · subst hL
     show zcq 56 i 1 = true
     rw [zhk]; omega
   · have hi := hin hlt
     (cbv; try simp only [syT, true_and, and_true])
     try simp only [hRB, hR3, hR3o, true_and]
     subst hL
     have ho := hok _ (List.getElem_mem hi)
     rw [<- zd2 hi] at ho
     have ew : IntKind.u64.wrap (zak l i).d = (zak l i).d := by
       have := ho.2
       rw [zsj]; omega
     have ev : zf7 [yfr (zjr (zak l i).p), zkm (IntKind.u64.wrap (zak l i).d), zkm (zs5 (zak l i).h)] = zc0 (zak l i) := by rw [ew]; rfl
     refine ⟨⟨hi'.symm, fun q j hq hj => yjj (fun q => zc0 (zak l q)) ev (by omega) hj⟩, fun _ _ _ _ => trivial, hi'.symm, ?_, ?_, ?_⟩
     · show zcc .i64 (za8 i) 1 = za8 i'
       unfold zcc za8
       rw [zct]; omega
     · show i' <= l.length
       omega
     · show l.length - i' < l.length - i
       omega
   · have hil : i = l.length := by
       rw [hL] at hge
       have hge : ilt (za8 i) (za8 l.length) = false := hge
       rw [ze4, za5, za5] at hge
       omega
     subst hL; subst hQ
     subst hil
     obtain ⟨k1, k2⟩ : rdL (.lst 4 l.length fun q => cv1 std (zc0 (zak l (Nat.add 0 q)))) = zj0 l /\ okL (.lst 4 l.length fun q => cv1 std (zc0 (zak l (Nat.add 0 q)))) :=
       zv1 (by simp [zj0]) fun q j hq hj => by rw [zfo _ _ hj, show Nat.add 0 q = q from Nat.zero_add q, zj0, yhj (V := leV) zc0 hq]; rfl
     have k3 : zf7 (rdL (.lst 4 l.length fun q => cv1 std (zc0 (zak l (Nat.add 0 q))))) = zdq l := by rw [k1]; rfl
     have k4 : mkV std (zdq l).kd (zdq l).nn (zdq l).tx (.lst 4 (zfa (zdq l)) (zgq (zdq l))) = zdq l := zce _
     refine ⟨⟨k2, ?_⟩, ⟨?_, ?_, ?_⟩, ?_⟩
     · show yd1 (rdL (.lst 4 l.length fun q => cv1 std (zc0 (zak l (Nat.add 0 q)))))
       rw [k1]
       show (zj0 l).length <= 1000000
       simp only [zj0, List.length_map]; omega
     · exact (zkk _).2
     · show zoe 300 (mkV std (zf7 (rdL (.lst 4 l.length fun q => cv1 std (zc0 (zak l (Nat.add 0 q)))))).kd (zf7 (rdL (.lst 4 l.length fun q => cv1 std (zc0 (zak l (Nat.add 0 q)))))).nn (zf7 (rdL (.lst 4 l.length fun q => cv1 std (zc0 (zak l (Nat.add 0 q)))))).tx (.lst 4 (zfa (zf7 (rdL (.lst 4 l.length fun q => cv1 std (zc0 (zak l (Nat.add 0 q))))))) (zgq (zf7 (rdL (.lst 4 l.length fun q => cv1 std (zc0 (zak l (Nat.add 0 q)))))))))
       rw [k3, k4]; exact q4
     · show zx9 (mkV std (zf7 (rdL (.lst 4 l.length fun q => cv1 std (zc0 (zak l (Nat.add 0 q)))))).kd (zf7 (rdL (.lst 4 l.length fun q => cv1 std (zc0 (zak l (Nat.add 0 q)))))).nn (zf7 (rdL (.lst 4 l.length fun q => cv1 std (zc0 (zak l (Nat.add 0 q)))))).tx (.lst 4 (zfa (zf7 (rdL (.lst 4 l.length fun q => cv1 std (zc0 (zak l (Nat.add 0 q))))))) (zgq (zf7 (rdL (.lst 4 l.length fun q => cv1 std (zc0 (zak l (Nat.add 0 q)))))))))
       rw [k3, k4]; exact q1
     · show zed (.str (ldT l)) (.str (yfu (mkV std (zf7 (rdL (.lst 4 l.length fun q => cv1 std (zc0 (zak l (Nat.add 0 q)))))).kd (zf7 (rdL (.lst 4 l.length fun q => cv1 std (zc0 (zak l (Nat.add 0 q)))))).nn (zf7 (rdL (.lst 4 l.length fun q => cv1 std (zc0 (zak l (Nat.add 0 q)))))).tx (.lst 4 (zfa (zf7 (rdL (.lst 4 l.length fun q => cv1 std (zc0 (zak l (Nat.add 0 q))))))) (zgq (zf7 (rdL (.lst 4 l.length fun q => cv1 std (zc0 (zak l (Nat.add 0 q)))))))))))
       rw [k3, k4, zhr]; exact q3
end Sy
end Go.Proofs.YtlphgephdhadhaaGreat
