/-Chapters 1 and 2: what their functions compute, as summaries for the executor. Chapters 1 and 2: CRC of parts, and the examples that each law of these chapters asks first. Go's strings; and what stands between these and the texts behind.-/
import Derived.Test.YtlphgephdhadhaaM3
import Derived.Lib.Builder
import Derived.Test.YtlphgephdhadhaaShelf
import Derived.Tactics
import Derived.Tactics2
import Derived.StillTactics
import Derived.Laws.Cells
import Derived.Laws.Pointers
import Derived.Laws.Sem
import Derived.Laws.Small
import Derived.LoopTactic
import Derived.LoopN
import Derived.Laws.IdiomRangeMap
import Derived.Maps.RangeRun
import Derived.Shelf.SlIter.Nil
import Derived.Shelf.SortM.Plain
import Derived.Shelf.SortM.SortNone
import Derived.Shelf.SlMaps.Clone
import Derived.Ground.GgzProg
import Derived.Ground.SlgmProg
import Derived.Ground.SlmcProg
import Derived.Test.YtlphgephdhadhaaProg
import Derived.ChangeArms
import Derived.ChangeSlices
import Derived.OpenShut
import Derived.WideShapes
namespace Go.Proofs.Ytlphgephdhadhaa
namespace Sy
open Go Go.RowKit
set_option maxRecDepth 100000
def zn1 (e n : Int) : List UInt8 := zn2 e.toNat (cl8 n)
def yhw (l : List UInt8) : Int := zjk l
def zxp (e n : Int) : Prop := 0 <= e /\ e < 18446744073709551616 /\ -9223372036854775808 <= n /\ n <= 9223372036854775807
def zyw (l : List UInt8) : Prop := 1 <= l.length /\ l.length <= 8
def upto (n : Nat) (l : List UInt8) : Prop := l.length <= n
def zr8 (L : zab) : zdf := (61, fun xs => match xs with | [.int .u64 e, .int .i64 n] => some (L2 L zxp e n, .str (L2 L zn1 e n)) | _ => none)
def ycc (L : zab) : zdf := (86, fun xs => match xs with | [.str l] => some (L zyw l, .tup [.int .u64 (L yhw l), .int .i64 0]) | _ => none)
theorem ydt {x y : AV} {v u : Value} (hx : ∀ h D, R h D zan x v) (hy : ∀ h D, R h D zan y u) : ∀ h D, R h D zan (.tup [x, y]) (.tuple #[v, u]) := by
 intro h D
 refine .tup _ _ rfl ?_
 intro i z t hz ht
 match i with
 | 0 => simp at hz ht; subst hz ht; exact hx h D
 | 1 => simp at hz ht; subst hz ht; exact hy h D
 | i + 2 => simp at hz
theorem yf9 (k : IntKind) (n : Int) : ∀ h D, R h D zan (.int k n) (.int k n) := fun _ _ => .int k n
theorem zp7 {e : Int} (h : 0 <= e) : ∃ n : Nat, e = n := ⟨e.toNat, by omega⟩
theorem zh5 : zec Try.prog (zr8 std) := by
 intro xs p r h hp
 dsimp only [zr8] at h |-
 split at h <;> cases h
 rename_i e n
 obtain ⟨h0, h1, h2, h3⟩ : zxp e n := hp
 obtain ⟨k, rfl⟩ := zp7 h0
 exact zd2 (fn := Try.f61) rfl rfl (by kernel_rfl) (yfy (zfi _ _) (zfi _ _)) (fun h D => zsm h D _ _) (fun w => ybg k n w (by omega))
theorem zyv : zec Try.prog (ycc std) := by
 intro xs p r h hp
 dsimp only [ycc] at h |-
 split at h <;> cases h
 rename_i l
 obtain ⟨h1, h8⟩ : zyw l := hp
 exact zd2 (fn := Try.f86) rfl rfl (by kernel_rfl) (yd5 (zhj _)) (ydt (yf9 _ _) (yf9 _ _)) (zl5 fun w => ycd l w h1 h8)
end Sy
end Go.Proofs.Ytlphgephdhadhaa
namespace Go.Proofs.Ytlphgephdhadhaa
namespace Sy
open Go Go.RowKit
set_option maxRecDepth 100000
set_option linter.unusedSimpArgs false
set_option linter.unusedVariables false
def zcv (n : Int) : Prop := 0 <= n /\ n < 18446744073709551616
def zb1 (n : Int) : List UInt8 := zcm n.toNat
def zk4 (L : zab) : zdf := (40, fun xs => match xs with | [.int .u64 n] => some (L zcv n, .str (L zb1 n)) | _ => none)
theorem zj3 : zec Try.prog (zk4 std) := by
 intro xs p r h hp
 dsimp only [zk4] at h |-
 split at h <;> cases h
 try simp only [L2, L3, std] at hp |-
 rename_i n
 obtain ⟨h0, h1⟩ : zcv n := hp
 obtain ⟨k, rfl⟩ := zp7 h0
 exact zd2 (fn := Try.f40) rfl rfl (by kernel_rfl) (yd5 (zfi _ _)) (fun h D => zsm h D _ _) (fun w => zso k w (by omega))
theorem zs2 : zbf Try.prog 51 [] (.bool true) := by
 refine za6 (T := tt) (S := fun L => zc7 [zk4 L, zr8 L]) (lo := noA) (lb := noA) 5 (fn := Try.f51) rfl rfl (by kernel_rfl) (by kernel_rfl) rfl zaj (zac ⟨zj3, zh5, trivial⟩) (by kernel_rfl) ?_
 (intro L P1 Q1 hL hP hQ; cbv; subst hL; simp only [L2, L3, std, syT]; subst hQ)
 (simp only [syS, reduceCtorEq, Int.reduceToNat, Int.reduceAdd, Int.reduceSub])
 exact ⟨by unfold zcv; omega, fun _ => ⟨by unfold zxp; omega, by decide +kernel⟩, by rw [zb1, show (300 : Int).toNat = 300 from rfl, zdl (by decide), zbs (by decide)]; rfl⟩
def tru (f : Nat) : zdf := (f, fun xs => match xs with | [] => some (True, .bool true) | _ => none)
theorem zd7 {P : Program} {f : Nat} (h : zbf P f [] (.bool true)) : zec P (tru f) := by
 intro xs p r h' hp
 match xs with
 | [] => cases h'; exact h
 | x :: xs => cases h'
theorem zjv : zbf Try.prog 36 [] (.bool true) := by
 refine za6 (T := tt) (S := fun L => zc7 [tru 51]) (lo := noA) (lb := noA) 5 (fn := Try.f36) rfl rfl (by kernel_rfl) (by kernel_rfl) rfl zaj (zac ⟨zd7 zs2, trivial⟩) (by kernel_rfl) ?_
 (intro L P1 Q1 hL hP hQ; cbv; subst hL; simp only [L2, L3, std, syT]; subst hQ)
 (simp only [syS, reduceCtorEq, Int.reduceToNat, Int.reduceAdd, Int.reduceSub])
theorem zl4 {l m : List UInt8} {i : Nat} (h : i < l.length) : zah (l ++ m) i = zah l i := by
 simp [zah, List.getElem?_append_left h]
theorem zl3 {l m : List UInt8} {i : Nat} (h : ¬ i < l.length) : zah (l ++ m) i = zah m (i - l.length) := by
 simp [zah, List.getElem?_append_right (show l.length <= i by omega)]
theorem zgk (l : List UInt8) : zb2 l.length (fun i => zah l i) = l := by
 apply List.ext_getElem
 · simp [zb2]
 · intro i h1 h2
   simp [zb2, zah, h2]
def m32 : Int := 4294967295
def mulW (x y : Int) : Int := zdj .u64 (zg7 .u64 x m32) (zg7 .u64 y m32)
def mulT (x y : Int) : Int := zbg .u64 (zdj .u64 (zgw .u64 x 32) (zg7 .u64 y m32)) (zgw .u64 (mulW x y) 32)
def mulU (x y : Int) : Int := zbg .u64 (zg7 .u64 (mulT x y) m32) (zdj .u64 (zg7 .u64 x m32) (zgw .u64 y 32))
def zy4 (x y : Int) : Int := zbg .u64 (zbg .u64 (zdj .u64 (zgw .u64 x 32) (zgw .u64 y 32)) (zgw .u64 (mulT x y) 32)) (zgw .u64 (mulU x y) 32)
def zzv (x y : Int) : Int := zdj .u64 x y
def ybr (L : zab) : zdf := (102, fun xs => match xs with | [.int .u64 x, .int .u64 y] => some (True, .tup [.int .u64 (L2 L zy4 x y), .int .u64 (L2 L zzv x y)]) | _ => none)
theorem zy3 : zec Try.prog (ybr std) := by
 intro xs p r h hp
 dsimp only [ybr] at h |-
 split at h <;> cases h
 try simp only [L2, L3, std] at hp |-
 rename_i x y
 refine za6 (T := tt) (S := noS) (lo := noA) (lb := noA) 5 (fn := Try.f102) rfl rfl (by kernel_rfl) (by kernel_rfl) rfl zaj (zef _) (by kernel_rfl) ?_
 intro L P' Q' hL hP hQ
 (cbv; try simp only [syT, true_and, and_true])
 subst hL; subst hQ
 refine ⟨rfl, rfl, rfl, rfl, rfl, ?_⟩
 show ziw (.tup [.int .u64 (zy4 x y), .int .u64 (zzv x y)]) (.tup [.int .u64 (zy4 x y), .int .u64 (zzv x y)])
 simp only [sySet]
 trivial
def ydk (y p : Int) (three : Bool) : Bool := match three with
 | false => decide (p < zy4 y y) || (decide (zy4 y y = p) && decide (0 < zzv y y))
 | true => decide (zsa .u64 p 32 < zbg .u64 (zdj .u64 (zy4 y y) y) (zy4 (zzv y y) y)) || (decide (zbg .u64 (zdj .u64 (zy4 y y) y) (zy4 (zzv y y) y) = zsa .u64 p 32) && decide (0 < zzv (zzv y y) y))
def yd7 (L : zab) : zdf := (98, fun xs => match xs with | [.int .u64 y, .int .u64 p, .bool t] => some (True, .bool (L3 L ydk y p t)) | _ => none)
theorem zze : zec Try.prog (yd7 std) := by
 intro xs p r h hp
 dsimp only [yd7] at h |-
 split at h <;> cases h
 try simp only [L2, L3, std] at hp |-
 rename_i y p t
 refine za6 (T := tt) (S := fun L => zc7 [ybr L]) (lo := noA) (lb := noA) 5 (fn := Try.f98) rfl rfl (by kernel_rfl) (by kernel_rfl) rfl zaj (zac ⟨zy3, trivial⟩) (by kernel_rfl) ?_
 (intro L P1 Q1 hL hP hQ; cbv; subst hL; simp only [L2, L3, std, syT]; subst hQ)
 cases t
 · refine ⟨trivial, fun _ => ⟨fun h => ?_, fun h => ⟨fun h2 => ?_, fun h2 => ?_⟩⟩, fun h => by cases h⟩
   all_goals simp only [zc5]
   all_goals simp_all [ydk, ilt, ieq]
 · refine ⟨trivial, fun h => (by cases h), fun _ => ⟨trivial, rfl, fun h => ?_, fun h => ⟨rfl, fun h2 => ?_, fun h2 => ?_⟩⟩⟩
   all_goals simp only [zc5]
   all_goals simp_all [ydk, ilt, ieq]
def zzx (p : Int) (three : Bool) : Nat -> Int -> Int
 | 0, x => x
 | f + 1, x => zzx p three f (if ydk (bor .u64 x (2 ^ f)) p three = true then x else bor .u64 x (2 ^ f))
def zyk (k n : Nat) : Nat := k + 0 * n
theorem zpn (k n : Nat) : zyk k n = k := by rw [zyk, Nat.zero_mul]; rfl
def zek (p : Int) (three : Bool) : Int := zzx p three (zyk 37 p.toNat) 0 % 4294967296
theorem zm1 (p : Int) (three : Bool) : zek p three = zzx p three 37 0 % 4294967296 := by rw [zek, zpn]
def zpj (p : Int) (three : Bool) (x : Int × Nat) : Prop := x.2 <= 36 /\ zzx p three (x.2 + 1) x.1 = zzx p three 37 0
def zow (f : Nat) : Int := 2 ^ f
def lstA (L : zab) (p : Int) (t : Bool) : Nat -> St -> Option Ann := fun id st => match id with
 | 0 => some ⟨Int × Nat, fun x => [(5, .int .u64 (L Prod.fst x)), (6, .int .u64 (L zow (L Prod.snd x)))], fun _ => [], [0, 1], [], fun x => L3 L zpj p t x, fun x => L Prod.snd x⟩
 | _ => none
theorem ztz : ∀ f : _root_.Fin 37, zgw .u64 (zow f.val) 1 = if f.val = 0 then 0 else zow (f.val - 1) := by decide +kernel
theorem zov (f : Nat) : 0 < zow f := by unfold zow; exact Int.pow_pos (by decide)
theorem zh8 {f : Nat} (h : f <= 36) : zgw .u64 (zow f) 1 = if f = 0 then 0 else zow (f - 1) := ztz ⟨f, by omega⟩
theorem zpi {p : Int} {t : Bool} {x : Int} {f : Nat} (h : zpj p t (x, f)) (h0 : ¬ f = 0) : zpj p t ((if ydk (bor .u64 x (zow f)) p t = true then x else bor .u64 x (zow f)), f - 1) := by
 obtain ⟨h1, h2⟩ := h
 refine ⟨by show f - 1 <= 36; have : f <= 36 := h1; omega, ?_⟩
 rw [<- h2]
 show zzx p t (f - 1 + 1) _ = zzx p t (f + 1) x
 rw [show f - 1 + 1 = f by omega]
 rfl
theorem zuo {p : Int} {t : Bool} {x : Int} {f : Nat} (h : zpj p t (x, f)) (h0 : f = 0) : (if ydk (bor .u64 x (zow f)) p t = true then x else bor .u64 x (zow f)) = zzx p t 37 0 := by
 obtain ⟨h1, h2⟩ := h
 subst h0
 rw [<- h2]; rfl
def zkm (L : zab) : zdf := (84, fun xs => match xs with | [.int .u64 p, .bool t] => some (True, .int .u32 (L2 L zek p t)) | _ => none)
theorem zjc : zec Try.prog (zkm std) := by
 intro xs p r h hp
 dsimp only [zkm] at h |-
 split at h <;> cases h
 try simp only [L2, L3, std] at hp |-
 rename_i p t
 refine za6 (T := tt) (S := fun L => zc7 [yd7 L]) (lo := noA) (lb := fun L => lstA L p t) 5 (fn := Try.f84) rfl rfl (by kernel_rfl) (by kernel_rfl) rfl zaj (zac ⟨zze, trivial⟩) (by kernel_rfl) ?_
 intro L P' Q' hL hP hQ
 (cbv; try simp only [syT, true_and, and_true])
 refine ⟨fun x hx => ?_, ⟨(0, 36), ?_⟩⟩
 · cbv at hx
   obtain ⟨y1, hy1⟩ : ∃ y : Int × Nat, y = (bor .u64 x.1 (zow x.2), x.2 - 1) := ⟨_, rfl⟩
   obtain ⟨y2, hy2⟩ : ∃ y : Int × Nat, y = (x.1, x.2 - 1) := ⟨_, rfl⟩
   (cbv; try simp only [syT, true_and, and_true])
   refine ⟨fun h1 => ⟨?_, fun h2 => ⟨y1, ?_⟩, fun h2 => ?_⟩, fun h1 => ⟨?_, fun h2 => ⟨y2, ?_⟩, fun h2 => ?_⟩⟩
   all_goals (try (cbv; try simp only [syT, true_and, and_true]))
   all_goals (obtain ⟨x, f⟩ := x; (subst hL; subst hQ; simp only [L2, L3, std] at *; try simp only [syS, reduceCtorEq, Int.reduceToNat, Int.reduceAdd, Int.reduceSub] at *))
   · decide
   · rw [zh8 hx.1] at h2 |-
     have h0 : ¬ f = 0 := by intro h0; rw [if_pos h0] at h2; omega
     have := zpi hx h0
     rw [if_neg (by simpa using h1)] at this
     rw [if_neg h0, hy1]
     have hf : f <= 36 := hx.1
     exact ⟨rfl, rfl, this, by show f - 1 + 1 <= f; omega⟩
   · rw [zh8 hx.1] at h2
     have h0 : f = 0 := by
       by_cases h0 : f = 0
       · exact h0
       · rw [if_neg h0] at h2
         exact absurd h2 (by
           have := zov (f - 1)
           show ¬ zow (f - 1) <= 0
           omega)
     have := zuo hx h0
     rw [if_neg (by simpa using h1)] at this
     rw [this, zm1]
   · decide
   · rw [zh8 hx.1] at h2 |-
     have h0 : ¬ f = 0 := by intro h0; rw [if_pos h0] at h2; omega
     have := zpi hx h0
     rw [if_pos (by simpa using h1)] at this
     rw [if_neg h0, hy2]
     exact ⟨rfl, rfl, this, by show f - 1 + 1 <= f; omega⟩
   · rw [zh8 hx.1] at h2
     have h0 : f = 0 := by
       by_cases h0 : f = 0
       · exact h0
       · rw [if_neg h0] at h2
         exact absurd h2 (by
           have := zov (f - 1)
           show ¬ zow (f - 1) <= 0
           omega)
     have := zuo hx h0
     rw [if_pos (by simpa using h1)] at this
     rw [this, zm1]
 · (cbv; try simp only [syT, true_and, and_true])
   (subst hL; subst hQ; simp only [L2, L3, std] at *; try simp only [syS, reduceCtorEq, Int.reduceToNat, Int.reduceAdd, Int.reduceSub] at *)
   exact ⟨by decide, by decide, rfl⟩
def prF (n : Int) : Nat -> Int -> Bool
 | 0, _ => false
 | f + 1, d => if d * d <= n then (if n % d = 0 then false else prF n f (d + 1)) else decide (1 < n)
def ze9 (n : Int) : Bool := prF n (zyk 38 n.toNat) 2
theorem ztw (n : Int) : prF n 38 2 = ze9 n := by rw [ze9, zpn]
def yh3 (n : Int) (d : Nat) : Prop := 2 <= d /\ d <= 33 /\ prF n (40 - d) d = ze9 n
def prA (L : zab) (n : Int) : Nat -> St -> Option Ann := fun id st => match id with
 | 0 => some ⟨Nat, fun d => [(3, .int .u64 (L za7 d))], fun _ => [], [0], [], fun d => L2 L yh3 n d, fun d => L (fun d : Nat => 40 - d) d⟩
 | _ => none
def zng (L : zab) : zdf := (85, fun xs => match xs with | [.int .u64 n] => some (L (fun n : Int => 0 <= n /\ n <= 1000) n, .bool (L ze9 n)) | _ => none)
theorem zr9 : zec Try.prog (zng std) := by
 intro xs p r h hp
 dsimp only [zng] at h |-
 split at h <;> cases h
 try simp only [L2, L3, std] at hp |-
 rename_i n
 have hn : 0 <= n /\ n <= 1000 := hp
 refine za6 (T := tt) (S := noS) (lo := fun L => prA L n) (lb := noA) 5 (fn := Try.f85) rfl rfl (by kernel_rfl) (by kernel_rfl) rfl zaj (zef _) (by kernel_rfl) ?_
 intro L P' Q' hL hP hQ
 (cbv; try simp only [syT, true_and, and_true])
 refine ⟨⟨2, ?_⟩, fun d hd => ?_⟩
 · (cbv; try simp only [syT, true_and, and_true])
   (subst hL; subst hQ; simp only [L2, L3, std] at *; try simp only [syS, reduceCtorEq, Int.reduceToNat, Int.reduceAdd, Int.reduceSub] at *)
   exact ⟨by decide, by decide, ztw n⟩
 · cbv at hd
   (cbv; try simp only [syT, true_and, and_true])
   refine ⟨fun h1 => ⟨?_, fun h2 => ?_, fun h2 => ⟨d + 1, ?_⟩⟩, fun h1 => ?_⟩
   all_goals (try (cbv; try simp only [syT, true_and, and_true]))
   all_goals (subst hL; subst hQ; simp only [L2, L3, std] at *; try simp only [syS, reduceCtorEq, Int.reduceToNat, Int.reduceAdd, Int.reduceSub] at *)
   all_goals (obtain ⟨i1, i2, i3⟩ := hd)
   all_goals (have hdd : d * d <= 33 * 33 := Nat.mul_le_mul i2 i2)
   all_goals (have hd2 : ((d : Nat) : Int) * ((d : Nat) : Int) = ((d * d : Nat) : Int) := by simp)
   all_goals (rw [show 40 - d = (39 - d) + 1 by omega, prF, hd2] at i3)
   all_goals (try rw [hd2] at h1)
   · omega
   · rw [if_pos (by omega)] at i3
     rw [Int.tmod_eq_emod_of_nonneg hn.1] at h2
     rw [if_pos h2] at i3
     exact i3
   · rw [if_pos (by omega)] at i3
     rw [Int.tmod_eq_emod_of_nonneg hn.1] at h2
     rw [if_neg h2] at i3
     have h31 : d <= 31 := by
       apply Nat.le_of_not_lt
       intro h
       have : 32 * 32 <= d * d := Nat.mul_le_mul h h
       omega
     refine ⟨by omega, ⟨by omega, by omega, ?_⟩, by omega⟩
     rw [show 40 - (d + 1) = 39 - d by omega, <- i3]
     congr 1
   · rw [if_neg (by omega)] at i3
     rw [<- i3]; rfl
def zi6 : List Int := [0x428a2f98, 0x71374491, 0xb5c0fbcf, 0xe9b5dba5, 0x3956c25b, 0x59f111f1, 0x923f82a4, 0xab1c5ed5,
 0xd807aa98, 0x12835b01, 0x243185be, 0x550c7dc3, 0x72be5d74, 0x80deb1fe, 0x9bdc06a7, 0xc19bf174,
 0xe49b69c1, 0xefbe4786, 0x0fc19dc6, 0x240ca1cc, 0x2de92c6f, 0x4a7484aa, 0x5cb0a9dc, 0x76f988da,
 0x983e5152, 0xa831c66d, 0xb00327c8, 0xbf597fc7, 0xc6e00bf3, 0xd5a79147, 0x06ca6351, 0x14292967,
 0x27b70a85, 0x2e1b2138, 0x4d2c6dfc, 0x53380d13, 0x650a7354, 0x766a0abb, 0x81c2c92e, 0x92722c85,
 0xa2bfe8a1, 0xa81a664b, 0xc24b8b70, 0xc76c51a3, 0xd192e819, 0xd6990624, 0xf40e3585, 0x106aa070,
 0x19a4c116, 0x1e376c08, 0x2748774c, 0x34b0bcb5, 0x391c0cb3, 0x4ed8aa4a, 0x5b9cca4f, 0x682e6ff3,
 0x748f82ee, 0x78a5636f, 0x84c87814, 0x8cc70208, 0x90befffa, 0xa4506ceb, 0xbef9a3f7, 0xc67178f2]
def zgu : List Int := [0x6a09e667, 0xbb67ae85, 0x3c6ef372, 0xa54ff53a, 0x510e527f, 0x9b05688c, 0x1f83d9ab, 0x5be0cd19]
def zgv : Nat -> Nat
 | 0 => 0
 | n + 1 => if ze9 n = true then zgv n + 1 else zgv n
def zcj : Nat -> List Int
 | 0 => List.replicate 64 0
 | n + 1 => if ze9 n = true then (zcj n).set (zgv n) (zek n true) else zcj n
theorem zi5 : ∀ n, (zcj n).length = 64
 | 0 => by rw [zcj, List.length_replicate]
 | n + 1 => by
   rw [zcj]
   split
   · rw [List.length_set, zi5 n]
   · exact zi5 n
theorem zyn : zcj 312 = zi6 := by decide +kernel
theorem cnt_311 : zgv 311 = 63 /\ zgv 312 = 64 := by decide +kernel
theorem zza : ∀ {m n : Nat}, m <= n -> zgv m <= zgv n := by
 intro m n h
 induction h with
 | refl => exact Nat.le_refl _
 | step h ih =>
   rename_i k
   rw [zgv]
   split <;> omega
def ya2 (n : Nat) : Prop := 2 <= n /\ n <= 311 /\ zgv n <= 63
def zh0 (n : Nat) : Int := zgv n
def keyA (L : zab) : Nat -> St -> Option Ann := fun id st => match id with
 | 0 => some ⟨Nat, fun n => [(2, .int .u64 (L za7 n)), (3, .int .i64 (L zh0 n)), (1, .ref 1 0)], fun n => [(1, .row 89 1 64 (fun i _ => .int .u32 (L2 L za5 (L zcj n) i)))], [0], [0], fun n => L ya2 n, fun n => L (fun n : Nat => 312 - n) n⟩
 | _ => none
def zps (L : zab) : zdf := (66, fun xs => match xs with | [] => some (True, .arr 64 (fun j => .int .u32 (L2 L za5 zi6 j))) | _ => none)
theorem zua {l : List Int} {k : Nat} {v : Int} (h : k < l.length) : za5 (l.set k v) k = v := by
 rw [za5, List.getD_eq_getElem?_getD, List.getElem?_set_self h]; rfl
theorem ybm {l : List Int} {k i : Nat} {v : Int} (h : k ≠ i) : za5 (l.set k v) i = za5 l i := by
 rw [za5, za5, List.getD_eq_getElem?_getD, List.getD_eq_getElem?_getD, List.getElem?_set_ne h]
theorem yc2 : zcj 2 = List.replicate 64 0 /\ 0 = zh0 2 /\ zgv 2 <= 63 := by decide +kernel
theorem ya1 {n : Nat} (h : n <= 311) (hc : zgv (n + 1) < 64) : n + 1 <= 311 := by
 rcases Nat.lt_or_eq_of_le h with h | h
 · exact h
 · rw [h] at hc
   exact absurd (cnt_311.2 ▸ hc : (64 : Nat) < 64) (by decide)
theorem yf5 {n : Nat} (h : n <= 311) (hc : 64 <= zgv (n + 1)) : zcj (n + 1) = zi6 := by
 rcases Nat.lt_or_eq_of_le h with h | h
 · have h2 := Nat.le_trans hc (zza h)
   rw [cnt_311.1] at h2
   exact absurd h2 (by decide)
 · rw [h]; exact zyn
theorem yc1 {n : Nat} (h : ze9 n = true) : zgv (n + 1) = zgv n + 1 /\ zcj (n + 1) = (zcj n).set (zgv n) (zek n true) := by
 rw [zgv, zcj, if_pos h, if_pos h]; exact ⟨rfl, rfl⟩
theorem k_no {n : Nat} (h : ze9 n = false) : zgv (n + 1) = zgv n /\ zcj (n + 1) = zcj n := by
 rw [zgv, zcj, if_neg (by rw [h]; decide), if_neg (by rw [h]; decide)]; exact ⟨rfl, rfl⟩
theorem yaz {l : List Int} {k i : Nat} (v : Int) (hk : k < l.length) : over std k 0 1 [.int .u32 v] (fun i x => .int .u32 (za5 l i)) i 0 = .int .u32 (za5 (l.set k v) i) := by
 rw [zda, if_pos ⟨Nat.le_refl _, by omega⟩]
 by_cases hi2 : i = k
 · subst hi2
   rw [za4, zua hk]; rfl
 · rw [za9 hi2, ybm (fun h => hi2 h.symm)]; rfl
theorem yf4 {n i : Nat} (h : ze9 n = true) (hc : zgv n < 64) : over std (zh0 n).toNat 0 1 [.int .u32 (zek n true)] (fun i x => .int .u32 (za5 (zcj n) i)) i 0 = .int .u32 (za5 (zcj (n + 1)) i) := by
 rw [(yc1 h).2]
 have e : (zh0 n).toNat = zgv n := Int.toNat_natCast _
 rw [e]
 have hl : zgv n < (zcj n).length := by rw [zi5]; exact hc
 generalize zek n true = v
 generalize zcj n = l at hl |-
 generalize zgv n = k at hl |-
 exact yaz v hl
theorem k_go {n n' : Nat} (hn : n' = n + 1) (hi : ya2 n) (h1 : ze9 n = true) (h2 : zh0 n + 1 < 64) : (∀ i, over std (zh0 n).toNat 0 1 [.int .u32 (zek n true)] (fun i x => .int .u32 (za5 (zcj n) i)) i 0 = .int .u32 (za5 (zcj n') i)) /\ zh0 n + 1 = zh0 n' /\ ya2 n' /\ 312 - n' < 312 - n := by
 subst hn
 obtain ⟨i1, i2, i3⟩ := hi
 obtain ⟨h3, -⟩ := yc1 h1
 have h2' : zgv n + 1 < 64 := by unfold zh0 at h2; omega
 have h5 := ya1 i2 (by rw [h3]; omega)
 refine ⟨fun i => yf4 h1 (by omega), ?_, ⟨by omega, h5, by rw [h3]; omega⟩, by omega⟩
 unfold zh0
 rw [h3]; rfl
theorem yhl {n : Nat} (hi : ya2 n) (h1 : ze9 n = true) (h2 : ¬ zh0 n + 1 < 64) (j : Nat) : over std (zh0 n).toNat 0 1 [.int .u32 (zek n true)] (fun i x => .int .u32 (za5 (zcj n) i)) j 0 = .int .u32 (za5 zi6 j) := by
 obtain ⟨i1, i2, i3⟩ := hi
 obtain ⟨h3, -⟩ := yc1 h1
 have h2' : 64 <= zgv n + 1 := by unfold zh0 at h2; omega
 rw [yf4 h1 (by omega), yf5 i2 (by rw [h3]; omega)]
theorem yhk {n n' : Nat} (hn : n' = n + 1) (hi : ya2 n) (h1 : ze9 n = false) (h2 : zh0 n < 64) : zcj n = zcj n' /\ zh0 n = zh0 n' /\ ya2 n' /\ 312 - n' < 312 - n := by
 subst hn
 obtain ⟨i1, i2, i3⟩ := hi
 obtain ⟨h3, h4⟩ := k_no h1
 have h5 := ya1 i2 (by rw [h3]; omega)
 refine ⟨h4.symm, ?_, ⟨by omega, h5, by rw [h3]; omega⟩, by omega⟩
 unfold zh0
 rw [h3]
theorem yhj {n : Nat} (hi : ya2 n) : 2 <= n /\ n <= 311 /\ 0 <= zh0 n /\ zh0 n <= 63 := by
 obtain ⟨i1, i2, i3⟩ := hi
 refine ⟨i1, i2, Int.natCast_nonneg _, ?_⟩
 unfold zh0; omega
theorem yhm {n : Nat} (hn : n = 2) : (∀ i, i < 64 -> za5 (zcj n) i = 0) /\ zh0 n = 0 /\ ya2 n /\ (n : Int) = 2 := by
 subst hn
 refine ⟨fun i hi => ?_, yc2.2.1.symm, ⟨by decide, by decide, yc2.2.2⟩, rfl⟩
 rw [yc2.1, za5, List.getD_eq_getElem?_getD, List.getElem?_replicate, if_pos hi]; rfl
theorem zm7 : zec Try.prog (zps std) := by
 intro xs p r h hp
 dsimp only [zps] at h |-
 split at h <;> cases h
 try simp only [L2, L3, std] at hp |-
 refine za6 (T := tt) (S := fun L => zc7 [zng L, zkm L]) (lo := noA) (lb := keyA) 5 (fn := Try.f66) rfl rfl (by kernel_rfl) (by kernel_rfl) rfl zaj (zac ⟨zr9, zjc, trivial⟩) (by kernel_rfl) ?_
 intro L P' Q' hL hP hQ
 obtain ⟨n0, hn0⟩ : ∃ n0 : Nat, n0 = 2 := ⟨_, rfl⟩
 (cbv; try simp only [syT, true_and, and_true])
 refine ⟨fun n hn => ?_, ⟨n0, ?_⟩⟩
 · obtain ⟨n', hn'⟩ : ∃ n' : Nat, n' = n + 1 := ⟨_, rfl⟩
   (cbv; try simp only [syT, true_and, and_true])
   refine ⟨?_, fun h1 => ⟨?_, fun h2 => ⟨n', ?_⟩, fun h2 => ?_⟩, fun h1 => ⟨fun h2 => ⟨n', ?_⟩, fun h2 => ?_⟩⟩
   all_goals (try (cbv; try simp only [syT, true_and, and_true]))
   all_goals (subst hL; subst hQ; simp only [L2, L3, std] at *; try simp only [syS, reduceCtorEq, Int.reduceToNat, Int.reduceAdd, Int.reduceSub] at *)
   all_goals (obtain ⟨r1, r2, r3, r4⟩ := yhj hn)
   · omega
   · omega
   · rw [show (zh0 n + 1 + 9223372036854775808) % 18446744073709551616 - 9223372036854775808 = zh0 n + 1 by omega] at h2 |-
     obtain ⟨e1, e2, e3, e4⟩ := k_go hn' hn h1 h2
     refine ⟨fun i j hi hj => ?_, e2, by omega, e3, by omega⟩
     have : j = 0 := by omega
     subst this
     exact e1 i
   · rw [show (zh0 n + 1 + 9223372036854775808) % 18446744073709551616 - 9223372036854775808 = zh0 n + 1 by omega] at h2
     intro j hj
     exact yhl hn h1 (by omega) j
   · obtain ⟨e1, e2, e3, e4⟩ := yhk hn' hn h1 h2
     exact ⟨fun i j hi hj => by rw [e1], e2, by omega, e3, by omega⟩
   · exfalso; omega
 · (cbv; try simp only [syT, true_and, and_true])
   (subst hL; subst hQ; simp only [L2, L3, std] at *; try simp only [syS, reduceCtorEq, Int.reduceToNat, Int.reduceAdd, Int.reduceSub] at *)
   obtain ⟨e1, e2, e3, e4⟩ := yhm hn0
   refine ⟨fun i j hi hj => ?_, e2.symm, e4.symm, e3⟩
   have : j = 0 := by omega
   subst this
   rw [e1 i hi]; rfl
end Sy
end Go.Proofs.Ytlphgephdhadhaa
namespace Go.Proofs.Ytlphgephdhadhaa
namespace Sy
open Go Go.RowKit
end Sy
end Go.Proofs.Ytlphgephdhadhaa
namespace Go.Proofs.Ytlphgephdhadhaa
namespace Sy
open Go Go.RowKit
set_option maxRecDepth 100000
set_option linter.unusedSimpArgs false
set_option linter.unusedVariables false
def zwm (a b : List UInt8) : Bool := a.take b.length == b
def zty (a b : List UInt8) : Prop := a.length <= 1000000000 /\ b.length <= 1000000000
def zou (L : zab) : zdf := (68, fun xs => match xs with | [.str a, .str b] => some (L2 L zty a b, .bool (L2 L zwm a b)) | _ => none)
def ybh (L : zab) : zdf := (62, fun xs => match xs with | [.str a, .str b] => some (L2 L zty a b, .bool (L2 L zwm a b)) | _ => none)
theorem zln : zec Try.prog (zou std) := by
 intro xs p r h hp
 dsimp only [zou] at h |-
 split at h <;> cases h
 try simp only [L2, L3, std] at hp |-
 rename_i a b
 refine za6 (T := tt) (S := noS) (lo := noA) (lb := noA) 5 (fn := Try.f68) rfl rfl (by kernel_rfl) (by kernel_rfl) rfl zaj (zef _) (by kernel_rfl) ?_
 (intro L P1 Q1 hL hP hQ; cbv; subst hL; simp only [L2, L3, std, syT]; subst hQ)
 (simp only [syS, reduceCtorEq, Int.reduceToNat, Int.reduceAdd, Int.reduceSub])
 exact ⟨fun h => ⟨by omega, rfl⟩, fun h => by
   have : ¬ a.take b.length = b := fun e => by have := congrArg List.length e; simp at this; omega
   simp [zwm, this]⟩
theorem zxq : zec Try.prog (ybh std) := by
 intro xs p r h hp
 dsimp only [ybh] at h |-
 split at h <;> cases h
 try simp only [L2, L3, std] at hp |-
 rename_i a b
 refine za6 (T := tt) (S := fun L => zc7 [zou L]) (lo := noA) (lb := noA) 5 (fn := Try.f62) rfl rfl (by kernel_rfl) (by kernel_rfl) rfl zaj (zac ⟨zln, trivial⟩) (by kernel_rfl) ?_
 (intro L P1 Q1 hL hP hQ; cbv; subst hL; simp only [L2, L3, std, syT]; subst hQ)
 (simp only [syS, reduceCtorEq, Int.reduceToNat, Int.reduceAdd, Int.reduceSub])
 exact hp
def toS : AV -> List UInt8
 | .str s => s
 | _ => []
def zdg (n : Nat) (get : Nat -> Nat -> AV) : List (List UInt8) := (List.range n).map fun i => toS (get i 0)
theorem yfx {h : Array Obj} {D : Nat -> Prop} {x y : AV} {vs : Array Value} (hr : RL h D zan [x, y] vs) : ∃ a b, vs = #[a, b] /\ R h D zan x a /\ R h D zan y b := by
 obtain ⟨hl, hr⟩ := hr
 obtain ⟨a, b, ha⟩ : ∃ a b, vs.toList = [a, b] := by
   have hl : vs.toList.length = 2 := by simpa using hl.symm
   match vs.toList, hl with
   | [a, b], _ => exact ⟨a, b, rfl⟩
 have : vs = #[a, b] := by rw [<- Array.toArray_toList (xs := vs), ha]
 subst this
 exact ⟨a, b, rfl, hr 0 x a rfl rfl, hr 1 y b rfl rfl⟩
def zks (x : AV) : List UInt8 := match x with
 | .lst _ n get => (zdg n get).flatten
 | _ => []
def zel (x : AV) : Prop := match x with
 | .lst 1 n get => (∀ i, i < n -> ∃ s, get i 0 = .str s) /\ n <= 1000000 /\ (zdg n get).flatten.length <= 1000000
 | .nils => True
 | _ => False
theorem zm9 (l : List (List UInt8)) : Lib.join l [] = l.flatten := by
 unfold Lib.join
 induction l with
 | nil => rfl
 | cons x l ih =>
   cases l with
   | nil => simp
   | cons y l => rw [List.intercalate_cons_cons, ih]; simp
def zpv (L : zab) : zdf := (64, fun xs => match xs with | [x, .str []] => some (L zel x, .str (L zks x)) | _ => none)
theorem zm8 : zec Try.prog (zpv std) := by
 intro xs p r h hp
 dsimp only [zpv] at h |-
 split at h <;> cases h
 try simp only [L2, L3, std] at hp |-
 rename_i x
 have hp : zel x := hp
 intro D w vs hD hxs hg
 obtain ⟨a, b, rfl, rx, ry⟩ := yfx hxs
 obtain rfl := zsn ry
 unfold zer
 rw [zbu (fn := Try.f64) rfl (by kernel_rfl) rfl]
 have fin : ∀ (l : List UInt8), l = zks x -> (∀ w', Below w.heap.size w w' -> ∃ v D', Ending.returned (.string ⟨l.toArray⟩) = .returned v /\ Below w.heap.size w w' /\ (∀ b, D b -> D' b) /\ (∀ b, D' b -> D b \/ (w.heap.size <= b /\ b < w'.heap.size)) /\ R w'.heap D' zan (.str (zks x)) v) := by
   rintro l rfl w' hw
   exact ⟨_, D, rfl, hw, fun _ h => h, fun b hb => .inl hb, zsm _ _ _ _⟩
 have none_ : zks x = [] -> ∀ (a : Option Addr) (c : Nat), Calls Try.prog 64 #[.slice a 0 c, .string ⟨#[]⟩] w fun e w' => ∃ v D', e = .returned v /\ Below w.heap.size w w' /\ (∀ b, D b -> D' b) /\ (∀ b, D' b -> D b \/ (w.heap.size <= b /\ b < w'.heap.size)) /\ R w'.heap D' zan (.str (zks x)) v := by
   intro h0 a c
   refine (Try.strings_Join_none a c ⟨#[]⟩ w).mono ?_
   rintro e w' ⟨rfl, rfl⟩
   exact fin [] h0.symm _ (Below.refl _ _)
 unfold zel at hp
 split at hp
 · rename_i n get _
   obtain ⟨h1, h2, h3⟩ := hp
   cases rx with
   | lst0 => exact none_ rfl _ _
   | lst _ _ _ b o cap us hD0 hc hv h1' hr =>
     have hl : (zdg n get).length = n := by rw [zdg, List.length_map, List.length_range]
     have hq : ∀ j x, ((zdg n get).map (fun s : List UInt8 => (⟨s.toArray⟩ : ByteArray)))[j]? = some x -> w.cell? ⟨b, o + j, none⟩ = some (.string x) := by
       intro j x hj
       have hjn : j < n := by
         have := (List.getElem?_eq_some_iff.1 hj).1
         rw [List.length_map, hl] at this
         exact this
       obtain ⟨s, hs⟩ := h1 j hjn
       have r := hr j 0 hjn (by omega)
       rw [hs] at r
       have hv := hv j 0 hjn (by omega)
       rw [zsn r, Nat.mul_one, Nat.add_zero] at hv
       rw [zf4, hv]
       have e2 : (zdg n get)[j]? = some s := by rw [zdg, List.getElem?_map, List.getElem?_range hjn, Option.map_some, hs]; rfl
       rw [List.getElem?_map, e2] at hj
       cases hj
       rfl
     have hm : ((zdg n get).map (fun s : List UInt8 => (⟨s.toArray⟩ : ByteArray))).map (·.data.toList) = zdg n get := by
       rw [List.map_map]
       exact List.map_id' _
     have := Try.strings_Join b o cap ((zdg n get).map (fun s : List UInt8 => (⟨s.toArray⟩ : ByteArray))) ⟨#[]⟩ w hq (hD b hD0) (by rw [List.length_map, hl]; omega) (by rw [List.length_map, hl]; exact hc) (by rw [hm]; show (Lib.join _ []).length <= _; rw [zm9]; omega)
     rw [hm, List.length_map, hl] at this
     refine this.mono ?_
     rintro e w' ⟨rfl, hw⟩
     exact fin _ (by show Lib.join _ [] = _; rw [zm9]; rfl) _ hw
 · cases rx
   exact none_ rfl _ _
 · exact hp.elim
def yh2 (s : List UInt8) (c : Int) : List UInt8 := (List.replicate c.toNat s).flatten
theorem zto (s : List UInt8) : ∀ c : Nat, Lib.repeatL s c = (List.replicate c s).flatten
 | 0 => rfl
 | c + 1 => by rw [Lib.repeatL, zto s c, List.replicate_succ, List.flatten_cons]
def ybf (s : List UInt8) (c : Int) : Prop := 0 <= c /\ c <= 1000000 /\ s.length <= 1000000
def ybd (L : zab) : zdf := (80, fun xs => match xs with | [.str s, .int .i64 c] => some (L2 L ybf s c, .str (L2 L yh2 s c)) | _ => none)
theorem zxm : zec Try.prog (ybd std) := by
 intro xs p r h hp
 dsimp only [ybd] at h |-
 split at h <;> cases h
 try simp only [L2, L3, std] at hp |-
 rename_i s c
 obtain ⟨h0, h1, h2⟩ : ybf s c := hp
 obtain ⟨k, rfl⟩ := zp7 h0
 refine zd2 (fn := Try.f80) rfl rfl (by kernel_rfl) (yfy (zhj _) (zfi _ _)) (fun h D => zsm h D _ _) (fun w => ?_)
 have hs : (⟨s.toArray⟩ : ByteArray).size = s.length := by show s.toArray.size = s.length; simp
 have := Try.strings_Repeat ⟨s.toArray⟩ k w (by omega) (by
   rw [hs]
   have : s.length * k <= 1000000 * 1000000 := Nat.mul_le_mul h2 (by omega)
   omega)
 refine this.mono ?_
 rintro e w' ⟨rfl, hw⟩
 refine ⟨?_, hw⟩
 show Ending.returned (.string ⟨(Lib.repeatL s k).toArray⟩) = _
 rw [zto]; rfl
def zoy (s : List UInt8) : List UInt8 := s ++ [128] ++ List.replicate ((64 - (s.length + 9) % 64) % 64) 0 ++ zn1 (s.length * 8) 8
theorem ztn (n : Nat) : (List.replicate n [(0 : UInt8)]).flatten = List.replicate n 0 := by
 induction n with
 | zero => rfl
 | succ n ih => rw [List.replicate_succ, List.flatten_cons, ih, List.replicate_succ]; rfl
theorem zf7 (e n : Int) (h0 : 0 <= n) (h8 : n <= 8) : (zn1 e n).length = n.toNat := by
 rw [zn1, zdz]
 unfold cl8
 omega
theorem yh5 (n : Nat) (h : n <= 1000000) : ((64 - ((((n : Int) + 1 + 9223372036854775808) % 18446744073709551616 - 9223372036854775808 + 8 + 9223372036854775808) % 18446744073709551616 - 9223372036854775808).tmod 64 + 9223372036854775808) % 18446744073709551616 - 9223372036854775808).tmod 64 = (((64 - (n + 9) % 64) % 64 : Nat) : Int) := by
 have h1 : ((((n : Int) + 1 + 9223372036854775808) % 18446744073709551616 - 9223372036854775808 + 8 + 9223372036854775808) % 18446744073709551616 - 9223372036854775808) = ((n + 9 : Nat) : Int) := by omega
 rw [h1, Int.tmod_eq_emod_of_nonneg (a := ((n + 9 : Nat) : Int)) (by omega)]
 have h2 : (64 - ((n + 9 : Nat) : Int) % 64 + 9223372036854775808) % 18446744073709551616 - 9223372036854775808 = ((64 - (n + 9) % 64 : Nat) : Int) := by omega
 rw [h2, Int.tmod_eq_emod_of_nonneg (by omega)]
 omega
theorem ybe {k : Nat} (h : k < 64) : ybf [0] (k : Int) := ⟨Int.natCast_nonneg _, by omega, by decide⟩
theorem len8 (n : Nat) (h : n <= 1000000) : (n : Int) % 18446744073709551616 * 8 % 18446744073709551616 = (n : Int) * 8 := by omega
def zjz (L : zab) : zdf := (63, fun xs => match xs with | [.str s] => some (L2 L upto 1000000 s, .str (L zoy s)) | _ => none)
theorem zj1 : zec Try.prog (zjz std) := by
 intro xs p r h hp
 dsimp only [zjz] at h |-
 split at h <;> cases h
 try simp only [L2, L3, std] at hp |-
 rename_i s
 refine za6 (T := tt) (S := fun L => zc7 [ybd L, zr8 L]) (lo := noA) (lb := noA) 5 (fn := Try.f63) rfl rfl (by kernel_rfl) (by kernel_rfl) rfl zaj (zac ⟨zxm, zh5, trivial⟩) (by kernel_rfl) ?_
 have hl : s.length <= 1000000 := hp
 have hpn := yh5 s.length hl
 have hl8 := len8 s.length hl
 (intro L P1 Q1 hL hP hQ; cbv; subst hL; simp only [L2, L3, std, syT]; subst hQ)
 (simp only [syS, reduceCtorEq, Int.reduceToNat, Int.reduceAdd, Int.reduceSub])
 rw [hpn, hl8]
 have hz : zoy s = s ++ [128] ++ List.replicate ((64 - (s.length + 9) % 64) % 64) 0 ++ zn1 (s.length * 8) 8 := rfl
 rw [hz]
 have hk : (64 - (s.length + 9) % 64) % 64 < 64 := Nat.mod_lt _ (by decide)
 generalize (64 - (s.length + 9) % 64) % 64 = k at hk |-
 have hr : yh2 [0] (k : Int) = List.replicate k 0 := by
   rw [yh2, Int.toNat_natCast, ztn]
 rw [hr]
 have hput := zf7 ((s.length : Int) * 8) 8 (by decide) (by decide)
 simp only [List.length_append, List.length_replicate, List.length_cons, List.length_nil, hput]
 refine ⟨by omega, by decide, by decide, ybe hk, by omega, ⟨by omega, by omega, by decide, by decide⟩, by omega, trivial⟩
def K_s (L : zab) : zdf := (56, fun xs => match xs with | [] => some (True, .lst 1 64 (fun i _ => .int .u32 (L2 L za5 zi6 i))) | _ => none)
theorem yg4 : zec Try.prog (K_s std) := by
 intro xs p r h hp
 dsimp only [K_s] at h |-
 split at h <;> cases h
 try simp only [L2, L3, std] at hp |-
 refine za6 (T := tt) (S := noS) (lo := noA) (lb := noA) 5 (fn := Try.f56) rfl rfl (by kernel_rfl) (by kernel_rfl) rfl zaj (zef _) (by kernel_rfl) ?_
 (intro L P1 Q1 hL hP hQ; cbv; subst hL; simp only [L2, L3, std, syT]; subst hQ)
 (simp only [syS, reduceCtorEq, Int.reduceToNat, Int.reduceAdd, Int.reduceSub])
 exact fun i j _ _ => rfl
def zn3 (s : List UInt8) : Nat := (64 - (s.length + 9) % 64) % 64
def znj (s : List UInt8) (k : Nat) : List UInt8 := s ++ [128] ++ List.replicate k 0
def zra (s : List UInt8) (j : Nat) : List UInt8 := znj s (zn3 s) ++ (zn1 (s.length * 8) 8).take j
theorem yia {l l' : List UInt8} {c : Int} {b : UInt8} (hl : l' = l ++ [b]) (hc : c = (b.toNat : Int)) : l.length.add 1 = l'.length /\ ∀ i : Nat, i < l'.length -> zga std (zba i l.length) (.int .u8 (zah l i)) (.int .u8 (za5 [c] (i - l.length))) = .int .u8 (zah l' i) := by
 subst hl
 subst hc
 refine ⟨by rw [List.length_append]; rfl, fun i hi => ?_⟩
 by_cases h : i < l.length
 · rw [yft h, zl4 h]; rfl
 · rw [yfu h, zl3 h]
   rw [List.length_append] at hi
   have hi : i < l.length + 1 := hi
   rw [show i - l.length = 0 by omega]
   rfl
theorem zxv {s : List UInt8} {k k' : Nat} (h : k' = k + 1) : znj s k' = znj s k ++ [0] := by
 subst h
 rw [znj, znj, List.replicate_succ', <- List.append_assoc]
theorem zh7 (s : List UInt8) (k : Nat) : (znj s k).length = s.length + 1 + k := by
 rw [znj, List.length_append, List.length_append, List.length_replicate]; rfl
theorem yel {s : List UInt8} {j : Nat} (h : j = 0) : zra s j = znj s (zn3 s) := by
 subst h; rw [zra, List.take_zero, List.append_nil]
theorem yek (s : List UInt8) : zra s 8 = zoy s := by
 rw [zra, List.take_of_length_le (by rw [zf7 _ _ (by decide) (by decide)]; decide)]; rfl
theorem zxt (s : List UInt8) {j : Nat} (h : j <= 8) : (zra s j).length = s.length + 1 + zn3 s + j := by
 rw [zra, List.length_append, zh7, List.length_take, zf7 _ _ (by decide) (by decide)]
 have : (8 : Int).toNat = 8 := rfl
 omega
theorem zni (s : List UInt8) : zn3 s < 64 := Nat.mod_lt _ (by decide)
def dn7 (j : Nat) : Int := 7 - j
theorem yhy {j : Nat} (h : j = 0) : 7 = dn7 j := by subst h; rfl
theorem ya7 {j : Nat} (h : 0 <= dn7 j) : j < 8 := by unfold dn7 at h; omega
theorem yfn {j : Nat} (h : dn7 j < 0) (h8 : j <= 8) : j = 8 := by unfold dn7 at h; omega
theorem zvk {j : Nat} (h : j < 8) : zdj .i64 8 (dn7 j) = 8 * (7 - (j : Int)) := by unfold dn7; rw [zdj, zcu]; omega
theorem zz6 {j : Nat} (h : 0 <= dn7 j) : 0 <= zdj .i64 8 (dn7 j) := by have := ya7 h; rw [zvk this]; omega
theorem zz5 {j j' : Nat} (h : j < 8) (h' : j' = j + 1) : zdw .i64 (dn7 j) 1 = dn7 j' := by unfold dn7; subst h'; rw [zdw, zcu]; omega
theorem zxu {s : List UInt8} {j j' : Nat} (hj : j < 8) (h : j' = j + 1) (hs : s.length <= 1000000) : ∃ b : UInt8, zra s j' = zra s j ++ [b] /\ IntKind.u8.wrap (zgw .u64 (zdj .u64 (IntKind.u64.wrap s.length) 8) (zdj .i64 8 (dn7 j))) = (b.toNat : Int) := by
 rw [zvk hj]
 subst h
 have hl : j < (zn2 (s.length * 8) 8).length := by rw [zdz]; exact hj
 refine ⟨(zn2 (s.length * 8) 8)[j], ?_, ?_⟩
 · rw [zra, zra, List.append_assoc]
   congr 1
   have : zn1 ((s.length : Int) * 8) 8 = zn2 (s.length * 8) 8 := by
     rw [zn1]
     congr 1
   rw [this, List.take_succ_eq_append_getElem hl]
 · rw [zka _ _ _ hl]
   have h1 : zdj .u64 (IntKind.u64.wrap (s.length : Int)) 8 = ((s.length * 8 : Nat) : Int) := by
     rw [zdj, zis, zis]; omega
   rw [h1]
   generalize s.length * 8 = n
   have h2 : (8 * (7 - (j : Int))).toNat = 8 * (7 - j) := by omega
   rw [zgw, h2, Int.fdiv_eq_ediv_of_nonneg _ (Int.le_of_lt (Int.pow_pos (by decide)))]
   have h3 : min (8 * (7 - j)) IntKind.u64.bits = 8 * (7 - j) := by
     apply Nat.min_eq_left
     show 8 * (7 - j) <= 64
     omega
   have h4 : (2 : Int) ^ (8 * (7 - j)) = ((256 ^ (8 - 1 - j) : Nat) : Int) := by
     rw [show (256 : Nat) = 2 ^ 8 from rfl, <- Nat.pow_mul]
     push_cast
     rfl
   rw [h3, h4, <- Int.natCast_ediv, ygh, UInt8.toNat_ofNat']
   rfl
theorem ybj {s : List UInt8} {k : Nat} (hk : k <= zn3 s) (h : ((znj s k).length : Int).tmod 64 = 56) : k = zn3 s := by
 rw [zh7, Int.tmod_eq_emod_of_nonneg (by omega)] at h
 unfold zn3 at hk |-
 omega
theorem yej {s : List UInt8} {k : Nat} (hk : k <= zn3 s) (h : ¬ ((znj s k).length : Int).tmod 64 = 56) : k + 1 <= zn3 s := by
 rcases Nat.lt_or_eq_of_le hk with h1 | h1
 · exact h1
 · exfalso
   apply h
   rw [zh7, Int.tmod_eq_emod_of_nonneg (by omega), h1]
   unfold zn3
   omega
def pdA (L : zab) (s : List UInt8) : Nat -> St -> Option Ann := fun id st => match id with
 | 0 => some ⟨Nat, fun k => [(4, .sl 900 1 0 (L zzz (L2 L znj s k)))], fun k => [(900, .row 5 1 (L zzz (L2 L znj s k)) (fun i _ => .int .u8 (L2 L zah (L2 L znj s k) i)))], [0, 3], [],
     fun k => L2 L (fun (s : List UInt8) (k : Nat) => k <= zn3 s) s k, fun k => L2 L (fun (s : List UInt8) (k : Nat) => zn3 s - k) s k⟩
 | 2 => some ⟨Nat, fun j => [(4, .sl 901 1 0 (L zzz (L2 L zra s j))), (5, .int .i64 (L dn7 j))], fun j => [(901, .row 5 1 (L zzz (L2 L zra s j)) (fun i _ => .int .u8 (L2 L zah (L2 L zra s j) i)))], [0, 3], [],
     fun j => L (fun j : Nat => j <= 8) j, fun j => L (fun j : Nat => 8 - j) j⟩
 | _ => none
def ybi (L : zab) : zdf := (55, fun xs => match xs with | [.str s] => some (L2 L upto 1000000 s, .str (L zoy s)) | _ => none)
theorem zxs : zec Try.prog (ybi std) := by
 intro xs p r h hp
 dsimp only [ybi] at h |-
 split at h <;> cases h
 try simp only [L2, L3, std] at hp |-
 rename_i s
 refine za6 (T := tt) (S := noS) (lo := fun L => pdA L s) (lb := noA) 5 (fn := Try.f55) rfl rfl (by kernel_rfl) (by kernel_rfl) rfl zaj (zef _) (by kernel_rfl) ?_
 intro L P' Q' hL hP hQ
 (cbv; try simp only [syT, true_and, and_true])
 refine ⟨?_, ⟨0, ?_⟩, fun k hk => ?_⟩
 · (subst hL; subst hQ; simp only [L2, L3, std] at *; try simp only [syS, reduceCtorEq, Int.reduceToNat, Int.reduceAdd, Int.reduceSub] at *)
   have hp : s.length <= 1000000 := hp
   omega
 · (cbv; try simp only [syT, true_and, and_true])
   (subst hL; subst hQ; simp only [L2, L3, std] at *; try simp only [syS, reduceCtorEq, Int.reduceToNat, Int.reduceAdd, Int.reduceSub] at *)
   obtain ⟨e1, e2⟩ := yia (l := s) (l' := znj s 0) (c := 128) (b := 128) (by rw [znj]; exact List.append_nil _) rfl
   exact ⟨⟨e1, fun i j hi _ => e2 i hi⟩, e1, Nat.zero_le _⟩
 · obtain ⟨k', hk'⟩ : ∃ k' : Nat, k' = k + 1 := ⟨_, rfl⟩
   obtain ⟨j0, hj0⟩ : ∃ j : Nat, j = 0 := ⟨_, rfl⟩
   (cbv; try simp only [syT, true_and, and_true])
   refine ⟨?_, fun h1 => ⟨?_, k', ?_⟩, fun h1 => ⟨⟨j0, ?_⟩, fun j hj => ?_⟩⟩
   · (subst hL; subst hQ; simp only [L2, L3, std] at *; try simp only [syS, reduceCtorEq, Int.reduceToNat, Int.reduceAdd, Int.reduceSub] at *)
     decide
   · (subst hL; subst hQ; simp only [L2, L3, std] at *; try simp only [syS, reduceCtorEq, Int.reduceToNat, Int.reduceAdd, Int.reduceSub] at *)
     have hp : s.length <= 1000000 := hp
     have := zni s
     rw [zh7]
     omega
   · (cbv; try simp only [syT, true_and, and_true])
     (subst hL; subst hQ; simp only [L2, L3, std] at *; try simp only [syS, reduceCtorEq, Int.reduceToNat, Int.reduceAdd, Int.reduceSub] at *)
     obtain ⟨e1, e2⟩ := yia (c := 0) (zxv (s := s) hk') rfl
     have := yej hk h1
     exact ⟨⟨e1, fun i j hi _ => e2 i hi⟩, e1, by omega, by omega⟩
   · (cbv; try simp only [syT, true_and, and_true])
     (subst hL; subst hQ; simp only [L2, L3, std] at *; try simp only [syS, reduceCtorEq, Int.reduceToNat, Int.reduceAdd, Int.reduceSub] at *)
     have e := ybj hk h1
     have e2 := yel (s := s) hj0
     rw [<- e] at e2
     rw [e2]
     exact ⟨⟨rfl, fun i j _ _ => rfl⟩, yhy hj0, rfl, by omega⟩
   · obtain ⟨j', hj'⟩ : ∃ j' : Nat, j' = j + 1 := ⟨_, rfl⟩
     (cbv; try simp only [syT, true_and, and_true])
     refine ⟨fun h2 => ⟨?_, ?_, j', ?_⟩, fun h2 => ⟨?_, ?_⟩⟩
     · subst hL
       exact decide_eq_true (zz6 (of_decide_eq_true h2))
     · (subst hL; subst hQ; simp only [L2, L3, std] at *; try simp only [syS, reduceCtorEq, Int.reduceToNat, Int.reduceAdd, Int.reduceSub] at *)
       have hp : s.length <= 1000000 := hp
       have := zni s
       rw [zxt s hj]
       omega
     · (cbv; try simp only [syT, true_and, and_true])
       clear h1 hk
       subst hL; subst hQ
       have hj8 : j < 8 := ya7 (of_decide_eq_true h2)
       obtain ⟨b, b1, b2⟩ := zxu hj8 hj' hp
       obtain ⟨e1, e2⟩ := yia b1 b2
       refine ⟨⟨e1, fun i j hi hj => ?_⟩, zz5 hj8 hj', e1, ?_, ?_⟩
       · have := e2 i hi
         simp only [L2, std, Nat.zero_add, Nat.add_eq, Nat.sub_eq] at this |-
         exact this
       · show j' <= 8
         omega
       · show 8 - j' + 1 <= 8 - j
         omega
     · (subst hL; subst hQ; simp only [L2, L3, std] at *; try simp only [syS, reduceCtorEq, Int.reduceToNat, Int.reduceAdd, Int.reduceSub] at *)
       exact ⟨by omega, fun i _ => ⟨_, rfl⟩⟩
     · (subst hL; subst hQ; simp only [L2, L3, std] at *; try simp only [syS, reduceCtorEq, Int.reduceToNat, Int.reduceAdd, Int.reduceSub] at *)
       rw [yfn h2 hj]
       rw [<- yek]
       simp only [Nat.zero_add]
       exact zgk _
def zgt (n : Nat) : List Int := zgu.take n
def frA (L : zab) : Nat -> St -> Option Ann := fun id st => match id with
 | 0 => some ⟨Nat, fun n => [(5, .int .i64 (L za7 n))], fun n => [(1, .row 87 1 8 (fun i _ => .int .u32 (L2 L za5 (L zgt n) i)))], [0, 1, 4], [0], fun n => L (fun n : Nat => n <= 8) n, fun n => L (fun n : Nat => 8 - n) n⟩
 | _ => none
def w8 (g : Nat -> AV) : AV := .agg [g 0, g 1, g 2, g 3, g 4, g 5, g 6, g 7]
theorem zz4 : ∀ n : _root_.Fin 8, zek (za5 [2, 3, 5, 7, 11, 13, 17, 19] n.val) false = za5 zgu n.val := by decide +kernel
theorem zvf {n n' i : Nat} (hn : n' = n + 1) (h : n < 8) (hi : i < 8) : over std n 0 1 [.int .u32 (zek (za5 [2, 3, 5, 7, 11, 13, 17, 19] n) false)] (fun i x => .int .u32 (za5 (zgt n) i)) i 0 = .int .u32 (za5 (zgt n') i) := by
 rw [zda, if_pos ⟨Nat.le_refl _, by omega⟩, zz4 ⟨n, h⟩]
 subst hn
 have hl : zgu.length = 8 := rfl
 by_cases hi2 : i = n
 · subst hi2
   rw [za4]
   show AV.int .u32 (za5 zgu i) = _
   rw [zgt, za5, za5, List.getD_eq_getElem?_getD, List.getD_eq_getElem?_getD, List.getElem?_take_of_lt (by omega)]
 · rw [za9 hi2]
   show AV.int .u32 (za5 (zgt n) i) = _
   congr 1
   rw [zgt, zgt, za5, za5, List.getD_eq_getElem?_getD, List.getD_eq_getElem?_getD]
   by_cases hlt : i < n
   · rw [List.getElem?_take_of_lt hlt, List.getElem?_take_of_lt (by omega)]
   · rw [List.getElem?_eq_none (by rw [List.length_take]; omega), List.getElem?_eq_none (by rw [List.length_take]; omega)]
def zkw (L : zab) : zdf := (65, fun xs => match xs with | [] => some (True, w8 fun i => .int .u32 (L2 L za5 zgu i)) | _ => none)
theorem zjp : zec Try.prog (zkw std) := by
 intro xs p r h hp
 dsimp only [zkw] at h |-
 split at h <;> cases h
 try simp only [L2, L3, std] at hp |-
 refine za6 (T := tt) (S := fun L => zc7 [zkm L]) (lo := frA) (lb := noA) 5 (fn := Try.f65) rfl rfl (by kernel_rfl) (by kernel_rfl) rfl zaj (zac ⟨zjc, trivial⟩) (by kernel_rfl) ?_
 intro L P' Q' hL hP hQ
 (cbv; try simp only [syT, true_and, and_true])
 refine ⟨⟨0, ?_⟩, fun n hn => ?_⟩
 · (cbv; try simp only [syT, true_and, and_true])
   (subst hL; subst hQ; simp only [L2, L3, std] at *; try simp only [syS, reduceCtorEq, Int.reduceToNat, Int.reduceAdd, Int.reduceSub] at *)
   exact ⟨fun i j hi hj => by
     have : j = 0 := by omega
     subst this
     simp [zgt, za5]; rfl, by omega⟩
 · obtain ⟨n', hn'⟩ : ∃ n' : Nat, n' = n + 1 := ⟨_, rfl⟩
   (cbv; try simp only [syT, true_and, and_true])
   refine ⟨fun h1 => ⟨?_, ?_, n', ?_⟩, fun h1 => ?_⟩
   · (subst hL; subst hQ; simp only [L2, L3, std] at *; try simp only [syS, reduceCtorEq, Int.reduceToNat, Int.reduceAdd, Int.reduceSub] at *)
     omega
   · (subst hL; subst hQ; simp only [L2, L3, std] at *; try simp only [syS, reduceCtorEq, Int.reduceToNat, Int.reduceAdd, Int.reduceSub] at *)
     omega
   · (cbv; try simp only [syT, true_and, and_true])
     (subst hL; subst hQ; simp only [L2, L3, std] at *; try simp only [syS, reduceCtorEq, Int.reduceToNat, Int.reduceAdd, Int.reduceSub] at *)
     have h1 : n < 8 := by omega
     refine ⟨fun i j hi hj => ?_, by omega, by omega, by omega⟩
     have : j = 0 := by omega
     subst this
     exact zvf hn' h1 hi
   · unfold w8 at hQ
     (subst hL; subst hQ; simp only [L2, L3, std] at *; try simp only [syS, reduceCtorEq, Int.reduceToNat, Int.reduceAdd, Int.reduceSub] at *)
     have : n = 8 := by omega
     subst this
     exact ⟨rfl, rfl, rfl, rfl, rfl, rfl, rfl, rfl⟩
def rlS (k : Int) : Int := zg7 .u64 (IntKind.u64.wrap k) 31
def rlZ (x k : Int) : Int := bor .u32 (zsa .u32 x (rlS k)) (zgw .u32 x (zdw .u64 32 (rlS k)))
def ygz (L : zab) : zdf := (99, fun xs => match xs with | [.int .u32 x, .int .i64 k] => some (True, .int .u32 (L2 L rlZ x k)) | _ => none)
theorem zf6 (a : Int) : 0 <= IntKind.u64.wrap a := Int.emod_nonneg _ (by decide)
theorem zr3 (k : Int) : 0 <= rlS k := zf6 _
theorem ybc : zec Try.prog (ygz std) := by
 intro xs p r h hp
 dsimp only [ygz] at h |-
 split at h <;> cases h
 try simp only [L2, L3, std] at hp |-
 rename_i x k
 refine za6 (T := tt) (S := noS) (lo := noA) (lb := noA) 5 (fn := Try.f99) rfl rfl (by kernel_rfl) (by kernel_rfl) rfl zaj (zef _) (by kernel_rfl) ?_
 (intro L P1 Q1 hL hP hQ; cbv; subst hL; simp only [L2, L3, std, syT]; subst hQ)
 refine ⟨decide_eq_true (zr3 k), decide_eq_true (zf6 _), ?_⟩
 rw [zg0]
 rfl
def rotZ (x a b c : Int) (sh : Bool) : Int := zds .u32 (zds .u32 (rlZ x (zdw .i64 0 a)) (rlZ x (zdw .i64 0 b))) (if sh then zgw .u32 x c else rlZ x (zdw .i64 0 c))
def zth (t : Int × Int × Int × Int × Bool) : Int := rotZ t.1 t.2.1 t.2.2.1 t.2.2.2.1 t.2.2.2.2
def yb8 (L : zab) : zdf := (87, fun xs => match xs with | [.int .u32 x, .int .i64 a, .int .i64 b, .int .i64 c, .bool sh] => some (L (fun c : Int => 0 <= c) c, .int .u32 (L zth (x, a, b, c, sh))) | _ => none)
theorem zxj : zec Try.prog (yb8 std) := by
 intro xs p r h hp
 dsimp only [yb8] at h |-
 split at h <;> cases h
 try simp only [L2, L3, std] at hp |-
 rename_i x a b c sh
 have hc : 0 <= c := hp
 refine za6 (T := tt) (S := fun L => zc7 [ygz L]) (lo := noA) (lb := noA) 5 (fn := Try.f87) rfl rfl (by kernel_rfl) (by kernel_rfl) rfl zaj (zac ⟨ybc, trivial⟩) (by kernel_rfl) ?_
 (intro L P1 Q1 hL hP hQ; cbv; subst hL; simp only [L2, L3, std, syT]; subst hQ)
 refine ⟨trivial, fun h => ⟨decide_eq_true hc, trivial, trivial, ?_⟩, fun h => ⟨trivial, trivial, ?_⟩⟩
 · rw [zg0]
   subst h; rfl
 · rw [zg0]
   subst h; rfl
def zcb (x n : Int) : Int := bor .u32 (zgw .u32 x n) (zsa .u32 x (zdw .i64 32 n))
def ztf (L : zab) : zdf := (57, fun xs => match xs with | [.int .u32 x, .int .i64 n] => some (L (fun n : Int => 0 <= n /\ n <= 32) n, .int .u32 (L2 L zcb x n)) | _ => none)
theorem ztg : zec Try.prog (ztf std) := by
 intro xs p r h hp
 dsimp only [ztf] at h |-
 split at h <;> cases h
 try simp only [L2, L3, std] at hp |-
 rename_i x n
 have hn : 0 <= n /\ n <= 32 := hp
 refine za6 (T := tt) (S := noS) (lo := noA) (lb := noA) 5 (fn := Try.f57) rfl rfl (by kernel_rfl) (by kernel_rfl) rfl zaj (zef _) (by kernel_rfl) ?_
 (intro L P1 Q1 hL hP hQ; cbv; subst hL; simp only [L2, L3, std, syT]; subst hQ)
 refine ⟨decide_eq_true hn.1, ?_, ?_⟩
 · have : 0 <= zdw .i64 32 n := by
     rw [zdw, zcu]
     omega
   exact decide_eq_true this
 · rw [zg0]; rfl
def zla (s : List UInt8) (n : Int) : Int := IntKind.u32.wrap (yhw (yas s (zdj .i64 4 n) (zbg .i64 (zdj .i64 4 n) 4)))
def zud (l : List Int) (n : Nat) : Int := zbg .u32 (zbg .u32 (zbg .u32 (za5 l (n - 16)) (zth (za5 l (n - 15), 7, 18, 3, true))) (za5 l (n - 7))) (zth (za5 l (n - 2), 17, 19, 10, true))
def wN (s : List UInt8) : Nat -> List Int
 | 0 => []
 | n + 1 => wN s n ++ [if n < 16 then zla s n else zud (wN s n) n]
def zqh (v : List Int) (k w : Int) : Int := zbg .u32 (zbg .u32 (zbg .u32 (zbg .u32 (za5 v 7) (zth (za5 v 4, 6, 11, 25, false))) (bor .u32 (zg7 .u32 (za5 v 4) (za5 v 5)) (zg7 .u32 (zds .u32 4294967295 (za5 v 4)) (za5 v 6)))) k) w
def zx1 (v : List Int) : Int := zbg .u32 (zth (za5 v 0, 2, 13, 22, false)) (bor .u32 (zg7 .u32 (za5 v 0) (za5 v 1)) (zg7 .u32 (za5 v 2) (bor .u32 (za5 v 0) (za5 v 1))))
def zn7 (v : List Int) (k w : Int) : List Int :=
 [zbg .u32 (zqh v k w) (zx1 v), za5 v 0, za5 v 1, za5 v 2, zbg .u32 (za5 v 3) (zqh v k w), za5 v 4, za5 v 5, za5 v 6]
def vN (w h : List Int) : Nat -> List Int
 | 0 => h
 | n + 1 => zn7 (vN w h n) (za5 zi6 n) (za5 w n)
def vS (s : List UInt8) (h : List Int) (n : Nat) : List Int := vN (wN s 64) h n
def hN (h v : List Int) (n : Nat) : List Int := (List.range 8).map fun i => if i < n then zbg .u32 (za5 h i) (za5 v i) else za5 h i
def hS (s : List UInt8) (h : List Int) (n : Nat) : List Int := hN h (vS s h 64) n
def yg9 (h : List Int) (s : List UInt8) : List Int := hS s h 8
theorem zlc (s : List UInt8) : ∀ n, (wN s n).length = n
 | 0 => rfl
 | n + 1 => by rw [wN, List.length_append, zlc s n]; rfl
theorem zfo {l : List Int} {v : Int} (i : Nat) : za5 (l ++ [v]) i = if i = l.length then v else za5 l i := by
 rw [za5, za5, List.getD_eq_getElem?_getD, List.getD_eq_getElem?_getD]
 by_cases h : i < l.length
 · rw [List.getElem?_append_left h, if_neg (by omega)]
 · rw [List.getElem?_append_right (by omega)]
   by_cases h2 : i = l.length
   · rw [if_pos h2, h2, Nat.sub_self]; rfl
   · rw [if_neg h2, List.getElem?_eq_none (by simp; omega), List.getElem?_eq_none (by omega)]
theorem zog {l : List Int} {n : Nat} (v : Int) (hl : l.length = n) (i : Nat) : over std n 0 1 [.int .u32 v] (fun i _ => .int .u32 (za5 l i)) i 0 = .int .u32 (za5 (l ++ [v]) i) := by
 rw [zda, if_pos ⟨Nat.le_refl _, by omega⟩, zfo, hl]
 by_cases hi2 : i = n
 · rw [if_pos hi2, hi2, za4]; rfl
 · rw [if_neg hi2, za9 hi2]; rfl
theorem ydq {s : List UInt8} {n n' : Nat} (h : n' = n + 1) (h2 : n < 16) : wN s n' = wN s n ++ [zla s n] := by
 subst h; rw [wN, if_pos h2]
theorem ydr {s : List UInt8} {n n' : Nat} (h : n' = n + 1) (h2 : ¬ n < 16) : wN s n' = wN s n ++ [zud (wN s n) n] := by
 subst h; rw [wN, if_neg h2]
def mixA (L : zab) (h : List Int) (s : List UInt8) : Nat -> St -> Option Ann := fun id st => match id with
 | 0 => some ⟨Nat, fun n => [(17, .int .i64 (L za7 n))], fun n => [(7, .row 89 1 64 (fun i _ => .int .u32 (L2 L za5 (L2 L wN s n) i)))], [1, 2, 3, 6, 7], [3, 6], fun n => L (fun n : Nat => n <= 16) n, fun n => L (fun n : Nat => 16 - n) n⟩
 | 2 => some ⟨Nat, fun n => [(11, .int .i64 (L za7 n))], fun n => [(7, .row 89 1 64 (fun i _ => .int .u32 (L2 L za5 (L2 L wN s n) i)))], [1, 2, 3, 6, 7], [3, 6], fun n => L (fun n : Nat => 16 <= n /\ n <= 64) n, fun n => L (fun n : Nat => 64 - n) n⟩
 | 4 => some ⟨Nat, fun n => [(64, .int .i64 (L za7 n))], fun n => [(12, .row 87 1 8 (fun i _ => .int .u32 (L2 L za5 (L3 L vS s h n) i)))], [1, 2, 3, 6, 7, 12], [3, 6, 7], fun n => L (fun n : Nat => n <= 64) n, fun n => L (fun n : Nat => 64 - n) n⟩
 | 6 => some ⟨Nat, fun n => [(127, .int .i64 (L za7 n))], fun n => [(3, .row 87 1 8 (fun i _ => .int .u32 (L2 L za5 (L3 L hS s h n) i)))], [3, 6, 12], [6, 12], fun n => L (fun n : Nat => n <= 8) n, fun n => L (fun n : Nat => 8 - n) n⟩
 | _ => none
def yf6 (n : Nat) (g : Nat -> AV) : Prop := n = 64 /\ ∀ j, j < 64 -> g j = .int .u32 (za5 zi6 j)
def yhd (x : List Int × List UInt8) : List Int := yg9 x.1 x.2
def w8L (L : zab) (l : List Int) : AV := .agg [.int .u32 (L2 L za5 l 0), .int .u32 (L2 L za5 l 1), .int .u32 (L2 L za5 l 2), .int .u32 (L2 L za5 l 3), .int .u32 (L2 L za5 l 4), .int .u32 (L2 L za5 l 5), .int .u32 (L2 L za5 l 6), .int .u32 (L2 L za5 l 7)]
def zy5 (L : zab) : zdf := (67, fun xs => match xs with
 | [.agg [.int .u32 a0, .int .u32 a1, .int .u32 a2, .int .u32 a3, .int .u32 a4, .int .u32 a5, .int .u32 a6, .int .u32 a7], .iptr n g, .str s] => some (L2 L yf6 n g /\ L (fun s : List UInt8 => s.length = 64) s, w8L L (L yhd ([a0, a1, a2, a3, a4, a5, a6, a7], s)))
 | _ => none)
theorem yh1 {h : Array Obj} {D : Nat -> Prop} {μ : Mu} {a x y : AV} {r : List AV} {vs : Array Value} (e : ∀ v, R h D μ x v -> R h D μ y v) (hr : RL h D μ (a :: x :: r) vs) : RL h D μ (a :: y :: r) vs := by
 refine ⟨by rw [<- hr.1]; rfl, fun i z v hz hv => ?_⟩
 match i, hz with
 | 0, hz => exact hr.2 0 z v hz hv
 | 1, hz => cases hz; exact e v (hr.2 1 x v rfl hv)
 | i + 2, hz => exact hr.2 (i + 2) z v hz hv
theorem zzd {P : Program} {f : FuncId} {xs ys : List AV} {r : AV} (h : ∀ h D vs, RL h D zan xs vs -> RL h D zan ys vs) (ha : zbf P f ys r) : zbf P f xs r := fun D w vs hD hx => ha D w vs hD (h _ _ _ hx)
theorem zuy {h : Array Obj} {D : Nat -> Prop} {μ : Mu} {n : Nat} {g g' : Nat -> AV} {v : Value} (r : R h D μ (.iptr n g) v) (e : ∀ j, j < n -> g j = g' j) : R h D μ (.iptr n g') v := by
 cases r with
 | iptr _ _ b o vs hD hv h1 hr => exact .iptr n g' b o vs hD hv h1 (fun j hj => by rw [<- e j hj]; exact hr j hj)
theorem zci {n n' : Nat} (h : n' = n + 1) (h2 : n < 1000) : zbg .i64 (za7 n) 1 = za7 n' := by
 subst h; unfold za7; rw [zbg, zcu]; omega
theorem zeg {n k : Nat} {c : Int} (hc : c = (k : Int)) (h : k <= n) (h2 : n < 1000) : (zdw .i64 (za7 n) c).toNat = n - k := by
 subst hc; unfold za7; rw [zdw, zcu]; omega
theorem za2 {n k : Nat} (h : ilt (za7 n) (za7 k) = true) : n < k := by
 have := of_decide_eq_true h
 unfold za7 at this; omega
theorem zar {n k : Nat} (h : ilt (za7 n) (za7 k) = false) : ¬ n < k := by
 have := of_decide_eq_false h
 unfold za7 at this; omega
theorem zaw {n k : Nat} (h : n < k) : inR (za7 n) (za7 k) = true := by rw [zma]; exact ⟨Int.natCast_nonneg _, by unfold za7; omega⟩
theorem zgs {n : Nat} (h : n < 1000) : zdj .i64 4 (za7 n) = ((4 * n : Nat) : Int) /\ zbg .i64 (zdj .i64 4 (za7 n)) 4 = ((4 * n + 4 : Nat) : Int) := by
 have e : zdj .i64 4 (za7 n) = ((4 * n : Nat) : Int) := by rw [zdj, zcu, za7]; omega
 rw [e]
 refine ⟨rfl, ?_⟩
 rw [zbg, zcu]; omega
theorem w_in {s : List UInt8} {n : Nat} (h : n < 16) (hs : s.length = 64) : inS (zdj .i64 4 (za7 n)) (zbg .i64 (zdj .i64 4 (za7 n)) 4) (slen s) = true := by
 obtain ⟨e1, e2⟩ := zgs (n := n) (by omega)
 rw [e2, e1, slen, hs, yfa]
 exact ⟨by omega, by omega, by omega⟩
theorem ygk {s : List UInt8} {n : Nat} (h : n < 16) (hs : s.length = 64) : zyw (yas s (zdj .i64 4 (za7 n)) (zbg .i64 (zdj .i64 4 (za7 n)) 4)) := by
 obtain ⟨e1, e2⟩ := zgs (n := n) (by omega)
 rw [e2, e1, yas, zyw, List.length_drop, List.length_take, hs, Int.toNat_natCast, Int.toNat_natCast]
 omega
theorem zck {n k : Nat} {c : Int} (hc : c = (k : Int)) (h : k <= n) (h2 : n < 64) : inR (zdw .i64 (za7 n) c) (za7 64) = true := by
 subst hc
 have e : zdw .i64 (za7 n) (k : Int) = za7 (n - k) := by unfold za7; rw [zdw, zcu]; omega
 rw [e]
 exact zaw (by omega)
theorem ygx {a0 a1 a2 a3 a4 a5 a6 a7 : Int} {i : Nat} {s : List UInt8} (hi : i < 8) : AV.int .u32 (za5 [za5 [a0, a1, a2, a3, a4, a5, a6, a7] 0, za5 [a0, a1, a2, a3, a4, a5, a6, a7] 1, za5 [a0, a1, a2, a3, a4, a5, a6, a7] 2, za5 [a0, a1, a2, a3, a4, a5, a6, a7] 3, za5 [a0, a1, a2, a3, a4, a5, a6, a7] 4, za5 [a0, a1, a2, a3, a4, a5, a6, a7] 5, za5 [a0, a1, a2, a3, a4, a5, a6, a7] 6, za5 [a0, a1, a2, a3, a4, a5, a6, a7] 7] i) = .int .u32 (za5 (vS s [a0, a1, a2, a3, a4, a5, a6, a7] 0) i) := rfl
theorem zwz {v : List Int} {k w : Int} {i : Nat} (hi : i < 8) : over std 0 0 1 [.int .u32 (zbg .u32 (zqh v k w) (zx1 v))] (over std 4 0 1 [.int .u32 (zbg .u32 (za5 v 3) (zqh v k w))] (fun i _ => zga std (zch 1 7 i) (.int .u32 (za5 v (0 + (i - 1)))) (.int .u32 (za5 v i)))) i 0 = .int .u32 (za5 (zn7 v k w) i) := by
 unfold zn7
 generalize zqh v k w = x
 generalize zx1 v = y
 match i, hi with
 | 0, _ => rfl
 | 1, _ => rfl
 | 2, _ => rfl
 | 3, _ => rfl
 | 4, _ => rfl
 | 5, _ => rfl
 | 6, _ => rfl
 | 7, _ => rfl
theorem zv3 {h v : List Int} {n i : Nat} (hi : i < 8) : za5 (hN h v n) i = if i < n then zbg .u32 (za5 h i) (za5 v i) else za5 h i := by
 rw [hN, za5, List.getD_eq_getElem?_getD, List.getElem?_map, List.getElem?_range hi]; rfl
theorem ya3 {h v : List Int} {n n' i : Nat} (hn : n' = n + 1) (h8 : n < 8) (hi : i < 8) : over std n 0 1 [.int .u32 (zbg .u32 (za5 (hN h v n) n) (za5 v n))] (fun i _ => .int .u32 (za5 (hN h v n) i)) i 0 = .int .u32 (za5 (hN h v n') i) := by
 subst hn
 rw [zda, if_pos ⟨Nat.le_refl _, by omega⟩, zv3 hi, zv3 h8, zv3 hi, if_neg (Nat.lt_irrefl n)]
 by_cases hi2 : i = n
 · rw [hi2, za4, if_neg (Nat.lt_irrefl n), if_pos (Nat.lt_succ_self n)]; rfl
 · rw [za9 hi2]
   by_cases hlt : i < n
   · rw [if_pos hlt, if_pos (by omega)]; rfl
   · rw [if_neg hlt, if_neg (by omega)]; rfl
theorem hN_0 {h v : List Int} {n i : Nat} (hn : n = 0) (hi : i < 8) : AV.int .u32 (za5 h i) = .int .u32 (za5 (hN h v n) i) := by
 rw [zv3 hi, hn, if_neg (Nat.not_lt_zero i)]
theorem yfc (m : List Int) : ziw (w8L std m) (.agg [.int .u32 (za5 [za5 m 0, za5 m 1, za5 m 2, za5 m 3, za5 m 4, za5 m 5, za5 m 6, za5 m 7] 0), .int .u32 (za5 [za5 m 0, za5 m 1, za5 m 2, za5 m 3, za5 m 4, za5 m 5, za5 m 6, za5 m 7] 1),
   .int .u32 (za5 [za5 m 0, za5 m 1, za5 m 2, za5 m 3, za5 m 4, za5 m 5, za5 m 6, za5 m 7] 2), .int .u32 (za5 [za5 m 0, za5 m 1, za5 m 2, za5 m 3, za5 m 4, za5 m 5, za5 m 6, za5 m 7] 3), .int .u32 (za5 [za5 m 0, za5 m 1, za5 m 2, za5 m 3, za5 m 4, za5 m 5, za5 m 6, za5 m 7] 4),
   .int .u32 (za5 [za5 m 0, za5 m 1, za5 m 2, za5 m 3, za5 m 4, za5 m 5, za5 m 6, za5 m 7] 5), .int .u32 (za5 [za5 m 0, za5 m 1, za5 m 2, za5 m 3, za5 m 4, za5 m 5, za5 m 6, za5 m 7] 6), .int .u32 (za5 [za5 m 0, za5 m 1, za5 m 2, za5 m 3, za5 m 4, za5 m 5, za5 m 6, za5 m 7] 7)]) := by
 unfold w8L
 simp only [sySet, L2, std]
 exact ⟨rfl, rfl, rfl, rfl, rfl, rfl, rfl, rfl, trivial⟩
theorem zpa : zec Try.prog (zy5 std) := by
 intro xs p r h hp
 dsimp only [zy5] at h |-
 split at h <;> cases h
 try simp only [L2, L3, std] at hp |-
 rename_i a0 a1 a2 a3 a4 a5 a6 a7 n g s
 obtain ⟨⟨hn, hg⟩, hs⟩ : yf6 n g /\ s.length = 64 := hp
 subst hn
 obtain ⟨kf, hkf⟩ : ∃ kf : Nat -> Int, kf = za5 zi6 := ⟨_, rfl⟩
 obtain ⟨hl, hhl⟩ : ∃ l : List Int, l = [a0, a1, a2, a3, a4, a5, a6, a7] := ⟨_, rfl⟩
 rw [<- hkf] at hg
 refine zzd (fun h D vs hr => yh1 (fun v r => zuy r hg) hr) ?_
 rw [<- hhl]
 clear hg g
 refine za6 (T := tt) (S := fun L => zc7 [ycc L, yb8 L]) (lo := fun L => mixA L hl s) (lb := noA) 5 (fn := Try.f67) rfl rfl (by kernel_rfl) (by kernel_rfl) rfl zaj (zac ⟨zyv, zxj, trivial⟩) (by kernel_rfl) ?_
 obtain ⟨n0, hn0⟩ : ∃ n : Nat, n = 0 := ⟨_, rfl⟩
 obtain ⟨n1, hn1⟩ : ∃ n : Nat, n = 16 := ⟨_, rfl⟩
 intro L P' Q' hL hP hQ
 (cbv; try simp only [syT, true_and, and_true])
 refine ⟨⟨n0, ?_⟩, fun n hn => ?_⟩
 · (cbv; try simp only [syT, true_and, and_true])
   subst hL; subst hQ
   refine ⟨fun _ _ _ _ => trivial, fun _ _ _ _ => trivial, fun i j hi hj => ?_, fun _ _ => trivial, ?_, ?_⟩
   · have : j = 0 := by omega
     subst this; subst hn0; rfl
   · subst hn0; rfl
   · subst hn0; exact Nat.zero_le _
 obtain ⟨n', hn'⟩ : ∃ n' : Nat, n' = n + 1 := ⟨_, rfl⟩
 (cbv; try simp only [syT, true_and, and_true])
 refine ⟨fun h1 => ⟨?_, ?_, ?_, n', ?_⟩, fun h1 => ⟨⟨n1, ?_⟩, fun m hm => ?_⟩⟩
 · subst hL
   exact w_in (za2 h1) hs
 · subst hL
   exact ygk (za2 h1) hs
 · subst hL
   have h16 : n < 16 := za2 h1
   exact zaw (by omega)
 · (cbv; try simp only [syT, true_and, and_true])
   subst hL; subst hQ
   have h16 : n < 16 := za2 h1
   refine ⟨fun _ _ _ _ => trivial, fun _ _ _ _ => trivial, fun i j hi hj => ?_, fun _ _ => trivial, ?_, ?_, ?_⟩
   · have : j = 0 := by omega
     subst this
     rw [show L2 std wN s n' = wN s n ++ [zla s n] from ydq hn' h16]
     exact zog _ (zlc s n) i
   · exact zci hn' (by omega)
   · show n' <= 16
     omega
   · show 16 - n' + 1 <= 16 - n
     omega
 · (cbv; try simp only [syT, true_and, and_true])
   subst hL; subst hQ
   have h16 : n = n1 := by
     have hn : n <= 16 := hn
     have h2 : ¬ n < 16 := zar h1
     omega
   subst h16
   refine ⟨fun _ _ _ _ => trivial, fun _ _ _ _ => trivial, fun _ _ _ _ => rfl, fun _ _ => trivial, ?_, ?_⟩
   · subst hn1; rfl
   · subst hn1; exact ⟨Nat.le_refl _, by decide⟩
 clear h1 hn hn' n' hn0 n0
 obtain ⟨m', hm'⟩ : ∃ m' : Nat, m' = m + 1 := ⟨_, rfl⟩
 obtain ⟨k0, hk0⟩ : ∃ k : Nat, k = 0 := ⟨_, rfl⟩
 (cbv; try simp only [syT, true_and, and_true])
 refine ⟨fun h1 => ⟨?_, ?_, ?_, ?_, ?_, ?_, ?_, m', ?_⟩, fun h1 => ⟨⟨k0, ?_⟩, fun k hk => ?_⟩⟩
 · subst hL; exact zck (k := 16) rfl (Nat.le_trans (by decide) hm.1) (za2 h1)
 · subst hL; exact zck (k := 15) rfl (Nat.le_trans (by decide) hm.1) (za2 h1)
 · subst hL; show (0 : Int) <= 3; decide
 · subst hL; exact zck (k := 7) rfl (Nat.le_trans (by decide) hm.1) (za2 h1)
 · subst hL; exact zck (k := 2) rfl (Nat.le_trans (by decide) hm.1) (za2 h1)
 · subst hL; show (0 : Int) <= 10; decide
 · subst hL; exact zaw (za2 h1)
 · (cbv; try simp only [syT, true_and, and_true])
   subst hL; subst hQ
   have h64 : m < 64 := za2 h1
   have h16 : 16 <= m := hm.1
   refine ⟨fun _ _ _ _ => trivial, fun _ _ _ _ => trivial, fun i j hi hj => ?_, fun _ _ => trivial, ?_, ?_, ?_⟩
   · have : j = 0 := by omega
     subst this
     rw [show L2 std wN s m' = wN s m ++ [zud (wN s m) m] from ydr hm' (by omega)]
     rw [zud, <- zeg (n := m) (k := 16) (c := 16) rfl h16 (by omega), <- zeg (n := m) (k := 15) (c := 15) rfl (by omega) (by omega), <- zeg (n := m) (k := 7) (c := 7) rfl (by omega) (by omega), <- zeg (n := m) (k := 2) (c := 2) rfl (by omega) (by omega)]
     exact zog _ (zlc s m) i
   · exact zci hm' (by omega)
   · exact ⟨by omega, by omega⟩
   · show 64 - m' + 1 <= 64 - m
     omega
 · (cbv; try simp only [syT, true_and, and_true])
   subst hL; subst hQ
   refine ⟨fun _ _ _ _ => trivial, fun _ _ _ _ => trivial, fun _ _ _ _ => trivial, fun i j hi hj => ?_, fun _ _ => trivial, ?_, ?_⟩
   · subst hk0; subst hhl
     exact ygx (s := s) hi
   · subst hk0; rfl
   · subst hk0; exact Nat.zero_le _
 have hm64 : m = 64 := by
   subst hL
   have : ¬ m < 64 := zar h1
   have : m <= 64 := hm.2
   omega
 subst hm64
 clear h1 hm hm' m' hk0 k0
 obtain ⟨k', hk'⟩ : ∃ k' : Nat, k' = k + 1 := ⟨_, rfl⟩
 obtain ⟨q0, hq0⟩ : ∃ q : Nat, q = 0 := ⟨_, rfl⟩
 (cbv; try simp only [syT, true_and, and_true])
 refine ⟨fun h1 => ⟨?_, ?_, ?_, ?_, ?_, ?_, ?_, ?_, ?_, ?_, ?_, ?_, ?_, ?_, ?_, ?_, ?_, ?_, ?_, ?_, ?_, ?_, k', ?_⟩, fun h1 => ⟨⟨q0, ?_⟩, fun q hq => ?_⟩⟩
 · subst hL; rfl
 · subst hL; rfl
 · subst hL; show (0 : Int) <= 25; decide
 · subst hL; rfl
 · subst hL; rfl
 · subst hL; rfl
 · subst hL; rfl
 · subst hL; exact zaw (za2 h1)
 · subst hL; exact zaw (za2 h1)
 · subst hL; rfl
 · subst hL; show (0 : Int) <= 22; decide
 · subst hL; rfl
 · subst hL; rfl
 · subst hL; rfl
 · subst hL; rfl
 · subst hL; rfl
 · subst hL; rfl
 · subst hL; rfl
 · subst hL; rfl
 · subst hL; rfl
 · subst hL; rfl
 · subst hL; rfl
 · (cbv; try simp only [syT, true_and, and_true])
   subst hL; subst hQ
   have h64 : k < 64 := za2 h1
   refine ⟨fun _ _ _ _ => trivial, fun _ _ _ _ => trivial, fun _ _ _ _ => trivial, fun i j hi hj => ?_, fun _ _ => trivial, ?_, ?_, ?_⟩
   · have : j = 0 := by omega
     subst this
     have e : vS s hl k' = zn7 (vS s hl k) (kf k) (za5 (wN s 64) k) := by subst hk'; subst hkf; rfl
     have ek : (za7 k).toNat = k := Int.toNat_natCast k
     simp only [L2, L3, std, ek, e]
     clear e
     generalize vS s hl k = v
     generalize wN s 64 = w
     exact zwz hi
   · exact zci hk' (by omega)
   · show k' <= 64
     omega
   · show 64 - k' + 1 <= 64 - k
     omega
 · (cbv; try simp only [syT, true_and, and_true])
   subst hL; subst hQ
   have hk64 : k = 64 := by
     have : ¬ k < 64 := zar h1
     have : k <= 64 := hk
     omega
   subst hk64
   refine ⟨fun _ _ _ _ => trivial, fun _ _ _ _ => trivial, fun i j hi hj => ?_, ?_, ?_⟩
   · exact hhl ▸ hN_0 hq0 hi
   · subst hq0; rfl
   · subst hq0; exact Nat.zero_le _
 have hk64 : k = 64 := by
   subst hL
   have : ¬ k < 64 := zar h1
   have : k <= 64 := hk
   omega
 subst hk64
 clear h1 hk hk' k' hq0 q0
 obtain ⟨q', hq'⟩ : ∃ q' : Nat, q' = q + 1 := ⟨_, rfl⟩
 (cbv; try simp only [syT, true_and, and_true])
 refine ⟨fun h1 => ⟨?_, ?_, ?_, q', ?_⟩, fun h1 => ?_⟩
 · subst hL; exact zaw (za2 h1)
 · subst hL; exact zaw (za2 h1)
 · subst hL; exact zaw (za2 h1)
 · (cbv; try simp only [syT, true_and, and_true])
   subst hL; subst hQ
   have h8 : q < 8 := za2 h1
   refine ⟨fun _ _ _ _ => trivial, fun _ _ _ _ => trivial, fun i j hi hj => ?_, ?_, ?_, ?_⟩
   · have : j = 0 := by omega
     subst this
     have ek : (za7 q).toNat = q := Int.toNat_natCast q
     simp only [L2, L3, std, ek, hS]
     exact ya3 hq' h8 hi
   · exact zci hq' (by omega)
   · show q' <= 8
     omega
   · show 8 - q' + 1 <= 8 - q
     omega
 · subst hL; subst hQ
   have hq8 : q = 8 := by
     have : ¬ q < 8 := zar h1
     have : q <= 8 := hq
     omega
   subst hq8
   rw [show yhd (hl, s) = hS s hl 8 from rfl]
   simp only [std]
   generalize hS s hl 8 = m
   exact yfc m
def zd6 (p : List UInt8) (n : Nat) : List UInt8 := (p.drop (64 * n)).take 64
def zf1 (p : List UInt8) : Nat -> List Int
 | 0 => zgu
 | n + 1 => yg9 (zf1 p n) (zd6 p n)
def znk (m : List Int) : Nat -> List UInt8
 | 0 => []
 | n + 1 => znk m n ++ zn1 (IntKind.u64.wrap (za5 m n)) 4
def ydx (p : List UInt8) : List UInt8 := znk (zf1 p (p.length / 64)) 8
def zg1 (p : List UInt8) (n : Nat) : List UInt8 := p.drop (64 * n)
def zwa (p : List UInt8) (n : Nat) : Prop := 64 * (n + 1) <= p.length
theorem zet (m : List Int) : ∀ n, (znk m n).length = 4 * n
 | 0 => rfl
 | n + 1 => by rw [znk, List.length_append, zet m n, zf7 _ _ (by decide) (by decide)]; show 4 * n + 4 = _; omega
theorem zoo (p : List UInt8) : (ydx p).length = 32 := zet _ 8
theorem zfm (s : List UInt8) : (zoy s).length % 64 = 0 /\ 64 <= (zoy s).length /\ (zoy s).length = s.length + 9 + zn3 s := by
 have : (zoy s).length = s.length + 9 + zn3 s := by
   rw [zoy, List.length_append, List.length_append, List.length_append, List.length_replicate, zf7 _ _ (by decide) (by decide)]
   show s.length + 1 + zn3 s + 8 = _
   omega
 rw [this]
 unfold zn3
 omega
def zqg (x : AV) : List UInt8 := ydx (zoy (zks x))
def smB (L : zab) (p : List UInt8) : Nat -> St -> Option Ann := fun id st => match id with
 | 0 => some ⟨Nat, fun n => [(3, .str (L2 L zg1 p n)), (4, .ref 4 0), (5, .ref 5 0)], fun n => [(5, .row 89 1 64 (fun i _ => .int .u32 (L2 L za5 zi6 i))), (4, .row 87 1 8 (fun i _ => .int .u32 (L2 L za5 (L2 L zf1 p n) i)))], [2, 700005], [2], fun n => L2 L zwa p n, fun n => L2 L (fun (p : List UInt8) (n : Nat) => p.length - n) p n⟩
 | _ => none
def smA (L : zab) (m : List Int) : Nat -> St -> Option Ann := fun id st => match id with
 | 0 => some ⟨Nat, fun n => [(23, .int .i64 (L za7 n)), (22, w8L L m)], fun n => [(6, .row 75 1 32 (fun i _ => .int .u8 (L2 L zah (L2 L znk m n) i)))], [2, 6], [2], fun n => L (fun n : Nat => n <= 8) n, fun n => L (fun n : Nat => 8 - n) n⟩
 | _ => none
def zwx (L : zab) : zdf := (53, fun xs => match xs with | [x] => some (L zel x, .arr 32 (fun j => .int .u8 (L2 L zah (L zqg x) j))) | _ => none)
theorem zhd {p : List UInt8} {k : Nat} (h : zwa p k) : inC 64 (slen (zg1 p k)) = true := by
 have h : 64 * (k + 1) <= p.length := h
 rw [inC, slen, zg1, List.length_drop, Bool.and_eq_true, decide_eq_true_eq, decide_eq_true_eq]
 omega
theorem zw8 {p : List UInt8} {k : Nat} (h : zwa p k) : ((zg1 p k).take (64 : Int).toNat).length = 64 := by
 have h : 64 * (k + 1) <= p.length := h
 rw [zg1, List.length_take, List.length_drop]
 show min 64 _ = _
 omega
theorem zhe {p : List UInt8} {k k' : Nat} (h : k' = k + 1) : (zg1 p k).drop (64 : Int).toNat = zg1 p k' := by
 subst h
 rw [zg1, zg1, List.drop_drop]; rfl
theorem zq6 {p : List UInt8} {k k' : Nat} (hp : p.length % 64 = 0) (h : k' = k + 1) (hn : ¬ (zg1 p k').length = 0) : zwa p k' := by
 rw [zg1, List.length_drop] at hn
 show 64 * (k' + 1) <= p.length
 omega
theorem zw9 {p : List UInt8} {k k' : Nat} (hk : zwa p k) (h : k' = k + 1) (hn : (zg1 p k').length = 0) : k' = p.length / 64 := by
 have hk : 64 * (k + 1) <= p.length := hk
 rw [zg1, List.length_drop] at hn
 omega
theorem zmm {l : List Int} (h : l.length = 8) : [za5 l 0, za5 l 1, za5 l 2, za5 l 3, za5 l 4, za5 l 5, za5 l 6, za5 l 7] = l := by
 match l, h with
 | [a, b, c, d, e, f, g, h], _ => rfl
theorem zy6 (h : List Int) (s : List UInt8) : (yg9 h s).length = 8 := by
 rw [yg9, hS, hN, List.length_map, List.length_range]
theorem zd8 (p : List UInt8) : ∀ k, (zf1 p k).length = 8
 | 0 => rfl
 | k + 1 => zy6 _ _
theorem zh4 {p : List UInt8} {k k' : Nat} (h : k' = k + 1) : yhd ([za5 (zf1 p k) 0, za5 (zf1 p k) 1, za5 (zf1 p k) 2, za5 (zf1 p k) 3, za5 (zf1 p k) 4, za5 (zf1 p k) 5, za5 (zf1 p k) 6, za5 (zf1 p k) 7], (zg1 p k).take (64 : Int).toNat) = zf1 p k' := by
 rw [zmm (zd8 p k)]
 subst h
 rfl
theorem zzl {l : List UInt8} (h : (!seq l []) = true) : ¬ l.length = 0 := by
 intro hl
 rw [List.eq_nil_of_length_eq_zero hl] at h
 exact absurd h (by decide)
theorem zsp {l : List UInt8} (h : (!seq l []) = false) : l.length = 0 := by
 have : l = [] := by
   have h2 : seq l [] = true := by simpa using h
   simpa [seq] using h2
 rw [this]; rfl
theorem zzp {q : Nat} (h : q < 8) : inC (zdj .i64 4 (za7 q)) (za7 32) = true := by
 rw [(zgs (n := q) (by omega)).1, zys]
 unfold za7
 omega
theorem zu2 (x : Int) : zxp (IntKind.u64.wrap x) 4 := by
 refine ⟨zf6 _, ?_, by decide, by decide⟩
 rw [zis]; omega
theorem zoz {q : Nat} {x : Int} (h : q < 8) : zti (List.length (zn1 x 4)) (Nat.sub 32 (Int.toNat (zdj .i64 4 (za7 q)))) = true := by
 rw [(zgs (n := q) (by omega)).1, Int.toNat_natCast, zf7 _ _ (by decide) (by decide), zti, Bool.and_eq_true, zbi, zc1]
 show 0 < 32 - 4 * q /\ 4 <= 32 - 4 * q
 omega
theorem zu1 {m : List Int} {q q' : Nat} (hq : q' = q + 1) (h8 : q < 8) (i : Nat) : zga std (zch (Nat.add 0 (Int.toNat (zdj .i64 4 (za7 q)))) (List.length (zn1 (IntKind.u64.wrap (za5 m q)) 4)) i)
   (.int .u8 (zl7 (zn1 (IntKind.u64.wrap (za5 m q)) 4) (za7 (Nat.sub i (Nat.add 0 (Int.toNat (zdj .i64 4 (za7 q)))))))) (.int .u8 (zah (znk m q) i)) = .int .u8 (zah (znk m q') i) := by
 subst hq
 rw [(zgs (n := q) (by omega)).1, Int.toNat_natCast, show Nat.add 0 (4 * q) = 4 * q from Nat.zero_add _, show znk m (q + 1) = znk m q ++ zn1 (IntKind.u64.wrap (za5 m q)) 4 from rfl]
 have hl := zet m q
 have hp := zf7 (IntKind.u64.wrap (za5 m q)) 4 (by decide) (by decide)
 generalize znk m q = l at hl |-
 generalize zn1 (IntKind.u64.wrap (za5 m q)) 4 = b at hp |-
 have hp : b.length = 4 := hp
 rw [hp, zch]
 by_cases h1 : i < 4 * q
 · rw [show zb8 (4 * q) i = false by rw [Bool.eq_false_iff, ne_eq, zc1]; omega, zl4 (by omega)]; rfl
 · rw [show zb8 (4 * q) i = true by rw [zc1]; omega, zl3 (by omega), hl]
   by_cases h2 : i < 4 * q + 4
   · rw [yft h2]
     show AV.int .u8 (zl7 b (za7 (i - 4 * q))) = _
     rw [zl7, za7, Int.toNat_natCast]; rfl
   · rw [yfu h2]
     show AV.int .u8 (zah l i) = _
     rw [zah, zah, List.getD_eq_getElem?_getD, List.getD_eq_getElem?_getD, List.getElem?_eq_none (by omega), List.getElem?_eq_none (by omega)]
theorem yao {n : Nat} {get : Nat -> Nat -> AV} (hp : zel (.lst 1 n get)) : zbf Try.prog 53 [.lst 1 n get] (.arr 32 (fun j => .int .u8 (L2 std zah (std zqg (.lst 1 n get)) j))) := by
 obtain ⟨p, hpp⟩ : ∃ p, p = zoy (zks (.lst 1 n get)) := ⟨_, rfl⟩
 obtain ⟨m, hm⟩ : ∃ m, m = zf1 p (p.length / 64) := ⟨_, rfl⟩
 have hlen : p.length % 64 = 0 /\ 64 <= p.length := by rw [hpp]; exact ⟨(zfm _).1, (zfm _).2.1⟩
 refine za6 (T := tt) (S := fun L => zc7 [zpv L, zjz L, zkw L, zps L, zy5 L, zr8 L]) (lo := fun L => smA L m) (lb := fun L => smB L p) 5 (fn := Try.f53) rfl rfl (by kernel_rfl) (by kernel_rfl) rfl zaj (zac ⟨zm8, zj1, zjp, zm7, zpa, zh5, trivial⟩) (by kernel_rfl) ?_
 obtain ⟨n0, hn0⟩ : ∃ n : Nat, n = 0 := ⟨_, rfl⟩
 intro L P' Q' hL hP hQ
 obtain ⟨q0, hq0⟩ : ∃ n : Nat, n = 0 := ⟨_, rfl⟩
 (cbv; try simp only [syT, true_and, and_true])
 refine ⟨fun k hk => ?_, ?_⟩
 · obtain ⟨k', hk'⟩ : ∃ k' : Nat, k' = k + 1 := ⟨_, rfl⟩
   (cbv; try simp only [syT, true_and, and_true])
   refine ⟨?_, ⟨⟨?_, ?_⟩, ?_, fun h1 => ⟨k', ?_⟩, fun h1 => ⟨⟨q0, ?_⟩, fun q hq => ?_⟩⟩⟩
   · subst hL; exact zhd hk
   · subst hL; exact ⟨rfl, fun j hj => rfl⟩
   · subst hL; exact zw8 hk
   · subst hL; exact zhd hk
   · (cbv; try simp only [syT, true_and, and_true])
     subst hL; subst hQ
     simp only [L2, std] at h1 |-
     rw [zhe hk'] at h1 |-
     rw [zh4 hk', zmm (zd8 _ _)]
     refine ⟨fun _ _ _ _ => trivial, fun _ _ _ _ => rfl, fun _ _ _ _ => trivial, rfl, zq6 hlen.1 hk' (zzl h1), ?_⟩
     have hk : 64 * (k + 1) <= p.length := hk
     show p.length - k' + 1 <= p.length - k
     omega
   · (cbv; try simp only [syT, true_and, and_true])
     subst hL; subst hQ
     simp only [L2, std] at h1 |-
     rw [zhe hk'] at h1
     rw [zh4 hk', zmm (zd8 _ _)]
     have hm : m = zf1 p k' := by rw [hm, <- zw9 hk hk' (zsp h1)]
     rw [<- hm]
     subst hq0
     refine ⟨fun _ _ _ _ => trivial, fun i j hi hj => ?_, rfl, rfl, rfl, rfl, rfl, rfl, rfl, rfl, rfl, by decide⟩
     have : j = 0 := by omega
     subst this; rfl
   · obtain ⟨q', hq'⟩ : ∃ q' : Nat, q' = q + 1 := ⟨_, rfl⟩
     have hm8 : m.length = 8 := by rw [hm]; exact zd8 _ _
     (cbv; try simp only [syT, true_and, and_true])
     refine ⟨fun h2 => ⟨?_, ?_, ?_, ?_, q', ?_⟩, fun h2 => ?_⟩
     · subst hL; exact zaw (za2 h2)
     · subst hL; exact zzp (za2 h2)
     · subst hL; exact zu2 _
     · subst hL; exact zoz (za2 h2)
     · (cbv; try simp only [syT, true_and, and_true])
       subst hL; subst hQ
       have h8 : q < 8 := za2 h2
       have ek : (za7 q).toNat = q := Int.toNat_natCast q
       simp only [L2, L3, std, ek]
       rw [zmm hm8]
       refine ⟨fun _ _ _ _ => trivial, fun i j hi hj => zu1 hq' h8 i, ?_, ?_, ?_⟩
       · exact zci hq' (by omega)
       · show q' <= 8
         omega
       · show 8 - q' + 1 <= 8 - q
         omega
     · subst hL; subst hQ
       have hq8 : q = 8 := by
         have : ¬ q < 8 := zar h2
         have : q <= 8 := hq
         omega
       subst hq8
       rw [zkv]
       intro j hj
       simp only [L2, std, zqg, ydx]
       rw [<- hpp, <- hm]
 · (cbv; try simp only [syT, true_and, and_true])
   refine ⟨?_, ?_, n0, ?_⟩
   · subst hL; exact hp
   · subst hL; exact hp.2.2
   · (cbv; try simp only [syT, true_and, and_true])
     subst hL; subst hQ
     refine ⟨fun _ _ _ _ => trivial, fun i j hi hj => ?_, fun _ _ _ _ => trivial, ?_, ?_⟩
     · subst hn0; rfl
     · subst hn0; exact hpp.symm
     · subst hn0
       show 64 * (0 + 1) <= p.length
       omega
theorem yan (hp : zel .nils) : zbf Try.prog 53 [.nils] (.arr 32 (fun j => .int .u8 (L2 std zah (std zqg .nils) j))) := by
 obtain ⟨p, hpp⟩ : ∃ p, p = zoy (zks .nils) := ⟨_, rfl⟩
 obtain ⟨m, hm⟩ : ∃ m, m = zf1 p (p.length / 64) := ⟨_, rfl⟩
 have hlen : p.length % 64 = 0 /\ 64 <= p.length := by rw [hpp]; exact ⟨(zfm _).1, (zfm _).2.1⟩
 refine za6 (T := tt) (S := fun L => zc7 [zpv L, zjz L, zkw L, zps L, zy5 L, zr8 L]) (lo := fun L => smA L m) (lb := fun L => smB L p) 5 (fn := Try.f53) rfl rfl (by kernel_rfl) (by kernel_rfl) rfl zaj (zac ⟨zm8, zj1, zjp, zm7, zpa, zh5, trivial⟩) (by kernel_rfl) ?_
 obtain ⟨n0, hn0⟩ : ∃ n : Nat, n = 0 := ⟨_, rfl⟩
 intro L P' Q' hL hP hQ
 obtain ⟨q0, hq0⟩ : ∃ n : Nat, n = 0 := ⟨_, rfl⟩
 (cbv; try simp only [syT, true_and, and_true])
 refine ⟨fun k hk => ?_, ?_⟩
 · obtain ⟨k', hk'⟩ : ∃ k' : Nat, k' = k + 1 := ⟨_, rfl⟩
   (cbv; try simp only [syT, true_and, and_true])
   refine ⟨?_, ⟨⟨?_, ?_⟩, ?_, fun h1 => ⟨k', ?_⟩, fun h1 => ⟨⟨q0, ?_⟩, fun q hq => ?_⟩⟩⟩
   · subst hL; exact zhd hk
   · subst hL; exact ⟨rfl, fun j hj => rfl⟩
   · subst hL; exact zw8 hk
   · subst hL; exact zhd hk
   · (cbv; try simp only [syT, true_and, and_true])
     subst hL; subst hQ
     simp only [L2, std] at h1 |-
     rw [zhe hk'] at h1 |-
     rw [zh4 hk', zmm (zd8 _ _)]
     refine ⟨fun _ _ _ _ => trivial, fun _ _ _ _ => rfl, fun _ _ _ _ => trivial, rfl, zq6 hlen.1 hk' (zzl h1), ?_⟩
     have hk : 64 * (k + 1) <= p.length := hk
     show p.length - k' + 1 <= p.length - k
     omega
   · (cbv; try simp only [syT, true_and, and_true])
     subst hL; subst hQ
     simp only [L2, std] at h1 |-
     rw [zhe hk'] at h1
     rw [zh4 hk', zmm (zd8 _ _)]
     have hm : m = zf1 p k' := by rw [hm, <- zw9 hk hk' (zsp h1)]
     rw [<- hm]
     subst hq0
     refine ⟨fun _ _ _ _ => trivial, fun i j hi hj => ?_, rfl, rfl, rfl, rfl, rfl, rfl, rfl, rfl, rfl, by decide⟩
     have : j = 0 := by omega
     subst this; rfl
   · obtain ⟨q', hq'⟩ : ∃ q' : Nat, q' = q + 1 := ⟨_, rfl⟩
     have hm8 : m.length = 8 := by rw [hm]; exact zd8 _ _
     (cbv; try simp only [syT, true_and, and_true])
     refine ⟨fun h2 => ⟨?_, ?_, ?_, ?_, q', ?_⟩, fun h2 => ?_⟩
     · subst hL; exact zaw (za2 h2)
     · subst hL; exact zzp (za2 h2)
     · subst hL; exact zu2 _
     · subst hL; exact zoz (za2 h2)
     · (cbv; try simp only [syT, true_and, and_true])
       subst hL; subst hQ
       have h8 : q < 8 := za2 h2
       have ek : (za7 q).toNat = q := Int.toNat_natCast q
       simp only [L2, L3, std, ek]
       rw [zmm hm8]
       refine ⟨fun _ _ _ _ => trivial, fun i j hi hj => zu1 hq' h8 i, ?_, ?_, ?_⟩
       · exact zci hq' (by omega)
       · show q' <= 8
         omega
       · show 8 - q' + 1 <= 8 - q
         omega
     · subst hL; subst hQ
       have hq8 : q = 8 := by
         have : ¬ q < 8 := zar h2
         have : q <= 8 := hq
         omega
       subst hq8
       rw [zkv]
       intro j hj
       simp only [L2, std, zqg, ydx]
       rw [<- hpp, <- hm]
 · (cbv; try simp only [syT, true_and, and_true])
   refine ⟨?_, ?_, n0, ?_⟩
   · subst hL; exact hp
   · subst hL; exact Nat.zero_le _
   · (cbv; try simp only [syT, true_and, and_true])
     subst hL; subst hQ
     refine ⟨fun _ _ _ _ => trivial, fun i j hi hj => ?_, fun _ _ _ _ => trivial, ?_, ?_⟩
     · subst hn0; rfl
     · subst hn0; exact hpp.symm
     · subst hn0
       show 64 * (0 + 1) <= p.length
       omega
theorem zjg {x : AV} (hp : zel x) : x = .nils \/ ∃ n get, x = .lst 1 n get := by
 unfold zel at hp
 split at hp
 · exact .inr ⟨_, _, rfl⟩
 · exact .inl rfl
 · exact hp.elim
theorem zon : zec Try.prog (zwx std) := by
 intro xs p r h hp
 dsimp only [zwx] at h |-
 split at h <;> cases h
 try simp only [L2, L3, std] at hp |-
 rename_i x
 rcases zjg hp with rfl | ⟨n, get, rfl⟩
 · exact yan hp
 · exact yao hp
def zom (L : zab) : zdf := (41, fun xs => match xs with | [x] => some (L zel x, .str (L zqg x)) | _ => none)
theorem zop (x : AV) : (zqg x).length = 32 := zoo _
theorem zol (x : AV) : zb2 32 (fun i => (AV.int .u8 (zah (zqg x) (0 + i))).toI) = zqg x := by
 have := zgk (zqg x)
 rw [zop] at this
 simp only [Nat.zero_add]
 exact this
theorem zlf : zec Try.prog (zom std) := by
 intro xs p r h hp
 dsimp only [zom] at h |-
 split at h <;> cases h
 try simp only [L2, L3, std] at hp |-
 rename_i x
 have hp : zel x := hp
 rcases zjg hp with rfl | ⟨n, get, rfl⟩
 · refine za6 (T := tt) (S := fun L => zc7 [zwx L]) (lo := noA) (lb := noA) 5 (fn := Try.f41) rfl rfl (by kernel_rfl) (by kernel_rfl) rfl zaj (zac ⟨zon, trivial⟩) (by kernel_rfl) ?_
   (intro L P1 Q1 hL hP hQ; cbv; subst hL; simp only [L2, L3, std, syT]; subst hQ)
   refine ⟨hp, trivial, ⟨show 0 + 32 <= 32 by decide, fun i _ => ⟨_, rfl⟩⟩, ?_⟩
   rw [zol, zey]
 · refine za6 (T := tt) (S := fun L => zc7 [zwx L]) (lo := noA) (lb := noA) 5 (fn := Try.f41) rfl rfl (by kernel_rfl) (by kernel_rfl) rfl zaj (zac ⟨zon, trivial⟩) (by kernel_rfl) ?_
   (intro L P1 Q1 hL hP hQ; cbv; subst hL; simp only [L2, L3, std, syT]; subst hQ)
   refine ⟨hp, trivial, ⟨show 0 + 32 <= 32 by decide, fun i _ => ⟨_, rfl⟩⟩, ?_⟩
   rw [zol, zey]
def zlm (s : List UInt8) : List UInt8 := ydx (zoy s)
theorem zwy (s : List UInt8) : zqg (.lst 1 1 fun i _ => .str (yeq [s] (Nat.add 0 i))) = zlm s := by
 have e : zks (.lst 1 1 fun i _ => .str (yeq [s] (Nat.add 0 i))) = s := by
   show s ++ [] = s
   exact List.append_nil s
 rw [zqg, e, zlm]
theorem zyq (s : List UInt8) (h : s.length <= 1000000) : zel (.lst 1 1 fun i _ => .str (yeq [s] (Nat.add 0 i))) := by
 refine ⟨fun i _ => ⟨_, rfl⟩, by decide, ?_⟩
 show (s ++ []).length <= 1000000
 rw [List.append_nil]; exact h
theorem ze0 (s : List UInt8) : (zlm s).length = 32 := zoo _
abbrev B32 (a : Int) : BitVec IntKind.u32.bits := BitVec.ofInt IntKind.u32.bits a
def n32 (b : BitVec IntKind.u32.bits) : Int := b.toNat
theorem yag (b : BitVec IntKind.u32.bits) : IntKind.u32.wrap b.toNat = n32 b := by
 rw [zlb, n32]
 have : b.toNat < 2 ^ 32 := b.isLt
 omega
theorem zj0 (b : BitVec IntKind.u32.bits) : B32 (n32 b) = b := by
 rw [B32, n32, BitVec.ofInt_natCast, BitVec.ofNat_toNat, BitVec.setWidth_eq]
theorem yg5 (a : Int) : B32 (IntKind.u32.wrap a) = B32 a := by
 apply BitVec.eq_of_toInt_eq
 rw [B32, B32, BitVec.toInt_ofInt, BitVec.toInt_ofInt, zlb]
 exact Int.emod_bmod (x := a) (n := 4294967296)
theorem zil (a b : Int) : zg7 .u32 a b = n32 (B32 a &&& B32 b) := yag _
theorem zu4 (a b : Int) : bor .u32 a b = n32 (B32 a ||| B32 b) := yag _
theorem zoh (a b : Int) : zds .u32 a b = n32 (B32 a ^^^ B32 b) := yag _
theorem zzr : B32 4294967295 = BitVec.allOnes IntKind.u32.bits := by decide
theorem yet (e : Int) : B32 (zdw .u32 4294967295 e) = ~~~ (B32 e) := by
 rw [zdw, yg5, B32, Int.sub_eq_add_neg, BitVec.ofInt_add, BitVec.ofInt_neg, <- BitVec.sub_eq_add_neg]
 show B32 4294967295 - B32 e = _
 rw [zzr, BitVec.allOnes_sub_eq_not]
theorem ybn (e : Int) : B32 (zds .u32 4294967295 e) = ~~~ (B32 e) := by
 rw [zoh, zj0, zzr, BitVec.allOnes_xor]
theorem yi2 (e f g : Int) : zds .u32 (zg7 .u32 e f) (zg7 .u32 (zdw .u32 4294967295 e) g) = bor .u32 (zg7 .u32 e f) (zg7 .u32 (zds .u32 4294967295 e) g) := by
 rw [zoh, zu4, zil, zil, zil, zj0, zj0, zj0, yet, ybn]
 congr 1
 apply BitVec.eq_of_getLsbD_eq
 intro i hi
 simp only [BitVec.getLsbD_xor, BitVec.getLsbD_or, BitVec.getLsbD_and, BitVec.getLsbD_not]
 cases (B32 e).getLsbD i <;> cases (B32 f).getLsbD i <;> cases (B32 g).getLsbD i <;> simp
theorem yey (a b c : Int) : zds .u32 (zds .u32 (zg7 .u32 a b) (zg7 .u32 a c)) (zg7 .u32 b c) = bor .u32 (zg7 .u32 a b) (zg7 .u32 c (bor .u32 a b)) := by
 rw [zoh, zoh, zu4, zil, zil, zil, zil, zu4, zj0, zj0, zj0, zj0, zj0, zj0]
 congr 1
 apply BitVec.eq_of_getLsbD_eq
 intro i hi
 simp only [BitVec.getLsbD_xor, BitVec.getLsbD_or, BitVec.getLsbD_and]
 cases (B32 a).getLsbD i <;> cases (B32 b).getLsbD i <;> cases (B32 c).getLsbD i <;> rfl
theorem or_comm (a b : Int) : bor .u32 a b = bor .u32 b a := by
 rw [zu4, zu4, BitVec.or_comm]
theorem yh0 : ∀ c : _root_.Fin 32, 1 <= c.val -> rlS (zdw .i64 0 c.val) = zdw .i64 32 c.val /\ zdw .u64 32 (zdw .i64 32 c.val) = c.val := by decide +kernel
theorem zhq (x : Int) {c : Nat} (h1 : 1 <= c) (h2 : c < 32) : rlZ x (zdw .i64 0 c) = zcb x c := by
 obtain ⟨e1, e2⟩ := yh0 ⟨c, h2⟩ h1
 simp only at e1 e2
 rw [rlZ, zcb, e1, e2, or_comm]
theorem ye4 (x : Int) {a b : Nat} (c : Int) (ha : 1 <= a /\ a < 32) (hb : 1 <= b /\ b < 32) : zds .u32 (zds .u32 (zcb x a) (zcb x b)) (zgw .u32 x c) = zth (x, a, b, c, true) := by
 show _ = zds .u32 (zds .u32 (rlZ x (zdw .i64 0 a)) (rlZ x (zdw .i64 0 b))) (zgw .u32 x c)
 rw [zhq x ha.1 ha.2, zhq x hb.1 hb.2]
theorem ye5 (x : Int) {a b c : Nat} (ha : 1 <= a /\ a < 32) (hb : 1 <= b /\ b < 32) (hc : 1 <= c /\ c < 32) : zds .u32 (zds .u32 (zcb x a) (zcb x b)) (zcb x c) = zth (x, a, b, c, false) := by
 show _ = zds .u32 (zds .u32 (rlZ x (zdw .i64 0 a)) (rlZ x (zdw .i64 0 b))) (rlZ x (zdw .i64 0 c))
 rw [zhq x ha.1 ha.2, zhq x hb.1 hb.2, zhq x hc.1 hc.2]
def ziq (n : Nat) : Int := 64 * n
def wB (p : List UInt8) (a : Int) (n : Nat) : List Int := wN (zd6 p (a.toNat / 64)) n
def wP (p : List UInt8) (a i : Int) (m : Nat) : List Int := wN (zd6 p (a.toNat / 64)) i.toNat ++ [(zjk ((p.drop (a.toNat + 4 * i.toNat)).take m) : Int)]
def vB (p : List UInt8) (a : Int) (n : Nat) : List Int := vS (zd6 p (a.toNat / 64)) (zf1 p (a.toNat / 64)) n
def hB (p : List UInt8) (a : Int) (n : Nat) : List Int := hS (zd6 p (a.toNat / 64)) (zf1 p (a.toNat / 64)) n
def zxo (m : List Int) (n : Nat) : List UInt8 := (znk m 8).take n
def nbk (p : List UInt8) : Nat := p.length / 64
def rtA (L : zab) (p : List UInt8) (m : List Int) : Nat -> St -> Option Ann := fun id st => match id with
 | 0 => some ⟨Nat, fun n => [(6, .int .i64 (L ziq n)), (3, .str p)], fun n => [(26, .row 79 1 8 (fun i _ => .int .u32 (L2 L za5 (L2 L zf1 p n) i)))], [4, 5], [], fun n => L2 L (fun (p : List UInt8) (n : Nat) => n <= nbk p) p n, fun n => L2 L (fun (p : List UInt8) (n : Nat) => nbk p - n) p n⟩
 | 2 => zgb st 6 fun a => some ⟨Nat, fun n => [(8, .int .i64 (L za7 n))], fun n => [(33, .row 79 1 64 (fun i _ => .int .u32 (L2 L za5 (L3 L wB p a n) i)))], [3, 4, 5, 6, 7], [26], fun n => L (fun n : Nat => n <= 16) n, fun n => L (fun n : Nat => 16 - n) n⟩
 | 4 => zgb st 6 fun a => zgb st 8 fun j => some ⟨Nat, fun n => [(9, .int .i64 (L za7 n))], fun n => [(33, .row 79 1 64 (fun i _ => .int .u32 (L2 L za5 (L (L3 L wP p a j) n) i)))], [3, 4, 5, 6, 7, 8], [26], fun n => L (fun n : Nat => n <= 4) n, fun n => L (fun n : Nat => 4 - n) n⟩
 | 6 => zgb st 6 fun a => some ⟨Nat, fun n => [(10, .int .i64 (L za7 n))], fun n => [(33, .row 79 1 64 (fun i _ => .int .u32 (L2 L za5 (L3 L wB p a n) i)))], [3, 4, 5, 6, 7], [26], fun n => L (fun n : Nat => 16 <= n /\ n <= 64) n, fun n => L (fun n : Nat => 64 - n) n⟩
 | 8 => zgb st 6 fun a => some ⟨Nat, fun n => [(14, .int .i64 (L za7 n)), (13, .sl 900 1 0 8)], fun n => [(900, .row 79 1 8 (fun i _ => .int .u32 (L2 L za5 (L3 L vB p a n) i)))], [3, 4, 5, 6, 7], [26, 33], fun n => L (fun n : Nat => n <= 64) n, fun n => L (fun n : Nat => 64 - n) n⟩
 | 10 => zgb st 6 fun a => some ⟨Nat, fun n => [(20, .int .i64 (L za7 n))], fun n => [(26, .row 79 1 8 (fun i _ => .int .u32 (L2 L za5 (L3 L hB p a n) i)))], [3, 4, 5, 6, 13], [900], fun n => L (fun n : Nat => n <= 8) n, fun n => L (fun n : Nat => 8 - n) n⟩
 | 12 => some ⟨Nat, fun n => [(22, .int .i64 (L za7 n))], fun n => [(280, .row 5 1 32 (fun i _ => .int .u8 (L2 L zah (L2 L zxo m n) i)))], [5, 21], [26], fun n => L (fun n : Nat => n <= 32) n, fun n => L (fun n : Nat => 32 - n) n⟩
 | _ => none
def ztr (L : zab) : zdf := (45, fun xs => match xs with | [.str s] => some (L2 L upto 1000000 s, .str (L zlm s)) | _ => none)
theorem rotA (x : Int) : zth (x, 7, 18, 3, true) = zds .u32 (zds .u32 (zcb x 7) (zcb x 18)) (zgw .u32 x 3) := (ye4 (a := 7) (b := 18) x 3 (by decide) (by decide)).symm
theorem rotB (x : Int) : zth (x, 17, 19, 10, true) = zds .u32 (zds .u32 (zcb x 17) (zcb x 19)) (zgw .u32 x 10) := (ye4 (a := 17) (b := 19) x 10 (by decide) (by decide)).symm
theorem rotC (x : Int) : zth (x, 6, 11, 25, false) = zds .u32 (zds .u32 (zcb x 6) (zcb x 11)) (zcb x 25) := (ye5 (a := 6) (b := 11) (c := 25) x (by decide) (by decide) (by decide)).symm
theorem rotD (x : Int) : zth (x, 2, 13, 22, false) = zds .u32 (zds .u32 (zcb x 2) (zcb x 13)) (zcb x 22) := (ye5 (a := 2) (b := 13) (c := 22) x (by decide) (by decide) (by decide)).symm
theorem le32 {n : Int} (h : decide (0 <= n /\ n <= 32) = true) : std (fun n : Int => 0 <= n /\ n <= 32) n := by
 have h : 0 <= n /\ n <= 32 := of_decide_eq_true h
 exact h
theorem ygl {s : List UInt8} {h : List Int} {r r' : Nat} (hr : r' = r + 1) : vS s h r' = zn7 (vS s h r) (za5 zi6 r) (za5 (wN s 64) r) := by
 subst hr; rfl
theorem zq7 (k : Nat) : (ziq k).toNat = 64 * k := by unfold ziq; omega
theorem zwr (p : List UInt8) (k n : Nat) : wB p (ziq k) n = wN (zd6 p k) n := by
 rw [wB, zq7, Nat.mul_div_cancel_left _ (by decide)]
theorem yak (p : List UInt8) (k n : Nat) : vB p (ziq k) n = vS (zd6 p k) (zf1 p k) n := by
 rw [vB, zq7, Nat.mul_div_cancel_left _ (by decide)]
theorem yca (p : List UInt8) (k n : Nat) : hB p (ziq k) n = hS (zd6 p k) (zf1 p k) n := by
 rw [hB, zq7, Nat.mul_div_cancel_left _ (by decide)]
theorem yah (p : List UInt8) (k i m : Nat) : wP p (ziq k) (za7 i) m = wN (zd6 p k) i ++ [(zjk ((p.drop (64 * k + 4 * i)).take m) : Int)] := by
 rw [wP, zq7, Nat.mul_div_cancel_left _ (by decide), za7, Int.toNat_natCast]
theorem yer {l : List Int} {i : Nat} (h : l.length <= i) : za5 l i = 0 := by
 rw [za5, List.getD_eq_getElem?_getD, List.getElem?_eq_none h]; rfl
theorem wP_0 {p : List UInt8} {k q m : Nat} (hm : m = 0) (i : Nat) : AV.int .u32 (za5 (wN (zd6 p k) q) i) = .int .u32 (za5 (wN (zd6 p k) q ++ [(zjk ((p.drop (64 * k + 4 * q)).take m) : Int)]) i) := by
 subst hm
 rw [zfo]
 by_cases h : i = (wN (zd6 p k) q).length
 · rw [if_pos h, yer (by omega)]; rfl
 · rw [if_neg h]
theorem zkk {p : List UInt8} {k : Nat} (h : p.length % 64 = 0) (h1 : ilt (ziq k) (slen p) = true) : 64 * (k + 1) <= p.length := by
 have := of_decide_eq_true h1
 unfold ziq slen at this
 omega
theorem zzj {p : List UInt8} {k q j : Nat} (hlen : p.length % 64 = 0 /\ 64 <= p.length /\ p.length <= 1000100) (h1 : ilt (ziq k) (slen p) = true) (h2 : q < 16) (h3 : j < 4) :
   inR (zbg .i64 (zbg .i64 (ziq k) (zdj .i64 4 (za7 q))) (za7 j)) (slen p) = true /\ zbg .i64 (zbg .i64 (ziq k) (zdj .i64 4 (za7 q))) (za7 j) = ((64 * k + 4 * q + j : Nat) : Int) := by
 have h := zkk hlen.1 h1
 have e : zbg .i64 (zbg .i64 (ziq k) (zdj .i64 4 (za7 q))) (za7 j) = ((64 * k + 4 * q + j : Nat) : Int) := by
   rw [(zgs (n := q) (by omega)).1]
   unfold ziq za7
   rw [zbg, zcu, zbg, zcu]; omega
 refine ⟨?_, e⟩
 rw [e, zma, slen]
 omega
theorem ygu (x y : Int) : zga std true (.int .u32 x) (.int .u32 y) = .int .u32 x := rfl
theorem ydp {p : List UInt8} {k q j j' : Nat} (hlen : p.length % 64 = 0 /\ 64 <= p.length /\ p.length <= 1000100) (h1 : ilt (ziq k) (slen p) = true) (h2 : q < 16) (h3 : j < 4) (hj : j' = j + 1) (i : Nat) :
   over std q 0 1 [.int .u32 (zbg .u32 (zdj .u32 (za5 (wN (zd6 p k) q ++ [(zjk ((p.drop (64 * k + 4 * q)).take j) : Int)]) q) 256) (IntKind.u32.wrap (zl7 p (zbg .i64 (zbg .i64 (ziq k) (zdj .i64 4 (za7 q))) (za7 j)))))]
     (fun i _ => .int .u32 (za5 (wN (zd6 p k) q ++ [(zjk ((p.drop (64 * k + 4 * q)).take j) : Int)]) i)) i 0 = .int .u32 (za5 (wN (zd6 p k) q ++ [(zjk ((p.drop (64 * k + 4 * q)).take j') : Int)]) i) := by
 subst hj
 have hlt := zkk hlen.1 h1
 have hl := zlc (zd6 p k) q
 rw [(zzj hlen h1 h2 h3).2, zl7, Int.toNat_natCast, zda, if_pos ⟨Nat.le_refl _, by omega⟩, zfo, zfo, zfo, hl, if_pos rfl]
 by_cases hi : i = q
 · rw [if_pos hi, if_pos hi, hi, za4]
   show zga std true (AV.int .u32 _) (AV.int .u32 _) = _
   rw [ygu]
   congr 1
   have hd : j < (p.drop (64 * k + 4 * q)).length := by rw [List.length_drop]; omega
   rw [zfz _ _ hd]
   have hlt2 := zny ((p.drop (64 * k + 4 * q)).take j)
   rw [List.length_take, Nat.min_eq_left (by omega)] at hlt2
   have h256 : 256 ^ j <= 256 ^ 3 := Nat.pow_le_pow_right (by decide) (by omega)
   have e : p.getD (64 * k + 4 * q + j) 0 = (p.drop (64 * k + 4 * q))[j] := by
     rw [List.getElem_drop, List.getD_eq_getElem?_getD, List.getElem?_eq_getElem (by omega)]; rfl
   rw [e]
   have hb := ((p.drop (64 * k + 4 * q))[j]).toNat_lt
   generalize ((p.drop (64 * k + 4 * q))[j]).toNat = b at hb |-
   generalize zjk ((p.drop (64 * k + 4 * q)).take j) = g at hlt2 |-
   rw [zbg, zdj, zlb, zlb, zlb]
   have : (256 : Nat) ^ 3 = 16777216 := rfl
   omega
 · rw [if_neg hi, if_neg hi, za9 hi]; rfl
theorem wP_4 {p : List UInt8} {k q q' j : Nat} (hlen : p.length % 64 = 0 /\ 64 <= p.length /\ p.length <= 1000100) (h1 : ilt (ziq k) (slen p) = true) (h2 : q < 16) (h3 : j = 4) (hq : q' = q + 1) :
   wN (zd6 p k) q ++ [(zjk ((p.drop (64 * k + 4 * q)).take j) : Int)] = wN (zd6 p k) q' := by
 subst h3
 have hlt := zkk hlen.1 h1
 rw [ydq hq h2]
 congr 2
 show _ = zla (zd6 p k) (za7 q)
 rw [zla, (zgs (n := q) (by omega)).2, (zgs (n := q) (by omega)).1, yas, Int.toNat_natCast, Int.toNat_natCast, yhw, zlb, zd6]
 have e : (((p.drop (64 * k)).take 64).take (4 * q + 4)).drop (4 * q) = (p.drop (64 * k + 4 * q)).take 4 := by
   rw [List.take_take, Nat.min_eq_left (by omega), List.drop_take, List.drop_drop]
   congr 1
   omega
 rw [e]
 have := zny ((p.drop (64 * k + 4 * q)).take 4)
 have h4 : ((p.drop (64 * k + 4 * q)).take 4).length <= 4 := by rw [List.length_take]; exact Nat.min_le_left _ _
 have h5 : 256 ^ ((p.drop (64 * k + 4 * q)).take 4).length <= 256 ^ 4 := Nat.pow_le_pow_right (by decide) h4
 have h6 : (256 : Nat) ^ 4 = 4294967296 := rfl
 omega
theorem ygy {q : Nat} (h : q < 32) : inR (zsb .i64 (za7 q) 4) (za7 8) = true := by
 have e : zsb .i64 (za7 q) 4 = ((q / 4 : Nat) : Int) := by
   rw [zsb, za7, zcu, Int.tdiv_eq_ediv_of_nonneg (by omega)]; omega
 rw [e, zma]
 unfold za7
 omega
theorem ye7 {q : Nat} (h : q < 32) : ile 0 (zdw .i64 24 (zdj .i64 8 (Int.tmod (za7 q) 4))) = true /\ zdw .i64 24 (zdj .i64 8 (Int.tmod (za7 q) 4)) = ((24 - 8 * (q % 4) : Nat) : Int) := by
 have e : zdw .i64 24 (zdj .i64 8 (Int.tmod (za7 q) 4)) = ((24 - 8 * (q % 4) : Nat) : Int) := by
   rw [za7, Int.tmod_eq_emod_of_nonneg (by omega), zdw, zdj, zcu, zcu]; omega
 refine ⟨?_, e⟩
 rw [e, yfb]
 exact Int.natCast_nonneg _
theorem yd4 {k k' : Nat} (h : k' = k + 1) (h2 : 64 * k <= 1000100) : zbg .i64 (ziq k) 64 = ziq k' := by
 subst h; unfold ziq; rw [zbg, zcu]; omega
theorem yce {p : List UInt8} {k : Nat} (h : p.length % 64 = 0) (h1 : ilt (ziq k) (slen p) = false) (hk : k <= nbk p) : k = nbk p := by
 have := of_decide_eq_false h1
 unfold ziq slen at this
 unfold nbk at hk |-
 omega
theorem zx0 (v : List Int) (k w : Int) (i : Nat) : AV.int .u32 (za5 [zbg .u32 (zbg .u32 (zbg .u32 (zbg .u32 (zbg .u32 (za5 v 7) (zds .u32 (zds .u32 (zcb (za5 v 4) 6) (zcb (za5 v 4) 11)) (zcb (za5 v 4) 25))) (zds .u32 (zg7 .u32 (za5 v 4) (za5 v 5)) (zg7 .u32 (zdw .u32 4294967295 (za5 v 4)) (za5 v 6)))) k) w)
     (zbg .u32 (zds .u32 (zds .u32 (zcb (za5 v 0) 2) (zcb (za5 v 0) 13)) (zcb (za5 v 0) 22)) (zds .u32 (zds .u32 (zg7 .u32 (za5 v 0) (za5 v 1)) (zg7 .u32 (za5 v 0) (za5 v 2))) (zg7 .u32 (za5 v 1) (za5 v 2)))),
   za5 v 0, za5 v 1, za5 v 2, zbg .u32 (za5 v 3) (zbg .u32 (zbg .u32 (zbg .u32 (zbg .u32 (za5 v 7) (zds .u32 (zds .u32 (zcb (za5 v 4) 6) (zcb (za5 v 4) 11)) (zcb (za5 v 4) 25))) (zds .u32 (zg7 .u32 (za5 v 4) (za5 v 5)) (zg7 .u32 (zdw .u32 4294967295 (za5 v 4)) (za5 v 6)))) k) w),
   za5 v 4, za5 v 5, za5 v 6] i) = .int .u32 (za5 (zn7 v k w) i) := by
 rw [zn7, zqh, zx1, rotC, rotD, yi2, yey]
def ybb (l : List Int) : Prop := ∀ i, i < 8 -> 0 <= za5 l i /\ za5 l i < 4294967296
theorem zx3 (p : List UInt8) : ∀ k, ybb (zf1 p k)
 | 0 => fun i hi => by
   have : ∀ i : _root_.Fin 8, 0 <= za5 zgu i.val /\ za5 zgu i.val < 4294967296 := by decide
   exact this ⟨i, hi⟩
 | k + 1 => fun i hi => by
   show 0 <= za5 (hN _ _ 8) i /\ za5 (hN _ _ 8) i < 4294967296
   rw [zv3 hi, if_pos hi, zbg, zlb]
   omega
theorem zu3 (m : List Int) : ∀ n q, q < 4 * n -> zah (znk m n) q = zah (zn1 (IntKind.u64.wrap (za5 m (q / 4))) 4) (q % 4)
 | n + 1, q, h => by
   have hl := zet m n
   rw [znk]
   by_cases hq : q < 4 * n
   · rw [zl4 (by omega), zu3 m n q hq]
   · rw [zl3 (by omega), hl, show q / 4 = n by omega, show q - 4 * n = q % 4 by omega]
theorem yef (e : Nat) {j : Nat} (h : j < 4) : zah (zn1 e 4) j = ((e / 256 ^ (3 - j) % 256 : Nat) : Int) := by
 have hl : j < (zn2 e 4).length := by rw [zdz]; exact h
 show (((zn2 e 4).getD j 0).toNat : Int) = _
 rw [List.getD_eq_getElem?_getD, List.getElem?_eq_getElem hl, Option.getD_some, zka _ _ _ hl, UInt8.toNat_ofNat']
theorem ye0 : ∀ j : _root_.Fin 4, min (((24 - 8 * j.val : Nat) : Int).toNat) IntKind.u32.bits = 8 * (3 - j.val) /\ (2 : Int) ^ (8 * (3 - j.val)) = ((256 ^ (3 - j.val) : Nat) : Int) := by decide
theorem yba {m : List Int} (hr : ybb m) {q : Nat} (h : q < 32) : IntKind.u8.wrap (zgw .u32 (za5 m (zsb .i64 (za7 q) 4).toNat) (zdw .i64 24 (zdj .i64 8 (Int.tmod (za7 q) 4)))) = zah (znk m 8) q := by
 have e : zsb .i64 (za7 q) 4 = ((q / 4 : Nat) : Int) := by
   rw [zsb, za7, zcu, Int.tdiv_eq_ediv_of_nonneg (by omega)]; omega
 rw [zu3 m 8 q (by omega), e, (ye7 h).2, Int.toNat_natCast]
 obtain ⟨h1, h2⟩ := hr (q / 4) (by omega)
 obtain ⟨x, hx⟩ := zp7 h1
 rw [hx] at h2 |-
 have hj : q % 4 < 4 := Nat.mod_lt _ (by decide)
 generalize q % 4 = j at hj |-
 rw [show IntKind.u64.wrap (x : Int) = (x : Int) by rw [zis]; omega, yef x hj, zgw]
 obtain ⟨e1, e2⟩ := ye0 ⟨j, hj⟩
 simp only at e1 e2
 rw [e1, e2, Int.fdiv_eq_ediv_of_nonneg _ (Int.natCast_nonneg _), <- Int.natCast_ediv, ygh]
 rfl
theorem ye8 {m : List Int} (hr : ybb m) {q q' : Nat} (hq : q' = q + 1) (h : q < 32) (i : Nat) : over std q 0 1 [.int .u8 (IntKind.u8.wrap (zgw .u32 (za5 m (zsb .i64 (za7 q) 4).toNat) (zdw .i64 24 (zdj .i64 8 (Int.tmod (za7 q) 4)))))] (fun i _ => .int .u8 (zah (zxo m q) i)) i 0 = .int .u8 (zah (zxo m q') i) := by
 subst hq
 have hl := zet m 8
 rw [yba hr h, zda, if_pos ⟨Nat.le_refl _, by omega⟩]
 by_cases hi : i = q
 · rw [hi, za4]
   show AV.int .u8 (zah (znk m 8) q) = _
   rw [zxo, zah, zah, List.getD_eq_getElem?_getD, List.getD_eq_getElem?_getD, List.getElem?_take_of_lt (by omega)]
 · rw [za9 hi]
   show AV.int .u8 (zah (zxo m q) i) = _
   rw [zxo, zxo, zah, zah, List.getD_eq_getElem?_getD, List.getD_eq_getElem?_getD]
   by_cases hlt : i < q
   · rw [List.getElem?_take_of_lt hlt, List.getElem?_take_of_lt (by omega)]
   · rw [List.getElem?_eq_none (by rw [List.length_take]; omega), List.getElem?_eq_none (by rw [List.length_take]; omega)]
set_option maxHeartbeats 1000000 in
theorem zts : zec Try.prog (ztr std) := by
 intro xs p r h hp
 dsimp only [ztr] at h |-
 split at h <;> cases h
 try simp only [L2, L3, std] at hp |-
 rename_i s
 have hl : s.length <= 1000000 := hp
 obtain ⟨p, hpp⟩ : ∃ p, p = zoy s := ⟨_, rfl⟩
 obtain ⟨m, hm⟩ : ∃ m, m = zf1 p (nbk p) := ⟨_, rfl⟩
 have hlen : p.length % 64 = 0 /\ 64 <= p.length /\ p.length <= 1000100 := by
   rw [hpp]
   have h1 := zfm s
   have h2 := zni s
   exact ⟨h1.1, h1.2.1, by omega⟩
 refine za6 (T := tt) (S := fun L => zc7 [ybi L, K_s L, ztf L]) (lo := fun L => rtA L p m) (lb := noA) 5 (fn := Try.f45) rfl rfl (by kernel_rfl) (by kernel_rfl) rfl zaj (zac ⟨zxs, yg4, ztg, trivial⟩) (by kernel_rfl) ?_
 obtain ⟨n0, hn0⟩ : ∃ n : Nat, n = 0 := ⟨_, rfl⟩
 obtain ⟨n1, hn1⟩ : ∃ n : Nat, n = 16 := ⟨_, rfl⟩
 intro L P' Q' hL hP hQ
 (cbv; try simp only [syT, true_and, and_true])
 refine ⟨?_, ⟨n0, ?_⟩, fun k hk => ?_⟩
 · subst hL; exact hl
 · (cbv; try simp only [syT, true_and, and_true])
   subst hL; subst hQ
   refine ⟨fun i j hi hj => ?_, fun _ _ _ _ => trivial, hpp.symm, ?_, ?_⟩
   · subst hn0; rfl
   · subst hn0; rfl
   · subst hn0; exact Nat.zero_le _
 obtain ⟨k', hk'⟩ : ∃ k' : Nat, k' = k + 1 := ⟨_, rfl⟩
 (cbv; try simp only [syT, true_and, and_true])
 refine ⟨fun h1 => ⟨?_, ⟨n0, ?_⟩, fun q hq => ?_⟩, fun h1 => ⟨?_, ⟨n0, ?_⟩, fun q hq => ?_⟩⟩
 · subst hL; rfl
 · (cbv; try simp only [syT, true_and, and_true])
   subst hL; subst hQ
   refine ⟨fun _ _ _ _ => trivial, ⟨rfl, fun i j hi hj => ?_⟩, fun _ _ _ _ => trivial, ?_, ?_⟩
   · have : j = 0 := by omega
     subst this; subst hn0; rfl
   · subst hn0; rfl
   · subst hn0; exact Nat.zero_le _
 · obtain ⟨q', hq'⟩ : ∃ q' : Nat, q' = q + 1 := ⟨_, rfl⟩
   (cbv; try simp only [syT, true_and, and_true])
   refine ⟨fun h2 => ⟨⟨n0, ?_⟩, fun j hj => ?_⟩, fun h2 => ⟨⟨n1, ?_⟩, fun u hu => ?_⟩⟩
   · (cbv; try simp only [syT, true_and, and_true])
     subst hL; subst hQ
     refine ⟨fun _ _ _ _ => trivial, fun i j hi hj => ?_, fun _ _ _ _ => trivial, ?_, ?_⟩
     · simp only [L2, L3, std, zwr, yah]
       exact wP_0 hn0 i
     · subst hn0; rfl
     · subst hn0; exact Nat.zero_le _
   · obtain ⟨j', hj'⟩ : ∃ j' : Nat, j' = j + 1 := ⟨_, rfl⟩
     (cbv; try simp only [syT, true_and, and_true])
     refine ⟨fun h3 => ⟨?_, ?_, ?_, j', ?_⟩, fun h3 => ⟨q', ?_⟩⟩
     · subst hL; exact zaw (Nat.lt_of_lt_of_le (za2 h2) (by decide))
     · subst hL; exact (zzj hlen h1 (za2 h2) (za2 h3)).1
     · subst hL; exact zaw (Nat.lt_of_lt_of_le (za2 h2) (by decide))
     · (cbv; try simp only [syT, true_and, and_true])
       subst hL; subst hQ
       have h4 : j < 4 := za2 h3
       refine ⟨fun _ _ _ _ => trivial, fun i t hi ht => ?_, fun _ _ _ _ => trivial, ?_, ?_, ?_⟩
       · have : t = 0 := by omega
         subst this
         have ek : (za7 q).toNat = q := Int.toNat_natCast q
         simp only [L2, L3, std, yah, ek, Nat.add_eq, Nat.zero_add]
         exact ydp hlen h1 (za2 h2) h4 hj' i
       · exact zci hj' (by omega)
       · show j' <= 4
         omega
       · show 4 - j' + 1 <= 4 - j
         omega
     · (cbv; try simp only [syT, true_and, and_true])
       subst hL; subst hQ
       have h4 : j = 4 := by
         have h5 : ¬ j < 4 := zar h3
         have hj : j <= 4 := hj
         omega
       have h16 : q < 16 := za2 h2
       refine ⟨fun _ _ _ _ => trivial, fun i t hi ht => ?_, fun _ _ _ _ => trivial, ?_, ?_, ?_⟩
       · simp only [L2, L3, std, yah, zwr]
         rw [wP_4 hlen h1 h16 h4 hq']
       · exact zci hq' (by omega)
       · show q' <= 16
         omega
       · show 16 - q' + 1 <= 16 - q
         omega
   · (cbv; try simp only [syT, true_and, and_true])
     subst hL; subst hQ
     have h16 : q = n1 := by
       have h5 : ¬ q < 16 := zar h2
       have hq : q <= 16 := hq
       omega
     subst h16
     refine ⟨fun _ _ _ _ => trivial, fun _ _ _ _ => rfl, fun _ _ _ _ => trivial, ?_, ?_⟩
     · subst hn1; rfl
     · subst hn1; exact ⟨Nat.le_refl _, by decide⟩
   clear h2 hq hq' q' q
   obtain ⟨u', hu'⟩ : ∃ u' : Nat, u' = u + 1 := ⟨_, rfl⟩
   (cbv; try simp only [syT, true_and, and_true])
   refine ⟨fun h2 => ⟨?_, ?_, ?_, ?_, ?_, ?_, ?_, ?_, ?_, ?_, ?_, ?_, ?_, ?_, ?_, u', ?_⟩, fun h2 => ⟨?_, ?_, ?_, ?_, ?_, ?_, ?_, ?_, ⟨n0, ?_⟩, fun r hr => ?_⟩⟩
   · subst hL; exact zck (k := 15) rfl (Nat.le_trans (by decide) hu.1) (za2 h2)
   · subst hL; exact show (0 : Int) <= 7 /\ (7 : Int) <= 32 by decide
   · subst hL; exact zck (k := 15) rfl (Nat.le_trans (by decide) hu.1) (za2 h2)
   · subst hL; exact show (0 : Int) <= 18 /\ (18 : Int) <= 32 by decide
   · subst hL; exact zck (k := 15) rfl (Nat.le_trans (by decide) hu.1) (za2 h2)
   · subst hL; rfl
   · subst hL; exact zck (k := 2) rfl (Nat.le_trans (by decide) hu.1) (za2 h2)
   · subst hL; exact show (0 : Int) <= 17 /\ (17 : Int) <= 32 by decide
   · subst hL; exact zck (k := 2) rfl (Nat.le_trans (by decide) hu.1) (za2 h2)
   · subst hL; exact show (0 : Int) <= 19 /\ (19 : Int) <= 32 by decide
   · subst hL; exact zck (k := 2) rfl (Nat.le_trans (by decide) hu.1) (za2 h2)
   · subst hL; rfl
   · subst hL; exact zck (k := 16) rfl (Nat.le_trans (by decide) hu.1) (za2 h2)
   · subst hL; exact zck (k := 7) rfl (Nat.le_trans (by decide) hu.1) (za2 h2)
   · subst hL; exact zaw (za2 h2)
   · (cbv; try simp only [syT, true_and, and_true])
     subst hL; subst hQ
     have h64 : u < 64 := za2 h2
     have h16 : 16 <= u := hu.1
     refine ⟨fun _ _ _ _ => trivial, fun i t hi ht => ?_, fun _ _ _ _ => trivial, ?_, ?_, ?_⟩
     · have : t = 0 := by omega
       subst this
       have ek : (za7 u).toNat = u := Int.toNat_natCast u
       simp only [L2, L3, std, zwr, ek, Nat.add_eq, Nat.zero_add, zeg (n := u) (k := 16) (c := 16) rfl h16 (by omega), zeg (n := u) (k := 15) (c := 15) rfl (by omega) (by omega), zeg (n := u) (k := 7) (c := 7) rfl (by omega) (by omega), zeg (n := u) (k := 2) (c := 2) rfl (by omega) (by omega)]
       rw [ydr hu' (by omega), zud, rotA, rotB]
       exact zog _ (zlc _ u) i
     · exact zci hu' (by omega)
     · exact ⟨by omega, by omega⟩
     · show 64 - u' + 1 <= 64 - u
       omega
   · subst hL; rfl
   · subst hL; rfl
   · subst hL; rfl
   · subst hL; rfl
   · subst hL; rfl
   · subst hL; rfl
   · subst hL; rfl
   · subst hL; rfl
   · (cbv; try simp only [syT, true_and, and_true])
     subst hL; subst hQ
     refine ⟨fun _ _ _ _ => trivial, fun _ _ _ _ => trivial, fun i t hi ht => ?_, fun _ _ _ _ => trivial, ?_, ?_⟩
     · simp only [L2, L3, std, yak]
       subst hn0
       show AV.int .u32 (za5 [za5 (zf1 p k) 0, za5 (zf1 p k) 1, za5 (zf1 p k) 2, za5 (zf1 p k) 3, za5 (zf1 p k) 4, za5 (zf1 p k) 5, za5 (zf1 p k) 6, za5 (zf1 p k) 7] i) = _
       rw [zmm (zd8 p k)]; rfl
     · subst hn0; rfl
     · subst hn0; exact Nat.zero_le _
   have hu64 : u = 64 := by
     subst hL
     have : ¬ u < 64 := zar h2
     have : u <= 64 := hu.2
     omega
   subst hu64
   clear h2 hu hu' u'
   obtain ⟨r', hr'⟩ : ∃ r' : Nat, r' = r + 1 := ⟨_, rfl⟩
   (cbv; try simp only [syT, true_and, and_true])
   refine ⟨fun h3 => ?_, fun h3 => ⟨⟨n0, ?_⟩, fun t ht => ?_⟩⟩
   · iterate 32 refine ⟨by first | (subst hL; rfl) | (subst hL; exact le32 (by decide)) | (subst hL; exact zaw (za2 h3)), ?_⟩
     refine ⟨r', ?_⟩
     (cbv; try simp only [syT, true_and, and_true])
     subst hL; subst hQ
     have h64 : r < 64 := za2 h3
     refine ⟨fun _ _ _ _ => trivial, fun _ _ _ _ => trivial, fun i x hi hx => ?_, fun _ _ _ _ => trivial, ?_, ?_, ?_⟩
     · have ek : (za7 r).toNat = r := Int.toNat_natCast r
       simp only [L2, L3, std, yak, zwr, ek, Nat.add_eq, Nat.zero_add]
       rw [ygl hr']
       generalize vS (zd6 p k) (zf1 p k) r = v
       generalize wN (zd6 p k) 64 = w
       exact zx0 v (za5 zi6 r) (za5 w r) i
     · exact zci hr' (by omega)
     · show r' <= 64
       omega
     · show 64 - r' + 1 <= 64 - r
       omega
   · (cbv; try simp only [syT, true_and, and_true])
     subst hL; subst hQ
     have hr64 : r = 64 := by
       have : ¬ r < 64 := zar h3
       have : r <= 64 := hr
       omega
     subst hr64
     refine ⟨fun _ _ _ _ => trivial, fun i x hi hx => ?_, fun _ _ _ _ => trivial, ?_, ?_⟩
     · simp only [L2, L3, std, yca]
       exact hN_0 hn0 hi
     · subst hn0; rfl
     · subst hn0; exact Nat.zero_le _
   have hr64 : r = 64 := by
     subst hL
     have : ¬ r < 64 := zar h3
     have : r <= 64 := hr
     omega
   subst hr64
   clear h3 hr hr' r'
   obtain ⟨t', ht'⟩ : ∃ t' : Nat, t' = t + 1 := ⟨_, rfl⟩
   (cbv; try simp only [syT, true_and, and_true])
   refine ⟨fun h3 => ⟨?_, ?_, ?_, t', ?_⟩, fun h3 => ⟨k', ?_⟩⟩
   · subst hL; exact zaw (za2 h3)
   · subst hL; exact zaw (za2 h3)
   · subst hL; exact zaw (za2 h3)
   · (cbv; try simp only [syT, true_and, and_true])
     subst hL; subst hQ
     have h8 : t < 8 := za2 h3
     refine ⟨fun _ _ _ _ => trivial, fun i x hi hx => ?_, fun _ _ _ _ => trivial, ?_, ?_, ?_⟩
     · have : x = 0 := by omega
       subst this
       have ek : (za7 t).toNat = t := Int.toNat_natCast t
       simp only [L2, L3, std, yca, yak, ek, Nat.add_eq, Nat.zero_add, hS]
       exact ya3 ht' h8 hi
     · exact zci ht' (by omega)
     · show t' <= 8
       omega
     · show 8 - t' + 1 <= 8 - t
       omega
   · (cbv; try simp only [syT, true_and, and_true])
     subst hL; subst hQ
     have ht8 : t = 8 := by
       have : ¬ t < 8 := zar h3
       have : t <= 8 := ht
       omega
     subst ht8
     have hlt := zkk hlen.1 h1
     refine ⟨fun i x hi hx => ?_, fun _ _ _ _ => trivial, ?_, ?_, ?_⟩
     · simp only [L2, L3, std, yca]
       subst hk'; rfl
     · exact yd4 hk' (by omega)
     · show k' <= p.length / 64
       omega
     · show p.length / 64 - k' + 1 <= p.length / 64 - k
       omega
 · subst hL; rfl
 · (cbv; try simp only [syT, true_and, and_true])
   subst hL; subst hQ
   refine ⟨fun _ _ _ _ => trivial, ⟨rfl, fun i j hi hj => ?_⟩, ?_, ?_⟩
   · have : j = 0 := by omega
     subst this; subst hn0; rfl
   · subst hn0; rfl
   · subst hn0; exact Nat.zero_le _
 · obtain ⟨q', hq'⟩ : ∃ q' : Nat, q' = q + 1 := ⟨_, rfl⟩
   (cbv; try simp only [syT, true_and, and_true])
   refine ⟨fun h2 => ⟨?_, ?_, ?_, ?_, ?_, q', ?_⟩, fun h2 => ⟨⟨?_, ?_⟩, ?_⟩⟩
   · subst hL; rfl
   · subst hL; exact ygy (za2 h2)
   · subst hL; rfl
   · subst hL; exact (ye7 (za2 h2)).1
   · subst hL; exact zaw (za2 h2)
   · (cbv; try simp only [syT, true_and, and_true])
     subst hL; subst hQ
     have h32 : q < 32 := za2 h2
     have hkn := yce hlen.1 h1 hk
     refine ⟨fun _ _ _ _ => trivial, fun i x hi hx => ?_, ?_, ?_, ?_⟩
     · have : x = 0 := by omega
       subst this
       rw [<- hkn] at hm
       have ek : (za7 q).toNat = q := Int.toNat_natCast q
       simp only [L2, L3, std, ek, Nat.add_eq, Nat.zero_add]
       rw [<- hm]
       exact ye8 (by rw [hm]; exact zx3 p k) hq' h32 i
     · exact zci hq' (by omega)
     · show q' <= 32
       omega
     · show 32 - q' + 1 <= 32 - q
       omega
   · subst hL; exact show 0 + 32 <= 32 by decide
   · intro i hi; exact ⟨_, rfl⟩
   · subst hL; subst hQ
     have hq32 : q = 32 := by
       have : ¬ q < 32 := zar h2
       have : q <= 32 := hq
       omega
     subst hq32
     rw [zey]
     have e : zxo m 32 = zlm s := by
       rw [zxo, List.take_of_length_le (by rw [zet]; decide), zlm, <- hpp, hm]; rfl
     have := zgk (zlm s)
     rw [ze0] at this
     simp only [L2, std, Nat.zero_add]
     rw [e]
     exact this
theorem yg1 : (zlm [97, 98, 99]).take 4 = [186, 120, 22, 191] := by decide +kernel
theorem zs1 : zbf Try.prog 52 [] (.bool true) := by
 refine za6 (T := tt) (S := fun L => zc7 [tru 36, zom L, ybh L]) (lo := noA) (lb := noA) 5 (fn := Try.f52) rfl rfl (by kernel_rfl) (by kernel_rfl) rfl zaj (zac ⟨zd7 zjv, zlf, zxq, trivial⟩) (by kernel_rfl) ?_
 (intro L P1 Q1 hL hP hQ; cbv; subst hL; simp only [L2, L3, std, syT]; subst hQ)
 have e : zqg (.lst 1 2 fun i _ => .str (yeq [[97], [98, 99]] (Nat.add 0 i))) = zlm [97, 98, 99] := rfl
 have hb : zwm (zlm [97, 98, 99]) [186, 120, 22, 191] = true := by
   show (List.take 4 (zlm [97, 98, 99]) == [186, 120, 22, 191]) = true
   rw [yg1]; rfl
 rw [e, hb]
 refine ⟨trivial, fun _ => ⟨⟨?_, by decide, by decide⟩, ⟨?_, by decide⟩, fun _ => ⟨trivial, ?_⟩, fun h => by cases h⟩, fun h => by cases h⟩
 · intro i hi
   exact ⟨_, rfl⟩
 · rw [ze0]; decide
 · rw [zc5, slen, zop]; rfl
theorem zj4 : ∀ (k n : Nat), n < 128 ^ (k + 1) -> (zcm n).length <= k + 1
 | 0, n, h => by rw [zbs (by omega)]; simp
 | k + 1, n, h => by
   by_cases h1 : n < 128
   · rw [zbs h1]; simp
   · rw [zdl (by omega), List.length_cons]
     have := zj4 k (n / 128) (by rw [Nat.div_lt_iff_lt_mul (by omega)]; rw [Nat.pow_succ] at h; exact h)
     omega
theorem zcr {n : Int} (h : zcv n) : (zb1 n).length <= 10 := zj4 9 n.toNat (by
 have := h.2
 have := h.1
 rw [show (128 : Nat) ^ (9 + 1) = 1180591620717411303424 from by decide]
 omega)
theorem zq5 (a : Int) : zb2 1 (fun i => (AV.int .u8 (za5 [a] (0 + i))).toI) = [UInt8.ofNat a.toNat] := rfl
def ygr (n x : Int) (p : List UInt8) : Prop := zcv x /\ p ++ zb1 x = zb1 n
def rshA (L : zab) (n : Int) : Nat -> St -> Option Ann := fun id s => match id with
 | 0 => some ⟨Int × List UInt8, fun x => [(0, .int .u64 x.1), (3, .str x.2)], fun i => [], [], [],
     fun x => L3 L ygr n x.1 x.2, fun x => L Int.toNat x.1⟩
 | _ => none
def zk8 (L : zab) : zdf := (44, fun xs => match xs with | [.int .u64 n] => some (L zcv n, .str (L zb1 n)) | _ => none)
theorem zqi {x : Int} (h : zcv x) (hx : 127 < x) : zb1 x = UInt8.ofNat (x % 128 + 128).toNat :: zb1 (x / 128) := by
 have := h.1
 unfold zb1
 rw [zdl (by omega)]
 congr 1
 · congr 1; omega
 · congr 1; omega
theorem zgm {x : Int} (h : zcv x) (hx : x <= 127) : zb1 x = [UInt8.ofNat x.toNat] := by
 have := h.1
 unfold zb1
 exact zbs (by omega)
theorem znd : zec Try.prog (zk8 std) := by
 intro xs p r h hp
 unfold zk8 at h
 simp only at h
 split at h
 rotate_left
 · cases h
 rename_i n
 cases h
 have hn : zcv n := hp
 have hl := zcr hn
 refine za6 (T := tt) (S := noS) (lo := fun L => rshA L n) (lb := noA) 5 (fn := Try.f44) rfl rfl (by kernel_rfl) (by kernel_rfl) rfl zaj (zef _) (by kernel_rfl) ?_
 intro L P' Q' hL hP hQ
 (cbv; try simp only [syT, true_and, and_true])
 refine ⟨⟨(n, []), ?_⟩, fun x hx => ?_⟩
 · (cbv; try simp only [syT, true_and, and_true])
   (subst hL; subst hQ; simp only [L2, L3, std] at *; try simp only [syS, reduceCtorEq, Int.reduceToNat, Int.reduceAdd, Int.reduceSub] at *)
   exact ⟨hn, rfl⟩
 · cbv at hx
   obtain ⟨x, pre⟩ := x
   (cbv; try simp only [syT, true_and, and_true])
   obtain ⟨x', hx'⟩ : ∃ x', x' = x / 128 := ⟨_, rfl⟩
   obtain ⟨p', hp'⟩ : ∃ p', p' = pre ++ [UInt8.ofNat (x % 128 + 128).toNat] := ⟨_, rfl⟩
   refine ⟨fun h => ⟨?_, ?_, ?_, ?_, ⟨(x', p'), ?_⟩⟩, fun h => ⟨?_, ?_, ?_⟩⟩
   · (subst hL; subst hQ; simp only [L2, L3, std] at *; try simp only [syS, reduceCtorEq, Int.reduceToNat, Int.reduceAdd, Int.reduceSub] at *)
     omega
   · (subst hL; subst hQ; simp only [L2, L3, std] at *; try simp only [syS, reduceCtorEq, Int.reduceToNat, Int.reduceAdd, Int.reduceSub] at *)
     exact ⟨Nat.le_refl _, fun i hi => ⟨_, rfl⟩⟩
   · (subst hL; subst hQ; simp only [L2, L3, std] at *; try simp only [syS, reduceCtorEq, Int.reduceToNat, Int.reduceAdd, Int.reduceSub] at *)
     rw [zq5]
     have := congrArg List.length hx.2
     rw [List.length_append] at this
     simp; omega
   · (subst hL; subst hQ; simp only [L2, L3, std] at *; try simp only [syS, reduceCtorEq, Int.reduceToNat, Int.reduceAdd, Int.reduceSub] at *)
     omega
   · (cbv; try simp only [syT, true_and, and_true])
     (subst hL; subst hQ; simp only [L2, L3, std] at *; try simp only [syS, reduceCtorEq, Int.reduceToNat, Int.reduceAdd, Int.reduceSub] at *)
     rw [zq5]
     have h0 := hx.1.1
     have h1 := hx.1.2
     have e1 : x.tmod 128 = x % 128 := Int.tmod_eq_emod_of_nonneg h0
     have e2 : x.tdiv 128 = x / 128 := Int.tdiv_eq_ediv_of_nonneg h0
     have e3 := hx.2
     rw [zqi hx.1 h] at e3
     refine ⟨?_, ?_, ⟨⟨by omega, by omega⟩, ?_⟩, by omega⟩
     · have e4 : (x % 128 + 128) % 18446744073709551616 % 256 = x % 128 + 128 := by omega
       rw [hp', e1, e4]
     · rw [ydo, zis, e2, hx']
       exact Int.emod_eq_of_lt (by omega) (by omega)
     · rw [hp', hx', List.append_assoc]; exact e3
   · (subst hL; subst hQ; simp only [L2, L3, std] at *; try simp only [syS, reduceCtorEq, Int.reduceToNat, Int.reduceAdd, Int.reduceSub] at *)
     exact ⟨Nat.le_refl _, fun i hi => ⟨_, rfl⟩⟩
   · (subst hL; subst hQ; simp only [L2, L3, std] at *; try simp only [syS, reduceCtorEq, Int.reduceToNat, Int.reduceAdd, Int.reduceSub] at *)
     rw [zq5]
     have := congrArg List.length hx.2
     rw [List.length_append] at this
     have := (zgm hx.1 h)
     simp; omega
   · (subst hL; subst hQ; simp only [L2, L3, std] at *; try simp only [syS, reduceCtorEq, Int.reduceToNat, Int.reduceAdd, Int.reduceSub] at *)
     rw [zq5, <- hx.2, zgm hx.1 h]
     have h0 := hx.1.1
     congr 3; omega
def cb (s : List UInt8) (i : Nat) : Nat := (s.getD i 0).toNat
theorem zzb (s : List UInt8) (i : Nat) : cb s i < 256 := UInt8.toNat_lt _
def lng (s : List UInt8) : Nat -> Nat -> Nat -> Nat × Nat × Nat
 | 0, _, _ => (0, 0, 4)
 | f + 1, i, n =>
   if s.length <= i then (0, 0, 3)
   else if i = 9 /\ 1 < cb s i then (0, 0, 4)
   else if 128 <= cb s i then lng s f (i + 1) (n + cb s i % 128 * 2 ^ (7 * i))
   else if 0 < cb s i \/ i = 0 then (n + cb s i % 128 * 2 ^ (7 * i), i + 1, 0)
   else (0, 0, 4)
def znq (s : List UInt8) : Int := (lng s 10 0 0).1
def znr (s : List UInt8) : Int := (lng s 10 0 0).2.1
def zs7 (s : List UInt8) : Int := (lng s 10 0 0).2.2
def zft (s : List UInt8) (x : Nat × Nat) : Prop := x.1 <= s.length /\ x.1 <= 9 /\ x.2 < 2 ^ (7 * x.1) /\ lng s (10 - x.1) x.1 x.2 = lng s 10 0 0
theorem yd3 {n m i : Nat} (hn : n < 2 ^ i) (hm : m * 2 ^ i < 2 ^ 64) (hn' : n < 2 ^ 64) : bor .u64 (n : Int) ((m * 2 ^ i : Nat) : Int) = ((n + m * 2 ^ i : Nat) : Int) := by
 have e : n ||| m * 2 ^ i = n + m * 2 ^ i := by
   have := Nat.shiftLeft_add_eq_or_of_lt hn m
   rw [Nat.shiftLeft_eq] at this
   rw [Nat.or_comm, <- this, Nat.add_comm]
 have hlt : n ||| m * 2 ^ i < 2 ^ 64 := Nat.or_lt_two_pow hn' hm
 unfold bor
 rw [show IntKind.u64.bits = 64 from rfl, BitVec.ofInt_natCast, BitVec.ofInt_natCast, BitVec.toNat_or, BitVec.toNat_ofNat, BitVec.toNat_ofNat, Nat.mod_eq_of_lt hn', Nat.mod_eq_of_lt hm, zis, <- e]
 omega
theorem ye1 {c i : Nat} (h : c * 2 ^ (7 * i) < 2 ^ 64) (hi : i <= 9) : zsa .u64 (c : Int) (7 * (i : Int)) = ((c * 2 ^ (7 * i) : Nat) : Int) := by
 unfold zsa
 rw [show (7 * (i : Int)).toNat = 7 * i by omega, show IntKind.u64.bits = 64 from rfl, Nat.min_eq_left (by omega), zis]
 have e : ((c : Int) * 2 ^ (7 * i)) = ((c * 2 ^ (7 * i) : Nat) : Int) := by simp
 rw [e]
 omega
theorem pow9 {i : Nat} (hi : i <= 9) : 2 ^ (7 * i) <= 2 ^ 63 := Nat.pow_le_pow_right (by decide) (by omega)
theorem zkl {c i n : Nat} (hi : i <= 9) (hn : n < 2 ^ (7 * i)) (hc : c < 256) (h9 : ¬ (i = 9 /\ 1 < c)) : n + c % 128 * 2 ^ (7 * i) < 2 ^ (7 * (i + 1)) /\ n + c % 128 * 2 ^ (7 * i) < 2 ^ 64 /\ c % 128 * 2 ^ (7 * i) < 2 ^ 64 /\ n < 2 ^ 64 := by
 have h1 := pow9 hi
 have e : 2 ^ (7 * (i + 1)) = 128 * 2 ^ (7 * i) := by rw [show 7 * (i + 1) = 7 + 7 * i by omega, Nat.pow_add]
 have h2 : c % 128 * 2 ^ (7 * i) <= 127 * 2 ^ (7 * i) := Nat.mul_le_mul_right _ (by omega)
 rw [e]
 refine ⟨by omega, ?_⟩
 by_cases h : i = 9
 · subst h
   have : c <= 1 := by omega
   have h3 : c % 128 * 2 ^ (7 * 9) <= 1 * 2 ^ (7 * 9) := Nat.mul_le_mul_right _ (by omega)
   omega
 · have h3 : 2 ^ (7 * i) <= 2 ^ 56 := Nat.pow_le_pow_right (by decide) (by omega)
   omega
theorem yf0 {c i n : Nat} (hi : i <= 9) (hn : n < 2 ^ (7 * i)) (hc : c < 256) (h9 : ¬ (i = 9 /\ 1 < c)) : bor .u64 (n : Int) (zsa .u64 ((c : Int) % 128) (7 * (i : Int))) = ((n + c % 128 * 2 ^ (7 * i) : Nat) : Int) := by
 obtain ⟨_, _, h3, h4⟩ := zkl hi hn hc h9
 rw [show ((c : Int) % 128) = ((c % 128 : Nat) : Int) by omega, ye1 h3 hi, yd3 hn h3 h4]
theorem zfs {s : List UInt8} {i n : Nat} (hx : zft s (i, n)) : lng s 10 0 0 = if s.length <= i then (0, 0, 3)
   else if i = 9 /\ 1 < cb s i then (0, 0, 4)
   else if 128 <= cb s i then lng s (9 - i) (i + 1) (n + cb s i % 128 * 2 ^ (7 * i))
   else if 0 < cb s i \/ i = 0 then (n + cb s i % 128 * 2 ^ (7 * i), i + 1, 0)
   else (0, 0, 4) := by
 obtain ⟨h1, h2, h3, h4⟩ := hx
 rw [<- h4]
 simp only at h2 |-
 rw [show 10 - i = (9 - i) + 1 by omega, lng]
theorem zpl {s : List UInt8} {a b c : Nat} (h : lng s 10 0 0 = (a, b, c)) : (a : Int) = znq s /\ (b : Int) = znr s /\ (c : Int) = zs7 s := by
 unfold znq znr zs7
 rw [h]
 exact ⟨rfl, rfl, rfl⟩
theorem yhg {s : List UInt8} {i n : Nat} (hx : zft s (i, n)) (h : (i : Int) = (s.length : Int)) : 0 = znq s /\ 0 = znr s /\ 3 = zs7 s := by
 have := zfs hx
 rw [if_pos (by omega)] at this
 exact zpl this
theorem zh1 (s : List UInt8) (i : Nat) : ((s.getD i 0).toNat : Int) % 18446744073709551616 = (cb s i : Int) := by
 have := zzb s i
 unfold cb at *
 omega
theorem yhf {s : List UInt8} {i n : Nat} (hx : zft s (i, n)) (h : ¬ (i : Int) = (s.length : Int)) (h9 : (i : Int) = 9) (hc : 1 < ((s.getD i 0).toNat : Int) % 18446744073709551616) : 0 = znq s /\ 0 = znr s /\ 4 = zs7 s := by
 have := zfs hx
 have h1 := hx.1
 rw [zh1] at hc
 simp only at h1
 rw [if_neg (by omega), if_pos ⟨by omega, by omega⟩] at this
 exact zpl this
theorem yez {s : List UInt8} {i n : Nat} (hx : zft s (i, n)) (h9 : ¬ (i = 9 /\ 1 < cb s i)) : bor .u64 (n : Int) (zsa .u64 ((((s.getD i 0).toNat : Int) % 18446744073709551616).tmod 128) ((7 * (i : Int) + 9223372036854775808) % 18446744073709551616 - 9223372036854775808)) = ((n + cb s i % 128 * 2 ^ (7 * i) : Nat) : Int) := by
 have h1 := hx.2.1
 have h2 := hx.2.2.1
 simp only at h1 h2
 rw [zh1, Int.tmod_eq_emod_of_nonneg (by omega), show (7 * (i : Int) + 9223372036854775808) % 18446744073709551616 - 9223372036854775808 = 7 * (i : Int) by omega]
 exact yf0 h1 h2 (zzb s i) h9
theorem yhe {s : List UInt8} {i n : Nat} (hx : zft s (i, n)) (h : ¬ (i : Int) = (s.length : Int)) (h9 : ¬ (i = 9 /\ 1 < cb s i)) (hm : 128 <= ((s.getD i 0).toNat : Int) % 18446744073709551616) : zft s (i + 1, n + cb s i % 128 * 2 ^ (7 * i)) /\ 10 - (i + 1) + 1 <= 10 - i /\ i <= 8 := by
 have h0 := zfs hx
 have h1 := hx.2.1
 have h2 := hx.2.2.1
 have h3 := hx.1
 rw [zh1] at hm
 simp only at h1 h2 h3
 rw [if_neg (by omega), if_neg h9, if_pos (by omega)] at h0
 refine ⟨⟨?_, ?_, (zkl h1 h2 (zzb s i) h9).1, ?_⟩, by omega, by omega⟩
 · simp only; omega
 · simp only; omega
 · simp only
   rw [h0]; congr 1; omega
theorem zye {s : List UInt8} {i n : Nat} (hx : zft s (i, n)) (h : ¬ (i : Int) = (s.length : Int)) (h9 : ¬ (i = 9 /\ 1 < cb s i)) (hm : ((s.getD i 0).toNat : Int) % 18446744073709551616 < 128) (hp : 0 < cb s i \/ i = 0) :
   bor .u64 (n : Int) (zsa .u64 ((((s.getD i 0).toNat : Int) % 18446744073709551616).tmod 128) ((7 * (i : Int) + 9223372036854775808) % 18446744073709551616 - 9223372036854775808)) = znq s /\
     ((i : Int) + 1 + 9223372036854775808) % 18446744073709551616 - 9223372036854775808 = znr s /\ 0 = zs7 s := by
 have h0 := zfs hx
 have h1 := hx.2.1
 have h3 := hx.1
 rw [zh1] at hm
 simp only at h1 h3
 rw [if_neg (by omega), if_neg h9, if_neg (by omega), if_pos hp] at h0
 obtain ⟨e1, e2, e3⟩ := zpl h0
 rw [yez hx h9]
 exact ⟨e1, by rw [<- e2]; omega, e3⟩
theorem yf1 {s : List UInt8} {i n : Nat} (hx : zft s (i, n)) (h : ¬ (i : Int) = (s.length : Int)) (h9 : ¬ (i = 9 /\ 1 < cb s i)) (hm : ((s.getD i 0).toNat : Int) % 18446744073709551616 < 128) (hp : ((s.getD i 0).toNat : Int) % 18446744073709551616 <= 0)
   (h1 : ¬ ((i : Int) + 1 + 9223372036854775808) % 18446744073709551616 - 9223372036854775808 = 1) : 0 = znq s /\ 0 = znr s /\ 4 = zs7 s := by
 have h0 := zfs hx
 have h2 := hx.2.1
 have h3 := hx.1
 rw [zh1] at hm hp
 simp only at h2 h3
 rw [if_neg (by omega), if_neg h9, if_neg (by omega), if_neg (by omega)] at h0
 exact zpl h0
def lngA (L : zab) (s : List UInt8) : Nat -> St -> Option Ann := fun id st => match id with
 | 0 => some ⟨Nat × Nat, fun x => [(6, .int .i64 (L za7 (L Prod.fst x))), (5, .int .u64 (L za7 (L Prod.snd x)))], fun _ => [], [0], [],
     fun x => L2 L zft s x, fun x => L (fun x : Nat × Nat => 10 - x.1) x⟩
 | _ => none
def ybw (L : zab) : zdf := (43, fun xs => match xs with | [.str s] => some (True, .tup [.int .u64 (L znq s), .int .i64 (L znr s), .int .i64 (L zs7 s)]) | _ => none)
theorem zyd : zec Try.prog (ybw std) := by
 intro xs p r h hp
 dsimp only [ybw] at h |-
 split at h <;> cases h
 try simp only [L2, L3, std] at hp |-
 rename_i s
 refine za6 (T := tt) (S := noS) (lo := noA) (lb := fun L => lngA L s) 5 (fn := Try.f43) rfl rfl (by kernel_rfl) (by kernel_rfl) rfl zaj (zef _) (by kernel_rfl) ?_
 intro L P' Q' hL hP hQ
 (cbv; try simp only [syT, true_and, and_true])
 refine ⟨fun x hx => ?_, ⟨(0, 0), ?_⟩⟩
 · cbv at hx
   obtain ⟨i, n⟩ := x
   (cbv; try simp only [syT, true_and, and_true])
   obtain ⟨m, hm'⟩ : ∃ m, m = n + cb s i % 128 * 2 ^ (7 * i) := ⟨_, rfl⟩
   refine ⟨fun h => ?_, fun h => ⟨?_, fun h9 => ⟨fun hc => ?_, fun hc => ⟨?_, ?_, fun hm => ⟨(i + 1, m), ?_⟩, fun hm => ⟨fun hp => ?_, fun hp => ⟨fun h1 => ?_, fun h1 => ?_⟩⟩⟩⟩,
     fun h9 => ⟨?_, ?_, fun hm => ⟨(i + 1, m), ?_⟩, fun hm => ⟨fun hp => ?_, fun hp => ⟨fun h1 => ?_, fun h1 => ?_⟩⟩⟩⟩⟩
   · (subst hL; subst hQ; simp only [L2, L3, std] at *; try simp only [syS, reduceCtorEq, Int.reduceToNat, Int.reduceAdd, Int.reduceSub] at *)
     exact yhg hx h
   · (subst hL; subst hQ; simp only [L2, L3, std] at *; try simp only [syS, reduceCtorEq, Int.reduceToNat, Int.reduceAdd, Int.reduceSub] at *)
     have := hx.1
     simp only at this
     omega
   · (subst hL; subst hQ; simp only [L2, L3, std] at *; try simp only [syS, reduceCtorEq, Int.reduceToNat, Int.reduceAdd, Int.reduceSub] at *)
     exact yhf hx h h9 hc
   · (subst hL; subst hQ; simp only [L2, L3, std] at *; try simp only [syS, reduceCtorEq, Int.reduceToNat, Int.reduceAdd, Int.reduceSub] at *)
     decide
   · (subst hL; subst hQ; simp only [L2, L3, std] at *; try simp only [syS, reduceCtorEq, Int.reduceToNat, Int.reduceAdd, Int.reduceSub] at *)
     have := hx.2.1
     simp only at this
     rw [Int.emod_eq_of_lt (by omega) (by omega)]
     omega
   · (cbv; try simp only [syT, true_and, and_true])
     (subst hL; subst hQ; simp only [L2, L3, std] at *; try simp only [syS, reduceCtorEq, Int.reduceToNat, Int.reduceAdd, Int.reduceSub] at *)
     rw [zh1] at hc
     exact absurd hm (by rw [zh1]; omega)
   · (subst hL; subst hQ; simp only [L2, L3, std] at *; try simp only [syS, reduceCtorEq, Int.reduceToNat, Int.reduceAdd, Int.reduceSub] at *)
     rw [zh1] at hc
     exact zye hx h (by omega) hm (by rw [zh1] at hp; omega)
   · (subst hL; subst hQ; simp only [L2, L3, std] at *; try simp only [syS, reduceCtorEq, Int.reduceToNat, Int.reduceAdd, Int.reduceSub] at *)
     rw [zh1] at hc
     have := hx.2.1
     simp only at this
     exact zye hx h (by omega) hm (by omega)
   · (subst hL; subst hQ; simp only [L2, L3, std] at *; try simp only [syS, reduceCtorEq, Int.reduceToNat, Int.reduceAdd, Int.reduceSub] at *)
     rw [zh1] at hc
     exact yf1 hx h (by omega) hm hp h1
   · (subst hL; subst hQ; simp only [L2, L3, std] at *; try simp only [syS, reduceCtorEq, Int.reduceToNat, Int.reduceAdd, Int.reduceSub] at *)
     decide
   · (subst hL; subst hQ; simp only [L2, L3, std] at *; try simp only [syS, reduceCtorEq, Int.reduceToNat, Int.reduceAdd, Int.reduceSub] at *)
     have := hx.2.1
     simp only at this
     rw [Int.emod_eq_of_lt (by omega) (by omega)]
     omega
   · (cbv; try simp only [syT, true_and, and_true])
     (subst hL; subst hQ; simp only [L2, L3, std] at *; try simp only [syS, reduceCtorEq, Int.reduceToNat, Int.reduceAdd, Int.reduceSub] at *)
     obtain ⟨q1, q2, q3⟩ := yhe hx h (by omega) hm
     rw [yez hx (by omega), hm']
     exact ⟨rfl, by omega, q1, q2⟩
   · (subst hL; subst hQ; simp only [L2, L3, std] at *; try simp only [syS, reduceCtorEq, Int.reduceToNat, Int.reduceAdd, Int.reduceSub] at *)
     exact zye hx h (by omega) hm (by rw [zh1] at hp; omega)
   · (subst hL; subst hQ; simp only [L2, L3, std] at *; try simp only [syS, reduceCtorEq, Int.reduceToNat, Int.reduceAdd, Int.reduceSub] at *)
     have := hx.2.1
     simp only at this
     exact zye hx h (by omega) hm (by omega)
   · (subst hL; subst hQ; simp only [L2, L3, std] at *; try simp only [syS, reduceCtorEq, Int.reduceToNat, Int.reduceAdd, Int.reduceSub] at *)
     exact yf1 hx h (by omega) hm hp h1
 · (cbv; try simp only [syT, true_and, and_true])
   (subst hL; subst hQ; simp only [L2, L3, std] at *; try simp only [syS, reduceCtorEq, Int.reduceToNat, Int.reduceAdd, Int.reduceSub] at *)
   exact ⟨Nat.zero_le _, by omega, by simp, rfl⟩
theorem yfq (p : List UInt8) (c : UInt8) (r : List UInt8) : cb (p ++ c :: r) p.length = c.toNat := by
 unfold cb
 rw [List.getD_eq_getElem?_getD, List.getElem?_append_right (Nat.le_refl _), Nat.sub_self]
 rfl
theorem zlz (r : List UInt8) : ∀ (f m n0 : Nat) (p : List UInt8), f + p.length = 10 -> m * 2 ^ (7 * p.length) < 2 ^ 64 -> (0 < m \/ p.length = 0) ->
   lng (p ++ (zcm m ++ r)) f p.length n0 = (n0 + m * 2 ^ (7 * p.length), p.length + (zcm m).length, 0)
 | 0, m, n0, p, hf, hm, h0 => by
   have : p.length = 10 := by omega
   rw [this] at hm h0
   have : 2 ^ (7 * 10) <= m * 2 ^ (7 * 10) := Nat.le_mul_of_pos_left _ (by omega)
   omega
 | f + 1, m, n0, p, hf, hm, h0 => by
   by_cases hb : 128 <= m
   · rw [zdl hb]
     have hc : cb (p ++ (UInt8.ofNat (m % 128 + 128) :: zcm (m / 128) ++ r)) p.length = m % 128 + 128 := by
       rw [List.cons_append, yfq]
       simp; omega
     have h9 : p.length ≠ 9 := by
       intro h
       rw [h] at hm
       have : 128 * 2 ^ (7 * 9) <= m * 2 ^ (7 * 9) := Nat.mul_le_mul_right _ hb
       omega
     rw [lng, if_neg (by simp), hc, if_neg (by omega), if_pos (by omega)]
     have e : p ++ (UInt8.ofNat (m % 128 + 128) :: zcm (m / 128) ++ r) = (p ++ [UInt8.ofNat (m % 128 + 128)]) ++ (zcm (m / 128) ++ r) := by simp
     have hl : (p ++ [UInt8.ofNat (m % 128 + 128)]).length = p.length + 1 := by simp
     have hp : 2 ^ (7 * (p.length + 1)) = 128 * 2 ^ (7 * p.length) := by rw [show 7 * (p.length + 1) = 7 + 7 * p.length by omega, Nat.pow_add]
     have hd : m / 128 * (128 * 2 ^ (7 * p.length)) + m % 128 * 2 ^ (7 * p.length) = m * 2 ^ (7 * p.length) := by
       rw [<- Nat.mul_assoc, <- Nat.add_mul]
       congr 1; omega
     have ih := zlz r f (m / 128) (n0 + (m % 128 + 128) % 128 * 2 ^ (7 * p.length)) (p ++ [UInt8.ofNat (m % 128 + 128)]) (by rw [hl]; omega) (by rw [hl, hp]; omega) (.inl (by omega))
     rw [hl] at ih
     rw [e, ih, hp, List.length_cons, show (m % 128 + 128) % 128 = m % 128 by omega]
     refine Prod.ext ?_ (Prod.ext ?_ rfl)
     · show n0 + m % 128 * 2 ^ (7 * p.length) + m / 128 * (128 * 2 ^ (7 * p.length)) = n0 + m * 2 ^ (7 * p.length)
       omega
     · show p.length + 1 + _ = p.length + (_ + 1)
       omega
   · rw [zbs (by omega)]
     have hc : cb (p ++ ([UInt8.ofNat m] ++ r)) p.length = m := by
       rw [List.singleton_append, yfq]
       simp; omega
     have h9 : ¬ (p.length = 9 /\ 1 < m) := by
       rintro ⟨h, h1⟩
       rw [h] at hm
       have : 2 * 2 ^ (7 * 9) <= m * 2 ^ (7 * 9) := Nat.mul_le_mul_right _ h1
       omega
     rw [lng, if_neg (by simp), hc, if_neg h9, if_neg (by omega), if_pos h0, Nat.mod_eq_of_lt (by omega)]
     rfl
theorem zzy {m : Int} (h : zcv m) (r : List UInt8) : znq (zb1 m ++ r) = m /\ znr (zb1 m ++ r) = ((zb1 m).length : Int) /\ zs7 (zb1 m ++ r) = 0 := by
 have h0 := h.1
 have h1 := h.2
 have := zlz r 10 m.toNat 0 [] rfl (by simp; omega) (.inr rfl)
 simp only [List.nil_append, List.length_nil, Nat.zero_add, Nat.mul_zero, Nat.pow_zero, Nat.mul_one] at this
 unfold znq znr zs7 zb1
 rw [this]
 refine ⟨?_, rfl, rfl⟩
 show ((m.toNat : Nat) : Int) = m
 omega
theorem zpm {s : List UInt8} : ∀ (f i n : Nat), f + i = 10 -> n < 2 ^ (7 * i) -> i <= s.length -> (lng s f i n).2.1 <= 10 /\ ((lng s f i n).2.2 = 0 -> 1 <= (lng s f i n).2.1 /\ (lng s f i n).2.1 <= s.length /\ (lng s f i n).1 < 2 ^ 64)
 | 0, i, n, hf, hn, hi => by simp [lng]
 | f + 1, i, n, hf, hn, hi => by
   rw [lng]
   by_cases h1 : s.length <= i
   · rw [if_pos h1]; simp
   · rw [if_neg h1]
     by_cases h2 : i = 9 /\ 1 < cb s i
     · rw [if_pos h2]; simp
     · rw [if_neg h2]
       have hb := zkl (by omega) hn (zzb s i) h2
       by_cases h3 : 128 <= cb s i
       · rw [if_pos h3]
         by_cases h9 : i = 9
         · omega
         · exact zpm f (i + 1) _ (by omega) hb.1 (by omega)
       · rw [if_neg h3]
         by_cases h4 : 0 < cb s i \/ i = 0
         · rw [if_pos h4]
           exact ⟨by show i + 1 <= 10; omega, fun _ => ⟨by show 1 <= i + 1; omega, by show i + 1 <= s.length; omega, hb.2.1⟩⟩
         · rw [if_neg h4]; simp
theorem zup {s : List UInt8} (h : zs7 s = 0) : 1 <= znr s /\ znr s <= (s.length : Int) /\ 0 <= znq s /\ znq s < 18446744073709551616 := by
 have := (zpm (s := s) 10 0 0 rfl (by simp) (Nat.zero_le _)).2
 unfold zs7 at h
 unfold znr znq
 have := this (by omega)
 omega
def cpT (a b : List UInt8) : List UInt8 := if zwm a b = true then a.drop b.length else a
def ycn (L : zab) : zdf := (54, fun xs => match xs with | [.str a, .str b] => some (L2 L zty a b, .tup [.str (L2 L cpT a b), .bool (L2 L zwm a b)]) | _ => none)
def yhz (L : zab) : zdf := (42, fun xs => match xs with | [.str a, .str b] => some (L2 L zty a b, .tup [.str (L2 L cpT a b), .bool (L2 L zwm a b)]) | _ => none)
theorem ztx {a b : List UInt8} (h : zwm a b = true) : b.length <= a.length := by
 have h : a.take b.length = b := by simpa [zwm] using h
 have := congrArg List.length h
 simp at this
 omega
theorem zz8 : zec Try.prog (ycn std) := by
 intro xs p r h hp
 dsimp only [ycn] at h |-
 split at h <;> cases h
 try simp only [L2, L3, std] at hp |-
 rename_i a b
 obtain ⟨p1, p2⟩ : zty a b := hp
 refine za6 (T := tt) (S := fun L => zc7 [zou L]) (lo := noA) (lb := noA) 5 (fn := Try.f54) rfl rfl (by kernel_rfl) (by kernel_rfl) rfl zaj (zac ⟨zln, trivial⟩) (by kernel_rfl) ?_
 (intro L P1 Q1 hL hP hQ; cbv; subst hL; simp only [L2, L3, std, syT]; subst hQ)
 (simp only [syS, reduceCtorEq, Int.reduceToNat, Int.reduceAdd, Int.reduceSub])
 refine ⟨⟨p1, p2⟩, fun h => ⟨(if_neg (by rw [h]; decide)).symm, h.symm⟩, fun h => ⟨⟨by omega, ?_⟩, (if_pos h).symm, h.symm⟩⟩
 have := ztx h
 omega
theorem ycm : zec Try.prog (yhz std) := by
 intro xs p r h hp
 dsimp only [yhz] at h |-
 split at h <;> cases h
 try simp only [L2, L3, std] at hp |-
 rename_i a b
 refine za6 (T := tt) (S := fun L => zc7 [ycn L]) (lo := noA) (lb := noA) 5 (fn := Try.f42) rfl rfl (by kernel_rfl) (by kernel_rfl) rfl zaj (zac ⟨zz8, trivial⟩) (by kernel_rfl) ?_
 (intro L P1 Q1 hL hP hQ; cbv; subst hL; simp only [L2, L3, std, syT]; subst hQ)
 (simp only [syS, reduceCtorEq, Int.reduceToNat, Int.reduceAdd, Int.reduceSub])
 exact hp
def slH (t : List UInt8) : List UInt8 := zn9 (zn9 [79, 84] (zb1 (t.length : Int))) t
def slT (t : List UInt8) : List UInt8 := slH t ++ (zlm (slH t)).take 16
def slS (s t : List UInt8) : Bool := slT t == s
def opT (s : List UInt8) : List UInt8 := (s.drop (2 + (znr (s.drop 2)).toNat)).take (znq (s.drop 2)).toNat
def opB (s : List UInt8) : Bool := slS s (opT s)
def opV (s : List UInt8) : List UInt8 := if opB s = true then opT s else []
def opE (s : List UInt8) : Int := if opB s = true then 0 else 23
theorem ztv (s : List UInt8) : ((zlm s).take 16).length = 16 := by rw [List.length_take, ze0]; rfl
theorem zbp (t : List UInt8) (h : t.length <= 1000000) : zcv (t.length : Int) := ⟨by omega, by omega⟩
theorem zk3 (t : List UInt8) : (slH t).length = 2 + (zb1 (t.length : Int)).length + t.length := by simp [slH, zn9]; omega
theorem zn8 (t : List UInt8) : (slT t).length = 2 + (zb1 (t.length : Int)).length + t.length + 16 := by rw [slT, List.length_append, zk3, ztv]
theorem zk2 (t : List UInt8) : (slT t).drop 2 = zb1 (t.length : Int) ++ (t ++ (zlm (slH t)).take 16) := by simp [slT, slH, zn9]
theorem yem (t : List UInt8) (h : t.length <= 1000000) : opT (slT t) = t := by
 obtain ⟨e1, e2, e3⟩ := zzy (zbp t h) (t ++ (zlm (slH t)).take 16)
 rw [opT, zk2, e1, e2]
 have e : (slT t).drop (2 + ((zb1 (t.length : Int)).length : Int).toNat) = t ++ (zlm (slH t)).take 16 := by
   rw [<- List.drop_drop, zk2, Int.toNat_natCast, List.drop_left]
 rw [e, Int.toNat_natCast, List.take_left]
theorem zu8 (t : List UInt8) (h : t.length <= 1000000) : opB (slT t) = true := by
 rw [opB, yem t h, slS]; simp
theorem zlt {s : List UInt8} (h : opB s = true) : slT (opT s) = s := by simpa [opB, slS] using h
theorem zu6 (t : List UInt8) (h : t.length <= 1000000) : opV (slT t) = t := by rw [opV, if_pos (zu8 t h), yem t h]
theorem zzq (t : List UInt8) (h : t.length <= 1000000) : opE (slT t) = 0 := by rw [opE, if_pos (zu8 t h)]
def zlg (L : zab) : zdf := (20, fun xs => match xs with | [.str t] => some (L2 L upto 100000 t, .str (L slT t)) | _ => none)
theorem zho : zec Try.prog (zlg std) := by
 intro xs p r h hp
 dsimp only [zlg] at h |-
 split at h <;> cases h
 try simp only [L2, L3, std] at hp |-
 rename_i t
 have hl : t.length <= 100000 := hp
 refine za6 (T := tt) (S := fun L => zc7 [zk4 L, zom L]) (lo := noA) (lb := noA) 5 (fn := Try.f20) rfl rfl (by kernel_rfl) (by kernel_rfl) rfl zaj (zac ⟨zj3, zlf, trivial⟩) (by kernel_rfl) ?_
 (intro L P1 Q1 hL hP hQ; cbv; subst hL; simp only [L2, L3, std, syT]; subst hQ)
 have hk := zbp t (by omega)
 have hz := zcr hk
 have e1 : IntKind.u64.wrap (slen t) = (t.length : Int) := by rw [zis, slen]; omega
 rw [e1, zwy]
 have hs := zk3 t
 have e2 : zn9 (zn9 [79, 84] (zb1 (t.length : Int))) t = slH t := rfl
 rw [e2]
 refine ⟨hk, ?_, ?_, zyq _ (by omega), ?_, ?_, ?_⟩
 · rw [zfd, List.length_cons, List.length_cons, List.length_nil]; omega
 · rw [zfd, zn9, List.length_append, List.length_cons, List.length_cons, List.length_nil]; omega
 · rw [zys, slen, ze0]; decide
 · rw [zfd, List.length_take, ze0]; omega
 · rw [zey]; rfl
def zp4 (L : zab) : zdf := (21, fun xs => match xs with | [.str s] => some (L2 L upto 100000 s, .tup [.str (L opV s), .int .i64 (L opE s)]) | _ => none)
theorem zu5 (s : List UInt8) : (opT s).length <= s.length := by
 rw [opT, List.length_take, List.length_drop]; omega
theorem zkd {s : List UInt8} (h : opB s = true) (hs : s.length <= 1000000) : zwm s [79, 84] = true /\ zs7 (s.drop 2) = 0 /\ znq (s.drop 2) = ((opT s).length : Int) /\ znr (s.drop 2) = ((zb1 ((opT s).length : Int)).length : Int) /\ s.length = 2 + (zb1 ((opT s).length : Int)).length + (opT s).length + 16 := by
 have hl := zu5 s
 obtain ⟨e1, e2, e3⟩ := zzy (zbp (opT s) (by omega)) (opT s ++ (zlm (slH (opT s))).take 16)
 rw [<- zk2, zlt h] at e1 e2 e3
 have hn := zn8 (opT s)
 rw [zlt h] at hn
 refine ⟨?_, e3, e1, e2, hn⟩
 rw [<- zlt h]
 rfl
theorem yen {s : List UInt8} (h : ¬ slT (opT s) = s) : opB s = false := by
 unfold opB slS
 simpa using h
theorem zxx {s : List UInt8} (h : opB s = false) : [] = opV s /\ 23 = opE s := by
 rw [opV, opE, if_neg (by rw [h]; decide), if_neg (by rw [h]; decide)]
 exact ⟨rfl, rfl⟩
theorem zls : zec Try.prog (zp4 std) := by
 intro xs p r h hp
 dsimp only [zp4] at h |-
 split at h <;> cases h
 try simp only [L2, L3, std] at hp |-
 rename_i s
 have hl : s.length <= 100000 := hp
 refine za6 (T := tt) (S := fun L => zc7 [yhz L, ybw L, zlg L]) (lo := noA) (lb := noA) 5 (fn := Try.f21) rfl rfl (by kernel_rfl) (by kernel_rfl) rfl zaj (zac ⟨ycm, zyd, zho, trivial⟩) (by kernel_rfl) ?_
 (intro L P1 Q1 hL hP hQ; cbv; subst hL; simp only [L2, L3, std, syT]; subst hQ)
 (simp only [syS, reduceCtorEq, Int.reduceToNat, Int.reduceAdd, Int.reduceSub])
 refine ⟨⟨by omega, by decide⟩, fun hpre => zxx (by
   cases h : opB s with
   | false => rfl
   | true => rw [(zkd h (by omega)).1] at hpre; cases hpre), fun hpre => ?_⟩
 have hr : cpT s [79, 84] = s.drop 2 := if_pos hpre
 have hlen := ztx hpre
 have hlen : 2 <= s.length := hlen
 rw [hr]
 have hdl : (s.drop 2).length = s.length - 2 := List.length_drop
 refine ⟨fun he => zxx (by
   cases h : opB s with
   | false => rfl
   | true => exact absurd (zkd h (by omega)).2.1 he), fun he => ⟨fun hn => zxx (by
   cases h : opB s with
   | false => rfl
   | true =>
     obtain ⟨_, _, h1, h2, h3⟩ := zkd h (by omega)
     exfalso
     apply hn
     rw [h1, h2, hdl]
     omega), fun hn => ?_⟩⟩
 obtain ⟨k1, k2, n1, n2⟩ := zup he
 rw [hdl] at hn k2 |-
 generalize hK : znr (s.drop 2) = K at hn k1 k2 |-
 generalize hN : znq (s.drop 2) = N at hn n1 n2 |-
 have eN : (K + ((N + 9223372036854775808) % 18446744073709551616 - 9223372036854775808) + 9223372036854775808) % 18446744073709551616 - 9223372036854775808 = K + N := by omega
 rw [eN]
 have et : List.drop K.toNat (List.take (K + N).toNat (s.drop 2)) = opT s := by
   rw [opT, hK, hN, <- List.drop_drop, List.drop_take]
   congr 1; omega
 rw [et]
 have := zu5 s
 refine ⟨⟨by omega, by omega, by omega⟩, (show (opT s).length <= 100000 by omega), fun h => ?_, fun h => zxx (yen h)⟩
 have hb : opB s = true := by rw [opB, slS, h]; simp
 rw [opV, opE, if_pos hb, if_pos hb]
 exact ⟨rfl, rfl⟩
def zk9 (L : zab) : zdf := (23, fun xs => match xs with | [.str t] => some (L2 L upto 100000 t, .str (L slT t)) | _ => none)
theorem zj7 : zec Try.prog (zk9 std) := by
 intro xs p r h hp
 dsimp only [zk9] at h |-
 split at h <;> cases h
 try simp only [L2, L3, std] at hp |-
 rename_i t
 have hl : t.length <= 100000 := hp
 refine za6 (T := tt) (S := fun L => zc7 [zk8 L, ztr L]) (lo := noA) (lb := noA) 5 (fn := Try.f23) rfl rfl (by kernel_rfl) (by kernel_rfl) rfl zaj (zac ⟨znd, zts, trivial⟩) (by kernel_rfl) ?_
 (intro L P1 Q1 hL hP hQ; cbv; subst hL; simp only [L2, L3, std, syT]; subst hQ)
 have hk := zbp t (by omega)
 have hz := zcr hk
 have e1 : IntKind.u64.wrap (slen t) = (t.length : Int) := by rw [zis, slen]; omega
 rw [e1]
 have hs := zk3 t
 have e2 : zn9 (zn9 [79, 84] (zb1 (t.length : Int))) t = slH t := rfl
 rw [e2]
 refine ⟨hk, ?_, ?_, (show (slH t).length <= 1000000 by omega), ?_, ?_, ?_⟩
 · rw [zfd, List.length_cons, List.length_cons, List.length_nil]; omega
 · rw [zfd, zn9, List.length_append, List.length_cons, List.length_cons, List.length_nil]; omega
 · rw [zys, slen, ze0]; decide
 · rw [zfd, List.length_take, ze0]; omega
 · rw [zey]; rfl
def roT (s : List UInt8) (k : Nat) : List UInt8 := (s.take (s.length - 16)).drop (2 + k)
def yea (s : List UInt8) (k : Nat) : Prop := 1 <= k /\ k <= 11 /\ ∀ j, 1 <= j -> j < k -> 18 + j <= s.length -> slT (roT s j) ≠ s
def roMu (k : Nat) : Nat := 12 - k
theorem ztj (s : List UInt8) (k : Nat) : (roT s k).length <= s.length := by
 rw [roT, List.length_drop, List.length_take]; omega
theorem ye6 {s : List UInt8} {k : Nat} (hs : s.length <= 1000000) (h : slT (roT s k) = s) : roT s k = opV s /\ true = opB s := by
 have hl := ztj s k
 have h1 := zu8 (roT s k) (by omega)
 have h2 := zu6 (roT s k) (by omega)
 rw [h] at h1 h2
 exact ⟨h2.symm, h1.symm⟩
theorem ye9 {s : List UInt8} {k : Nat} (hs : s.length <= 1000000) (hx : yea s k) (h : ¬ (k <= 10 /\ 18 + k <= s.length)) : [] = opV s /\ false = opB s := by
 have hf : opB s = false := by
   cases hb : opB s with
   | false => rfl
   | true =>
     obtain ⟨h1, h2, h3, h4, h5⟩ := zkd hb hs
     have hl := zu5 s
     have hk := zbp (opT s) (by omega)
     have h6 := zcr hk
     have h7 := (zup h2).1
     rw [h4] at h7
     obtain ⟨x1, x2, x3⟩ := hx
     exfalso
     refine x3 (zb1 ((opT s).length : Int)).length (by omega) (by omega) (by omega) ?_
     have e : roT s (zb1 ((opT s).length : Int)).length = opT s := by
       have e1 : s.take (s.length - 16) = slH (opT s) := by
         have h8 := zk3 (opT s)
         have h9 : s.length - 16 = (slH (opT s)).length := by omega
         rw [h9]
         exact (congrArg (List.take (slH (opT s)).length) (zlt hb).symm).trans (by rw [slT, List.take_left])
       rw [roT, e1, slH, zn9, zn9, List.drop_left' (by simp; omega)]
     rw [e]
     exact zlt hb
 refine ⟨?_, hf.symm⟩
 rw [opV, if_neg (by rw [hf]; decide)]
theorem ya8 {a b : Int} {s : List UInt8} {k : Nat} (ha : a = 2 + (k : Int)) (hb : b = (s.length : Int) - 16) : List.drop a.toNat (List.take b.toNat s) = roT s k := by
 subst ha hb
 rw [roT, show (2 + (k : Int)).toNat = 2 + k by omega, show ((s.length : Int) - 16).toNat = s.length - 16 by omega]
def roA (L : zab) (s : List UInt8) : Nat -> St -> Option Ann := fun id st => match id with
 | 0 => some ⟨Nat, fun k => [(4, .int .i64 (L za7 k))], fun _ => [], [0], [], fun k => L2 L yea s k, fun k => L roMu k⟩
 | _ => none
def yb9 (L : zab) : zdf := (22, fun xs => match xs with | [.str s] => some (L2 L upto 100000 s, .tup [.str (L opV s), .bool (L opB s)]) | _ => none)
theorem zxk : zec Try.prog (yb9 std) := by
 intro xs p r h hp
 dsimp only [yb9] at h |-
 split at h <;> cases h
 try simp only [L2, L3, std] at hp |-
 rename_i s
 have hl : s.length <= 100000 := hp
 refine za6 (T := tt) (S := fun L => zc7 [zk9 L]) (lo := fun L => roA L s) (lb := noA) 5 (fn := Try.f22) rfl rfl (by kernel_rfl) (by kernel_rfl) rfl zaj (zac ⟨zj7, trivial⟩) (by kernel_rfl) ?_
 intro L P' Q' hL hP hQ
 obtain ⟨k0, hk0⟩ : ∃ k0 : Nat, k0 = 1 := ⟨_, rfl⟩
 (cbv; try simp only [syT, true_and, and_true])
 refine ⟨⟨k0, ?_⟩, fun k hk => ?_⟩
 · (cbv; try simp only [syT, true_and, and_true])
   (subst hL; subst hQ; simp only [L2, L3, std] at *; try simp only [syS, reduceCtorEq, Int.reduceToNat, Int.reduceAdd, Int.reduceSub] at *)
   subst hk0
   exact ⟨rfl, by omega, by omega, fun j h1 h2 => by omega⟩
 · cbv at hk
   obtain ⟨k', hk'⟩ : ∃ k' : Nat, k' = k + 1 := ⟨_, rfl⟩
   (cbv; try simp only [syT, true_and, and_true])
   generalize hA : L (L (zbg .i64) 2) (L za7 k) = a
   generalize hB : L (L (zdw .i64) (L slen s)) 16 = b
   refine ⟨fun h1 => ⟨fun h2 => ⟨?_, ?_, fun h3 => ?_, fun h3 => ⟨k', ?_⟩⟩, fun h2 => ?_⟩, fun h1 => ?_⟩
   all_goals try (cbv; try simp only [syT, true_and, and_true])
   all_goals (subst hL; subst hQ; simp only [L2, L3, std] at *; try simp only [syS, reduceCtorEq, Int.reduceToNat, Int.reduceAdd, Int.reduceSub] at *)
   all_goals have hk1 := hk.1
   all_goals have hk2 := hk.2.1
   all_goals have ha : a = 2 + (k : Int) := by omega
   all_goals have hb : b = (s.length : Int) - 16 := by omega
   all_goals clear hA hB
   all_goals try rw [ya8 ha hb] at h3
   all_goals try rw [ya8 ha hb]
   · omega
   · have := ztj s k
     show (roT s k).length <= 100000
     omega
   · exact ye6 (by omega) h3
   · subst hk'
     refine ⟨by omega, ⟨by omega, by omega, fun j j1 j2 j3 => ?_⟩, by show 12 - (k + 1) + 1 <= 12 - k; omega⟩
     by_cases hj : j = k
     · subst hj; exact h3
     · exact hk.2.2 j j1 (by omega) j3
   · exact ye9 (by omega) hk (by omega)
   · exact ye9 (by omega) hk (by omega)
def ycg : zdf := (39, fun xs => match xs with | [] => some (True, .int .i64 4) | _ => none)
theorem zyz : zec Try.prog ycg := by
 intro xs p r h hp
 dsimp only [ycg] at h |-
 split at h <;> cases h
 try simp only [L2, L3, std] at hp |-
 refine za6 (T := tt) (S := noS) (lo := noA) (lb := noA) 5 (fn := Try.f39) rfl rfl (by kernel_rfl) (by kernel_rfl) rfl zaj (zef _) (by kernel_rfl) ?_
 (intro L P1 Q1 hL hP hQ; cbv; subst hL; simp only [L2, L3, std, syT]; subst hQ)
 (simp only [syS, reduceCtorEq, Int.reduceToNat, Int.reduceAdd, Int.reduceSub])
inductive DkS where
 | a (k : Int)
 | b (k : Int) (x s : List UInt8)
 | c (k : Int) (x s : List UInt8)
 | d (k : Int) (x s y t : List UInt8)
def nmA : List UInt8 := [97]
def nmB : List UInt8 := [98]
def zbv (x s : List UInt8) : Ob := .box 59 [.str x, .str s]
def zxr (key : List UInt8) : Ob := .row 49 4 1 (fun _ j => zc2 .dead [.int .i64 1, .str [], .str key, .dead] j)
def zq3 (n s : Nat) (pend : AV) (k : Int) : Ob := .box 44 [.int .i64 100, .mp n, .mp s, pend, .int .i64 k, .int .i64 (-1), .bool false]
def zo6 (pend : AV) (k : Int) : Ob := zq3 500001 500002 pend k
def dkO (p : Nat) : DkS -> List (Nat × Ob)
 | .a k => [(500000, zo6 .nils k), (500001, .mapl .s []), (500002, .mapl .s [])]
 | .b k x s => [(500000, zo6 (.sl p 4 0 1) k), (500001, .mapl .s [(.s nmA, .ref 500003 0)]), (500002, .mapl .s []), (500003, zbv x s), (p, zxr nmA)]
 | .c k x s => [(500000, zo6 .nils k), (500001, .mapl .s [(.s nmA, .ref 500003 0)]), (500002, .mapl .s [(.s nmA, .ref 500003 0)]), (500003, zbv x s)]
 | .d k x s y t => [(500000, zo6 (.sl p 4 0 1) k), (500001, .mapl .s [(.s nmA, .ref 500003 0), (.s nmB, .ref 500004 0)]), (500002, .mapl .s [(.s nmA, .ref 500003 0)]), (500003, zbv x s), (500004, zbv y t), (p, zxr nmB)]
def zay : Option Ob -> List UInt8 × List UInt8
 | some (.box _ [.str x, .str s]) => (x, s)
 | _ => ([], [])
def zvl (ob : Nat -> Option Ob) (id : Nat) : Option DkS := match ob id with
 | some (.box _ [_, .mp n, _, .nils, .int _ k, _, _]) => match ob n with
   | some (.mapl _ []) => some (.a k)
   | some (.mapl _ [(_, .ref i _)]) => some (.c k (zay (ob i)).1 (zay (ob i)).2)
   | _ => none
 | some (.box _ [_, .mp n, _, .sl _ _ _ _, .int _ k, _, _]) => match ob n with
   | some (.mapl _ [(_, .ref i _)]) => some (.b k (zay (ob i)).1 (zay (ob i)).2)
   | some (.mapl _ [(_, .ref i _), (_, .ref j _)]) => some (.d k (zay (ob i)).1 (zay (ob i)).2 (zay (ob j)).1 (zay (ob j)).2)
   | _ => none
 | _ => none
def inc (k : Int) : Int := k + 1
def DkS.up (L : zab) : DkS -> DkS
 | .a k => .a (L inc k)
 | .b k x s => .b (L inc k) x s
 | .c k x s => .c (L inc k) x s
 | .d k x s y t => .d (L inc k) x s y t
def DkS.k : DkS -> Int
 | .a k => k
 | .b k _ _ => k
 | .c k _ _ => k
 | .d k _ _ _ _ => k
def zbn (k : Int) : Prop := 0 <= k /\ k <= 1000
theorem zwq {k : Int} (h : zbn k) : zbg .i64 k 1 = inc k := by
 obtain ⟨h0, h1⟩ := h
 unfold zbg inc
 rw [zcu]
 omega
def ybl : zir := (31, fun raw ob => match raw with
 | [.ref id 0] => match zvl ob id with
   | some sh => some ⟨[.ref 500000 0], dkO 500005 sh, True, .int .i64 0, dkO 500005 sh⟩
   | _ => none
 | _ => none)
theorem yha (sh : DkS) : zbe Try.prog 31 [.ref 500000 0] (dkO 500005 sh) (.int .i64 0) (dkO 500005 sh) := by
 cases sh <;>
 · refine zaz (T := tt) (S := fun L => zbz [] []) (lo := noA) (lb := noA) 8 (fn := Try.f31) (xs := fun L => [.ref 500000 0]) (rts := fun _ => [.int .i64 0]) (O := fun L => dkO 500005 _) (O1 := fun L => dkO 500005 _)
     rfl rfl (by kernel_rfl) (by kernel_rfl) (by kernel_rfl) zaj (zak trivial trivial) (by kernel_rfl) ?_
   intro L P' Q' hL hP hQ
   (cbv; try simp only [syT, true_and, and_true])
   subst hL
   simp [std]
theorem zhu : zeb Try.prog ybl := by
 intro raw ob T hT hp
 unfold ybl at hT
 simp only at hT
 repeat' split at hT
 all_goals first | (cases hT; done) | (cases hT; exact yha _)
def zgj (L : zab) : zir := (33, fun raw ob => match raw with
 | [.ref id 0] => match zvl ob id with
   | some sh => some ⟨[.ref 500000 0], dkO 500005 sh, L zbn sh.k, .int .i64 0, dkO 500005 (sh.up L)⟩
   | _ => none
 | _ => none)
theorem yaq (sh : DkS) (hk : zbn sh.k) : zbe Try.prog 33 [.ref 500000 0] (dkO 500005 sh) (.int .i64 0) (dkO 500005 (sh.up std)) := by
 cases sh <;>
 · refine zaz (T := tt) (S := fun L => zbz [] []) (lo := noA) (lb := noA) 8 (fn := Try.f33) (xs := fun L => [.ref 500000 0]) (rts := fun _ => [.int .i64 0]) (O := fun L => dkO 500005 _) (O1 := fun L => dkO 500005 (DkS.up L _))
     rfl rfl (by kernel_rfl) (by kernel_rfl) (by kernel_rfl) zaj (zak trivial trivial) (by kernel_rfl) ?_
   intro L P' Q' hL hP hQ
   (cbv; try simp only [syT, true_and, and_true])
   subst hL
   simp only [DkS.k] at hk
   have e0 : ieq (-1) 0 = false := by decide
   have e1 : ilt 0 (-1) = false := by decide
   simp [std, e0, e1, zwq hk]
theorem zf0 : zeb Try.prog (zgj std) := by
 intro raw ob T hT hp
 unfold zgj at hT
 simp only at hT
 repeat' split at hT
 all_goals first | (cases hT; done) | (cases hT; exact yaq _ hp)
def yhx (L : zab) : List (Nat × Ob) := [(14, zq3 11 12 .nils 0), (11, .mapl .s []), (12, .mapl .s [])]
def ybo (L : zab) : zir := (24, fun raw ob => match raw with
 | [.int .i64 n] => some ⟨[.int .i64 100], [], True, .tup [.ref 14 0, .int .i64 0], yhx L⟩
 | _ => none)
theorem yeu : zbe Try.prog 24 [.int .i64 100] [] (.tup [.ref 14 0, .int .i64 0]) (yhx std) := by
 refine zaz (T := tt) (S := fun L => zbz [] []) (lo := noA) (lb := noA) 8 (fn := Try.f24) (xs := fun L => [.int .i64 100]) (rts := fun _ => [.ref 14 0, .int .i64 0]) (O := fun L => []) (O1 := fun L => yhx L)
     rfl rfl (by kernel_rfl) (by kernel_rfl) (by kernel_rfl) zaj (zak trivial trivial) (by kernel_rfl) ?_
 intro L P' Q' hL hP hQ
 (cbv; try simp only [syT, true_and, and_true])
 subst hL
 have e0 : ilt 100 0 = false := by decide
 have e1 : ilt 65536 100 = false := by decide
 simp [std, e0, e1]
theorem zy0 : zeb Try.prog (ybo std) := by
 intro raw ob T hT hp
 unfold ybo at hT
 simp only at hT
 repeat' split at hT
 all_goals first | (cases hT; done) | (cases hT; exact yeu)
def zk0 : zir := (30, fun raw ob => match raw with
 | [.ref id 0, .str key] => match zvl ob id with
   | some (.a _) => none
   | some sh => some ⟨[.ref 500000 0, .str nmA], dkO 500005 sh, True, .tup [.ref 500003 0, .int .i64 0], dkO 500005 sh⟩
   | _ => none
 | _ => none)
def DkS.some : DkS -> Prop
 | .a _ => False
 | _ => True
theorem zww (sh : DkS) (hs : sh.some) : zbe Try.prog 30 [.ref 500000 0, .str nmA] (dkO 500005 sh) (.tup [.ref 500003 0, .int .i64 0]) (dkO 500005 sh) := by
 cases sh
 case a => exact hs.elim
 all_goals
   refine zaz (T := tt) (S := fun L => zbz [] [ybl]) (lo := noA) (lb := noA) 8 (fn := Try.f30) (xs := fun L => [.ref 500000 0, .str nmA]) (rts := fun _ => [.ref 500003 0, .int .i64 0]) (O := fun L => dkO 500005 _) (O1 := fun L => dkO 500005 _)
     rfl rfl (by kernel_rfl) (by kernel_rfl) (by kernel_rfl) zaj (zak trivial ⟨zhu, trivial⟩) (by kernel_rfl) ?_
   intro L P' Q' hL hP hQ
   (cbv; try simp only [syT, true_and, and_true])
   subst hL
   have e0 : ine 0 0 = false := by decide
   simp [std, e0]
theorem zj2 : zeb Try.prog zk0 := by
 intro raw ob T hT hp
 unfold zk0 at hT
 simp only at hT
 repeat' split at hT
 all_goals first | (cases hT; done) | skip
 rename_i sh h1 h2
 cases hT
 refine zww sh ?_
 cases sh
 · exact absurd rfl (h1 _)
 all_goals trivial
def zqf : AV := .agg [.int .i64 1, .str [], .str nmA, .ref 500003 0]
def zqe : AV := .agg [.int .i64 1, .str [], .str nmB, .ref 500004 0]
def do0 (x s : List UInt8) : List (Nat × Ob) := [(500001, .mapl .s []), (500003, zbv x s)]
def do1 (x s : List UInt8) : List (Nat × Ob) := [(500001, .mapl .s [(.s nmA, .ref 500003 0)]), (500003, zbv x s)]
def do2 (x s y t : List UInt8) : List (Nat × Ob) := [(500001, .mapl .s [(.s nmA, .ref 500003 0)]), (500003, zbv x s), (500004, zbv y t)]
def do3 (x s y t : List UInt8) : List (Nat × Ob) := [(500001, .mapl .s [(.s nmA, .ref 500003 0), (.s nmB, .ref 500004 0)]), (500003, zbv x s), (500004, zbv y t)]
def yfm : zir := (25, fun raw ob => match raw with
 | [.mp n, .agg [_, _, _, .ref i _]] => match ob n with
   | some (.mapl _ []) => some ⟨[.mp 500001, zqf], do0 (zay (ob i)).1 (zay (ob i)).2, True, .tup [], do1 (zay (ob i)).1 (zay (ob i)).2⟩
   | some (.mapl _ [(_, .ref j _)]) => some ⟨[.mp 500001, zqe], do2 (zay (ob j)).1 (zay (ob j)).2 (zay (ob i)).1 (zay (ob i)).2, True, .tup [], do3 (zay (ob j)).1 (zay (ob j)).2 (zay (ob i)).1 (zay (ob i)).2⟩
   | _ => none
 | _ => none)
theorem do_a (x s : List UInt8) : zbe Try.prog 25 [.mp 500001, zqf] (do0 x s) (.tup []) (do1 x s) := by
 refine zaz (T := tt) (S := fun L => zbz [] []) (lo := noA) (lb := noA) 8 (fn := Try.f25) (xs := fun L => [.mp 500001, zqf]) (rts := fun _ => []) (O := fun L => do0 x s) (O1 := fun L => do1 x s)
   rfl rfl (by kernel_rfl) (by kernel_rfl) (by kernel_rfl) zaj (zak trivial trivial) (by kernel_rfl) ?_
 intro L P' Q' hL hP hQ
 (cbv; try simp only [syT, true_and, and_true])
 subst hL
 have e0 : ieq 1 1 = true := by decide
 simp [std, e0]
theorem do_b (x s y t : List UInt8) : zbe Try.prog 25 [.mp 500001, zqe] (do2 x s y t) (.tup []) (do3 x s y t) := by
 refine zaz (T := tt) (S := fun L => zbz [] []) (lo := noA) (lb := noA) 8 (fn := Try.f25) (xs := fun L => [.mp 500001, zqe]) (rts := fun _ => []) (O := fun L => do2 x s y t) (O1 := fun L => do3 x s y t)
   rfl rfl (by kernel_rfl) (by kernel_rfl) (by kernel_rfl) zaj (zak trivial trivial) (by kernel_rfl) ?_
 intro L P' Q' hL hP hQ
 (cbv; try simp only [syT, true_and, and_true])
 subst hL
 have e0 : ieq 1 1 = true := by decide
 simp [std, e0]
theorem zo5 : zeb Try.prog yfm := by
 intro raw ob T hT hp
 unfold yfm at hT
 simp only at hT
 repeat' split at hT
 all_goals first | (cases hT; done) | (cases hT; exact do_a _ _) | (cases hT; exact do_b _ _ _ _)
def zh2 : zir := (34, fun raw ob => match raw with
 | [.ref id 0, .agg [_, _, _, .ref i _]] => match zvl ob id with
   | some (.a k) => some ⟨[.ref 500000 0, zqf], zb4 (dkO 500005 (.a k)) [(500003, zbv (zay (ob i)).1 (zay (ob i)).2)], True, .tup [], dkO 17 (.b k (zay (ob i)).1 (zay (ob i)).2)⟩
   | some (.c k x s) => some ⟨[.ref 500000 0, zqe], zb4 (dkO 500005 (.c k x s)) [(500004, zbv (zay (ob i)).1 (zay (ob i)).2)], True, .tup [], dkO 17 (.d k x s (zay (ob i)).1 (zay (ob i)).2)⟩
   | _ => none
 | _ => none)
theorem zwu (k : Int) (x s : List UInt8) : zbe Try.prog 34 [.ref 500000 0, zqf] (zb4 (dkO 500005 (.a k)) [(500003, zbv x s)]) (.tup []) (dkO 17 (.b k x s)) := by
 refine zaz (T := tt) (S := fun L => zbz [] [yfm]) (lo := noA) (lb := noA) 8 (fn := Try.f34) (xs := fun L => [.ref 500000 0, zqf]) (rts := fun _ => []) (O := fun L => zb4 (dkO 500005 (.a k)) [(500003, zbv x s)]) (O1 := fun L => dkO 17 (.b k x s))
   rfl rfl (by kernel_rfl) (by kernel_rfl) (by kernel_rfl) zaj (zak trivial ⟨zo5, trivial⟩) (by kernel_rfl) ?_
 intro L P' Q' hL hP hQ
 (cbv; try simp only [syT, true_and, and_true])
 subst hL
 simp [std]
 exact ⟨by decide, fun i j hi hj => by subst hi; simp [L2, std]⟩
theorem zwt (k : Int) (x s y t : List UInt8) : zbe Try.prog 34 [.ref 500000 0, zqe] (zb4 (dkO 500005 (.c k x s)) [(500004, zbv y t)]) (.tup []) (dkO 17 (.d k x s y t)) := by
 refine zaz (T := tt) (S := fun L => zbz [] [yfm]) (lo := noA) (lb := noA) 8 (fn := Try.f34) (xs := fun L => [.ref 500000 0, zqe]) (rts := fun _ => []) (O := fun L => zb4 (dkO 500005 (.c k x s)) [(500004, zbv y t)]) (O1 := fun L => dkO 17 (.d k x s y t))
   rfl rfl (by kernel_rfl) (by kernel_rfl) (by kernel_rfl) zaj (zak trivial ⟨zo5, trivial⟩) (by kernel_rfl) ?_
 intro L P' Q' hL hP hQ
 (cbv; try simp only [syT, true_and, and_true])
 subst hL
 simp [std]
 exact ⟨by decide, fun i j hi hj => by subst hi; simp [L2, std]⟩
theorem zhi : zeb Try.prog zh2 := by
 intro raw ob T hT hp
 unfold zh2 at hT
 simp only at hT
 repeat' split at hT
 all_goals first | (cases hT; done) | (cases hT; exact zwu _ _ _) | (cases hT; exact zwt _ _ _ _ _)
end Sy
end Go.Proofs.Ytlphgephdhadhaa
namespace Go.Proofs.Ytlphgephdhadhaa
open Go Go.RowKit
open Go.ChangeMaps (setBlock)
theorem zri (seen : Array Nat) : leftOf #[] seen = #[] := by simp [leftOf]
set_option maxRecDepth 1000000 in
theorem ygn (w : World) (b bm : Nat) (clock : Nat) (hc : w.cell? ⟨b, 1, none⟩ = some (.map (some bm))) (hm : w.heap[bm]? = some (.map #[] clock)) :
   Calls Try.prog 15 #[.pointer (some ⟨b, 0, none⟩)] w fun e w' => e = .returned (.int .i64 0) /\ Below w.heap.size w w' := by
 have hrg := run_range_map (P := Try.prog) w 41 9 47 bm #[] clock Try.underlying41 hm
 have hnx : ∀ ty, (Instr.next (.pointer (some ⟨w.heap.size, 0, none⟩)) false ty).run Try.prog (w.alloc (.mapIter (some bm) clock #[] clock)) = .ok (.tuple #[.bool false]) (w.alloc (.mapIter (some bm) clock #[] clock)) := fun ty => by
   rcases run_next_map (P := Try.prog) w ty bm clock clock #[] #[] clock hm (by simp) (Nat.le_refl _) with ⟨_, h⟩ | ⟨e, he, _⟩
   · exact h
   · rw [zri] at he; simp at he
 go_enter Try.func15, Try.ntmps15
 go_wp2
 refine wp_loop_rounds 1 ?_
 rw [rounds_succ]
 go_wp2
 go_ret
 exact ⟨rfl, (Below.refl _ w).alloc (Nat.le_refl _) _⟩
set_option maxRecDepth 1000000 in
theorem ygm (w : World) (b bm bn : Nat) (clock : Nat) (x : MapEntry) (s : ByteArray) (hc : w.cell? ⟨b, 1, none⟩ = some (.map (some bm))) (hm : w.heap[bm]? = some (.map #[x] clock)) (hst : MapKept.Stamped #[x] clock)
   (hx : x.val = .pointer (some ⟨bn, 0, none⟩)) (hn : w.cell? ⟨bn, 0, none⟩ = some (.string s)) :
   Calls Try.prog 15 #[.pointer (some ⟨b, 0, none⟩)] w fun e w' => e = .returned (.int .i64 (wrap64 s.size)) /\ Below w.heap.size w w' := by
 have hrg := run_range_map (P := Try.prog) w 41 9 47 bm #[x] clock Try.underlying41 hm
 have hbn : bn < w.heap.size := by
   rcases Nat.lt_or_ge bn w.heap.size with h | h
   · exact h
   · simp [World.cell?, Array.getElem?_eq_none h] at hn
 have hbm : bm < w.heap.size := by
   rcases Nat.lt_or_ge bm w.heap.size with h | h
   · exact h
   · simp [Array.getElem?_eq_none h] at hm
 obtain ⟨W2, hr2, hk2, hB2, hnx⟩ : ∃ W2 : World, W2.heap[w.heap.size]? = some (.mapIter (some bm) clock #[x.born] clock) /\ (∀ k, k < w.heap.size -> W2.heap[k]? = w.heap[k]?) /\ Below w.heap.size w W2 /\
     ∀ ty, (Instr.next (.pointer (some ⟨w.heap.size, 0, none⟩)) false ty).run Try.prog (w.alloc (.mapIter (some bm) clock #[] clock)) = .ok (.tuple #[.bool true, x.key, .pointer (some ⟨bn, 0, none⟩)]) W2 := by
   rcases run_next_at (P := Try.prog) (w.alloc (.mapIter (some bm) clock #[] clock)) 0 w.heap.size bm clock clock #[] #[x] clock (heap_alloc_new _ _) ((heap_alloc_old w _ hbm).trans hm) hst.1 (Nat.le_refl _) with ⟨h0, _⟩ | ⟨e, he, w1, hal, h⟩
   · simp [leftOf] at h0
   · simp [leftOf] at he
     subst he
     rw [hx] at h
     have hB : Below w.heap.size w (w.alloc (.mapIter (some bm) clock #[] clock)) := (Below.refl _ w).alloc (Nat.le_refl _) _
     have hw : w1.heap = (w.alloc (.mapIter (some bm) clock #[] clock)).heap /\ w1.os = w.os /\ w1.tape = w.tape /\ w1.output = w.output := by
       rcases hal with rfl | rfl
       · exact ⟨rfl, rfl, rfl, rfl⟩
       · exact ⟨rfl, rfl, rfl, rfl⟩
     obtain ⟨h1, h2, h3, h4⟩ := hw
     have hl : w.heap.size < (w.alloc (.mapIter (some bm) clock #[] clock)).heap.size := by
       show w.heap.size < (w.heap.push _).size
       rw [Array.size_push]
       omega
     have hne : ∀ k, k < w.heap.size -> (w1.heap.setIfInBounds w.heap.size (.mapIter (some bm) clock #[e.born] clock))[k]? = w.heap[k]? := fun k hk => by
       rw [Array.getElem?_setIfInBounds_ne (by omega), h1]
       exact heap_alloc_old w _ hk
     refine ⟨setBlock w1 w.heap.size (.mapIter (some bm) clock #[e.born] clock), ?_, hne, ⟨h2, h3, h4, ?_, hne⟩, fun ty => h⟩
     · show (w1.heap.setIfInBounds w.heap.size _)[w.heap.size]? = _
       rw [h1, Array.getElem?_setIfInBounds, if_pos rfl, if_pos hl]
     · show w.heap.size <= (w1.heap.setIfInBounds w.heap.size _).size
       rw [h1, Array.size_setIfInBounds]
       exact Nat.le_of_lt hl
 have hm2 : W2.heap[bm]? = some (.map #[x] clock) := (hk2 bm hbm).trans hm
 have hen : (Instr.entry (.pointer (some ⟨w.heap.size, 0, none⟩))).run Try.prog W2 = .ok (.tuple #[x.key, .pointer (some ⟨bn, 0, none⟩)]) W2 := by
   have hen := run_entry_at (P := Try.prog) W2 w.heap.size bm clock #[] #[x] clock x hr2 hm2 (by simp) hst.2.1
   rw [hx] at hen
   exact hen
 have hn1 : W2.cell? ⟨bn, 0, none⟩ = some (.string s) := by
   simp only [World.cell?, hk2 bn hbn]
   exact hn
 have hnx2 : ∀ ty, (Instr.next (.pointer (some ⟨w.heap.size, 0, none⟩)) false ty).run Try.prog W2 = .ok (.tuple #[.bool false]) W2 := fun ty => by
   rcases run_next_at (P := Try.prog) W2 ty w.heap.size bm clock clock #[x.born] #[x] clock hr2 hm2 hst.1 (Nat.le_refl _) with ⟨_, h⟩ | ⟨e, he, _⟩
   · exact h
   · simp [leftOf] at he
 go_enter Try.func15, Try.ntmps15
 go_wp2
 refine wp_loop_rounds 2 ?_
 rw [rounds_succ]
 go_wp2
 rw [rounds_succ]
 go_wp2
 go_ret
 exact ⟨rfl, hB2⟩
end Go.Proofs.Ytlphgephdhadhaa
namespace Go.Proofs
open Go.Shelf
def Try.keys27_ren : Go.Shelf.Ren := ⟨fun | 7 => 27 | 10 => 48 | n => n, fun | 23 => 41 | 26 => 9 | 3 => 47 | 28 => 54 | 0 => 0 | 27 => 53 | 33 => 63 | 4 => 4 | n => n, fun | n => n⟩
theorem Try.keys27 : Go.Proofs.SlLaysZ.n7 Try.prog Try.keys27_ren := {
 mixed := by kernel_rfl
 f7 := ⟨Try.f27.name, by decide, Try.func27.trans (congrArg some (by kernel_rfl))⟩
 f10 := ⟨Try.f48.name, by decide, Try.func48.trans (congrArg some (by kernel_rfl))⟩
 t0 := Try.underlying0
 a0 := Try.isAgg0
 z0 := Try.sizeOf0
 v0 := Try.zeroValue0
 t4 := Try.underlying4
 a4 := Try.isAgg4
 z4 := Try.sizeOf4
 v4 := Try.zeroValue4
 t23 := Try.underlying41
 a23 := Try.isAgg41
 z23 := Try.sizeOf41
 v23 := Try.zeroValue41
 t26 := Try.underlying9
 a26 := Try.isAgg9
 z26 := Try.sizeOf9
 v26 := Try.zeroValue9
 t27 := Try.underlying53
 a27 := Try.isAgg53
 z27 := Try.sizeOf53
 v27 := Try.zeroValue53
 t28 := Try.underlying54
 a28 := Try.isAgg54
 z28 := Try.sizeOf54
 v28 := Try.zeroValue54
 t33 := Try.underlying63
 a33 := Try.isAgg63
 z33 := Try.sizeOf63
 v33 := Try.zeroValue63 }
def Try.sorted26_ren : Go.Shelf.Ren := ⟨fun | 6 => 26 | 8 => 46 | 9 => 47 | 11 => 58 | 13 => 60 | 12 => 59 | 23 => 78 | 24 => 79 | 14 => 69 | 15 => 70 | 16 => 71 | 17 => 72 | 18 => 73 | 19 => 74 | 20 => 75 | 21 => 76 | 22 => 77 | 25 => 88 | 26 => 89 | 27 => 90 | 28 => 91 | 29 => 92 | 30 => 93 | 31 => 100 | n => n, fun | 26 => 9 | 28 => 54 | 24 => 32 | 0 => 0 | 3 => 3 | 37 => 71 | 48 => 79 | 50 => 56 | 4 => 4 | 40 => 95 | 39 => 94 | 45 => 99 | 5 => 5 | 9 => 9 | 51 => 118 | 55 => 122 | 57 => 127 | 58 => 128 | 33 => 63 | n => n, fun | n => n⟩
theorem Try.sorted26 : Go.Proofs.SlLaysZ.n6 Try.prog Try.sorted26_ren := {
 mixed := by kernel_rfl
 f6 := ⟨Try.f26.name, by decide, Try.func26.trans (congrArg some (by kernel_rfl))⟩
 f8 := ⟨Try.f46.name, by decide, Try.func46.trans (congrArg some (by kernel_rfl))⟩
 f11 := ⟨Try.f58.name, by decide, Try.func58.trans (congrArg some (by kernel_rfl))⟩
 t0 := Try.underlying0
 a0 := Try.isAgg0
 z0 := Try.sizeOf0
 v0 := Try.zeroValue0
 t24 := Try.underlying32
 a24 := Try.isAgg32
 z24 := Try.sizeOf32
 v24 := Try.zeroValue32
 t26 := Try.underlying9
 a26 := Try.isAgg9
 z26 := Try.sizeOf9
 v26 := Try.zeroValue9
 t28 := Try.underlying54
 a28 := Try.isAgg54
 z28 := Try.sizeOf54
 v28 := Try.zeroValue54
 i26 := by kernel_rfl }
def Try.sort47_ren : Go.Shelf.Ren := ⟨fun | 6 => 47 | 8 => 60 | 9 => 59 | 19 => 78 | 20 => 79 | 21 => 69 | 22 => 70 | 23 => 71 | 24 => 72 | 25 => 73 | 26 => 74 | 27 => 75 | 28 => 76 | 29 => 77 | 36 => 88 | 31 => 89 | 32 => 90 | 37 => 91 | 38 => 92 | 39 => 93 | 41 => 100 | n => n, fun | 27 => 32 | 29 => 9 | 3 => 3 | 32 => 71 | 26 => 32 | 0 => 0 | 44 => 79 | 46 => 56 | 4 => 4 | 36 => 95 | 35 => 94 | 41 => 99 | 5 => 5 | 9 => 9 | 53 => 118 | 57 => 122 | 63 => 127 | 64 => 128 | n => n, fun | n => n⟩
theorem Try.sort47 : Go.Proofs.SlLaysM.n6 Try.prog Try.sort47_ren := {
 mixed := by kernel_rfl
 f6 := ⟨Try.f47.name, by decide, Try.func47.trans (congrArg some (by kernel_rfl))⟩
 f8 := Try.func60.trans (congrArg some (by kernel_rfl))
 f9 := ⟨Try.f59.name, by decide, Try.func59.trans (congrArg some (by kernel_rfl))⟩
 f19 := Try.func78.trans (congrArg some (by kernel_rfl))
 f20 := Try.func79.trans (congrArg some (by kernel_rfl))
 f21 := ⟨Try.f69.name, by decide, Try.func69.trans (congrArg some (by kernel_rfl))⟩
 f22 := ⟨Try.f70.name, by decide, Try.func70.trans (congrArg some (by kernel_rfl))⟩
 f23 := ⟨Try.f71.name, by decide, Try.func71.trans (congrArg some (by kernel_rfl))⟩
 f24 := ⟨Try.f72.name, by decide, Try.func72.trans (congrArg some (by kernel_rfl))⟩
 f25 := ⟨Try.f73.name, by decide, Try.func73.trans (congrArg some (by kernel_rfl))⟩
 f26 := ⟨Try.f74.name, by decide, Try.func74.trans (congrArg some (by kernel_rfl))⟩
 f27 := ⟨Try.f75.name, by decide, Try.func75.trans (congrArg some (by kernel_rfl))⟩
 f28 := ⟨Try.f76.name, by decide, Try.func76.trans (congrArg some (by kernel_rfl))⟩
 f29 := ⟨Try.f77.name, by decide, Try.func77.trans (congrArg some (by kernel_rfl))⟩
 f31 := Try.func89.trans (congrArg some (by kernel_rfl))
 f32 := Try.func90.trans (congrArg some (by kernel_rfl))
 f36 := ⟨Try.f88.name, by decide, Try.func88.trans (congrArg some (by kernel_rfl))⟩
 f37 := ⟨Try.f91.name, by decide, Try.func91.trans (congrArg some (by kernel_rfl))⟩
 f38 := ⟨Try.f92.name, by decide, Try.func92.trans (congrArg some (by kernel_rfl))⟩
 f39 := ⟨Try.f93.name, by decide, Try.func93.trans (congrArg some (by kernel_rfl))⟩
 f41 := ⟨Try.f100.name, by decide, Try.func100.trans (congrArg some (by kernel_rfl))⟩
 t0 := Try.underlying0
 a0 := Try.isAgg0
 z0 := Try.sizeOf0
 v0 := Try.zeroValue0
 t3 := Try.underlying3
 a3 := Try.isAgg3
 z3 := Try.sizeOf3
 v3 := Try.zeroValue3
 t4 := Try.underlying4
 a4 := Try.isAgg4
 z4 := Try.sizeOf4
 v4 := Try.zeroValue4
 t5 := Try.underlying5
 a5 := Try.isAgg5
 z5 := Try.sizeOf5
 v5 := Try.zeroValue5
 t9 := Try.underlying9
 a9 := Try.isAgg9
 z9 := Try.sizeOf9
 v9 := Try.zeroValue9
 t26 := Try.underlying32
 a26 := Try.isAgg32
 z26 := Try.sizeOf32
 v26 := Try.zeroValue32
 t27 := Try.underlying32
 a27 := Try.isAgg32
 z27 := Try.sizeOf32
 v27 := Try.zeroValue32
 t29 := Try.underlying9
 a29 := Try.isAgg9
 z29 := Try.sizeOf9
 v29 := Try.zeroValue9
 t32 := Try.underlying71
 a32 := Try.isAgg71
 z32 := Try.sizeOf71
 v32 := Try.zeroValue71
 t35 := Try.underlying94
 a35 := Try.isAgg94
 z35 := Try.sizeOf94
 v35 := Try.zeroValue94
 t36 := Try.underlying95
 a36 := Try.isAgg95
 z36 := Try.sizeOf95
 v36 := Try.zeroValue95
 t41 := Try.underlying99
 a41 := Try.isAgg99
 z41 := Try.sizeOf99
 v41 := Try.zeroValue99
 t44 := Try.underlying79
 a44 := Try.isAgg79
 z44 := Try.sizeOf79
 v44 := Try.zeroValue79
 t46 := Try.underlying56
 a46 := Try.isAgg56
 z46 := Try.sizeOf56
 v46 := Try.zeroValue56
 t53 := Try.underlying118
 a53 := Try.isAgg118
 z53 := Try.sizeOf118
 v53 := Try.zeroValue118
 t57 := Try.underlying122
 a57 := Try.isAgg122
 z57 := Try.sizeOf122
 v57 := Try.zeroValue122
 t63 := Try.underlying127
 a63 := Try.isAgg127
 z63 := Try.sizeOf127
 v63 := Try.zeroValue127
 t64 := Try.underlying128
 a64 := Try.isAgg128
 z64 := Try.sizeOf128
 v64 := Try.zeroValue128 }
def Try.clone29_ren : Go.Shelf.Ren := ⟨fun | 5 => 29 | 7 => 49 | n => n, fun | 23 => 41 | 25 => 9 | 3 => 47 | 4 => 4 | 20 => 20 | n => n, fun | n => n⟩
theorem Try.clone29 : Go.Proofs.SlLaysW.n5 Try.prog Try.clone29_ren := {
 mixed := by kernel_rfl
 f5 := ⟨Try.f29.name, by decide, Try.func29.trans (congrArg some (by kernel_rfl))⟩
 f7 := Try.func49.trans (congrArg some (by kernel_rfl))
 t4 := Try.underlying4
 a4 := Try.isAgg4
 z4 := Try.sizeOf4
 v4 := Try.zeroValue4
 t20 := Try.underlying20
 a20 := Try.isAgg20
 z20 := Try.sizeOf20
 v20 := Try.zeroValue20
 t23 := Try.underlying41
 a23 := Try.isAgg41
 z23 := Try.sizeOf41
 v23 := Try.zeroValue41 }
end Go.Proofs
namespace Go.Proofs.Ytlphgephdhadhaa
open Go Go.RowKit
open Go.WideElems (Fit rd rg rg_of)
open Go.Maps
theorem zx2 (m : Nat) : AnyZ.SortsIn Try.prog Try.sorted26_ren Fence.wide m :=
 ⟨fun blk off cap ss W hH hblk hsz => callsIn_wide.2 (AnyM.slices_Sort_string Try.sort47 blk off cap ss W hH hblk hsz),
  fun p cap W => callsIn_wide.2 (AnyM.slices_Sort_string_none Try.sort47 p cap W)⟩
def yh9 (_ : Value) : Option (DataW Unit × List MemPlace) := some (.lit (.bool true), [])
set_option maxHeartbeats 1000000 in
theorem yav (w : World) (Bm b clock : Nat) (x : MapEntry) (s : ByteArray) (hB : Bm < w.heap.size) (hc : w.cell? ⟨Bm, 0, none⟩ = some (.map (some b))) (hb : w.heap[b]? = some (.map #[x] clock)) (hst : MapKept.Stamped #[x] clock)
   (hk : x.key = .string s) (hs : s.size <= 1000) :
   Calls Try.prog 26 #[.func (.func 48) #[] #[.pointer (some ⟨Bm, 0, none⟩)]] w fun e w' => ∃ v, e = .returned v /\ w'.ownsRow w.heap.size 9 1 v 1 [.string s] /\ Below w.heap.size w w' := by
 have hrd : rd Try.prog 9 yh9 x = some (.string s.data.toList, .lit (.bool true)) := by
   have hl : s.size <= maxLen := Nat.le_trans hs (by decide)
   simp [rd, yh9, Go.keyOf, hk, mapKey, Try.underlying9, hl]
 have hown : w.ownsMap Try.prog 9 yh9 b 1 (.map [(.string s.data.toList, .lit (.bool true))]) := by
   refine ⟨#[x], clock, hb, ⟨(show 1 <= maxLen by decide), hst, fun y hy => ?_⟩, by simp, ?_⟩
   · simp at hy; subst hy; exact ⟨_, hrd⟩
   · simp [rg_of hrd, DataW.insert]
 have hseq := AnyZ.keys_gives (ρ := Try.keys27_ren) (F := Fence.wide) (n := 2) { Try.keys27 with } trivial rfl (by omega) Bm b 1 _ w hB hc hown
 refine (callsIn_wide.1 (AnyZ.sorted_in Try.sorted26 Fence.wide 5 trivial trivial trivial trivial rfl (by omega) (zx2 _) (enters_of Try.func47 (by kernel_rfl) rfl) 48 _ trivial (enters_of Try.func48 (by kernel_rfl) rfl) _ 1 (by decide) (by omega) w hseq)).mono ?_
 rintro e w' ⟨v, ss, rfl, hS, hrow, -, hB⟩
 have : ss = [s.data.toList] := by simpa [strKeys, strOf] using hS
 subst this
 have hrow := hrow
 simp [encStr] at hrow
 exact ⟨v, rfl, hrow, hB⟩
namespace Sy
theorem zg4 {P : Program} {f : FuncId} {fn : Func} {c : Code} {vs : Array Value} {w : World} {Q : Ending -> World -> Prop} (hf : P.funcs[f]? = some fn) (hb : fn.body = some c) (hn : (fn.name == "runtime.NumGoroutine") = false) (h : Calls P f vs w Q) : zer P f vs w Q := by
 unfold zer
 rw [zbu hf hn hb]
 exact h
theorem zhy {D D' : Nat -> Prop} {w w' : World} {μ : Mu} {O : List (Nat × Ob)} {r : AV} {v : Value} (hD : ∀ b, D b -> b < w.heap.size)
   (hdom : ∀ n, μ n = none ↔ za1 O n = none) (hobs : ∀ n o x, za1 O n = some o -> μ n = some x -> zf5 w.heap D μ o x)
   (hinj : ∀ n n' b z z', μ n = some (some (b, z)) -> μ n' = some (some (b, z')) -> n = n') (hown : ∀ n b z, μ n = some (some (b, z)) -> b < w.heap.size /\ ¬ D b)
   (B : Below w.heap.size w w') (up : ∀ b, D b -> D' b) (dn : ∀ b, D' b -> D b \/ (w.heap.size <= b /\ b < w'.heap.size)) (rv : R w'.heap D' μ r v) : ydb D w μ O O r (.returned v) v w' D' μ :=
 { ret := rfl, os := B.os, tape := B.tape, output := B.output, size := B.size, old := fun b hb _ => B.block b hb, up := up,
   dn := fun b hb => (dn b hb).elim .inl (fun h => .inr (.inl h)), dom := hdom,
   obs := fun n o x ho hx => (hobs n o x ho hx).mono (fun b hb => B.block b (hD b hb)) up (fun _ _ h => h) (fun b z e _ => by subst e; exact B.block b (hown n b z hx).1),
   inj := hinj,
   own := fun n b z h => ⟨Nat.lt_of_lt_of_le (hown n b z h).1 B.size, fun hb => (dn b hb).elim (hown n b z h).2 (fun h2 => absurd (hown n b z h).1 (by omega)), .inr ⟨n, z, h⟩⟩,
   keep := fun _ _ _ => rfl, val := rv }
theorem zy7 {D : Nat -> Prop} {w w' : World} {μ : Mu} {O : List (Nat × Ob)} {r : AV} {v : Value} (id : Nat) (o : Ob) (z : Nat × Nat) (hD : ∀ b, D b -> b < w.heap.size) (hid : za1 O id = none)
   (hdom : ∀ n, μ n = none ↔ za1 O n = none) (hobs : ∀ n o x, za1 O n = some o -> μ n = some x -> zf5 w.heap D μ o x)
   (hinj : ∀ n n' b z z', μ n = some (some (b, z)) -> μ n' = some (some (b, z')) -> n = n') (hown : ∀ n b z, μ n = some (some (b, z)) -> b < w.heap.size /\ ¬ D b)
   (B : Below w.heap.size w w') (hlt : w.heap.size < w'.heap.size)
   (ok : zf5 w'.heap D (fun n => if n = id then some (some (w.heap.size, z)) else μ n) o (some (w.heap.size, z)))
   (rv : R w'.heap D (fun n => if n = id then some (some (w.heap.size, z)) else μ n) r v) :
   ydb D w μ O (zb4 O [(id, o)]) r (.returned v) v w' D (fun n => if n = id then some (some (w.heap.size, z)) else μ n) := by
 have hμ : μ id = none := (hdom id).2 hid
 have hm : ∀ n x, μ n = some x -> (if n = id then some (some (w.heap.size, z)) else μ n) = some x := fun n x h => by
   rw [if_neg (by rintro rfl; rw [hμ] at h; cases h)]; exact h
 have ha : ∀ n, za1 (zb4 O [(id, o)]) n = if n = id then some o else za1 O n := fun n => by
   rw [zd1]
   by_cases e : n = id
   · subst e; rw [hid, if_pos rfl]; simp [za1, za4]
   · rw [if_neg e]
     cases za1 O n with
     | some _ => rfl
     | none => simp [za1, za9 (fun h => e h.symm)]
 refine { ret := rfl, os := B.os, tape := B.tape, output := B.output, size := B.size, old := fun b hb _ => B.block b hb, up := fun _ h => h, dn := fun b hb => .inl hb, dom := fun n => ?_, obs := fun n o' x ho hx => ?_, inj := fun n n' b z1 z2 h1 h2 => ?_, own := fun n b z1 h => ?_, keep := fun n h _ => ?_, val := rv }
 · rw [ha]
   by_cases e : n = id
   · simp [e]
   · simp only [if_neg e]; exact hdom n
 · rw [ha] at ho
   by_cases e : n = id
   · simp only [if_pos e] at ho hx
     cases ho; cases hx
     exact ok
   · simp only [if_neg e] at ho hx
     exact (hobs n o' x ho hx).mono (fun b hb => B.block b (hD b hb)) (fun _ h => h) hm (fun b z e _ => by subst e; exact B.block b (hown n b z hx).1)
 · by_cases e : n = id <;> by_cases e' : n' = id
   · rw [e, e']
   · simp only [if_pos e, if_neg e'] at h1 h2
     cases h1
     exact absurd (hown n' _ _ h2).1 (by omega)
   · simp only [if_neg e, if_pos e'] at h1 h2
     cases h2
     exact absurd (hown n _ _ h1).1 (by omega)
   · simp only [if_neg e, if_neg e'] at h1 h2
     exact hinj n n' b z1 z2 h1 h2
 · by_cases e : n = id
   · simp only [if_pos e] at h
     cases h
     exact ⟨hlt, fun hb => absurd (hD _ hb) (by omega), .inl (Nat.le_refl _)⟩
   · simp only [if_neg e] at h
     exact ⟨Nat.lt_of_lt_of_le (hown n b z1 h).1 B.size, (hown n b z1 h).2, .inr ⟨n, z1, h⟩⟩
 · exact if_neg (fun e => h (by rw [e]; exact hid))
end Sy
end Go.Proofs.Ytlphgephdhadhaa
namespace Go.Proofs.Ytlphgephdhadhaa
namespace Sy
open Go Go.RowKit
set_option maxRecDepth 100000
set_option linter.unusedSimpArgs false
set_option linter.unusedVariables false
def zzs (x s : List UInt8) : List (Nat × Ob) := [(500001, .mapl .s [(.s nmA, .ref 500003 0)]), (500003, zbv x s)]
theorem zke {h : Array Obj} {D : Nat -> Prop} {μ : Mu} {x : AV} {vs : Array Value} (hr : RL h D μ [x] vs) : ∃ v, vs = #[v] /\ R h D μ x v := by
 obtain ⟨hl, hr⟩ := hr
 obtain ⟨a, ha⟩ : ∃ a, vs.toList = [a] := List.length_eq_one_iff.1 (by simpa using hl.symm)
 have : vs = #[a] := by rw [<- Array.toArray_toList (xs := vs), ha]
 subst this
 exact ⟨a, rfl, hr 0 x a rfl rfl⟩
theorem zlu {h : Array Obj} {D : Nat -> Prop} {μ : Mu} {b z m : Nat} {v : AV} (k : zf5 h D μ (.mapl .s [(.s nmA, v)]) (some (b, z, m))) :
   ∃ x clock s, h[b]? = some (.map #[x] clock) /\ MapKept.Stamped #[x] clock /\ x.key = .string s /\ s.data.toList = nmA /\ R h D μ v x.val := by
 obtain ⟨es, clock, kf, hb, hn, hks, hnd, hr⟩ := k
 have hn : es.size = 1 := hn
 obtain ⟨x, rfl⟩ : ∃ x, es = #[x] := ⟨es[0], by
   apply Array.ext
   · simpa using hn
   · intro i h1 h2
     have : i = 0 := by simp at h2; exact h2
     subst this; rfl⟩
 obtain ⟨y, hy, ry⟩ := hr 0 x rfl
 obtain ⟨k1, k2⟩ := hks.key 0 x rfl
 obtain ⟨s, k3, k4⟩ := k1
 have hkf : kf 0 = .s nmA /\ y = v := by
   simp only [zat] at hy
   split at hy
   · rename_i h; exact ⟨(zi3 h).symm, by cases hy; rfl⟩
   · cases hy
 obtain ⟨h1, rfl⟩ := hkf
 rw [h1] at k4
 exact ⟨x, clock, s, hb, hks.st, k3, (Ky.s.inj k4).symm, ry⟩
def zhb : zir := (29, fun raw ob => match raw with
 | [.mp n] => match ob n with
   | some (.mapl _ [(_, .ref i _)]) => some ⟨[.mp 500001], zzs (zay (ob i)).1 (zay (ob i)).2, True, .mp 600000, zb4 (zzs (zay (ob i)).1 (zay (ob i)).2) [(600000, .mapl .s [(.s nmA, .ref 500003 0)])]⟩
   | _ => none
 | _ => none)
theorem zig : zeb Try.prog zhb := by
 intro raw ob T hT hp
 unfold zhb at hT
 simp only at hT
 repeat' split at hT
 all_goals first | (cases hT; done) | skip
 cases hT
 intro D w μ vs hD hxs hdom hobs hinj hown hg hgb
 obtain ⟨v, rfl, r1⟩ := zke hxs
 cases r1 with
 | mp _ b z m hμ =>
   obtain ⟨es, clock, kf, hb, hn, hks, hnd, hr⟩ := hobs 500001 _ _ rfl hμ
   refine zg4 (fn := Try.f29) rfl rfl (by kernel_rfl) ((AnyW.maps_Clone Try.clone29 b es clock w hb).mono ?_)
   rintro e w' ⟨rfl, rfl⟩
   have B : Below w.heap.size w (w.alloc (.map es clock)) := (Below.refl _ w).alloc (Nat.le_refl _) _
   have hm : ∀ n x, μ n = some x -> (if n = 600000 then some (some (w.heap.size, (0, 0))) else μ n) = some x := fun n x h => by
     rw [if_neg (by rintro rfl; rw [(hdom 600000).2 rfl] at h; cases h)]; exact h
   refine ⟨_, D, _, zy7 600000 _ (0, 0) hD rfl hdom hobs hinj hown B (by show w.heap.size < (w.heap.push _).size; simp) ⟨es, clock, kf, heap_alloc_new _ _, hn, hks, hnd, fun i x hx => ?_⟩ (.mp _ w.heap.size 0 0 (if_pos rfl))⟩
   obtain ⟨y, h1, h2⟩ := hr i x hx
   exact ⟨y, h1, h2.mono (fun b hb => B.block b (hD b hb)) (fun _ h => h) hm⟩
def seqO (x s : List UInt8) : List (Nat × Ob) := [(500010, .box 41 [.mp 500001]), (500001, .mapl .s [(.s nmA, .ref 500003 0)]), (500003, zbv x s)]
def zh3 : zir := (26, fun raw ob => match raw with
 | [.fn _ [] [.ref c _]] => match ob c with
   | some (.box _ [.mp n]) => match ob n with
     | some (.mapl _ [(_, .ref i _)]) => some ⟨[.fn 48 [] [.ref 500010 0]], seqO (zay (ob i)).1 (zay (ob i)).2, True, .lst 1 1 (fun _ _ => .str nmA), seqO (zay (ob i)).1 (zay (ob i)).2⟩
     | _ => none
   | _ => none
 | _ => none)
theorem zhl : zeb Try.prog zh3 := by
 intro raw ob T hT hp
 unfold zh3 at hT
 simp only at hT
 repeat' split at hT
 all_goals first | (cases hT; done) | skip
 cases hT
 intro D w μ vs hD hxs hdom hobs hinj hown hg hgb
 obtain ⟨v, rfl, r1⟩ := zke hxs
 cases r1 with
 | fn _ _ _ us1 us2 e1 e2 h1 h2 =>
   obtain ⟨u, hu⟩ : ∃ u, us2.toList = [u] := List.length_eq_one_iff.1 (by simpa using e2.symm)
   have : us2 = #[u] := by rw [<- Array.toArray_toList (xs := us2), hu]
   subst this
   have : us1 = #[] := by
     apply Array.eq_empty_of_size_eq_zero
     simpa using e1.symm
   subst this
   have r2 : R w.heap D μ (.ref 500010 0) u := h2 0 _ u rfl rfl
   cases r2 with
   | ref _ _ b z m hμ =>
     obtain ⟨C, t, fr, hb, hz, hf, ho, hC⟩ := hobs 500010 _ _ rfl hμ
     obtain ⟨v0, rfl, r3⟩ := zke hC
     cases r3 with
     | mp _ bm zm mm hμm =>
       obtain ⟨x, clock, s, hbm, hst, hk, hs, rx⟩ := zlu (hobs 500001 _ _ rfl hμm)
       have hss : s.size = 1 := by
         have := congrArg List.length hs
         simpa [nmA] using this
       refine zg4 (fn := Try.f26) rfl rfl (by kernel_rfl) ((yav w b bm clock x s (hown _ _ _ hμ).1 (by rw [zf4]; simp [zaq hb]) hbm hst hk (by omega)).mono ?_)
       rintro e w' ⟨v, rfl, ⟨-, hrow⟩, B⟩
       rcases hrow with ⟨-, h0⟩ | ⟨g, cap, cur, rfl, hg0, hgb, hc1, hc2, hc3, hc4⟩
       · cases h0
       have hcur : cur[0]? = some (.string s) := by
         have := congrArg (fun l => l[0]?) hc4
         simpa using this
       have hlt : g < w'.heap.size := (Array.getElem?_eq_some_iff.1 hgb).1
       refine ⟨_, fun b => D b \/ b = g, μ, zhy hD hdom hobs hinj hown B (fun b h => .inl h) (fun b h => h.elim .inl (fun e => .inr (by subst e; exact ⟨hg0, hlt⟩))) (.lst 1 1 _ g 0 cap (fun _ _ => .string s) (.inr rfl) hc1 (fun i j hi hj => ?_) (fun i j hi hj => rfl) (fun i j hi hj => .str _ s hs))⟩
       have : i = 0 := by omega
       subst this
       have : j = 0 := by omega
       subst this
       rw [zaq hgb]
       exact hcur
def zbj (a : List UInt8) : Prop := a.length <= 1000
def zst (L : zab) : zdf := (50, fun xs => match xs with | [.str a] => some (L zbj a, .str a) | _ => none)
def zx5 (L : zab) : zdf := (35, fun xs => match xs with | [.str a] => some (L zbj a, .str a) | _ => none)
theorem zsu : zec Try.prog (zst std) := by
 intro xs p r h hp
 dsimp only [zst] at h |-
 split at h <;> cases h
 try simp only [L2, L3, std] at hp |-
 rename_i a
 have h1 : a.length <= 1000 := hp
 exact zd2 (fn := Try.f50) rfl rfl (by kernel_rfl) (yd5 (zhj _)) (fun h D => zsm h D zan _) (fun w => Try.stringslite_Clone ⟨a.toArray⟩ w (by show a.toArray.size <= _; rw [List.size_toArray]; omega))
theorem zos : zec Try.prog (zx5 std) := by
 intro xs p r h hp
 dsimp only [zx5] at h |-
 split at h <;> cases h
 try simp only [L2, L3, std] at hp |-
 rename_i a
 have h1 : zbj a := hp
 refine za6 (T := tt) (S := fun L => zc7 [zst L]) (lo := noA) (lb := noA) 5 (fn := Try.f35) rfl rfl (by kernel_rfl) (by kernel_rfl) rfl zaj (zac ⟨zsu, trivial⟩) (by kernel_rfl) ?_
 (intro L P1 Q1 hL hP hQ; cbv; subst hL; simp only [L2, L3, std, syT]; subst hQ)
 (simp only [syS, reduceCtorEq, Int.reduceToNat, Int.reduceAdd, Int.reduceSub])
 exact h1
def zy1 (a : List UInt8) : Bool := !decide (a = []) && decide (a.length <= 32)
def zp8 (L : zab) : zdf := (32, fun xs => match xs with | [.str a] => some (L zbj a, .bool (L zy1 a)) | _ => none)
theorem zlv : zec Try.prog (zp8 std) := by
 intro xs p r h hp
 dsimp only [zp8] at h |-
 split at h <;> cases h
 try simp only [L2, L3, std] at hp |-
 rename_i a
 have h1 : a.length <= 1000 := hp
 refine za6 (T := tt) (S := noS) (lo := noA) (lb := noA) 5 (fn := Try.f32) rfl rfl (by kernel_rfl) (by kernel_rfl) rfl zaj (zef _) (by kernel_rfl) ?_
 (intro L P1 Q1 hL hP hQ; cbv; subst hL; simp only [L2, L3, std, syT]; subst hQ)
 (simp only [syS, reduceCtorEq, Int.reduceToNat, Int.reduceAdd, Int.reduceSub])
 refine ⟨fun h => ?_, fun h => ?_⟩
 · unfold zy1
   rw [decide_eq_false h]
   unfold ile
   simp
   omega
 · subst h; rfl
def zfw (s : List UInt8) (i q : Nat) : Int := if q < i then zl7 s q else 0
def yhi (L : zab) (s : List UInt8) : Nat -> St -> Option Ann := fun id st => match id with
 | 0 => some ⟨Nat, fun i => [(27, .int .i64 (L za7 i))], fun i => [(24, .row 5 1 (L zzz s) (fun q _ => .int .u8 (L3 L zfw s i q)))], [0, 1, 6, 26], [500003],
     fun i => L2 L (fun (s : List UInt8) i => i <= s.length) s i, fun i => L2 L (fun (s : List UInt8) (i : Nat) => s.length - i) s i⟩
 | _ => none
theorem zw7 (s : List UInt8) : zb2 s.length (fun k => zl7 s k) = s := by
 apply List.ext_getElem
 · simp [zb2]
 · intro i h1 h2
   simp [zb2, zl7, h2]
theorem shr0 (k : IntKind) (b : Int) : zgw k 0 b = 0 := by unfold zgw; simp
theorem ydz {i : Nat} (h : i <= 1000) : ile 0 (Int.tmod (zsb .i64 (za7 i) 64) 63) = true := by
 have e1 : (za7 i).tdiv 64 = ((i / 64 : Nat) : Int) := by
   unfold za7
   exact (Int.ofNat_tdiv i 64).symm
 unfold zsb
 rw [zcu, e1]
 have e2 : ((i / 64 : Nat) : Int) + 9223372036854775808 < 18446744073709551616 := by omega
 rw [Int.emod_eq_of_lt (by omega) e2]
 unfold ile
 rw [decide_eq_true_eq]
 exact Int.tmod_nonneg _ (by omega)
def zuu (L : zab) : zir := (28, fun raw ob => match raw with
 | [.ref i 0, .int .u64 _] => some ⟨[.ref 500003 0, .int .u64 0], [(500003, zbv (zay (ob i)).1 (zay (ob i)).2)], L zbj (zay (ob i)).2, .str (zay (ob i)).2, [(500003, zbv (zay (ob i)).1 (zay (ob i)).2)]⟩
 | _ => none)
theorem ybz (x s : List UInt8) (hs : zbj s) : zbe Try.prog 28 [.ref 500003 0, .int .u64 0] [(500003, zbv x s)] (.str s) [(500003, zbv x s)] := by
 have hs : s.length <= 1000 := hs
 refine zaz (T := tt) (S := fun L => zbz [] []) (lo := fun L => yhi L s) (lb := noA) 8 (fn := Try.f28) (xs := fun L => [.ref 500003 0, .int .u64 0]) (rts := fun _ => [.str s]) (O := fun L => [(500003, zbv x s)]) (O1 := fun L => [(500003, zbv x s)])
   rfl rfl (by kernel_rfl) (by kernel_rfl) (by kernel_rfl) zaj (zak trivial trivial) (by kernel_rfl) ?_
 intro L P' Q' hL hP hQ
 (cbv; try simp only [syT, true_and, and_true])
 refine ⟨?_, fun h1 => ?_, fun h1 => ⟨?_, ⟨0, ?_⟩, fun i hi => ?_⟩⟩
 · subst hL; decide
 · exfalso
   subst hL
   revert h1
   simp only [std, L2]
   decide
 · subst hL
   show yev 1 (slen s) (slen s) = true
   rw [zzw]
   unfold slen
   omega
 · (cbv; try simp only [syT, true_and, and_true])
   subst hL
   refine ⟨⟨rfl, fun a b ha hb => ?_⟩, rfl, Nat.zero_le _⟩
   have : b = 0 := by omega
   subst this
   simp [zc2, L3, std, zfw]
 · (cbv; try simp only [syT, true_and, and_true])
   refine ⟨fun h2 => ⟨?_, ?_, ?_, fun h3 => ?_, fun h3 => ⟨fun h4 => ⟨?_, ?_, ⟨i + 1, ?_⟩⟩, fun h4 => ?_⟩⟩, fun h2 => ?_⟩
   · subst hL; decide
   · subst hL; decide
   · subst hL
     have hi : i <= s.length := hi
     exact ydz (by omega)
   · exfalso
     subst hL
     revert h3
     simp only [std, shr0]
     decide
   · subst hL
     have h4 : ilt (za7 i) (slen s) = true := h4
     rw [zgz] at h4
     show inR (za7 i) (slen s) = true
     rw [zma]
     exact ⟨Int.natCast_nonneg _, h4⟩
   · subst hL
     have h4 : ilt (za7 i) (slen s) = true := h4
     rw [zgz] at h4
     show inR (za7 i) (za7 (Int.toNat (slen s))) = true
     rw [zma]
     exact ⟨Int.natCast_nonneg _, h4⟩
   · (cbv; try simp only [syT, true_and, and_true])
     subst hL
     have hi : i <= s.length := hi
     have h4 : ilt (za7 i) (slen s) = true := h4
     rw [zgz] at h4
     have h4 : (i : Int) < (s.length : Int) := h4
     refine ⟨fun a b ha hb => ?_, ?_, ?_, ?_⟩
     · refine (yh6 _ .u8 _ (zfw s i) a b hb).trans (congrArg (AV.int .u8) ?_)
       show (if a = 0 + (za7 i).toNat then zl7 s (za7 i) else zfw s i a) = zfw s (i + 1) a
       have e1 : 0 + (za7 i).toNat = i := by unfold za7; omega
       rw [e1]
       unfold zfw
       by_cases e : a = i
       · subst e
         rw [if_pos rfl, if_pos (by omega)]; rfl
       · rw [if_neg e]
         by_cases e2 : a < i
         · rw [if_pos e2, if_pos (by omega)]
         · rw [if_neg e2, if_neg (by omega)]
     · show zbg .i64 (za7 i) 1 = za7 (i + 1)
       unfold zbg za7
       rw [zcu]
       omega
     · show i + 1 <= s.length
       omega
     · show s.length - (i + 1) < s.length - i
       omega
   · exfalso
     subst hL
     have h2 : ilt (za7 i) (za7 (Int.toNat (slen s))) = true := h2
     have h4 : ilt (za7 i) (slen s) = false := h4
     have e : za7 (Int.toNat (slen s)) = slen s := by unfold za7 slen; omega
     rw [e, h4] at h2
     cases h2
   · subst hL
     have hi : i <= s.length := hi
     have h2 : ilt (za7 i) (za7 (Int.toNat (slen s))) = false := h2
     rw [zrm] at h2
     have e : i = s.length := by unfold za7 slen at h2; omega
     subst e
     refine ⟨⟨?_, fun k _ => ⟨_, rfl⟩⟩, ?_⟩
     · show 0 + s.length <= s.length
       omega
     · show zb2 s.length (fun k => zfw s s.length (0 + k)) = s
       refine Eq.trans ?_ (zw7 s)
       unfold zb2
       refine List.map_congr_left fun k hk => ?_
       have hk : k < s.length := by simpa using hk
       show UInt8.ofNat (zfw s s.length (0 + k)).toNat = UInt8.ofNat (zl7 s k).toNat
       unfold zfw
       rw [if_pos (by omega), Nat.zero_add]
theorem zuv : zeb Try.prog (zuu std) := by
 intro raw ob T hT hp
 unfold zuu at hT
 simp only at hT
 repeat' split at hT
 all_goals first | (cases hT; done) | (cases hT; exact ybz _ _ hp)
def DkS.used (L : zab) : DkS -> Int
 | .c _ x _ => L slen x
 | _ => 0
def DkS.usable : DkS -> Prop
 | .a _ => True
 | .c _ x _ => zbj x
 | _ => False
def zoi (L : zab) : zir := (15, fun raw ob => match raw with
 | [.ref id 0] => match zvl ob id with
   | some sh => some ⟨[.ref 500000 0], dkO 500005 sh, L DkS.usable sh, .int .i64 (sh.used L), dkO 500005 sh⟩
   | _ => none
 | _ => none)
theorem zld : zeb Try.prog (zoi std) := by
 intro raw ob T hT hp
 unfold zoi at hT
 simp only at hT
 repeat' split at hT
 all_goals first | (cases hT; done) | skip
 rename_i sh hsh
 cases hT
 intro D w μ vs hD hxs hdom hobs hinj hown hg hgb
 obtain ⟨v, rfl, r1⟩ := zke hxs
 cases r1 with
 | ref _ _ b z m hμ =>
   cases sh with
   | b k x s => exact hp.elim
   | d k x s y t => exact hp.elim
   | a k =>
     obtain ⟨C, t, fr, hb, hz, hf, ho, hC1, hC2⟩ := hobs 500000 _ _ rfl hμ
     obtain ⟨v1, hv1⟩ : ∃ v1, C[1]? = some v1 := ⟨C[1]'(by rw [<- hC1]; simp), by simp⟩
     have r2 : R w.heap D μ (.mp 500001) v1 := hC2 1 _ v1 rfl hv1
     cases r2 with
     | mp _ bm zm mm hμm =>
       obtain ⟨es, clock, kf, hbm, hn, hks, hnd, hr⟩ := hobs 500001 _ _ rfl hμm
       have hes : es = #[] := Array.eq_empty_of_size_eq_zero hn
       subst hes
       refine zg4 (fn := Try.f15) rfl rfl (by kernel_rfl) ((ygn w b bm clock (by rw [zf4, zaq hb]; exact hv1) hbm).mono ?_)
       rintro e w' ⟨rfl, B⟩
       exact ⟨_, D, μ, zhy hD hdom hobs hinj hown B (fun b h => h) (fun b h => .inl h) (.int _ _)⟩
   | c k x s =>
     obtain ⟨C, t, fr, hb, hz, hf, ho, hC1, hC2⟩ := hobs 500000 _ _ rfl hμ
     obtain ⟨v1, hv1⟩ : ∃ v1, C[1]? = some v1 := ⟨C[1]'(by rw [<- hC1]; simp), by simp⟩
     have r2 : R w.heap D μ (.mp 500001) v1 := hC2 1 _ v1 rfl hv1
     cases r2 with
     | mp _ bm zm mm hμm =>
       obtain ⟨e, clock, s1, hbm, hst, hk, hs, rx⟩ := zlu (hobs 500001 _ _ rfl hμm)
       generalize hev : e.val = ev at rx
       cases rx with
       | ref _ _ bn zn mn hμn =>
         obtain ⟨C', t', fr', hb', hz', hf', ho', hC1', hC2'⟩ := hobs 500003 _ _ rfl hμn
         obtain ⟨v2, hv2⟩ : ∃ v2, C'[0]? = some v2 := ⟨C'[0]'(by rw [<- hC1']; simp), by simp⟩
         have r3 : R w.heap D μ (.str x) v2 := hC2' 0 _ v2 rfl hv2
         obtain ⟨s2, rfl, hs2⟩ := r3.inv_str
         have hsh : x.length <= 1000 := hp
         have hsz : s2.size = x.length := by rw [<- hs2]; simp
         refine zg4 (fn := Try.f15) rfl rfl (by kernel_rfl) ((ygm w b bm bn clock e s2 (by rw [zf4, zaq hb]; exact hv1) hbm hst hev (by rw [zf4, zaq hb']; exact hv2)).mono ?_)
         rintro e w' ⟨rfl, B⟩
         have he : wrap64 (s2.size : Int) = slen x := by
           unfold wrap64 slen
           omega
         rw [he]
         exact ⟨_, D, μ, zhy hD hdom hobs hinj hown B (fun b h => h) (fun b h => .inl h) (.int _ _)⟩
def wrO (L : zab) (x : List UInt8) : DkS -> List (Nat × Ob)
 | .a k => [(500000, zo6 (.sl 17 4 0 1) (L inc k)), (500001, .mapl .s [(.s nmA, .ref 64 0)]), (500002, .mapl .s []), (64, zbv x []), (17, zxr nmA)]
 | .c k y s => [(500000, zo6 (.sl 17 4 0 1) (L inc k)), (500001, .mapl .s [(.s nmA, .ref 500003 0), (.s nmB, .ref 64 0)]), (500002, .mapl .s [(.s nmA, .ref 500003 0)]), (500003, zbv y s), (64, zbv x []), (17, zxr nmB)]
 | _ => []
def ygg : DkS -> List UInt8
 | .a _ => nmA
 | _ => nmB
def yg6 (x : List UInt8) : DkS -> Prop
 | .a k => zbn k /\ x.length <= 50
 | .c k y s => zbn k /\ x.length <= 50 /\ y.length <= 50
 | _ => False
def zn4 (L : zab) : zir := (9, fun raw ob => match raw with
 | [.ref id 0, .str _, .str x] => match zvl ob id with
   | some sh => some ⟨[.ref 500000 0, .str (ygg sh), .str x], dkO 500005 sh, L2 L yg6 x sh, .int .i64 0, wrO L x sh⟩
   | _ => none
 | _ => none)
theorem yaf (k : Int) (x : List UInt8) (hk : zbn k) (hx : x.length <= 50) : zbe Try.prog 9 [.ref 500000 0, .str nmA, .str x] (dkO 500005 (.a k)) (.int .i64 0) (wrO std x (.a k)) := by
 refine zaz (T := tt) (S := fun L => zbz [zx5 L, zp8 L] [ybl, zoi L, zgj L, zh2]) (lo := noA) (lb := noA) 8 (fn := Try.f9) (xs := fun L => [.ref 500000 0, .str nmA, .str x]) (rts := fun _ => [.int .i64 0]) (O := fun L => dkO 500005 (.a k)) (O1 := fun L => wrO L x (.a k))
   rfl rfl (by kernel_rfl) (by kernel_rfl) (by kernel_rfl) zaj (zak ⟨zos, zlv, trivial⟩ ⟨zhu, zld, zf0, zhi, trivial⟩) (by kernel_rfl) ?_
 intro L P' Q' hL hP hQ
 (cbv; try simp only [syT, true_and, and_true])
 subst hL
 have e0 : ine 0 0 = false := by decide
 have e1 : zy1 [97] = true := by decide
 have e2 : ile 16 (Int.ofNat 0) = false := by decide
 have e3 : ilt 100 (zbg .i64 (slen x) 0) = false := by
   rw [zrm]
   unfold zbg slen
   rw [zcu]
   omega
 have e4 : zbj x := by unfold zbj; omega
 have e5 : zbj [97] := by unfold zbj; decide
 simp [std, e0, e1, e2, e3, e4, e5, DkS.usable, DkS.k, hk]
 decide
theorem yae (k : Int) (x y s : List UInt8) (hk : zbn k) (hx : x.length <= 50) (hy : y.length <= 50) : zbe Try.prog 9 [.ref 500000 0, .str nmB, .str x] (dkO 500005 (.c k y s)) (.int .i64 0) (wrO std x (.c k y s)) := by
 refine zaz (T := tt) (S := fun L => zbz [zx5 L, zp8 L] [ybl, zoi L, zgj L, zh2]) (lo := noA) (lb := noA) 8 (fn := Try.f9) (xs := fun L => [.ref 500000 0, .str nmB, .str x]) (rts := fun _ => [.int .i64 0]) (O := fun L => dkO 500005 (.c k y s)) (O1 := fun L => wrO L x (.c k y s))
   rfl rfl (by kernel_rfl) (by kernel_rfl) (by kernel_rfl) zaj (zak ⟨zos, zlv, trivial⟩ ⟨zhu, zld, zf0, zhi, trivial⟩) (by kernel_rfl) ?_
 intro L P' Q' hL hP hQ
 (cbv; try simp only [syT, true_and, and_true])
 subst hL
 have e0 : ine 0 0 = false := by decide
 have e1 : zy1 [98] = true := by decide
 have e2 : ile 16 (Int.ofNat 1) = false := by decide
 have e3 : ilt 100 (zbg .i64 (slen x) (slen y)) = false := by
   rw [zrm]
   unfold zbg slen
   rw [zcu]
   omega
 have e4 : zbj x := by unfold zbj; omega
 have e6 : zbj y := by unfold zbj; omega
 have e5 : zbj [98] := by unfold zbj; decide
 simp [std, e0, e1, e2, e3, e4, e5, e6, DkS.usable, DkS.k, hk]
 decide
theorem zqd : zeb Try.prog (zn4 std) := by
 intro raw ob T hT hp
 unfold zn4 at hT
 simp only at hT
 repeat' split at hT
 all_goals first | (cases hT; done) | skip
 rename_i x _ sh hsh
 cases hT
 have hp : yg6 x sh := hp
 cases sh with
 | a k => exact yaf k x hp.1 hp.2
 | b k y s => exact hp.elim
 | c k y s => exact yae k x y s hp.1 hp.2.1 hp.2.2
 | d k y s z t => exact hp.elim
def zsk (L : zab) : zir := (10, fun raw ob => match raw with
 | [.ref id 0, .str _] => match zvl ob id with
   | some (.b k x s) => some ⟨[.ref 500000 0, .str nmA], dkO 500005 (.b k x s), L zbn k, .int .i64 0, dkO 500005 (.b (L inc k) x x)⟩
   | _ => none
 | _ => none)
theorem ydv (k : Int) (x s : List UInt8) (hk : zbn k) : zbe Try.prog 10 [.ref 500000 0, .str nmA] (dkO 500005 (.b k x s)) (.int .i64 0) (dkO 500005 (.b (inc k) x x)) := by
 refine zaz (T := tt) (S := fun L => zbz [] [zk0, zgj L]) (lo := noA) (lb := noA) 8 (fn := Try.f10) (xs := fun L => [.ref 500000 0, .str nmA]) (rts := fun _ => [.int .i64 0]) (O := fun L => dkO 500005 (.b k x s)) (O1 := fun L => dkO 500005 (.b (L inc k) x x))
   rfl rfl (by kernel_rfl) (by kernel_rfl) (by kernel_rfl) zaj (zak trivial ⟨zj2, zf0, trivial⟩) (by kernel_rfl) ?_
 intro L P' Q' hL hP hQ
 (cbv; try simp only [syT, true_and, and_true])
 subst hL
 have e0 : ieq 0 0 = true := by decide
 simp [std, e0, DkS.k, hk]
theorem zsl : zeb Try.prog (zsk std) := by
 intro raw ob T hT hp
 unfold zsk at hT
 simp only at hT
 repeat' split at hT
 all_goals first | (cases hT; done) | (cases hT; exact ydv _ _ _ hp)
def sdO (k : Int) (x s : List UInt8) : List (Nat × Ob) := [(500000, zq3 500001 18 .nils k), (500001, .mapl .s [(.s nmA, .ref 500003 0)]), (18, .mapl .s [(.s nmA, .ref 500003 0)]), (500003, zbv x s)]
def zsr (L : zab) : zir := (13, fun raw ob => match raw with
 | [.ref id 0] => match zvl ob id with
   | some (.b k x s) => some ⟨[.ref 500000 0], dkO 500005 (.b k x s), L zbn k, .int .i64 0, sdO (L inc k) x s⟩
   | _ => none
 | _ => none)
theorem ye2 (k : Int) (x s : List UInt8) (hk : zbn k) : zbe Try.prog 13 [.ref 500000 0] (dkO 500005 (.b k x s)) (.int .i64 0) (sdO (inc k) x s) := by
 refine zaz (T := tt) (S := fun L => zbz [] [ybl, zgj L, zhb]) (lo := noA) (lb := noA) 8 (fn := Try.f13) (xs := fun L => [.ref 500000 0]) (rts := fun _ => [.int .i64 0]) (O := fun L => dkO 500005 (.b k x s)) (O1 := fun L => sdO (L inc k) x s)
   rfl rfl (by kernel_rfl) (by kernel_rfl) (by kernel_rfl) zaj (zak trivial ⟨zhu, zf0, zig, trivial⟩) (by kernel_rfl) ?_
 intro L P' Q' hL hP hQ
 (cbv; try simp only [syT, true_and, and_true])
 subst hL
 have e0 : ieq 0 0 = true := by decide
 simp [std, e0, DkS.k, hk]
theorem zss : zeb Try.prog (zsr std) := by
 intro raw ob T hT hp
 unfold zsr at hT
 simp only at hT
 repeat' split at hT
 all_goals first | (cases hT; done) | (cases hT; exact ye2 _ _ _ hp)
def ztt : zir := (8, fun raw ob => match raw with
 | [.ref id 0, .str _] => match zvl ob id with
   | some (.c k x s) => some ⟨[.ref 500000 0, .str nmA], dkO 500005 (.c k x s), True, .tup [.str x, .int .i64 0], dkO 500005 (.c k x s)⟩
   | _ => none
 | _ => none)
theorem yee (k : Int) (x s : List UInt8) : zbe Try.prog 8 [.ref 500000 0, .str nmA] (dkO 500005 (.c k x s)) (.tup [.str x, .int .i64 0]) (dkO 500005 (.c k x s)) := by
 refine zaz (T := tt) (S := fun L => zbz [] [zk0]) (lo := noA) (lb := noA) 8 (fn := Try.f8) (xs := fun L => [.ref 500000 0, .str nmA]) (rts := fun _ => [.str x, .int .i64 0]) (O := fun L => dkO 500005 (.c k x s)) (O1 := fun L => dkO 500005 (.c k x s))
   rfl rfl (by kernel_rfl) (by kernel_rfl) (by kernel_rfl) zaj (zak trivial ⟨zj2, trivial⟩) (by kernel_rfl) ?_
 intro L P' Q' hL hP hQ
 (cbv; try simp only [syT, true_and, and_true])
 subst hL
 have e0 : ine 0 0 = false := by decide
 simp [std, e0]
theorem ztu : zeb Try.prog ztt := by
 intro raw ob T hT hp
 unfold ztt at hT
 simp only at hT
 repeat' split at hT
 all_goals first | (cases hT; done) | (cases hT; exact yee _ _ _)
def zkz : zir := (27, fun raw ob => match raw with
 | [.mp n] => match ob n with
   | some (.mapl _ [(_, .ref i _)]) => some ⟨[.mp 500001], zzs (zay (ob i)).1 (zay (ob i)).2, True, .fn 48 [] [.ref 1 0], zb4 [(1, .box 41 [.mp 500001])] (zzs (zay (ob i)).1 (zay (ob i)).2)⟩
   | _ => none
 | _ => none)
theorem zz7 (x s : List UInt8) : zbe Try.prog 27 [.mp 500001] (zzs x s) (.fn 48 [] [.ref 1 0]) (zb4 [(1, .box 41 [.mp 500001])] (zzs x s)) := by
 refine zaz (T := tt) (S := fun L => zbz [] []) (lo := noA) (lb := noA) 8 (fn := Try.f27) (xs := fun L => [.mp 500001]) (rts := fun _ => [.fn 48 [] [.ref 1 0]]) (O := fun L => zzs x s) (O1 := fun L => zb4 [(1, .box 41 [.mp 500001])] (zzs x s))
   rfl rfl (by kernel_rfl) (by kernel_rfl) (by kernel_rfl) zaj (zak trivial trivial) (by kernel_rfl) ?_
 intro L P' Q' hL hP hQ
 (cbv; try simp only [syT, true_and, and_true])
theorem zjq : zeb Try.prog zkz := by
 intro raw ob T hT hp
 unfold zkz at hT
 simp only at hT
 repeat' split at hT
 all_goals first | (cases hT; done) | (cases hT; exact zz7 _ _)
def znn : zir := (14, fun raw ob => match raw with
 | [.ref id 0] => match zvl ob id with
   | some (.c k x s) => some ⟨[.ref 500000 0], dkO 500005 (.c k x s), True, .lst 1 1 (fun _ _ => .str nmA), dkO 500005 (.c k x s)⟩
   | _ => none
 | _ => none)
theorem ybq (k : Int) (x s : List UInt8) : zbe Try.prog 14 [.ref 500000 0] (dkO 500005 (.c k x s)) (.lst 1 1 (fun _ _ => .str nmA)) (dkO 500005 (.c k x s)) := by
 refine zaz (T := tt) (S := fun L => zbz [] [ybl, zkz, zh3]) (lo := noA) (lb := noA) 8 (fn := Try.f14) (xs := fun L => [.ref 500000 0]) (rts := fun _ => [.lst 1 1 (fun _ _ => .str nmA)]) (O := fun L => dkO 500005 (.c k x s)) (O1 := fun L => dkO 500005 (.c k x s))
   rfl rfl (by kernel_rfl) (by kernel_rfl) (by kernel_rfl) zaj (zak trivial ⟨zhu, zjq, zhl, trivial⟩) (by kernel_rfl) ?_
 intro L P' Q' hL hP hQ
 (cbv; try simp only [syT, true_and, and_true])
 subst hL
 have e0 : ine 0 0 = false := by decide
 simp [std, e0]
theorem zre : zeb Try.prog znn := by
 intro raw ob T hT hp
 unfold znn at hT
 simp only at hT
 repeat' split at hT
 all_goals first | (cases hT; done) | (cases hT; exact ybq _ _ _)
def zub (x s : List UInt8) (i : Nat) : List UInt8 := if i = 0 then x else s
def isZ (i : Nat) : Bool := decide (i = 0)
def crA (L : zab) (k : Int) (x s y t : List UInt8) : Nat -> St -> Option Ann := fun id st => match id with
 | 0 => some ⟨Nat, fun i => [(21, .int .i64 (L za7 i))], fun _ => [], [0, 1, 2, 19, 20], [500000, 500001, 500002, 500003, 500004, 500005], fun i => L (fun i => i <= 1) i, fun i => L (fun (i : Nat) => 1 - i) i⟩
 | 2 => some ⟨Nat, fun i => [(51, .int .i64 (L za7 i)), (9, .int .i64 (L za7 i))], fun i => [(500000, zo6 (.sl 500005 4 0 1) k), (500001, .mapl .s [(.s nmA, .ref 500003 0), (.s nmB, .ref 500004 0)]), (500002, .mapl .s [(.s nmA, .ref 500003 0)]), (500003, .box 59 [.str (L3 L zub x s i), .str s]), (500004, zbv y t), (43, .mapq (L isZ i))], [0, 2, 8, 49, 50], [500005], fun i => L (fun i => i <= 1) i, fun i => L (fun (i : Nat) => 1 - i) i⟩
 | _ => none
def crO (k : Int) (s : List UInt8) : List (Nat × Ob) := [(500000, zq3 19 500002 .nils k), (19, .mapl .s [(.s nmA, .ref 500003 0)]), (500002, .mapl .s [(.s nmA, .ref 500003 0)]), (500003, zbv s s)]
def zo7 (L : zab) : zir := (7, fun raw ob => match raw with
 | [.ref id 0, .nils, .nils] => match zvl ob id with
   | some (.d k x s y t) => some ⟨[.ref 500000 0, .nils, .nils], dkO 500005 (.d k x s y t), L zbj s, .tup [], crO k s⟩
   | _ => none
 | _ => none)
theorem ycl (k : Int) (x s y t : List UInt8) (hs : zbj s) : zbe Try.prog 7 [.ref 500000 0, .nils, .nils] (dkO 500005 (.d k x s y t)) (.tup []) (crO k s) := by
 refine zaz (T := tt) (S := fun L => zbz [] [yfm, zkz, zh3, zuu L, zhb]) (lo := fun L => crA L k x s y t) (lb := noA) 12 (fn := Try.f7) (xs := fun L => [.ref 500000 0, .nils, .nils]) (rts := fun _ => []) (O := fun L => dkO 500005 (.d k x s y t)) (O1 := fun L => crO k s)
   rfl rfl (by kernel_rfl) (by kernel_rfl) (by kernel_rfl) zaj (zak trivial ⟨zo5, zjq, zhl, zuv, zig, trivial⟩) (by kernel_rfl) ?_
 intro L P' Q' hL hP hQ
 (cbv; try simp only [syT, true_and, and_true])
 refine ⟨fun h => (by cases h), fun _ => ⟨⟨0, ?_⟩, fun i hi => ?_⟩⟩
 · (cbv; try simp only [syT, true_and, and_true])
   subst hL
   exact ⟨fun _ _ _ _ => trivial, rfl, Nat.zero_le _⟩
 · (cbv; try simp only [syT, true_and, and_true])
   refine ⟨fun h2 => ⟨?_, fun h3 => ?_, fun h3 => ⟨i + 1, ?_⟩⟩, fun h2 => ⟨⟨0, ?_⟩, fun j hj => ?_⟩⟩
   · subst hL
     have h2 : ilt (za7 i) (za7 1) = true := h2
     rw [zgz] at h2
     show inR (za7 i) (za7 1) = true
     rw [zma]
     exact ⟨Int.natCast_nonneg _, h2⟩
   · subst hL
     have h3 : ilt (za7 i) 0 = true := h3
     rw [zgz] at h3
     unfold za7 at h3
     omega
   · (cbv; try simp only [syT, true_and, and_true])
     subst hL
     have hi : i <= 1 := hi
     have h2 : ilt (za7 i) (za7 1) = true := h2
     rw [zgz] at h2
     unfold za7 at h2
     refine ⟨fun _ _ _ _ => trivial, ?_, ?_, ?_⟩
     · show zbg .i64 (za7 i) 1 = za7 (i + 1)
       unfold zbg za7
       rw [zcu]
       omega
     · show i + 1 <= 1
       omega
     · show 1 - (i + 1) < 1 - i
       omega
   · (cbv; try simp only [syT, true_and, and_true])
     subst hL
     exact ⟨fun _ _ _ _ => trivial, fun _ => trivial, rfl, fun _ _ _ _ => trivial, rfl, rfl, Nat.zero_le _⟩
   · (cbv; try simp only [syT, true_and, and_true])
     refine ⟨fun h3 => ⟨?_, ?_, fun h => (by cases h), fun _ => ⟨fun h4 => ?_, fun h4 => ⟨?_, ?_, ⟨j + 1, ?_⟩⟩⟩⟩, fun h3 => ?_⟩
     · subst hL
       have h3 : ilt (za7 j) (za7 1) = true := h3
       rw [zgz] at h3
       show inR (za7 j) (za7 1) = true
       rw [zma]
       exact ⟨Int.natCast_nonneg _, h3⟩
     · subst hL
       have h3 : ilt (za7 j) (za7 1) = true := h3
       rw [zgz] at h3
       unfold za7 at h3
       exact decide_eq_true (show j = 0 by omega)
     · subst hL
       have h4 : ilt (za7 j) 0 = true := h4
       rw [zgz] at h4
       unfold za7 at h4
       omega
     · subst hL
       exact hs
     · subst hL
       have h3 : ilt (za7 j) (za7 1) = true := h3
       rw [zgz] at h3
       unfold za7 at h3
       exact decide_eq_true (show j = 0 by omega)
     · (cbv; try simp only [syT, true_and, and_true])
       subst hL
       have hj : j <= 1 := hj
       have h3 : ilt (za7 j) (za7 1) = true := h3
       rw [zgz] at h3
       unfold za7 at h3
       have ew : zbg .i64 (za7 j) 1 = za7 (j + 1) := by
         unfold zbg za7
         rw [zcu]
         omega
       refine ⟨fun _ _ _ _ => trivial, fun h => ?_, ?_, fun _ _ _ _ => trivial, ew, ew, ?_, ?_⟩
       · have h : decide (j + 1 = 0) = true := h
         simp at h
       · show s = zub x s (j + 1)
         unfold zub
         rw [if_neg (by omega)]
       · show j + 1 <= 1
         omega
       · show 1 - (j + 1) < 1 - j
         omega
     · subst hL
       have h3 : ilt (za7 j) (za7 1) = false := h3
       rw [zrm] at h3
       unfold za7 at h3
       show zub x s j = s
       unfold zub
       rw [if_neg (by omega)]
theorem zrv : zeb Try.prog (zo7 std) := by
 intro raw ob T hT hp
 unfold zo7 at hT
 simp only at hT
 repeat' split at hT
 all_goals first | (cases hT; done) | (cases hT; exact ycl _ _ _ _ _ hp)
end Sy
end Go.Proofs.Ytlphgephdhadhaa
namespace Go.Proofs.Ytlphgephdhadhaa
namespace Sy
open Go Go.RowKit
set_option linter.unusedVariables false
def DW (W : World) : Nat -> Prop := fun b => b < W.heap.size
structure zwj {H : Type} (enc : TypeId × Value -> H) (P : Program) (W : World) (t : TypeId) (α : Type) (sz : Nat) (av : α -> Nat -> AV) (ok : α -> Prop) : Prop where
 size : P.cellsOf t = sz
 go : ∀ fuel cs x, DataW.trod enc P W 0 (fun _ => true) true fuel t cs = some x -> ∃ y : α, ok y /\ cs.length = sz /\ ∀ j, j < sz -> ∃ v, cs[j]? = some v /\ one v /\ R W.heap (DW W) zan (av y j) v
theorem sgl {h : Array Obj} {D : Nat -> Prop} {f : Nat -> AV} {v : Value} (h1 : one v) (h2 : R h D zan (f 0) v) : ∀ j, j < 1 -> ∃ u, [v][j]? = some u /\ one u /\ R h D zan (f j) u := by
 intro j hj
 obtain rfl : j = 0 := by omega
 exact ⟨v, rfl, h1, h2⟩
section
variable {H : Type} {enc : TypeId × Value -> H} {P : Program} {W : World}
theorem opens_str {t : TypeId} (ht : P.underlying t = some .string) (hc : P.cellsOf t = 1) : zwj enc P W t (List UInt8) 1 (fun l _ => .str l) (fun l => l.length <= maxLen) := by
 refine ⟨hc, fun fuel cs x h => ?_⟩
 obtain ⟨s, rfl, rfl, hs⟩ := DataW.trod_string ht h
 exact ⟨s.data.toList, by rw [Array.length_toList]; exact hs, rfl, sgl rfl (.str _ _ rfl)⟩
theorem zwj.map {t : TypeId} {α β : Type} {sz : Nat} {av : α -> Nat -> AV} {av' : β -> Nat -> AV} {ok : α -> Prop} {ok' : β -> Prop} (O : zwj enc P W t α sz av ok) (f : α -> β) (h1 : ∀ y j, j < sz -> av y j = av' (f y) j) (h2 : ∀ y, ok y -> ok' (f y)) : zwj enc P W t β sz av' ok' := by
 refine ⟨O.size, fun fuel cs x h => ?_⟩
 obtain ⟨y, y1, y2, y3⟩ := O.go fuel cs x h
 refine ⟨f y, h2 y y1, y2, fun j hj => ?_⟩
 obtain ⟨v, v1, v2, v3⟩ := y3 j hj
 exact ⟨v, v1, v2, by rw [<- h1 y j hj]; exact v3⟩
theorem open_one {t : TypeId} {α : Type} {av : α -> Nat -> AV} {ok : α -> Prop} {v : Value} {d : DataW H} {p : List MemPlace} (O : zwj enc P W t α 1 av ok) (hv : v.cells = #[v]) (h : DataW.Trod enc P W 0 (fun _ => true) true t v d p) :
   ∃ y, ok y /\ R W.heap (DW W) zan (av y 0) v := by
 obtain ⟨fuel, h⟩ := h
 obtain ⟨y, y1, y2, y3⟩ := O.go _ _ _ h
 obtain ⟨u, u1, u2, u3⟩ := y3 0 (by omega)
 rw [hv] at u1
 simp at u1
 subst u1
 exact ⟨y, y1, u3⟩
end
end Sy
end Go.Proofs.Ytlphgephdhadhaa
namespace Go.Proofs.Ytlphgephdhadhaa
namespace Sy
open Go Go.RowKit
set_option maxRecDepth 100000
set_option linter.unusedSimpArgs false
set_option linter.unusedVariables false
theorem zs0 : zbf Try.prog 5 [] (.bool true) := by
 refine za6 (T := tt) (S := fun L => zbz [] [ybo L, zn4 L, zsk L, zsr L, zo7 L, ztt, znn]) (lo := noA) (lb := noA) 12 (fn := Try.f5) rfl rfl (by kernel_rfl) (by kernel_rfl) rfl zaj (zak trivial ⟨zy0, zqd, zsl, zss, zrv, ztu, zre, trivial⟩) (by kernel_rfl) ?_
 intro L P' Q' hL hP hQ
 (cbv; try simp only [syT, true_and, and_true])
 subst hL
 subst hQ
 have e0 : ine 0 0 = false := by decide
 have e1 : ieq 0 0 = true := by decide
 have s0 : zbn 0 := ⟨by decide, by decide⟩
 have s1 : zbn (inc 0) := ⟨by decide, by decide⟩
 have s2 : zbn (inc (inc 0)) := ⟨by decide, by decide⟩
 have s3 : zbn (inc (inc (inc 0))) := ⟨by decide, by decide⟩
 have w1 : yg6 [120] (.a 0) := ⟨s0, by decide⟩
 have w2 : yg6 [121] (.c (inc (inc (inc 0))) [120] [120]) := ⟨s3, by decide, by decide⟩
 have sh : zbj [120] := by unfold zbj; decide
 have q1 : seq [120] [120] = true := by decide
 have q2 : ieq (za7 1) 1 = true := by decide
 simp [std, e0, e1, s1, s2, w1, w2, sh, q1, q2, zc5]
theorem zs5 : zbf Try.prog 37 [] (.bool true) := by
 refine za6 (T := tt) (S := fun L => zc7 [tru 52]) (lo := noA) (lb := noA) 5 (fn := Try.f37) rfl rfl (by kernel_rfl) (by kernel_rfl) rfl zaj (zac ⟨zd7 zs1, trivial⟩) (by kernel_rfl) ?_
 (intro L P1 Q1 hL hP hQ; cbv; subst hL; simp only [L2, L3, std, syT]; subst hQ)
 (simp only [syS, reduceCtorEq, Int.reduceToNat, Int.reduceAdd, Int.reduceSub])
theorem zs4 : zbf Try.prog 38 [] (.bool true) := by
 refine za6 (T := tt) (S := fun L => zc7 [tru 5]) (lo := noA) (lb := noA) 5 (fn := Try.f38) rfl rfl (by kernel_rfl) (by kernel_rfl) rfl zaj (zac ⟨zd7 zs0, trivial⟩) (by kernel_rfl) ?_
 (intro L P1 Q1 hL hP hQ; cbv; subst hL; simp only [L2, L3, std, syT]; subst hQ)
 (simp only [syS, reduceCtorEq, Int.reduceToNat, Int.reduceAdd, Int.reduceSub])
theorem zrz : zbf Try.prog 19 [] (.bool true) := by
 refine za6 (T := tt) (S := fun L => zc7 [zlg L, zp4 L, ycg, tru 36, tru 37, tru 38]) (lo := noA) (lb := noA) 5 (fn := Try.f19) rfl rfl (by kernel_rfl) (by kernel_rfl) rfl zaj (zac ⟨zho, zls, zyz, zd7 zjv, zd7 zs5, zd7 zs4, trivial⟩) (by kernel_rfl) ?_
 (intro L P1 Q1 hL hP hQ; cbv; subst hL; simp only [L2, L3, std, syT]; subst hQ)
 have e1 : opV (slT [97]) = [97] := zu6 [97] (by decide)
 have e2 : opE (slT [97]) = 0 := zzq [97] (by decide)
 have h1 : upto 100000 [97] := by show [97].length <= 100000; decide
 have hk := zcr (zbp [97] (by decide))
 have h2 : upto 100000 (slT [97]) := by
   have := zn8 [97]
   show (slT [97]).length <= 100000
   have e : [(97 : UInt8)].length = 1 := rfl
   omega
 rw [e1, e2]
 have q1 : ieq 0 0 = true := by decide
 have q2 : seq [97] [97] = true := by decide
 have q3 : ieq 4 4 = true := by decide
 simp [h1, h2, q1, q2, q3, zc5]
theorem law_FileSeals (t : List UInt8) (ht : t.length <= maxLen) (s : List UInt8) (hs : s.length <= maxLen) : zbf Try.prog 4 [.str t, .str s] (.bool true) := by
 refine za6 (T := tt) (S := fun L => zc7 [tru 19, zlg L, zp4 L, yb9 L, zk9 L]) (lo := noA) (lb := noA) 5 (fn := Try.f4) rfl rfl (by kernel_rfl) (by kernel_rfl) rfl zaj (zac ⟨zd7 zrz, zho, zls, zxk, zj7, trivial⟩) (by kernel_rfl) ?_
 (intro L P1 Q1 hL hP hQ; cbv; subst hL; simp only [L2, L3, std, syT]; subst hQ)
 refine ⟨trivial, fun h => (by cases h), fun _ => ⟨fun _ => (by rw [zc5]), fun hl => ?_⟩⟩
 rw [zrm, zv2, slen, slen] at hl
 have h1 : upto 100000 t := by show t.length <= 100000; omega
 have h3 : upto 100000 s := by show s.length <= 100000; omega
 have h1' : t.length <= 100000 := h1
 have hk := zcr (zbp t (by omega))
 have h2 : upto 100000 (slT t) := by
   have := zn8 t
   show (slT t).length <= 100000
   omega
 have e1 : opV (slT t) = t := zu6 t (by omega)
 have e2 : opE (slT t) = 0 := zzq t (by omega)
 have q1 : ieq 0 0 = true := by decide
 have q0 : ∀ x : List UInt8, seq x x = true := fun x => by simp [seq]
 rw [e1, e2]
 refine ⟨h1, h2, h3, h3, h1, ?_⟩
 simp only [q0, q1]
 have hb : opE s = if opB s = true then 0 else 23 := rfl
 cases ho : opB s with
 | true =>
   rw [ho, if_pos rfl] at hb
   rw [hb]
   simp [q1, ygd, zc5]
 | false =>
   rw [ho, if_neg (by decide)] at hb
   rw [hb]
   have q2 : ieq 23 0 = false := by decide
   have q3 : ieq 23 23 = true := by decide
   simp [q2, q3, ygd, zc5]
end Sy
end Go.Proofs.Ytlphgephdhadhaa
