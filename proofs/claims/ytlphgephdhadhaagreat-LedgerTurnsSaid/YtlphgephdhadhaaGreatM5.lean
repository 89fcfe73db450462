/-Chapter 6 (digest): Sum, Text, Print. Chapter 6 (digest): the document's sum. Chapter 6 (digest): the document's Print, the example; and what stands between these and the texts behind.-/
import Derived.Test.YtlphgephdhadhaaGreatM4
import Derived.Tactics
import Derived.Tactics2
import Derived.StillTactics
import Derived.Laws.Cells
import Derived.Laws.Pointers
import Derived.Laws.Sem
import Derived.Laws.Small
import Derived.LoopTactic
import Derived.LoopN
import Derived.Laws.IdiomRangeMap
import Derived.Maps.RangeRun
import Derived.Shelf.SlIter.Nil
import Derived.Shelf.SortM.Plain
import Derived.Shelf.SortM.SortNone
import Derived.Shelf.SlMaps.Clone
import Derived.Ground.GgzProg
import Derived.Ground.SlgmProg
import Derived.Ground.SlmcProg
import Derived.Test.YtlphgephdhadhaaGreatProg
import Derived.Test.YtlphgephdhadhaaGreatShelf
namespace Go.Proofs.YtlphgephdhadhaaGreat
namespace Sy
open Go Go.RowKit
set_option maxRecDepth 100000
set_option linter.unusedSimpArgs false
set_option linter.unusedVariables false
def yub (p : List UInt8) (n : Nat) : List UInt8 := (p.drop (64 * n)).take 64
def zqk (p : List UInt8) : Nat -> List Int
 | 0 => zo5
 | n + 1 => yv0 (zqk p n) (yub p n)
def ygj (m : List Int) : Nat -> List UInt8
 | 0 => []
 | n + 1 => ygj m n ++ ycb (IntKind.u64.wrap (za9 m n)) 4
def yrk (p : List UInt8) : List UInt8 := ygj (zqk p (p.length / 64)) 8
def zjn (p : List UInt8) (n : Nat) : List UInt8 := p.drop (64 * n)
def yg0 (p : List UInt8) (n : Nat) : Prop := 64 * (n + 1) <= p.length
theorem zp5 (m : List Int) : ∀ n, (ygj m n).length = 4 * n
 | 0 => rfl
 | n + 1 => by rw [ygj, List.length_append, zp5 m n, zly _ _ (by decide) (by decide)]; show 4 * n + 4 = _; omega
theorem zvd (p : List UInt8) : (yrk p).length = 32 := zp5 _ 8
theorem zl5 (s : List UInt8) : (yco s).length % 64 = 0 /\ 64 <= (yco s).length /\ (yco s).length = s.length + 9 + yuy s := by
 have : (yco s).length = s.length + 9 + yuy s := by
   rw [yco, List.length_append, List.length_append, List.length_append, List.length_replicate, zly _ _ (by decide) (by decide)]
   show s.length + 1 + yuy s + 8 = _
   omega
 rw [this]
 unfold yuy
 omega
def zy2 (x : AV) : List UInt8 := yrk (yco (zpv x))
def smB (L : zac) (p : List UInt8) : Nat -> St -> Option Ann := fun id st => match id with
 | 0 => some ⟨Nat, fun n => [(3, .str (L2 L zjn p n)), (4, .ref 4 0), (5, .ref 5 0)], fun n => [(5, .row 145 1 64 (fun i _ => .int .u32 (L2 L za9 zs2 i))), (4, .row 143 1 8 (fun i _ => .int .u32 (L2 L za9 (L2 L zqk p n) i)))], [2, 700005], [2], fun n => L2 L yg0 p n, fun n => L2 L (fun (p : List UInt8) (n : Nat) => p.length - n) p n⟩
 | _ => none
def smA (L : zac) (m : List Int) : Nat -> St -> Option Ann := fun id st => match id with
 | 0 => some ⟨Nat, fun n => [(23, .int .i64 (L za6 n)), (22, w8L L m)], fun n => [(6, .row 127 1 32 (fun i _ => .int .u8 (L2 L zap (L2 L ygj m n) i)))], [2, 6], [2], fun n => L (fun n : Nat => n <= 8) n, fun n => L (fun n : Nat => 8 - n) n⟩
 | _ => none
def yh3 (L : zac) : zcr := (81, fun xs => match xs with | [x] => some (L zhi x, .arr 32 (fun j => .int .u8 (L2 L zap (L zy2 x) j))) | _ => none)
theorem zli {p : List UInt8} {k : Nat} (h : yg0 p k) : inC 64 (slen (zjn p k)) = true := by
 have h : 64 * (k + 1) <= p.length := h
 rw [inC, slen, zjn, List.length_drop, Bool.and_eq_true, decide_eq_true_eq, decide_eq_true_eq]
 omega
theorem yfy {p : List UInt8} {k : Nat} (h : yg0 p k) : ((zjn p k).take (64 : Int).toNat).length = 64 := by
 have h : 64 * (k + 1) <= p.length := h
 rw [zjn, List.length_take, List.length_drop]
 show min 64 _ = _
 omega
theorem zlj {p : List UInt8} {k k' : Nat} (h : k' = k + 1) : (zjn p k).drop (64 : Int).toNat = zjn p k' := by
 subst h
 rw [zjn, zjn, List.drop_drop]; rfl
theorem zxt {p : List UInt8} {k k' : Nat} (hp : p.length % 64 = 0) (h : k' = k + 1) (hn : ¬ (zjn p k').length = 0) : yg0 p k' := by
 rw [zjn, List.length_drop] at hn
 show 64 * (k' + 1) <= p.length
 omega
theorem yfz {p : List UInt8} {k k' : Nat} (hk : yg0 p k) (h : k' = k + 1) (hn : (zjn p k').length = 0) : k' = p.length / 64 := by
 have hk : 64 * (k + 1) <= p.length := hk
 rw [zjn, List.length_drop] at hn
 omega
theorem zui {l : List Int} (h : l.length = 8) : [za9 l 0, za9 l 1, za9 l 2, za9 l 3, za9 l 4, za9 l 5, za9 l 6, za9 l 7] = l := by
 match l, h with
 | [a, b, c, d, e, f, g, h], _ => rfl
theorem yig (h : List Int) (s : List UInt8) : (yv0 h s).length = 8 := by
 rw [yv0, hS, hN, List.length_map, List.length_range]
theorem zgi (p : List UInt8) : ∀ k, (zqk p k).length = 8
 | 0 => rfl
 | k + 1 => yig _ _
theorem zl0 {p : List UInt8} {k k' : Nat} (h : k' = k + 1) : ywd ([za9 (zqk p k) 0, za9 (zqk p k) 1, za9 (zqk p k) 2, za9 (zqk p k) 3, za9 (zqk p k) 4, za9 (zqk p k) 5, za9 (zqk p k) 6, za9 (zqk p k) 7], (zjn p k).take (64 : Int).toNat) = zqk p k' := by
 rw [zui (zgi p k)]
 subst h
 rfl
theorem yks {l : List UInt8} (h : (!seq l []) = true) : ¬ l.length = 0 := by
 intro hl
 rw [List.eq_nil_of_length_eq_zero hl] at h
 exact absurd h (by decide)
theorem yb3 {l : List UInt8} (h : (!seq l []) = false) : l.length = 0 := by
 have : l = [] := by
   have h2 : seq l [] = true := by simpa using h
   simpa [seq] using h2
 rw [this]; rfl
theorem yl3 {q : Nat} (h : q < 8) : inC (zlm .i64 4 (za6 q)) (za6 32) = true := by
 rw [(zsb (n := q) (by omega)).1, yop]
 unfold za6
 omega
theorem ycr (x : Int) : yhy (IntKind.u64.wrap x) 4 := by
 refine ⟨zig _, ?_, by decide, by decide⟩
 rw [zqm]; omega
theorem zvz {q : Nat} {x : Int} (h : q < 8) : zqy (List.length (ycb x 4)) (Nat.sub 32 (Int.toNat (zlm .i64 4 (za6 q)))) = true := by
 rw [(zsb (n := q) (by omega)).1, Int.toNat_natCast, zly _ _ (by decide) (by decide), zqy, Bool.and_eq_true, zck, zdg]
 show 0 < 32 - 4 * q /\ 4 <= 32 - 4 * q
 omega
theorem ycq {m : List Int} {q q' : Nat} (hq : q' = q + 1) (h8 : q < 8) (i : Nat) : zi7 std (ze4 (Nat.add 0 (Int.toNat (zlm .i64 4 (za6 q)))) (List.length (ycb (IntKind.u64.wrap (za9 m q)) 4)) i)
   (.int .u8 (zt4 (ycb (IntKind.u64.wrap (za9 m q)) 4) (za6 (Nat.sub i (Nat.add 0 (Int.toNat (zlm .i64 4 (za6 q)))))))) (.int .u8 (zap (ygj m q) i)) = .int .u8 (zap (ygj m q') i) := by
 subst hq
 rw [(zsb (n := q) (by omega)).1, Int.toNat_natCast, show Nat.add 0 (4 * q) = 4 * q from Nat.zero_add _, show ygj m (q + 1) = ygj m q ++ ycb (IntKind.u64.wrap (za9 m q)) 4 from rfl]
 have hl := zp5 m q
 have hp := zly (IntKind.u64.wrap (za9 m q)) 4 (by decide) (by decide)
 generalize ygj m q = l at hl |-
 generalize ycb (IntKind.u64.wrap (za9 m q)) 4 = b at hp |-
 have hp : b.length = 4 := hp
 rw [hp, ze4]
 by_cases h1 : i < 4 * q
 · rw [show zc1 (4 * q) i = false by rw [Bool.eq_false_iff, ne_eq, zdg]; omega, zqd (by omega)]; rfl
 · rw [show zc1 (4 * q) i = true by rw [zdg]; omega, zqc (by omega), hl]
   by_cases h2 : i < 4 * q + 4
   · rw [zn0 h2]
     show AV.int .u8 (zt4 b (za6 (i - 4 * q))) = _
     rw [zt4, za6, Int.toNat_natCast]; rfl
   · rw [zqf h2]
     show AV.int .u8 (zap l i) = _
     rw [zap, zap, List.getD_eq_getElem?_getD, List.getD_eq_getElem?_getD, List.getElem?_eq_none (by omega), List.getElem?_eq_none (by omega)]
theorem ymb {n : Nat} {get : Nat -> Nat -> AV} (hp : zhi (.lst 1 n get)) : zae Tryz.prog 81 [.lst 1 n get] (.arr 32 (fun j => .int .u8 (L2 std zap (std zy2 (.lst 1 n get)) j))) := by
 obtain ⟨p, hpp⟩ : ∃ p, p = yco (zpv (.lst 1 n get)) := ⟨_, rfl⟩
 obtain ⟨m, hm⟩ : ∃ m, m = zqk p (p.length / 64) := ⟨_, rfl⟩
 have hlen : p.length % 64 = 0 /\ 64 <= p.length := by rw [hpp]; exact ⟨(zl5 _).1, (zl5 _).2.1⟩
 refine zad (T := tt) (S := fun L => zbe [zxc L, zol L, zq0 L, zx8 L, yif L, zyv L]) (lo := fun L => smA L m) (lb := fun L => smB L p) 5 (fn := Tryz.f81) rfl rfl (by kernel_rfl) (by kernel_rfl) rfl zah (zab ⟨zs3, znf, zo4, zs1, zwe, zl1, trivial⟩) (by kernel_rfl) ?_
 obtain ⟨n0, hn0⟩ : ∃ n : Nat, n = 0 := ⟨_, rfl⟩
 intro L P' Q' hL hP hQ
 obtain ⟨q0, hq0⟩ : ∃ n : Nat, n = 0 := ⟨_, rfl⟩
 (cbv; try simp only [syT, true_and, and_true])
 refine ⟨fun k hk => ?_, ?_⟩
 · obtain ⟨k', hk'⟩ : ∃ k' : Nat, k' = k + 1 := ⟨_, rfl⟩
   (cbv; try simp only [syT, true_and, and_true])
   refine ⟨?_, ⟨⟨?_, ?_⟩, ?_, fun h1 => ⟨k', ?_⟩, fun h1 => ⟨⟨q0, ?_⟩, fun q hq => ?_⟩⟩⟩
   · subst hL; exact zli hk
   · subst hL; exact ⟨rfl, fun j hj => rfl⟩
   · subst hL; exact yfy hk
   · subst hL; exact zli hk
   · (cbv; try simp only [syT, true_and, and_true])
     subst hL; subst hQ
     simp only [L2, std] at h1 |-
     rw [zlj hk'] at h1 |-
     rw [zl0 hk', zui (zgi _ _)]
     refine ⟨fun _ _ _ _ => trivial, fun _ _ _ _ => rfl, fun _ _ _ _ => trivial, rfl, zxt hlen.1 hk' (yks h1), ?_⟩
     have hk : 64 * (k + 1) <= p.length := hk
     show p.length - k' + 1 <= p.length - k
     omega
   · (cbv; try simp only [syT, true_and, and_true])
     subst hL; subst hQ
     simp only [L2, std] at h1 |-
     rw [zlj hk'] at h1
     rw [zl0 hk', zui (zgi _ _)]
     have hm : m = zqk p k' := by rw [hm, <- yfz hk hk' (yb3 h1)]
     rw [<- hm]
     subst hq0
     refine ⟨fun _ _ _ _ => trivial, fun i j hi hj => ?_, rfl, rfl, rfl, rfl, rfl, rfl, rfl, rfl, rfl, by decide⟩
     have : j = 0 := by omega
     subst this; rfl
   · obtain ⟨q', hq'⟩ : ∃ q' : Nat, q' = q + 1 := ⟨_, rfl⟩
     have hm8 : m.length = 8 := by rw [hm]; exact zgi _ _
     (cbv; try simp only [syT, true_and, and_true])
     refine ⟨fun h2 => ⟨?_, ?_, ?_, ?_, q', ?_⟩, fun h2 => ?_⟩
     · subst hL; exact zed (zam h2)
     · subst hL; exact yl3 (zam h2)
     · subst hL; exact ycr _
     · subst hL; exact zvz (zam h2)
     · (cbv; try simp only [syT, true_and, and_true])
       subst hL; subst hQ
       have h8 : q < 8 := zam h2
       have ek : (za6 q).toNat = q := Int.toNat_natCast q
       simp only [L2, L3, std, ek]
       rw [zui hm8]
       refine ⟨fun _ _ _ _ => trivial, fun i j hi hj => ycq hq' h8 i, ?_, ?_, ?_⟩
       · exact zk5 hq' (by omega)
       · show q' <= 8
         omega
       · show 8 - q' + 1 <= 8 - q
         omega
     · subst hL; subst hQ
       have hq8 : q = 8 := by
         have : ¬ q < 8 := ze8 h2
         have : q <= 8 := hq
         omega
       subst hq8
       rw [zpz]
       intro j hj
       simp only [L2, std, zy2, yrk]
       rw [<- hpp, <- hm]
 · (cbv; try simp only [syT, true_and, and_true])
   refine ⟨?_, ?_, n0, ?_⟩
   · subst hL; exact hp
   · subst hL; exact hp.2.2
   · (cbv; try simp only [syT, true_and, and_true])
     subst hL; subst hQ
     refine ⟨fun _ _ _ _ => trivial, fun i j hi hj => ?_, fun _ _ _ _ => trivial, ?_, ?_⟩
     · subst hn0; rfl
     · subst hn0; exact hpp.symm
     · subst hn0
       show 64 * (0 + 1) <= p.length
       omega
theorem yma (hp : zhi .nils) : zae Tryz.prog 81 [.nils] (.arr 32 (fun j => .int .u8 (L2 std zap (std zy2 .nils) j))) := by
 obtain ⟨p, hpp⟩ : ∃ p, p = yco (zpv .nils) := ⟨_, rfl⟩
 obtain ⟨m, hm⟩ : ∃ m, m = zqk p (p.length / 64) := ⟨_, rfl⟩
 have hlen : p.length % 64 = 0 /\ 64 <= p.length := by rw [hpp]; exact ⟨(zl5 _).1, (zl5 _).2.1⟩
 refine zad (T := tt) (S := fun L => zbe [zxc L, zol L, zq0 L, zx8 L, yif L, zyv L]) (lo := fun L => smA L m) (lb := fun L => smB L p) 5 (fn := Tryz.f81) rfl rfl (by kernel_rfl) (by kernel_rfl) rfl zah (zab ⟨zs3, znf, zo4, zs1, zwe, zl1, trivial⟩) (by kernel_rfl) ?_
 obtain ⟨n0, hn0⟩ : ∃ n : Nat, n = 0 := ⟨_, rfl⟩
 intro L P' Q' hL hP hQ
 obtain ⟨q0, hq0⟩ : ∃ n : Nat, n = 0 := ⟨_, rfl⟩
 (cbv; try simp only [syT, true_and, and_true])
 refine ⟨fun k hk => ?_, ?_⟩
 · obtain ⟨k', hk'⟩ : ∃ k' : Nat, k' = k + 1 := ⟨_, rfl⟩
   (cbv; try simp only [syT, true_and, and_true])
   refine ⟨?_, ⟨⟨?_, ?_⟩, ?_, fun h1 => ⟨k', ?_⟩, fun h1 => ⟨⟨q0, ?_⟩, fun q hq => ?_⟩⟩⟩
   · subst hL; exact zli hk
   · subst hL; exact ⟨rfl, fun j hj => rfl⟩
   · subst hL; exact yfy hk
   · subst hL; exact zli hk
   · (cbv; try simp only [syT, true_and, and_true])
     subst hL; subst hQ
     simp only [L2, std] at h1 |-
     rw [zlj hk'] at h1 |-
     rw [zl0 hk', zui (zgi _ _)]
     refine ⟨fun _ _ _ _ => trivial, fun _ _ _ _ => rfl, fun _ _ _ _ => trivial, rfl, zxt hlen.1 hk' (yks h1), ?_⟩
     have hk : 64 * (k + 1) <= p.length := hk
     show p.length - k' + 1 <= p.length - k
     omega
   · (cbv; try simp only [syT, true_and, and_true])
     subst hL; subst hQ
     simp only [L2, std] at h1 |-
     rw [zlj hk'] at h1
     rw [zl0 hk', zui (zgi _ _)]
     have hm : m = zqk p k' := by rw [hm, <- yfz hk hk' (yb3 h1)]
     rw [<- hm]
     subst hq0
     refine ⟨fun _ _ _ _ => trivial, fun i j hi hj => ?_, rfl, rfl, rfl, rfl, rfl, rfl, rfl, rfl, rfl, by decide⟩
     have : j = 0 := by omega
     subst this; rfl
   · obtain ⟨q', hq'⟩ : ∃ q' : Nat, q' = q + 1 := ⟨_, rfl⟩
     have hm8 : m.length = 8 := by rw [hm]; exact zgi _ _
     (cbv; try simp only [syT, true_and, and_true])
     refine ⟨fun h2 => ⟨?_, ?_, ?_, ?_, q', ?_⟩, fun h2 => ?_⟩
     · subst hL; exact zed (zam h2)
     · subst hL; exact yl3 (zam h2)
     · subst hL; exact ycr _
     · subst hL; exact zvz (zam h2)
     · (cbv; try simp only [syT, true_and, and_true])
       subst hL; subst hQ
       have h8 : q < 8 := zam h2
       have ek : (za6 q).toNat = q := Int.toNat_natCast q
       simp only [L2, L3, std, ek]
       rw [zui hm8]
       refine ⟨fun _ _ _ _ => trivial, fun i j hi hj => ycq hq' h8 i, ?_, ?_, ?_⟩
       · exact zk5 hq' (by omega)
       · show q' <= 8
         omega
       · show 8 - q' + 1 <= 8 - q
         omega
     · subst hL; subst hQ
       have hq8 : q = 8 := by
         have : ¬ q < 8 := ze8 h2
         have : q <= 8 := hq
         omega
       subst hq8
       rw [zpz]
       intro j hj
       simp only [L2, std, zy2, yrk]
       rw [<- hpp, <- hm]
 · (cbv; try simp only [syT, true_and, and_true])
   refine ⟨?_, ?_, n0, ?_⟩
   · subst hL; exact hp
   · subst hL; exact Nat.zero_le _
   · (cbv; try simp only [syT, true_and, and_true])
     subst hL; subst hQ
     refine ⟨fun _ _ _ _ => trivial, fun i j hi hj => ?_, fun _ _ _ _ => trivial, ?_, ?_⟩
     · subst hn0; rfl
     · subst hn0; exact hpp.symm
     · subst hn0
       show 64 * (0 + 1) <= p.length
       omega
theorem znz {x : AV} (hp : zhi x) : x = .nils \/ ∃ n get, x = .lst 1 n get := by
 unfold zhi at hp
 split at hp
 · exact .inr ⟨_, _, rfl⟩
 · exact .inl rfl
 · exact hp.elim
theorem zvc : zcu Tryz.prog (yh3 std) := by
 intro xs p r h hp
 dsimp only [yh3] at h |-
 split at h <;> cases h
 try simp only [L2, L3, std] at hp |-
 rename_i x
 rcases znz hp with rfl | ⟨n, get, rfl⟩
 · exact yma hp
 · exact ymb hp
def zv9 (L : zac) : zcr := (73, fun xs => match xs with | [x] => some (L zhi x, .str (L zy2 x)) | _ => none)
theorem zve (x : AV) : (zy2 x).length = 32 := zvd _
theorem zv8 (x : AV) : bytesOf 32 (fun i => (AV.int .u8 (zap (zy2 x) (0 + i))).toI) = zy2 x := by
 have := zga (zy2 x)
 rw [zve] at this
 simp only [Nat.zero_add]
 exact this
theorem zqq : zcu Tryz.prog (zv9 std) := by
 intro xs p r h hp
 dsimp only [zv9] at h |-
 split at h <;> cases h
 try simp only [L2, L3, std] at hp |-
 rename_i x
 have hp : zhi x := hp
 rcases znz hp with rfl | ⟨n, get, rfl⟩
 · refine zad (T := tt) (S := fun L => zbe [yh3 L]) (lo := noA) (lb := noA) 5 (fn := Tryz.f73) rfl rfl (by kernel_rfl) (by kernel_rfl) rfl zah (zab ⟨zvc, trivial⟩) (by kernel_rfl) ?_
   (intro L P1 Q1 hL hP hQ; cbv; subst hL; simp only [L2, L3, std, syT]; subst hQ)
   refine ⟨hp, trivial, ⟨show 0 + 32 <= 32 by decide, fun i _ => ⟨_, rfl⟩⟩, ?_⟩
   rw [zv8, zgs]
 · refine zad (T := tt) (S := fun L => zbe [yh3 L]) (lo := noA) (lb := noA) 5 (fn := Tryz.f73) rfl rfl (by kernel_rfl) (by kernel_rfl) rfl zah (zab ⟨zvc, trivial⟩) (by kernel_rfl) ?_
   (intro L P1 Q1 hL hP hQ; cbv; subst hL; simp only [L2, L3, std, syT]; subst hQ)
   refine ⟨hp, trivial, ⟨show 0 + 32 <= 32 by decide, fun i _ => ⟨_, rfl⟩⟩, ?_⟩
   rw [zv8, zgs]
def zyw (s : List UInt8) : List UInt8 := yrk (yco s)
theorem yh4 (s : List UInt8) : zy2 (.lst 1 1 fun i _ => .str (ysq [s] (Nat.add 0 i))) = zyw s := by
 have e : zpv (.lst 1 1 fun i _ => .str (ysq [s] (Nat.add 0 i))) = s := by
   show s ++ [] = s
   exact List.append_nil s
 rw [zy2, e, zyw]
theorem yjf (s : List UInt8) (h : s.length <= 1000000) : zhi (.lst 1 1 fun i _ => .str (ysq [s] (Nat.add 0 i))) := by
 refine ⟨fun i _ => ⟨_, rfl⟩, by decide, ?_⟩
 show (s ++ []).length <= 1000000
 rw [List.append_nil]; exact h
theorem zl2 (s : List UInt8) : (zyw s).length = 32 := zvd _
abbrev B32 (a : Int) : BitVec IntKind.u32.bits := BitVec.ofInt IntKind.u32.bits a
def n32 (b : BitVec IntKind.u32.bits) : Int := b.toNat
theorem yvc (b : BitVec IntKind.u32.bits) : IntKind.u32.wrap b.toNat = n32 b := by
 rw [yrc, n32]
 have : b.toNat < 2 ^ 32 := b.isLt
 omega
theorem ysh (a b : Int) : bor .u32 a b = n32 (B32 a ||| B32 b) := yvc _
theorem or_comm (a b : Int) : bor .u32 a b = bor .u32 b a := by
 rw [ysh, ysh, BitVec.or_comm]
def hB (p : List UInt8) (a : Int) (n : Nat) : List Int := hS (yub p (a.toNat / 64)) (zqk p (a.toNat / 64)) n
theorem yun : (zyw [97, 98, 99]).take 4 = [186, 120, 22, 191] := by decide +kernel
theorem zzz : zae Tryz.prog 74 [] (.bool true) := by
 refine zad (T := tt) (S := fun L => zbe [tru 56, zv9 L, ync L]) (lo := noA) (lb := noA) 5 (fn := Tryz.f74) rfl rfl (by kernel_rfl) (by kernel_rfl) rfl zah (zab ⟨zcx zkg, zqq, yi0, trivial⟩) (by kernel_rfl) ?_
 (intro L P1 Q1 hL hP hQ; cbv; subst hL; simp only [L2, L3, std, syT]; subst hQ)
 have e : zy2 (.lst 1 2 fun i _ => .str (ysq [[97], [98, 99]] (Nat.add 0 i))) = zyw [97, 98, 99] := rfl
 have hb : ygi (zyw [97, 98, 99]) [186, 120, 22, 191] = true := by
   show (List.take 4 (zyw [97, 98, 99]) == [186, 120, 22, 191]) = true
   rw [yun]; rfl
 rw [e, hb]
 refine ⟨trivial, fun _ => ⟨⟨?_, by decide, by decide⟩, ⟨?_, by decide⟩, fun _ => ⟨trivial, ?_⟩, fun h => by cases h⟩, fun h => by cases h⟩
 · intro i hi
   exact ⟨_, rfl⟩
 · rw [zl2]; decide
 · rw [zcb, slen, zve]; rfl
theorem zni : ∀ (k n : Nat), n < 128 ^ (k + 1) -> (zdq n).length <= k + 1
 | 0, n, h => by rw [zbm (by omega)]; simp
 | k + 1, n, h => by
   by_cases h1 : n < 128
   · rw [zbm h1]; simp
   · rw [ze2 (by omega), List.length_cons]
     have := zni k (n / 128) (by rw [Nat.div_lt_iff_lt_mul (by omega)]; rw [Nat.pow_succ] at h; exact h)
     omega
theorem zc7 {n : Int} (h : zc8 n) : (zav n).length <= 10 := zni 9 n.toNat (by
 have := h.2
 have := h.1
 rw [show (128 : Nat) ^ (9 + 1) = 1180591620717411303424 from by decide]
 omega)
theorem zhr (a : Int) : bytesOf 1 (fun i => (AV.int .u8 (za9 [a] (0 + i))).toI) = [UInt8.ofNat a.toNat] := rfl
def yvm (n x : Int) (p : List UInt8) : Prop := zc8 x /\ p ++ zav x = zav n
def rshA (L : zac) (n : Int) : Nat -> St -> Option Ann := fun id s => match id with
 | 0 => some ⟨Int × List UInt8, fun x => [(0, .int .u64 x.1), (3, .str x.2)], fun i => [], [], [],
     fun x => L3 L yvm n x.1 x.2, fun x => L Int.toNat x.1⟩
 | _ => none
def zov (L : zac) : zcr := (55, fun xs => match xs with | [.int .u64 n] => some (L zc8 n, .str (L zav n)) | _ => none)
theorem zy3 {x : Int} (h : zc8 x) (hx : 127 < x) : zav x = UInt8.ofNat (x % 128 + 128).toNat :: zav (x / 128) := by
 have := h.1
 unfold zav
 rw [ze2 (by omega)]
 congr 1
 · congr 1; omega
 · congr 1; omega
theorem zkh {x : Int} (h : zc8 x) (hx : x <= 127) : zav x = [UInt8.ofNat x.toNat] := by
 have := h.1
 unfold zav
 exact zbm (by omega)
theorem ztg : zcu Tryz.prog (zov std) := by
 intro xs p r h hp
 unfold zov at h
 simp only at h
 split at h
 rotate_left
 · cases h
 rename_i n
 cases h
 have hn : zc8 n := hp
 have hl := zc7 hn
 refine zad (T := tt) (S := noS) (lo := fun L => rshA L n) (lb := noA) 5 (fn := Tryz.f55) rfl rfl (by kernel_rfl) (by kernel_rfl) rfl zah (zd0 _) (by kernel_rfl) ?_
 intro L P' Q' hL hP hQ
 (cbv; try simp only [syT, true_and, and_true])
 refine ⟨⟨(n, []), ?_⟩, fun x hx => ?_⟩
 · (cbv; try simp only [syT, true_and, and_true])
   (subst hL; subst hQ; simp only [L2, L3, std] at *; try simp only [syS, reduceCtorEq, Int.reduceToNat, Int.reduceAdd, Int.reduceSub] at *)
   exact ⟨hn, rfl⟩
 · cbv at hx
   obtain ⟨x, pre⟩ := x
   (cbv; try simp only [syT, true_and, and_true])
   obtain ⟨x', hx'⟩ : ∃ x', x' = x / 128 := ⟨_, rfl⟩
   obtain ⟨p', hp'⟩ : ∃ p', p' = pre ++ [UInt8.ofNat (x % 128 + 128).toNat] := ⟨_, rfl⟩
   refine ⟨fun h => ⟨?_, ?_, ?_, ?_, ⟨(x', p'), ?_⟩⟩, fun h => ⟨?_, ?_, ?_⟩⟩
   · (subst hL; subst hQ; simp only [L2, L3, std] at *; try simp only [syS, reduceCtorEq, Int.reduceToNat, Int.reduceAdd, Int.reduceSub] at *)
     omega
   · (subst hL; subst hQ; simp only [L2, L3, std] at *; try simp only [syS, reduceCtorEq, Int.reduceToNat, Int.reduceAdd, Int.reduceSub] at *)
     exact ⟨Nat.le_refl _, fun i hi => ⟨_, rfl⟩⟩
   · (subst hL; subst hQ; simp only [L2, L3, std] at *; try simp only [syS, reduceCtorEq, Int.reduceToNat, Int.reduceAdd, Int.reduceSub] at *)
     rw [zhr]
     have := congrArg List.length hx.2
     rw [List.length_append] at this
     simp; omega
   · (subst hL; subst hQ; simp only [L2, L3, std] at *; try simp only [syS, reduceCtorEq, Int.reduceToNat, Int.reduceAdd, Int.reduceSub] at *)
     omega
   · (cbv; try simp only [syT, true_and, and_true])
     (subst hL; subst hQ; simp only [L2, L3, std] at *; try simp only [syS, reduceCtorEq, Int.reduceToNat, Int.reduceAdd, Int.reduceSub] at *)
     rw [zhr]
     have h0 := hx.1.1
     have h1 := hx.1.2
     have e1 : x.tmod 128 = x % 128 := Int.tmod_eq_emod_of_nonneg h0
     have e2 : x.tdiv 128 = x / 128 := Int.tdiv_eq_ediv_of_nonneg h0
     have e3 := hx.2
     rw [zy3 hx.1 h] at e3
     refine ⟨?_, ?_, ⟨⟨by omega, by omega⟩, ?_⟩, by omega⟩
     · have e4 : (x % 128 + 128) % 18446744073709551616 % 256 = x % 128 + 128 := by omega
       rw [hp', e1, e4]
     · rw [yr6, zqm, e2, hx']
       exact Int.emod_eq_of_lt (by omega) (by omega)
     · rw [hp', hx', List.append_assoc]; exact e3
   · (subst hL; subst hQ; simp only [L2, L3, std] at *; try simp only [syS, reduceCtorEq, Int.reduceToNat, Int.reduceAdd, Int.reduceSub] at *)
     exact ⟨Nat.le_refl _, fun i hi => ⟨_, rfl⟩⟩
   · (subst hL; subst hQ; simp only [L2, L3, std] at *; try simp only [syS, reduceCtorEq, Int.reduceToNat, Int.reduceAdd, Int.reduceSub] at *)
     rw [zhr]
     have := congrArg List.length hx.2
     rw [List.length_append] at this
     have := (zkh hx.1 h)
     simp; omega
   · (subst hL; subst hQ; simp only [L2, L3, std] at *; try simp only [syS, reduceCtorEq, Int.reduceToNat, Int.reduceAdd, Int.reduceSub] at *)
     rw [zhr, <- hx.2, zkh hx.1 h]
     have h0 := hx.1.1
     congr 3; omega
def cb (s : List UInt8) (i : Nat) : Nat := (s.getD i 0).toNat
theorem zzs (s : List UInt8) (i : Nat) : cb s i < 256 := UInt8.toNat_lt _
def lng (s : List UInt8) : Nat -> Nat -> Nat -> Nat × Nat × Nat
 | 0, _, _ => (0, 0, 4)
 | f + 1, i, n =>
   if s.length <= i then (0, 0, 3)
   else if i = 9 /\ 1 < cb s i then (0, 0, 4)
   else if 128 <= cb s i then lng s f (i + 1) (n + cb s i % 128 * 2 ^ (7 * i))
   else if 0 < cb s i \/ i = 0 then (n + cb s i % 128 * 2 ^ (7 * i), i + 1, 0)
   else (0, 0, 4)
def zbz (s : List UInt8) : Int := (lng s 10 0 0).1
def ziu (s : List UInt8) : Int := (lng s 10 0 0).2.1
def zh1 (s : List UInt8) : Int := (lng s 10 0 0).2.2
def zjc (s : List UInt8) (x : Nat × Nat) : Prop := x.1 <= s.length /\ x.1 <= 9 /\ x.2 < 2 ^ (7 * x.1) /\ lng s (10 - x.1) x.1 x.2 = lng s 10 0 0
theorem yq7 {n m i : Nat} (hn : n < 2 ^ i) (hm : m * 2 ^ i < 2 ^ 64) (hn' : n < 2 ^ 64) : bor .u64 (n : Int) ((m * 2 ^ i : Nat) : Int) = ((n + m * 2 ^ i : Nat) : Int) := by
 have e : n ||| m * 2 ^ i = n + m * 2 ^ i := by
   have := Nat.shiftLeft_add_eq_or_of_lt hn m
   rw [Nat.shiftLeft_eq] at this
   rw [Nat.or_comm, <- this, Nat.add_comm]
 have hlt : n ||| m * 2 ^ i < 2 ^ 64 := Nat.or_lt_two_pow hn' hm
 unfold bor
 rw [show IntKind.u64.bits = 64 from rfl, BitVec.ofInt_natCast, BitVec.ofInt_natCast, BitVec.toNat_or, BitVec.toNat_ofNat, BitVec.toNat_ofNat, Nat.mod_eq_of_lt hn', Nat.mod_eq_of_lt hm, zqm, <- e]
 omega
theorem yrq {c i : Nat} (h : c * 2 ^ (7 * i) < 2 ^ 64) (hi : i <= 9) : ygd .u64 (c : Int) (7 * (i : Int)) = ((c * 2 ^ (7 * i) : Nat) : Int) := by
 unfold ygd
 rw [show (7 * (i : Int)).toNat = 7 * i by omega, show IntKind.u64.bits = 64 from rfl, Nat.min_eq_left (by omega), zqm]
 have e : ((c : Int) * 2 ^ (7 * i)) = ((c * 2 ^ (7 * i) : Nat) : Int) := by simp
 rw [e]
 omega
theorem pow9 {i : Nat} (hi : i <= 9) : 2 ^ (7 * i) <= 2 ^ 63 := Nat.pow_le_pow_right (by decide) (by omega)
theorem zpj {c i n : Nat} (hi : i <= 9) (hn : n < 2 ^ (7 * i)) (hc : c < 256) (h9 : ¬ (i = 9 /\ 1 < c)) : n + c % 128 * 2 ^ (7 * i) < 2 ^ (7 * (i + 1)) /\ n + c % 128 * 2 ^ (7 * i) < 2 ^ 64 /\ c % 128 * 2 ^ (7 * i) < 2 ^ 64 /\ n < 2 ^ 64 := by
 have h1 := pow9 hi
 have e : 2 ^ (7 * (i + 1)) = 128 * 2 ^ (7 * i) := by rw [show 7 * (i + 1) = 7 + 7 * i by omega, Nat.pow_add]
 have h2 : c % 128 * 2 ^ (7 * i) <= 127 * 2 ^ (7 * i) := Nat.mul_le_mul_right _ (by omega)
 rw [e]
 refine ⟨by omega, ?_⟩
 by_cases h : i = 9
 · subst h
   have : c <= 1 := by omega
   have h3 : c % 128 * 2 ^ (7 * 9) <= 1 * 2 ^ (7 * 9) := Nat.mul_le_mul_right _ (by omega)
   omega
 · have h3 : 2 ^ (7 * i) <= 2 ^ 56 := Nat.pow_le_pow_right (by decide) (by omega)
   omega
theorem yt0 {c i n : Nat} (hi : i <= 9) (hn : n < 2 ^ (7 * i)) (hc : c < 256) (h9 : ¬ (i = 9 /\ 1 < c)) : bor .u64 (n : Int) (ygd .u64 ((c : Int) % 128) (7 * (i : Int))) = ((n + c % 128 * 2 ^ (7 * i) : Nat) : Int) := by
 obtain ⟨_, _, h3, h4⟩ := zpj hi hn hc h9
 rw [show ((c : Int) % 128) = ((c % 128 : Nat) : Int) by omega, yrq h3 hi, yq7 hn h3 h4]
theorem zjb {s : List UInt8} {i n : Nat} (hx : zjc s (i, n)) : lng s 10 0 0 = if s.length <= i then (0, 0, 3)
   else if i = 9 /\ 1 < cb s i then (0, 0, 4)
   else if 128 <= cb s i then lng s (9 - i) (i + 1) (n + cb s i % 128 * 2 ^ (7 * i))
   else if 0 < cb s i \/ i = 0 then (n + cb s i % 128 * 2 ^ (7 * i), i + 1, 0)
   else (0, 0, 4) := by
 obtain ⟨h1, h2, h3, h4⟩ := hx
 rw [<- h4]
 simp only at h2 |-
 rw [show 10 - i = (9 - i) + 1 by omega, lng]
theorem zwr {s : List UInt8} {a b c : Nat} (h : lng s 10 0 0 = (a, b, c)) : (a : Int) = zbz s /\ (b : Int) = ziu s /\ (c : Int) = zh1 s := by
 unfold zbz ziu zh1
 rw [h]
 exact ⟨rfl, rfl, rfl⟩
theorem ywh {s : List UInt8} {i n : Nat} (hx : zjc s (i, n)) (h : (i : Int) = (s.length : Int)) : 0 = zbz s /\ 0 = ziu s /\ 3 = zh1 s := by
 have := zjb hx
 rw [if_pos (by omega)] at this
 exact zwr this
theorem zkv (s : List UInt8) (i : Nat) : ((s.getD i 0).toNat : Int) % 18446744073709551616 = (cb s i : Int) := by
 have := zzs s i
 unfold cb at *
 omega
theorem ywg {s : List UInt8} {i n : Nat} (hx : zjc s (i, n)) (h : ¬ (i : Int) = (s.length : Int)) (h9 : (i : Int) = 9) (hc : 1 < ((s.getD i 0).toNat : Int) % 18446744073709551616) : 0 = zbz s /\ 0 = ziu s /\ 4 = zh1 s := by
 have := zjb hx
 have h1 := hx.1
 rw [zkv] at hc
 simp only at h1
 rw [if_neg (by omega), if_pos ⟨by omega, by omega⟩] at this
 exact zwr this
theorem ysz {s : List UInt8} {i n : Nat} (hx : zjc s (i, n)) (h9 : ¬ (i = 9 /\ 1 < cb s i)) : bor .u64 (n : Int) (ygd .u64 ((((s.getD i 0).toNat : Int) % 18446744073709551616).tmod 128) ((7 * (i : Int) + 9223372036854775808) % 18446744073709551616 - 9223372036854775808)) = ((n + cb s i % 128 * 2 ^ (7 * i) : Nat) : Int) := by
 have h1 := hx.2.1
 have h2 := hx.2.2.1
 simp only at h1 h2
 rw [zkv, Int.tmod_eq_emod_of_nonneg (by omega), show (7 * (i : Int) + 9223372036854775808) % 18446744073709551616 - 9223372036854775808 = 7 * (i : Int) by omega]
 exact yt0 h1 h2 (zzs s i) h9
theorem ywf {s : List UInt8} {i n : Nat} (hx : zjc s (i, n)) (h : ¬ (i : Int) = (s.length : Int)) (h9 : ¬ (i = 9 /\ 1 < cb s i)) (hm : 128 <= ((s.getD i 0).toNat : Int) % 18446744073709551616) : zjc s (i + 1, n + cb s i % 128 * 2 ^ (7 * i)) /\ 10 - (i + 1) + 1 <= 10 - i /\ i <= 8 := by
 have h0 := zjb hx
 have h1 := hx.2.1
 have h2 := hx.2.2.1
 have h3 := hx.1
 rw [zkv] at hm
 simp only at h1 h2 h3
 rw [if_neg (by omega), if_neg h9, if_pos (by omega)] at h0
 refine ⟨⟨?_, ?_, (zpj h1 h2 (zzs s i) h9).1, ?_⟩, by omega, by omega⟩
 · simp only; omega
 · simp only; omega
 · simp only
   rw [h0]; congr 1; omega
theorem yit {s : List UInt8} {i n : Nat} (hx : zjc s (i, n)) (h : ¬ (i : Int) = (s.length : Int)) (h9 : ¬ (i = 9 /\ 1 < cb s i)) (hm : ((s.getD i 0).toNat : Int) % 18446744073709551616 < 128) (hp : 0 < cb s i \/ i = 0) :
   bor .u64 (n : Int) (ygd .u64 ((((s.getD i 0).toNat : Int) % 18446744073709551616).tmod 128) ((7 * (i : Int) + 9223372036854775808) % 18446744073709551616 - 9223372036854775808)) = zbz s /\
     ((i : Int) + 1 + 9223372036854775808) % 18446744073709551616 - 9223372036854775808 = ziu s /\ 0 = zh1 s := by
 have h0 := zjb hx
 have h1 := hx.2.1
 have h3 := hx.1
 rw [zkv] at hm
 simp only at h1 h3
 rw [if_neg (by omega), if_neg h9, if_neg (by omega), if_pos hp] at h0
 obtain ⟨e1, e2, e3⟩ := zwr h0
 rw [ysz hx h9]
 exact ⟨e1, by rw [<- e2]; omega, e3⟩
theorem yt1 {s : List UInt8} {i n : Nat} (hx : zjc s (i, n)) (h : ¬ (i : Int) = (s.length : Int)) (h9 : ¬ (i = 9 /\ 1 < cb s i)) (hm : ((s.getD i 0).toNat : Int) % 18446744073709551616 < 128) (hp : ((s.getD i 0).toNat : Int) % 18446744073709551616 <= 0)
   (h1 : ¬ ((i : Int) + 1 + 9223372036854775808) % 18446744073709551616 - 9223372036854775808 = 1) : 0 = zbz s /\ 0 = ziu s /\ 4 = zh1 s := by
 have h0 := zjb hx
 have h2 := hx.2.1
 have h3 := hx.1
 rw [zkv] at hm hp
 simp only at h2 h3
 rw [if_neg (by omega), if_neg h9, if_neg (by omega), if_neg (by omega)] at h0
 exact zwr h0
def lngA (L : zac) (s : List UInt8) : Nat -> St -> Option Ann := fun id st => match id with
 | 0 => some ⟨Nat × Nat, fun x => [(6, .int .i64 (L za6 (L Prod.fst x))), (5, .int .u64 (L za6 (L Prod.snd x)))], fun _ => [], [0], [],
     fun x => L2 L zjc s x, fun x => L (fun x : Nat × Nat => 10 - x.1) x⟩
 | _ => none
def yis (L : zac) : zcr := (65, fun xs => match xs with | [.str s] => some (True, .tup [.int .u64 (L zbz s), .int .i64 (L ziu s), .int .i64 (L zh1 s)]) | _ => none)
theorem zws : zcu Tryz.prog (yis std) := by
 intro xs p r h hp
 dsimp only [yis] at h |-
 split at h <;> cases h
 try simp only [L2, L3, std] at hp |-
 rename_i s
 refine zad (T := tt) (S := noS) (lo := noA) (lb := fun L => lngA L s) 5 (fn := Tryz.f65) rfl rfl (by kernel_rfl) (by kernel_rfl) rfl zah (zd0 _) (by kernel_rfl) ?_
 intro L P' Q' hL hP hQ
 (cbv; try simp only [syT, true_and, and_true])
 refine ⟨fun x hx => ?_, ⟨(0, 0), ?_⟩⟩
 · cbv at hx
   obtain ⟨i, n⟩ := x
   (cbv; try simp only [syT, true_and, and_true])
   obtain ⟨m, hm'⟩ : ∃ m, m = n + cb s i % 128 * 2 ^ (7 * i) := ⟨_, rfl⟩
   refine ⟨fun h => ?_, fun h => ⟨?_, fun h9 => ⟨fun hc => ?_, fun hc => ⟨?_, ?_, fun hm => ⟨(i + 1, m), ?_⟩, fun hm => ⟨fun hp => ?_, fun hp => ⟨fun h1 => ?_, fun h1 => ?_⟩⟩⟩⟩,
     fun h9 => ⟨?_, ?_, fun hm => ⟨(i + 1, m), ?_⟩, fun hm => ⟨fun hp => ?_, fun hp => ⟨fun h1 => ?_, fun h1 => ?_⟩⟩⟩⟩⟩
   · (subst hL; subst hQ; simp only [L2, L3, std] at *; try simp only [syS, reduceCtorEq, Int.reduceToNat, Int.reduceAdd, Int.reduceSub] at *)
     exact ywh hx h
   · (subst hL; subst hQ; simp only [L2, L3, std] at *; try simp only [syS, reduceCtorEq, Int.reduceToNat, Int.reduceAdd, Int.reduceSub] at *)
     have := hx.1
     simp only at this
     omega
   · (subst hL; subst hQ; simp only [L2, L3, std] at *; try simp only [syS, reduceCtorEq, Int.reduceToNat, Int.reduceAdd, Int.reduceSub] at *)
     exact ywg hx h h9 hc
   · (subst hL; subst hQ; simp only [L2, L3, std] at *; try simp only [syS, reduceCtorEq, Int.reduceToNat, Int.reduceAdd, Int.reduceSub] at *)
     decide
   · (subst hL; subst hQ; simp only [L2, L3, std] at *; try simp only [syS, reduceCtorEq, Int.reduceToNat, Int.reduceAdd, Int.reduceSub] at *)
     have := hx.2.1
     simp only at this
     rw [Int.emod_eq_of_lt (by omega) (by omega)]
     omega
   · (cbv; try simp only [syT, true_and, and_true])
     (subst hL; subst hQ; simp only [L2, L3, std] at *; try simp only [syS, reduceCtorEq, Int.reduceToNat, Int.reduceAdd, Int.reduceSub] at *)
     rw [zkv] at hc
     exact absurd hm (by rw [zkv]; omega)
   · (subst hL; subst hQ; simp only [L2, L3, std] at *; try simp only [syS, reduceCtorEq, Int.reduceToNat, Int.reduceAdd, Int.reduceSub] at *)
     rw [zkv] at hc
     exact yit hx h (by omega) hm (by rw [zkv] at hp; omega)
   · (subst hL; subst hQ; simp only [L2, L3, std] at *; try simp only [syS, reduceCtorEq, Int.reduceToNat, Int.reduceAdd, Int.reduceSub] at *)
     rw [zkv] at hc
     have := hx.2.1
     simp only at this
     exact yit hx h (by omega) hm (by omega)
   · (subst hL; subst hQ; simp only [L2, L3, std] at *; try simp only [syS, reduceCtorEq, Int.reduceToNat, Int.reduceAdd, Int.reduceSub] at *)
     rw [zkv] at hc
     exact yt1 hx h (by omega) hm hp h1
   · (subst hL; subst hQ; simp only [L2, L3, std] at *; try simp only [syS, reduceCtorEq, Int.reduceToNat, Int.reduceAdd, Int.reduceSub] at *)
     decide
   · (subst hL; subst hQ; simp only [L2, L3, std] at *; try simp only [syS, reduceCtorEq, Int.reduceToNat, Int.reduceAdd, Int.reduceSub] at *)
     have := hx.2.1
     simp only at this
     rw [Int.emod_eq_of_lt (by omega) (by omega)]
     omega
   · (cbv; try simp only [syT, true_and, and_true])
     (subst hL; subst hQ; simp only [L2, L3, std] at *; try simp only [syS, reduceCtorEq, Int.reduceToNat, Int.reduceAdd, Int.reduceSub] at *)
     obtain ⟨q1, q2, q3⟩ := ywf hx h (by omega) hm
     rw [ysz hx (by omega), hm']
     exact ⟨rfl, by omega, q1, q2⟩
   · (subst hL; subst hQ; simp only [L2, L3, std] at *; try simp only [syS, reduceCtorEq, Int.reduceToNat, Int.reduceAdd, Int.reduceSub] at *)
     exact yit hx h (by omega) hm (by rw [zkv] at hp; omega)
   · (subst hL; subst hQ; simp only [L2, L3, std] at *; try simp only [syS, reduceCtorEq, Int.reduceToNat, Int.reduceAdd, Int.reduceSub] at *)
     have := hx.2.1
     simp only at this
     exact yit hx h (by omega) hm (by omega)
   · (subst hL; subst hQ; simp only [L2, L3, std] at *; try simp only [syS, reduceCtorEq, Int.reduceToNat, Int.reduceAdd, Int.reduceSub] at *)
     exact yt1 hx h (by omega) hm hp h1
 · (cbv; try simp only [syT, true_and, and_true])
   (subst hL; subst hQ; simp only [L2, L3, std] at *; try simp only [syS, reduceCtorEq, Int.reduceToNat, Int.reduceAdd, Int.reduceSub] at *)
   exact ⟨Nat.zero_le _, by omega, by simp, rfl⟩
theorem yu7 (p : List UInt8) (c : UInt8) (r : List UInt8) : cb (p ++ c :: r) p.length = c.toNat := by
 unfold cb
 rw [List.getD_eq_getElem?_getD, List.getElem?_append_right (Nat.le_refl _), Nat.sub_self]
 rfl
theorem zrq (r : List UInt8) : ∀ (f m n0 : Nat) (p : List UInt8), f + p.length = 10 -> m * 2 ^ (7 * p.length) < 2 ^ 64 -> (0 < m \/ p.length = 0) ->
   lng (p ++ (zdq m ++ r)) f p.length n0 = (n0 + m * 2 ^ (7 * p.length), p.length + (zdq m).length, 0)
 | 0, m, n0, p, hf, hm, h0 => by
   have : p.length = 10 := by omega
   rw [this] at hm h0
   have : 2 ^ (7 * 10) <= m * 2 ^ (7 * 10) := Nat.le_mul_of_pos_left _ (by omega)
   omega
 | f + 1, m, n0, p, hf, hm, h0 => by
   by_cases hb : 128 <= m
   · rw [ze2 hb]
     have hc : cb (p ++ (UInt8.ofNat (m % 128 + 128) :: zdq (m / 128) ++ r)) p.length = m % 128 + 128 := by
       rw [List.cons_append, yu7]
       simp; omega
     have h9 : p.length ≠ 9 := by
       intro h
       rw [h] at hm
       have : 128 * 2 ^ (7 * 9) <= m * 2 ^ (7 * 9) := Nat.mul_le_mul_right _ hb
       omega
     rw [lng, if_neg (by simp), hc, if_neg (by omega), if_pos (by omega)]
     have e : p ++ (UInt8.ofNat (m % 128 + 128) :: zdq (m / 128) ++ r) = (p ++ [UInt8.ofNat (m % 128 + 128)]) ++ (zdq (m / 128) ++ r) := by simp
     have hl : (p ++ [UInt8.ofNat (m % 128 + 128)]).length = p.length + 1 := by simp
     have hp : 2 ^ (7 * (p.length + 1)) = 128 * 2 ^ (7 * p.length) := by rw [show 7 * (p.length + 1) = 7 + 7 * p.length by omega, Nat.pow_add]
     have hd : m / 128 * (128 * 2 ^ (7 * p.length)) + m % 128 * 2 ^ (7 * p.length) = m * 2 ^ (7 * p.length) := by
       rw [<- Nat.mul_assoc, <- Nat.add_mul]
       congr 1; omega
     have ih := zrq r f (m / 128) (n0 + (m % 128 + 128) % 128 * 2 ^ (7 * p.length)) (p ++ [UInt8.ofNat (m % 128 + 128)]) (by rw [hl]; omega) (by rw [hl, hp]; omega) (.inl (by omega))
     rw [hl] at ih
     rw [e, ih, hp, List.length_cons, show (m % 128 + 128) % 128 = m % 128 by omega]
     refine Prod.ext ?_ (Prod.ext ?_ rfl)
     · show n0 + m % 128 * 2 ^ (7 * p.length) + m / 128 * (128 * 2 ^ (7 * p.length)) = n0 + m * 2 ^ (7 * p.length)
       omega
     · show p.length + 1 + _ = p.length + (_ + 1)
       omega
   · rw [zbm (by omega)]
     have hc : cb (p ++ ([UInt8.ofNat m] ++ r)) p.length = m := by
       rw [List.singleton_append, yu7]
       simp; omega
     have h9 : ¬ (p.length = 9 /\ 1 < m) := by
       rintro ⟨h, h1⟩
       rw [h] at hm
       have : 2 * 2 ^ (7 * 9) <= m * 2 ^ (7 * 9) := Nat.mul_le_mul_right _ h1
       omega
     rw [lng, if_neg (by simp), hc, if_neg h9, if_neg (by omega), if_pos h0, Nat.mod_eq_of_lt (by omega)]
     rfl
theorem ydj {m : Int} (h : zc8 m) (r : List UInt8) : zbz (zav m ++ r) = m /\ ziu (zav m ++ r) = ((zav m).length : Int) /\ zh1 (zav m ++ r) = 0 := by
 have h0 := h.1
 have h1 := h.2
 have := zrq r 10 m.toNat 0 [] rfl (by simp; omega) (.inr rfl)
 simp only [List.nil_append, List.length_nil, Nat.zero_add, Nat.mul_zero, Nat.pow_zero, Nat.mul_one] at this
 unfold zbz ziu zh1 zav
 rw [this]
 refine ⟨?_, rfl, rfl⟩
 show ((m.toNat : Nat) : Int) = m
 omega
theorem zpi {s : List UInt8} : ∀ (f i n : Nat), f + i = 10 -> n < 2 ^ (7 * i) -> i <= s.length -> (lng s f i n).2.1 <= 10 /\ ((lng s f i n).2.2 = 0 -> 1 <= (lng s f i n).2.1 /\ (lng s f i n).2.1 <= s.length /\ (lng s f i n).1 < 2 ^ 64)
 | 0, i, n, hf, hn, hi => by simp [lng]
 | f + 1, i, n, hf, hn, hi => by
   rw [lng]
   by_cases h1 : s.length <= i
   · rw [if_pos h1]; simp
   · rw [if_neg h1]
     by_cases h2 : i = 9 /\ 1 < cb s i
     · rw [if_pos h2]; simp
     · rw [if_neg h2]
       have hb := zpj (by omega) hn (zzs s i) h2
       by_cases h3 : 128 <= cb s i
       · rw [if_pos h3]
         by_cases h9 : i = 9
         · omega
         · exact zpi f (i + 1) _ (by omega) hb.1 (by omega)
       · rw [if_neg h3]
         by_cases h4 : 0 < cb s i \/ i = 0
         · rw [if_pos h4]
           exact ⟨by show i + 1 <= 10; omega, fun _ => ⟨by show 1 <= i + 1; omega, by show i + 1 <= s.length; omega, hb.2.1⟩⟩
         · rw [if_neg h4]; simp
theorem yo5 (s : List UInt8) : 0 <= ziu s /\ ziu s <= 10 := by
 have := (zpi (s := s) 10 0 0 rfl (by simp) (Nat.zero_le _)).1
 unfold ziu
 omega
theorem zhe {s : List UInt8} (h : zh1 s = 0) : 1 <= ziu s /\ ziu s <= (s.length : Int) /\ 0 <= zbz s /\ zbz s < 18446744073709551616 := by
 have := (zpi (s := s) 10 0 0 rfl (by simp) (Nat.zero_le _)).2
 unfold zh1 at h
 unfold ziu zbz
 have := this (by omega)
 omega
def cpT (a b : List UInt8) : List UInt8 := if ygi a b = true then a.drop b.length else a
def ypp (L : zac) : zcr := (80, fun xs => match xs with | [.str a, .str b] => some (L2 L ych a b, .tup [.str (L2 L cpT a b), .bool (L2 L ygi a b)]) | _ => none)
def yx3 (L : zac) : zcr := (72, fun xs => match xs with | [.str a, .str b] => some (L2 L ych a b, .tup [.str (L2 L cpT a b), .bool (L2 L ygi a b)]) | _ => none)
theorem ycg {a b : List UInt8} (h : ygi a b = true) : b.length <= a.length := by
 have h : a.take b.length = b := by simpa [ygi] using h
 have := congrArg List.length h
 simp at this
 omega
theorem yk6 : zcu Tryz.prog (ypp std) := by
 intro xs p r h hp
 dsimp only [ypp] at h |-
 split at h <;> cases h
 try simp only [L2, L3, std] at hp |-
 rename_i a b
 obtain ⟨p1, p2⟩ : ych a b := hp
 refine zad (T := tt) (S := fun L => zbe [zvv L]) (lo := noA) (lb := noA) 5 (fn := Tryz.f80) rfl rfl (by kernel_rfl) (by kernel_rfl) rfl zah (zab ⟨zr5, trivial⟩) (by kernel_rfl) ?_
 (intro L P1 Q1 hL hP hQ; cbv; subst hL; simp only [L2, L3, std, syT]; subst hQ)
 (simp only [syS, reduceCtorEq, Int.reduceToNat, Int.reduceAdd, Int.reduceSub])
 refine ⟨⟨p1, p2⟩, fun h => ⟨(if_neg (by rw [h]; decide)).symm, h.symm⟩, fun h => ⟨⟨by omega, ?_⟩, (if_pos h).symm, h.symm⟩⟩
 have := ycg h
 omega
theorem ypo : zcu Tryz.prog (yx3 std) := by
 intro xs p r h hp
 dsimp only [yx3] at h |-
 split at h <;> cases h
 try simp only [L2, L3, std] at hp |-
 rename_i a b
 refine zad (T := tt) (S := fun L => zbe [ypp L]) (lo := noA) (lb := noA) 5 (fn := Tryz.f72) rfl rfl (by kernel_rfl) (by kernel_rfl) rfl zah (zab ⟨yk6, trivial⟩) (by kernel_rfl) ?_
 (intro L P1 Q1 hL hP hQ; cbv; subst hL; simp only [L2, L3, std, syT]; subst hQ)
 (simp only [syS, reduceCtorEq, Int.reduceToNat, Int.reduceAdd, Int.reduceSub])
 exact hp
def slH (t : List UInt8) : List UInt8 := ygg (ygg [79, 84] (zav (t.length : Int))) t
def slT (t : List UInt8) : List UInt8 := slH t ++ (zyw (slH t)).take 16
def slS (s t : List UInt8) : Bool := slT t == s
def opT (s : List UInt8) : List UInt8 := (s.drop (2 + (ziu (s.drop 2)).toNat)).take (zbz (s.drop 2)).toNat
def opB (s : List UInt8) : Bool := slS s (opT s)
def opV (s : List UInt8) : List UInt8 := if opB s = true then opT s else []
def opE (s : List UInt8) : Int := if opB s = true then 0 else 23
theorem yce (s : List UInt8) : ((zyw s).take 16).length = 16 := by rw [List.length_take, zl2]; rfl
theorem zgh (t : List UInt8) (h : t.length <= 1000000) : zc8 (t.length : Int) := ⟨by omega, by omega⟩
theorem yb0 (t : List UInt8) : (slH t).length = 2 + (zav (t.length : Int)).length + t.length := by simp [slH, ygg]; omega
theorem yaz (t : List UInt8) : (slT t).length = 2 + (zav (t.length : Int)).length + t.length + 16 := by rw [slT, List.length_append, yb0, yce]
theorem zoq (t : List UInt8) : (slT t).drop 2 = zav (t.length : Int) ++ (t ++ (zyw (slH t)).take 16) := by simp [slT, slH, ygg]
theorem ysi (t : List UInt8) (h : t.length <= 1000000) : opT (slT t) = t := by
 obtain ⟨e1, e2, e3⟩ := ydj (zgh t h) (t ++ (zyw (slH t)).take 16)
 rw [opT, zoq, e1, e2]
 have e : (slT t).drop (2 + ((zav (t.length : Int)).length : Int).toNat) = t ++ (zyw (slH t)).take 16 := by
   rw [<- List.drop_drop, zoq, Int.toNat_natCast, List.drop_left]
 rw [e, Int.toNat_natCast, List.take_left]
theorem yl5 (t : List UInt8) (h : t.length <= 1000000) : opB (slT t) = true := by
 rw [opB, ysi t h, slS]; simp
theorem ycw {s : List UInt8} (h : opB s = true) : slT (opT s) = s := by simpa [opB, slS] using h
theorem ysj (t : List UInt8) (h : t.length <= 1000000) : opV (slT t) = t := by rw [opV, if_pos (yl5 t h), ysi t h]
theorem ysk (t : List UInt8) (h : t.length <= 1000000) : opE (slT t) = 0 := by rw [opE, if_pos (yl5 t h)]
def zvg (L : zac) : zcr := (58, fun xs => match xs with | [.str t] => some (L2 L upto 100000 t, .str (L slT t)) | _ => none)
theorem zqr : zcu Tryz.prog (zvg std) := by
 intro xs p r h hp
 dsimp only [zvg] at h |-
 split at h <;> cases h
 try simp only [L2, L3, std] at hp |-
 rename_i t
 have hl : t.length <= 100000 := hp
 refine zad (T := tt) (S := fun L => zbe [zjx L, zv9 L]) (lo := noA) (lb := noA) 5 (fn := Tryz.f58) rfl rfl (by kernel_rfl) (by kernel_rfl) rfl zah (zab ⟨zhx, zqq, trivial⟩) (by kernel_rfl) ?_
 (intro L P1 Q1 hL hP hQ; cbv; subst hL; simp only [L2, L3, std, syT]; subst hQ)
 have hk := zgh t (by omega)
 have hz := zc7 hk
 have e1 : IntKind.u64.wrap (slen t) = (t.length : Int) := by rw [zqm, slen]; omega
 rw [e1, yh4]
 have hs := yb0 t
 have e2 : ygg (ygg [79, 84] (zav (t.length : Int))) t = slH t := rfl
 rw [e2]
 refine ⟨hk, ?_, ?_, yjf _ (by omega), ?_, ?_, ?_⟩
 · rw [zq9, List.length_cons, List.length_cons, List.length_nil]; omega
 · rw [zq9, ygg, List.length_append, List.length_cons, List.length_cons, List.length_nil]; omega
 · rw [yop, slen, zl2]; decide
 · rw [zq9, List.length_take, zl2]; omega
 · rw [zgs]; rfl
def yct (L : zac) : zcr := (57, fun xs => match xs with | [.str s] => some (L2 L upto 100000 s, .tup [.str (L opV s), .int .i64 (L opE s)]) | _ => none)
theorem yl4 (s : List UInt8) : (opT s).length <= s.length := by
 rw [opT, List.length_take, List.length_drop]; omega
theorem zts {s : List UInt8} (h : opB s = true) (hs : s.length <= 1000000) : ygi s [79, 84] = true /\ zh1 (s.drop 2) = 0 /\ zbz (s.drop 2) = ((opT s).length : Int) /\ ziu (s.drop 2) = ((zav ((opT s).length : Int)).length : Int) /\ s.length = 2 + (zav ((opT s).length : Int)).length + (opT s).length + 16 := by
 have hl := yl4 s
 obtain ⟨e1, e2, e3⟩ := ydj (zgh (opT s) (by omega)) (opT s ++ (zyw (slH (opT s))).take 16)
 rw [<- zoq, ycw h] at e1 e2 e3
 have hn := yaz (opT s)
 rw [ycw h] at hn
 refine ⟨?_, e3, e1, e2, hn⟩
 rw [<- ycw h]
 rfl
theorem ysl {s : List UInt8} (h : ¬ slT (opT s) = s) : opB s = false := by
 unfold opB slS
 simpa using h
theorem yi4 {s : List UInt8} (h : opB s = false) : [] = opV s /\ 23 = opE s := by
 rw [opV, opE, if_neg (by rw [h]; decide), if_neg (by rw [h]; decide)]
 exact ⟨rfl, rfl⟩
theorem ycu : zcu Tryz.prog (yct std) := by
 intro xs p r h hp
 dsimp only [yct] at h |-
 split at h <;> cases h
 try simp only [L2, L3, std] at hp |-
 rename_i s
 have hl : s.length <= 100000 := hp
 refine zad (T := tt) (S := fun L => zbe [yx3 L, yis L, zvg L]) (lo := noA) (lb := noA) 5 (fn := Tryz.f57) rfl rfl (by kernel_rfl) (by kernel_rfl) rfl zah (zab ⟨ypo, zws, zqr, trivial⟩) (by kernel_rfl) ?_
 (intro L P1 Q1 hL hP hQ; cbv; subst hL; simp only [L2, L3, std, syT]; subst hQ)
 (simp only [syS, reduceCtorEq, Int.reduceToNat, Int.reduceAdd, Int.reduceSub])
 refine ⟨⟨by omega, by decide⟩, fun hpre => yi4 (by
   cases h : opB s with
   | false => rfl
   | true => rw [(zts h (by omega)).1] at hpre; cases hpre), fun hpre => ?_⟩
 have hr : cpT s [79, 84] = s.drop 2 := if_pos hpre
 have hlen := ycg hpre
 have hlen : 2 <= s.length := hlen
 rw [hr]
 have hdl : (s.drop 2).length = s.length - 2 := List.length_drop
 refine ⟨fun he => yi4 (by
   cases h : opB s with
   | false => rfl
   | true => exact absurd (zts h (by omega)).2.1 he), fun he => ⟨fun hn => yi4 (by
   cases h : opB s with
   | false => rfl
   | true =>
     obtain ⟨_, _, h1, h2, h3⟩ := zts h (by omega)
     exfalso
     apply hn
     rw [h1, h2, hdl]
     omega), fun hn => ?_⟩⟩
 obtain ⟨k1, k2, n1, n2⟩ := zhe he
 rw [hdl] at hn k2 |-
 generalize hK : ziu (s.drop 2) = K at hn k1 k2 |-
 generalize hN : zbz (s.drop 2) = N at hn n1 n2 |-
 have eN : (K + ((N + 9223372036854775808) % 18446744073709551616 - 9223372036854775808) + 9223372036854775808) % 18446744073709551616 - 9223372036854775808 = K + N := by omega
 rw [eN]
 have et : List.drop K.toNat (List.take (K + N).toNat (s.drop 2)) = opT s := by
   rw [opT, hK, hN, <- List.drop_drop, List.drop_take]
   congr 1; omega
 rw [et]
 have := yl4 s
 refine ⟨⟨by omega, by omega, by omega⟩, (show (opT s).length <= 100000 by omega), fun h => ?_, fun h => yi4 (ysl h)⟩
 have hb : opB s = true := by rw [opB, slS, h]; simp
 rw [opV, opE, if_pos hb, if_pos hb]
 exact ⟨rfl, rfl⟩
def yp6 : zcr := (61, fun xs => match xs with | [] => some (True, .int .i64 4) | _ => none)
theorem yju : zcu Tryz.prog yp6 := by
 intro xs p r h hp
 dsimp only [yp6] at h |-
 split at h <;> cases h
 try simp only [L2, L3, std] at hp |-
 refine zad (T := tt) (S := noS) (lo := noA) (lb := noA) 5 (fn := Tryz.f61) rfl rfl (by kernel_rfl) (by kernel_rfl) rfl zah (zd0 _) (by kernel_rfl) ?_
 (intro L P1 Q1 hL hP hQ; cbv; subst hL; simp only [L2, L3, std, syT]; subst hQ)
 (simp only [syS, reduceCtorEq, Int.reduceToNat, Int.reduceAdd, Int.reduceSub])
inductive DkS where
 | a (k : Int)
 | b (k : Int) (x s : List UInt8)
 | c (k : Int) (x s : List UInt8)
 | d (k : Int) (x s y t : List UInt8)
def nmA : List UInt8 := [97]
def nmB : List UInt8 := [98]
def zdk (x s : List UInt8) : Ob := .box 156 [.str x, .str s]
def yi1 (key : List UInt8) : Ob := .row 159 4 1 (fun _ j => zc4 .dead [.int .i64 1, .str [], .str key, .dead] j)
def zxn (n s : Nat) (pend : AV) (k : Int) : Ob := .box 152 [.int .i64 100, .mp n, .mp s, pend, .int .i64 k, .int .i64 (-1), .bool false]
def zuk (pend : AV) (k : Int) : Ob := zxn 500001 500002 pend k
def dkO (p : Nat) : DkS -> List (Nat × Ob)
 | .a k => [(500000, zuk .nils k), (500001, .mapl .s []), (500002, .mapl .s [])]
 | .b k x s => [(500000, zuk (.sl p 4 0 1) k), (500001, .mapl .s [(.s nmA, .ref 500003 0)]), (500002, .mapl .s []), (500003, zdk x s), (p, yi1 nmA)]
 | .c k x s => [(500000, zuk .nils k), (500001, .mapl .s [(.s nmA, .ref 500003 0)]), (500002, .mapl .s [(.s nmA, .ref 500003 0)]), (500003, zdk x s)]
 | .d k x s y t => [(500000, zuk (.sl p 4 0 1) k), (500001, .mapl .s [(.s nmA, .ref 500003 0), (.s nmB, .ref 500004 0)]), (500002, .mapl .s [(.s nmA, .ref 500003 0)]), (500003, zdk x s), (500004, zdk y t), (p, yi1 nmB)]
def zbx : Option Ob -> List UInt8 × List UInt8
 | some (.box _ [.str x, .str s]) => (x, s)
 | _ => ([], [])
def yey (ob : Nat -> Option Ob) (id : Nat) : Option DkS := match ob id with
 | some (.box _ [_, .mp n, _, .nils, .int _ k, _, _]) => match ob n with
   | some (.mapl _ []) => some (.a k)
   | some (.mapl _ [(_, .ref i _)]) => some (.c k (zbx (ob i)).1 (zbx (ob i)).2)
   | _ => none
 | some (.box _ [_, .mp n, _, .sl _ _ _ _, .int _ k, _, _]) => match ob n with
   | some (.mapl _ [(_, .ref i _)]) => some (.b k (zbx (ob i)).1 (zbx (ob i)).2)
   | some (.mapl _ [(_, .ref i _), (_, .ref j _)]) => some (.d k (zbx (ob i)).1 (zbx (ob i)).2 (zbx (ob j)).1 (zbx (ob j)).2)
   | _ => none
 | _ => none
def inc (k : Int) : Int := k + 1
def DkS.up (L : zac) : DkS -> DkS
 | .a k => .a (L inc k)
 | .b k x s => .b (L inc k) x s
 | .c k x s => .c (L inc k) x s
 | .d k x s y t => .d (L inc k) x s y t
def DkS.k : DkS -> Int
 | .a k => k
 | .b k _ _ => k
 | .c k _ _ => k
 | .d k _ _ _ _ => k
def zde (k : Int) : Prop := 0 <= k /\ k <= 1000
theorem ygq {k : Int} (h : zde k) : zbt .i64 k 1 = inc k := by
 obtain ⟨h0, h1⟩ := h
 unfold zbt inc
 rw [zco]
 omega
def ynl : zh5 := (98, fun raw ob => match raw with
 | [.ref id 0] => match yey ob id with
   | some sh => some ⟨[.ref 500000 0], dkO 500005 sh, True, .int .i64 0, dkO 500005 sh⟩
   | _ => none
 | _ => none)
theorem yw7 (sh : DkS) : zb3 Tryz.prog 98 [.ref 500000 0] (dkO 500005 sh) (.int .i64 0) (dkO 500005 sh) := by
 cases sh <;>
 · refine zau (T := tt) (S := fun L => zbg [] []) (lo := noA) (lb := noA) 8 (fn := Tryz.f98) (xs := fun L => [.ref 500000 0]) (rts := fun _ => [.int .i64 0]) (O := fun L => dkO 500005 _) (O1 := fun L => dkO 500005 _)
     rfl rfl (by kernel_rfl) (by kernel_rfl) (by kernel_rfl) zah (zaj trivial trivial) (by kernel_rfl) ?_
   intro L P' Q' hL hP hQ
   (cbv; try simp only [syT, true_and, and_true])
   subst hL
   simp [std]
theorem zm3 : zd7 Tryz.prog ynl := by
 intro raw ob T hT hp
 unfold ynl at hT
 simp only at hT
 repeat' split at hT
 all_goals first | (cases hT; done) | (cases hT; exact yw7 _)
def zkd (L : zac) : zh5 := (101, fun raw ob => match raw with
 | [.ref id 0] => match yey ob id with
   | some sh => some ⟨[.ref 500000 0], dkO 500005 sh, L zde sh.k, .int .i64 0, dkO 500005 (sh.up L)⟩
   | _ => none
 | _ => none)
theorem ymd (sh : DkS) (hk : zde sh.k) : zb3 Tryz.prog 101 [.ref 500000 0] (dkO 500005 sh) (.int .i64 0) (dkO 500005 (sh.up std)) := by
 cases sh <;>
 · refine zau (T := tt) (S := fun L => zbg [] []) (lo := noA) (lb := noA) 8 (fn := Tryz.f101) (xs := fun L => [.ref 500000 0]) (rts := fun _ => [.int .i64 0]) (O := fun L => dkO 500005 _) (O1 := fun L => dkO 500005 (DkS.up L _))
     rfl rfl (by kernel_rfl) (by kernel_rfl) (by kernel_rfl) zah (zaj trivial trivial) (by kernel_rfl) ?_
   intro L P' Q' hL hP hQ
   (cbv; try simp only [syT, true_and, and_true])
   subst hL
   simp only [DkS.k] at hk
   have e0 : ieq (-1) 0 = false := by decide
   have e1 : ilt 0 (-1) = false := by decide
   simp [std, e0, e1, ygq hk]
theorem zi5 : zd7 Tryz.prog (zkd std) := by
 intro raw ob T hT hp
 unfold zkd at hT
 simp only at hT
 repeat' split at hT
 all_goals first | (cases hT; done) | (cases hT; exact ymd _ hp)
def ywz (L : zac) : List (Nat × Ob) := [(14, zxn 11 12 .nils 0), (11, .mapl .s []), (12, .mapl .s [])]
def ynv (L : zac) : zh5 := (83, fun raw ob => match raw with
 | [.int .i64 n] => some ⟨[.int .i64 100], [], True, .tup [.ref 14 0, .int .i64 0], ywz L⟩
 | _ => none)
theorem ysr : zb3 Tryz.prog 83 [.int .i64 100] [] (.tup [.ref 14 0, .int .i64 0]) (ywz std) := by
 refine zau (T := tt) (S := fun L => zbg [] []) (lo := noA) (lb := noA) 8 (fn := Tryz.f83) (xs := fun L => [.int .i64 100]) (rts := fun _ => [.ref 14 0, .int .i64 0]) (O := fun L => []) (O1 := fun L => ywz L)
     rfl rfl (by kernel_rfl) (by kernel_rfl) (by kernel_rfl) zah (zaj trivial trivial) (by kernel_rfl) ?_
 intro L P' Q' hL hP hQ
 (cbv; try simp only [syT, true_and, and_true])
 subst hL
 have e0 : ilt 100 0 = false := by decide
 have e1 : ilt 65536 100 = false := by decide
 simp [std, e0, e1]
theorem yia : zd7 Tryz.prog (ynv std) := by
 intro raw ob T hT hp
 unfold ynv at hT
 simp only at hT
 repeat' split at hT
 all_goals first | (cases hT; done) | (cases hT; exact ysr)
def zoo : zh5 := (104, fun raw ob => match raw with
 | [.ref id 0, .str key] => match yey ob id with
   | some (.a _) => none
   | some sh => some ⟨[.ref 500000 0, .str nmA], dkO 500005 sh, True, .tup [.ref 500003 0, .int .i64 0], dkO 500005 sh⟩
   | _ => none
 | _ => none)
def DkS.some : DkS -> Prop
 | .a _ => False
 | _ => True
theorem yh0 (sh : DkS) (hs : sh.some) : zb3 Tryz.prog 104 [.ref 500000 0, .str nmA] (dkO 500005 sh) (.tup [.ref 500003 0, .int .i64 0]) (dkO 500005 sh) := by
 cases sh
 case a => exact hs.elim
 all_goals
   refine zau (T := tt) (S := fun L => zbg [] [ynl]) (lo := noA) (lb := noA) 8 (fn := Tryz.f104) (xs := fun L => [.ref 500000 0, .str nmA]) (rts := fun _ => [.ref 500003 0, .int .i64 0]) (O := fun L => dkO 500005 _) (O1 := fun L => dkO 500005 _)
     rfl rfl (by kernel_rfl) (by kernel_rfl) (by kernel_rfl) zah (zaj trivial ⟨zm3, trivial⟩) (by kernel_rfl) ?_
   intro L P' Q' hL hP hQ
   (cbv; try simp only [syT, true_and, and_true])
   subst hL
   have e0 : ine 0 0 = false := by decide
   simp [std, e0]
theorem znh : zd7 Tryz.prog zoo := by
 intro raw ob T hT hp
 unfold zoo at hT
 simp only at hT
 repeat' split at hT
 all_goals first | (cases hT; done) | skip
 rename_i sh h1 h2
 cases hT
 refine yh0 sh ?_
 cases sh
 · exact absurd rfl (h1 _)
 all_goals trivial
def zy1 : AV := .agg [.int .i64 1, .str [], .str nmA, .ref 500003 0]
def zy0 : AV := .agg [.int .i64 1, .str [], .str nmB, .ref 500004 0]
def do0 (x s : List UInt8) : List (Nat × Ob) := [(500001, .mapl .s []), (500003, zdk x s)]
def do1 (x s : List UInt8) : List (Nat × Ob) := [(500001, .mapl .s [(.s nmA, .ref 500003 0)]), (500003, zdk x s)]
def do2 (x s y t : List UInt8) : List (Nat × Ob) := [(500001, .mapl .s [(.s nmA, .ref 500003 0)]), (500003, zdk x s), (500004, zdk y t)]
def do3 (x s y t : List UInt8) : List (Nat × Ob) := [(500001, .mapl .s [(.s nmA, .ref 500003 0), (.s nmB, .ref 500004 0)]), (500003, zdk x s), (500004, zdk y t)]
def ytw : zh5 := (106, fun raw ob => match raw with
 | [.mp n, .agg [_, _, _, .ref i _]] => match ob n with
   | some (.mapl _ []) => some ⟨[.mp 500001, zy1], do0 (zbx (ob i)).1 (zbx (ob i)).2, True, .tup [], do1 (zbx (ob i)).1 (zbx (ob i)).2⟩
   | some (.mapl _ [(_, .ref j _)]) => some ⟨[.mp 500001, zy0], do2 (zbx (ob j)).1 (zbx (ob j)).2 (zbx (ob i)).1 (zbx (ob i)).2, True, .tup [], do3 (zbx (ob j)).1 (zbx (ob j)).2 (zbx (ob i)).1 (zbx (ob i)).2⟩
   | _ => none
 | _ => none)
theorem do_a (x s : List UInt8) : zb3 Tryz.prog 106 [.mp 500001, zy1] (do0 x s) (.tup []) (do1 x s) := by
 refine zau (T := tt) (S := fun L => zbg [] []) (lo := noA) (lb := noA) 8 (fn := Tryz.f106) (xs := fun L => [.mp 500001, zy1]) (rts := fun _ => []) (O := fun L => do0 x s) (O1 := fun L => do1 x s)
   rfl rfl (by kernel_rfl) (by kernel_rfl) (by kernel_rfl) zah (zaj trivial trivial) (by kernel_rfl) ?_
 intro L P' Q' hL hP hQ
 (cbv; try simp only [syT, true_and, and_true])
 subst hL
 have e0 : ieq 1 1 = true := by decide
 simp [std, e0]
theorem do_b (x s y t : List UInt8) : zb3 Tryz.prog 106 [.mp 500001, zy0] (do2 x s y t) (.tup []) (do3 x s y t) := by
 refine zau (T := tt) (S := fun L => zbg [] []) (lo := noA) (lb := noA) 8 (fn := Tryz.f106) (xs := fun L => [.mp 500001, zy0]) (rts := fun _ => []) (O := fun L => do2 x s y t) (O1 := fun L => do3 x s y t)
   rfl rfl (by kernel_rfl) (by kernel_rfl) (by kernel_rfl) zah (zaj trivial trivial) (by kernel_rfl) ?_
 intro L P' Q' hL hP hQ
 (cbv; try simp only [syT, true_and, and_true])
 subst hL
 have e0 : ieq 1 1 = true := by decide
 simp [std, e0]
theorem zuj : zd7 Tryz.prog ytw := by
 intro raw ob T hT hp
 unfold ytw at hT
 simp only at hT
 repeat' split at hT
 all_goals first | (cases hT; done) | (cases hT; exact do_a _ _) | (cases hT; exact do_b _ _ _ _)
def zky : zh5 := (102, fun raw ob => match raw with
 | [.ref id 0, .agg [_, _, _, .ref i _]] => match yey ob id with
   | some (.a k) => some ⟨[.ref 500000 0, zy1], zce (dkO 500005 (.a k)) [(500003, zdk (zbx (ob i)).1 (zbx (ob i)).2)], True, .tup [], dkO 17 (.b k (zbx (ob i)).1 (zbx (ob i)).2)⟩
   | some (.c k x s) => some ⟨[.ref 500000 0, zy0], zce (dkO 500005 (.c k x s)) [(500004, zdk (zbx (ob i)).1 (zbx (ob i)).2)], True, .tup [], dkO 17 (.d k x s (zbx (ob i)).1 (zbx (ob i)).2)⟩
   | _ => none
 | _ => none)
theorem ygw (k : Int) (x s : List UInt8) : zb3 Tryz.prog 102 [.ref 500000 0, zy1] (zce (dkO 500005 (.a k)) [(500003, zdk x s)]) (.tup []) (dkO 17 (.b k x s)) := by
 refine zau (T := tt) (S := fun L => zbg [] [ytw]) (lo := noA) (lb := noA) 8 (fn := Tryz.f102) (xs := fun L => [.ref 500000 0, zy1]) (rts := fun _ => []) (O := fun L => zce (dkO 500005 (.a k)) [(500003, zdk x s)]) (O1 := fun L => dkO 17 (.b k x s))
   rfl rfl (by kernel_rfl) (by kernel_rfl) (by kernel_rfl) zah (zaj trivial ⟨zuj, trivial⟩) (by kernel_rfl) ?_
 intro L P' Q' hL hP hQ
 (cbv; try simp only [syT, true_and, and_true])
 subst hL
 simp [std]
 exact ⟨by decide, fun i j hi hj => by subst hi; simp [L2, std]⟩
theorem ygv (k : Int) (x s y t : List UInt8) : zb3 Tryz.prog 102 [.ref 500000 0, zy0] (zce (dkO 500005 (.c k x s)) [(500004, zdk y t)]) (.tup []) (dkO 17 (.d k x s y t)) := by
 refine zau (T := tt) (S := fun L => zbg [] [ytw]) (lo := noA) (lb := noA) 8 (fn := Tryz.f102) (xs := fun L => [.ref 500000 0, zy0]) (rts := fun _ => []) (O := fun L => zce (dkO 500005 (.c k x s)) [(500004, zdk y t)]) (O1 := fun L => dkO 17 (.d k x s y t))
   rfl rfl (by kernel_rfl) (by kernel_rfl) (by kernel_rfl) zah (zaj trivial ⟨zuj, trivial⟩) (by kernel_rfl) ?_
 intro L P' Q' hL hP hQ
 (cbv; try simp only [syT, true_and, and_true])
 subst hL
 simp [std]
 exact ⟨by decide, fun i j hi hj => by subst hi; simp [L2, std]⟩
theorem zlo : zd7 Tryz.prog zky := by
 intro raw ob T hT hp
 unfold zky at hT
 simp only at hT
 repeat' split at hT
 all_goals first | (cases hT; done) | (cases hT; exact ygw _ _ _) | (cases hT; exact ygv _ _ _ _ _)
end Sy
end Go.Proofs.YtlphgephdhadhaaGreat
namespace Go.Proofs.YtlphgephdhadhaaGreat
open Go Go.RowKit
open Go.ChangeMaps (setBlock)
theorem zza (seen : Array Nat) : leftOf #[] seen = #[] := by simp [leftOf]
set_option maxRecDepth 1000000 in
theorem yvi (w : World) (b bm : Nat) (clock : Nat) (hc : w.cell? ⟨b, 1, none⟩ = some (.map (some bm))) (hm : w.heap[bm]? = some (.map #[] clock)) :
   Calls Tryz.prog 100 #[.pointer (some ⟨b, 0, none⟩)] w fun e w' => e = .returned (.int .i64 0) /\ Below w.heap.size w w' := by
 have hrg := run_range_map (P := Tryz.prog) w 149 9 153 bm #[] clock Tryz.underlying149 hm
 have hnx : ∀ ty, (Instr.next (.pointer (some ⟨w.heap.size, 0, none⟩)) false ty).run Tryz.prog (w.alloc (.mapIter (some bm) clock #[] clock)) = .ok (.tuple #[.bool false]) (w.alloc (.mapIter (some bm) clock #[] clock)) := fun ty => by
   rcases run_next_map (P := Tryz.prog) w ty bm clock clock #[] #[] clock hm (by simp) (Nat.le_refl _) with ⟨_, h⟩ | ⟨e, he, _⟩
   · exact h
   · rw [zza] at he; simp at he
 go_enter Tryz.func100, Tryz.ntmps100
 go_wp2
 refine wp_loop_rounds 1 ?_
 rw [rounds_succ]
 go_wp2
 go_ret
 exact ⟨rfl, (Below.refl _ w).alloc (Nat.le_refl _) _⟩
set_option maxRecDepth 1000000 in
theorem yvh (w : World) (b bm bn : Nat) (clock : Nat) (x : MapEntry) (s : ByteArray) (hc : w.cell? ⟨b, 1, none⟩ = some (.map (some bm))) (hm : w.heap[bm]? = some (.map #[x] clock)) (hst : MapKept.Stamped #[x] clock)
   (hx : x.val = .pointer (some ⟨bn, 0, none⟩)) (hn : w.cell? ⟨bn, 0, none⟩ = some (.string s)) :
   Calls Tryz.prog 100 #[.pointer (some ⟨b, 0, none⟩)] w fun e w' => e = .returned (.int .i64 (wrap64 s.size)) /\ Below w.heap.size w w' := by
 have hrg := run_range_map (P := Tryz.prog) w 149 9 153 bm #[x] clock Tryz.underlying149 hm
 have hbn : bn < w.heap.size := by
   rcases Nat.lt_or_ge bn w.heap.size with h | h
   · exact h
   · simp [World.cell?, Array.getElem?_eq_none h] at hn
 have hbm : bm < w.heap.size := by
   rcases Nat.lt_or_ge bm w.heap.size with h | h
   · exact h
   · simp [Array.getElem?_eq_none h] at hm
 obtain ⟨W2, hr2, hk2, hB2, hnx⟩ : ∃ W2 : World, W2.heap[w.heap.size]? = some (.mapIter (some bm) clock #[x.born] clock) /\ (∀ k, k < w.heap.size -> W2.heap[k]? = w.heap[k]?) /\ Below w.heap.size w W2 /\
     ∀ ty, (Instr.next (.pointer (some ⟨w.heap.size, 0, none⟩)) false ty).run Tryz.prog (w.alloc (.mapIter (some bm) clock #[] clock)) = .ok (.tuple #[.bool true, x.key, .pointer (some ⟨bn, 0, none⟩)]) W2 := by
   rcases run_next_at (P := Tryz.prog) (w.alloc (.mapIter (some bm) clock #[] clock)) 0 w.heap.size bm clock clock #[] #[x] clock (heap_alloc_new _ _) ((heap_alloc_old w _ hbm).trans hm) hst.1 (Nat.le_refl _) with ⟨h0, _⟩ | ⟨e, he, w1, hal, h⟩
   · simp [leftOf] at h0
   · simp [leftOf] at he
     subst he
     rw [hx] at h
     have hB : Below w.heap.size w (w.alloc (.mapIter (some bm) clock #[] clock)) := (Below.refl _ w).alloc (Nat.le_refl _) _
     have hw : w1.heap = (w.alloc (.mapIter (some bm) clock #[] clock)).heap /\ w1.os = w.os /\ w1.tape = w.tape /\ w1.output = w.output := by
       rcases hal with rfl | rfl
       · exact ⟨rfl, rfl, rfl, rfl⟩
       · exact ⟨rfl, rfl, rfl, rfl⟩
     obtain ⟨h1, h2, h3, h4⟩ := hw
     have hl : w.heap.size < (w.alloc (.mapIter (some bm) clock #[] clock)).heap.size := by
       show w.heap.size < (w.heap.push _).size
       rw [Array.size_push]
       omega
     have hne : ∀ k, k < w.heap.size -> (w1.heap.setIfInBounds w.heap.size (.mapIter (some bm) clock #[e.born] clock))[k]? = w.heap[k]? := fun k hk => by
       rw [Array.getElem?_setIfInBounds_ne (by omega), h1]
       exact heap_alloc_old w _ hk
     refine ⟨setBlock w1 w.heap.size (.mapIter (some bm) clock #[e.born] clock), ?_, hne, ⟨h2, h3, h4, ?_, hne⟩, fun ty => h⟩
     · show (w1.heap.setIfInBounds w.heap.size _)[w.heap.size]? = _
       rw [h1, Array.getElem?_setIfInBounds, if_pos rfl, if_pos hl]
     · show w.heap.size <= (w1.heap.setIfInBounds w.heap.size _).size
       rw [h1, Array.size_setIfInBounds]
       exact Nat.le_of_lt hl
 have hm2 : W2.heap[bm]? = some (.map #[x] clock) := (hk2 bm hbm).trans hm
 have hen : (Instr.entry (.pointer (some ⟨w.heap.size, 0, none⟩))).run Tryz.prog W2 = .ok (.tuple #[x.key, .pointer (some ⟨bn, 0, none⟩)]) W2 := by
   have hen := run_entry_at (P := Tryz.prog) W2 w.heap.size bm clock #[] #[x] clock x hr2 hm2 (by simp) hst.2.1
   rw [hx] at hen
   exact hen
 have hn1 : W2.cell? ⟨bn, 0, none⟩ = some (.string s) := by
   simp only [World.cell?, hk2 bn hbn]
   exact hn
 have hnx2 : ∀ ty, (Instr.next (.pointer (some ⟨w.heap.size, 0, none⟩)) false ty).run Tryz.prog W2 = .ok (.tuple #[.bool false]) W2 := fun ty => by
   rcases run_next_at (P := Tryz.prog) W2 ty w.heap.size bm clock clock #[x.born] #[x] clock hr2 hm2 hst.1 (Nat.le_refl _) with ⟨_, h⟩ | ⟨e, he, _⟩
   · exact h
   · simp [leftOf] at he
 go_enter Tryz.func100, Tryz.ntmps100
 go_wp2
 refine wp_loop_rounds 2 ?_
 rw [rounds_succ]
 go_wp2
 rw [rounds_succ]
 go_wp2
 go_ret
 exact ⟨rfl, hB2⟩
end Go.Proofs.YtlphgephdhadhaaGreat
namespace Go.Proofs
open Go.Shelf
def Tryz.keys108_ren : Go.Shelf.Ren := ⟨fun | 7 => 108 | 10 => 120 | n => n, fun | 23 => 149 | 26 => 9 | 3 => 153 | 28 => 169 | 0 => 0 | 27 => 168 | 33 => 47 | 4 => 4 | n => n, fun | n => n⟩
theorem Tryz.keys108 : Go.Proofs.SlLaysZ.n7 Tryz.prog Tryz.keys108_ren := {
 mixed := by kernel_rfl
 f7 := ⟨Tryz.f108.name, by decide, Tryz.func108.trans (congrArg some (by kernel_rfl))⟩
 f10 := ⟨Tryz.f120.name, by decide, Tryz.func120.trans (congrArg some (by kernel_rfl))⟩
 t0 := Tryz.underlying0
 a0 := Tryz.isAgg0
 z0 := Tryz.sizeOf0
 v0 := Tryz.zeroValue0
 t4 := Tryz.underlying4
 a4 := Tryz.isAgg4
 z4 := Tryz.sizeOf4
 v4 := Tryz.zeroValue4
 t23 := Tryz.underlying149
 a23 := Tryz.isAgg149
 z23 := Tryz.sizeOf149
 v23 := Tryz.zeroValue149
 t26 := Tryz.underlying9
 a26 := Tryz.isAgg9
 z26 := Tryz.sizeOf9
 v26 := Tryz.zeroValue9
 t27 := Tryz.underlying168
 a27 := Tryz.isAgg168
 z27 := Tryz.sizeOf168
 v27 := Tryz.zeroValue168
 t28 := Tryz.underlying169
 a28 := Tryz.isAgg169
 z28 := Tryz.sizeOf169
 v28 := Tryz.zeroValue169
 t33 := Tryz.underlying47
 a33 := Tryz.isAgg47
 z33 := Tryz.sizeOf47
 v33 := Tryz.zeroValue47 }
def Tryz.sorted107_ren : Go.Shelf.Ren := ⟨fun | 6 => 107 | 8 => 118 | 9 => 119 | 11 => 125 | 13 => 127 | 12 => 126 | 23 => 140 | 24 => 141 | 14 => 131 | 15 => 132 | 16 => 133 | 17 => 134 | 18 => 135 | 19 => 136 | 20 => 137 | 21 => 138 | 22 => 139 | 25 => 142 | 26 => 143 | 27 => 144 | 28 => 145 | 29 => 146 | 30 => 147 | 31 => 148 | n => n, fun | 26 => 9 | 28 => 169 | 24 => 125 | 0 => 0 | 3 => 3 | 37 => 105 | 48 => 142 | 50 => 63 | 4 => 4 | 40 => 196 | 39 => 195 | 45 => 56 | 5 => 5 | 9 => 9 | 51 => 203 | 55 => 207 | 57 => 209 | 58 => 210 | 33 => 47 | n => n, fun | n => n⟩
theorem Tryz.sorted107 : Go.Proofs.SlLaysZ.n6 Tryz.prog Tryz.sorted107_ren := {
 mixed := by kernel_rfl
 f6 := ⟨Tryz.f107.name, by decide, Tryz.func107.trans (congrArg some (by kernel_rfl))⟩
 f8 := ⟨Tryz.f118.name, by decide, Tryz.func118.trans (congrArg some (by kernel_rfl))⟩
 f11 := ⟨Tryz.f125.name, by decide, Tryz.func125.trans (congrArg some (by kernel_rfl))⟩
 t0 := Tryz.underlying0
 a0 := Tryz.isAgg0
 z0 := Tryz.sizeOf0
 v0 := Tryz.zeroValue0
 t24 := Tryz.underlying125
 a24 := Tryz.isAgg125
 z24 := Tryz.sizeOf125
 v24 := Tryz.zeroValue125
 t26 := Tryz.underlying9
 a26 := Tryz.isAgg9
 z26 := Tryz.sizeOf9
 v26 := Tryz.zeroValue9
 t28 := Tryz.underlying169
 a28 := Tryz.isAgg169
 z28 := Tryz.sizeOf169
 v28 := Tryz.zeroValue169
 i26 := by kernel_rfl }
def Tryz.sort119_ren : Go.Shelf.Ren := ⟨fun | 6 => 119 | 8 => 127 | 9 => 126 | 19 => 140 | 20 => 141 | 21 => 131 | 22 => 132 | 23 => 133 | 24 => 134 | 25 => 135 | 26 => 136 | 27 => 137 | 28 => 138 | 29 => 139 | 36 => 142 | 31 => 143 | 32 => 144 | 37 => 145 | 38 => 146 | 39 => 147 | 41 => 148 | n => n, fun | 27 => 125 | 29 => 9 | 3 => 3 | 32 => 105 | 26 => 125 | 0 => 0 | 44 => 142 | 46 => 63 | 4 => 4 | 36 => 196 | 35 => 195 | 41 => 56 | 5 => 5 | 9 => 9 | 53 => 203 | 57 => 207 | 63 => 209 | 64 => 210 | n => n, fun | n => n⟩
theorem Tryz.sort119 : Go.Proofs.SlLaysM.n6 Tryz.prog Tryz.sort119_ren := {
 mixed := by kernel_rfl
 f6 := ⟨Tryz.f119.name, by decide, Tryz.func119.trans (congrArg some (by kernel_rfl))⟩
 f8 := Tryz.func127.trans (congrArg some (by kernel_rfl))
 f9 := ⟨Tryz.f126.name, by decide, Tryz.func126.trans (congrArg some (by kernel_rfl))⟩
 f19 := Tryz.func140.trans (congrArg some (by kernel_rfl))
 f20 := Tryz.func141.trans (congrArg some (by kernel_rfl))
 f21 := ⟨Tryz.f131.name, by decide, Tryz.func131.trans (congrArg some (by kernel_rfl))⟩
 f22 := ⟨Tryz.f132.name, by decide, Tryz.func132.trans (congrArg some (by kernel_rfl))⟩
 f23 := ⟨Tryz.f133.name, by decide, Tryz.func133.trans (congrArg some (by kernel_rfl))⟩
 f24 := ⟨Tryz.f134.name, by decide, Tryz.func134.trans (congrArg some (by kernel_rfl))⟩
 f25 := ⟨Tryz.f135.name, by decide, Tryz.func135.trans (congrArg some (by kernel_rfl))⟩
 f26 := ⟨Tryz.f136.name, by decide, Tryz.func136.trans (congrArg some (by kernel_rfl))⟩
 f27 := ⟨Tryz.f137.name, by decide, Tryz.func137.trans (congrArg some (by kernel_rfl))⟩
 f28 := ⟨Tryz.f138.name, by decide, Tryz.func138.trans (congrArg some (by kernel_rfl))⟩
 f29 := ⟨Tryz.f139.name, by decide, Tryz.func139.trans (congrArg some (by kernel_rfl))⟩
 f31 := Tryz.func143.trans (congrArg some (by kernel_rfl))
 f32 := Tryz.func144.trans (congrArg some (by kernel_rfl))
 f36 := ⟨Tryz.f142.name, by decide, Tryz.func142.trans (congrArg some (by kernel_rfl))⟩
 f37 := ⟨Tryz.f145.name, by decide, Tryz.func145.trans (congrArg some (by kernel_rfl))⟩
 f38 := ⟨Tryz.f146.name, by decide, Tryz.func146.trans (congrArg some (by kernel_rfl))⟩
 f39 := ⟨Tryz.f147.name, by decide, Tryz.func147.trans (congrArg some (by kernel_rfl))⟩
 f41 := ⟨Tryz.f148.name, by decide, Tryz.func148.trans (congrArg some (by kernel_rfl))⟩
 t0 := Tryz.underlying0
 a0 := Tryz.isAgg0
 z0 := Tryz.sizeOf0
 v0 := Tryz.zeroValue0
 t3 := Tryz.underlying3
 a3 := Tryz.isAgg3
 z3 := Tryz.sizeOf3
 v3 := Tryz.zeroValue3
 t4 := Tryz.underlying4
 a4 := Tryz.isAgg4
 z4 := Tryz.sizeOf4
 v4 := Tryz.zeroValue4
 t5 := Tryz.underlying5
 a5 := Tryz.isAgg5
 z5 := Tryz.sizeOf5
 v5 := Tryz.zeroValue5
 t9 := Tryz.underlying9
 a9 := Tryz.isAgg9
 z9 := Tryz.sizeOf9
 v9 := Tryz.zeroValue9
 t26 := Tryz.underlying125
 a26 := Tryz.isAgg125
 z26 := Tryz.sizeOf125
 v26 := Tryz.zeroValue125
 t27 := Tryz.underlying125
 a27 := Tryz.isAgg125
 z27 := Tryz.sizeOf125
 v27 := Tryz.zeroValue125
 t29 := Tryz.underlying9
 a29 := Tryz.isAgg9
 z29 := Tryz.sizeOf9
 v29 := Tryz.zeroValue9
 t32 := Tryz.underlying105
 a32 := Tryz.isAgg105
 z32 := Tryz.sizeOf105
 v32 := Tryz.zeroValue105
 t35 := Tryz.underlying195
 a35 := Tryz.isAgg195
 z35 := Tryz.sizeOf195
 v35 := Tryz.zeroValue195
 t36 := Tryz.underlying196
 a36 := Tryz.isAgg196
 z36 := Tryz.sizeOf196
 v36 := Tryz.zeroValue196
 t41 := Tryz.underlying56
 a41 := Tryz.isAgg56
 z41 := Tryz.sizeOf56
 v41 := Tryz.zeroValue56
 t44 := Tryz.underlying142
 a44 := Tryz.isAgg142
 z44 := Tryz.sizeOf142
 v44 := Tryz.zeroValue142
 t46 := Tryz.underlying63
 a46 := Tryz.isAgg63
 z46 := Tryz.sizeOf63
 v46 := Tryz.zeroValue63
 t53 := Tryz.underlying203
 a53 := Tryz.isAgg203
 z53 := Tryz.sizeOf203
 v53 := Tryz.zeroValue203
 t57 := Tryz.underlying207
 a57 := Tryz.isAgg207
 z57 := Tryz.sizeOf207
 v57 := Tryz.zeroValue207
 t63 := Tryz.underlying209
 a63 := Tryz.isAgg209
 z63 := Tryz.sizeOf209
 v63 := Tryz.zeroValue209
 t64 := Tryz.underlying210
 a64 := Tryz.isAgg210
 z64 := Tryz.sizeOf210
 v64 := Tryz.zeroValue210 }
def Tryz.clone105_ren : Go.Shelf.Ren := ⟨fun | 5 => 105 | 7 => 117 | n => n, fun | 23 => 149 | 25 => 9 | 3 => 153 | 4 => 4 | 20 => 20 | n => n, fun | n => n⟩
theorem Tryz.clone105 : Go.Proofs.SlLaysW.n5 Tryz.prog Tryz.clone105_ren := {
 mixed := by kernel_rfl
 f5 := ⟨Tryz.f105.name, by decide, Tryz.func105.trans (congrArg some (by kernel_rfl))⟩
 f7 := Tryz.func117.trans (congrArg some (by kernel_rfl))
 t4 := Tryz.underlying4
 a4 := Tryz.isAgg4
 z4 := Tryz.sizeOf4
 v4 := Tryz.zeroValue4
 t20 := Tryz.underlying20
 a20 := Tryz.isAgg20
 z20 := Tryz.sizeOf20
 v20 := Tryz.zeroValue20
 t23 := Tryz.underlying149
 a23 := Tryz.isAgg149
 z23 := Tryz.sizeOf149
 v23 := Tryz.zeroValue149 }
end Go.Proofs
namespace Go.Proofs.YtlphgephdhadhaaGreat
open Go Go.RowKit
open Go.WideElems (Fit rd rg rg_of)
open Go.Maps
theorem yh7 (m : Nat) : AnyZ.SortsIn Tryz.prog Tryz.sorted107_ren Fence.wide m :=
 ⟨fun blk off cap ss W hH hblk hsz => callsIn_wide.2 (AnyM.slices_Sort_string Tryz.sort119 blk off cap ss W hH hblk hsz),
  fun p cap W => callsIn_wide.2 (AnyM.slices_Sort_string_none Tryz.sort119 p cap W)⟩
def yw6 (_ : Value) : Option (DataW Unit × List MemPlace) := some (.lit (.bool true), [])
set_option maxHeartbeats 1000000 in
theorem ymi (w : World) (Bm b clock : Nat) (x : MapEntry) (s : ByteArray) (hB : Bm < w.heap.size) (hc : w.cell? ⟨Bm, 0, none⟩ = some (.map (some b))) (hb : w.heap[b]? = some (.map #[x] clock)) (hst : MapKept.Stamped #[x] clock)
   (hk : x.key = .string s) (hs : s.size <= 1000) :
   Calls Tryz.prog 107 #[.func (.func 120) #[] #[.pointer (some ⟨Bm, 0, none⟩)]] w fun e w' => ∃ v, e = .returned v /\ w'.ownsRow w.heap.size 9 1 v 1 [.string s] /\ Below w.heap.size w w' := by
 have hrd : rd Tryz.prog 9 yw6 x = some (.string s.data.toList, .lit (.bool true)) := by
   have hl : s.size <= maxLen := Nat.le_trans hs (by decide)
   simp [rd, yw6, Go.keyOf, hk, mapKey, Tryz.underlying9, hl]
 have hown : w.ownsMap Tryz.prog 9 yw6 b 1 (.map [(.string s.data.toList, .lit (.bool true))]) := by
   refine ⟨#[x], clock, hb, ⟨(show 1 <= maxLen by decide), hst, fun y hy => ?_⟩, by simp, ?_⟩
   · simp at hy; subst hy; exact ⟨_, hrd⟩
   · simp [rg_of hrd, DataW.insert]
 have hseq := AnyZ.keys_gives (ρ := Tryz.keys108_ren) (F := Fence.wide) (n := 2) { Tryz.keys108 with } trivial rfl (by omega) Bm b 1 _ w hB hc hown
 refine (callsIn_wide.1 (AnyZ.sorted_in Tryz.sorted107 Fence.wide 5 trivial trivial trivial trivial rfl (by omega) (yh7 _) (enters_of Tryz.func119 (by kernel_rfl) rfl) 120 _ trivial (enters_of Tryz.func120 (by kernel_rfl) rfl) _ 1 (by decide) (by omega) w hseq)).mono ?_
 rintro e w' ⟨v, ss, rfl, hS, hrow, -, hB⟩
 have : ss = [s.data.toList] := by simpa [strKeys, strOf] using hS
 subst this
 have hrow := hrow
 simp [encStr] at hrow
 exact ⟨v, rfl, hrow, hB⟩
namespace Sy
theorem zjr {P : Program} {f : FuncId} {fn : Func} {c : Code} {vs : Array Value} {w : World} {Q : Ending -> World -> Prop} (hf : P.funcs[f]? = some fn) (hb : fn.body = some c) (hn : (fn.name == "runtime.NumGoroutine") = false) (h : Calls P f vs w Q) : zfe P f vs w Q := by
 unfold zfe
 rw [zcw hf hn hb]
 exact h
theorem zm7 {D D' : Nat -> Prop} {w w' : World} {μ : Mu} {O : List (Nat × Ob)} {r : AV} {v : Value} (hD : ∀ b, D b -> b < w.heap.size)
   (hdom : ∀ n, μ n = none ↔ za2 O n = none) (hobs : ∀ n o x, za2 O n = some o -> μ n = some x -> zif w.heap D μ o x)
   (hinj : ∀ n n' b z z', μ n = some (some (b, z)) -> μ n' = some (some (b, z')) -> n = n') (hown : ∀ n b z, μ n = some (some (b, z)) -> b < w.heap.size /\ ¬ D b)
   (B : Below w.heap.size w w') (up : ∀ b, D b -> D' b) (dn : ∀ b, D' b -> D b \/ (w.heap.size <= b /\ b < w'.heap.size)) (rv : R w'.heap D' μ r v) : ylx D w μ O O r (.returned v) v w' D' μ :=
 { ret := rfl, os := B.os, tape := B.tape, output := B.output, size := B.size, old := fun b hb _ => B.block b hb, up := up,
   dn := fun b hb => (dn b hb).elim .inl (fun h => .inr (.inl h)), dom := hdom,
   obs := fun n o x ho hx => (hobs n o x ho hx).mono (fun b hb => B.block b (hD b hb)) up (fun _ _ h => h) (fun b z e _ => by subst e; exact B.block b (hown n b z hx).1),
   inj := hinj,
   own := fun n b z h => ⟨Nat.lt_of_lt_of_le (hown n b z h).1 B.size, fun hb => (dn b hb).elim (hown n b z h).2 (fun h2 => absurd (hown n b z h).1 (by omega)), .inr ⟨n, z, h⟩⟩,
   keep := fun _ _ _ => rfl, val := rv }
theorem yih {D : Nat -> Prop} {w w' : World} {μ : Mu} {O : List (Nat × Ob)} {r : AV} {v : Value} (id : Nat) (o : Ob) (z : Nat × Nat) (hD : ∀ b, D b -> b < w.heap.size) (hid : za2 O id = none)
   (hdom : ∀ n, μ n = none ↔ za2 O n = none) (hobs : ∀ n o x, za2 O n = some o -> μ n = some x -> zif w.heap D μ o x)
   (hinj : ∀ n n' b z z', μ n = some (some (b, z)) -> μ n' = some (some (b, z')) -> n = n') (hown : ∀ n b z, μ n = some (some (b, z)) -> b < w.heap.size /\ ¬ D b)
   (B : Below w.heap.size w w') (hlt : w.heap.size < w'.heap.size)
   (ok : zif w'.heap D (fun n => if n = id then some (some (w.heap.size, z)) else μ n) o (some (w.heap.size, z)))
   (rv : R w'.heap D (fun n => if n = id then some (some (w.heap.size, z)) else μ n) r v) :
   ylx D w μ O (zce O [(id, o)]) r (.returned v) v w' D (fun n => if n = id then some (some (w.heap.size, z)) else μ n) := by
 have hμ : μ id = none := (hdom id).2 hid
 have hm : ∀ n x, μ n = some x -> (if n = id then some (some (w.heap.size, z)) else μ n) = some x := fun n x h => by
   rw [if_neg (by rintro rfl; rw [hμ] at h; cases h)]; exact h
 have ha : ∀ n, za2 (zce O [(id, o)]) n = if n = id then some o else za2 O n := fun n => by
   rw [zfc]
   by_cases e : n = id
   · subst e; rw [hid, if_pos rfl]; simp [za2, za8]
   · rw [if_neg e]
     cases za2 O n with
     | some _ => rfl
     | none => simp [za2, zar (fun h => e h.symm)]
 refine { ret := rfl, os := B.os, tape := B.tape, output := B.output, size := B.size, old := fun b hb _ => B.block b hb, up := fun _ h => h, dn := fun b hb => .inl hb, dom := fun n => ?_, obs := fun n o' x ho hx => ?_, inj := fun n n' b z1 z2 h1 h2 => ?_, own := fun n b z1 h => ?_, keep := fun n h _ => ?_, val := rv }
 · rw [ha]
   by_cases e : n = id
   · simp [e]
   · simp only [if_neg e]; exact hdom n
 · rw [ha] at ho
   by_cases e : n = id
   · simp only [if_pos e] at ho hx
     cases ho; cases hx
     exact ok
   · simp only [if_neg e] at ho hx
     exact (hobs n o' x ho hx).mono (fun b hb => B.block b (hD b hb)) (fun _ h => h) hm (fun b z e _ => by subst e; exact B.block b (hown n b z hx).1)
 · by_cases e : n = id <;> by_cases e' : n' = id
   · rw [e, e']
   · simp only [if_pos e, if_neg e'] at h1 h2
     cases h1
     exact absurd (hown n' _ _ h2).1 (by omega)
   · simp only [if_neg e, if_pos e'] at h1 h2
     cases h2
     exact absurd (hown n _ _ h1).1 (by omega)
   · simp only [if_neg e, if_neg e'] at h1 h2
     exact hinj n n' b z1 z2 h1 h2
 · by_cases e : n = id
   · simp only [if_pos e] at h
     cases h
     exact ⟨hlt, fun hb => absurd (hD _ hb) (by omega), .inl (Nat.le_refl _)⟩
   · simp only [if_neg e] at h
     exact ⟨Nat.lt_of_lt_of_le (hown n b z1 h).1 B.size, (hown n b z1 h).2, .inr ⟨n, z1, h⟩⟩
 · exact if_neg (fun e => h (by rw [e]; exact hid))
end Sy
end Go.Proofs.YtlphgephdhadhaaGreat
namespace Go.Proofs.YtlphgephdhadhaaGreat
namespace Sy
open Go Go.RowKit
set_option maxRecDepth 100000
set_option linter.unusedSimpArgs false
set_option linter.unusedVariables false
def yl6 (x s : List UInt8) : List (Nat × Ob) := [(500001, .mapl .s [(.s nmA, .ref 500003 0)]), (500003, zdk x s)]
theorem zp7 {h : Array Obj} {D : Nat -> Prop} {μ : Mu} {x : AV} {vs : Array Value} (hr : RL h D μ [x] vs) : ∃ v, vs = #[v] /\ R h D μ x v := by
 obtain ⟨hl, hr⟩ := hr
 obtain ⟨a, ha⟩ : ∃ a, vs.toList = [a] := List.length_eq_one_iff.1 (by simpa using hl.symm)
 have : vs = #[a] := by rw [<- Array.toArray_toList (xs := vs), ha]
 subst this
 exact ⟨a, rfl, hr 0 x a rfl rfl⟩
theorem zrd {h : Array Obj} {D : Nat -> Prop} {μ : Mu} {b z m : Nat} {v : AV} (k : zif h D μ (.mapl .s [(.s nmA, v)]) (some (b, z, m))) :
   ∃ x clock s, h[b]? = some (.map #[x] clock) /\ MapKept.Stamped #[x] clock /\ x.key = .string s /\ s.data.toList = nmA /\ R h D μ v x.val := by
 obtain ⟨es, clock, kf, hb, hn, hks, hnd, hr⟩ := k
 have hn : es.size = 1 := hn
 obtain ⟨x, rfl⟩ : ∃ x, es = #[x] := ⟨es[0], by
   apply Array.ext
   · simpa using hn
   · intro i h1 h2
     have : i = 0 := by simp at h2; exact h2
     subst this; rfl⟩
 obtain ⟨y, hy, ry⟩ := hr 0 x rfl
 obtain ⟨k1, k2⟩ := hks.key 0 x rfl
 obtain ⟨s, k3, k4⟩ := k1
 have hkf : kf 0 = .s nmA /\ y = v := by
   simp only [zbp] at hy
   split at hy
   · rename_i h; exact ⟨(zmg h).symm, by cases hy; rfl⟩
   · cases hy
 obtain ⟨h1, rfl⟩ := hkf
 rw [h1] at k4
 exact ⟨x, clock, s, hb, hks.st, k3, (Ky.s.inj k4).symm, ry⟩
def zlg : zh5 := (105, fun raw ob => match raw with
 | [.mp n] => match ob n with
   | some (.mapl _ [(_, .ref i _)]) => some ⟨[.mp 500001], yl6 (zbx (ob i)).1 (zbx (ob i)).2, True, .mp 600000, zce (yl6 (zbx (ob i)).1 (zbx (ob i)).2) [(600000, .mapl .s [(.s nmA, .ref 500003 0)])]⟩
   | _ => none
 | _ => none)
theorem zmw : zd7 Tryz.prog zlg := by
 intro raw ob T hT hp
 unfold zlg at hT
 simp only at hT
 repeat' split at hT
 all_goals first | (cases hT; done) | skip
 cases hT
 intro D w μ vs hD hxs hdom hobs hinj hown hg hgb
 obtain ⟨v, rfl, r1⟩ := zp7 hxs
 cases r1 with
 | mp _ b z m hμ =>
   obtain ⟨es, clock, kf, hb, hn, hks, hnd, hr⟩ := hobs 500001 _ _ rfl hμ
   refine zjr (fn := Tryz.f105) rfl rfl (by kernel_rfl) ((AnyW.maps_Clone Tryz.clone105 b es clock w hb).mono ?_)
   rintro e w' ⟨rfl, rfl⟩
   have B : Below w.heap.size w (w.alloc (.map es clock)) := (Below.refl _ w).alloc (Nat.le_refl _) _
   have hm : ∀ n x, μ n = some x -> (if n = 600000 then some (some (w.heap.size, (0, 0))) else μ n) = some x := fun n x h => by
     rw [if_neg (by rintro rfl; rw [(hdom 600000).2 rfl] at h; cases h)]; exact h
   refine ⟨_, D, _, yih 600000 _ (0, 0) hD rfl hdom hobs hinj hown B (by show w.heap.size < (w.heap.push _).size; simp) ⟨es, clock, kf, heap_alloc_new _ _, hn, hks, hnd, fun i x hx => ?_⟩ (.mp _ w.heap.size 0 0 (if_pos rfl))⟩
   obtain ⟨y, h1, h2⟩ := hr i x hx
   exact ⟨y, h1, h2.mono (fun b hb => B.block b (hD b hb)) (fun _ h => h) hm⟩
def seqO (x s : List UInt8) : List (Nat × Ob) := [(500010, .box 149 [.mp 500001]), (500001, .mapl .s [(.s nmA, .ref 500003 0)]), (500003, zdk x s)]
def zkz : zh5 := (107, fun raw ob => match raw with
 | [.fn _ [] [.ref c _]] => match ob c with
   | some (.box _ [.mp n]) => match ob n with
     | some (.mapl _ [(_, .ref i _)]) => some ⟨[.fn 120 [] [.ref 500010 0]], seqO (zbx (ob i)).1 (zbx (ob i)).2, True, .lst 1 1 (fun _ _ => .str nmA), seqO (zbx (ob i)).1 (zbx (ob i)).2⟩
     | _ => none
   | _ => none
 | _ => none)
theorem zlr : zd7 Tryz.prog zkz := by
 intro raw ob T hT hp
 unfold zkz at hT
 simp only at hT
 repeat' split at hT
 all_goals first | (cases hT; done) | skip
 cases hT
 intro D w μ vs hD hxs hdom hobs hinj hown hg hgb
 obtain ⟨v, rfl, r1⟩ := zp7 hxs
 cases r1 with
 | fn _ _ _ us1 us2 e1 e2 h1 h2 =>
   obtain ⟨u, hu⟩ : ∃ u, us2.toList = [u] := List.length_eq_one_iff.1 (by simpa using e2.symm)
   have : us2 = #[u] := by rw [<- Array.toArray_toList (xs := us2), hu]
   subst this
   have : us1 = #[] := by
     apply Array.eq_empty_of_size_eq_zero
     simpa using e1.symm
   subst this
   have r2 : R w.heap D μ (.ref 500010 0) u := h2 0 _ u rfl rfl
   cases r2 with
   | ref _ _ b z m hμ =>
     obtain ⟨C, t, fr, hb, hz, hf, ho, hC⟩ := hobs 500010 _ _ rfl hμ
     obtain ⟨v0, rfl, r3⟩ := zp7 hC
     cases r3 with
     | mp _ bm zm mm hμm =>
       obtain ⟨x, clock, s, hbm, hst, hk, hs, rx⟩ := zrd (hobs 500001 _ _ rfl hμm)
       have hss : s.size = 1 := by
         have := congrArg List.length hs
         simpa [nmA] using this
       refine zjr (fn := Tryz.f107) rfl rfl (by kernel_rfl) ((ymi w b bm clock x s (hown _ _ _ hμ).1 (by rw [zh2]; simp [zbi hb]) hbm hst hk (by omega)).mono ?_)
       rintro e w' ⟨v, rfl, ⟨-, hrow⟩, B⟩
       rcases hrow with ⟨-, h0⟩ | ⟨g, cap, cur, rfl, hg0, hgb, hc1, hc2, hc3, hc4⟩
       · cases h0
       have hcur : cur[0]? = some (.string s) := by
         have := congrArg (fun l => l[0]?) hc4
         simpa using this
       have hlt : g < w'.heap.size := (Array.getElem?_eq_some_iff.1 hgb).1
       refine ⟨_, fun b => D b \/ b = g, μ, zm7 hD hdom hobs hinj hown B (fun b h => .inl h) (fun b h => h.elim .inl (fun e => .inr (by subst e; exact ⟨hg0, hlt⟩))) (.lst 1 1 _ g 0 cap (fun _ _ => .string s) (.inr rfl) hc1 (fun i j hi hj => ?_) (fun i j hi hj => rfl) (fun i j hi hj => .str _ s hs))⟩
       have : i = 0 := by omega
       subst this
       have : j = 0 := by omega
       subst this
       rw [zbi hgb]
       exact hcur
def zd3 (a : List UInt8) : Prop := a.length <= 1000
def yb9 (L : zac) : zcr := (116, fun xs => match xs with | [.str a] => some (L zd3 a, .str a) | _ => none)
def yh9 (L : zac) : zcr := (103, fun xs => match xs with | [.str a] => some (L zd3 a, .str a) | _ => none)
theorem yba : zcu Tryz.prog (yb9 std) := by
 intro xs p r h hp
 dsimp only [yb9] at h |-
 split at h <;> cases h
 try simp only [L2, L3, std] at hp |-
 rename_i a
 have h1 : a.length <= 1000 := hp
 exact zfd (fn := Tryz.f116) rfl rfl (by kernel_rfl) (yqc (zlp _)) (fun h D => yav h D zb0 _) (fun w => Tryz.stringslite_Clone ⟨a.toArray⟩ w (by show a.toArray.size <= _; rw [List.size_toArray]; omega))
theorem zvi : zcu Tryz.prog (yh9 std) := by
 intro xs p r h hp
 dsimp only [yh9] at h |-
 split at h <;> cases h
 try simp only [L2, L3, std] at hp |-
 rename_i a
 have h1 : zd3 a := hp
 refine zad (T := tt) (S := fun L => zbe [yb9 L]) (lo := noA) (lb := noA) 5 (fn := Tryz.f103) rfl rfl (by kernel_rfl) (by kernel_rfl) rfl zah (zab ⟨yba, trivial⟩) (by kernel_rfl) ?_
 (intro L P1 Q1 hL hP hQ; cbv; subst hL; simp only [L2, L3, std, syT]; subst hQ)
 (simp only [syS, reduceCtorEq, Int.reduceToNat, Int.reduceAdd, Int.reduceSub])
 exact h1
def yib (a : List UInt8) : Bool := !decide (a = []) && decide (a.length <= 32)
def zwc (L : zac) : zcr := (99, fun xs => match xs with | [.str a] => some (L zd3 a, .bool (L yib a)) | _ => none)
theorem zrk : zcu Tryz.prog (zwc std) := by
 intro xs p r h hp
 dsimp only [zwc] at h |-
 split at h <;> cases h
 try simp only [L2, L3, std] at hp |-
 rename_i a
 have h1 : a.length <= 1000 := hp
 refine zad (T := tt) (S := noS) (lo := noA) (lb := noA) 5 (fn := Tryz.f99) rfl rfl (by kernel_rfl) (by kernel_rfl) rfl zah (zd0 _) (by kernel_rfl) ?_
 (intro L P1 Q1 hL hP hQ; cbv; subst hL; simp only [L2, L3, std, syT]; subst hQ)
 (simp only [syS, reduceCtorEq, Int.reduceToNat, Int.reduceAdd, Int.reduceSub])
 refine ⟨fun h => ?_, fun h => ?_⟩
 · unfold yib
   rw [decide_eq_false h]
   unfold ile
   simp
   omega
 · subst h; rfl
def zjh (s : List UInt8) (i q : Nat) : Int := if q < i then zt4 s q else 0
def ywl (L : zac) (s : List UInt8) : Nat -> St -> Option Ann := fun id st => match id with
 | 0 => some ⟨Nat, fun i => [(27, .int .i64 (L za6 i))], fun i => [(24, .row 5 1 (L lenN s) (fun q _ => .int .u8 (L3 L zjh s i q)))], [0, 1, 6, 26], [500003],
     fun i => L2 L (fun (s : List UInt8) i => i <= s.length) s i, fun i => L2 L (fun (s : List UInt8) (i : Nat) => s.length - i) s i⟩
 | _ => none
theorem yfw (s : List UInt8) : bytesOf s.length (fun k => zt4 s k) = s := by
 apply List.ext_getElem
 · simp [bytesOf]
 · intro i h1 h2
   simp [bytesOf, zt4, h2]
theorem shr0 (k : IntKind) (b : Int) : zoh k 0 b = 0 := by unfold zoh; simp
theorem yrn {i : Nat} (h : i <= 1000) : ile 0 (Int.tmod (yqk .i64 (za6 i) 64) 63) = true := by
 have e1 : (za6 i).tdiv 64 = ((i / 64 : Nat) : Int) := by
   unfold za6
   exact (Int.ofNat_tdiv i 64).symm
 unfold yqk
 rw [zco, e1]
 have e2 : ((i / 64 : Nat) : Int) + 9223372036854775808 < 18446744073709551616 := by omega
 rw [Int.emod_eq_of_lt (by omega) e2]
 unfold ile
 rw [decide_eq_true_eq]
 exact Int.tmod_nonneg _ (by omega)
def ye0 (L : zac) : zh5 := (109, fun raw ob => match raw with
 | [.ref i 0, .int .u64 _] => some ⟨[.ref 500003 0, .int .u64 0], [(500003, zdk (zbx (ob i)).1 (zbx (ob i)).2)], L zd3 (zbx (ob i)).2, .str (zbx (ob i)).2, [(500003, zdk (zbx (ob i)).1 (zbx (ob i)).2)]⟩
 | _ => none)
theorem yoe (x s : List UInt8) (hs : zd3 s) : zb3 Tryz.prog 109 [.ref 500003 0, .int .u64 0] [(500003, zdk x s)] (.str s) [(500003, zdk x s)] := by
 have hs : s.length <= 1000 := hs
 refine zau (T := tt) (S := fun L => zbg [] []) (lo := fun L => ywl L s) (lb := noA) 8 (fn := Tryz.f109) (xs := fun L => [.ref 500003 0, .int .u64 0]) (rts := fun _ => [.str s]) (O := fun L => [(500003, zdk x s)]) (O1 := fun L => [(500003, zdk x s)])
   rfl rfl (by kernel_rfl) (by kernel_rfl) (by kernel_rfl) zah (zaj trivial trivial) (by kernel_rfl) ?_
 intro L P' Q' hL hP hQ
 (cbv; try simp only [syT, true_and, and_true])
 refine ⟨?_, fun h1 => ?_, fun h1 => ⟨?_, ⟨0, ?_⟩, fun i hi => ?_⟩⟩
 · subst hL; decide
 · exfalso
   subst hL
   revert h1
   simp only [std, L2]
   decide
 · subst hL
   show yst 1 (slen s) (slen s) = true
   rw [yld]
   unfold slen
   omega
 · (cbv; try simp only [syT, true_and, and_true])
   subst hL
   refine ⟨⟨rfl, fun a b ha hb => ?_⟩, rfl, Nat.zero_le _⟩
   have : b = 0 := by omega
   subst this
   simp [zc4, L3, std, zjh]
 · (cbv; try simp only [syT, true_and, and_true])
   refine ⟨fun h2 => ⟨?_, ?_, ?_, fun h3 => ?_, fun h3 => ⟨fun h4 => ⟨?_, ?_, ⟨i + 1, ?_⟩⟩, fun h4 => ?_⟩⟩, fun h2 => ?_⟩
   · subst hL; decide
   · subst hL; decide
   · subst hL
     have hi : i <= s.length := hi
     exact yrn (by omega)
   · exfalso
     subst hL
     revert h3
     simp only [std, shr0]
     decide
   · subst hL
     have h4 : ilt (za6 i) (slen s) = true := h4
     rw [zc2] at h4
     show inR (za6 i) (slen s) = true
     rw [zfj]
     exact ⟨Int.natCast_nonneg _, h4⟩
   · subst hL
     have h4 : ilt (za6 i) (slen s) = true := h4
     rw [zc2] at h4
     show inR (za6 i) (za6 (Int.toNat (slen s))) = true
     rw [zfj]
     exact ⟨Int.natCast_nonneg _, h4⟩
   · (cbv; try simp only [syT, true_and, and_true])
     subst hL
     have hi : i <= s.length := hi
     have h4 : ilt (za6 i) (slen s) = true := h4
     rw [zc2] at h4
     have h4 : (i : Int) < (s.length : Int) := h4
     refine ⟨fun a b ha hb => ?_, ?_, ?_, ?_⟩
     · refine (ysg _ .u8 _ (zjh s i) a b hb).trans (congrArg (AV.int .u8) ?_)
       show (if a = 0 + (za6 i).toNat then zt4 s (za6 i) else zjh s i a) = zjh s (i + 1) a
       have e1 : 0 + (za6 i).toNat = i := by unfold za6; omega
       rw [e1]
       unfold zjh
       by_cases e : a = i
       · subst e
         rw [if_pos rfl, if_pos (by omega)]; rfl
       · rw [if_neg e]
         by_cases e2 : a < i
         · rw [if_pos e2, if_pos (by omega)]
         · rw [if_neg e2, if_neg (by omega)]
     · show zbt .i64 (za6 i) 1 = za6 (i + 1)
       unfold zbt za6
       rw [zco]
       omega
     · show i + 1 <= s.length
       omega
     · show s.length - (i + 1) < s.length - i
       omega
   · exfalso
     subst hL
     have h2 : ilt (za6 i) (za6 (Int.toNat (slen s))) = true := h2
     have h4 : ilt (za6 i) (slen s) = false := h4
     have e : za6 (Int.toNat (slen s)) = slen s := by unfold za6 slen; omega
     rw [e, h4] at h2
     cases h2
   · subst hL
     have hi : i <= s.length := hi
     have h2 : ilt (za6 i) (za6 (Int.toNat (slen s))) = false := h2
     rw [zdw] at h2
     have e : i = s.length := by unfold za6 slen at h2; omega
     subst e
     refine ⟨⟨?_, fun k _ => ⟨_, rfl⟩⟩, ?_⟩
     · show 0 + s.length <= s.length
       omega
     · show bytesOf s.length (fun k => zjh s s.length (0 + k)) = s
       refine Eq.trans ?_ (yfw s)
       unfold bytesOf
       refine List.map_congr_left fun k hk => ?_
       have hk : k < s.length := by simpa using hk
       show UInt8.ofNat (zjh s s.length (0 + k)).toNat = UInt8.ofNat (zt4 s k).toNat
       unfold zjh
       rw [if_pos (by omega), Nat.zero_add]
theorem ye1 : zd7 Tryz.prog (ye0 std) := by
 intro raw ob T hT hp
 unfold ye0 at hT
 simp only at hT
 repeat' split at hT
 all_goals first | (cases hT; done) | (cases hT; exact yoe _ _ hp)
def DkS.used (L : zac) : DkS -> Int
 | .c _ x _ => L slen x
 | _ => 0
def DkS.usable : DkS -> Prop
 | .a _ => True
 | .c _ x _ => zd3 x
 | _ => False
def zv5 (L : zac) : zh5 := (100, fun raw ob => match raw with
 | [.ref id 0] => match yey ob id with
   | some sh => some ⟨[.ref 500000 0], dkO 500005 sh, L DkS.usable sh, .int .i64 (sh.used L), dkO 500005 sh⟩
   | _ => none
 | _ => none)
theorem zqn : zd7 Tryz.prog (zv5 std) := by
 intro raw ob T hT hp
 unfold zv5 at hT
 simp only at hT
 repeat' split at hT
 all_goals first | (cases hT; done) | skip
 rename_i sh hsh
 cases hT
 intro D w μ vs hD hxs hdom hobs hinj hown hg hgb
 obtain ⟨v, rfl, r1⟩ := zp7 hxs
 cases r1 with
 | ref _ _ b z m hμ =>
   cases sh with
   | b k x s => exact hp.elim
   | d k x s y t => exact hp.elim
   | a k =>
     obtain ⟨C, t, fr, hb, hz, hf, ho, hC1, hC2⟩ := hobs 500000 _ _ rfl hμ
     obtain ⟨v1, hv1⟩ : ∃ v1, C[1]? = some v1 := ⟨C[1]'(by rw [<- hC1]; simp), by simp⟩
     have r2 : R w.heap D μ (.mp 500001) v1 := hC2 1 _ v1 rfl hv1
     cases r2 with
     | mp _ bm zm mm hμm =>
       obtain ⟨es, clock, kf, hbm, hn, hks, hnd, hr⟩ := hobs 500001 _ _ rfl hμm
       have hes : es = #[] := Array.eq_empty_of_size_eq_zero hn
       subst hes
       refine zjr (fn := Tryz.f100) rfl rfl (by kernel_rfl) ((yvi w b bm clock (by rw [zh2, zbi hb]; exact hv1) hbm).mono ?_)
       rintro e w' ⟨rfl, B⟩
       exact ⟨_, D, μ, zm7 hD hdom hobs hinj hown B (fun b h => h) (fun b h => .inl h) (.int _ _)⟩
   | c k x s =>
     obtain ⟨C, t, fr, hb, hz, hf, ho, hC1, hC2⟩ := hobs 500000 _ _ rfl hμ
     obtain ⟨v1, hv1⟩ : ∃ v1, C[1]? = some v1 := ⟨C[1]'(by rw [<- hC1]; simp), by simp⟩
     have r2 : R w.heap D μ (.mp 500001) v1 := hC2 1 _ v1 rfl hv1
     cases r2 with
     | mp _ bm zm mm hμm =>
       obtain ⟨e, clock, s1, hbm, hst, hk, hs, rx⟩ := zrd (hobs 500001 _ _ rfl hμm)
       generalize hev : e.val = ev at rx
       cases rx with
       | ref _ _ bn zn mn hμn =>
         obtain ⟨C', t', fr', hb', hz', hf', ho', hC1', hC2'⟩ := hobs 500003 _ _ rfl hμn
         obtain ⟨v2, hv2⟩ : ∃ v2, C'[0]? = some v2 := ⟨C'[0]'(by rw [<- hC1']; simp), by simp⟩
         have r3 : R w.heap D μ (.str x) v2 := hC2' 0 _ v2 rfl hv2
         obtain ⟨s2, rfl, hs2⟩ := r3.inv_str
         have hsh : x.length <= 1000 := hp
         have hsz : s2.size = x.length := by rw [<- hs2]; simp
         refine zjr (fn := Tryz.f100) rfl rfl (by kernel_rfl) ((yvh w b bm bn clock e s2 (by rw [zh2, zbi hb]; exact hv1) hbm hst hev (by rw [zh2, zbi hb']; exact hv2)).mono ?_)
         rintro e w' ⟨rfl, B⟩
         have he : wrap64 (s2.size : Int) = slen x := by
           unfold wrap64 slen
           omega
         rw [he]
         exact ⟨_, D, μ, zm7 hD hdom hobs hinj hown B (fun b h => h) (fun b h => .inl h) (.int _ _)⟩
def wrO (L : zac) (x : List UInt8) : DkS -> List (Nat × Ob)
 | .a k => [(500000, zuk (.sl 17 4 0 1) (L inc k)), (500001, .mapl .s [(.s nmA, .ref 64 0)]), (500002, .mapl .s []), (64, zdk x []), (17, yi1 nmA)]
 | .c k y s => [(500000, zuk (.sl 17 4 0 1) (L inc k)), (500001, .mapl .s [(.s nmA, .ref 500003 0), (.s nmB, .ref 64 0)]), (500002, .mapl .s [(.s nmA, .ref 500003 0)]), (500003, zdk y s), (64, zdk x []), (17, yi1 nmB)]
 | _ => []
def yva : DkS -> List UInt8
 | .a _ => nmA
 | _ => nmB
def yur (x : List UInt8) : DkS -> Prop
 | .a k => zde k /\ x.length <= 50
 | .c k y s => zde k /\ x.length <= 50 /\ y.length <= 50
 | _ => False
def zt6 (L : zac) : zh5 := (84, fun raw ob => match raw with
 | [.ref id 0, .str _, .str x] => match yey ob id with
   | some sh => some ⟨[.ref 500000 0, .str (yva sh), .str x], dkO 500005 sh, L2 L yur x sh, .int .i64 0, wrO L x sh⟩
   | _ => none
 | _ => none)
theorem ym1 (k : Int) (x : List UInt8) (hk : zde k) (hx : x.length <= 50) : zb3 Tryz.prog 84 [.ref 500000 0, .str nmA, .str x] (dkO 500005 (.a k)) (.int .i64 0) (wrO std x (.a k)) := by
 refine zau (T := tt) (S := fun L => zbg [yh9 L, zwc L] [ynl, zv5 L, zkd L, zky]) (lo := noA) (lb := noA) 8 (fn := Tryz.f84) (xs := fun L => [.ref 500000 0, .str nmA, .str x]) (rts := fun _ => [.int .i64 0]) (O := fun L => dkO 500005 (.a k)) (O1 := fun L => wrO L x (.a k))
   rfl rfl (by kernel_rfl) (by kernel_rfl) (by kernel_rfl) zah (zaj ⟨zvi, zrk, trivial⟩ ⟨zm3, zqn, zi5, zlo, trivial⟩) (by kernel_rfl) ?_
 intro L P' Q' hL hP hQ
 (cbv; try simp only [syT, true_and, and_true])
 subst hL
 have e0 : ine 0 0 = false := by decide
 have e1 : yib [97] = true := by decide
 have e2 : ile 16 (Int.ofNat 0) = false := by decide
 have e3 : ilt 100 (zbt .i64 (slen x) 0) = false := by
   rw [zdw]
   unfold zbt slen
   rw [zco]
   omega
 have e4 : zd3 x := by unfold zd3; omega
 have e5 : zd3 [97] := by unfold zd3; decide
 simp [std, e0, e1, e2, e3, e4, e5, DkS.usable, DkS.k, hk]
 decide
theorem ym0 (k : Int) (x y s : List UInt8) (hk : zde k) (hx : x.length <= 50) (hy : y.length <= 50) : zb3 Tryz.prog 84 [.ref 500000 0, .str nmB, .str x] (dkO 500005 (.c k y s)) (.int .i64 0) (wrO std x (.c k y s)) := by
 refine zau (T := tt) (S := fun L => zbg [yh9 L, zwc L] [ynl, zv5 L, zkd L, zky]) (lo := noA) (lb := noA) 8 (fn := Tryz.f84) (xs := fun L => [.ref 500000 0, .str nmB, .str x]) (rts := fun _ => [.int .i64 0]) (O := fun L => dkO 500005 (.c k y s)) (O1 := fun L => wrO L x (.c k y s))
   rfl rfl (by kernel_rfl) (by kernel_rfl) (by kernel_rfl) zah (zaj ⟨zvi, zrk, trivial⟩ ⟨zm3, zqn, zi5, zlo, trivial⟩) (by kernel_rfl) ?_
 intro L P' Q' hL hP hQ
 (cbv; try simp only [syT, true_and, and_true])
 subst hL
 have e0 : ine 0 0 = false := by decide
 have e1 : yib [98] = true := by decide
 have e2 : ile 16 (Int.ofNat 1) = false := by decide
 have e3 : ilt 100 (zbt .i64 (slen x) (slen y)) = false := by
   rw [zdw]
   unfold zbt slen
   rw [zco]
   omega
 have e4 : zd3 x := by unfold zd3; omega
 have e6 : zd3 y := by unfold zd3; omega
 have e5 : zd3 [98] := by unfold zd3; decide
 simp [std, e0, e1, e2, e3, e4, e5, e6, DkS.usable, DkS.k, hk]
 decide
theorem zxz : zd7 Tryz.prog (zt6 std) := by
 intro raw ob T hT hp
 unfold zt6 at hT
 simp only at hT
 repeat' split at hT
 all_goals first | (cases hT; done) | skip
 rename_i x _ sh hsh
 cases hT
 have hp : yur x sh := hp
 cases sh with
 | a k => exact ym1 k x hp.1 hp.2
 | b k y s => exact hp.elim
 | c k y s => exact ym0 k x y s hp.1 hp.2.1 hp.2.2
 | d k y s z t => exact hp.elim
def yat (L : zac) : zh5 := (85, fun raw ob => match raw with
 | [.ref id 0, .str _] => match yey ob id with
   | some (.b k x s) => some ⟨[.ref 500000 0, .str nmA], dkO 500005 (.b k x s), L zde k, .int .i64 0, dkO 500005 (.b (L inc k) x x)⟩
   | _ => none
 | _ => none)
theorem yri (k : Int) (x s : List UInt8) (hk : zde k) : zb3 Tryz.prog 85 [.ref 500000 0, .str nmA] (dkO 500005 (.b k x s)) (.int .i64 0) (dkO 500005 (.b (inc k) x x)) := by
 refine zau (T := tt) (S := fun L => zbg [] [zoo, zkd L]) (lo := noA) (lb := noA) 8 (fn := Tryz.f85) (xs := fun L => [.ref 500000 0, .str nmA]) (rts := fun _ => [.int .i64 0]) (O := fun L => dkO 500005 (.b k x s)) (O1 := fun L => dkO 500005 (.b (L inc k) x x))
   rfl rfl (by kernel_rfl) (by kernel_rfl) (by kernel_rfl) zah (zaj trivial ⟨znh, zi5, trivial⟩) (by kernel_rfl) ?_
 intro L P' Q' hL hP hQ
 (cbv; try simp only [syT, true_and, and_true])
 subst hL
 have e0 : ieq 0 0 = true := by decide
 simp [std, e0, DkS.k, hk]
theorem yau : zd7 Tryz.prog (yat std) := by
 intro raw ob T hT hp
 unfold yat at hT
 simp only at hT
 repeat' split at hT
 all_goals first | (cases hT; done) | (cases hT; exact yri _ _ _ hp)
def sdO (k : Int) (x s : List UInt8) : List (Nat × Ob) := [(500000, zxn 500001 18 .nils k), (500001, .mapl .s [(.s nmA, .ref 500003 0)]), (18, .mapl .s [(.s nmA, .ref 500003 0)]), (500003, zdk x s)]
def yb7 (L : zac) : zh5 := (86, fun raw ob => match raw with
 | [.ref id 0] => match yey ob id with
   | some (.b k x s) => some ⟨[.ref 500000 0], dkO 500005 (.b k x s), L zde k, .int .i64 0, sdO (L inc k) x s⟩
   | _ => none
 | _ => none)
theorem yrs (k : Int) (x s : List UInt8) (hk : zde k) : zb3 Tryz.prog 86 [.ref 500000 0] (dkO 500005 (.b k x s)) (.int .i64 0) (sdO (inc k) x s) := by
 refine zau (T := tt) (S := fun L => zbg [] [ynl, zkd L, zlg]) (lo := noA) (lb := noA) 8 (fn := Tryz.f86) (xs := fun L => [.ref 500000 0]) (rts := fun _ => [.int .i64 0]) (O := fun L => dkO 500005 (.b k x s)) (O1 := fun L => sdO (L inc k) x s)
   rfl rfl (by kernel_rfl) (by kernel_rfl) (by kernel_rfl) zah (zaj trivial ⟨zm3, zi5, zmw, trivial⟩) (by kernel_rfl) ?_
 intro L P' Q' hL hP hQ
 (cbv; try simp only [syT, true_and, and_true])
 subst hL
 have e0 : ieq 0 0 = true := by decide
 simp [std, e0, DkS.k, hk]
theorem yb8 : zd7 Tryz.prog (yb7 std) := by
 intro raw ob T hT hp
 unfold yb7 at hT
 simp only at hT
 repeat' split at hT
 all_goals first | (cases hT; done) | (cases hT; exact yrs _ _ _ hp)
def yc4 : zh5 := (88, fun raw ob => match raw with
 | [.ref id 0, .str _] => match yey ob id with
   | some (.c k x s) => some ⟨[.ref 500000 0, .str nmA], dkO 500005 (.c k x s), True, .tup [.str x, .int .i64 0], dkO 500005 (.c k x s)⟩
   | _ => none
 | _ => none)
theorem ys9 (k : Int) (x s : List UInt8) : zb3 Tryz.prog 88 [.ref 500000 0, .str nmA] (dkO 500005 (.c k x s)) (.tup [.str x, .int .i64 0]) (dkO 500005 (.c k x s)) := by
 refine zau (T := tt) (S := fun L => zbg [] [zoo]) (lo := noA) (lb := noA) 8 (fn := Tryz.f88) (xs := fun L => [.ref 500000 0, .str nmA]) (rts := fun _ => [.str x, .int .i64 0]) (O := fun L => dkO 500005 (.c k x s)) (O1 := fun L => dkO 500005 (.c k x s))
   rfl rfl (by kernel_rfl) (by kernel_rfl) (by kernel_rfl) zah (zaj trivial ⟨znh, trivial⟩) (by kernel_rfl) ?_
 intro L P' Q' hL hP hQ
 (cbv; try simp only [syT, true_and, and_true])
 subst hL
 have e0 : ine 0 0 = false := by decide
 simp [std, e0]
theorem yc5 : zd7 Tryz.prog yc4 := by
 intro raw ob T hT hp
 unfold yc4 at hT
 simp only at hT
 repeat' split at hT
 all_goals first | (cases hT; done) | (cases hT; exact ys9 _ _ _)
def zq3 : zh5 := (108, fun raw ob => match raw with
 | [.mp n] => match ob n with
   | some (.mapl _ [(_, .ref i _)]) => some ⟨[.mp 500001], yl6 (zbx (ob i)).1 (zbx (ob i)).2, True, .fn 120 [] [.ref 1 0], zce [(1, .box 149 [.mp 500001])] (yl6 (zbx (ob i)).1 (zbx (ob i)).2)⟩
   | _ => none
 | _ => none)
theorem yk1 (x s : List UInt8) : zb3 Tryz.prog 108 [.mp 500001] (yl6 x s) (.fn 120 [] [.ref 1 0]) (zce [(1, .box 149 [.mp 500001])] (yl6 x s)) := by
 refine zau (T := tt) (S := fun L => zbg [] []) (lo := noA) (lb := noA) 8 (fn := Tryz.f108) (xs := fun L => [.mp 500001]) (rts := fun _ => [.fn 120 [] [.ref 1 0]]) (O := fun L => yl6 x s) (O1 := fun L => zce [(1, .box 149 [.mp 500001])] (yl6 x s))
   rfl rfl (by kernel_rfl) (by kernel_rfl) (by kernel_rfl) zah (zaj trivial trivial) (by kernel_rfl) ?_
 intro L P' Q' hL hP hQ
 (cbv; try simp only [syT, true_and, and_true])
theorem zo7 : zd7 Tryz.prog zq3 := by
 intro raw ob T hT hp
 unfold zq3 at hT
 simp only at hT
 repeat' split at hT
 all_goals first | (cases hT; done) | (cases hT; exact yk1 _ _)
def ztw : zh5 := (89, fun raw ob => match raw with
 | [.ref id 0] => match yey ob id with
   | some (.c k x s) => some ⟨[.ref 500000 0], dkO 500005 (.c k x s), True, .lst 1 1 (fun _ _ => .str nmA), dkO 500005 (.c k x s)⟩
   | _ => none
 | _ => none)
theorem ynw (k : Int) (x s : List UInt8) : zb3 Tryz.prog 89 [.ref 500000 0] (dkO 500005 (.c k x s)) (.lst 1 1 (fun _ _ => .str nmA)) (dkO 500005 (.c k x s)) := by
 refine zau (T := tt) (S := fun L => zbg [] [ynl, zq3, zkz]) (lo := noA) (lb := noA) 8 (fn := Tryz.f89) (xs := fun L => [.ref 500000 0]) (rts := fun _ => [.lst 1 1 (fun _ _ => .str nmA)]) (O := fun L => dkO 500005 (.c k x s)) (O1 := fun L => dkO 500005 (.c k x s))
   rfl rfl (by kernel_rfl) (by kernel_rfl) (by kernel_rfl) zah (zaj trivial ⟨zm3, zo7, zlr, trivial⟩) (by kernel_rfl) ?_
 intro L P' Q' hL hP hQ
 (cbv; try simp only [syT, true_and, and_true])
 subst hL
 have e0 : ine 0 0 = false := by decide
 simp [std, e0]
theorem zz3 : zd7 Tryz.prog ztw := by
 intro raw ob T hT hp
 unfold ztw at hT
 simp only at hT
 repeat' split at hT
 all_goals first | (cases hT; done) | (cases hT; exact ynw _ _ _)
def yd0 (x s : List UInt8) (i : Nat) : List UInt8 := if i = 0 then x else s
def isZ (i : Nat) : Bool := decide (i = 0)
def crA (L : zac) (k : Int) (x s y t : List UInt8) : Nat -> St -> Option Ann := fun id st => match id with
 | 0 => some ⟨Nat, fun i => [(21, .int .i64 (L za6 i))], fun _ => [], [0, 1, 2, 19, 20], [500000, 500001, 500002, 500003, 500004, 500005], fun i => L (fun i => i <= 1) i, fun i => L (fun (i : Nat) => 1 - i) i⟩
 | 2 => some ⟨Nat, fun i => [(51, .int .i64 (L za6 i)), (9, .int .i64 (L za6 i))], fun i => [(500000, zuk (.sl 500005 4 0 1) k), (500001, .mapl .s [(.s nmA, .ref 500003 0), (.s nmB, .ref 500004 0)]), (500002, .mapl .s [(.s nmA, .ref 500003 0)]), (500003, .box 156 [.str (L3 L yd0 x s i), .str s]), (500004, zdk y t), (43, .mapq (L isZ i))], [0, 2, 8, 49, 50], [500005], fun i => L (fun i => i <= 1) i, fun i => L (fun (i : Nat) => 1 - i) i⟩
 | _ => none
def crO (k : Int) (s : List UInt8) : List (Nat × Ob) := [(500000, zxn 19 500002 .nils k), (19, .mapl .s [(.s nmA, .ref 500003 0)]), (500002, .mapl .s [(.s nmA, .ref 500003 0)]), (500003, zdk s s)]
def zum (L : zac) : zh5 := (87, fun raw ob => match raw with
 | [.ref id 0, .nils, .nils] => match yey ob id with
   | some (.d k x s y t) => some ⟨[.ref 500000 0, .nils, .nils], dkO 500005 (.d k x s y t), L zd3 s, .tup [], crO k s⟩
   | _ => none
 | _ => none)
theorem ypn (k : Int) (x s y t : List UInt8) (hs : zd3 s) : zb3 Tryz.prog 87 [.ref 500000 0, .nils, .nils] (dkO 500005 (.d k x s y t)) (.tup []) (crO k s) := by
 refine zau (T := tt) (S := fun L => zbg [] [ytw, zq3, zkz, ye0 L, zlg]) (lo := fun L => crA L k x s y t) (lb := noA) 12 (fn := Tryz.f87) (xs := fun L => [.ref 500000 0, .nils, .nils]) (rts := fun _ => []) (O := fun L => dkO 500005 (.d k x s y t)) (O1 := fun L => crO k s)
   rfl rfl (by kernel_rfl) (by kernel_rfl) (by kernel_rfl) zah (zaj trivial ⟨zuj, zo7, zlr, ye1, zmw, trivial⟩) (by kernel_rfl) ?_
 intro L P' Q' hL hP hQ
 (cbv; try simp only [syT, true_and, and_true])
 refine ⟨fun h => (by cases h), fun _ => ⟨⟨0, ?_⟩, fun i hi => ?_⟩⟩
 · (cbv; try simp only [syT, true_and, and_true])
   subst hL
   exact ⟨fun _ _ _ _ => trivial, rfl, Nat.zero_le _⟩
 · (cbv; try simp only [syT, true_and, and_true])
   refine ⟨fun h2 => ⟨?_, fun h3 => ?_, fun h3 => ⟨i + 1, ?_⟩⟩, fun h2 => ⟨⟨0, ?_⟩, fun j hj => ?_⟩⟩
   · subst hL
     have h2 : ilt (za6 i) (za6 1) = true := h2
     rw [zc2] at h2
     show inR (za6 i) (za6 1) = true
     rw [zfj]
     exact ⟨Int.natCast_nonneg _, h2⟩
   · subst hL
     have h3 : ilt (za6 i) 0 = true := h3
     rw [zc2] at h3
     unfold za6 at h3
     omega
   · (cbv; try simp only [syT, true_and, and_true])
     subst hL
     have hi : i <= 1 := hi
     have h2 : ilt (za6 i) (za6 1) = true := h2
     rw [zc2] at h2
     unfold za6 at h2
     refine ⟨fun _ _ _ _ => trivial, ?_, ?_, ?_⟩
     · show zbt .i64 (za6 i) 1 = za6 (i + 1)
       unfold zbt za6
       rw [zco]
       omega
     · show i + 1 <= 1
       omega
     · show 1 - (i + 1) < 1 - i
       omega
   · (cbv; try simp only [syT, true_and, and_true])
     subst hL
     exact ⟨fun _ _ _ _ => trivial, fun _ => trivial, rfl, fun _ _ _ _ => trivial, rfl, rfl, Nat.zero_le _⟩
   · (cbv; try simp only [syT, true_and, and_true])
     refine ⟨fun h3 => ⟨?_, ?_, fun h => (by cases h), fun _ => ⟨fun h4 => ?_, fun h4 => ⟨?_, ?_, ⟨j + 1, ?_⟩⟩⟩⟩, fun h3 => ?_⟩
     · subst hL
       have h3 : ilt (za6 j) (za6 1) = true := h3
       rw [zc2] at h3
       show inR (za6 j) (za6 1) = true
       rw [zfj]
       exact ⟨Int.natCast_nonneg _, h3⟩
     · subst hL
       have h3 : ilt (za6 j) (za6 1) = true := h3
       rw [zc2] at h3
       unfold za6 at h3
       exact decide_eq_true (show j = 0 by omega)
     · subst hL
       have h4 : ilt (za6 j) 0 = true := h4
       rw [zc2] at h4
       unfold za6 at h4
       omega
     · subst hL
       exact hs
     · subst hL
       have h3 : ilt (za6 j) (za6 1) = true := h3
       rw [zc2] at h3
       unfold za6 at h3
       exact decide_eq_true (show j = 0 by omega)
     · (cbv; try simp only [syT, true_and, and_true])
       subst hL
       have hj : j <= 1 := hj
       have h3 : ilt (za6 j) (za6 1) = true := h3
       rw [zc2] at h3
       unfold za6 at h3
       have ew : zbt .i64 (za6 j) 1 = za6 (j + 1) := by
         unfold zbt za6
         rw [zco]
         omega
       refine ⟨fun _ _ _ _ => trivial, fun h => ?_, ?_, fun _ _ _ _ => trivial, ew, ew, ?_, ?_⟩
       · have h : decide (j + 1 = 0) = true := h
         simp at h
       · show s = yd0 x s (j + 1)
         unfold yd0
         rw [if_neg (by omega)]
       · show j + 1 <= 1
         omega
       · show 1 - (j + 1) < 1 - j
         omega
     · subst hL
       have h3 : ilt (za6 j) (za6 1) = false := h3
       rw [zdw] at h3
       unfold za6 at h3
       show yd0 x s j = s
       unfold yd0
       rw [if_neg (by omega)]
theorem zzo : zd7 Tryz.prog (zum std) := by
 intro raw ob T hT hp
 unfold zum at hT
 simp only at hT
 repeat' split at hT
 all_goals first | (cases hT; done) | (cases hT; exact ypn _ _ _ _ _ hp)
theorem zzx : zae Tryz.prog 75 [] (.bool true) := by
 refine zad (T := tt) (S := fun L => zbg [] [ynv L, zt6 L, yat L, yb7 L, zum L, yc4, ztw]) (lo := noA) (lb := noA) 12 (fn := Tryz.f75) rfl rfl (by kernel_rfl) (by kernel_rfl) rfl zah (zaj trivial ⟨yia, zxz, yau, yb8, zzo, yc5, zz3, trivial⟩) (by kernel_rfl) ?_
 intro L P' Q' hL hP hQ
 (cbv; try simp only [syT, true_and, and_true])
 subst hL
 subst hQ
 have e0 : ine 0 0 = false := by decide
 have e1 : ieq 0 0 = true := by decide
 have s0 : zde 0 := ⟨by decide, by decide⟩
 have s1 : zde (inc 0) := ⟨by decide, by decide⟩
 have s2 : zde (inc (inc 0)) := ⟨by decide, by decide⟩
 have s3 : zde (inc (inc (inc 0))) := ⟨by decide, by decide⟩
 have w1 : yur [120] (.a 0) := ⟨s0, by decide⟩
 have w2 : yur [121] (.c (inc (inc (inc 0))) [120] [120]) := ⟨s3, by decide, by decide⟩
 have sh : zd3 [120] := by unfold zd3; decide
 have q1 : seq [120] [120] = true := by decide
 have q2 : ieq (za6 1) 1 = true := by decide
 simp [std, e0, e1, s1, s2, w1, w2, sh, q1, q2, zcb]
theorem ya5 : zae Tryz.prog 59 [] (.bool true) := by
 refine zad (T := tt) (S := fun L => zbe [tru 74]) (lo := noA) (lb := noA) 5 (fn := Tryz.f59) rfl rfl (by kernel_rfl) (by kernel_rfl) rfl zah (zab ⟨zcx zzz, trivial⟩) (by kernel_rfl) ?_
 (intro L P1 Q1 hL hP hQ; cbv; subst hL; simp only [L2, L3, std, syT]; subst hQ)
 (simp only [syS, reduceCtorEq, Int.reduceToNat, Int.reduceAdd, Int.reduceSub])
theorem ya3 : zae Tryz.prog 60 [] (.bool true) := by
 refine zad (T := tt) (S := fun L => zbe [tru 75]) (lo := noA) (lb := noA) 5 (fn := Tryz.f60) rfl rfl (by kernel_rfl) (by kernel_rfl) rfl zah (zab ⟨zcx zzx, trivial⟩) (by kernel_rfl) ?_
 (intro L P1 Q1 hL hP hQ; cbv; subst hL; simp only [L2, L3, std, syT]; subst hQ)
 (simp only [syS, reduceCtorEq, Int.reduceToNat, Int.reduceAdd, Int.reduceSub])
theorem zzw : zae Tryz.prog 42 [] (.bool true) := by
 refine zad (T := tt) (S := fun L => zbe [zvg L, yct L, yp6, tru 56, tru 59, tru 60]) (lo := noA) (lb := noA) 5 (fn := Tryz.f42) rfl rfl (by kernel_rfl) (by kernel_rfl) rfl zah (zab ⟨zqr, ycu, yju, zcx zkg, zcx ya5, zcx ya3, trivial⟩) (by kernel_rfl) ?_
 (intro L P1 Q1 hL hP hQ; cbv; subst hL; simp only [L2, L3, std, syT]; subst hQ)
 have e1 : opV (slT [97]) = [97] := ysj [97] (by decide)
 have e2 : opE (slT [97]) = 0 := ysk [97] (by decide)
 have h1 : upto 100000 [97] := by show [97].length <= 100000; decide
 have hk := zc7 (zgh [97] (by decide))
 have h2 : upto 100000 (slT [97]) := by
   have := yaz [97]
   show (slT [97]).length <= 100000
   have e : [(97 : UInt8)].length = 1 := rfl
   omega
 rw [e1, e2]
 have q1 : ieq 0 0 = true := by decide
 have q2 : seq [97] [97] = true := by decide
 have q3 : ieq 4 4 = true := by decide
 simp [h1, h2, q1, q2, q3, zcb]
theorem ya2 : zae Tryz.prog 23 [] (.bool true) := by
 refine zad (T := tt) (S := fun L => zbe [tru 42]) (lo := noA) (lb := noA) 5 (fn := Tryz.f23) rfl rfl (by kernel_rfl) (by kernel_rfl) rfl zah (zab ⟨zcx zzw, trivial⟩) (by kernel_rfl) ?_
 (intro L P1 Q1 hL hP hQ; cbv; subst hL; simp only [L2, L3, std, syT]; subst hQ)
 (simp only [syS, reduceCtorEq, Int.reduceToNat, Int.reduceAdd, Int.reduceSub])
theorem zke : ∀ l : List CV, zdu l = true ↔ ∀ i, i < l.length -> zfb (zax l i) = true
 | [] => by rw [zdu]; simp
 | v :: l => by
   rw [zdu, Bool.and_eq_true, zke l]
   refine ⟨fun ⟨h1, h2⟩ i hi => ?_, fun h => ⟨h 0 (by simp), fun i hi => h (i + 1) (by simpa using hi)⟩⟩
   cases i with
   | zero => exact h1
   | succ i => exact h2 i (by simpa using hi)
def yjl (l : List CV) : Int := if zdu l = true then -1 else (l.findIdx fun v => !zfb v : Nat)
def yue (l : List CV) (i : Nat) : Prop := i <= l.length /\ ∀ j, j < i -> zfb (zax l j) = true
theorem yov {l : List CV} {i : Nat} (hi : i < l.length) (h : ∀ j, j < i -> zfb (zax l j) = true) (hn : zfb (zax l i) = false) : yjl l = (i : Int) := by
 have hb : ¬ zdu l = true := by
   rw [zke]
   intro h2
   have := h2 i hi
   rw [hn] at this; cases this
 rw [yjl, if_neg hb]
 congr 1
 rw [List.findIdx_eq hi]
 have get : ∀ (j : Nat) (hj : j < l.length), l[j] = zax l j := by
   intro j hj
   rw [zax, List.getD_eq_getElem?_getD, List.getElem?_eq_getElem hj]; rfl
 refine ⟨by rw [get i hi, hn]; rfl, fun j hj => ?_⟩
 have hj' := h j hj
 rw [get j (by omega), hj']; rfl
theorem yjk {l : List CV} (h : ∀ j, j < l.length -> zfb (zax l j) = true) : yjl l = -1 := by rw [yjl, if_pos ((zke l).2 h)]
theorem yot (l : List CV) : (0 <= yjl l) = (zdu l = false) := by
 unfold yjl
 split
 · rename_i h; rw [h]; simp
 · rename_i h; simp at h; rw [h]; simp
def yv6 (N : Nat) (L : zac) : zcr := (67, fun xs => match xs with
 | [.agg [.int .i64 k, .int .u64 n, .str s, x]] => some (L okL x /\ L2 L zn7 N (mkV L k n s x), .bool (L not (L zfb (mkV L k n s x))))
 | _ => none)
def yv3 (N : Nat) (L : zac) : zcr := (77, fun xs => match xs with
 | [x, .fn 67 [] []] => some (L okL x /\ L2 L zt9 N (L rdL x), .int .i64 (L yjl (L rdL x)))
 | _ => none)
def yx7 (N : Nat) (L : zac) : zcr := (66, fun xs => match xs with
 | [x, .fn 67 [] []] => some (L okL x /\ L2 L zt9 N (L rdL x), .bool (L not (L zdu (L rdL x))))
 | _ => none)
def zod (N : Nat) (L : zac) : zcr := (50, fun xs => match xs with
 | [.agg [.int .i64 k, .int .u64 n, .str s, x]] => some (L okL x /\ L2 L zn7 N (mkV L k n s x), .bool (L zfb (mkV L k n s x)))
 | _ => none)
theorem ywj (l : List CV) : ieq ((lenL l : Nat) : Int) 0 = l.isEmpty := by
 cases l with
 | nil => rfl
 | cons v l =>
   simp [lenL, ieq]
   omega
theorem yte (a b : Int) : (ile a b = false) = ¬ a <= b := by simp [ile]
theorem yxj {N : Nat} (ih : zcu Tryz.prog (zod N std)) : zcu Tryz.prog (yv6 N std) := by
 intro xs p r h hp
 unfold yv6 at h
 simp only at h
 split at h
 rotate_left
 · cases h
 rename_i k n s x
 cases h
 obtain ⟨ho, hz⟩ := hp
 refine yr0 ho ?_
 rw [show mkV std k n s x = .mk k n s (rdL x) from rfl] at hz |-
 generalize rdL x = l at hz |-
 have hz : zn7 N (.mk k n s l) := hz
 refine zal (xs := fun L => [.agg [.int .i64 k, .int .u64 n, .str s, cvL L l]]) (T := tt) (S := fun L => zbe [zod N L]) (lo := noA) (lb := noA) 5 (fn := Tryz.f67) rfl rfl (by kernel_rfl) (by kernel_rfl) rfl zah (zab ⟨ih, trivial⟩) (by kernel_rfl) ?_
 intro L P' Q' hL hP hQ
 (cbv; try simp only [syT, true_and, and_true])
 (subst hL; subst hQ; simp only [L2, L3, std] at *; try simp only [syS, reduceCtorEq, Int.reduceToNat, Int.reduceAdd, Int.reduceSub] at *)
 rw [rdl, mkl]
 exact ⟨⟨okl l, hz⟩, rfl⟩
def ifA (L : zac) (l : List CV) : Nat -> St -> Option Ann := fun id s => match id with
 | 0 => some ⟨Nat, fun i => [(8, .int .i64 (L za6 i))], fun i => [], [0, 1, 6, 7], [],
     fun i => L2 L yue l i, fun i => L2 L (fun (l : List CV) (i : Nat) => l.length - i) l i⟩
 | _ => none
theorem ywt {N : Nat} (ih : zcu Tryz.prog (yv6 N std)) : zcu Tryz.prog (yv3 N std) := by
 intro xs p r h hp
 unfold yv3 at h
 simp only at h
 split at h
 rotate_left
 · cases h
 rename_i x
 cases h
 obtain ⟨ho, hz⟩ := hp
 refine yv7 ho ?_
 have hz : zt9 N (rdL x) := hz
 show zae _ _ _ (.int .i64 (yjl (rdL x)))
 generalize rdL x = l at hz |-
 refine zal (T := tt) (S := fun L => zbe [yv6 N L]) (lo := fun L => ifA L l) (lb := noA) 5 (fn := Tryz.f77) (xs := fun L => [cvL L l, .fn 67 [] []]) rfl rfl (by kernel_rfl) (by kernel_rfl) rfl zah
   (zab ⟨ih, trivial⟩) (by kernel_rfl) ?_
 intro L P' Q' hL hP hQ
 (cbv; try simp only [syT, true_and, and_true])
 refine ⟨⟨0, ?_⟩, fun i hi => ?_⟩
 · (cbv; try simp only [syT, true_and, and_true])
   (subst hL; subst hQ; simp only [L2, L3, std] at *; try simp only [syS, reduceCtorEq, Int.reduceToNat, Int.reduceAdd, Int.reduceSub] at *)
   exact ⟨Nat.zero_le _, fun j hj => by omega⟩
 · cbv at hi
   (cbv; try simp only [syT, true_and, and_true])
   refine ⟨fun hlt => ⟨?_, ⟨?_, ?_⟩, fun hb => ?_, fun hb => ⟨i + 1, ?_⟩⟩, fun hge => ?_⟩
   · (subst hL; subst hQ; simp only [L2, L3, std] at *; try simp only [syS, reduceCtorEq, Int.reduceToNat, Int.reduceAdd, Int.reduceSub] at *)
     omega
   · (subst hL; subst hQ; simp only [L2, L3, std] at *; try simp only [syS, reduceCtorEq, Int.reduceToNat, Int.reduceAdd, Int.reduceSub] at *)
     exact (zk0 _).2
   · (subst hL; subst hQ; simp only [L2, L3, std] at *; try simp only [syS, reduceCtorEq, Int.reduceToNat, Int.reduceAdd, Int.reduceSub] at *)
     rw [zer]
     exact zrh hz (by have : lenL l = l.length := rfl; omega)
   · (subst hL; subst hQ; simp only [L2, L3, std] at *; try simp only [syS, reduceCtorEq, Int.reduceToNat, Int.reduceAdd, Int.reduceSub] at *)
     rw [zbs] at hb
     exact (yov (by have : lenL l = l.length := rfl; omega) hi.2 hb).symm
   · (cbv; try simp only [syT, true_and, and_true])
     (subst hL; subst hQ; simp only [L2, L3, std] at *; try simp only [syS, reduceCtorEq, Int.reduceToNat, Int.reduceAdd, Int.reduceSub] at *)
     rw [zbs] at hb
     have : lenL l = l.length := rfl
     have := zmb l
     have h1 := hz.1
     have h2 := hz.2
     refine ⟨by omega, ⟨by omega, fun j hj => ?_⟩, by omega⟩
     by_cases e : j = i
     · rw [e]; exact hb
     · exact hi.2 j (by omega)
   · (subst hL; subst hQ; simp only [L2, L3, std] at *; try simp only [syS, reduceCtorEq, Int.reduceToNat, Int.reduceAdd, Int.reduceSub] at *)
     have : lenL l = l.length := rfl
     exact (yjk fun j hj => hi.2 j (by omega)).symm
theorem yx8 {N : Nat} (ih : zcu Tryz.prog (yv3 N std)) : zcu Tryz.prog (yx7 N std) := by
 intro xs p r h hp
 unfold yx7 at h
 simp only at h
 split at h
 rotate_left
 · cases h
 rename_i x
 cases h
 obtain ⟨ho, hz⟩ := hp
 refine yv7 ho ?_
 have hz : zt9 N (rdL x) := hz
 show zae _ _ _ (.bool (not (zdu (rdL x))))
 generalize rdL x = l at hz |-
 refine zal (xs := fun L => [cvL L l, .fn 67 [] []]) (T := tt) (S := fun L => zbe [yv3 N L]) (lo := noA) (lb := noA) 5 (fn := Tryz.f66) rfl rfl (by kernel_rfl) (by kernel_rfl) rfl zah (zab ⟨ih, trivial⟩) (by kernel_rfl) ?_
 intro L P' Q' hL hP hQ
 (cbv; try simp only [syT, true_and, and_true])
 (subst hL; subst hQ; simp only [L2, L3, std] at *; try simp only [syS, reduceCtorEq, Int.reduceToNat, Int.reduceAdd, Int.reduceSub] at *)
 rw [rdl]
 refine ⟨⟨okl l, hz⟩, ?_⟩
 have := yot l
 cases hb : zdu l with
 | true =>
   rw [hb] at this
   simp only [Bool.true_eq_false, eq_iff_iff, iff_false] at this
   have h : ile 0 (yjl l) = false := by rw [yte]; exact this
   rw [h]; rfl
 | false =>
   rw [hb] at this
   simp only [eq_iff_iff, iff_true] at this
   simpa [ile] using this
theorem yg2 : ∀ N, zcu Tryz.prog (zod N std) := by
 intro N
 induction N with
 | zero =>
   intro xs p r h hp
   unfold zod at h
   simp only at h
   split at h
   · rename_i k n s x
     cases h
     have h1 : sizeC (mkV std k n s x) <= 0 := hp.2.1
     have := zf0 (mkV std k n s x)
     omega
   · cases h
 | succ N ih =>
   intro xs p r h hp
   unfold zod at h
   simp only at h
   split at h
   rotate_left
   · cases h
   rename_i k n s x
   cases h
   obtain ⟨ho, hz⟩ := hp
   refine yr0 ho ?_
   rw [show mkV std k n s x = .mk k n s (rdL x) from rfl] at hz |-
   generalize rdL x = l at hz |-
   have hz : zn7 (N + 1) (.mk k n s l) := hz
   refine zal (T := tt) (S := fun L => zbe [yx7 N L]) (lo := noA) (lb := noA) 5 (fn := Tryz.f50) (xs := fun L => [.agg [.int .i64 k, .int .u64 n, .str s, cvL L l]]) rfl rfl (by kernel_rfl) (by kernel_rfl) rfl zah
     (zab ⟨yx8 (ywt (yxj ih)), trivial⟩) (by kernel_rfl) ?_
   intro L P' Q' hL hP hQ
   (cbv; try simp only [syT, true_and, and_true])
   (subst hL; subst hQ; simp only [L2, L3, std] at *; try simp only [syS, reduceCtorEq, Int.reduceToNat, Int.reduceAdd, Int.reduceSub] at *)
   simp only [rdl, ywj]
   rw [zcj] at hz
   rw [zfb]
   by_cases h1 : k = 1
   · simp [h1]
     exact ⟨fun a _ => a, fun a b => absurd b a⟩
   · by_cases h2 : k = 2
     · simp [h2]
       exact ⟨fun a _ => a, fun a b => absurd b a⟩
     · by_cases h3 : k = 3
       · simp [h3]
         refine ⟨fun h4 => ⟨fun h5 => ⟨⟨okl l, hz.1⟩, by simp [h4, h5]⟩, fun h5 => by simp [h5]⟩, fun h4 => by simp [h4]⟩
       · simp [h1, h2, h3]
mutual
def wfV : CV -> Prop
 | .mk _ n s l => zc8 n /\ s.length <= 9223372036854775807 /\ zgd l
def zgd : List CV -> Prop
 | [] => True
 | v :: l => wfV v /\ zgd l
end
theorem zng : ∀ {l : List CV} {i : Nat}, zgd l -> i < l.length -> wfV (zax l i)
 | [], i, _, h => by simp at h
 | v :: l, 0, w, _ => by rw [zgd] at w; exact w.1
 | v :: l, i + 1, w, h => by rw [zgd] at w; exact zng (l := l) w.2 (by simpa using h)
theorem zhv (l : List CV) : ∀ i, (zfx l i).length <= (zao l).length := by
 intro i
 have := zhw (l.take i) (l.drop i)
 rw [List.take_append_drop] at this
 rw [this, List.length_append, zfx]; omega
theorem zai (k n : Int) (s : List UInt8) (l : List CV) : zbb (.mk k n s l) = zeu k ++ if k = 1 then zav n else if k = 2 then zav s.length ++ s else zav l.length ++ zao l := by rw [zbb]
def zt2 (v : CV) : Prop := wfV v /\ (zbb v).length <= 90000000
theorem zom {k n : Int} {s : List UInt8} {l : List CV} : zt2 (.mk k n s l) = ((zc8 n /\ s.length <= 9223372036854775807 /\ zgd l) /\ (zbb (.mk k n s l)).length <= 90000000) := by
 unfold zt2; rw [wfV]
theorem zfw {x : Int} (h : 0 <= x) (h1 : x < 18446744073709551616) : x % 18446744073709551616 = x := Int.emod_eq_of_lt h h1
theorem zh6 {k n : Int} {s : List UInt8} {l : List CV} (h : wfV (.mk k n s l)) : (s.length : Int) % 18446744073709551616 = s.length := by
 rw [wfV] at h
 exact zfw (by omega) (by omega)
theorem zho {N : Nat} {k n : Int} {s : List UInt8} {l : List CV} (h : zn7 (N + 1) (.mk k n s l)) : zc8 ((l.length : Nat) : Int) := by
 rw [zcj] at h
 have := zmb l
 have h1 := h.1.1
 have h2 := h.1.2
 exact ⟨by omega, by omega⟩
theorem zge {N : Nat} {k n : Int} {s : List UInt8} {l : List CV} (h : zn7 (N + 1) (.mk k n s l)) : ((lenL l : Nat) : Int) % 18446744073709551616 = ((l.length : Nat) : Int) := by
 have := zho h
 exact zfw this.1 this.2
theorem yar {k n : Int} {s : List UInt8} {l : List CV} (h : zt2 (.mk k n s l)) (h1 : k ≠ 1) (h2 : k ≠ 2) {i : Nat} (hi : i < l.length) : zt2 (zax l i) := by
 rw [zom] at h
 refine ⟨zng h.1.2.2 hi, ?_⟩
 have h3 := h.2
 have h4 := zdd hi
 have h5 := zhv l (i + 1)
 rw [h4, List.length_append] at h5
 rw [zai, if_neg h1, if_neg h2] at h3
 simp only [List.length_append] at h3
 omega
def znl (k : Int) (l : List CV) (i : Nat) : List UInt8 := zeu k ++ zav l.length ++ zfx l i
def yrv (L : zac) (k : Int) (l : List CV) : Nat -> St -> Option Ann := fun id s => match id with
 | 0 => some ⟨Nat, fun i => [(42, .int .i64 (L za6 i)), (3, .str (L3 L znl k l i))], fun i => [], [40, 41], [],
     fun i => L2 L (fun (l : List CV) i => i <= l.length) l i, fun i => L2 L (fun (l : List CV) (i : Nat) => l.length - i) l i⟩
 | _ => none
def zlw (N : Nat) (L : zac) : zcr := (40, fun xs => match xs with
 | [.agg [.int .i64 k, .int .u64 n, .str s, x]] => some (L okL x /\ L2 L zn7 N (mkV L k n s x) /\ L zt2 (mkV L k n s x), .str (L zbb (mkV L k n s x)))
 | _ => none)
theorem zyo : ∀ N, zcu Tryz.prog (zlw N std) := by
 intro N
 induction N with
 | zero =>
   intro xs p r h hp
   unfold zlw at h
   simp only at h
   split at h
   · rename_i k n s x
     cases h
     have h1 : sizeC (mkV std k n s x) <= 0 := hp.2.1.1
     have := zf0 (mkV std k n s x)
     omega
   · cases h
 | succ N ih =>
   intro xs p r h hp
   unfold zlw at h
   simp only at h
   split at h
   rotate_left
   · cases h
   rename_i k n s x
   cases h
   obtain ⟨ho, hz, hw⟩ := hp
   refine yr0 ho ?_
   rw [show mkV std k n s x = .mk k n s (rdL x) from rfl] at hz hw |-
   generalize rdL x = l at hz hw |-
   have hz : zn7 (N + 1) (.mk k n s l) := hz
   have hw : zt2 (.mk k n s l) := hw
   refine zal (T := tt) (S := fun L => zbe [zov L, zlw N L]) (lo := fun L => yrv L k l) (lb := noA) 5 (fn := Tryz.f40) (xs := fun L => [.agg [.int .i64 k, .int .u64 n, .str s, cvL L l]]) rfl rfl (by kernel_rfl) (by kernel_rfl) rfl zah
     (zab ⟨ztg, ih, trivial⟩) (by kernel_rfl) ?_
   intro L P' Q' hL hP hQ
   (cbv; try simp only [syT, true_and, and_true])
   refine ⟨?_, fun h1 => ⟨?_, ?_, ?_⟩, fun h1 => ⟨fun h2 => ⟨?_, ?_, ?_, ?_⟩, fun h2 => ⟨?_, ?_, ⟨0, ?_⟩, fun i hi => ?_⟩⟩⟩
   · (subst hL; subst hQ; simp only [L2, L3, std] at *; try simp only [syS, reduceCtorEq, Int.reduceToNat, Int.reduceAdd, Int.reduceSub] at *)
     exact ⟨Nat.le_refl _, fun i hi => ⟨_, rfl⟩⟩
   · (subst hL; subst hQ; simp only [L2, L3, std] at *; try simp only [syS, reduceCtorEq, Int.reduceToNat, Int.reduceAdd, Int.reduceSub] at *)
     rw [zom] at hw
     exact hw.1.1
   · (subst hL; subst hQ; simp only [L2, L3, std] at *; try simp only [syS, reduceCtorEq, Int.reduceToNat, Int.reduceAdd, Int.reduceSub] at *)
     rw [zhr]
     rw [zom] at hw
     have := zc7 hw.1.1
     simp; omega
   · (subst hL; subst hQ; simp only [L2, L3, std] at *; try simp only [syS, reduceCtorEq, Int.reduceToNat, Int.reduceAdd, Int.reduceSub] at *)
     rw [zai, if_pos h1, zhr]; rfl
   · (subst hL; subst hQ; simp only [L2, L3, std] at *; try simp only [syS, reduceCtorEq, Int.reduceToNat, Int.reduceAdd, Int.reduceSub] at *)
     rw [zom] at hw
     rw [zfw (by omega) (by omega)]
     exact ⟨by omega, by omega⟩
   · (subst hL; subst hQ; simp only [L2, L3, std] at *; try simp only [syS, reduceCtorEq, Int.reduceToNat, Int.reduceAdd, Int.reduceSub] at *)
     rw [zom] at hw
     rw [zfw (by omega) (by omega), zhr]
     have := zc7 (n := (s.length : Int)) ⟨by omega, by omega⟩
     simp; omega
   · (subst hL; subst hQ; simp only [L2, L3, std] at *; try simp only [syS, reduceCtorEq, Int.reduceToNat, Int.reduceAdd, Int.reduceSub] at *)
     rw [zh6 hw.1, zhr]
     have h3 := hw.2
     rw [zai, if_neg h1, if_pos h2] at h3
     simp at h3 |-
     omega
   · (subst hL; subst hQ; simp only [L2, L3, std] at *; try simp only [syS, reduceCtorEq, Int.reduceToNat, Int.reduceAdd, Int.reduceSub] at *)
     rw [zh6 hw.1, zhr, zai, if_neg h1, if_pos h2]
     show ([_] ++ _) ++ _ = _
     rw [List.append_assoc]; rfl
   · (subst hL; subst hQ; simp only [L2, L3, std] at *; try simp only [syS, reduceCtorEq, Int.reduceToNat, Int.reduceAdd, Int.reduceSub] at *)
     rw [zge hz]
     exact zho hz
   · (subst hL; subst hQ; simp only [L2, L3, std] at *; try simp only [syS, reduceCtorEq, Int.reduceToNat, Int.reduceAdd, Int.reduceSub] at *)
     rw [zge hz, zhr]
     have := zc7 (zho hz)
     simp; omega
   · (cbv; try simp only [syT, true_and, and_true])
     (subst hL; subst hQ; simp only [L2, L3, std] at *; try simp only [syS, reduceCtorEq, Int.reduceToNat, Int.reduceAdd, Int.reduceSub] at *)
     rw [zge hz, zhr]
     exact ⟨by rw [znl, zfx, List.take_zero, zao, List.append_nil]; rfl, Nat.zero_le _⟩
   · cbv at hi
     (cbv; try simp only [syT, true_and, and_true])
     refine ⟨fun hlt => ⟨?_, ⟨?_, ?_, ?_⟩, ?_, ⟨i + 1, ?_⟩⟩, fun hge => ?_⟩
     · (subst hL; subst hQ; simp only [L2, L3, std] at *; try simp only [syS, reduceCtorEq, Int.reduceToNat, Int.reduceAdd, Int.reduceSub] at *)
       omega
     · (subst hL; subst hQ; simp only [L2, L3, std] at *; try simp only [syS, reduceCtorEq, Int.reduceToNat, Int.reduceAdd, Int.reduceSub] at *)
       exact (zk0 _).2
     · (subst hL; subst hQ; simp only [L2, L3, std] at *; try simp only [syS, reduceCtorEq, Int.reduceToNat, Int.reduceAdd, Int.reduceSub] at *)
       rw [zer]
       rw [zcj] at hz
       exact zrh hz.1 (by have : lenL l = l.length := rfl; omega)
     · (subst hL; subst hQ; simp only [L2, L3, std] at *; try simp only [syS, reduceCtorEq, Int.reduceToNat, Int.reduceAdd, Int.reduceSub] at *)
       rw [zbs]
       exact yar hw (by omega) (by omega) (by have : lenL l = l.length := rfl; omega)
     · (subst hL; subst hQ; simp only [L2, L3, std] at *; try simp only [syS, reduceCtorEq, Int.reduceToNat, Int.reduceAdd, Int.reduceSub] at *)
       rw [zbs]
       have h3 := hw.2
       have h4 := zdd (l := l) (i := i) (by have : lenL l = l.length := rfl; omega)
       have h5 := zhv l (i + 1)
       rw [h4, List.length_append] at h5
       rw [zai, if_neg h1, if_neg h2] at h3
       simp only [List.length_append, znl] at h3 |-
       omega
     · (cbv; try simp only [syT, true_and, and_true])
       (subst hL; subst hQ; simp only [L2, L3, std] at *; try simp only [syS, reduceCtorEq, Int.reduceToNat, Int.reduceAdd, Int.reduceSub] at *)
       have : lenL l = l.length := rfl
       have := zmb l
       rw [zcj] at hz
       have h4 := hz.1.1
       have h5 := hz.1.2
       rw [zbs]
       exact ⟨by rw [znl, znl, zdd (by omega)]; simp only [List.append_assoc], by omega, by omega, by omega⟩
     · (subst hL; subst hQ; simp only [L2, L3, std] at *; try simp only [syS, reduceCtorEq, Int.reduceToNat, Int.reduceAdd, Int.reduceSub] at *)
       have : lenL l = l.length := rfl
       have hil : i = l.length := by omega
       rw [zai, if_neg h1, if_neg h2, znl, hil, zfx, List.take_length, List.append_assoc]
def zp1 (b : List UInt8) (k : Int) (l : List CV) (i : Nat) : List UInt8 := b ++ zeu k ++ zav l.length ++ zfx l i
def putA (L : zac) (b : List UInt8) (k : Int) (l : List CV) : Nat -> St -> Option Ann := fun id s => match id with
 | 1 => some ⟨Nat, fun i => [(23, .int .i64 (L za6 i))], fun i => [(500000, .box 97 [.ref 500000 0, .sl 901 1 0 (L lenN (L (L3 L zp1 b k l) i))]), (901, .row 5 1 (L lenN (L (L3 L zp1 b k l) i)) (fun j _ => .int .u8 (L2 L zap (L (L3 L zp1 b k l) i) j)))], [0, 21, 22], [],
     fun i => L2 L (fun (l : List CV) i => i <= l.length) l i, fun i => L2 L (fun (l : List CV) (i : Nat) => l.length - i) l i⟩
 | _ => none
def zr4 (N : Nat) (L : zac) : zh5 := (52, fun raw ob => match raw with
 | [.ref id 0, .agg [.int .i64 k, .int .u64 n, .str s, x]] => match yg1 L ob id with
   | some none => some ⟨[.ref 500000 0, .agg [.int .i64 k, .int .u64 n, .str s, x]], yqz, L okL x /\ L2 L zn7 N (mkV L k n s x) /\ L zt2 (mkV L k n s x), .tup [], zux L (L zbb (mkV L k n s x))⟩
   | some (some l) => some ⟨[.ref 500000 0, .agg [.int .i64 k, .int .u64 n, .str s, x]], bld L l, L okL x /\ L2 L zn7 N (mkV L k n s x) /\ L zt2 (mkV L k n s x) /\ L2 L zgj l (L zbb (mkV L k n s x)), .tup [], zux L (L2 L zaf l (L zbb (mkV L k n s x)))⟩
   | none => none
 | _ => none)
theorem yrz {b : List UInt8} {k n : Int} {s : List UInt8} {l : List CV} (h : zgj b (zbb (.mk k n s l))) : zgj b (zd2 (k % 256)) := by
 rw [zai] at h
 unfold zgj at h |-
 have : (zeu k).length = 1 := rfl
 have : (zd2 (k % 256)).length = 1 := rfl
 rw [List.length_append] at h
 omega
theorem zvn {b q : List UInt8} {k : Int} (h : zgj b (zeu k ++ q)) : zgj (zaf b (zd2 (k % 256))) q := by
 unfold zgj zaf at *
 have : (zeu k).length = 1 := rfl
 have : (zd2 (k % 256)).length = 1 := rfl
 rw [List.length_append] at h |-
 omega
theorem yl0 {b q r : List UInt8} {k : Int} (h : zgj b (zeu k ++ (q ++ r))) : zgj (zaf b (zd2 (k % 256))) q := by
 unfold zgj zaf at *
 have : (zeu k).length = 1 := rfl
 have : (zd2 (k % 256)).length = 1 := rfl
 rw [List.length_append, List.length_append] at h
 rw [List.length_append]
 omega
theorem zvj {x y : List UInt8} (h : x = y) : (lenN x = lenN y /\ ∀ i j : Nat, i < lenN y -> j < 1 -> AV.int .u8 (zap x i) = AV.int .u8 (zap y i)) /\ lenN x = lenN y := by
 subst h; exact ⟨⟨rfl, fun _ _ _ _ => rfl⟩, rfl⟩
theorem ykv {b q t : List UInt8} {k : Int} (h : t = zeu k ++ q) : (lenN (zaf (zaf b (zd2 (k % 256))) q) = lenN (zaf b t) /\ ∀ i j : Nat, i < lenN (zaf b t) -> j < 1 -> AV.int .u8 (zap (zaf (zaf b (zd2 (k % 256))) q) i) = AV.int .u8 (zap (zaf b t) i)) /\ lenN (zaf (zaf b (zd2 (k % 256))) q) = lenN (zaf b t) :=
 zvj (by rw [h]; unfold zaf; rw [List.append_assoc]; rfl)
theorem ykw {q t : List UInt8} {k : Int} (h : t = zeu k ++ q) : (lenN (zaf (zd2 (k % 256)) q) = lenN t /\ ∀ i j : Nat, i < lenN t -> j < 1 -> AV.int .u8 (zap (zaf (zd2 (k % 256)) q) i) = AV.int .u8 (zap t i)) /\ lenN (zaf (zd2 (k % 256)) q) = lenN t :=
 zvj (by rw [h]; rfl)
theorem yn8 {N : Nat} (ih : zd7 Tryz.prog (zr4 N std)) (b : List UInt8) (k n : Int) (s : List UInt8) (l : List CV) (hz : zn7 (N + 1) (.mk k n s l)) (hw : zt2 (.mk k n s l)) (hb : zgj b (zbb (.mk k n s l))) :
   zb3 Tryz.prog 52 [.ref 500000 0, .agg [.int .i64 k, .int .u64 n, .str s, cvL std l]] (bld std b) (.tup []) (zux std (zaf b (zbb (.mk k n s l)))) := by
 refine zau (T := tt) (S := fun L => zbg [zjx L] [yut L, yuq L, zr4 N L]) (lo := fun L => putA L b k l) (lb := noA) 5 (fn := Tryz.f52) (xs := fun L => [.ref 500000 0, .agg [.int .i64 k, .int .u64 n, .str s, cvL L l]]) (rts := fun _ => []) (O := fun L => bld L b) (O1 := fun L => zux L (L2 L zaf b (L zbb (.mk k n s l))))
   rfl rfl (by kernel_rfl) (by kernel_rfl) (by kernel_rfl) zah (zaj ⟨zhx, trivial⟩ ⟨yak, yae, ih, trivial⟩) (by kernel_rfl) ?_
 intro L P' Q' hL hP hQ
 have hB : ∀ b : List UInt8, L (L bytesOf (L lenN b)) (fun i => (AV.int .u8 (L2 L zap b i)).toI) = b := by subst hL; exact zga
 (cbv; try simp only [syT, true_and, and_true])
 simp only [hB]
 refine ⟨⟨trivial, fun _ _ _ _ => trivial⟩, trivial, ⟨?_, ?_⟩, fun h1 => ⟨?_, ⟨trivial, fun _ _ _ _ => trivial⟩, trivial, ?_, ?_⟩, fun h1 => ⟨fun h2 => ⟨?_, ?_, ⟨trivial, fun _ _ _ _ => trivial⟩, trivial, ?_, ?_⟩, fun h2 => ⟨?_, ⟨trivial, fun _ _ _ _ => trivial⟩, trivial, ?_, ⟨0, ?_⟩, fun i hi => ?_⟩⟩⟩
 · (subst hL; subst hQ; simp only [L2, L3, std] at *; try simp only [syS, reduceCtorEq, Int.reduceToNat, Int.reduceAdd, Int.reduceSub] at *)
   exact ⟨Int.emod_nonneg _ (by omega), Int.emod_lt_of_pos _ (by omega)⟩
 · (subst hL; subst hQ; simp only [L2, L3, std] at *; try simp only [syS, reduceCtorEq, Int.reduceToNat, Int.reduceAdd, Int.reduceSub] at *)
   exact yrz hb
 · (subst hL; subst hQ; simp only [L2, L3, std] at *; try simp only [syS, reduceCtorEq, Int.reduceToNat, Int.reduceAdd, Int.reduceSub] at *)
   rw [zom] at hw
   exact hw.1.1
 · (subst hL; subst hQ; simp only [L2, L3, std] at *; try simp only [syS, reduceCtorEq, Int.reduceToNat, Int.reduceAdd, Int.reduceSub] at *)
   rw [zai, if_pos h1] at hb
   exact zvn hb
 · (subst hL; subst hQ; simp only [L2, L3, std] at *; try simp only [syS, reduceCtorEq, Int.reduceToNat, Int.reduceAdd, Int.reduceSub] at *)
   exact ykv (by rw [zai, if_pos h1])
 · (subst hL; subst hQ; simp only [L2, L3, std] at *; try simp only [syS, reduceCtorEq, Int.reduceToNat, Int.reduceAdd, Int.reduceSub] at *)
   rw [zom] at hw
   rw [zfw (by omega) (by omega)]
   exact ⟨by omega, by omega⟩
 · (subst hL; subst hQ; simp only [L2, L3, std] at *; try simp only [syS, reduceCtorEq, Int.reduceToNat, Int.reduceAdd, Int.reduceSub] at *)
   rw [zh6 hw.1]
   have h3 := hw.2
   rw [zai, if_neg h1, if_pos h2] at h3
   simp at h3 |-
   omega
 · (subst hL; subst hQ; simp only [L2, L3, std] at *; try simp only [syS, reduceCtorEq, Int.reduceToNat, Int.reduceAdd, Int.reduceSub] at *)
   rw [zh6 hw.1]
   rw [zai, if_neg h1, if_pos h2] at hb
   exact zvn hb
 · (subst hL; subst hQ; simp only [L2, L3, std] at *; try simp only [syS, reduceCtorEq, Int.reduceToNat, Int.reduceAdd, Int.reduceSub] at *)
   rw [zh6 hw.1]
   exact ykv (by rw [zai, if_neg h1, if_pos h2])
 · (subst hL; subst hQ; simp only [L2, L3, std] at *; try simp only [syS, reduceCtorEq, Int.reduceToNat, Int.reduceAdd, Int.reduceSub] at *)
   rw [zge hz]
   exact zho hz
 · (subst hL; subst hQ; simp only [L2, L3, std] at *; try simp only [syS, reduceCtorEq, Int.reduceToNat, Int.reduceAdd, Int.reduceSub] at *)
   rw [zge hz]
   rw [zai, if_neg h1, if_neg h2] at hb
   exact yl0 hb
 · (cbv; try simp only [syT, true_and, and_true])
   (subst hL; subst hQ; simp only [L2, L3, std] at *; try simp only [syS, reduceCtorEq, Int.reduceToNat, Int.reduceAdd, Int.reduceSub] at *)
   rw [zge hz]
   have e : zaf (zaf b (zd2 (k % 256))) (zav ((l.length : Nat) : Int)) = zp1 b k l 0 := by
     rw [zp1, zfx, List.take_zero, zao, List.append_nil]; rfl
   rw [e]
   exact ⟨⟨rfl, fun _ _ _ _ => rfl⟩, rfl, Nat.zero_le _⟩
 · cbv at hi
   (cbv; try simp only [syT, true_and, and_true])
   simp only [hB]
   refine ⟨fun hlt => ⟨?_, ⟨trivial, fun _ _ _ _ => trivial⟩, trivial, fun _ _ _ _ => trivial, ⟨?_, ?_, ?_, ?_⟩, ⟨i + 1, ?_⟩⟩, fun hge => ?_⟩
   · (subst hL; subst hQ; simp only [L2, L3, std] at *; try simp only [syS, reduceCtorEq, Int.reduceToNat, Int.reduceAdd, Int.reduceSub] at *)
     omega
   · (subst hL; subst hQ; simp only [L2, L3, std] at *; try simp only [syS, reduceCtorEq, Int.reduceToNat, Int.reduceAdd, Int.reduceSub] at *)
     exact (zk0 _).2
   · (subst hL; subst hQ; simp only [L2, L3, std] at *; try simp only [syS, reduceCtorEq, Int.reduceToNat, Int.reduceAdd, Int.reduceSub] at *)
     rw [zer]
     rw [zcj] at hz
     exact zrh hz.1 (by have : lenL l = l.length := rfl; omega)
   · (subst hL; subst hQ; simp only [L2, L3, std] at *; try simp only [syS, reduceCtorEq, Int.reduceToNat, Int.reduceAdd, Int.reduceSub] at *)
     rw [zbs]
     exact yar hw (by omega) (by omega) (by have : lenL l = l.length := rfl; omega)
   · (subst hL; subst hQ; simp only [L2, L3, std] at *; try simp only [syS, reduceCtorEq, Int.reduceToNat, Int.reduceAdd, Int.reduceSub] at *)
     rw [zbs]
     have h4 := zdd (l := l) (i := i) (by have : lenL l = l.length := rfl; omega)
     have h5 := zhv l (i + 1)
     rw [h4, List.length_append] at h5
     rw [zai, if_neg h1, if_neg h2] at hb
     unfold zgj at hb |-
     simp only [List.length_append, zp1] at hb |-
     omega
   · (cbv; try simp only [syT, true_and, and_true])
     (subst hL; subst hQ; simp only [L2, L3, std] at *; try simp only [syS, reduceCtorEq, Int.reduceToNat, Int.reduceAdd, Int.reduceSub] at *)
     have : lenL l = l.length := rfl
     have := zmb l
     rw [zcj] at hz
     have h4 := hz.1.1
     have h5 := hz.1.2
     rw [zbs]
     have e : zaf (zp1 b k l i) (zbb (zax l i)) = zp1 b k l (i + 1) := by
       rw [zp1, zp1, zdd (by omega)]; unfold zaf; simp only [List.append_assoc]
     rw [e]
     exact ⟨⟨rfl, fun _ _ _ _ => rfl⟩, rfl, by omega, by omega, by omega⟩
   · (subst hL; subst hQ; simp only [L2, L3, std] at *; try simp only [syS, reduceCtorEq, Int.reduceToNat, Int.reduceAdd, Int.reduceSub] at *)
     have : lenL l = l.length := rfl
     have hil : i = l.length := by omega
     exact zvj (by rw [zai, if_neg h1, if_neg h2, zp1, hil, zfx, List.take_length]; unfold zaf; simp only [List.append_assoc])
theorem yn9 {N : Nat} (ih : zd7 Tryz.prog (zr4 N std)) (k n : Int) (s : List UInt8) (l : List CV) (hz : zn7 (N + 1) (.mk k n s l)) (hw : zt2 (.mk k n s l)) :
   zb3 Tryz.prog 52 [.ref 500000 0, .agg [.int .i64 k, .int .u64 n, .str s, cvL std l]] yqz (.tup []) (zux std (zbb (.mk k n s l))) := by
 refine zau (T := tt) (S := fun L => zbg [zjx L] [yut L, yuq L, zr4 N L]) (lo := fun L => putA L [] k l) (lb := noA) 5 (fn := Tryz.f52) (xs := fun L => [.ref 500000 0, .agg [.int .i64 k, .int .u64 n, .str s, cvL L l]]) (rts := fun _ => []) (O := fun L => yqz) (O1 := fun L => zux L (L zbb (.mk k n s l)))
   rfl rfl (by kernel_rfl) (by kernel_rfl) (by kernel_rfl) zah (zaj ⟨zhx, trivial⟩ ⟨yak, yae, ih, trivial⟩) (by kernel_rfl) ?_
 intro L P' Q' hL hP hQ
 have hb : zgj [] (zbb (.mk k n s l)) := by have := hw.2; unfold zgj; simp; omega
 have hB : ∀ b : List UInt8, L (L bytesOf (L lenN b)) (fun i => (AV.int .u8 (L2 L zap b i)).toI) = b := by subst hL; exact zga
 (cbv; try simp only [syT, true_and, and_true])
 simp only [hB]
 refine ⟨?_, fun h1 => ⟨?_, ⟨trivial, fun _ _ _ _ => trivial⟩, trivial, ?_, ?_⟩, fun h1 => ⟨fun h2 => ⟨?_, ?_, ⟨trivial, fun _ _ _ _ => trivial⟩, trivial, ?_, ?_⟩, fun h2 => ⟨?_, ⟨trivial, fun _ _ _ _ => trivial⟩, trivial, ?_, ⟨0, ?_⟩, fun i hi => ?_⟩⟩⟩
 · (subst hL; subst hQ; simp only [L2, L3, std] at *; try simp only [syS, reduceCtorEq, Int.reduceToNat, Int.reduceAdd, Int.reduceSub] at *)
   exact ⟨Int.emod_nonneg _ (by omega), Int.emod_lt_of_pos _ (by omega)⟩
 · (subst hL; subst hQ; simp only [L2, L3, std] at *; try simp only [syS, reduceCtorEq, Int.reduceToNat, Int.reduceAdd, Int.reduceSub] at *)
   rw [zom] at hw
   exact hw.1.1
 · (subst hL; subst hQ; simp only [L2, L3, std] at *; try simp only [syS, reduceCtorEq, Int.reduceToNat, Int.reduceAdd, Int.reduceSub] at *)
   rw [zai, if_pos h1] at hb
   exact zvn hb
 · (subst hL; subst hQ; simp only [L2, L3, std] at *; try simp only [syS, reduceCtorEq, Int.reduceToNat, Int.reduceAdd, Int.reduceSub] at *)
   exact ykw (by rw [zai, if_pos h1])
 · (subst hL; subst hQ; simp only [L2, L3, std] at *; try simp only [syS, reduceCtorEq, Int.reduceToNat, Int.reduceAdd, Int.reduceSub] at *)
   rw [zom] at hw
   rw [zfw (by omega) (by omega)]
   exact ⟨by omega, by omega⟩
 · (subst hL; subst hQ; simp only [L2, L3, std] at *; try simp only [syS, reduceCtorEq, Int.reduceToNat, Int.reduceAdd, Int.reduceSub] at *)
   rw [zh6 hw.1]
   have h3 := hw.2
   rw [zai, if_neg h1, if_pos h2] at h3
   simp at h3 |-
   omega
 · (subst hL; subst hQ; simp only [L2, L3, std] at *; try simp only [syS, reduceCtorEq, Int.reduceToNat, Int.reduceAdd, Int.reduceSub] at *)
   rw [zh6 hw.1]
   rw [zai, if_neg h1, if_pos h2] at hb
   exact zvn hb
 · (subst hL; subst hQ; simp only [L2, L3, std] at *; try simp only [syS, reduceCtorEq, Int.reduceToNat, Int.reduceAdd, Int.reduceSub] at *)
   rw [zh6 hw.1]
   exact ykw (by rw [zai, if_neg h1, if_pos h2])
 · (subst hL; subst hQ; simp only [L2, L3, std] at *; try simp only [syS, reduceCtorEq, Int.reduceToNat, Int.reduceAdd, Int.reduceSub] at *)
   rw [zge hz]
   exact zho hz
 · (subst hL; subst hQ; simp only [L2, L3, std] at *; try simp only [syS, reduceCtorEq, Int.reduceToNat, Int.reduceAdd, Int.reduceSub] at *)
   rw [zge hz]
   rw [zai, if_neg h1, if_neg h2] at hb
   exact yl0 hb
 · (cbv; try simp only [syT, true_and, and_true])
   (subst hL; subst hQ; simp only [L2, L3, std] at *; try simp only [syS, reduceCtorEq, Int.reduceToNat, Int.reduceAdd, Int.reduceSub] at *)
   rw [zge hz]
   have e : zaf (zd2 (k % 256)) (zav ((l.length : Nat) : Int)) = zp1 [] k l 0 := by
     rw [zp1, zfx, List.take_zero, zao, List.append_nil]; rfl
   rw [e]
   exact ⟨⟨rfl, fun _ _ _ _ => rfl⟩, rfl, Nat.zero_le _⟩
 · cbv at hi
   (cbv; try simp only [syT, true_and, and_true])
   simp only [hB]
   refine ⟨fun hlt => ⟨?_, ⟨trivial, fun _ _ _ _ => trivial⟩, trivial, fun _ _ _ _ => trivial, ⟨?_, ?_, ?_, ?_⟩, ⟨i + 1, ?_⟩⟩, fun hge => ?_⟩
   · (subst hL; subst hQ; simp only [L2, L3, std] at *; try simp only [syS, reduceCtorEq, Int.reduceToNat, Int.reduceAdd, Int.reduceSub] at *)
     omega
   · (subst hL; subst hQ; simp only [L2, L3, std] at *; try simp only [syS, reduceCtorEq, Int.reduceToNat, Int.reduceAdd, Int.reduceSub] at *)
     exact (zk0 _).2
   · (subst hL; subst hQ; simp only [L2, L3, std] at *; try simp only [syS, reduceCtorEq, Int.reduceToNat, Int.reduceAdd, Int.reduceSub] at *)
     rw [zer]
     rw [zcj] at hz
     exact zrh hz.1 (by have : lenL l = l.length := rfl; omega)
   · (subst hL; subst hQ; simp only [L2, L3, std] at *; try simp only [syS, reduceCtorEq, Int.reduceToNat, Int.reduceAdd, Int.reduceSub] at *)
     rw [zbs]
     exact yar hw (by omega) (by omega) (by have : lenL l = l.length := rfl; omega)
   · (subst hL; subst hQ; simp only [L2, L3, std] at *; try simp only [syS, reduceCtorEq, Int.reduceToNat, Int.reduceAdd, Int.reduceSub] at *)
     rw [zbs]
     have h4 := zdd (l := l) (i := i) (by have : lenL l = l.length := rfl; omega)
     have h5 := zhv l (i + 1)
     rw [h4, List.length_append] at h5
     rw [zai, if_neg h1, if_neg h2] at hb
     unfold zgj at hb |-
     simp only [List.length_append, zp1] at hb |-
     omega
   · (cbv; try simp only [syT, true_and, and_true])
     (subst hL; subst hQ; simp only [L2, L3, std] at *; try simp only [syS, reduceCtorEq, Int.reduceToNat, Int.reduceAdd, Int.reduceSub] at *)
     have : lenL l = l.length := rfl
     have := zmb l
     rw [zcj] at hz
     have h4 := hz.1.1
     have h5 := hz.1.2
     rw [zbs]
     have e : zaf (zp1 [] k l i) (zbb (zax l i)) = zp1 [] k l (i + 1) := by
       rw [zp1, zp1, zdd (by omega)]; unfold zaf; simp only [List.append_assoc]
     rw [e]
     exact ⟨⟨rfl, fun _ _ _ _ => rfl⟩, rfl, by omega, by omega, by omega⟩
   · (subst hL; subst hQ; simp only [L2, L3, std] at *; try simp only [syS, reduceCtorEq, Int.reduceToNat, Int.reduceAdd, Int.reduceSub] at *)
     have : lenL l = l.length := rfl
     have hil : i = l.length := by omega
     exact zvj (by rw [zai, if_neg h1, if_neg h2, zp1, hil, zfx, List.take_length, List.nil_append, List.append_assoc])
theorem ydg {P : Program} {f : FuncId} {xs ys : List AV} {O O1 : List (Nat × Ob)} {r : AV} (e : ∀ h D μ vs, RL h D μ xs vs -> RL h D μ ys vs) (hm : zb3 P f ys O r O1) : zb3 P f xs O r O1 :=
 fun D w μ vs hD hx => hm D w μ vs hD (e _ _ _ _ hx)
theorem yf6 : ∀ N, zd7 Tryz.prog (zr4 N std) := by
 intro N
 induction N with
 | zero =>
   intro raw ob T hT hp
   unfold zr4 at hT
   simp only at hT
   split at hT
   · rename_i k n s x
     split at hT <;> cases hT
     · have h1 : sizeC (mkV std k n s x) <= 0 := hp.2.1.1
       have := zf0 (mkV std k n s x)
       omega
     · have h1 : sizeC (mkV std k n s x) <= 0 := hp.2.1.1
       have := zf0 (mkV std k n s x)
       omega
   · cases hT
 | succ N ih =>
   intro raw ob T hT hp
   unfold zr4 at hT
   simp only at hT
   split at hT
   rotate_left
   · cases hT
   rename_i k n s x
   split at hT <;> cases hT
   · refine ydg (fun h D μ vs hr => rl_2 (fun v => ym4 hp.1) hr) ?_
     exact yn9 ih k n s (rdL x) hp.2.1 hp.2.2
   · refine ydg (fun h D μ vs hr => rl_2 (fun v => ym4 hp.1) hr) ?_
     exact yn8 ih _ k n s (rdL x) hp.2.1 hp.2.2.1 hp.2.2.2
theorem zv0 {P : Program} {f : FuncId} {sz n : Nat} {get : Nat -> Nat -> AV} {r : AV} (h0 : n = 0 -> zae P f [.nils] r) (h1 : n = 0 -> zae P f [.emp] r) (h2 : 0 < n -> zae P f [.lst sz n get] r) : zae P f [.lst sz n get] r := by
 by_cases e : n = 0
 · subst e
   intro D w vs hD hx
   obtain ⟨v, hv⟩ : ∃ v, vs.toList = [v] := List.length_eq_one_iff.1 (by simpa using hx.1.symm)
   have : vs = #[v] := by rw [<- Array.toArray_toList (xs := vs), hv]
   subst this
   have hr := hx.2 0 _ _ rfl rfl
   have one : ∀ y, R w.heap D zb0 y v -> RL w.heap D zb0 [y] #[v] := fun y r => ⟨rfl, fun i x u hx hu => by
     match i with
     | 0 => cases hx; cases hu; exact r
     | i + 1 => simp at hx⟩
   cases hr with
   | lst0 _ _ a cap hn =>
     cases a with
     | none =>
       obtain rfl := hn rfl
       exact h0 rfl D w _ hD (one _ .nils)
     | some a => exact h1 rfl D w _ hD (one _ (.emp a cap))
   | lst _ _ _ b o cap vs' hD' hc hv' h1' hr' => exact h1 rfl D w _ hD (one _ (.emp _ cap))
 · exact h2 (by omega)
def zkt (n : Int) : CV := .mk 1 n [] []
def yge (s : List UInt8) : CV := .mk 2 0 s []
def zff (l : List CV) : CV := .mk 3 0 [] l
def yi5 (L : zac) : zcr := (36, fun xs => match xs with | [.int .u64 n] => some (True, cvA L (L zkt n)) | _ => none)
def ym5 (L : zac) : zcr := (35, fun xs => match xs with | [.str s] => some (True, cvA L (L yge s)) | _ => none)
theorem zw7 : zcu Tryz.prog (yi5 std) := by
 intro xs p r h hp
 unfold yi5 at h
 simp only at h
 split at h
 rotate_left
 · cases h
 rename_i n
 cases h
 refine zad (T := tt) (S := noS) (lo := noA) (lb := noA) 5 (fn := Tryz.f36) rfl rfl (by kernel_rfl) (by kernel_rfl) rfl zah (zd0 _) (by kernel_rfl) ?_
 (intro L P1 Q1 hL hP hQ; cbv; subst hL; simp only [L2, L3, std, syT]; subst hQ)
 show zdv (.agg [.int .i64 1, .int .u64 n, .str [], .lst 4 0 (zhp (zkt n))]) _
 simp [zjm, zcz, ze9, zex, zc0]
theorem ygt : zcu Tryz.prog (ym5 std) := by
 intro xs p r h hp
 unfold ym5 at h
 simp only at h
 split at h
 rotate_left
 · cases h
 rename_i n
 cases h
 refine zad (T := tt) (S := noS) (lo := noA) (lb := noA) 5 (fn := Tryz.f35) rfl rfl (by kernel_rfl) (by kernel_rfl) rfl zah (zd0 _) (by kernel_rfl) ?_
 (intro L P1 Q1 hL hP hQ; cbv; subst hL; simp only [L2, L3, std, syT]; subst hQ)
 show zdv (.agg [.int .i64 2, .int .u64 0, .str n, .lst 4 0 (zhp (yge n))]) _
 simp [zjm, zcz, ze9, zex, zc0]
def ydn (l : List CV) : Prop := l.length <= 1000000
def zuo (L : zac) : zcr := (49, fun xs => match xs with
 | [x] => some (L okL x /\ L ydn (L rdL x), .lst 4 (L lenL (L rdL x)) (L zfk (L rdL x)))
 | _ => none)
theorem zzq : zcu Tryz.prog (zuo std) := by
 intro xs p r h hp
 unfold zuo at h
 simp only at h
 split at h
 rotate_left
 · cases h
 rename_i x
 cases h
 obtain ⟨ho, hz⟩ := hp
 refine yv7 ho ?_
 have hz : ydn (rdL x) := hz
 show zae _ _ [cvL std (rdL x)] (.lst 4 (lenL (rdL x)) (zfk (rdL x)))
 generalize rdL x = l at hz |-
 refine zv0 (fun h => ?_) (fun h => ?_) (fun h => ?_)
 · refine zad (T := tt) (S := noS) (lo := noA) (lb := noA) 5 (fn := Tryz.f49) rfl rfl (by kernel_rfl) (by kernel_rfl) rfl zah (zd0 _) (by kernel_rfl) ?_
   intro L P' Q' hL hP hQ
   (cbv; try simp only [syT, true_and, and_true])
   (subst hL; subst hQ; simp only [L2, L3, std] at *; try simp only [syS, reduceCtorEq, Int.reduceToNat, Int.reduceAdd, Int.reduceSub] at *)
   exact h.symm
 · refine zad (T := tt) (S := noS) (lo := noA) (lb := noA) 5 (fn := Tryz.f49) rfl rfl (by kernel_rfl) (by kernel_rfl) rfl zah (zd0 _) (by kernel_rfl) ?_
   intro L P' Q' hL hP hQ
   (cbv; try simp only [syT, true_and, and_true])
   (subst hL; subst hQ; simp only [L2, L3, std] at *; try simp only [syS, reduceCtorEq, Int.reduceToNat, Int.reduceAdd, Int.reduceSub] at *)
   exact ⟨by omega, h.symm, fun i j hi => by omega⟩
 · refine zal (T := tt) (S := noS) (lo := fun _ => noA std) (lb := noA) 5 (fn := Tryz.f49) (xs := fun L => [cvL L l]) rfl rfl (by kernel_rfl) (by kernel_rfl) rfl zah (zd0 _) (by kernel_rfl) ?_
   intro L P' Q' hL hP hQ
   (cbv; try simp only [syT, true_and, and_true])
   (subst hL; subst hQ; simp only [L2, L3, std] at *; try simp only [syS, reduceCtorEq, Int.reduceToNat, Int.reduceAdd, Int.reduceSub] at *)
   have h1 : lenL l <= 1000000 := hz
   exact ⟨zn0 h, by omega, fun i j hi hj => by rw [zir _ _ hj, zbj _ _ _ hi]⟩
def zwu (L : zac) : zcr := (34, fun xs => match xs with
 | [x] => some (L okL x /\ L ydn (L rdL x), cvA L (L zff (L rdL x)))
 | _ => none)
theorem zrr : zcu Tryz.prog (zwu std) := by
 intro xs p r h hp
 unfold zwu at h
 simp only at h
 split at h
 rotate_left
 · cases h
 rename_i x
 cases h
 obtain ⟨ho, hz⟩ := hp
 refine yv7 ho ?_
 have hz : ydn (rdL x) := hz
 show zae _ _ [cvL std (rdL x)] (cvA std (zff (rdL x)))
 generalize rdL x = l at hz |-
 refine zal (T := tt) (S := fun L => zbe [zuo L]) (lo := fun _ => noA std) (lb := noA) 5 (fn := Tryz.f34) (xs := fun L => [cvL L l]) rfl rfl (by kernel_rfl) (by kernel_rfl) rfl zah (zab ⟨zzq, trivial⟩) (by kernel_rfl) ?_
 intro L P' Q' hL hP hQ
 (cbv; try simp only [syT, true_and, and_true])
 (subst hL; subst hQ; simp only [L2, L3, std] at *; try simp only [syS, reduceCtorEq, Int.reduceToNat, Int.reduceAdd, Int.reduceSub] at *)
 rw [rdl]
 refine ⟨⟨okl l, hz⟩, ?_⟩
 show zdv (.agg [.int .i64 3, .int .u64 0, .str [], .lst 4 (lenL l) (zfk l)]) _
 simp [zjm, zcz, ze9, zg8, zc0]
def ycd (v : CV) : Int := if zfb v = true then (if zdt v > 6 then 8 else if (zbb v).length > 8192 then 5 else 0) else 10
def ygh (v : CV) : List UInt8 := if ycd v = 0 then zbb v else []
def zxq (N : Nat) (L : zac) : zcr := (38, fun xs => match xs with
 | [.agg [.int .i64 k, .int .u64 n, .str s, x]] => some (L okL x /\ L2 L zn7 N (mkV L k n s x) /\ L zt2 (mkV L k n s x), .tup [.str (L ygh (mkV L k n s x)), .int .i64 (L ycd (mkV L k n s x))])
 | _ => none)
theorem zoa (N : Nat) : zcu Tryz.prog (zxq N std) := by
 intro xs p r h hp
 unfold zxq at h
 simp only at h
 split at h
 rotate_left
 · cases h
 rename_i k n s x
 cases h
 obtain ⟨ho, hz, hw⟩ := hp
 refine yr0 ho ?_
 rw [show mkV std k n s x = .mk k n s (rdL x) from rfl] at hz hw |-
 generalize rdL x = l at hz hw |-
 have hz : zn7 N (.mk k n s l) := hz
 have hw : zt2 (.mk k n s l) := hw
 refine zal (T := tt) (S := fun L => zbg [zod N L, zso N L] [zr4 N L, yxh L, yxg L]) (lo := fun _ => noA std) (lb := noA) 5 (fn := Tryz.f38) (xs := fun L => [.agg [.int .i64 k, .int .u64 n, .str s, cvL L l]]) rfl rfl (by kernel_rfl) (by kernel_rfl) rfl zah
   (zaj ⟨yg2 N, yf2 N, trivial⟩ ⟨yf6 N, yq8, yq6, trivial⟩) (by kernel_rfl) ?_
 intro L P' Q' hL hP hQ
 have hB : ∀ b : List UInt8, L (L bytesOf (L lenN b)) (fun i => (AV.int .u8 (L2 L zap b i)).toI) = b := by subst hL; exact zga
 (cbv; try simp only [syT, true_and, and_true])
 simp only [hB]
 (subst hL; subst hQ; simp only [L2, L3, std] at *; try simp only [syS, reduceCtorEq, Int.reduceToNat, Int.reduceAdd, Int.reduceSub] at *)
 simp only [rdl, mkl]
 refine ⟨⟨okl l, hz⟩, fun h1 => ?_, fun h1 => ⟨⟨okl l, hz⟩, fun h2 => ?_, fun h2 => ⟨⟨okl l, hz, hw⟩, fun h3 => ?_, fun h3 => ⟨⟨?_, hw.2⟩, ?_⟩⟩⟩⟩
 · simp [ygh, ycd, h1]
 · simp [ygh, ycd, h1, h2]
 · have h4 : ¬ 6 < zdt (.mk k n s l) := by omega
   have h5 : 8192 < (zbb (.mk k n s l)).length := by omega
   simp [ygh, ycd, h1, h4, h5]
 · rw [zai]; simp [zeu]
 · have h4 : ¬ 6 < zdt (.mk k n s l) := by omega
   have h5 : ¬ 8192 < (zbb (.mk k n s l)).length := by omega
   simp [ygh, ycd, h1, h4, h5]
theorem one1 (v : CV) : rdL (.lst 4 1 fun i j => zc4 .dead [.int .i64 v.kd, .int .u64 v.nn, .str v.tx, .lst 4 (zhg v) (zhp v)] (i * 4 + j)) = [v] := by
 show [CV.mk v.kd v.nn v.tx (rdL (.lst 4 (zhg v) (zhp v)))] = [v]
 rw [zer]
theorem ynk (v : CV) : okL (.lst 4 1 fun i j => zc4 .dead [.int .i64 v.kd, .int .u64 v.nn, .str v.tx, .lst 4 (zhg v) (zhp v)] (i * 4 + j)) := by
 refine ⟨rfl, fun i hi => ?_⟩
 have : i = 0 := by omega
 subst this
 exact ⟨⟨_, rfl⟩, ⟨_, rfl⟩, ⟨_, rfl⟩, (zk0 v).2⟩
theorem yrp : zav 1 = [1] := by rw [zav, show (1 : Int).toNat = 1 from rfl, zbm (by decide)]; rfl
theorem yro : zav 5 = [5] := by rw [zav, show (5 : Int).toNat = 5 from rfl, zbm (by decide)]; rfl
theorem zug : zbb (zff [zkt 5]) = [3, 1, 1, 5] := by
 rw [zff, zkt, zai, if_neg (by decide), if_neg (by decide), zao, zai, if_pos rfl, zao, yro]
 show _ ++ (zav 1 ++ _) = _
 rw [yrp]; rfl
theorem ypf : zfb (zff [zkt 5]) = true := by rw [zff, zkt, zfb, zdu, zfb, zdu]; rfl
theorem ype : zdt (zff [zkt 5]) = 1 := by rw [zff, zkt, zdt, zb6, zdt, zb6]; rfl
theorem ypc : sizeC (zff [zkt 5]) = 2 := by rw [zff, zkt, zea, zc3, ze1, zea, ze1]
theorem yeu : ycd (zff [zkt 5]) = 0 := by rw [ycd, ypf, ype, zug]; rfl
theorem ypd : ygh (zff [zkt 5]) = [3, 1, 1, 5] := by rw [ygh, yeu, zug]; rfl
theorem ywy : zt2 (zff [zkt 5]) := by
 refine ⟨?_, by rw [zug]; decide⟩
 simp only [zff, zkt, wfV, zgd, zc8]
 decide
theorem zzy : zae Tryz.prog 41 [] (.bool true) := by
 refine zad (T := tt) (S := fun L => zbe [yi5 L, zwu L, zxq 100 L, tru 56]) (lo := noA) (lb := noA) 5 (fn := Tryz.f41) rfl rfl (by kernel_rfl) (by kernel_rfl) rfl zah (zab ⟨zw7, zrr, zoa 100, zcx zkg, trivial⟩) (by kernel_rfl) ?_
 intro L P' Q' hL hP hQ
 (cbv; try simp only [syT, true_and, and_true])
 (subst hL; subst hQ; simp only [L2, L3, std] at *; try simp only [syS, reduceCtorEq, Int.reduceToNat, Int.reduceAdd, Int.reduceSub] at *)
 simp only [one1, zer, zbs, yeu, ypd]
 exact ⟨⟨ynk _, by show (1 : Nat) <= 1000000; omega⟩, ⟨(zk0 _).2, ⟨by rw [ypc]; omega, by omega⟩, ywy⟩, fun _ => trivial, trivial⟩
theorem ya4 : zae Tryz.prog 22 [] (.bool true) := by
 refine zad (T := tt) (S := fun L => zbe [tru 41]) (lo := noA) (lb := noA) 5 (fn := Tryz.f22) rfl rfl (by kernel_rfl) (by kernel_rfl) rfl zah (zab ⟨zcx zzy, trivial⟩) (by kernel_rfl) ?_
 (intro L P1 Q1 hL hP hQ; cbv; subst hL; simp only [L2, L3, std, syT]; subst hQ)
 (simp only [syS, reduceCtorEq, Int.reduceToNat, Int.reduceAdd, Int.reduceSub])
theorem ypm (g : Nat -> CV) {i q j : Nat} (hq : q < i + 1) (hj : j < 4) :
   zi7 std (zbr q i) (cv1 std (g q) j) (zc4 .dead [.int .i64 (g i).kd, .int .u64 (g i).nn, .str (g i).tx, .lst 4 (zhg (g i)) (zhp (g i))] ((q - i) * 4 + j)) = cv1 std (g q) j := by
 by_cases h : q < i
 · rw [zn0 h, show q - i = 0 by omega, Nat.zero_mul, Nat.zero_add]
   match j, hj with
   | 0, _ => rfl
   | 1, _ => rfl
   | 2, _ => rfl
   | 3, _ => rfl
 · have : q = i := by omega
   subst this
   rw [zqf (by omega), show q - q = 0 by omega, Nat.zero_mul, Nat.zero_add]
   match j, hj with
   | 0, _ => rfl
   | 1, _ => rfl
   | 2, _ => rfl
   | 3, _ => rfl
def pr2 (a b : Int) : Pr := ⟨[a, b, 0, 0, 0, 0, 0, 0, 0, 0, 0, 0, 0, 0, 0, 0], rfl⟩
theorem yl2 {a b : Int} (ha : 0 <= a /\ a < 256) (hb : 0 <= b /\ b < 256) : zfh (pr2 a b) := by
 intro x hx
 have hx : x ∈ [a, b, 0, 0, 0, 0, 0, 0, 0, 0, 0, 0, 0, 0, 0, 0] := hx
 simp only [List.mem_cons, List.not_mem_nil, or_false] at hx
 omega
theorem yux (a b : Int) : zhb (.agg [.int .u8 a, .int .u8 b, .int .u8 0, .int .u8 0, .int .u8 0, .int .u8 0, .int .u8 0, .int .u8 0, .int .u8 0, .int .u8 0, .int .u8 0, .int .u8 0, .int .u8 0, .int .u8 0, .int .u8 0, .int .u8 0]) /\ zas (.agg [.int .u8 a, .int .u8 b, .int .u8 0, .int .u8 0, .int .u8 0, .int .u8 0, .int .u8 0, .int .u8 0, .int .u8 0, .int .u8 0, .int .u8 0, .int .u8 0, .int .u8 0, .int .u8 0, .int .u8 0, .int .u8 0]) = pr2 a b := yc6 (pr2 a b)
def yg9 (L : zac) : Prop :=
 (∀ a b : Int, L zas (.agg [.int .u8 a, .int .u8 b, .int .u8 0, .int .u8 0, .int .u8 0, .int .u8 0, .int .u8 0, .int .u8 0, .int .u8 0, .int .u8 0, .int .u8 0, .int .u8 0, .int .u8 0, .int .u8 0, .int .u8 0, .int .u8 0]) = L (L pr2 a) b) /\
 (∀ a b : Int, (L zhb (.agg [.int .u8 a, .int .u8 b, .int .u8 0, .int .u8 0, .int .u8 0, .int .u8 0, .int .u8 0, .int .u8 0, .int .u8 0, .int .u8 0, .int .u8 0, .int .u8 0, .int .u8 0, .int .u8 0, .int .u8 0, .int .u8 0])) = True) /\
 (∀ a b : Int, L zas (.agg [.int .u8 (L (L za9 [a, b, 0, 0, 0, 0, 0, 0, 0, 0, 0, 0, 0, 0, 0, 0]) 0), .int .u8 (L (L za9 [a, b, 0, 0, 0, 0, 0, 0, 0, 0, 0, 0, 0, 0, 0, 0]) 1), .int .u8 (L (L za9 [a, b, 0, 0, 0, 0, 0, 0, 0, 0, 0, 0, 0, 0, 0, 0]) 2), .int .u8 (L (L za9 [a, b, 0, 0, 0, 0, 0, 0, 0, 0, 0, 0, 0, 0, 0, 0]) 3), .int .u8 (L (L za9 [a, b, 0, 0, 0, 0, 0, 0, 0, 0, 0, 0, 0, 0, 0, 0]) 4), .int .u8 (L (L za9 [a, b, 0, 0, 0, 0, 0, 0, 0, 0, 0, 0, 0, 0, 0, 0]) 5), .int .u8 (L (L za9 [a, b, 0, 0, 0, 0, 0, 0, 0, 0, 0, 0, 0, 0, 0, 0]) 6), .int .u8 (L (L za9 [a, b, 0, 0, 0, 0, 0, 0, 0, 0, 0, 0, 0, 0, 0, 0]) 7), .int .u8 (L (L za9 [a, b, 0, 0, 0, 0, 0, 0, 0, 0, 0, 0, 0, 0, 0, 0]) 8), .int .u8 (L (L za9 [a, b, 0, 0, 0, 0, 0, 0, 0, 0, 0, 0, 0, 0, 0, 0]) 9), .int .u8 (L (L za9 [a, b, 0, 0, 0, 0, 0, 0, 0, 0, 0, 0, 0, 0, 0, 0]) 10), .int .u8 (L (L za9 [a, b, 0, 0, 0, 0, 0, 0, 0, 0, 0, 0, 0, 0, 0, 0]) 11), .int .u8 (L (L za9 [a, b, 0, 0, 0, 0, 0, 0, 0, 0, 0, 0, 0, 0, 0, 0]) 12), .int .u8 (L (L za9 [a, b, 0, 0, 0, 0, 0, 0, 0, 0, 0, 0, 0, 0, 0, 0]) 13), .int .u8 (L (L za9 [a, b, 0, 0, 0, 0, 0, 0, 0, 0, 0, 0, 0, 0, 0, 0]) 14), .int .u8 (L (L za9 [a, b, 0, 0, 0, 0, 0, 0, 0, 0, 0, 0, 0, 0, 0, 0]) 15)]) = L (L pr2 a) b) /\
 (∀ a b : Int, (L zhb (.agg [.int .u8 (L (L za9 [a, b, 0, 0, 0, 0, 0, 0, 0, 0, 0, 0, 0, 0, 0, 0]) 0), .int .u8 (L (L za9 [a, b, 0, 0, 0, 0, 0, 0, 0, 0, 0, 0, 0, 0, 0, 0]) 1), .int .u8 (L (L za9 [a, b, 0, 0, 0, 0, 0, 0, 0, 0, 0, 0, 0, 0, 0, 0]) 2), .int .u8 (L (L za9 [a, b, 0, 0, 0, 0, 0, 0, 0, 0, 0, 0, 0, 0, 0, 0]) 3), .int .u8 (L (L za9 [a, b, 0, 0, 0, 0, 0, 0, 0, 0, 0, 0, 0, 0, 0, 0]) 4), .int .u8 (L (L za9 [a, b, 0, 0, 0, 0, 0, 0, 0, 0, 0, 0, 0, 0, 0, 0]) 5), .int .u8 (L (L za9 [a, b, 0, 0, 0, 0, 0, 0, 0, 0, 0, 0, 0, 0, 0, 0]) 6), .int .u8 (L (L za9 [a, b, 0, 0, 0, 0, 0, 0, 0, 0, 0, 0, 0, 0, 0, 0]) 7), .int .u8 (L (L za9 [a, b, 0, 0, 0, 0, 0, 0, 0, 0, 0, 0, 0, 0, 0, 0]) 8), .int .u8 (L (L za9 [a, b, 0, 0, 0, 0, 0, 0, 0, 0, 0, 0, 0, 0, 0, 0]) 9), .int .u8 (L (L za9 [a, b, 0, 0, 0, 0, 0, 0, 0, 0, 0, 0, 0, 0, 0, 0]) 10), .int .u8 (L (L za9 [a, b, 0, 0, 0, 0, 0, 0, 0, 0, 0, 0, 0, 0, 0, 0]) 11), .int .u8 (L (L za9 [a, b, 0, 0, 0, 0, 0, 0, 0, 0, 0, 0, 0, 0, 0, 0]) 12), .int .u8 (L (L za9 [a, b, 0, 0, 0, 0, 0, 0, 0, 0, 0, 0, 0, 0, 0, 0]) 13), .int .u8 (L (L za9 [a, b, 0, 0, 0, 0, 0, 0, 0, 0, 0, 0, 0, 0, 0, 0]) 14), .int .u8 (L (L za9 [a, b, 0, 0, 0, 0, 0, 0, 0, 0, 0, 0, 0, 0, 0, 0]) 15)])) = True)
theorem yni : yg9 std :=
 ⟨fun a b => (yux a b).2,
  fun a b => eq_true (yux a b).1,
  fun a b => (yux a b).2,
  fun a b => eq_true (yux a b).1⟩
theorem zwz : zcs [] := ⟨List.Pairwise.nil, fun e h => by cases h⟩
theorem zzv : zae Tryz.prog 7 [] (.bool true) := by
 refine zad (T := tt) (S := fun L => zbe [yj2 L, zu1 L, tru 22, tru 23]) (lo := noA) (lb := noA) 5 (fn := Tryz.f7) rfl rfl (by kernel_rfl) (by kernel_rfl) rfl zah (zab ⟨zwy, zje, zcx ya4, zcx ya2, trivial⟩) (by kernel_rfl) ?_
 intro L P' Q' hL hP hQ
 obtain ⟨hE, hEo, hF, hFo, hEta, hPe, hMp, hQ0, hQo, hQ1, hQ1o, hG, hGo⟩ : ze0 L := by subst hL; exact zeg
 obtain ⟨h2, h2o, h2n, h2no⟩ : yg9 L := by subst hL; exact yni
 have hN : L zaa .nils = [] := by subst hL; rfl
 have hNo : (L zf4 .nils) = True := by subst hL; exact eq_true trivial
 (cbv; try simp only [syT, true_and, and_true])
 simp only [h2, h2o, hN, hNo, true_and, hG, hGo]
 clear hPe hE hEo hF hFo hEta hMp hQ0 hQo hQ1 hQ1o hG hGo
 subst hL; subst hQ
 have o1 : zfh (pr2 1 0) := yl2 (by omega) (by omega)
 have e1 : ieq (zcm [] (pr2 1 0) 1) 0 = true := by decide +kernel
 have e2 : (zan (zcl [] (pr2 1 0) 1) (pr2 1 0)).h = true := by decide +kernel
 have e3 : (zan [] (pr2 1 0)).h = false := rfl
 have o2 := zxo 1 zwz o1
 have o3 := zsn 1 zwz o1 (by decide)
 have o3 : zcd (zcl [] (pr2 1 0) 1) := by show (zcl [] (pr2 1 0) 1).length <= 1000000; omega
 have o0 : zcd [] := by show [].length <= 1000000; decide
 refine ⟨⟨o0, zwz, o1⟩, fun _ => ⟨fun _ => ⟨fun _ => ⟨⟨o3, o2, o1⟩, fun _ => ⟨⟨o0, zwz, o1⟩, ?_⟩, fun h => ?_⟩, fun h => ?_⟩, fun h => (by cases h)⟩, fun h => (by cases h)⟩
 · show zdv (.bool true) (.bool (!(zan [] (pr2 1 0)).h))
   rw [e3, zcb]; rfl
 · have h : (zan (zcl [] (pr2 1 0) 1) (pr2 1 0)).h = false := h
   rw [e2] at h; cases h
 · have h : ieq (zcm [] (pr2 1 0) 1) 0 = false := h
   rw [e1] at h; cases h
structure La where
 d : Int
 p : Int
 k : Int
def laC (L : zac) (x : La) : Nat -> AV
 | 0 => .int .u8 (L La.d x)
 | 1 => .int .u8 (L La.p x)
 | _ => .int .i64 (L La.k x)
def ztu (l : List La) (i : Nat) : La := l.getD i ⟨0, 0, 0⟩
def yt4 (l : List La) : Nat := l.length
def yus (x : La) : Prop := (0 <= x.d /\ x.d < 256) /\ (0 <= x.p /\ x.p < 256) /\ (-9223372036854775808 <= x.k /\ x.k < 9223372036854775808)
def ysx (L : zac) (l : List La) : AV := .lst 3 (L yt4 l) (fun i => laC L (L (L ztu l) i))
theorem opens_La {H : Type} {enc : TypeId × Value -> H} {W : World} : zht enc Tryz.prog W 38 La 3 (laC std) yus :=
 (zrc Tryz.underlying38 (by kernel_rfl) (zii rfl (zj5 Tryz.underlying5 (by kernel_rfl)) (zii rfl (zj5 Tryz.underlying5 (by kernel_rfl)) (zii rfl (zj5 Tryz.underlying3 (by kernel_rfl)) (zyz _))))).map
   (fun y => La.mk y.1 y.2.1 y.2.2.1)
   (fun y j hj => by match j, hj with | 0, _ => rfl | 1, _ => rfl | 2, _ => rfl)
   (fun y h => by
     have a1 := bounds_u8 h.1
     have a2 := bounds_u8 h.2.1
     have a3 := bounds_i64 h.2.2.1
     exact ⟨⟨a1.1, by show y.1 < _; omega⟩, ⟨a2.1, by show y.2.1 < _; omega⟩, ⟨a3.1, by show y.2.2.1 < _; omega⟩⟩)
theorem avLa (l : List La) (i j : Nat) (h : i < l.length) : avL (laC std) l i j = laC std (ztu l i) j := by
 rw [avL, ztu, List.getD_eq_getElem?_getD, List.getElem?_eq_getElem h]; rfl
theorem ycy {l : List La} {i : Nat} (h : i < l.length) : ztu l i ∈ l := by
 rw [ztu, List.getD_eq_getElem?_getD, List.getElem?_eq_getElem h]
 exact List.getElem_mem h
def zl3 (p : Pr) : List UInt8 := prB p.1
def zvr (p : Pr) (i q : Nat) : Int := if q < i then za0 p q else 0
def rawI (i : Nat) : Prop := i <= 16
def rawM (i : Nat) : Nat := 16 - i
def rawA (L : zac) (p : Pr) : Nat -> St -> Option Ann := fun id st => match id with
 | 0 => some ⟨Nat, fun i => [(4, .int .i64 (L za6 i))], fun i => [(5, .row 5 1 16 (fun q _ => .int .u8 (L3 L zvr p i q)))], [1, 3], [1], fun i => L rawI i, fun i => L rawM i⟩
 | _ => none
def yhw (L : zac) : zcr := (33, fun xs => match xs with
 | [q] => some (L zhb q /\ L zfh (L zas q), .str (L zl3 (L zas q)))
 | _ => none)
theorem zp0 (p : Pr) : (zl3 p).length = 16 := by
 unfold zl3 prB
 rw [List.length_map, p.2]
theorem yc9 (p : Pr) : bytesOf 16 (fun i => zvr p 16 i) = zl3 p := by
 unfold bytesOf zl3 prB
 apply List.ext_getElem
 · simp [p.2]
 · intro i h1 h2
   have hi : i < 16 := by simpa using h1
   simp only [List.getElem_map, List.getElem_range]
   unfold zvr za0 za9
   rw [if_pos hi, List.getD_eq_getElem?_getD, List.getElem?_eq_getElem (by rw [p.2]; exact hi)]; rfl
theorem zvq : zcu Tryz.prog (yhw std) := by
 intro xs p r h hp
 dsimp only [yhw] at h |-
 split at h <;> cases h
 try simp only [L2, L3, std] at hp |-
 rename_i q
 obtain ⟨ho, hpo⟩ := hp
 refine yxm zh0 ho ?_
 rw [zf2]
 have hpo : zfh (zas q) := hpo
 show zae Tryz.prog 33 [zi8 std (zas q)] (.str (zl3 (zas q)))
 generalize zas q = p at hpo |-
 refine zal (T := tt) (S := noS) (lo := fun L => rawA L p) (lb := noA) 5 (fn := Tryz.f33) (xs := fun L => [zi8 L p]) rfl rfl (by kernel_rfl) (by kernel_rfl) rfl zah (zd0 _) (by kernel_rfl) ?_
 intro L P' Q' hL hP hQ
 (cbv; try simp only [syT, true_and, and_true])
 refine ⟨?_, ⟨0, ?_⟩, fun i hi => ?_⟩
 · subst hL; decide
 · (cbv; try simp only [syT, true_and, and_true])
   subst hL
   repeat' first | exact fun _ _ _ _ => trivial | refine And.intro ?_ ?_
   all_goals first | rfl | exact Nat.zero_le _ | exact fun q j hq hj => (by
     obtain rfl : j = 0 := by omega
     show AV.int .u8 0 = AV.int .u8 (zvr p 0 q)
     rw [zvr, if_neg (Nat.not_lt_zero _)])
 · have hi2 : i <= 16 := by
     have h := hi
     rw [hL] at h
     exact h
   clear hi
   obtain ⟨i', hi'⟩ : ∃ i', i' = i + 1 := ⟨_, rfl⟩
   (cbv; try simp only [syT, true_and, and_true])
   refine ⟨fun hlt => ⟨?_, ?_, ⟨i', ?_⟩⟩, fun hge => ⟨?_, ?_⟩⟩
   · subst hL
     have hlt : ilt (za6 i) 16 = true := hlt
     rw [zc2, za3] at hlt
     show inR (za6 i) (za6 16) = true
     rw [zfj, za3, za3]; omega
   · subst hL
     have hlt : ilt (za6 i) 16 = true := hlt
     rw [zc2, za3] at hlt
     show inR (za6 i) (za6 (Int.toNat 16)) = true
     rw [zfj, za3, za3, show Int.toNat 16 = 16 from rfl]; omega
   · (cbv; try simp only [syT, true_and, and_true])
     subst hL
     have hlt : ilt (za6 i) 16 = true := hlt
     rw [zc2, za3] at hlt
     repeat' first | exact fun _ _ _ _ => trivial | refine And.intro ?_ ?_
     · intro q j hq hj
       refine (ysg _ .u8 _ (fun q => zvr p i q) q j hj).trans ?_
       show AV.int .u8 (if q = 0 + (za6 i).toNat then za9 [za0 p 0, za0 p 1, za0 p 2, za0 p 3, za0 p 4, za0 p 5, za0 p 6, za0 p 7, za0 p 8, za0 p 9, za0 p 10, za0 p 11, za0 p 12, za0 p 13, za0 p 14, za0 p 15] (za6 i).toNat else zvr p i q) = AV.int .u8 (zvr p i' q)
       rw [zp2, Nat.zero_add, show (za6 i).toNat = i from Int.toNat_natCast i, hi']
       congr 1
       unfold zvr
       by_cases h : q = i
       · rw [if_pos h, if_pos (by omega), h]; rfl
       · rw [if_neg h]
         by_cases h2 : q < i
         · rw [if_pos h2, if_pos (by omega)]
         · rw [if_neg h2, if_neg (by omega)]
     · show zbt .i64 (za6 i) 1 = za6 i'
       unfold zbt za6
       rw [zco]; omega
     · show i' <= 16
       omega
     · show 16 - i' < 16 - i
       omega
   · subst hL
     exact ⟨show 0 + Int.toNat 16 <= 16 by decide, fun q hq => ⟨_, rfl⟩⟩
   · subst hL; subst hQ
     have hge : ilt (za6 i) 16 = false := hge
     rw [zdw, za3] at hge
     obtain rfl : i = 16 := by omega
     rw [zgs]
     have e : (fun q => (AV.int .u8 (zvr p 16 (0 + q))).toI) = zvr p 16 := funext fun q => congrArg (zvr p 16) (Nat.zero_add q)
     show bytesOf (Int.toNat 16) (fun q => (AV.int .u8 (zvr p 16 (0 + q))).toI) = zl3 p
     rw [e]
     exact yc9 p
def isP (p : Pr) (e : Le) : Bool := decide (e.p = p)
def zhm (l : List Le) (p : Pr) : Int := zjj (isP p) l
def ywx (L : zac) (l : List Le) (p : Pr) : Nat -> St -> Option Ann := fun id st => match id with
 | 0 => some ⟨Nat, fun i => [(9, .int .i64 (L za6 i))], fun _ => [], [3, 4, 7, 8], [3], fun i => L3 L zp9 (L isP p) l i, fun i => L2 L Nat.sub (L zg4 l) i⟩
 | _ => none
def zxk (L : zac) : zcr := (39, fun xs => match xs with
 | [x, q] => some (L zf4 x /\ L zhb q /\ L zcd (L zaa x), .int .i64 (L2 L zhm (L zaa x) (L zas q)))
 | _ => none)
theorem zse : zcu Tryz.prog (zxk std) := by
 intro xs p r h hp
 dsimp only [zxk] at h |-
 split at h <;> cases h
 try simp only [L2, L3, std] at hp |-
 rename_i x q
 obtain ⟨ho, ho2, hz⟩ := hp
 refine zuz zch ho (zkx zh0 ho2 ?_)
 rw [zf2]
 have hz : zcd (zaa x) := hz
 show zae Tryz.prog 39 (zl9 std leV (zaa x) :: zi8 std (zas q) :: []) (.int .i64 (zhm (zaa x) (zas q)))
 generalize zaa x = l at hz |-
 generalize zas q = p
 refine zal (T := tt) (S := noS) (lo := fun L => ywx L l p) (lb := noA) 5 (fn := Tryz.f39) (xs := fun L => [zbf L l, zi8 L p]) rfl rfl (by kernel_rfl) (by kernel_rfl) rfl zah (zd0 _) (by kernel_rfl) ?_
 intro L P' Q' hL hP hQ
 have hw : zg4 l = l.length := rfl
 have hz : l.length <= 1000000 := hz
 (cbv; try simp only [syT, true_and, and_true])
 refine ⟨⟨0, ?_⟩, fun i hi => ?_⟩
 · (cbv; try simp only [syT, true_and, and_true])
   subst hL
   exact ⟨fun _ _ _ _ => trivial, fun _ _ _ _ => trivial, rfl, yd1 _ _⟩
 · have hi2 : zp9 (isP p) l i := by
     have h := hi
     rw [hL] at h
     exact h
   clear hi
   obtain ⟨i', hi'⟩ : ∃ i', i' = i + 1 := ⟨_, rfl⟩
   (cbv; try simp only [syT, true_and, and_true])
   refine ⟨fun hlt => ⟨?_, fun hE => ?_, fun hE => ⟨i', ?_⟩⟩, fun hge => ?_⟩
   · subst hL
     have hlt : ilt (za6 i) (za6 l.length) = true := hlt
     rw [zc2, za3, za3] at hlt
     show inR (za6 i) (za6 l.length) = true
     rw [zfj, za3, za3]; omega
   · subst hL; subst hQ
     have hlt : ilt (za6 i) (za6 l.length) = true := hlt
     rw [zc2, za3, za3] at hlt
     have hE : isP p (za4 l i) = true := (zto (za4 l i).p p).symm.trans hE
     show zdv (.int .i64 (zhm l p)) (.int .i64 (za6 i))
     rw [zes, zhm, zri (V := leV) hi2 (by omega) hE]; rfl
   · (cbv; try simp only [syT, true_and, and_true])
     subst hL
     have hlt : ilt (za6 i) (za6 l.length) = true := hlt
     rw [zc2, za3, za3] at hlt
     have hE : isP p (za4 l i) = false := (zto (za4 l i).p p).symm.trans hE
     subst hi'
     refine ⟨fun _ _ _ _ => trivial, fun _ _ _ _ => trivial, ?_, znq (V := leV) hi2 (by omega) hE, ?_⟩
     · show zbt .i64 (za6 i) 1 = za6 (i + 1)
       unfold zbt za6
       rw [zco]; omega
     · show l.length - (i + 1) < l.length - i
       omega
   · subst hL; subst hQ
     have hge : ilt (za6 i) (za6 l.length) = false := hge
     rw [zdw, za3, za3] at hge
     show zdv (.int .i64 (zhm l p)) (.int .i64 (-1))
     rw [zes, zhm, zrj hi2 (by omega)]
theorem yeq {l : List Le} {p : Pr} : (zhm l p < 0 ↔ zby p l = false) /\ (¬ zhm l p < 0 -> (zhm l p).toNat < l.length /\ za4 l (zhm l p).toNat = zan l p) := by
 have ha := zxf (isP p) l
 have hg := zu6 (isP p) l
 have hh : zby p l = l.any (isP p) := rfl
 unfold zhm
 constructor
 · rw [hh, <- ha]
   constructor
   · intro h; exact decide_eq_false (by omega)
   · intro h; have := of_decide_eq_false h; omega
 · intro h
   have hlt : (zjj (isP p) l).toNat < l.length := by omega
   refine ⟨hlt, ?_⟩
   have key : ∀ (l : List Le), 0 <= zjj (isP p) l -> l.find? (fun e => decide (e.p = p)) = l[(zjj (isP p) l).toNat]? := by
     intro l
     induction l with
     | nil => intro h; simp [zjj] at h
     | cons e l ih =>
       intro h
       unfold zjj at h |-
       rw [List.find?_cons]
       by_cases he : isP p e = true
       · have he2 : decide (e.p = p) = true := he
         rw [if_pos he, he2]; rfl
       · have he2 : decide (e.p = p) = false := Bool.eq_false_iff.2 he
         rw [if_neg he] at h |-
         rw [he2]
         by_cases h0 : zjj (isP p) l < 0
         · rw [if_pos h0] at h; omega
         · rw [if_neg h0]
           simp only
           rw [ih (by omega), show (zjj (isP p) l + 1).toNat = (zjj (isP p) l).toNat + 1 by omega, List.getElem?_cons_succ]
   unfold zan
   rw [key l (by omega), List.getElem?_eq_getElem hlt]
   exact zb5 hlt
def zvo (L : zac) : zcr := (19, fun xs => match xs with
 | [x, q] => some (L zf4 x /\ L zhb q /\ L zcd (L zaa x), leA L (L2 L zan (L zaa x) (L zas q)))
 | _ => none)
theorem zqz : zcu Tryz.prog (zvo std) := by
 intro xs p r h hp
 dsimp only [zvo] at h |-
 split at h <;> cases h
 try simp only [L2, L3, std] at hp |-
 rename_i x q
 obtain ⟨ho, ho2, hz⟩ := hp
 refine zuz zch ho (zkx zh0 ho2 ?_)
 rw [zf2]
 have hz : zcd (zaa x) := hz
 show zae Tryz.prog 19 (zl9 std leV (zaa x) :: zi8 std (zas q) :: []) (leA std (zan (zaa x) (zas q)))
 generalize zaa x = l at hz |-
 generalize zas q = p
 refine zal (T := tt) (S := fun L => zbe [zxk L]) (lo := noA) (lb := noA) 5 (fn := Tryz.f19) (xs := fun L => [zbf L l, zi8 L p]) rfl rfl (by kernel_rfl) (by kernel_rfl) rfl zah (zab ⟨zse, trivial⟩) (by kernel_rfl) ?_
 intro L P' Q' hL hP hQ
 have hz : l.length <= 1000000 := hz
 obtain ⟨f1, f2⟩ := yeq (l := l) (p := p)
 obtain ⟨hE, hEo, hF, hFo, hEta, hPe, hMp, hQ0, hQo, hQ1, hQ1o, hG, hGo⟩ : ze0 L := by subst hL; exact zeg
 (cbv; try simp only [syT, true_and, and_true])
 simp only [hPe, hE, hEo, hF, hFo, hEta, hMp, hQ1, hQ1o, hQ0, hQo, hG, hGo, true_and]
 subst hL; subst hQ
 refine ⟨hz, fun h => ?_, fun h => ⟨?_, ?_⟩⟩
 · have h : ilt (zhm l p) 0 = true := h
   rw [zc2] at h
   exact zo3 _ ⟨p, 0, false⟩ (zuf (f1.1 h)).symm
 · have h : ilt (zhm l p) 0 = false := h
   rw [zdw] at h
   have := (f2 (by omega)).1
   show inR (zhm l p) (za6 l.length) = true
   rw [zfj, za3]; omega
 · have h : ilt (zhm l p) 0 = false := h
   rw [zdw] at h
   exact zo3 _ _ (f2 (by omega)).2
theorem ykt (c : Bool) (x y : Le) {j : Nat} (hj : j < 18) : zi7 std c (leC std x j) (leC std y j) = leC std (if c = true then x else y) j := by
 have : j < 16 \/ j = 16 \/ j = 17 := by omega
 rcases this with h | rfl | rfl
 · rw [ydq x h, ydq y h, ydq _ h]
   cases c <;> rfl
 · cases c <;> rfl
 · cases c <;> rfl
theorem zdc {a b : List Le} {y : Le} (h : b = a ++ [y]) : Nat.add a.length 1 = b.length := by rw [h, List.length_append]; rfl
theorem zew {a b : List Le} {y : Le} {g : Nat -> Nat -> AV} {n q j : Nat} (hg : ∀ j, j < 18 -> g 0 j = leC std y j) (hn : n = a.length) (h : b = a ++ [y]) (hq : q < b.length) (hj : j < 18) :
   zi7 std (zbr q n) (leC std (za4 a q) j) (g (Nat.sub q n) j) = leC std (za4 b q) j := by
 subst hn h
 rw [List.length_append, List.length_singleton] at hq
 by_cases h : q < a.length
 · have e : za4 (a ++ [y]) q = za4 a q := by rw [zb5 (by rw [List.length_append]; omega), zb5 h]; simp [List.getElem_append_left h]
   have hs := ykt true (za4 a q) y hj
   rw [zn0 h, e]
   have : j < 16 \/ j = 16 \/ j = 17 := by omega
   rw [show Nat.sub q a.length = 0 from Nat.sub_eq_zero_of_le (Nat.le_of_lt h), hg j hj, hs]; rfl
 · have e : za4 (a ++ [y]) q = y := by
     have : q = a.length := by omega
     subst this
     rw [zb5 (by rw [List.length_append]; simp)]
     simp
   rw [zqf h, e, show Nat.sub q a.length = 0 from by show q - a.length = 0; omega, hg j hj, ykt false (za4 a q) y hj]; rfl
def leG (y : Le) : Nat -> Nat -> AV := fun q j => zc4 .dead [.int .u8 (za0 y.p 0), .int .u8 (za0 y.p 1), .int .u8 (za0 y.p 2), .int .u8 (za0 y.p 3), .int .u8 (za0 y.p 4), .int .u8 (za0 y.p 5), .int .u8 (za0 y.p 6), .int .u8 (za0 y.p 7), .int .u8 (za0 y.p 8), .int .u8 (za0 y.p 9), .int .u8 (za0 y.p 10), .int .u8 (za0 y.p 11), .int .u8 (za0 y.p 12), .int .u8 (za0 y.p 13), .int .u8 (za0 y.p 14), .int .u8 (za0 y.p 15), .int .i64 y.d, .bool y.h] (Nat.add 0 q * 18 + j)
theorem zzf (y : Le) (j : Nat) (hj : j < 18) : leG y 0 j = leC std y j := by
 have e : Nat.add 0 0 * 18 + j = j := by rw [show Nat.add 0 0 = 0 from rfl, Nat.zero_mul, Nat.zero_add]
 unfold leG
 rw [e]
 exact ydm y hj
theorem yp7 (m : List Le) (N : Nat) (G : Nat -> Nat -> AV) (h1 : N = m.length) (h2 : ∀ i j, i < N -> j < 18 -> G i j = leC std (za4 m i) j) : zdv (zbf std m) (.lst 18 N G) := by
 show zdv (.lst 18 (zg4 m) fun i => leC std (za4 m i)) (.lst 18 N G)
 rw [zxj]
 exact ⟨h1, fun i j hi hj => h2 i j (by rw [h1]; exact hi) hj⟩
def rpL (e : Le) (l : List Le) (i : Nat) : List Le := (rpN e l i).1
def rpB (e : Le) (l : List Le) (i : Nat) : Bool := (rpN e l i).2
def rpK (e : Le) (l : List Le) (i : Nat) : Nat := (rpN e l i).1.length
def rmB (e : Le) (l : List Le) (i : Nat) : Bool := if (rpN e l i).2 = false /\ kLe e < kLe (za4 l i) then true else (rpN e l i).2
def rmL (e : Le) (l : List Le) (i : Nat) : List Le := if (rpN e l i).2 = false /\ kLe e < kLe (za4 l i) then (rpN e l i).1 ++ [e] else (rpN e l i).1
def rmK (e : Le) (l : List Le) (i : Nat) : Nat := (rmL e l i).length
def yv1 (l : List Le) (i : Nat) : Prop := i <= l.length
def yrg (l : List Le) (i : Nat) : Nat := l.length - i
theorem ybw {e : Le} {l : List Le} {i : Nat} (hi : i < l.length) (hp : ¬ (za4 l i).p = e.p) : rpL e l (i + 1) = rmL e l i ++ [za4 l i] /\ rpB e l (i + 1) = rmB e l i := by
 unfold rpL rpB rmL rmB
 rw [zox hi, <- zb5 hi]
 unfold zep
 rw [if_neg hp]
 by_cases h : (rpN e l i).2 = false /\ kLe e < kLe (za4 l i)
 · rw [if_pos h, if_pos h, if_pos h]
   exact ⟨by simp, rfl⟩
 · rw [if_neg h, if_neg h, if_neg h]
   exact ⟨rfl, rfl⟩
theorem ymz {e : Le} {l : List Le} {i : Nat} (hi : i < l.length) (hp : (za4 l i).p = e.p) : rpN e l (i + 1) = rpN e l i := by
 rw [zox hi, <- zb5 hi]
 unfold zep
 rw [if_pos hp]
theorem yho {e : Le} {l : List Le} {i : Nat} (hi : i <= l.length) (hz : l.length <= 1000000) : rpK e l i <= 2000000 /\ rmK e l i <= 2000001 := by
 have := zth e l i
 unfold rpK rmK rmL
 refine ⟨by omega, ?_⟩
 split
 · rw [List.length_append, List.length_singleton]; omega
 · omega
def yvo (L : zac) (l : List Le) (e : Le) : Nat -> St -> Option Ann := fun id st => match id with
 | 0 => some ⟨Nat, fun i => [(19, .int .i64 (L za6 i)), (5, .sl 900 18 0 (L (L (L rpK e) l) i)), (6, .bool (L (L (L rpB e) l) i))], fun i => [(900, .row 50 18 (L (L (L rpK e) l) i) (fun j => leC L (L (L za4 (L (L (L rpL e) l) i)) j)))], [3, 17, 18], [3], fun i => L2 L yv1 l i, fun i => L2 L yrg l i⟩
 | 1000038 => yai st 19 fun k => some ⟨Nat, fun _ => [(5, .sl 901 18 0 (L (L (L rmK e) l) (L Int.toNat k))), (6, .bool (L (L (L rmB e) l) (L Int.toNat k)))], fun _ => [(901, .row 50 18 (L (L (L rmK e) l) (L Int.toNat k)) (fun j => leC L (L (L za4 (L (L (L rmL e) l) (L Int.toNat k))) j)))], [3, 8, 17, 18, 19], [3, 8], fun _ => True, fun _ => 0⟩
 | _ => none
def zvl (L : zac) : zcr := (18, fun xs => match xs with
 | [x, q] => some (L zf4 x /\ L zre q /\ L zcd (L zaa x) /\ L zcs (L zaa x) /\ L zg1 (L zek q), zbf L (L2 L zb1 (L zaa x) (L zek q)))
 | _ => none)
theorem zqx : zcu Tryz.prog (zvl std) := by
 intro xs p r h hp
 dsimp only [zvl] at h |-
 split at h <;> cases h
 try simp only [L2, L3, std] at hp |-
 rename_i x q
 obtain ⟨ho, ho2, hz, hok, hpo⟩ := hp
 refine zuz zch ho (zkx zch ho2 ?_)
 rw [zwx]
 have hz : zcd (zaa x) := hz
 have hok : zcs (zaa x) := hok
 have hpo : zg1 (zek q) := hpo
 show zae Tryz.prog 18 (zl9 std leV (zaa x) :: leA std (zek q) :: []) (zbf std (zb1 (zaa x) (zek q)))
 generalize zaa x = l at hz hok |-
 generalize zek q = e at hpo |-
 refine zal (T := tt) (S := fun L => zbe [yhw L]) (lo := fun L => yvo L l e) (lb := noA) 5 (fn := Tryz.f18) (xs := fun L => [zbf L l, leA L e]) rfl rfl (by kernel_rfl) (by kernel_rfl) rfl zah (zab ⟨zvq, trivial⟩) (by kernel_rfl) ?_
 intro L P' Q' hL hP hQ
 have hz : l.length <= 1000000 := hz
 obtain ⟨hE, hEo, hF, hFo, hEta, hPe, hMp, hQ0, hQo, hQ1, hQ1o, hG, hGo⟩ : ze0 L := by subst hL; exact zeg
 (cbv; try simp only [syT, true_and, and_true])
 refine (fun hT => ⟨fun h => ⟨⟨0, ?_⟩, hT⟩, fun h => ⟨⟨0, ?_⟩, hT⟩⟩) ?_
 · intro i hi
   have hi2 : i <= l.length := by
     have h := hi
     rw [hL] at h
     exact h
   clear hi
   obtain ⟨i', hi'⟩ : ∃ i', i' = i + 1 := ⟨_, rfl⟩
   obtain ⟨s1, s2⟩ := yho (e := e) hi2 hz
   (cbv; try simp only [syT, true_and, and_true])
   simp only [hPe, hE, hEo, hF, hFo, hEta, hMp, hQ1, hQ1o, hQ0, hQo, hG, hGo, true_and]
   have hin : L (L ilt (L za6 i)) (L za6 (L zg4 l)) = true -> i < l.length := by
     intro h
     rw [hL] at h
     have h : ilt (za6 i) (za6 l.length) = true := h
     rw [zc2, za3, za3] at h
     omega
   refine ⟨fun hlt => ⟨?_, fun hp => ⟨i', ?_⟩, fun hp => ⟨fun hb => ⟨?_, ?_, ⟨fun hc => ⟨?_, 0, ?_⟩, fun hc => ⟨0, ?_⟩⟩, fun y hy => ?_⟩, fun hb => ⟨?_, i', ?_⟩⟩⟩, fun hge => ⟨fun hb => ⟨?_, ?_⟩, fun hb => ?_⟩⟩
   · have hi := hin hlt
     subst hL
     show inR (za6 i) (za6 l.length) = true
     rw [zfj, za3, za3]; omega
   · have hi := hin hlt
     (cbv; try simp only [syT, true_and, and_true])
     subst hL
     have hp : ynf (za4 l i).p e.p = true := hp
     have e1 : rpN e l i = rpN e l i' := by rw [hi']; exact (ymz hi (of_decide_eq_true hp)).symm
     refine ⟨⟨congrArg (fun x : List Le × Bool => x.1.length) e1, fun q j _ _ => congrArg (fun x : List Le × Bool => leC std (za4 x.1 q) j) e1⟩, fun _ _ _ _ => trivial, congrArg Prod.snd e1, congrArg (fun x : List Le × Bool => x.1.length) e1, ?_, ?_, ?_⟩
     · show zbt .i64 (za6 i) 1 = za6 i'
       unfold zbt za6
       rw [zco]; omega
     · show i' <= l.length
       omega
     · show l.length - i' < l.length - i
       omega
   · subst hL; exact hpo.1
   · have hi := hin hlt
     subst hL
     show zfh (za4 l i).p
     rw [zb5 hi]
     exact (hok.ok _ (List.getElem_mem hi)).1
   · subst hL
     show zc9 32 (rpK e l i) 1 = true
     rw [zd8]; omega
   · have hi := hin hlt
     (cbv; try simp only [syT, true_and, and_true])
     subst hL
     have hb : (!rpB e l i) = true := hb
     have hb2 : (rpN e l i).2 = false := by
       have : (!(rpN e l i).2) = true := hb
       simpa using this
     have hc : slt (zl3 e.p) (zl3 (za4 l i).p) = true := hc
     have hc2 : kLe e < kLe (za4 l i) := by
       have := zpk (p := e.p.1) (q := (za4 l i).p.1) (by rw [e.p.2, (za4 l i).p.2]) hpo.1 (by rw [zb5 hi]; exact (hok.ok _ (List.getElem_mem hi)).1)
       exact of_decide_eq_true (this.symm.trans hc)
     have m1 : rmB e l i = true := by unfold rmB; rw [if_pos ⟨hb2, hc2⟩]
     have m2 : rmL e l i = rpL e l i ++ [e] := by unfold rmL; rw [if_pos ⟨hb2, hc2⟩]; rfl
     exact ⟨⟨zdc m2, fun q j hq hj => zew (g := leG e) (zzf e) rfl m2 hq hj⟩, fun _ _ _ _ => trivial, m1.symm, zdc m2⟩
   · have hi := hin hlt
     (cbv; try simp only [syT, true_and, and_true])
     subst hL
     have hc : slt (zl3 e.p) (zl3 (za4 l i).p) = false := hc
     have hc2 : ¬ kLe e < kLe (za4 l i) := by
       have := zpk (p := e.p.1) (q := (za4 l i).p.1) (by rw [e.p.2, (za4 l i).p.2]) hpo.1 (by rw [zb5 hi]; exact (hok.ok _ (List.getElem_mem hi)).1)
       exact of_decide_eq_false (this.symm.trans hc)
     have m1 : rmB e l i = rpB e l i := by unfold rmB; rw [if_neg (fun h => hc2 h.2)]; rfl
     have m2 : rmL e l i = rpL e l i := by unfold rmL; rw [if_neg (fun h => hc2 h.2)]; rfl
     exact ⟨⟨congrArg List.length m2.symm, fun q j _ _ => congrArg (fun x => leC std (za4 x q) j) m2.symm⟩, fun _ _ _ _ => trivial, m1.symm, congrArg List.length m2.symm⟩
   · have hi := hin hlt
     (cbv; try simp only [syT, true_and, and_true])
     refine ⟨?_, i', ?_⟩
     · subst hL
       show zc9 32 (rmK e l (za6 i).toNat) 1 = true
       rw [show (za6 i).toNat = i from Int.toNat_natCast i, zd8]; omega
     · (cbv; try simp only [syT, true_and, and_true])
       subst hL
       have hp : ynf (za4 l i).p e.p = false := hp
       obtain ⟨r1, r2⟩ := ybw (e := e) hi (of_decide_eq_false hp)
       have e1 : rpL e l i' = rmL e l (za6 i).toNat ++ [za4 l i] := by rw [hi', r1]; rfl
       refine ⟨⟨zdc e1, fun q j hq hj => zew (g := leG (za4 l i)) (zzf _) rfl e1 hq hj⟩, fun _ _ _ _ => trivial, ?_, zdc e1, ?_, ?_, ?_⟩
       · show rmB e l i = rpB e l i'
         rw [hi', r2]
       · show zbt .i64 (za6 i) 1 = za6 i'
         unfold zbt za6
         rw [zco]; omega
       · show i' <= l.length
         omega
       · show l.length - i' < l.length - i
         omega
   · subst hL
     show zc9 32 (rpK e l i) 1 = true
     rw [zd8]; omega
   · have hi := hin hlt
     (cbv; try simp only [syT, true_and, and_true])
     subst hL
     have hp : ynf (za4 l i).p e.p = false := hp
     have hb : (!rpB e l i) = false := hb
     have hb2 : (rpN e l i).2 = true := by
       have : (!(rpN e l i).2) = false := hb
       simpa using this
     obtain ⟨r1, r2⟩ := ybw (e := e) hi (of_decide_eq_false hp)
     have m1 : rmB e l i = rpB e l i := by unfold rmB; rw [if_neg (fun h => by rw [hb2] at h; exact absurd h.1 (by decide))]; rfl
     have m2 : rmL e l i = rpL e l i := by unfold rmL; rw [if_neg (fun h => by rw [hb2] at h; exact absurd h.1 (by decide))]; rfl
     have e1 : rpL e l i' = rpL e l i ++ [za4 l i] := by rw [hi', r1, m2]
     refine ⟨⟨zdc e1, fun q j hq hj => zew (g := leG (za4 l i)) (zzf _) rfl e1 hq hj⟩, fun _ _ _ _ => trivial, ?_, zdc e1, ?_, ?_, ?_⟩
     · show rpB e l i = rpB e l i'
       rw [hi', r2, m1]
     · show zbt .i64 (za6 i) 1 = za6 i'
       unfold zbt za6
       rw [zco]; omega
     · show i' <= l.length
       omega
     · show l.length - i' < l.length - i
       omega
   · subst hL
     show zc9 32 (rpK e l i) 1 = true
     rw [zd8]; omega
   · subst hL; subst hQ
     have hge : ilt (za6 i) (za6 l.length) = false := hge
     rw [zdw, za3, za3] at hge
     obtain rfl : i = l.length := by omega
     have hb : (!rpB e l l.length) = true := hb
     have hb2 : ¬ (rpN e l l.length).2 = true := by
       have : (!(rpN e l l.length).2) = true := hb
       simpa using this
     have e1 : zb1 l e = rpL e l l.length ++ [e] := by rw [<- zrv hok hpo, zx0, if_neg hb2]; rfl
     refine yp7 _ _ _ (zdc e1) fun q j hq hj => ?_
     have := zew (g := leG e) (zzf e) (n := (rpL e l l.length).length) rfl e1 (q := q) (j := j) (by rw [<- zdc e1]; exact hq) hj
     rw [<- show Nat.add 0 q = q from Nat.zero_add q] at this
     exact this.trans (by rw [show Nat.add 0 q = q from Nat.zero_add q])
   · subst hL; subst hQ
     have hge : ilt (za6 i) (za6 l.length) = false := hge
     rw [zdw, za3, za3] at hge
     obtain rfl : i = l.length := by omega
     have hb : (!rpB e l l.length) = false := hb
     have hb2 : (rpN e l l.length).2 = true := by
       have : (!(rpN e l l.length).2) = false := hb
       simpa using this
     have e1 : zb1 l e = rpL e l l.length := by rw [<- zrv hok hpo, zx0, if_pos hb2]; rfl
     refine yp7 _ _ _ (congrArg List.length e1.symm) fun q j hq hj => ?_
     rw [e1]
     show leC std (za4 (rpL e l l.length) (Nat.add 0 q)) j = _
     rw [show Nat.add 0 q = q from Nat.zero_add q]
 · (cbv; try simp only [syT, true_and, and_true])
   subst hL
   have h : ieq e.d 0 = true := h
   rw [yeb] at h
   refine ⟨rfl, fun _ _ _ _ => trivial, ?_, rfl, rfl, Nat.zero_le _⟩
   show (!e.h) = !zbk e
   unfold zbk
   rw [h]; simp
 · (cbv; try simp only [syT, true_and, and_true])
   subst hL
   have h : ieq e.d 0 = false := h
   rw [ytf] at h
   refine ⟨rfl, fun _ _ _ _ => trivial, ?_, rfl, rfl, Nat.zero_le _⟩
   show false = !zbk e
   have := hpo.2.1
   unfold zbk
   rw [decide_eq_true (by omega)]; rfl
def zfq (s : List Le × Bool) (x : Le) : List Le × Bool := if s.2 = false /\ x.h = false then (s.1, true) else (s.1 ++ [x], s.2)
def dfN (l : List Le) (n : Nat) : List Le × Bool := (l.take n).foldl zfq ([], false)
def dfL (l : List Le) (n : Nat) : List Le := (dfN l n).1
def dfB (l : List Le) (n : Nat) : Bool := (dfN l n).2
def dfK (l : List Le) (n : Nat) : Nat := (dfN l n).1.length
theorem zlf {l : List Le} {n : Nat} (h : n < l.length) : dfN l (n + 1) = zfq (dfN l n) (za4 l n) := by
 unfold dfN
 rw [List.take_succ_eq_append_getElem h, List.foldl_append, <- zb5 h]; rfl
theorem zq7 (l : List Le) : ∀ n, (dfN l n).1.length <= n
 | 0 => by simp [dfN]
 | n + 1 => by
   by_cases h : n < l.length
   · have ih := zq7 l n
     rw [zlf h]
     unfold zfq
     split
     · show (dfN l n).1.length <= n + 1
       omega
     · rw [List.length_append, List.length_singleton]; omega
   · have ih := zq7 l n
     have : dfN l (n + 1) = dfN l n := by
       unfold dfN
       rw [List.take_of_length_le (by omega), List.take_of_length_le (by omega)]
     rw [this]; omega
theorem yf0 : ∀ (l : List Le) (a : List Le), l.foldl zfq (a, true) = (a ++ l, true)
 | [], a => by simp
 | x :: l, a => by
   rw [List.foldl_cons]
   have : zfq (a, true) x = (a ++ [x], true) := by unfold zfq; rw [if_neg (by simp)]
   rw [this, yf0 l]; simp
theorem ylp : ∀ (l : List Le) (a : List Le), l.foldl zfq (a, false) = if firstFree l < l.length then (a ++ zeh (firstFree l) l, true) else (a ++ l, false)
 | [], a => by simp
 | x :: l, a => by
   rw [List.foldl_cons]
   have ih := ylp l (a ++ [x])
   unfold firstFree at ih |-
   rw [List.findIdx_cons]
   cases hx : x.h with
   | false =>
     have e : zfq (a, false) x = (a, true) := by unfold zfq; rw [if_pos ⟨rfl, hx⟩]
     rw [e, yf0]
     simp [zeh]
   | true =>
     have e : zfq (a, false) x = (a ++ [x], false) := by unfold zfq; rw [if_neg (by rw [hx]; simp)]
     rw [e, ih]
     simp only [Bool.not_true, cond_false, List.length_cons]
     by_cases h : List.findIdx (fun e => !e.h) l < l.length
     · rw [if_pos h, if_pos (by omega)]
       simp [zeh]
     · rw [if_neg h, if_neg (by omega)]
       simp
theorem ytx (l : List Le) : (dfB l l.length = true -> firstFree l < l.length /\ dfL l l.length = zeh (firstFree l) l) /\ (dfB l l.length = false -> ¬ firstFree l < l.length) := by
 have h := ylp l []
 unfold dfB dfL dfN
 rw [List.take_length, h]
 by_cases hf : firstFree l < l.length
 · rw [if_pos hf]
   exact ⟨fun _ => ⟨hf, by simp⟩, fun h => by cases h⟩
 · rw [if_neg hf]
   exact ⟨fun h => (by cases h), fun _ => hf⟩
def leCs (L : zac) (x : Le) : List AV := [.int .u8 (L2 L za0 (L Le.p x) 0), .int .u8 (L2 L za0 (L Le.p x) 1), .int .u8 (L2 L za0 (L Le.p x) 2), .int .u8 (L2 L za0 (L Le.p x) 3), .int .u8 (L2 L za0 (L Le.p x) 4), .int .u8 (L2 L za0 (L Le.p x) 5), .int .u8 (L2 L za0 (L Le.p x) 6), .int .u8 (L2 L za0 (L Le.p x) 7), .int .u8 (L2 L za0 (L Le.p x) 8), .int .u8 (L2 L za0 (L Le.p x) 9), .int .u8 (L2 L za0 (L Le.p x) 10), .int .u8 (L2 L za0 (L Le.p x) 11), .int .u8 (L2 L za0 (L Le.p x) 12), .int .u8 (L2 L za0 (L Le.p x) 13), .int .u8 (L2 L za0 (L Le.p x) 14), .int .u8 (L2 L za0 (L Le.p x) 15), .int .i64 (L Le.d x), .bool (L Le.h x)]
def rdE1 (l : List Le) (p : Pr) (y : Le) : Prop := y = ⟨(zan l p).p, min ((zan l p).d + 1) 255, (zan l p).h⟩
def rdE2 (l : List Le) (p : Pr) (k : Int) (y : Le) : Prop := y = yez (zan l p) k
def rdiA (L : zac) (l : List Le) (p : Pr) (k : Int) : Nat -> St -> Option Ann := fun id st => match id with
 | 1000024 => some ⟨Le, fun _ => [], fun y => [(8, .box 50 (leCs L y))], [0, 2, 4, 8], [4], fun y => L3 L rdE1 l p y, fun _ => 0⟩
 | 1000032 => some ⟨Le, fun _ => [], fun y => [(8, .box 50 (leCs L y))], [0, 2, 4, 8], [4], fun y => L (L3 L rdE2 l p k) y, fun _ => 0⟩
 | 0 => some ⟨Nat, fun i => [(45, .int .i64 (L za6 i)), (9, .sl 902 18 0 (L2 L dfK l i)), (10, .bool (L2 L dfB l i))], fun i => [(902, .row 50 18 (L2 L dfK l i) (fun j => leC L (L (L za4 (L2 L dfL l i)) j)))], [4, 8, 43, 44], [4, 8], fun i => L2 L yv1 l i, fun i => L2 L yrg l i⟩
 | _ => none
def yn5 (L : zac) : zcr := (20, fun xs => match xs with
 | [x, q, .int .i64 k] => some (L zf4 x /\ L zhb q /\ L zcd (L zaa x) /\ L zcs (L zaa x) /\ L zfh (L zas q), .tup [zbf L (L2 L ldD (L zaa x) (L2 L Prod.mk (L zas q) k)), .int .i64 (L2 L ldE (L zaa x) (L2 L Prod.mk (L zas q) k))])
 | _ => none)
theorem ztk {l : List Le} {p : Pr} {k c : Int} (h : zcm l p k = c) (hc : c ≠ 0) : zdv (.tup [zbf std (zcl l p k), .int .i64 (zcm l p k)]) (.tup [.nils, .int .i64 c]) := by
 have e : zcl l p k = [] := by unfold zcl; rw [if_neg (by rw [h]; exact hc)]
 rw [zee, zb2, zb2, zd5, zei, h, e]
 refine ⟨?_, rfl, trivial⟩
 show zbl (.lst 18 0 _) .nils
 rw [zkb]
theorem yn6 {l m : List Le} {p : Pr} {k : Int} (h : zcm l p k = 0) (hm : m = zcl l p k) : zdv (.tup [zbf std (zcl l p k), .int .i64 (zcm l p k)]) (.tup [.lst 18 (zg4 m) fun i => leC std (za4 m i), .int .i64 0]) := by
 rw [zee, zb2, zb2, zd5, zei, h, <- hm]
 exact ⟨yp7 _ _ _ rfl fun i j hi hj => rfl, rfl, trivial⟩
theorem zwv {a b : Le} (e : a = b) : a.h = b.h := by rw [e]
theorem zww {a b : Le} (e : a = b) : a.d = b.d := by rw [e]
theorem zvu {a b : Le} (e : a = b) (j : Nat) : za0 a.p j = za0 b.p j := by rw [e]
theorem yht : zcu Tryz.prog (yn5 std) := by
 intro xs p r h hp
 dsimp only [yn5] at h |-
 split at h <;> cases h
 try simp only [L2, L3, std] at hp |-
 rename_i x q k
 obtain ⟨ho, ho2, hz, hok, hpo⟩ := hp
 refine zuz zch ho (zkx zh0 ho2 ?_)
 rw [zf2]
 have hz : zcd (zaa x) := hz
 have hok : zcs (zaa x) := hok
 have hpo : zfh (zas q) := hpo
 show zae Tryz.prog 20 (zl9 std leV (zaa x) :: zi8 std (zas q) :: [.int .i64 k]) (.tup [zbf std (zcl (zaa x) (zas q) k), .int .i64 (zcm (zaa x) (zas q) k)])
 generalize zaa x = l at hz hok |-
 generalize zas q = p at hpo |-
 refine zal (T := tt) (S := fun L => zbe [zvo L, zxk L, zvl L]) (lo := fun L => rdiA L l p k) (lb := noA) 5 (fn := Tryz.f20) (xs := fun L => [zbf L l, zi8 L p, .int .i64 k]) rfl rfl (by kernel_rfl) (by kernel_rfl) rfl zah (zab ⟨zqz, zse, zqx, trivial⟩) (by kernel_rfl) ?_
 intro L P' Q' hL hP hQ
 have hz : l.length <= 1000000 := hz
 obtain ⟨hE, hEo, hF, hFo, hEta, hPe, hMp, hQ0, hQo, hQ1, hQ1o, hG, hGo⟩ : ze0 L := by subst hL; exact zeg
 have hgk := zjf hok hpo
 have hgp := zpp l p
 have hw : zbt .i64 (zan l p).d 1 = (zan l p).d + 1 := by
   have := hgk.2
   unfold zbt
   rw [zco]; omega
 obtain ⟨y1, hy1⟩ : ∃ y : Le, y = ⟨(zan l p).p, min ((zan l p).d + 1) 255, (zan l p).h⟩ := ⟨_, rfl⟩
 obtain ⟨y2, hy2⟩ : ∃ y : Le, y = yez (zan l p) k := ⟨_, rfl⟩
 (cbv; try simp only [syT, true_and, and_true])
 simp only [hPe, hE, hEo, hF, hFo, hEta, hMp, hQ1, hQ1o, hQ0, hQo, hG, hGo, true_and]
 refine ⟨fun h1 => ?_, fun h1 => ⟨fun h2 => ?_, fun h2 => ⟨?_, ⟨fun h3 => ⟨y1, ?_⟩, fun h3 => ⟨y1, ?_⟩⟩, fun y hy => ?_⟩⟩⟩
 · subst hL; subst hQ
   have h : ilt k 1 = true := h1
   rw [zc2] at h
   exact ztk (by unfold zcm; rw [if_pos (.inl h)]) (by decide)
 · subst hL; subst hQ
   have h : ilt 255 k = true := h2
   rw [zc2] at h
   exact ztk (by unfold zcm; rw [if_pos (.inr h)]) (by decide)
 · subst hL; exact hz
 · (cbv; try simp only [syT, true_and, and_true])
   subst hL
   have h3 : ilt (zan l p).d 255 = true := h3
   rw [zc2] at h3
   have e : Le.mk (zan l p).p (zbt .i64 (zan l p).d 1) (zan l p).h = y1 := by
     rw [hy1, hw, show min ((zan l p).d + 1) 255 = (zan l p).d + 1 by omega]
   have qh := zwv e
   have qd := zww e
   have qp := zvu e
   repeat' first | exact fun _ _ _ _ => trivial | refine And.intro ?_ ?_
   all_goals first | exact qh | exact qd | exact qp _ | exact hy1
 · (cbv; try simp only [syT, true_and, and_true])
   subst hL
   have h3 : ilt (zan l p).d 255 = false := h3
   rw [zdw] at h3
   have e : zan l p = y1 := by
     have := hgk.2.2
     rw [hy1, show min ((zan l p).d + 1) 255 = (zan l p).d by omega]
   have qh := zwv e
   have qd := zww e
   have qp := zvu e
   repeat' first | exact fun _ _ _ _ => trivial | refine And.intro ?_ ?_
   all_goals first | exact qh | exact qd | exact qp _ | exact hy1
 · have hk : ¬ (k < 1 \/ 255 < k) := by
     rw [hL] at h1 h2
     have h1 : ilt k 1 = false := h1
     have h2 : ilt 255 k = false := h2
     rw [zdw] at h1 h2
     omega
   have hyy : y = ⟨(zan l p).p, min ((zan l p).d + 1) 255, (zan l p).h⟩ := by
     have h := hy
     rw [hL] at h
     exact h
   clear hy h1 h2
   (cbv; try simp only [syT, true_and, and_true])
   refine ⟨⟨fun h3 => ⟨y2, ?_⟩, fun h3 => ⟨y2, ?_⟩⟩, fun z hz1 => ?_⟩
   · (cbv; try simp only [syT, true_and, and_true])
     subst hL
     have h3 : ile k y.d = true := h3
     rw [yea, hyy] at h3
     have h3 : k <= min ((zan l p).d + 1) 255 := h3
     have e : Le.mk y.p y.d true = y2 := by
       rw [hy2, hyy]
       unfold yez
       rw [decide_eq_true h3, Bool.or_true]
     have qh := zwv e
     have qd := zww e
     have qp := zvu e
     repeat' first | exact fun _ _ _ _ => trivial | refine And.intro ?_ ?_
     all_goals first | exact qh | exact qd | exact qp _ | exact hy2
   · (cbv; try simp only [syT, true_and, and_true])
     subst hL
     have h3 : ile k y.d = false := h3
     rw [yjj, hyy] at h3
     have h3 : ¬ k <= min ((zan l p).d + 1) 255 := Int.not_le.2 h3
     have e : y = y2 := by
       rw [hy2, hyy]
       unfold yez
       rw [decide_eq_false h3, Bool.or_false]
     have qh := zwv e
     have qd := zww e
     have qp := zvu e
     repeat' first | exact fun _ _ _ _ => trivial | refine And.intro ?_ ?_
     all_goals first | exact qh | exact qd | exact qp _ | exact hy2
   · have hzz : z = yez (zan l p) k := by
       have h := hz1
       rw [hL] at h
       exact h
     clear hz1
     have hzp : z.p = p := by rw [hzz]; exact zpp l p
     have hzk : zg1 z := by rw [hzz]; exact zq4 k hgk
     obtain ⟨f1, f2⟩ := yeq (l := l) (p := p)
     (cbv; try simp only [syT, true_and, and_true])
     simp only [hPe, hE, hEo, hF, hFo, hEta, hMp, hQ1, hQ1o, hQ0, hQo, hG, hGo, true_and]
     have hput : ∀ m : List Le, zd9 l p = m -> zcm l p k = 0 -> zdv (.tup [zbf std (zcl l p k), .int .i64 (zcm l p k)]) (.tup [.lst 18 (zg4 (zb1 m z)) fun i => leC std (za4 (zb1 m z) i), .int .i64 0]) := by
       intro m hm h0
       refine yn6 h0 ?_
       unfold zcl
       rw [if_pos h0, hm, hzz]
     have hroom : ¬ zia l p = true -> zd9 l p = l /\ zcm l p k = 0 := by
       intro hf
       refine ⟨if_neg hf, ?_⟩
       unfold zcm
       rw [if_neg hk, if_neg (fun h => hf h.1)]
     refine ⟨?_, fun h4 => ⟨fun h5 => ⟨⟨0, ?_⟩, fun i hi => ?_⟩, fun h5 => ⟨?_, ?_⟩⟩, fun h4 => ⟨?_, ?_⟩⟩
     · subst hL; exact hz
     · (cbv; try simp only [syT, true_and, and_true])
       subst hL
       exact ⟨fun _ _ _ _ => trivial, rfl, fun _ _ _ _ => trivial, rfl, rfl, rfl, Nat.zero_le _⟩
     · have hi2 : i <= l.length := by
         have h := hi
         rw [hL] at h
         exact h
       clear hi
       obtain ⟨i', hi'⟩ : ∃ i', i' = i + 1 := ⟨_, rfl⟩
       have hdl := zq7 l i
       have hfull : zia l p = true := by
         rw [hL] at h4 h5
         have h4 : ilt (zhm l p) 0 = true := h4
         have h5 : ile 64 (za6 l.length) = true := h5
         rw [zc2] at h4
         rw [yea, za3] at h5
         unfold zia
         rw [f1.1 h4, Bool.not_false, Bool.true_and]
         exact decide_eq_true (by omega)
       (cbv; try simp only [syT, true_and, and_true])
       have hin : L (L ilt (L za6 i)) (L za6 (L zg4 l)) = true -> i < l.length := by
         intro h
         rw [hL] at h
         have h : ilt (za6 i) (za6 l.length) = true := h
         rw [zc2, za3, za3] at h
         omega
       refine ⟨fun hlt => ⟨?_, fun hb => ⟨fun hf => ⟨i', ?_⟩, fun hf => ⟨?_, i', ?_⟩⟩, fun hb => ⟨?_, i', ?_⟩⟩, fun hge => ?_⟩
       · have hi := hin hlt
         subst hL
         show inR (za6 i) (za6 l.length) = true
         rw [zfj, za3, za3]; omega
       · have hi := hin hlt
         (cbv; try simp only [syT, true_and, and_true])
         subst hL
         have hb : (!dfB l i) = true := hb
         have hb2 : (dfN l i).2 = false := by
           have : (!(dfN l i).2) = true := hb
           simpa using this
         have hf : (!(za4 l i).h) = true := hf
         have hf2 : (za4 l i).h = false := by simpa using hf
         have e1 : dfN l i' = ((dfN l i).1, true) := by
           rw [hi', zlf hi]
           unfold zfq
           rw [if_pos ⟨hb2, hf2⟩]
         have e2 : dfL l i = dfL l i' := by
           unfold dfL
           rw [e1]
         refine ⟨fun _ _ _ _ => trivial, ⟨congrArg List.length e2, fun q j _ _ => congrArg (fun x => leC std (za4 x q) j) e2⟩, fun _ _ _ _ => trivial, (congrArg Prod.snd e1).symm, congrArg List.length e2, ?_, ?_, ?_⟩
         · show zbt .i64 (za6 i) 1 = za6 i'
           unfold zbt za6
           rw [zco]; omega
         · show i' <= l.length
           omega
         · show l.length - i' < l.length - i
           omega
       · subst hL
         show zc9 32 (dfK l i) 1 = true
         have : dfK l i <= i := hdl
         rw [zd8]; omega
       · have hi := hin hlt
         (cbv; try simp only [syT, true_and, and_true])
         subst hL
         have hf : (!(za4 l i).h) = false := hf
         have hf2 : ¬ (za4 l i).h = false := by
           intro h
           rw [h] at hf; cases hf
         have e1 : dfN l i' = ((dfN l i).1 ++ [za4 l i], (dfN l i).2) := by
           rw [hi', zlf hi]
           unfold zfq
           rw [if_neg (fun h => hf2 h.2)]
         have e2 : dfL l i' = dfL l i ++ [za4 l i] := congrArg Prod.fst e1
         refine ⟨fun _ _ _ _ => trivial, ⟨zdc e2, fun q j hq hj => zew (g := leG (za4 l i)) (zzf _) rfl e2 hq hj⟩, fun _ _ _ _ => trivial, (congrArg Prod.snd e1).symm, zdc e2, ?_, ?_, ?_⟩
         · show zbt .i64 (za6 i) 1 = za6 i'
           unfold zbt za6
           rw [zco]; omega
         · show i' <= l.length
           omega
         · show l.length - i' < l.length - i
           omega
       · subst hL
         show zc9 32 (dfK l i) 1 = true
         have : dfK l i <= i := hdl
         rw [zd8]; omega
       · have hi := hin hlt
         (cbv; try simp only [syT, true_and, and_true])
         subst hL
         have hb : (!dfB l i) = false := hb
         have hb2 : (dfN l i).2 = true := by
           have : (!(dfN l i).2) = false := hb
           simpa using this
         have e1 : dfN l i' = ((dfN l i).1 ++ [za4 l i], (dfN l i).2) := by
           rw [hi', zlf hi]
           unfold zfq
           rw [if_neg (fun h => by rw [hb2] at h; exact absurd h.1 (by decide))]
         have e2 : dfL l i' = dfL l i ++ [za4 l i] := congrArg Prod.fst e1
         refine ⟨fun _ _ _ _ => trivial, ⟨zdc e2, fun q j hq hj => zew (g := leG (za4 l i)) (zzf _) rfl e2 hq hj⟩, fun _ _ _ _ => trivial, (congrArg Prod.snd e1).symm, zdc e2, ?_, ?_, ?_⟩
         · show zbt .i64 (za6 i) 1 = za6 i'
           unfold zbt za6
           rw [zco]; omega
         · show i' <= l.length
           omega
         · show l.length - i' < l.length - i
           omega
       · simp only [hPe, hE, hEo, hF, hFo, hEta, hMp, hQ1, hQ1o, hQ0, hQo, hG, hGo, true_and]
         have hil : i = l.length := by
           rw [hL] at hge
           have hge : ilt (za6 i) (za6 l.length) = false := hge
           rw [zdw, za3, za3] at hge
           omega
         subst hL; subst hQ; subst hil
         obtain ⟨g1, g2⟩ := ytx l
         refine ⟨fun hb => ?_, fun hb => ?_⟩
         · have hb : (!dfB l l.length) = true := hb
           have hn := g2 (by simpa using hb)
           exact ztk (by unfold zcm; rw [if_neg hk, if_pos ⟨hfull, hn⟩]) (by decide)
         · have hb : (!dfB l l.length) = false := hb
           obtain ⟨n1, n2⟩ := g1 (by simpa using hb)
           have hE0 : zcm l p k = 0 := by unfold zcm; rw [if_neg hk, if_neg (fun h => h.2 n1)]
           obtain ⟨w1, w2⟩ : zf4 (.lst 18 (dfK l l.length) fun q => leC std (za4 (dfL l l.length) (Nat.add 0 q))) /\ zaa (.lst 18 (dfK l l.length) fun q => leC std (za4 (dfL l l.length) (Nat.add 0 q))) = dfL l l.length :=
             zoz zch rfl fun q j hq hj => by rw [show Nat.add 0 q = q from Nat.zero_add q]; rfl
           have hmk : zd9 l p = dfL l l.length := by rw [n2]; exact if_pos hfull
           have hlen : (dfL l l.length).length <= 1000000 := Nat.le_trans (zq7 l l.length) hz
           have hldo : zcs (dfL l l.length) := by rw [n2]; exact zlc hok
           refine ⟨⟨w1, ?_, ?_, hzk⟩, ?_⟩
           · show zcd (zaa (.lst 18 (dfK l l.length) fun q => leC std (za4 (dfL l l.length) (Nat.add 0 q))))
             rw [w2]; exact hlen
           · show zcs (zaa (.lst 18 (dfK l l.length) fun q => leC std (za4 (dfL l l.length) (Nat.add 0 q))))
             rw [w2]; exact hldo
           · refine hput (zaa (.lst 18 (dfK l l.length) fun q => leC std (za4 (dfL l l.length) (Nat.add 0 q)))) ?_ hE0
             rw [w2]; exact hmk
     · subst hL; exact ⟨hz, hok, hzk⟩
     · subst hL; subst hQ
       have h5 : ile 64 (za6 l.length) = false := h5
       rw [yjj, za3] at h5
       obtain ⟨r1, r2⟩ := hroom (by unfold zia; rw [decide_eq_false (show ¬ 64 <= l.length by omega), Bool.and_false]; decide)
       exact hput l r1 r2
     · subst hL; exact ⟨hz, hok, hzk⟩
     · subst hL; subst hQ
       have h4 : ilt (zhm l p) 0 = false := h4
       rw [zdw] at h4
       have hh : zby p l = true := by
         cases hb : zby p l with
         | true => rfl
         | false => have := f1.2 hb; omega
       obtain ⟨r1, r2⟩ := hroom (by unfold zia; rw [hh]; simp)
       exact hput l r1 r2
def apP (p : Int) : Pr := pr2 p (p / 3)
def u8x (p : Int) : Prop := 0 <= p /\ p < 256
def yqd (L : zac) : zcr := (17, fun xs => match xs with
 | [.agg [.int .u8 d, .int .u8 p, .int .i64 k]] => some (L u8x p, zi8 L (L apP p))
 | _ => none)
theorem quo3 {p : Int} (h : u8x p) : yqk .u8 p 3 = p / 3 := by
 obtain ⟨h0, h1⟩ := h
 unfold yqk
 rw [Int.tdiv_eq_ediv_of_nonneg h0, w_u8]; omega
theorem ytl (x y : Pr) (h : y = x) : zdv (zi8 std x) (zi8 std y) := by
 subst h
 show zbl (zi8 std y) (zi8 std y)
 unfold zi8
 simp only [zcz, zc0, and_self]
theorem ykd : zcu Tryz.prog (yqd std) := by
 intro xs p r h hp
 dsimp only [yqd] at h |-
 split at h <;> cases h
 try simp only [L2, L3, std] at hp |-
 rename_i d p k
 have hp : u8x p := hp
 refine zad (T := tt) (S := noS) (lo := noA) (lb := noA) 5 (fn := Tryz.f17) rfl rfl (by kernel_rfl) (by kernel_rfl) rfl zah (zd0 _) (by kernel_rfl) ?_
 (intro L P1 Q1 hL hP hQ; cbv; subst hL; simp only [L2, L3, std, syT]; subst hQ)
 rw [quo3 hp]
 exact ⟨by decide, ytl _ _ rfl⟩
theorem zpm (y z : Le) : (and (ynf y.p z.p) (and (ieq y.d z.d) (and (yud y.h z.h) true))) = decide (y = z) := by
 cases y with
 | mk p d h =>
   cases z with
   | mk p' d' h' =>
     simp [ynf, ieq, yud, Bool.beq_eq_decide_eq]
def isN9 (l m : List Le) (i : Nat) : Prop := i <= l.length /\ l.length = m.length /\ ∀ j, j < i -> za4 l j = za4 m j
def yom (l m : List Le) : Bool := decide (l = m)
def isA (L : zac) (l m : List Le) : Nat -> St -> Option Ann := fun id st => match id with
 | 0 => some ⟨Nat, fun i => [(17, .int .i64 (L za6 i))], fun _ => [], [1, 2, 15, 16], [2], fun i => L3 L isN9 l m i, fun i => L2 L yrg l i⟩
 | _ => none
def ywr (L : zac) : zcr := (15, fun xs => match xs with
 | [.agg [x], y] => some (L zf4 x /\ L zf4 y /\ L zcd (L zaa x) /\ L zcd (L zaa y) /\ L zcs (L zaa x), .bool (L2 L yom (L zaa x) (L zaa y)))
 | _ => none)
theorem yoj : zcu Tryz.prog (ywr std) := by
 intro xs p r h hp
 dsimp only [ywr] at h |-
 split at h <;> cases h
 try simp only [L2, L3, std] at hp |-
 rename_i x y
 obtain ⟨ho, ho2, hz, hz2, hok⟩ := hp
 refine zqi zch ho (yxl zch ho2 ?_)
 have hz : zcd (zaa x) := hz
 have hz2 : zcd (zaa y) := hz2
 have hok : zcs (zaa x) := hok
 show zae Tryz.prog 15 (.agg [zl9 std leV (zaa x)] :: zl9 std leV (zaa y) :: []) (.bool (yom (zaa x) (zaa y)))
 generalize zaa x = l at hz hok |-
 generalize zaa y = m at hz2 |-
 refine zal (T := tt) (S := fun L => zbe [yoc L, zu1 L]) (lo := fun L => isA L l m) (lb := noA) 5 (fn := Tryz.f15) (xs := fun L => [.agg [zbf L l], zbf L m]) rfl rfl (by kernel_rfl) (by kernel_rfl) rfl zah (zab ⟨yj9, zje, trivial⟩) (by kernel_rfl) ?_
 intro L P' Q' hL hP hQ
 have hz : l.length <= 1000000 := hz
 have hz2 : m.length <= 1000000 := hz2
 obtain ⟨hE, hEo, hF, hFo, hEta, hPe, hMp, hQ0, hQo, hQ1, hQ1o, hG, hGo⟩ : ze0 L := by subst hL; exact zeg
 (cbv; try simp only [syT, true_and, and_true])
 simp only [hPe, hE, hEo, hF, hFo, hEta, hMp, hQ1, hQ1o, hQ0, hQo, hG, hGo, true_and]
 refine ⟨?_, fun h => ?_, fun h => ⟨⟨0, ?_⟩, fun i hi => ?_⟩⟩
 · subst hL; exact hz
 · subst hL; subst hQ
   have h : ine (za6 l.length) (za6 m.length) = true := h
   rw [zs5, za3, za3] at h
   rw [zcb]
   show false = decide (l = m)
   rw [decide_eq_false]
   intro e
   rw [e] at h
   exact h rfl
 · (cbv; try simp only [syT, true_and, and_true])
   subst hL
   have h : ine (za6 l.length) (za6 m.length) = false := h
   rw [zu4, za3, za3] at h
   exact ⟨fun _ _ _ _ => trivial, fun _ _ _ _ => trivial, fun _ _ _ _ => trivial, rfl, Nat.zero_le _, Int.ofNat.inj h, fun j hj => by omega⟩
 · have hi2 : isN9 l m i := by
     have h := hi
     rw [hL] at h
     exact h
   clear hi
   obtain ⟨i1, i2, i3⟩ := hi2
   obtain ⟨i', hi'⟩ : ∃ i', i' = i + 1 := ⟨_, rfl⟩
   (cbv; try simp only [syT, true_and, and_true])
   simp only [hPe, hE, hEo, hF, hFo, hEta, hMp, hQ1, hQ1o, hQ0, hQo, hG, hGo, true_and]
   have hin : L (L ilt (L za6 i)) (L za6 (L zg4 l)) = true -> i < l.length := by
     intro h
     rw [hL] at h
     have h : ilt (za6 i) (za6 l.length) = true := h
     rw [zc2, za3, za3] at h
     omega
   refine ⟨fun hlt => ⟨?_, ?_, fun hq => ?_, fun hq => ⟨?_, fun hg => ?_, fun hg => ⟨i', ?_⟩⟩⟩, fun hge => ?_⟩
   · have hi := hin hlt
     subst hL
     show inR (za6 i) (za6 l.length) = true
     rw [zfj, za3, za3]; omega
   · have hi := hin hlt
     subst hL
     show inR (za6 i) (za6 m.length) = true
     rw [zfj, za3, za3]; omega
   · have hi := hin hlt
     subst hL; subst hQ
     have hq2 : (!decide (za4 l i = za4 m i)) = true := (congrArg not (zpm (za4 l i) (za4 m i))).symm.trans hq
     rw [zcb]
     show false = decide (l = m)
     rw [decide_eq_false]
     intro e
     rw [e] at hq2
     simp at hq2
   · have hi := hin hlt
     subst hL
     refine ⟨hz, hok, ?_⟩
     show zfh (za4 l i).p
     rw [zb5 hi]
     exact (hok.ok _ (List.getElem_mem hi)).1
   · have hi := hin hlt
     subst hL
     have hg2 : (!decide (zan l (za4 l i).p = za4 l i)) = true := (congrArg not (zpm (zan l (za4 l i).p) (za4 l i))).symm.trans hg
     have e : zan l (za4 l i).p = za4 l i := by
       rw [zb5 hi]
       exact yp2 hok (List.getElem_mem hi)
     rw [e] at hg2
     simp at hg2
   · have hi := hin hlt
     (cbv; try simp only [syT, true_and, and_true])
     subst hL
     have hq2 : (!decide (za4 l i = za4 m i)) = false := (congrArg not (zpm (za4 l i) (za4 m i))).symm.trans hq
     have hq3 : za4 l i = za4 m i := by simpa using hq2
     refine ⟨fun _ _ _ _ => trivial, fun _ _ _ _ => trivial, fun _ _ _ _ => trivial, ?_, ⟨?_, i2, fun j hj => ?_⟩, ?_⟩
     · show zbt .i64 (za6 i) 1 = za6 i'
       unfold zbt za6
       rw [zco]; omega
     · omega
     · by_cases h : j = i
       · rw [h]; exact hq3
       · exact i3 j (by omega)
     · show l.length - i' < l.length - i
       omega
   · subst hL; subst hQ
     have hge : ilt (za6 i) (za6 l.length) = false := hge
     rw [zdw, za3, za3] at hge
     rw [zcb]
     show true = decide (l = m)
     symm
     apply decide_eq_true
     apply List.ext_getElem i2
     intro j h1 h2
     rw [<- zb5 h1, <- zb5 h2]
     exact i3 j (by omega)
structure Nd where
 k : Int
 n : Int
 s : List UInt8
 b : List UInt8
def yuz (l : List Nd) (i : Nat) : Nd := l.getD i ⟨0, 0, [], []⟩
def yqb {α : Type} (all : List α) : List UInt8 -> List α
 | [] => []
 | x :: b => if h : x.toNat < all.length then all[all.length - 1 - x.toNat] :: yqb all b else yqb all b
def sumI : List Int -> Int
 | [] => 0
 | x :: l => x + sumI l
def sizN (all : List Int) (d : Nd) : Int := 1 + ((d.s.length / 8 : Nat) : Int) + sumI (yqb all d.b)
def ymk (l : List Nd) : Nat -> List Int
 | 0 => []
 | i + 1 => ymk l i ++ [sizN (ymk l i) (yuz l i)]
def sizD (l : List Nd) (i : Nat) : Int := sizN (ymk l i) (yuz l i)
def yjy (l : List Nd) (i : Nat) : Prop := sizD l i <= 2000 /\ (yuz l i).s.length <= 9000 /\ (yuz l i).b.length <= 20 /\ l.length <= 40
def yll (l : List Nd) (i : Nat) : Prop := ∀ j, j < i -> yjy l j
instance (l : List Nd) (i : Nat) : Decidable (yjy l i) := by unfold yjy; exact inferInstance
instance (l : List Nd) (i : Nat) : Decidable (yll l i) := by unfold yll; exact Nat.decidableBallLT i fun j _ => yjy l j
theorem yk4 (a : List CV) (v : CV) {p j : Nat} (hp : p < a.length + 1) (hj : j < 4) :
   zi7 std (zbr p a.length) (cv1 std (zax a p) j) (zc4 .dead [.int .i64 v.kd, .int .u64 v.nn, .str v.tx, .lst 4 (zhg v) (zhp v)] ((p - a.length) * 4 + j)) = cv1 std (zax (a ++ [v]) p) j := by
 by_cases h : p < a.length
 · have e : zax (a ++ [v]) p = zax a p := by
     rw [zax, zax, List.getD_eq_getElem?_getD, List.getD_eq_getElem?_getD, List.getElem?_append_left h]
   rw [zn0 h, e, show p - a.length = 0 by omega, Nat.zero_mul, Nat.zero_add]
   match j, hj with
   | 0, _ => rfl
   | 1, _ => rfl
   | 2, _ => rfl
   | 3, _ => rfl
 · have e : zax (a ++ [v]) p = v := by
     have : p = a.length := by omega
     subst this
     rw [zax, List.getD_eq_getElem?_getD, List.getElem?_append_right (Nat.le_refl _)]
     simp
   rw [zqf h, e, show p - a.length = 0 by omega, Nat.zero_mul, Nat.zero_add]
   match j, hj with
   | 0, _ => rfl
   | 1, _ => rfl
   | 2, _ => rfl
   | 3, _ => rfl
theorem zmx : ∀ (a : List CV) (p j : Nat), a.length <= p -> zfk a p j = dflC j
 | [], p, j, _ => by rw [zfk]
 | v :: a, 0, j, h => by simp at h
 | v :: a, p + 1, j, h => by rw [zfk]; exact zmx a p j (by simpa using h)
theorem zgt (a : List CV) (v : CV) {p j : Nat} (hp : p < a.length + 1) (hj : j < 4) :
   zi7 std (zbr p a.length) (zfk a p j) (zc4 .dead [.int .i64 v.kd, .int .u64 v.nn, .str v.tx, .lst 4 (zhg v) (zhp v)] ((p - a.length) * 4 + j)) = zfk (a ++ [v]) p j := by
 rw [zbj (a ++ [v]) p j (by simpa using hp), <- zir _ j hj, <- yk4 a v hp hj]
 by_cases h : p < a.length
 · rw [zbj a p j h, <- zir _ j hj]
 · rw [zqf h, zmx a p j (by omega)]
   have : p - a.length = 0 := by omega
   rw [this, Nat.zero_mul, Nat.zero_add]
   match j, hj with
   | 0, _ => rfl
   | 1, _ => rfl
   | 2, _ => rfl
   | 3, _ => rfl
end Sy
end Go.Proofs.YtlphgephdhadhaaGreat
