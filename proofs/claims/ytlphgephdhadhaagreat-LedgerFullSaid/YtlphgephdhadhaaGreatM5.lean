/-Chapter 16 (ledger): Get, zrw, Clear, All, the first that is not held, Died. Chapter 6 (digest): the constants. Chapter 6 (digest): Keys, the words of nothing; and what stands between these and the texts behind.-/
import Derived.Test.YtlphgephdhadhaaGreatM4
import Derived.Test.YtlphgephdhadhaaGreatShelf
import Derived.Tactics
import Derived.Tactics2
import Derived.StillTactics
import Derived.Laws.Cells
import Derived.Laws.Pointers
import Derived.Laws.Sem
import Derived.Laws.Small
import Derived.LoopTactic
import Derived.LoopN
import Derived.Laws.IdiomRangeMap
import Derived.Maps.RangeRun
import Derived.Shelf.SlIter.Nil
import Derived.Shelf.SortM.Plain
import Derived.Shelf.SortM.SortNone
import Derived.Shelf.SlMaps.Clone
import Derived.Ground.GgzProg
import Derived.Ground.SlgmProg
import Derived.Ground.SlmcProg
import Derived.Test.YtlphgephdhadhaaGreatProg
namespace Go.Proofs.YtlphgephdhadhaaGreat
namespace Sy
open Go Go.RowKit
set_option maxRecDepth 100000
set_option linter.unusedSimpArgs false
set_option linter.unusedVariables false
def zz2 (L : za9) : zcw := (10, fun xs => match xs with
 | [.agg [x], q] => some (L zfa x /\ L zd2 q /\ L zdz (L zak x) /\ L zde (L zak x) /\ L zgx (L zar q), leA L (L2 L zbo (L zak x) (L zar q)))
 | _ => none)
theorem zn8 : zdd Tryz.prog (zz2 std) := by
 intro xs p r h hp
 dsimp only [zz2] at h |-
 split at h <;> cases h
 try simp only [L2, L3, std] at hp |-
 rename_i x q
 obtain ⟨ho, ho2, hz, hok, hpo⟩ := hp
 refine ybg zed ho (zvt zlp ho2 ?_)
 rw [zk3]
 have hz : zdz (zak x) := hz
 have hok : zde (zak x) := hok
 have hpo : zgx (zar q) := hpo
 show zac _ _ (.agg [zv6 std leV (zak x)] :: zux std (zar q) :: _) (leA std (zbo (zak x) (zar q)))
 generalize zak x = l at hz hok |-
 generalize zar q = p at hpo |-
 refine zau (T := tt) (S := fun L => zbf [zy5 L]) (lo := noA) (lb := noA) 5 (fn := Tryz.f10) (xs := fun L => [.agg [zdb L l], zux L p]) rfl rfl (by kernel_rfl) (by kernel_rfl) rfl zae (za7 ⟨zmw, trivial⟩) (by kernel_rfl) ?_
 intro L P' Q' hL hP hQ
 have hE : ∀ (y : Pr) (d : Int) (h : Bool), L zc4 (.agg [.int .u8 (L (L za0 y) 0), .int .u8 (L (L za0 y) 1), .int .u8 (L (L za0 y) 2), .int .u8 (L (L za0 y) 3), .int .u8 (L (L za0 y) 4), .int .u8 (L (L za0 y) 5), .int .u8 (L (L za0 y) 6), .int .u8 (L (L za0 y) 7), .int .u8 (L (L za0 y) 8), .int .u8 (L (L za0 y) 9), .int .u8 (L (L za0 y) 10), .int .u8 (L (L za0 y) 11), .int .u8 (L (L za0 y) 12), .int .u8 (L (L za0 y) 13), .int .u8 (L (L za0 y) 14), .int .u8 (L (L za0 y) 15), .int .i64 d, .bool h]) = L (L (L Le.mk y) d) h := by subst hL; exact fun y d h => (zc9 ⟨y, d, h⟩).2
 have hEo : ∀ (y : Pr) (d : Int) (h : Bool), (L zei (.agg [.int .u8 (L (L za0 y) 0), .int .u8 (L (L za0 y) 1), .int .u8 (L (L za0 y) 2), .int .u8 (L (L za0 y) 3), .int .u8 (L (L za0 y) 4), .int .u8 (L (L za0 y) 5), .int .u8 (L (L za0 y) 6), .int .u8 (L (L za0 y) 7), .int .u8 (L (L za0 y) 8), .int .u8 (L (L za0 y) 9), .int .u8 (L (L za0 y) 10), .int .u8 (L (L za0 y) 11), .int .u8 (L (L za0 y) 12), .int .u8 (L (L za0 y) 13), .int .u8 (L (L za0 y) 14), .int .u8 (L (L za0 y) 15), .int .i64 d, .bool h])) = True := by subst hL; exact fun y d h => eq_true (zc9 ⟨y, d, h⟩).1
 have hF : ∀ (y : Pr) (d : Int) (h : Bool), L zc4 (.agg [.int .u8 (L (L za1 [L (L za0 y) 0, L (L za0 y) 1, L (L za0 y) 2, L (L za0 y) 3, L (L za0 y) 4, L (L za0 y) 5, L (L za0 y) 6, L (L za0 y) 7, L (L za0 y) 8, L (L za0 y) 9, L (L za0 y) 10, L (L za0 y) 11, L (L za0 y) 12, L (L za0 y) 13, L (L za0 y) 14, L (L za0 y) 15]) 0), .int .u8 (L (L za1 [L (L za0 y) 0, L (L za0 y) 1, L (L za0 y) 2, L (L za0 y) 3, L (L za0 y) 4, L (L za0 y) 5, L (L za0 y) 6, L (L za0 y) 7, L (L za0 y) 8, L (L za0 y) 9, L (L za0 y) 10, L (L za0 y) 11, L (L za0 y) 12, L (L za0 y) 13, L (L za0 y) 14, L (L za0 y) 15]) 1), .int .u8 (L (L za1 [L (L za0 y) 0, L (L za0 y) 1, L (L za0 y) 2, L (L za0 y) 3, L (L za0 y) 4, L (L za0 y) 5, L (L za0 y) 6, L (L za0 y) 7, L (L za0 y) 8, L (L za0 y) 9, L (L za0 y) 10, L (L za0 y) 11, L (L za0 y) 12, L (L za0 y) 13, L (L za0 y) 14, L (L za0 y) 15]) 2), .int .u8 (L (L za1 [L (L za0 y) 0, L (L za0 y) 1, L (L za0 y) 2, L (L za0 y) 3, L (L za0 y) 4, L (L za0 y) 5, L (L za0 y) 6, L (L za0 y) 7, L (L za0 y) 8, L (L za0 y) 9, L (L za0 y) 10, L (L za0 y) 11, L (L za0 y) 12, L (L za0 y) 13, L (L za0 y) 14, L (L za0 y) 15]) 3), .int .u8 (L (L za1 [L (L za0 y) 0, L (L za0 y) 1, L (L za0 y) 2, L (L za0 y) 3, L (L za0 y) 4, L (L za0 y) 5, L (L za0 y) 6, L (L za0 y) 7, L (L za0 y) 8, L (L za0 y) 9, L (L za0 y) 10, L (L za0 y) 11, L (L za0 y) 12, L (L za0 y) 13, L (L za0 y) 14, L (L za0 y) 15]) 4), .int .u8 (L (L za1 [L (L za0 y) 0, L (L za0 y) 1, L (L za0 y) 2, L (L za0 y) 3, L (L za0 y) 4, L (L za0 y) 5, L (L za0 y) 6, L (L za0 y) 7, L (L za0 y) 8, L (L za0 y) 9, L (L za0 y) 10, L (L za0 y) 11, L (L za0 y) 12, L (L za0 y) 13, L (L za0 y) 14, L (L za0 y) 15]) 5), .int .u8 (L (L za1 [L (L za0 y) 0, L (L za0 y) 1, L (L za0 y) 2, L (L za0 y) 3, L (L za0 y) 4, L (L za0 y) 5, L (L za0 y) 6, L (L za0 y) 7, L (L za0 y) 8, L (L za0 y) 9, L (L za0 y) 10, L (L za0 y) 11, L (L za0 y) 12, L (L za0 y) 13, L (L za0 y) 14, L (L za0 y) 15]) 6), .int .u8 (L (L za1 [L (L za0 y) 0, L (L za0 y) 1, L (L za0 y) 2, L (L za0 y) 3, L (L za0 y) 4, L (L za0 y) 5, L (L za0 y) 6, L (L za0 y) 7, L (L za0 y) 8, L (L za0 y) 9, L (L za0 y) 10, L (L za0 y) 11, L (L za0 y) 12, L (L za0 y) 13, L (L za0 y) 14, L (L za0 y) 15]) 7), .int .u8 (L (L za1 [L (L za0 y) 0, L (L za0 y) 1, L (L za0 y) 2, L (L za0 y) 3, L (L za0 y) 4, L (L za0 y) 5, L (L za0 y) 6, L (L za0 y) 7, L (L za0 y) 8, L (L za0 y) 9, L (L za0 y) 10, L (L za0 y) 11, L (L za0 y) 12, L (L za0 y) 13, L (L za0 y) 14, L (L za0 y) 15]) 8), .int .u8 (L (L za1 [L (L za0 y) 0, L (L za0 y) 1, L (L za0 y) 2, L (L za0 y) 3, L (L za0 y) 4, L (L za0 y) 5, L (L za0 y) 6, L (L za0 y) 7, L (L za0 y) 8, L (L za0 y) 9, L (L za0 y) 10, L (L za0 y) 11, L (L za0 y) 12, L (L za0 y) 13, L (L za0 y) 14, L (L za0 y) 15]) 9), .int .u8 (L (L za1 [L (L za0 y) 0, L (L za0 y) 1, L (L za0 y) 2, L (L za0 y) 3, L (L za0 y) 4, L (L za0 y) 5, L (L za0 y) 6, L (L za0 y) 7, L (L za0 y) 8, L (L za0 y) 9, L (L za0 y) 10, L (L za0 y) 11, L (L za0 y) 12, L (L za0 y) 13, L (L za0 y) 14, L (L za0 y) 15]) 10), .int .u8 (L (L za1 [L (L za0 y) 0, L (L za0 y) 1, L (L za0 y) 2, L (L za0 y) 3, L (L za0 y) 4, L (L za0 y) 5, L (L za0 y) 6, L (L za0 y) 7, L (L za0 y) 8, L (L za0 y) 9, L (L za0 y) 10, L (L za0 y) 11, L (L za0 y) 12, L (L za0 y) 13, L (L za0 y) 14, L (L za0 y) 15]) 11), .int .u8 (L (L za1 [L (L za0 y) 0, L (L za0 y) 1, L (L za0 y) 2, L (L za0 y) 3, L (L za0 y) 4, L (L za0 y) 5, L (L za0 y) 6, L (L za0 y) 7, L (L za0 y) 8, L (L za0 y) 9, L (L za0 y) 10, L (L za0 y) 11, L (L za0 y) 12, L (L za0 y) 13, L (L za0 y) 14, L (L za0 y) 15]) 12), .int .u8 (L (L za1 [L (L za0 y) 0, L (L za0 y) 1, L (L za0 y) 2, L (L za0 y) 3, L (L za0 y) 4, L (L za0 y) 5, L (L za0 y) 6, L (L za0 y) 7, L (L za0 y) 8, L (L za0 y) 9, L (L za0 y) 10, L (L za0 y) 11, L (L za0 y) 12, L (L za0 y) 13, L (L za0 y) 14, L (L za0 y) 15]) 13), .int .u8 (L (L za1 [L (L za0 y) 0, L (L za0 y) 1, L (L za0 y) 2, L (L za0 y) 3, L (L za0 y) 4, L (L za0 y) 5, L (L za0 y) 6, L (L za0 y) 7, L (L za0 y) 8, L (L za0 y) 9, L (L za0 y) 10, L (L za0 y) 11, L (L za0 y) 12, L (L za0 y) 13, L (L za0 y) 14, L (L za0 y) 15]) 14), .int .u8 (L (L za1 [L (L za0 y) 0, L (L za0 y) 1, L (L za0 y) 2, L (L za0 y) 3, L (L za0 y) 4, L (L za0 y) 5, L (L za0 y) 6, L (L za0 y) 7, L (L za0 y) 8, L (L za0 y) 9, L (L za0 y) 10, L (L za0 y) 11, L (L za0 y) 12, L (L za0 y) 13, L (L za0 y) 14, L (L za0 y) 15]) 15), .int .i64 d, .bool h]) = L (L (L Le.mk y) d) h := by subst hL; exact fun y d h => (zc9 ⟨y, d, h⟩).2
 have hFo : ∀ (y : Pr) (d : Int) (h : Bool), (L zei (.agg [.int .u8 (L (L za1 [L (L za0 y) 0, L (L za0 y) 1, L (L za0 y) 2, L (L za0 y) 3, L (L za0 y) 4, L (L za0 y) 5, L (L za0 y) 6, L (L za0 y) 7, L (L za0 y) 8, L (L za0 y) 9, L (L za0 y) 10, L (L za0 y) 11, L (L za0 y) 12, L (L za0 y) 13, L (L za0 y) 14, L (L za0 y) 15]) 0), .int .u8 (L (L za1 [L (L za0 y) 0, L (L za0 y) 1, L (L za0 y) 2, L (L za0 y) 3, L (L za0 y) 4, L (L za0 y) 5, L (L za0 y) 6, L (L za0 y) 7, L (L za0 y) 8, L (L za0 y) 9, L (L za0 y) 10, L (L za0 y) 11, L (L za0 y) 12, L (L za0 y) 13, L (L za0 y) 14, L (L za0 y) 15]) 1), .int .u8 (L (L za1 [L (L za0 y) 0, L (L za0 y) 1, L (L za0 y) 2, L (L za0 y) 3, L (L za0 y) 4, L (L za0 y) 5, L (L za0 y) 6, L (L za0 y) 7, L (L za0 y) 8, L (L za0 y) 9, L (L za0 y) 10, L (L za0 y) 11, L (L za0 y) 12, L (L za0 y) 13, L (L za0 y) 14, L (L za0 y) 15]) 2), .int .u8 (L (L za1 [L (L za0 y) 0, L (L za0 y) 1, L (L za0 y) 2, L (L za0 y) 3, L (L za0 y) 4, L (L za0 y) 5, L (L za0 y) 6, L (L za0 y) 7, L (L za0 y) 8, L (L za0 y) 9, L (L za0 y) 10, L (L za0 y) 11, L (L za0 y) 12, L (L za0 y) 13, L (L za0 y) 14, L (L za0 y) 15]) 3), .int .u8 (L (L za1 [L (L za0 y) 0, L (L za0 y) 1, L (L za0 y) 2, L (L za0 y) 3, L (L za0 y) 4, L (L za0 y) 5, L (L za0 y) 6, L (L za0 y) 7, L (L za0 y) 8, L (L za0 y) 9, L (L za0 y) 10, L (L za0 y) 11, L (L za0 y) 12, L (L za0 y) 13, L (L za0 y) 14, L (L za0 y) 15]) 4), .int .u8 (L (L za1 [L (L za0 y) 0, L (L za0 y) 1, L (L za0 y) 2, L (L za0 y) 3, L (L za0 y) 4, L (L za0 y) 5, L (L za0 y) 6, L (L za0 y) 7, L (L za0 y) 8, L (L za0 y) 9, L (L za0 y) 10, L (L za0 y) 11, L (L za0 y) 12, L (L za0 y) 13, L (L za0 y) 14, L (L za0 y) 15]) 5), .int .u8 (L (L za1 [L (L za0 y) 0, L (L za0 y) 1, L (L za0 y) 2, L (L za0 y) 3, L (L za0 y) 4, L (L za0 y) 5, L (L za0 y) 6, L (L za0 y) 7, L (L za0 y) 8, L (L za0 y) 9, L (L za0 y) 10, L (L za0 y) 11, L (L za0 y) 12, L (L za0 y) 13, L (L za0 y) 14, L (L za0 y) 15]) 6), .int .u8 (L (L za1 [L (L za0 y) 0, L (L za0 y) 1, L (L za0 y) 2, L (L za0 y) 3, L (L za0 y) 4, L (L za0 y) 5, L (L za0 y) 6, L (L za0 y) 7, L (L za0 y) 8, L (L za0 y) 9, L (L za0 y) 10, L (L za0 y) 11, L (L za0 y) 12, L (L za0 y) 13, L (L za0 y) 14, L (L za0 y) 15]) 7), .int .u8 (L (L za1 [L (L za0 y) 0, L (L za0 y) 1, L (L za0 y) 2, L (L za0 y) 3, L (L za0 y) 4, L (L za0 y) 5, L (L za0 y) 6, L (L za0 y) 7, L (L za0 y) 8, L (L za0 y) 9, L (L za0 y) 10, L (L za0 y) 11, L (L za0 y) 12, L (L za0 y) 13, L (L za0 y) 14, L (L za0 y) 15]) 8), .int .u8 (L (L za1 [L (L za0 y) 0, L (L za0 y) 1, L (L za0 y) 2, L (L za0 y) 3, L (L za0 y) 4, L (L za0 y) 5, L (L za0 y) 6, L (L za0 y) 7, L (L za0 y) 8, L (L za0 y) 9, L (L za0 y) 10, L (L za0 y) 11, L (L za0 y) 12, L (L za0 y) 13, L (L za0 y) 14, L (L za0 y) 15]) 9), .int .u8 (L (L za1 [L (L za0 y) 0, L (L za0 y) 1, L (L za0 y) 2, L (L za0 y) 3, L (L za0 y) 4, L (L za0 y) 5, L (L za0 y) 6, L (L za0 y) 7, L (L za0 y) 8, L (L za0 y) 9, L (L za0 y) 10, L (L za0 y) 11, L (L za0 y) 12, L (L za0 y) 13, L (L za0 y) 14, L (L za0 y) 15]) 10), .int .u8 (L (L za1 [L (L za0 y) 0, L (L za0 y) 1, L (L za0 y) 2, L (L za0 y) 3, L (L za0 y) 4, L (L za0 y) 5, L (L za0 y) 6, L (L za0 y) 7, L (L za0 y) 8, L (L za0 y) 9, L (L za0 y) 10, L (L za0 y) 11, L (L za0 y) 12, L (L za0 y) 13, L (L za0 y) 14, L (L za0 y) 15]) 11), .int .u8 (L (L za1 [L (L za0 y) 0, L (L za0 y) 1, L (L za0 y) 2, L (L za0 y) 3, L (L za0 y) 4, L (L za0 y) 5, L (L za0 y) 6, L (L za0 y) 7, L (L za0 y) 8, L (L za0 y) 9, L (L za0 y) 10, L (L za0 y) 11, L (L za0 y) 12, L (L za0 y) 13, L (L za0 y) 14, L (L za0 y) 15]) 12), .int .u8 (L (L za1 [L (L za0 y) 0, L (L za0 y) 1, L (L za0 y) 2, L (L za0 y) 3, L (L za0 y) 4, L (L za0 y) 5, L (L za0 y) 6, L (L za0 y) 7, L (L za0 y) 8, L (L za0 y) 9, L (L za0 y) 10, L (L za0 y) 11, L (L za0 y) 12, L (L za0 y) 13, L (L za0 y) 14, L (L za0 y) 15]) 13), .int .u8 (L (L za1 [L (L za0 y) 0, L (L za0 y) 1, L (L za0 y) 2, L (L za0 y) 3, L (L za0 y) 4, L (L za0 y) 5, L (L za0 y) 6, L (L za0 y) 7, L (L za0 y) 8, L (L za0 y) 9, L (L za0 y) 10, L (L za0 y) 11, L (L za0 y) 12, L (L za0 y) 13, L (L za0 y) 14, L (L za0 y) 15]) 14), .int .u8 (L (L za1 [L (L za0 y) 0, L (L za0 y) 1, L (L za0 y) 2, L (L za0 y) 3, L (L za0 y) 4, L (L za0 y) 5, L (L za0 y) 6, L (L za0 y) 7, L (L za0 y) 8, L (L za0 y) 9, L (L za0 y) 10, L (L za0 y) 11, L (L za0 y) 12, L (L za0 y) 13, L (L za0 y) 14, L (L za0 y) 15]) 15), .int .i64 d, .bool h])) = True := by subst hL; exact fun y d h => eq_true (zc9 ⟨y, d, h⟩).1
 have hEta : ∀ y : Le, L (L (L Le.mk (L Le.p y)) (L Le.d y)) (L Le.h y) = y := by subst hL; exact fun y => rfl
 have hMp : ∀ (y : Pr) (d : Int) (h : Bool), L Le.p (L (L (L Le.mk y) d) h) = y := by subst hL; exact fun y d h => rfl
 have hQ0 : ∀ y : Pr, L zar (.agg [.int .u8 (L (L za0 y) 0), .int .u8 (L (L za0 y) 1), .int .u8 (L (L za0 y) 2), .int .u8 (L (L za0 y) 3), .int .u8 (L (L za0 y) 4), .int .u8 (L (L za0 y) 5), .int .u8 (L (L za0 y) 6), .int .u8 (L (L za0 y) 7), .int .u8 (L (L za0 y) 8), .int .u8 (L (L za0 y) 9), .int .u8 (L (L za0 y) 10), .int .u8 (L (L za0 y) 11), .int .u8 (L (L za0 y) 12), .int .u8 (L (L za0 y) 13), .int .u8 (L (L za0 y) 14), .int .u8 (L (L za0 y) 15)]) = y := by subst hL; exact fun y => (zc3 y).2
 have hQo : ∀ y : Pr, (L zd2 (.agg [.int .u8 (L (L za0 y) 0), .int .u8 (L (L za0 y) 1), .int .u8 (L (L za0 y) 2), .int .u8 (L (L za0 y) 3), .int .u8 (L (L za0 y) 4), .int .u8 (L (L za0 y) 5), .int .u8 (L (L za0 y) 6), .int .u8 (L (L za0 y) 7), .int .u8 (L (L za0 y) 8), .int .u8 (L (L za0 y) 9), .int .u8 (L (L za0 y) 10), .int .u8 (L (L za0 y) 11), .int .u8 (L (L za0 y) 12), .int .u8 (L (L za0 y) 13), .int .u8 (L (L za0 y) 14), .int .u8 (L (L za0 y) 15)])) = True := by subst hL; exact fun y => eq_true (zc3 y).1
 have hQ1 : ∀ y : Pr, L zar (.agg [.int .u8 (L (L za1 [L (L za0 y) 0, L (L za0 y) 1, L (L za0 y) 2, L (L za0 y) 3, L (L za0 y) 4, L (L za0 y) 5, L (L za0 y) 6, L (L za0 y) 7, L (L za0 y) 8, L (L za0 y) 9, L (L za0 y) 10, L (L za0 y) 11, L (L za0 y) 12, L (L za0 y) 13, L (L za0 y) 14, L (L za0 y) 15]) 0), .int .u8 (L (L za1 [L (L za0 y) 0, L (L za0 y) 1, L (L za0 y) 2, L (L za0 y) 3, L (L za0 y) 4, L (L za0 y) 5, L (L za0 y) 6, L (L za0 y) 7, L (L za0 y) 8, L (L za0 y) 9, L (L za0 y) 10, L (L za0 y) 11, L (L za0 y) 12, L (L za0 y) 13, L (L za0 y) 14, L (L za0 y) 15]) 1), .int .u8 (L (L za1 [L (L za0 y) 0, L (L za0 y) 1, L (L za0 y) 2, L (L za0 y) 3, L (L za0 y) 4, L (L za0 y) 5, L (L za0 y) 6, L (L za0 y) 7, L (L za0 y) 8, L (L za0 y) 9, L (L za0 y) 10, L (L za0 y) 11, L (L za0 y) 12, L (L za0 y) 13, L (L za0 y) 14, L (L za0 y) 15]) 2), .int .u8 (L (L za1 [L (L za0 y) 0, L (L za0 y) 1, L (L za0 y) 2, L (L za0 y) 3, L (L za0 y) 4, L (L za0 y) 5, L (L za0 y) 6, L (L za0 y) 7, L (L za0 y) 8, L (L za0 y) 9, L (L za0 y) 10, L (L za0 y) 11, L (L za0 y) 12, L (L za0 y) 13, L (L za0 y) 14, L (L za0 y) 15]) 3), .int .u8 (L (L za1 [L (L za0 y) 0, L (L za0 y) 1, L (L za0 y) 2, L (L za0 y) 3, L (L za0 y) 4, L (L za0 y) 5, L (L za0 y) 6, L (L za0 y) 7, L (L za0 y) 8, L (L za0 y) 9, L (L za0 y) 10, L (L za0 y) 11, L (L za0 y) 12, L (L za0 y) 13, L (L za0 y) 14, L (L za0 y) 15]) 4), .int .u8 (L (L za1 [L (L za0 y) 0, L (L za0 y) 1, L (L za0 y) 2, L (L za0 y) 3, L (L za0 y) 4, L (L za0 y) 5, L (L za0 y) 6, L (L za0 y) 7, L (L za0 y) 8, L (L za0 y) 9, L (L za0 y) 10, L (L za0 y) 11, L (L za0 y) 12, L (L za0 y) 13, L (L za0 y) 14, L (L za0 y) 15]) 5), .int .u8 (L (L za1 [L (L za0 y) 0, L (L za0 y) 1, L (L za0 y) 2, L (L za0 y) 3, L (L za0 y) 4, L (L za0 y) 5, L (L za0 y) 6, L (L za0 y) 7, L (L za0 y) 8, L (L za0 y) 9, L (L za0 y) 10, L (L za0 y) 11, L (L za0 y) 12, L (L za0 y) 13, L (L za0 y) 14, L (L za0 y) 15]) 6), .int .u8 (L (L za1 [L (L za0 y) 0, L (L za0 y) 1, L (L za0 y) 2, L (L za0 y) 3, L (L za0 y) 4, L (L za0 y) 5, L (L za0 y) 6, L (L za0 y) 7, L (L za0 y) 8, L (L za0 y) 9, L (L za0 y) 10, L (L za0 y) 11, L (L za0 y) 12, L (L za0 y) 13, L (L za0 y) 14, L (L za0 y) 15]) 7), .int .u8 (L (L za1 [L (L za0 y) 0, L (L za0 y) 1, L (L za0 y) 2, L (L za0 y) 3, L (L za0 y) 4, L (L za0 y) 5, L (L za0 y) 6, L (L za0 y) 7, L (L za0 y) 8, L (L za0 y) 9, L (L za0 y) 10, L (L za0 y) 11, L (L za0 y) 12, L (L za0 y) 13, L (L za0 y) 14, L (L za0 y) 15]) 8), .int .u8 (L (L za1 [L (L za0 y) 0, L (L za0 y) 1, L (L za0 y) 2, L (L za0 y) 3, L (L za0 y) 4, L (L za0 y) 5, L (L za0 y) 6, L (L za0 y) 7, L (L za0 y) 8, L (L za0 y) 9, L (L za0 y) 10, L (L za0 y) 11, L (L za0 y) 12, L (L za0 y) 13, L (L za0 y) 14, L (L za0 y) 15]) 9), .int .u8 (L (L za1 [L (L za0 y) 0, L (L za0 y) 1, L (L za0 y) 2, L (L za0 y) 3, L (L za0 y) 4, L (L za0 y) 5, L (L za0 y) 6, L (L za0 y) 7, L (L za0 y) 8, L (L za0 y) 9, L (L za0 y) 10, L (L za0 y) 11, L (L za0 y) 12, L (L za0 y) 13, L (L za0 y) 14, L (L za0 y) 15]) 10), .int .u8 (L (L za1 [L (L za0 y) 0, L (L za0 y) 1, L (L za0 y) 2, L (L za0 y) 3, L (L za0 y) 4, L (L za0 y) 5, L (L za0 y) 6, L (L za0 y) 7, L (L za0 y) 8, L (L za0 y) 9, L (L za0 y) 10, L (L za0 y) 11, L (L za0 y) 12, L (L za0 y) 13, L (L za0 y) 14, L (L za0 y) 15]) 11), .int .u8 (L (L za1 [L (L za0 y) 0, L (L za0 y) 1, L (L za0 y) 2, L (L za0 y) 3, L (L za0 y) 4, L (L za0 y) 5, L (L za0 y) 6, L (L za0 y) 7, L (L za0 y) 8, L (L za0 y) 9, L (L za0 y) 10, L (L za0 y) 11, L (L za0 y) 12, L (L za0 y) 13, L (L za0 y) 14, L (L za0 y) 15]) 12), .int .u8 (L (L za1 [L (L za0 y) 0, L (L za0 y) 1, L (L za0 y) 2, L (L za0 y) 3, L (L za0 y) 4, L (L za0 y) 5, L (L za0 y) 6, L (L za0 y) 7, L (L za0 y) 8, L (L za0 y) 9, L (L za0 y) 10, L (L za0 y) 11, L (L za0 y) 12, L (L za0 y) 13, L (L za0 y) 14, L (L za0 y) 15]) 13), .int .u8 (L (L za1 [L (L za0 y) 0, L (L za0 y) 1, L (L za0 y) 2, L (L za0 y) 3, L (L za0 y) 4, L (L za0 y) 5, L (L za0 y) 6, L (L za0 y) 7, L (L za0 y) 8, L (L za0 y) 9, L (L za0 y) 10, L (L za0 y) 11, L (L za0 y) 12, L (L za0 y) 13, L (L za0 y) 14, L (L za0 y) 15]) 14), .int .u8 (L (L za1 [L (L za0 y) 0, L (L za0 y) 1, L (L za0 y) 2, L (L za0 y) 3, L (L za0 y) 4, L (L za0 y) 5, L (L za0 y) 6, L (L za0 y) 7, L (L za0 y) 8, L (L za0 y) 9, L (L za0 y) 10, L (L za0 y) 11, L (L za0 y) 12, L (L za0 y) 13, L (L za0 y) 14, L (L za0 y) 15]) 15)]) = y := by subst hL; exact fun y => (zc3 y).2
 have hQ1o : ∀ y : Pr, (L zd2 (.agg [.int .u8 (L (L za1 [L (L za0 y) 0, L (L za0 y) 1, L (L za0 y) 2, L (L za0 y) 3, L (L za0 y) 4, L (L za0 y) 5, L (L za0 y) 6, L (L za0 y) 7, L (L za0 y) 8, L (L za0 y) 9, L (L za0 y) 10, L (L za0 y) 11, L (L za0 y) 12, L (L za0 y) 13, L (L za0 y) 14, L (L za0 y) 15]) 0), .int .u8 (L (L za1 [L (L za0 y) 0, L (L za0 y) 1, L (L za0 y) 2, L (L za0 y) 3, L (L za0 y) 4, L (L za0 y) 5, L (L za0 y) 6, L (L za0 y) 7, L (L za0 y) 8, L (L za0 y) 9, L (L za0 y) 10, L (L za0 y) 11, L (L za0 y) 12, L (L za0 y) 13, L (L za0 y) 14, L (L za0 y) 15]) 1), .int .u8 (L (L za1 [L (L za0 y) 0, L (L za0 y) 1, L (L za0 y) 2, L (L za0 y) 3, L (L za0 y) 4, L (L za0 y) 5, L (L za0 y) 6, L (L za0 y) 7, L (L za0 y) 8, L (L za0 y) 9, L (L za0 y) 10, L (L za0 y) 11, L (L za0 y) 12, L (L za0 y) 13, L (L za0 y) 14, L (L za0 y) 15]) 2), .int .u8 (L (L za1 [L (L za0 y) 0, L (L za0 y) 1, L (L za0 y) 2, L (L za0 y) 3, L (L za0 y) 4, L (L za0 y) 5, L (L za0 y) 6, L (L za0 y) 7, L (L za0 y) 8, L (L za0 y) 9, L (L za0 y) 10, L (L za0 y) 11, L (L za0 y) 12, L (L za0 y) 13, L (L za0 y) 14, L (L za0 y) 15]) 3), .int .u8 (L (L za1 [L (L za0 y) 0, L (L za0 y) 1, L (L za0 y) 2, L (L za0 y) 3, L (L za0 y) 4, L (L za0 y) 5, L (L za0 y) 6, L (L za0 y) 7, L (L za0 y) 8, L (L za0 y) 9, L (L za0 y) 10, L (L za0 y) 11, L (L za0 y) 12, L (L za0 y) 13, L (L za0 y) 14, L (L za0 y) 15]) 4), .int .u8 (L (L za1 [L (L za0 y) 0, L (L za0 y) 1, L (L za0 y) 2, L (L za0 y) 3, L (L za0 y) 4, L (L za0 y) 5, L (L za0 y) 6, L (L za0 y) 7, L (L za0 y) 8, L (L za0 y) 9, L (L za0 y) 10, L (L za0 y) 11, L (L za0 y) 12, L (L za0 y) 13, L (L za0 y) 14, L (L za0 y) 15]) 5), .int .u8 (L (L za1 [L (L za0 y) 0, L (L za0 y) 1, L (L za0 y) 2, L (L za0 y) 3, L (L za0 y) 4, L (L za0 y) 5, L (L za0 y) 6, L (L za0 y) 7, L (L za0 y) 8, L (L za0 y) 9, L (L za0 y) 10, L (L za0 y) 11, L (L za0 y) 12, L (L za0 y) 13, L (L za0 y) 14, L (L za0 y) 15]) 6), .int .u8 (L (L za1 [L (L za0 y) 0, L (L za0 y) 1, L (L za0 y) 2, L (L za0 y) 3, L (L za0 y) 4, L (L za0 y) 5, L (L za0 y) 6, L (L za0 y) 7, L (L za0 y) 8, L (L za0 y) 9, L (L za0 y) 10, L (L za0 y) 11, L (L za0 y) 12, L (L za0 y) 13, L (L za0 y) 14, L (L za0 y) 15]) 7), .int .u8 (L (L za1 [L (L za0 y) 0, L (L za0 y) 1, L (L za0 y) 2, L (L za0 y) 3, L (L za0 y) 4, L (L za0 y) 5, L (L za0 y) 6, L (L za0 y) 7, L (L za0 y) 8, L (L za0 y) 9, L (L za0 y) 10, L (L za0 y) 11, L (L za0 y) 12, L (L za0 y) 13, L (L za0 y) 14, L (L za0 y) 15]) 8), .int .u8 (L (L za1 [L (L za0 y) 0, L (L za0 y) 1, L (L za0 y) 2, L (L za0 y) 3, L (L za0 y) 4, L (L za0 y) 5, L (L za0 y) 6, L (L za0 y) 7, L (L za0 y) 8, L (L za0 y) 9, L (L za0 y) 10, L (L za0 y) 11, L (L za0 y) 12, L (L za0 y) 13, L (L za0 y) 14, L (L za0 y) 15]) 9), .int .u8 (L (L za1 [L (L za0 y) 0, L (L za0 y) 1, L (L za0 y) 2, L (L za0 y) 3, L (L za0 y) 4, L (L za0 y) 5, L (L za0 y) 6, L (L za0 y) 7, L (L za0 y) 8, L (L za0 y) 9, L (L za0 y) 10, L (L za0 y) 11, L (L za0 y) 12, L (L za0 y) 13, L (L za0 y) 14, L (L za0 y) 15]) 10), .int .u8 (L (L za1 [L (L za0 y) 0, L (L za0 y) 1, L (L za0 y) 2, L (L za0 y) 3, L (L za0 y) 4, L (L za0 y) 5, L (L za0 y) 6, L (L za0 y) 7, L (L za0 y) 8, L (L za0 y) 9, L (L za0 y) 10, L (L za0 y) 11, L (L za0 y) 12, L (L za0 y) 13, L (L za0 y) 14, L (L za0 y) 15]) 11), .int .u8 (L (L za1 [L (L za0 y) 0, L (L za0 y) 1, L (L za0 y) 2, L (L za0 y) 3, L (L za0 y) 4, L (L za0 y) 5, L (L za0 y) 6, L (L za0 y) 7, L (L za0 y) 8, L (L za0 y) 9, L (L za0 y) 10, L (L za0 y) 11, L (L za0 y) 12, L (L za0 y) 13, L (L za0 y) 14, L (L za0 y) 15]) 12), .int .u8 (L (L za1 [L (L za0 y) 0, L (L za0 y) 1, L (L za0 y) 2, L (L za0 y) 3, L (L za0 y) 4, L (L za0 y) 5, L (L za0 y) 6, L (L za0 y) 7, L (L za0 y) 8, L (L za0 y) 9, L (L za0 y) 10, L (L za0 y) 11, L (L za0 y) 12, L (L za0 y) 13, L (L za0 y) 14, L (L za0 y) 15]) 13), .int .u8 (L (L za1 [L (L za0 y) 0, L (L za0 y) 1, L (L za0 y) 2, L (L za0 y) 3, L (L za0 y) 4, L (L za0 y) 5, L (L za0 y) 6, L (L za0 y) 7, L (L za0 y) 8, L (L za0 y) 9, L (L za0 y) 10, L (L za0 y) 11, L (L za0 y) 12, L (L za0 y) 13, L (L za0 y) 14, L (L za0 y) 15]) 14), .int .u8 (L (L za1 [L (L za0 y) 0, L (L za0 y) 1, L (L za0 y) 2, L (L za0 y) 3, L (L za0 y) 4, L (L za0 y) 5, L (L za0 y) 6, L (L za0 y) 7, L (L za0 y) 8, L (L za0 y) 9, L (L za0 y) 10, L (L za0 y) 11, L (L za0 y) 12, L (L za0 y) 13, L (L za0 y) 14, L (L za0 y) 15]) 15)])) = True := by subst hL; exact fun y => eq_true (zc3 y).1
 have hG : ∀ y : List Le, L zak (.lst 18 (L zfl y) (fun i => leC L (L (L zao y) i))) = y := by subst hL; exact fun y => zoh y
 have hGo : ∀ y : List Le, (L zfa (.lst 18 (L zfl y) (fun i => leC L (L (L zao y) i)))) = True := by subst hL; exact fun y => eq_true (zos y)
 (cbv; try simp only [syT, true_and, and_true])
 simp only [hE, hEo, hF, hFo, hEta, hMp, hQ1, hQ1o, hQ0, hQo, hG, hGo, true_and]
 subst hL; subst hQ
 have hw : zfl l = l.length := rfl
 have hz : l.length <= 1000000 := hz
 refine ⟨⟨hz, hok, hpo⟩, fun hh => ?_, fun hh => ?_⟩
 · obtain ⟨h, e⟩ := yja hok hpo hh
   refine ⟨?_, ?_⟩
   · show inR (ze0 l p) (zab l.length) = true
     rw [zpb, zaw]
     exact ⟨Int.natCast_nonneg _, Int.ofNat_lt.2 h⟩
   · refine yga _ _ ?_
     show zao l (ze0 l p).toNat = zbo l p
     rw [e, show (ze0 l p).toNat = zc6 (prN p) l from Int.toNat_natCast _, zga h]
 · exact yga _ ⟨p, 0, false⟩ (zkx hh).symm
def yih (L : za9) : zcw := (9, fun xs => match xs with
 | [.agg [x]] => some (L zfa x /\ L zdz (L zak x), zdb L (L zak x))
 | _ => none)
theorem ydx : zdd Tryz.prog (yih std) := by
 intro xs p r h hp
 dsimp only [yih] at h |-
 split at h <;> cases h
 try simp only [L2, L3, std] at hp |-
 rename_i x
 obtain ⟨ho, hz⟩ := hp
 refine ybg zed ho ?_
 have hz : zdz (zak x) := hz
 show zac _ _ (.agg [zv6 std leV (zak x)] :: _) (zdb std (zak x))
 generalize zak x = l at hz |-
 refine zau (T := tt) (S := fun L => zb0 [] [yq8 L]) (lo := noA) (lb := noA) 5 (fn := Tryz.f9) (xs := fun L => [.agg [zdb L l]]) rfl rfl (by kernel_rfl) (by kernel_rfl) rfl zae (za8 trivial ⟨zg3, trivial⟩) (by kernel_rfl) ?_
 intro L P' Q' hL hP hQ
 (cbv; try simp only [syT, true_and, and_true])
 subst hL; subst hQ
 refine ⟨fun _ _ _ _ => trivial, hz, ?_⟩
 show zbg (.lst 18 (zfl l) fun i => leC std (zao l i)) (.lst 18 (zfl l) fun i => leC std (zao l (Nat.add 0 i)))
 rw [zkw]
 exact ⟨rfl, fun i j hi hj => by rw [show Nat.add 0 i = i from Nat.zero_add i]⟩
def zzt (L : za9) : zcw := (26, fun xs => match xs with
 | [x] => some (L zei x, .bool (L not (L Le.h (L zc4 x))))
 | _ => none)
theorem zzu : zdd Tryz.prog (zzt std) := by
 intro xs p r h hp
 dsimp only [zzt] at h |-
 split at h <;> cases h
 try simp only [L2, L3, std] at hp |-
 rename_i x
 have ho : zei x := hp
 refine ac_g zed ho ?_
 rw [zz4]
 show zac Tryz.prog 26 [leA std (zc4 x)] (.bool (!(zc4 x).h))
 generalize zc4 x = e
 refine zau (T := tt) (S := noS) (lo := noA) (lb := noA) 5 (fn := Tryz.f26) (xs := fun L => [leA L e]) rfl rfl (by kernel_rfl) (by kernel_rfl) rfl zae (zdx _) (by kernel_rfl) ?_
 intro L P' Q' hL hP hQ
 (cbv; try simp only [syT, true_and, and_true])
 subst hL; subst hQ
 rw [zbv]; rfl
def zio (e : Le) : Bool := !e.h
def zev (l : List Le) : Int := zpc zio l
def fidA (L : za9) (l : List Le) : Nat -> St -> Option Ann := fun id st => match id with
 | 0 => some ⟨Nat, fun i => [(8, .int .i64 (L zab i))], fun _ => [], [0, 1, 4, 7], [], fun i => L3 L zqr zio l i, fun i => L2 L Nat.sub (L zfl l) i⟩
 | _ => none
def yjb (L : za9) : zcw := (25, fun xs => match xs with
 | [x, .fn k [] []] => match zal k 26 with
   | true => some (L zfa x /\ L zdz (L zak x), .int .i64 (L zev (L zak x)))
   | false => none
 | _ => none)
theorem yem : zdd Tryz.prog (yjb std) := by
 intro xs p r h hp
 unfold yjb at h
 simp only at h
 split at h
 rotate_left
 · cases h
 rename_i x k
 cases hk : zal k 26 with
 | false => rw [hk] at h; cases h
 | true =>
 rw [hk] at h
 obtain rfl : k = 26 := of_decide_eq_true hk
 cases h
 obtain ⟨ho, hz⟩ := hp
 refine ynt zed ho ?_
 have hz : zdz (zak x) := hz
 show zac _ _ (zv6 std leV (zak x) :: _) (.int .i64 (zev (zak x)))
 generalize zak x = l at hz |-
 refine zau (T := tt) (S := fun L => zbf [zzt L]) (lo := fun L => fidA L l) (lb := noA) 5 (fn := Tryz.f25) (xs := fun L => [zdb L l, .fn 26 [] []]) rfl rfl (by kernel_rfl) (by kernel_rfl) rfl zae (za7 ⟨zzu, trivial⟩) (by kernel_rfl) ?_
 intro L P' Q' hL hP hQ
 have hw : zfl l = l.length := rfl
 have hz : l.length <= 1000000 := hz
 have hE : ∀ (y : Pr) (d : Int) (h : Bool), L zc4 (.agg [.int .u8 (L (L za0 y) 0), .int .u8 (L (L za0 y) 1), .int .u8 (L (L za0 y) 2), .int .u8 (L (L za0 y) 3), .int .u8 (L (L za0 y) 4), .int .u8 (L (L za0 y) 5), .int .u8 (L (L za0 y) 6), .int .u8 (L (L za0 y) 7), .int .u8 (L (L za0 y) 8), .int .u8 (L (L za0 y) 9), .int .u8 (L (L za0 y) 10), .int .u8 (L (L za0 y) 11), .int .u8 (L (L za0 y) 12), .int .u8 (L (L za0 y) 13), .int .u8 (L (L za0 y) 14), .int .u8 (L (L za0 y) 15), .int .i64 d, .bool h]) = L (L (L Le.mk y) d) h := by subst hL; exact fun y d h => (zc9 ⟨y, d, h⟩).2
 have hEo : ∀ (y : Pr) (d : Int) (h : Bool), (L zei (.agg [.int .u8 (L (L za0 y) 0), .int .u8 (L (L za0 y) 1), .int .u8 (L (L za0 y) 2), .int .u8 (L (L za0 y) 3), .int .u8 (L (L za0 y) 4), .int .u8 (L (L za0 y) 5), .int .u8 (L (L za0 y) 6), .int .u8 (L (L za0 y) 7), .int .u8 (L (L za0 y) 8), .int .u8 (L (L za0 y) 9), .int .u8 (L (L za0 y) 10), .int .u8 (L (L za0 y) 11), .int .u8 (L (L za0 y) 12), .int .u8 (L (L za0 y) 13), .int .u8 (L (L za0 y) 14), .int .u8 (L (L za0 y) 15), .int .i64 d, .bool h])) = True := by subst hL; exact fun y d h => eq_true (zc9 ⟨y, d, h⟩).1
 have hF : ∀ (y : Pr) (d : Int) (h : Bool), L zc4 (.agg [.int .u8 (L (L za1 [L (L za0 y) 0, L (L za0 y) 1, L (L za0 y) 2, L (L za0 y) 3, L (L za0 y) 4, L (L za0 y) 5, L (L za0 y) 6, L (L za0 y) 7, L (L za0 y) 8, L (L za0 y) 9, L (L za0 y) 10, L (L za0 y) 11, L (L za0 y) 12, L (L za0 y) 13, L (L za0 y) 14, L (L za0 y) 15]) 0), .int .u8 (L (L za1 [L (L za0 y) 0, L (L za0 y) 1, L (L za0 y) 2, L (L za0 y) 3, L (L za0 y) 4, L (L za0 y) 5, L (L za0 y) 6, L (L za0 y) 7, L (L za0 y) 8, L (L za0 y) 9, L (L za0 y) 10, L (L za0 y) 11, L (L za0 y) 12, L (L za0 y) 13, L (L za0 y) 14, L (L za0 y) 15]) 1), .int .u8 (L (L za1 [L (L za0 y) 0, L (L za0 y) 1, L (L za0 y) 2, L (L za0 y) 3, L (L za0 y) 4, L (L za0 y) 5, L (L za0 y) 6, L (L za0 y) 7, L (L za0 y) 8, L (L za0 y) 9, L (L za0 y) 10, L (L za0 y) 11, L (L za0 y) 12, L (L za0 y) 13, L (L za0 y) 14, L (L za0 y) 15]) 2), .int .u8 (L (L za1 [L (L za0 y) 0, L (L za0 y) 1, L (L za0 y) 2, L (L za0 y) 3, L (L za0 y) 4, L (L za0 y) 5, L (L za0 y) 6, L (L za0 y) 7, L (L za0 y) 8, L (L za0 y) 9, L (L za0 y) 10, L (L za0 y) 11, L (L za0 y) 12, L (L za0 y) 13, L (L za0 y) 14, L (L za0 y) 15]) 3), .int .u8 (L (L za1 [L (L za0 y) 0, L (L za0 y) 1, L (L za0 y) 2, L (L za0 y) 3, L (L za0 y) 4, L (L za0 y) 5, L (L za0 y) 6, L (L za0 y) 7, L (L za0 y) 8, L (L za0 y) 9, L (L za0 y) 10, L (L za0 y) 11, L (L za0 y) 12, L (L za0 y) 13, L (L za0 y) 14, L (L za0 y) 15]) 4), .int .u8 (L (L za1 [L (L za0 y) 0, L (L za0 y) 1, L (L za0 y) 2, L (L za0 y) 3, L (L za0 y) 4, L (L za0 y) 5, L (L za0 y) 6, L (L za0 y) 7, L (L za0 y) 8, L (L za0 y) 9, L (L za0 y) 10, L (L za0 y) 11, L (L za0 y) 12, L (L za0 y) 13, L (L za0 y) 14, L (L za0 y) 15]) 5), .int .u8 (L (L za1 [L (L za0 y) 0, L (L za0 y) 1, L (L za0 y) 2, L (L za0 y) 3, L (L za0 y) 4, L (L za0 y) 5, L (L za0 y) 6, L (L za0 y) 7, L (L za0 y) 8, L (L za0 y) 9, L (L za0 y) 10, L (L za0 y) 11, L (L za0 y) 12, L (L za0 y) 13, L (L za0 y) 14, L (L za0 y) 15]) 6), .int .u8 (L (L za1 [L (L za0 y) 0, L (L za0 y) 1, L (L za0 y) 2, L (L za0 y) 3, L (L za0 y) 4, L (L za0 y) 5, L (L za0 y) 6, L (L za0 y) 7, L (L za0 y) 8, L (L za0 y) 9, L (L za0 y) 10, L (L za0 y) 11, L (L za0 y) 12, L (L za0 y) 13, L (L za0 y) 14, L (L za0 y) 15]) 7), .int .u8 (L (L za1 [L (L za0 y) 0, L (L za0 y) 1, L (L za0 y) 2, L (L za0 y) 3, L (L za0 y) 4, L (L za0 y) 5, L (L za0 y) 6, L (L za0 y) 7, L (L za0 y) 8, L (L za0 y) 9, L (L za0 y) 10, L (L za0 y) 11, L (L za0 y) 12, L (L za0 y) 13, L (L za0 y) 14, L (L za0 y) 15]) 8), .int .u8 (L (L za1 [L (L za0 y) 0, L (L za0 y) 1, L (L za0 y) 2, L (L za0 y) 3, L (L za0 y) 4, L (L za0 y) 5, L (L za0 y) 6, L (L za0 y) 7, L (L za0 y) 8, L (L za0 y) 9, L (L za0 y) 10, L (L za0 y) 11, L (L za0 y) 12, L (L za0 y) 13, L (L za0 y) 14, L (L za0 y) 15]) 9), .int .u8 (L (L za1 [L (L za0 y) 0, L (L za0 y) 1, L (L za0 y) 2, L (L za0 y) 3, L (L za0 y) 4, L (L za0 y) 5, L (L za0 y) 6, L (L za0 y) 7, L (L za0 y) 8, L (L za0 y) 9, L (L za0 y) 10, L (L za0 y) 11, L (L za0 y) 12, L (L za0 y) 13, L (L za0 y) 14, L (L za0 y) 15]) 10), .int .u8 (L (L za1 [L (L za0 y) 0, L (L za0 y) 1, L (L za0 y) 2, L (L za0 y) 3, L (L za0 y) 4, L (L za0 y) 5, L (L za0 y) 6, L (L za0 y) 7, L (L za0 y) 8, L (L za0 y) 9, L (L za0 y) 10, L (L za0 y) 11, L (L za0 y) 12, L (L za0 y) 13, L (L za0 y) 14, L (L za0 y) 15]) 11), .int .u8 (L (L za1 [L (L za0 y) 0, L (L za0 y) 1, L (L za0 y) 2, L (L za0 y) 3, L (L za0 y) 4, L (L za0 y) 5, L (L za0 y) 6, L (L za0 y) 7, L (L za0 y) 8, L (L za0 y) 9, L (L za0 y) 10, L (L za0 y) 11, L (L za0 y) 12, L (L za0 y) 13, L (L za0 y) 14, L (L za0 y) 15]) 12), .int .u8 (L (L za1 [L (L za0 y) 0, L (L za0 y) 1, L (L za0 y) 2, L (L za0 y) 3, L (L za0 y) 4, L (L za0 y) 5, L (L za0 y) 6, L (L za0 y) 7, L (L za0 y) 8, L (L za0 y) 9, L (L za0 y) 10, L (L za0 y) 11, L (L za0 y) 12, L (L za0 y) 13, L (L za0 y) 14, L (L za0 y) 15]) 13), .int .u8 (L (L za1 [L (L za0 y) 0, L (L za0 y) 1, L (L za0 y) 2, L (L za0 y) 3, L (L za0 y) 4, L (L za0 y) 5, L (L za0 y) 6, L (L za0 y) 7, L (L za0 y) 8, L (L za0 y) 9, L (L za0 y) 10, L (L za0 y) 11, L (L za0 y) 12, L (L za0 y) 13, L (L za0 y) 14, L (L za0 y) 15]) 14), .int .u8 (L (L za1 [L (L za0 y) 0, L (L za0 y) 1, L (L za0 y) 2, L (L za0 y) 3, L (L za0 y) 4, L (L za0 y) 5, L (L za0 y) 6, L (L za0 y) 7, L (L za0 y) 8, L (L za0 y) 9, L (L za0 y) 10, L (L za0 y) 11, L (L za0 y) 12, L (L za0 y) 13, L (L za0 y) 14, L (L za0 y) 15]) 15), .int .i64 d, .bool h]) = L (L (L Le.mk y) d) h := by subst hL; exact fun y d h => (zc9 ⟨y, d, h⟩).2
 have hFo : ∀ (y : Pr) (d : Int) (h : Bool), (L zei (.agg [.int .u8 (L (L za1 [L (L za0 y) 0, L (L za0 y) 1, L (L za0 y) 2, L (L za0 y) 3, L (L za0 y) 4, L (L za0 y) 5, L (L za0 y) 6, L (L za0 y) 7, L (L za0 y) 8, L (L za0 y) 9, L (L za0 y) 10, L (L za0 y) 11, L (L za0 y) 12, L (L za0 y) 13, L (L za0 y) 14, L (L za0 y) 15]) 0), .int .u8 (L (L za1 [L (L za0 y) 0, L (L za0 y) 1, L (L za0 y) 2, L (L za0 y) 3, L (L za0 y) 4, L (L za0 y) 5, L (L za0 y) 6, L (L za0 y) 7, L (L za0 y) 8, L (L za0 y) 9, L (L za0 y) 10, L (L za0 y) 11, L (L za0 y) 12, L (L za0 y) 13, L (L za0 y) 14, L (L za0 y) 15]) 1), .int .u8 (L (L za1 [L (L za0 y) 0, L (L za0 y) 1, L (L za0 y) 2, L (L za0 y) 3, L (L za0 y) 4, L (L za0 y) 5, L (L za0 y) 6, L (L za0 y) 7, L (L za0 y) 8, L (L za0 y) 9, L (L za0 y) 10, L (L za0 y) 11, L (L za0 y) 12, L (L za0 y) 13, L (L za0 y) 14, L (L za0 y) 15]) 2), .int .u8 (L (L za1 [L (L za0 y) 0, L (L za0 y) 1, L (L za0 y) 2, L (L za0 y) 3, L (L za0 y) 4, L (L za0 y) 5, L (L za0 y) 6, L (L za0 y) 7, L (L za0 y) 8, L (L za0 y) 9, L (L za0 y) 10, L (L za0 y) 11, L (L za0 y) 12, L (L za0 y) 13, L (L za0 y) 14, L (L za0 y) 15]) 3), .int .u8 (L (L za1 [L (L za0 y) 0, L (L za0 y) 1, L (L za0 y) 2, L (L za0 y) 3, L (L za0 y) 4, L (L za0 y) 5, L (L za0 y) 6, L (L za0 y) 7, L (L za0 y) 8, L (L za0 y) 9, L (L za0 y) 10, L (L za0 y) 11, L (L za0 y) 12, L (L za0 y) 13, L (L za0 y) 14, L (L za0 y) 15]) 4), .int .u8 (L (L za1 [L (L za0 y) 0, L (L za0 y) 1, L (L za0 y) 2, L (L za0 y) 3, L (L za0 y) 4, L (L za0 y) 5, L (L za0 y) 6, L (L za0 y) 7, L (L za0 y) 8, L (L za0 y) 9, L (L za0 y) 10, L (L za0 y) 11, L (L za0 y) 12, L (L za0 y) 13, L (L za0 y) 14, L (L za0 y) 15]) 5), .int .u8 (L (L za1 [L (L za0 y) 0, L (L za0 y) 1, L (L za0 y) 2, L (L za0 y) 3, L (L za0 y) 4, L (L za0 y) 5, L (L za0 y) 6, L (L za0 y) 7, L (L za0 y) 8, L (L za0 y) 9, L (L za0 y) 10, L (L za0 y) 11, L (L za0 y) 12, L (L za0 y) 13, L (L za0 y) 14, L (L za0 y) 15]) 6), .int .u8 (L (L za1 [L (L za0 y) 0, L (L za0 y) 1, L (L za0 y) 2, L (L za0 y) 3, L (L za0 y) 4, L (L za0 y) 5, L (L za0 y) 6, L (L za0 y) 7, L (L za0 y) 8, L (L za0 y) 9, L (L za0 y) 10, L (L za0 y) 11, L (L za0 y) 12, L (L za0 y) 13, L (L za0 y) 14, L (L za0 y) 15]) 7), .int .u8 (L (L za1 [L (L za0 y) 0, L (L za0 y) 1, L (L za0 y) 2, L (L za0 y) 3, L (L za0 y) 4, L (L za0 y) 5, L (L za0 y) 6, L (L za0 y) 7, L (L za0 y) 8, L (L za0 y) 9, L (L za0 y) 10, L (L za0 y) 11, L (L za0 y) 12, L (L za0 y) 13, L (L za0 y) 14, L (L za0 y) 15]) 8), .int .u8 (L (L za1 [L (L za0 y) 0, L (L za0 y) 1, L (L za0 y) 2, L (L za0 y) 3, L (L za0 y) 4, L (L za0 y) 5, L (L za0 y) 6, L (L za0 y) 7, L (L za0 y) 8, L (L za0 y) 9, L (L za0 y) 10, L (L za0 y) 11, L (L za0 y) 12, L (L za0 y) 13, L (L za0 y) 14, L (L za0 y) 15]) 9), .int .u8 (L (L za1 [L (L za0 y) 0, L (L za0 y) 1, L (L za0 y) 2, L (L za0 y) 3, L (L za0 y) 4, L (L za0 y) 5, L (L za0 y) 6, L (L za0 y) 7, L (L za0 y) 8, L (L za0 y) 9, L (L za0 y) 10, L (L za0 y) 11, L (L za0 y) 12, L (L za0 y) 13, L (L za0 y) 14, L (L za0 y) 15]) 10), .int .u8 (L (L za1 [L (L za0 y) 0, L (L za0 y) 1, L (L za0 y) 2, L (L za0 y) 3, L (L za0 y) 4, L (L za0 y) 5, L (L za0 y) 6, L (L za0 y) 7, L (L za0 y) 8, L (L za0 y) 9, L (L za0 y) 10, L (L za0 y) 11, L (L za0 y) 12, L (L za0 y) 13, L (L za0 y) 14, L (L za0 y) 15]) 11), .int .u8 (L (L za1 [L (L za0 y) 0, L (L za0 y) 1, L (L za0 y) 2, L (L za0 y) 3, L (L za0 y) 4, L (L za0 y) 5, L (L za0 y) 6, L (L za0 y) 7, L (L za0 y) 8, L (L za0 y) 9, L (L za0 y) 10, L (L za0 y) 11, L (L za0 y) 12, L (L za0 y) 13, L (L za0 y) 14, L (L za0 y) 15]) 12), .int .u8 (L (L za1 [L (L za0 y) 0, L (L za0 y) 1, L (L za0 y) 2, L (L za0 y) 3, L (L za0 y) 4, L (L za0 y) 5, L (L za0 y) 6, L (L za0 y) 7, L (L za0 y) 8, L (L za0 y) 9, L (L za0 y) 10, L (L za0 y) 11, L (L za0 y) 12, L (L za0 y) 13, L (L za0 y) 14, L (L za0 y) 15]) 13), .int .u8 (L (L za1 [L (L za0 y) 0, L (L za0 y) 1, L (L za0 y) 2, L (L za0 y) 3, L (L za0 y) 4, L (L za0 y) 5, L (L za0 y) 6, L (L za0 y) 7, L (L za0 y) 8, L (L za0 y) 9, L (L za0 y) 10, L (L za0 y) 11, L (L za0 y) 12, L (L za0 y) 13, L (L za0 y) 14, L (L za0 y) 15]) 14), .int .u8 (L (L za1 [L (L za0 y) 0, L (L za0 y) 1, L (L za0 y) 2, L (L za0 y) 3, L (L za0 y) 4, L (L za0 y) 5, L (L za0 y) 6, L (L za0 y) 7, L (L za0 y) 8, L (L za0 y) 9, L (L za0 y) 10, L (L za0 y) 11, L (L za0 y) 12, L (L za0 y) 13, L (L za0 y) 14, L (L za0 y) 15]) 15), .int .i64 d, .bool h])) = True := by subst hL; exact fun y d h => eq_true (zc9 ⟨y, d, h⟩).1
 have hEta : ∀ y : Le, L (L (L Le.mk (L Le.p y)) (L Le.d y)) (L Le.h y) = y := by subst hL; exact fun y => rfl
 have hMp : ∀ (y : Pr) (d : Int) (h : Bool), L Le.p (L (L (L Le.mk y) d) h) = y := by subst hL; exact fun y d h => rfl
 have hQ0 : ∀ y : Pr, L zar (.agg [.int .u8 (L (L za0 y) 0), .int .u8 (L (L za0 y) 1), .int .u8 (L (L za0 y) 2), .int .u8 (L (L za0 y) 3), .int .u8 (L (L za0 y) 4), .int .u8 (L (L za0 y) 5), .int .u8 (L (L za0 y) 6), .int .u8 (L (L za0 y) 7), .int .u8 (L (L za0 y) 8), .int .u8 (L (L za0 y) 9), .int .u8 (L (L za0 y) 10), .int .u8 (L (L za0 y) 11), .int .u8 (L (L za0 y) 12), .int .u8 (L (L za0 y) 13), .int .u8 (L (L za0 y) 14), .int .u8 (L (L za0 y) 15)]) = y := by subst hL; exact fun y => (zc3 y).2
 have hQo : ∀ y : Pr, (L zd2 (.agg [.int .u8 (L (L za0 y) 0), .int .u8 (L (L za0 y) 1), .int .u8 (L (L za0 y) 2), .int .u8 (L (L za0 y) 3), .int .u8 (L (L za0 y) 4), .int .u8 (L (L za0 y) 5), .int .u8 (L (L za0 y) 6), .int .u8 (L (L za0 y) 7), .int .u8 (L (L za0 y) 8), .int .u8 (L (L za0 y) 9), .int .u8 (L (L za0 y) 10), .int .u8 (L (L za0 y) 11), .int .u8 (L (L za0 y) 12), .int .u8 (L (L za0 y) 13), .int .u8 (L (L za0 y) 14), .int .u8 (L (L za0 y) 15)])) = True := by subst hL; exact fun y => eq_true (zc3 y).1
 have hQ1 : ∀ y : Pr, L zar (.agg [.int .u8 (L (L za1 [L (L za0 y) 0, L (L za0 y) 1, L (L za0 y) 2, L (L za0 y) 3, L (L za0 y) 4, L (L za0 y) 5, L (L za0 y) 6, L (L za0 y) 7, L (L za0 y) 8, L (L za0 y) 9, L (L za0 y) 10, L (L za0 y) 11, L (L za0 y) 12, L (L za0 y) 13, L (L za0 y) 14, L (L za0 y) 15]) 0), .int .u8 (L (L za1 [L (L za0 y) 0, L (L za0 y) 1, L (L za0 y) 2, L (L za0 y) 3, L (L za0 y) 4, L (L za0 y) 5, L (L za0 y) 6, L (L za0 y) 7, L (L za0 y) 8, L (L za0 y) 9, L (L za0 y) 10, L (L za0 y) 11, L (L za0 y) 12, L (L za0 y) 13, L (L za0 y) 14, L (L za0 y) 15]) 1), .int .u8 (L (L za1 [L (L za0 y) 0, L (L za0 y) 1, L (L za0 y) 2, L (L za0 y) 3, L (L za0 y) 4, L (L za0 y) 5, L (L za0 y) 6, L (L za0 y) 7, L (L za0 y) 8, L (L za0 y) 9, L (L za0 y) 10, L (L za0 y) 11, L (L za0 y) 12, L (L za0 y) 13, L (L za0 y) 14, L (L za0 y) 15]) 2), .int .u8 (L (L za1 [L (L za0 y) 0, L (L za0 y) 1, L (L za0 y) 2, L (L za0 y) 3, L (L za0 y) 4, L (L za0 y) 5, L (L za0 y) 6, L (L za0 y) 7, L (L za0 y) 8, L (L za0 y) 9, L (L za0 y) 10, L (L za0 y) 11, L (L za0 y) 12, L (L za0 y) 13, L (L za0 y) 14, L (L za0 y) 15]) 3), .int .u8 (L (L za1 [L (L za0 y) 0, L (L za0 y) 1, L (L za0 y) 2, L (L za0 y) 3, L (L za0 y) 4, L (L za0 y) 5, L (L za0 y) 6, L (L za0 y) 7, L (L za0 y) 8, L (L za0 y) 9, L (L za0 y) 10, L (L za0 y) 11, L (L za0 y) 12, L (L za0 y) 13, L (L za0 y) 14, L (L za0 y) 15]) 4), .int .u8 (L (L za1 [L (L za0 y) 0, L (L za0 y) 1, L (L za0 y) 2, L (L za0 y) 3, L (L za0 y) 4, L (L za0 y) 5, L (L za0 y) 6, L (L za0 y) 7, L (L za0 y) 8, L (L za0 y) 9, L (L za0 y) 10, L (L za0 y) 11, L (L za0 y) 12, L (L za0 y) 13, L (L za0 y) 14, L (L za0 y) 15]) 5), .int .u8 (L (L za1 [L (L za0 y) 0, L (L za0 y) 1, L (L za0 y) 2, L (L za0 y) 3, L (L za0 y) 4, L (L za0 y) 5, L (L za0 y) 6, L (L za0 y) 7, L (L za0 y) 8, L (L za0 y) 9, L (L za0 y) 10, L (L za0 y) 11, L (L za0 y) 12, L (L za0 y) 13, L (L za0 y) 14, L (L za0 y) 15]) 6), .int .u8 (L (L za1 [L (L za0 y) 0, L (L za0 y) 1, L (L za0 y) 2, L (L za0 y) 3, L (L za0 y) 4, L (L za0 y) 5, L (L za0 y) 6, L (L za0 y) 7, L (L za0 y) 8, L (L za0 y) 9, L (L za0 y) 10, L (L za0 y) 11, L (L za0 y) 12, L (L za0 y) 13, L (L za0 y) 14, L (L za0 y) 15]) 7), .int .u8 (L (L za1 [L (L za0 y) 0, L (L za0 y) 1, L (L za0 y) 2, L (L za0 y) 3, L (L za0 y) 4, L (L za0 y) 5, L (L za0 y) 6, L (L za0 y) 7, L (L za0 y) 8, L (L za0 y) 9, L (L za0 y) 10, L (L za0 y) 11, L (L za0 y) 12, L (L za0 y) 13, L (L za0 y) 14, L (L za0 y) 15]) 8), .int .u8 (L (L za1 [L (L za0 y) 0, L (L za0 y) 1, L (L za0 y) 2, L (L za0 y) 3, L (L za0 y) 4, L (L za0 y) 5, L (L za0 y) 6, L (L za0 y) 7, L (L za0 y) 8, L (L za0 y) 9, L (L za0 y) 10, L (L za0 y) 11, L (L za0 y) 12, L (L za0 y) 13, L (L za0 y) 14, L (L za0 y) 15]) 9), .int .u8 (L (L za1 [L (L za0 y) 0, L (L za0 y) 1, L (L za0 y) 2, L (L za0 y) 3, L (L za0 y) 4, L (L za0 y) 5, L (L za0 y) 6, L (L za0 y) 7, L (L za0 y) 8, L (L za0 y) 9, L (L za0 y) 10, L (L za0 y) 11, L (L za0 y) 12, L (L za0 y) 13, L (L za0 y) 14, L (L za0 y) 15]) 10), .int .u8 (L (L za1 [L (L za0 y) 0, L (L za0 y) 1, L (L za0 y) 2, L (L za0 y) 3, L (L za0 y) 4, L (L za0 y) 5, L (L za0 y) 6, L (L za0 y) 7, L (L za0 y) 8, L (L za0 y) 9, L (L za0 y) 10, L (L za0 y) 11, L (L za0 y) 12, L (L za0 y) 13, L (L za0 y) 14, L (L za0 y) 15]) 11), .int .u8 (L (L za1 [L (L za0 y) 0, L (L za0 y) 1, L (L za0 y) 2, L (L za0 y) 3, L (L za0 y) 4, L (L za0 y) 5, L (L za0 y) 6, L (L za0 y) 7, L (L za0 y) 8, L (L za0 y) 9, L (L za0 y) 10, L (L za0 y) 11, L (L za0 y) 12, L (L za0 y) 13, L (L za0 y) 14, L (L za0 y) 15]) 12), .int .u8 (L (L za1 [L (L za0 y) 0, L (L za0 y) 1, L (L za0 y) 2, L (L za0 y) 3, L (L za0 y) 4, L (L za0 y) 5, L (L za0 y) 6, L (L za0 y) 7, L (L za0 y) 8, L (L za0 y) 9, L (L za0 y) 10, L (L za0 y) 11, L (L za0 y) 12, L (L za0 y) 13, L (L za0 y) 14, L (L za0 y) 15]) 13), .int .u8 (L (L za1 [L (L za0 y) 0, L (L za0 y) 1, L (L za0 y) 2, L (L za0 y) 3, L (L za0 y) 4, L (L za0 y) 5, L (L za0 y) 6, L (L za0 y) 7, L (L za0 y) 8, L (L za0 y) 9, L (L za0 y) 10, L (L za0 y) 11, L (L za0 y) 12, L (L za0 y) 13, L (L za0 y) 14, L (L za0 y) 15]) 14), .int .u8 (L (L za1 [L (L za0 y) 0, L (L za0 y) 1, L (L za0 y) 2, L (L za0 y) 3, L (L za0 y) 4, L (L za0 y) 5, L (L za0 y) 6, L (L za0 y) 7, L (L za0 y) 8, L (L za0 y) 9, L (L za0 y) 10, L (L za0 y) 11, L (L za0 y) 12, L (L za0 y) 13, L (L za0 y) 14, L (L za0 y) 15]) 15)]) = y := by subst hL; exact fun y => (zc3 y).2
 have hQ1o : ∀ y : Pr, (L zd2 (.agg [.int .u8 (L (L za1 [L (L za0 y) 0, L (L za0 y) 1, L (L za0 y) 2, L (L za0 y) 3, L (L za0 y) 4, L (L za0 y) 5, L (L za0 y) 6, L (L za0 y) 7, L (L za0 y) 8, L (L za0 y) 9, L (L za0 y) 10, L (L za0 y) 11, L (L za0 y) 12, L (L za0 y) 13, L (L za0 y) 14, L (L za0 y) 15]) 0), .int .u8 (L (L za1 [L (L za0 y) 0, L (L za0 y) 1, L (L za0 y) 2, L (L za0 y) 3, L (L za0 y) 4, L (L za0 y) 5, L (L za0 y) 6, L (L za0 y) 7, L (L za0 y) 8, L (L za0 y) 9, L (L za0 y) 10, L (L za0 y) 11, L (L za0 y) 12, L (L za0 y) 13, L (L za0 y) 14, L (L za0 y) 15]) 1), .int .u8 (L (L za1 [L (L za0 y) 0, L (L za0 y) 1, L (L za0 y) 2, L (L za0 y) 3, L (L za0 y) 4, L (L za0 y) 5, L (L za0 y) 6, L (L za0 y) 7, L (L za0 y) 8, L (L za0 y) 9, L (L za0 y) 10, L (L za0 y) 11, L (L za0 y) 12, L (L za0 y) 13, L (L za0 y) 14, L (L za0 y) 15]) 2), .int .u8 (L (L za1 [L (L za0 y) 0, L (L za0 y) 1, L (L za0 y) 2, L (L za0 y) 3, L (L za0 y) 4, L (L za0 y) 5, L (L za0 y) 6, L (L za0 y) 7, L (L za0 y) 8, L (L za0 y) 9, L (L za0 y) 10, L (L za0 y) 11, L (L za0 y) 12, L (L za0 y) 13, L (L za0 y) 14, L (L za0 y) 15]) 3), .int .u8 (L (L za1 [L (L za0 y) 0, L (L za0 y) 1, L (L za0 y) 2, L (L za0 y) 3, L (L za0 y) 4, L (L za0 y) 5, L (L za0 y) 6, L (L za0 y) 7, L (L za0 y) 8, L (L za0 y) 9, L (L za0 y) 10, L (L za0 y) 11, L (L za0 y) 12, L (L za0 y) 13, L (L za0 y) 14, L (L za0 y) 15]) 4), .int .u8 (L (L za1 [L (L za0 y) 0, L (L za0 y) 1, L (L za0 y) 2, L (L za0 y) 3, L (L za0 y) 4, L (L za0 y) 5, L (L za0 y) 6, L (L za0 y) 7, L (L za0 y) 8, L (L za0 y) 9, L (L za0 y) 10, L (L za0 y) 11, L (L za0 y) 12, L (L za0 y) 13, L (L za0 y) 14, L (L za0 y) 15]) 5), .int .u8 (L (L za1 [L (L za0 y) 0, L (L za0 y) 1, L (L za0 y) 2, L (L za0 y) 3, L (L za0 y) 4, L (L za0 y) 5, L (L za0 y) 6, L (L za0 y) 7, L (L za0 y) 8, L (L za0 y) 9, L (L za0 y) 10, L (L za0 y) 11, L (L za0 y) 12, L (L za0 y) 13, L (L za0 y) 14, L (L za0 y) 15]) 6), .int .u8 (L (L za1 [L (L za0 y) 0, L (L za0 y) 1, L (L za0 y) 2, L (L za0 y) 3, L (L za0 y) 4, L (L za0 y) 5, L (L za0 y) 6, L (L za0 y) 7, L (L za0 y) 8, L (L za0 y) 9, L (L za0 y) 10, L (L za0 y) 11, L (L za0 y) 12, L (L za0 y) 13, L (L za0 y) 14, L (L za0 y) 15]) 7), .int .u8 (L (L za1 [L (L za0 y) 0, L (L za0 y) 1, L (L za0 y) 2, L (L za0 y) 3, L (L za0 y) 4, L (L za0 y) 5, L (L za0 y) 6, L (L za0 y) 7, L (L za0 y) 8, L (L za0 y) 9, L (L za0 y) 10, L (L za0 y) 11, L (L za0 y) 12, L (L za0 y) 13, L (L za0 y) 14, L (L za0 y) 15]) 8), .int .u8 (L (L za1 [L (L za0 y) 0, L (L za0 y) 1, L (L za0 y) 2, L (L za0 y) 3, L (L za0 y) 4, L (L za0 y) 5, L (L za0 y) 6, L (L za0 y) 7, L (L za0 y) 8, L (L za0 y) 9, L (L za0 y) 10, L (L za0 y) 11, L (L za0 y) 12, L (L za0 y) 13, L (L za0 y) 14, L (L za0 y) 15]) 9), .int .u8 (L (L za1 [L (L za0 y) 0, L (L za0 y) 1, L (L za0 y) 2, L (L za0 y) 3, L (L za0 y) 4, L (L za0 y) 5, L (L za0 y) 6, L (L za0 y) 7, L (L za0 y) 8, L (L za0 y) 9, L (L za0 y) 10, L (L za0 y) 11, L (L za0 y) 12, L (L za0 y) 13, L (L za0 y) 14, L (L za0 y) 15]) 10), .int .u8 (L (L za1 [L (L za0 y) 0, L (L za0 y) 1, L (L za0 y) 2, L (L za0 y) 3, L (L za0 y) 4, L (L za0 y) 5, L (L za0 y) 6, L (L za0 y) 7, L (L za0 y) 8, L (L za0 y) 9, L (L za0 y) 10, L (L za0 y) 11, L (L za0 y) 12, L (L za0 y) 13, L (L za0 y) 14, L (L za0 y) 15]) 11), .int .u8 (L (L za1 [L (L za0 y) 0, L (L za0 y) 1, L (L za0 y) 2, L (L za0 y) 3, L (L za0 y) 4, L (L za0 y) 5, L (L za0 y) 6, L (L za0 y) 7, L (L za0 y) 8, L (L za0 y) 9, L (L za0 y) 10, L (L za0 y) 11, L (L za0 y) 12, L (L za0 y) 13, L (L za0 y) 14, L (L za0 y) 15]) 12), .int .u8 (L (L za1 [L (L za0 y) 0, L (L za0 y) 1, L (L za0 y) 2, L (L za0 y) 3, L (L za0 y) 4, L (L za0 y) 5, L (L za0 y) 6, L (L za0 y) 7, L (L za0 y) 8, L (L za0 y) 9, L (L za0 y) 10, L (L za0 y) 11, L (L za0 y) 12, L (L za0 y) 13, L (L za0 y) 14, L (L za0 y) 15]) 13), .int .u8 (L (L za1 [L (L za0 y) 0, L (L za0 y) 1, L (L za0 y) 2, L (L za0 y) 3, L (L za0 y) 4, L (L za0 y) 5, L (L za0 y) 6, L (L za0 y) 7, L (L za0 y) 8, L (L za0 y) 9, L (L za0 y) 10, L (L za0 y) 11, L (L za0 y) 12, L (L za0 y) 13, L (L za0 y) 14, L (L za0 y) 15]) 14), .int .u8 (L (L za1 [L (L za0 y) 0, L (L za0 y) 1, L (L za0 y) 2, L (L za0 y) 3, L (L za0 y) 4, L (L za0 y) 5, L (L za0 y) 6, L (L za0 y) 7, L (L za0 y) 8, L (L za0 y) 9, L (L za0 y) 10, L (L za0 y) 11, L (L za0 y) 12, L (L za0 y) 13, L (L za0 y) 14, L (L za0 y) 15]) 15)])) = True := by subst hL; exact fun y => eq_true (zc3 y).1
 have hG : ∀ y : List Le, L zak (.lst 18 (L zfl y) (fun i => leC L (L (L zao y) i))) = y := by subst hL; exact fun y => zoh y
 have hGo : ∀ y : List Le, (L zfa (.lst 18 (L zfl y) (fun i => leC L (L (L zao y) i)))) = True := by subst hL; exact fun y => eq_true (zos y)
 (cbv; try simp only [syT, true_and, and_true])
 refine ⟨⟨0, ?_⟩, fun i hi => ?_⟩
 · (cbv; try simp only [syT, true_and, and_true])
   (subst hL; subst hQ; simp only [L2, L3, std] at *; try simp only [syS, reduceCtorEq, Int.reduceToNat, Int.reduceAdd, Int.reduceSub] at *)
   exact yhz _ _
 · have hi2 : zqr zio l i := by
     have h := hi
     rw [hL] at h
     exact h
   clear hi
   (cbv; try simp only [syT, true_and, and_true])
   simp only [hE, hEo, hF, hFo, hEta, hMp, hQ1, hQ1o, hQ0, hQo, hG, hGo, true_and]
   obtain ⟨i', hi'⟩ : ∃ i', i' = i + 1 := ⟨_, rfl⟩
   refine ⟨fun h1 => ⟨?_, fun h2 => ?_, fun h2 => ⟨i', ?_⟩⟩, fun h1 => ?_⟩
   all_goals try (cbv; try simp only [syT, true_and, and_true])
   all_goals subst hL; subst hQ
   · have h1 : ilt (zab i) (zab l.length) = true := h1
     rw [ze8, zaw, zaw] at h1
     show inR (zab i) (zab l.length) = true
     rw [zpb, zaw, zaw]
     omega
   · have h1 : ilt (zab i) (zab l.length) = true := h1
     rw [ze8, zaw, zaw] at h1
     have hlt : i < l.length := by omega
     have h2 : zio (zao l i) = true := h2
     show zfi (.int .i64 (zev l)) (.int .i64 (zab i))
     rw [zgf, zev, zyj (V := leV) hi2 hlt h2]; rfl
   · have h1 : ilt (zab i) (zab l.length) = true := h1
     rw [ze8, zaw, zaw] at h1
     have hlt : i < l.length := by omega
     have h2 : zio (zao l i) = false := h2
     subst hi'
     refine ⟨fun _ _ _ _ => trivial, ?_, zv1 (V := leV) hi2 hlt h2, ?_⟩
     · show zce .i64 (zab i) 1 = zab (i + 1)
       unfold zce zab
       rw [zdj]; omega
     · show l.length - (i + 1) < l.length - i
       omega
   · have h1 : ilt (zab i) (zab l.length) = false := h1
     rw [zia, zaw, zaw] at h1
     show zfi (.int .i64 (zev l)) (.int .i64 (-1))
     rw [zgf, zev, zyk hi2 (by omega)]
theorem zpn : ∀ l : List Le, (zev l < 0 ↔ ¬ firstFree l < l.length) /\ (firstFree l < l.length -> zev l = (firstFree l : Int))
 | [] => by simp [zev, firstFree, zpc]
 | e :: l => by
   obtain ⟨h1, h2⟩ := zpn l
   have hx := (zzo zio l).1
   unfold zev firstFree at h1 h2 |-
   unfold zpc
   rw [List.findIdx_cons]
   cases hf : zio e with
   | true =>
     have hf : (!e.h) = true := hf
     rw [if_pos rfl, hf]
     simp
   | false =>
     have hf : (!e.h) = false := hf
     rw [if_neg (by decide), hf, List.length_cons]
     simp only [cond_false]
     by_cases h3 : zpc zio l < 0
     · rw [if_pos h3]
       have := h1.1 h3
       exact ⟨⟨fun _ => by omega, fun _ => by omega⟩, fun h => by omega⟩
     · rw [if_neg h3]
       have h4 : List.findIdx (fun e => !e.h) l < l.length := Classical.byContradiction fun h => h3 (h1.2 h)
       have h5 := h2 h4
       exact ⟨⟨fun _ => by omega, fun _ => by omega⟩, fun h => by omega⟩
def ldE (l : List Le) (x : Pr × Int) : Int := zc1 l x.1 x.2
def ldD (l : List Le) (x : Pr × Int) : List Le := zbq l x.1 x.2
def yds (L : za9) : zcw := (8, fun xs => match xs with
 | [.agg [x], q, .int .i64 k] => some (L zfa x /\ L zd2 q /\ L zdz (L zak x) /\ L zde (L zak x) /\ L zgx (L zar q), .tup [.agg [zdb L (L2 L ldD (L zak x) (L2 L Prod.mk (L zar q) k))], .int .i64 (L2 L ldE (L zak x) (L2 L Prod.mk (L zar q) k))])
 | _ => none)
theorem znr {l : List Le} {p : Pr} {k c : Int} (h : zc1 l p k = c) (hc : c ≠ 0) : zfi (.tup [.agg [zdb std (zbq l p k)], .int .i64 (zc1 l p k)]) (.tup [.agg [.nils], .int .i64 c]) := by
 have e : zbq l p k = [] := by unfold zbq; rw [if_neg (by rw [h]; exact hc)]
 rw [zjd, zdo, zdo, zhh, zhi, h, e]
 refine ⟨?_, rfl, trivial⟩
 show zbg (.agg [.lst 18 0 _]) (.agg [.nils])
 rw [zid, zdp]
 exact ⟨rfl, trivial⟩
theorem zns {l m : List Le} {p : Pr} {k : Int} (h : zc1 l p k = 0) (hm : m = zbq l p k) : zfi (.tup [.agg [zdb std (zbq l p k)], .int .i64 (zc1 l p k)]) (.tup [.agg [.lst 18 (zfl m) fun i => leC std (zao m i)], .int .i64 0]) := by
 rw [zjd, zdo, zdo, zhh, zhi, h, <- hm]
 exact ⟨zpl _ _ _ rfl fun i j hi hj => rfl, rfl, trivial⟩
theorem yn9 {l : List Le} {i : Nat} (hi : i < l.length) : zfa (.lst 18 (zfr l.length) fun q => zq8 (fun q => leC std (zao l q)) i (Nat.add 0 q)) /\ zak (.lst 18 (zfr l.length) fun q => zq8 (fun q => leC std (zao l q)) i (Nat.add 0 q)) = zcu i l := by
 have hl := ze1 hi
 refine zse zed (by unfold zfr; omega) fun q j hq hj => ?_
 rw [show Nat.add 0 q = q from Nat.zero_add q]
 exact yaa hi j
theorem zpt {l : List Le} {p : Pr} {k : Int} (hz : l.length <= 1000000) (hok : zde l) (hpo : zgx p) (hk : ¬ (k < 1 \/ 255 < k)) {e : Le} (he : e = ybv (zbo l p) k) :
   (zdz l /\ zde l /\ zgx p) /\
     ((!zb6 p l) = true ->
       (ile 64 (zab l.length) = true ->
         zdz l /\ (ilt (zev l) 0 = true -> zfi (.tup [.agg [zdb std (zbq l p k)], .int .i64 (zc1 l p k)]) (.tup [.agg [.nils], .int .i64 17])) /\
           (ilt (zev l) 0 = false ->
             (∀ (i j : Nat), i < l.length -> j < 18 -> True) /\ upN l.length /\ (∀ (i j : Nat), i < l.length -> j < 18 -> True) /\ yeq l.length (zev l) (zce .i64 (zev l) 1) /\
               (zfa (.lst 18 (zfr l.length) fun i => zq8 (fun i => leC std (zao l i)) (zev l).toNat (Nat.add 0 i)) /\ zdz (zak (.lst 18 (zfr l.length) fun i => zq8 (fun i => leC std (zao l i)) (zev l).toNat (Nat.add 0 i))) /\
                 zde (zak (.lst 18 (zfr l.length) fun i => zq8 (fun i => leC std (zao l i)) (zev l).toNat (Nat.add 0 i))) /\ zix e) /\
               zfi (.tup [.agg [zdb std (zbq l p k)], .int .i64 (zc1 l p k)]) (.tup [.agg [.lst 18 (zfl (zbu (zak (.lst 18 (zfr l.length) fun i => zq8 (fun i => leC std (zao l i)) (zev l).toNat (Nat.add 0 i))) e))
                 fun i => leC std (zao (zbu (zak (.lst 18 (zfr l.length) fun i => zq8 (fun i => leC std (zao l i)) (zev l).toNat (Nat.add 0 i))) e) i)], .int .i64 0]))) /\
       (ile 64 (zab l.length) = false -> (zdz l /\ zde l /\ zix e) /\
         zfi (.tup [.agg [zdb std (zbq l p k)], .int .i64 (zc1 l p k)]) (.tup [.agg [.lst 18 (zfl (zbu l e)) fun i => leC std (zao (zbu l e) i)], .int .i64 0]))) /\
     ((!zb6 p l) = false -> (zdz l /\ zde l /\ zix e) /\
       zfi (.tup [.agg [zdb std (zbq l p k)], .int .i64 (zc1 l p k)]) (.tup [.agg [.lst 18 (zfl (zbu l e)) fun i => leC std (zao (zbu l e) i)], .int .i64 0])) := by
 subst he
 have hke := zrh k (zja hok hpo)
 obtain ⟨f1, f2⟩ := zpn l
 refine ⟨⟨hz, hok, hpo⟩, fun hh => ⟨fun h64 => ⟨hz, fun hf => ?_, fun hf => ?_⟩, fun h64 => ?_⟩, fun hh => ?_⟩
 · rw [ye7, zaw] at h64
   rw [ze8] at hf
   refine znr ?_ (by decide)
   unfold zc1
   rw [if_neg hk, if_pos ⟨by unfold zfn; rw [hh, Bool.true_and]; exact decide_eq_true (by omega), f1.1 hf⟩]
 · rw [ye7, zaw] at h64
   rw [zia] at hf
   have hlt : firstFree l < l.length := Classical.byContradiction fun h => by have := f1.2 h; omega
   have ef := f2 hlt
   have et : (zev l).toNat = firstFree l := by omega
   have hfull : zfn l p = true := by unfold zfn; rw [hh, Bool.true_and]; exact decide_eq_true (by omega)
   have hE0 : zc1 l p k = 0 := by unfold zc1; rw [if_neg hk, if_neg (fun h => h.2 hlt)]
   have hl := ze1 hlt
   rw [et]
   obtain ⟨c1, c2⟩ := yn9 hlt
   rw [c2]
   refine ⟨fun _ _ _ _ => trivial, hz, fun _ _ _ _ => trivial, ⟨hz, by omega, by omega, ?_⟩, ⟨c1, (show (zcu (firstFree l) l).length <= 1000000 by omega), zjb hok, hke⟩, zns hE0 ?_⟩
   · unfold zce; rw [zdj]; omega
   · unfold zbq zcr
     rw [if_pos hE0, if_pos hfull]
 · rw [yiw, zaw] at h64
   have hfull : ¬ zfn l p = true := by unfold zfn; rw [hh, Bool.true_and]; simp; omega
   have hE0 : zc1 l p k = 0 := by unfold zc1; rw [if_neg hk, if_neg (fun h => hfull h.1)]
   refine ⟨⟨hz, hok, hke⟩, zns hE0 ?_⟩
   unfold zbq zcr
   rw [if_pos hE0, if_neg hfull]
 · have hfull : ¬ zfn l p = true := by unfold zfn; rw [hh, Bool.false_and]; decide
   have hE0 : zc1 l p k = 0 := by unfold zc1; rw [if_neg hk, if_neg (fun h => hfull h.1)]
   refine ⟨⟨hz, hok, hke⟩, zns hE0 ?_⟩
   unfold zbq zcr
   rw [if_pos hE0, if_neg hfull]
theorem zt9 : zdd Tryz.prog (yds std) := by
 intro xs p r h hp
 dsimp only [yds] at h |-
 split at h <;> cases h
 try simp only [L2, L3, std] at hp |-
 rename_i x q k
 obtain ⟨ho, ho2, hz, hok, hpo⟩ := hp
 refine ybg zed ho (zvt zlp ho2 ?_)
 rw [zk3]
 have hz : zdz (zak x) := hz
 have hok : zde (zak x) := hok
 have hpo : zgx (zar q) := hpo
 show zac _ _ (.agg [zv6 std leV (zak x)] :: zux std (zar q) :: _) (.tup [.agg [zdb std (zbq (zak x) (zar q) k)], .int .i64 (zc1 (zak x) (zar q) k)])
 generalize zak x = l at hz hok |-
 generalize zar q = p at hpo |-
 refine zau (T := tt) (S := fun L => zb0 [zz2 L, zy5 L, yi8 L, yjb L] [yq8 L, dlLe L]) (lo := noA) (lb := noA) 5 (fn := Tryz.f8) (xs := fun L => [.agg [zdb L l], zux L p, .int .i64 k]) rfl rfl (by kernel_rfl) (by kernel_rfl) rfl zae (za8 ⟨zn8, zmw, ydi, yem, trivial⟩ ⟨zg3, zmb, trivial⟩) (by kernel_rfl) ?_
 intro L P' Q' hL hP hQ
 have hE : ∀ (y : Pr) (d : Int) (h : Bool), L zc4 (.agg [.int .u8 (L (L za0 y) 0), .int .u8 (L (L za0 y) 1), .int .u8 (L (L za0 y) 2), .int .u8 (L (L za0 y) 3), .int .u8 (L (L za0 y) 4), .int .u8 (L (L za0 y) 5), .int .u8 (L (L za0 y) 6), .int .u8 (L (L za0 y) 7), .int .u8 (L (L za0 y) 8), .int .u8 (L (L za0 y) 9), .int .u8 (L (L za0 y) 10), .int .u8 (L (L za0 y) 11), .int .u8 (L (L za0 y) 12), .int .u8 (L (L za0 y) 13), .int .u8 (L (L za0 y) 14), .int .u8 (L (L za0 y) 15), .int .i64 d, .bool h]) = L (L (L Le.mk y) d) h := by subst hL; exact fun y d h => (zc9 ⟨y, d, h⟩).2
 have hEo : ∀ (y : Pr) (d : Int) (h : Bool), (L zei (.agg [.int .u8 (L (L za0 y) 0), .int .u8 (L (L za0 y) 1), .int .u8 (L (L za0 y) 2), .int .u8 (L (L za0 y) 3), .int .u8 (L (L za0 y) 4), .int .u8 (L (L za0 y) 5), .int .u8 (L (L za0 y) 6), .int .u8 (L (L za0 y) 7), .int .u8 (L (L za0 y) 8), .int .u8 (L (L za0 y) 9), .int .u8 (L (L za0 y) 10), .int .u8 (L (L za0 y) 11), .int .u8 (L (L za0 y) 12), .int .u8 (L (L za0 y) 13), .int .u8 (L (L za0 y) 14), .int .u8 (L (L za0 y) 15), .int .i64 d, .bool h])) = True := by subst hL; exact fun y d h => eq_true (zc9 ⟨y, d, h⟩).1
 have hF : ∀ (y : Pr) (d : Int) (h : Bool), L zc4 (.agg [.int .u8 (L (L za1 [L (L za0 y) 0, L (L za0 y) 1, L (L za0 y) 2, L (L za0 y) 3, L (L za0 y) 4, L (L za0 y) 5, L (L za0 y) 6, L (L za0 y) 7, L (L za0 y) 8, L (L za0 y) 9, L (L za0 y) 10, L (L za0 y) 11, L (L za0 y) 12, L (L za0 y) 13, L (L za0 y) 14, L (L za0 y) 15]) 0), .int .u8 (L (L za1 [L (L za0 y) 0, L (L za0 y) 1, L (L za0 y) 2, L (L za0 y) 3, L (L za0 y) 4, L (L za0 y) 5, L (L za0 y) 6, L (L za0 y) 7, L (L za0 y) 8, L (L za0 y) 9, L (L za0 y) 10, L (L za0 y) 11, L (L za0 y) 12, L (L za0 y) 13, L (L za0 y) 14, L (L za0 y) 15]) 1), .int .u8 (L (L za1 [L (L za0 y) 0, L (L za0 y) 1, L (L za0 y) 2, L (L za0 y) 3, L (L za0 y) 4, L (L za0 y) 5, L (L za0 y) 6, L (L za0 y) 7, L (L za0 y) 8, L (L za0 y) 9, L (L za0 y) 10, L (L za0 y) 11, L (L za0 y) 12, L (L za0 y) 13, L (L za0 y) 14, L (L za0 y) 15]) 2), .int .u8 (L (L za1 [L (L za0 y) 0, L (L za0 y) 1, L (L za0 y) 2, L (L za0 y) 3, L (L za0 y) 4, L (L za0 y) 5, L (L za0 y) 6, L (L za0 y) 7, L (L za0 y) 8, L (L za0 y) 9, L (L za0 y) 10, L (L za0 y) 11, L (L za0 y) 12, L (L za0 y) 13, L (L za0 y) 14, L (L za0 y) 15]) 3), .int .u8 (L (L za1 [L (L za0 y) 0, L (L za0 y) 1, L (L za0 y) 2, L (L za0 y) 3, L (L za0 y) 4, L (L za0 y) 5, L (L za0 y) 6, L (L za0 y) 7, L (L za0 y) 8, L (L za0 y) 9, L (L za0 y) 10, L (L za0 y) 11, L (L za0 y) 12, L (L za0 y) 13, L (L za0 y) 14, L (L za0 y) 15]) 4), .int .u8 (L (L za1 [L (L za0 y) 0, L (L za0 y) 1, L (L za0 y) 2, L (L za0 y) 3, L (L za0 y) 4, L (L za0 y) 5, L (L za0 y) 6, L (L za0 y) 7, L (L za0 y) 8, L (L za0 y) 9, L (L za0 y) 10, L (L za0 y) 11, L (L za0 y) 12, L (L za0 y) 13, L (L za0 y) 14, L (L za0 y) 15]) 5), .int .u8 (L (L za1 [L (L za0 y) 0, L (L za0 y) 1, L (L za0 y) 2, L (L za0 y) 3, L (L za0 y) 4, L (L za0 y) 5, L (L za0 y) 6, L (L za0 y) 7, L (L za0 y) 8, L (L za0 y) 9, L (L za0 y) 10, L (L za0 y) 11, L (L za0 y) 12, L (L za0 y) 13, L (L za0 y) 14, L (L za0 y) 15]) 6), .int .u8 (L (L za1 [L (L za0 y) 0, L (L za0 y) 1, L (L za0 y) 2, L (L za0 y) 3, L (L za0 y) 4, L (L za0 y) 5, L (L za0 y) 6, L (L za0 y) 7, L (L za0 y) 8, L (L za0 y) 9, L (L za0 y) 10, L (L za0 y) 11, L (L za0 y) 12, L (L za0 y) 13, L (L za0 y) 14, L (L za0 y) 15]) 7), .int .u8 (L (L za1 [L (L za0 y) 0, L (L za0 y) 1, L (L za0 y) 2, L (L za0 y) 3, L (L za0 y) 4, L (L za0 y) 5, L (L za0 y) 6, L (L za0 y) 7, L (L za0 y) 8, L (L za0 y) 9, L (L za0 y) 10, L (L za0 y) 11, L (L za0 y) 12, L (L za0 y) 13, L (L za0 y) 14, L (L za0 y) 15]) 8), .int .u8 (L (L za1 [L (L za0 y) 0, L (L za0 y) 1, L (L za0 y) 2, L (L za0 y) 3, L (L za0 y) 4, L (L za0 y) 5, L (L za0 y) 6, L (L za0 y) 7, L (L za0 y) 8, L (L za0 y) 9, L (L za0 y) 10, L (L za0 y) 11, L (L za0 y) 12, L (L za0 y) 13, L (L za0 y) 14, L (L za0 y) 15]) 9), .int .u8 (L (L za1 [L (L za0 y) 0, L (L za0 y) 1, L (L za0 y) 2, L (L za0 y) 3, L (L za0 y) 4, L (L za0 y) 5, L (L za0 y) 6, L (L za0 y) 7, L (L za0 y) 8, L (L za0 y) 9, L (L za0 y) 10, L (L za0 y) 11, L (L za0 y) 12, L (L za0 y) 13, L (L za0 y) 14, L (L za0 y) 15]) 10), .int .u8 (L (L za1 [L (L za0 y) 0, L (L za0 y) 1, L (L za0 y) 2, L (L za0 y) 3, L (L za0 y) 4, L (L za0 y) 5, L (L za0 y) 6, L (L za0 y) 7, L (L za0 y) 8, L (L za0 y) 9, L (L za0 y) 10, L (L za0 y) 11, L (L za0 y) 12, L (L za0 y) 13, L (L za0 y) 14, L (L za0 y) 15]) 11), .int .u8 (L (L za1 [L (L za0 y) 0, L (L za0 y) 1, L (L za0 y) 2, L (L za0 y) 3, L (L za0 y) 4, L (L za0 y) 5, L (L za0 y) 6, L (L za0 y) 7, L (L za0 y) 8, L (L za0 y) 9, L (L za0 y) 10, L (L za0 y) 11, L (L za0 y) 12, L (L za0 y) 13, L (L za0 y) 14, L (L za0 y) 15]) 12), .int .u8 (L (L za1 [L (L za0 y) 0, L (L za0 y) 1, L (L za0 y) 2, L (L za0 y) 3, L (L za0 y) 4, L (L za0 y) 5, L (L za0 y) 6, L (L za0 y) 7, L (L za0 y) 8, L (L za0 y) 9, L (L za0 y) 10, L (L za0 y) 11, L (L za0 y) 12, L (L za0 y) 13, L (L za0 y) 14, L (L za0 y) 15]) 13), .int .u8 (L (L za1 [L (L za0 y) 0, L (L za0 y) 1, L (L za0 y) 2, L (L za0 y) 3, L (L za0 y) 4, L (L za0 y) 5, L (L za0 y) 6, L (L za0 y) 7, L (L za0 y) 8, L (L za0 y) 9, L (L za0 y) 10, L (L za0 y) 11, L (L za0 y) 12, L (L za0 y) 13, L (L za0 y) 14, L (L za0 y) 15]) 14), .int .u8 (L (L za1 [L (L za0 y) 0, L (L za0 y) 1, L (L za0 y) 2, L (L za0 y) 3, L (L za0 y) 4, L (L za0 y) 5, L (L za0 y) 6, L (L za0 y) 7, L (L za0 y) 8, L (L za0 y) 9, L (L za0 y) 10, L (L za0 y) 11, L (L za0 y) 12, L (L za0 y) 13, L (L za0 y) 14, L (L za0 y) 15]) 15), .int .i64 d, .bool h]) = L (L (L Le.mk y) d) h := by subst hL; exact fun y d h => (zc9 ⟨y, d, h⟩).2
 have hFo : ∀ (y : Pr) (d : Int) (h : Bool), (L zei (.agg [.int .u8 (L (L za1 [L (L za0 y) 0, L (L za0 y) 1, L (L za0 y) 2, L (L za0 y) 3, L (L za0 y) 4, L (L za0 y) 5, L (L za0 y) 6, L (L za0 y) 7, L (L za0 y) 8, L (L za0 y) 9, L (L za0 y) 10, L (L za0 y) 11, L (L za0 y) 12, L (L za0 y) 13, L (L za0 y) 14, L (L za0 y) 15]) 0), .int .u8 (L (L za1 [L (L za0 y) 0, L (L za0 y) 1, L (L za0 y) 2, L (L za0 y) 3, L (L za0 y) 4, L (L za0 y) 5, L (L za0 y) 6, L (L za0 y) 7, L (L za0 y) 8, L (L za0 y) 9, L (L za0 y) 10, L (L za0 y) 11, L (L za0 y) 12, L (L za0 y) 13, L (L za0 y) 14, L (L za0 y) 15]) 1), .int .u8 (L (L za1 [L (L za0 y) 0, L (L za0 y) 1, L (L za0 y) 2, L (L za0 y) 3, L (L za0 y) 4, L (L za0 y) 5, L (L za0 y) 6, L (L za0 y) 7, L (L za0 y) 8, L (L za0 y) 9, L (L za0 y) 10, L (L za0 y) 11, L (L za0 y) 12, L (L za0 y) 13, L (L za0 y) 14, L (L za0 y) 15]) 2), .int .u8 (L (L za1 [L (L za0 y) 0, L (L za0 y) 1, L (L za0 y) 2, L (L za0 y) 3, L (L za0 y) 4, L (L za0 y) 5, L (L za0 y) 6, L (L za0 y) 7, L (L za0 y) 8, L (L za0 y) 9, L (L za0 y) 10, L (L za0 y) 11, L (L za0 y) 12, L (L za0 y) 13, L (L za0 y) 14, L (L za0 y) 15]) 3), .int .u8 (L (L za1 [L (L za0 y) 0, L (L za0 y) 1, L (L za0 y) 2, L (L za0 y) 3, L (L za0 y) 4, L (L za0 y) 5, L (L za0 y) 6, L (L za0 y) 7, L (L za0 y) 8, L (L za0 y) 9, L (L za0 y) 10, L (L za0 y) 11, L (L za0 y) 12, L (L za0 y) 13, L (L za0 y) 14, L (L za0 y) 15]) 4), .int .u8 (L (L za1 [L (L za0 y) 0, L (L za0 y) 1, L (L za0 y) 2, L (L za0 y) 3, L (L za0 y) 4, L (L za0 y) 5, L (L za0 y) 6, L (L za0 y) 7, L (L za0 y) 8, L (L za0 y) 9, L (L za0 y) 10, L (L za0 y) 11, L (L za0 y) 12, L (L za0 y) 13, L (L za0 y) 14, L (L za0 y) 15]) 5), .int .u8 (L (L za1 [L (L za0 y) 0, L (L za0 y) 1, L (L za0 y) 2, L (L za0 y) 3, L (L za0 y) 4, L (L za0 y) 5, L (L za0 y) 6, L (L za0 y) 7, L (L za0 y) 8, L (L za0 y) 9, L (L za0 y) 10, L (L za0 y) 11, L (L za0 y) 12, L (L za0 y) 13, L (L za0 y) 14, L (L za0 y) 15]) 6), .int .u8 (L (L za1 [L (L za0 y) 0, L (L za0 y) 1, L (L za0 y) 2, L (L za0 y) 3, L (L za0 y) 4, L (L za0 y) 5, L (L za0 y) 6, L (L za0 y) 7, L (L za0 y) 8, L (L za0 y) 9, L (L za0 y) 10, L (L za0 y) 11, L (L za0 y) 12, L (L za0 y) 13, L (L za0 y) 14, L (L za0 y) 15]) 7), .int .u8 (L (L za1 [L (L za0 y) 0, L (L za0 y) 1, L (L za0 y) 2, L (L za0 y) 3, L (L za0 y) 4, L (L za0 y) 5, L (L za0 y) 6, L (L za0 y) 7, L (L za0 y) 8, L (L za0 y) 9, L (L za0 y) 10, L (L za0 y) 11, L (L za0 y) 12, L (L za0 y) 13, L (L za0 y) 14, L (L za0 y) 15]) 8), .int .u8 (L (L za1 [L (L za0 y) 0, L (L za0 y) 1, L (L za0 y) 2, L (L za0 y) 3, L (L za0 y) 4, L (L za0 y) 5, L (L za0 y) 6, L (L za0 y) 7, L (L za0 y) 8, L (L za0 y) 9, L (L za0 y) 10, L (L za0 y) 11, L (L za0 y) 12, L (L za0 y) 13, L (L za0 y) 14, L (L za0 y) 15]) 9), .int .u8 (L (L za1 [L (L za0 y) 0, L (L za0 y) 1, L (L za0 y) 2, L (L za0 y) 3, L (L za0 y) 4, L (L za0 y) 5, L (L za0 y) 6, L (L za0 y) 7, L (L za0 y) 8, L (L za0 y) 9, L (L za0 y) 10, L (L za0 y) 11, L (L za0 y) 12, L (L za0 y) 13, L (L za0 y) 14, L (L za0 y) 15]) 10), .int .u8 (L (L za1 [L (L za0 y) 0, L (L za0 y) 1, L (L za0 y) 2, L (L za0 y) 3, L (L za0 y) 4, L (L za0 y) 5, L (L za0 y) 6, L (L za0 y) 7, L (L za0 y) 8, L (L za0 y) 9, L (L za0 y) 10, L (L za0 y) 11, L (L za0 y) 12, L (L za0 y) 13, L (L za0 y) 14, L (L za0 y) 15]) 11), .int .u8 (L (L za1 [L (L za0 y) 0, L (L za0 y) 1, L (L za0 y) 2, L (L za0 y) 3, L (L za0 y) 4, L (L za0 y) 5, L (L za0 y) 6, L (L za0 y) 7, L (L za0 y) 8, L (L za0 y) 9, L (L za0 y) 10, L (L za0 y) 11, L (L za0 y) 12, L (L za0 y) 13, L (L za0 y) 14, L (L za0 y) 15]) 12), .int .u8 (L (L za1 [L (L za0 y) 0, L (L za0 y) 1, L (L za0 y) 2, L (L za0 y) 3, L (L za0 y) 4, L (L za0 y) 5, L (L za0 y) 6, L (L za0 y) 7, L (L za0 y) 8, L (L za0 y) 9, L (L za0 y) 10, L (L za0 y) 11, L (L za0 y) 12, L (L za0 y) 13, L (L za0 y) 14, L (L za0 y) 15]) 13), .int .u8 (L (L za1 [L (L za0 y) 0, L (L za0 y) 1, L (L za0 y) 2, L (L za0 y) 3, L (L za0 y) 4, L (L za0 y) 5, L (L za0 y) 6, L (L za0 y) 7, L (L za0 y) 8, L (L za0 y) 9, L (L za0 y) 10, L (L za0 y) 11, L (L za0 y) 12, L (L za0 y) 13, L (L za0 y) 14, L (L za0 y) 15]) 14), .int .u8 (L (L za1 [L (L za0 y) 0, L (L za0 y) 1, L (L za0 y) 2, L (L za0 y) 3, L (L za0 y) 4, L (L za0 y) 5, L (L za0 y) 6, L (L za0 y) 7, L (L za0 y) 8, L (L za0 y) 9, L (L za0 y) 10, L (L za0 y) 11, L (L za0 y) 12, L (L za0 y) 13, L (L za0 y) 14, L (L za0 y) 15]) 15), .int .i64 d, .bool h])) = True := by subst hL; exact fun y d h => eq_true (zc9 ⟨y, d, h⟩).1
 have hEta : ∀ y : Le, L (L (L Le.mk (L Le.p y)) (L Le.d y)) (L Le.h y) = y := by subst hL; exact fun y => rfl
 have hMp : ∀ (y : Pr) (d : Int) (h : Bool), L Le.p (L (L (L Le.mk y) d) h) = y := by subst hL; exact fun y d h => rfl
 have hQ0 : ∀ y : Pr, L zar (.agg [.int .u8 (L (L za0 y) 0), .int .u8 (L (L za0 y) 1), .int .u8 (L (L za0 y) 2), .int .u8 (L (L za0 y) 3), .int .u8 (L (L za0 y) 4), .int .u8 (L (L za0 y) 5), .int .u8 (L (L za0 y) 6), .int .u8 (L (L za0 y) 7), .int .u8 (L (L za0 y) 8), .int .u8 (L (L za0 y) 9), .int .u8 (L (L za0 y) 10), .int .u8 (L (L za0 y) 11), .int .u8 (L (L za0 y) 12), .int .u8 (L (L za0 y) 13), .int .u8 (L (L za0 y) 14), .int .u8 (L (L za0 y) 15)]) = y := by subst hL; exact fun y => (zc3 y).2
 have hQo : ∀ y : Pr, (L zd2 (.agg [.int .u8 (L (L za0 y) 0), .int .u8 (L (L za0 y) 1), .int .u8 (L (L za0 y) 2), .int .u8 (L (L za0 y) 3), .int .u8 (L (L za0 y) 4), .int .u8 (L (L za0 y) 5), .int .u8 (L (L za0 y) 6), .int .u8 (L (L za0 y) 7), .int .u8 (L (L za0 y) 8), .int .u8 (L (L za0 y) 9), .int .u8 (L (L za0 y) 10), .int .u8 (L (L za0 y) 11), .int .u8 (L (L za0 y) 12), .int .u8 (L (L za0 y) 13), .int .u8 (L (L za0 y) 14), .int .u8 (L (L za0 y) 15)])) = True := by subst hL; exact fun y => eq_true (zc3 y).1
 have hQ1 : ∀ y : Pr, L zar (.agg [.int .u8 (L (L za1 [L (L za0 y) 0, L (L za0 y) 1, L (L za0 y) 2, L (L za0 y) 3, L (L za0 y) 4, L (L za0 y) 5, L (L za0 y) 6, L (L za0 y) 7, L (L za0 y) 8, L (L za0 y) 9, L (L za0 y) 10, L (L za0 y) 11, L (L za0 y) 12, L (L za0 y) 13, L (L za0 y) 14, L (L za0 y) 15]) 0), .int .u8 (L (L za1 [L (L za0 y) 0, L (L za0 y) 1, L (L za0 y) 2, L (L za0 y) 3, L (L za0 y) 4, L (L za0 y) 5, L (L za0 y) 6, L (L za0 y) 7, L (L za0 y) 8, L (L za0 y) 9, L (L za0 y) 10, L (L za0 y) 11, L (L za0 y) 12, L (L za0 y) 13, L (L za0 y) 14, L (L za0 y) 15]) 1), .int .u8 (L (L za1 [L (L za0 y) 0, L (L za0 y) 1, L (L za0 y) 2, L (L za0 y) 3, L (L za0 y) 4, L (L za0 y) 5, L (L za0 y) 6, L (L za0 y) 7, L (L za0 y) 8, L (L za0 y) 9, L (L za0 y) 10, L (L za0 y) 11, L (L za0 y) 12, L (L za0 y) 13, L (L za0 y) 14, L (L za0 y) 15]) 2), .int .u8 (L (L za1 [L (L za0 y) 0, L (L za0 y) 1, L (L za0 y) 2, L (L za0 y) 3, L (L za0 y) 4, L (L za0 y) 5, L (L za0 y) 6, L (L za0 y) 7, L (L za0 y) 8, L (L za0 y) 9, L (L za0 y) 10, L (L za0 y) 11, L (L za0 y) 12, L (L za0 y) 13, L (L za0 y) 14, L (L za0 y) 15]) 3), .int .u8 (L (L za1 [L (L za0 y) 0, L (L za0 y) 1, L (L za0 y) 2, L (L za0 y) 3, L (L za0 y) 4, L (L za0 y) 5, L (L za0 y) 6, L (L za0 y) 7, L (L za0 y) 8, L (L za0 y) 9, L (L za0 y) 10, L (L za0 y) 11, L (L za0 y) 12, L (L za0 y) 13, L (L za0 y) 14, L (L za0 y) 15]) 4), .int .u8 (L (L za1 [L (L za0 y) 0, L (L za0 y) 1, L (L za0 y) 2, L (L za0 y) 3, L (L za0 y) 4, L (L za0 y) 5, L (L za0 y) 6, L (L za0 y) 7, L (L za0 y) 8, L (L za0 y) 9, L (L za0 y) 10, L (L za0 y) 11, L (L za0 y) 12, L (L za0 y) 13, L (L za0 y) 14, L (L za0 y) 15]) 5), .int .u8 (L (L za1 [L (L za0 y) 0, L (L za0 y) 1, L (L za0 y) 2, L (L za0 y) 3, L (L za0 y) 4, L (L za0 y) 5, L (L za0 y) 6, L (L za0 y) 7, L (L za0 y) 8, L (L za0 y) 9, L (L za0 y) 10, L (L za0 y) 11, L (L za0 y) 12, L (L za0 y) 13, L (L za0 y) 14, L (L za0 y) 15]) 6), .int .u8 (L (L za1 [L (L za0 y) 0, L (L za0 y) 1, L (L za0 y) 2, L (L za0 y) 3, L (L za0 y) 4, L (L za0 y) 5, L (L za0 y) 6, L (L za0 y) 7, L (L za0 y) 8, L (L za0 y) 9, L (L za0 y) 10, L (L za0 y) 11, L (L za0 y) 12, L (L za0 y) 13, L (L za0 y) 14, L (L za0 y) 15]) 7), .int .u8 (L (L za1 [L (L za0 y) 0, L (L za0 y) 1, L (L za0 y) 2, L (L za0 y) 3, L (L za0 y) 4, L (L za0 y) 5, L (L za0 y) 6, L (L za0 y) 7, L (L za0 y) 8, L (L za0 y) 9, L (L za0 y) 10, L (L za0 y) 11, L (L za0 y) 12, L (L za0 y) 13, L (L za0 y) 14, L (L za0 y) 15]) 8), .int .u8 (L (L za1 [L (L za0 y) 0, L (L za0 y) 1, L (L za0 y) 2, L (L za0 y) 3, L (L za0 y) 4, L (L za0 y) 5, L (L za0 y) 6, L (L za0 y) 7, L (L za0 y) 8, L (L za0 y) 9, L (L za0 y) 10, L (L za0 y) 11, L (L za0 y) 12, L (L za0 y) 13, L (L za0 y) 14, L (L za0 y) 15]) 9), .int .u8 (L (L za1 [L (L za0 y) 0, L (L za0 y) 1, L (L za0 y) 2, L (L za0 y) 3, L (L za0 y) 4, L (L za0 y) 5, L (L za0 y) 6, L (L za0 y) 7, L (L za0 y) 8, L (L za0 y) 9, L (L za0 y) 10, L (L za0 y) 11, L (L za0 y) 12, L (L za0 y) 13, L (L za0 y) 14, L (L za0 y) 15]) 10), .int .u8 (L (L za1 [L (L za0 y) 0, L (L za0 y) 1, L (L za0 y) 2, L (L za0 y) 3, L (L za0 y) 4, L (L za0 y) 5, L (L za0 y) 6, L (L za0 y) 7, L (L za0 y) 8, L (L za0 y) 9, L (L za0 y) 10, L (L za0 y) 11, L (L za0 y) 12, L (L za0 y) 13, L (L za0 y) 14, L (L za0 y) 15]) 11), .int .u8 (L (L za1 [L (L za0 y) 0, L (L za0 y) 1, L (L za0 y) 2, L (L za0 y) 3, L (L za0 y) 4, L (L za0 y) 5, L (L za0 y) 6, L (L za0 y) 7, L (L za0 y) 8, L (L za0 y) 9, L (L za0 y) 10, L (L za0 y) 11, L (L za0 y) 12, L (L za0 y) 13, L (L za0 y) 14, L (L za0 y) 15]) 12), .int .u8 (L (L za1 [L (L za0 y) 0, L (L za0 y) 1, L (L za0 y) 2, L (L za0 y) 3, L (L za0 y) 4, L (L za0 y) 5, L (L za0 y) 6, L (L za0 y) 7, L (L za0 y) 8, L (L za0 y) 9, L (L za0 y) 10, L (L za0 y) 11, L (L za0 y) 12, L (L za0 y) 13, L (L za0 y) 14, L (L za0 y) 15]) 13), .int .u8 (L (L za1 [L (L za0 y) 0, L (L za0 y) 1, L (L za0 y) 2, L (L za0 y) 3, L (L za0 y) 4, L (L za0 y) 5, L (L za0 y) 6, L (L za0 y) 7, L (L za0 y) 8, L (L za0 y) 9, L (L za0 y) 10, L (L za0 y) 11, L (L za0 y) 12, L (L za0 y) 13, L (L za0 y) 14, L (L za0 y) 15]) 14), .int .u8 (L (L za1 [L (L za0 y) 0, L (L za0 y) 1, L (L za0 y) 2, L (L za0 y) 3, L (L za0 y) 4, L (L za0 y) 5, L (L za0 y) 6, L (L za0 y) 7, L (L za0 y) 8, L (L za0 y) 9, L (L za0 y) 10, L (L za0 y) 11, L (L za0 y) 12, L (L za0 y) 13, L (L za0 y) 14, L (L za0 y) 15]) 15)]) = y := by subst hL; exact fun y => (zc3 y).2
 have hQ1o : ∀ y : Pr, (L zd2 (.agg [.int .u8 (L (L za1 [L (L za0 y) 0, L (L za0 y) 1, L (L za0 y) 2, L (L za0 y) 3, L (L za0 y) 4, L (L za0 y) 5, L (L za0 y) 6, L (L za0 y) 7, L (L za0 y) 8, L (L za0 y) 9, L (L za0 y) 10, L (L za0 y) 11, L (L za0 y) 12, L (L za0 y) 13, L (L za0 y) 14, L (L za0 y) 15]) 0), .int .u8 (L (L za1 [L (L za0 y) 0, L (L za0 y) 1, L (L za0 y) 2, L (L za0 y) 3, L (L za0 y) 4, L (L za0 y) 5, L (L za0 y) 6, L (L za0 y) 7, L (L za0 y) 8, L (L za0 y) 9, L (L za0 y) 10, L (L za0 y) 11, L (L za0 y) 12, L (L za0 y) 13, L (L za0 y) 14, L (L za0 y) 15]) 1), .int .u8 (L (L za1 [L (L za0 y) 0, L (L za0 y) 1, L (L za0 y) 2, L (L za0 y) 3, L (L za0 y) 4, L (L za0 y) 5, L (L za0 y) 6, L (L za0 y) 7, L (L za0 y) 8, L (L za0 y) 9, L (L za0 y) 10, L (L za0 y) 11, L (L za0 y) 12, L (L za0 y) 13, L (L za0 y) 14, L (L za0 y) 15]) 2), .int .u8 (L (L za1 [L (L za0 y) 0, L (L za0 y) 1, L (L za0 y) 2, L (L za0 y) 3, L (L za0 y) 4, L (L za0 y) 5, L (L za0 y) 6, L (L za0 y) 7, L (L za0 y) 8, L (L za0 y) 9, L (L za0 y) 10, L (L za0 y) 11, L (L za0 y) 12, L (L za0 y) 13, L (L za0 y) 14, L (L za0 y) 15]) 3), .int .u8 (L (L za1 [L (L za0 y) 0, L (L za0 y) 1, L (L za0 y) 2, L (L za0 y) 3, L (L za0 y) 4, L (L za0 y) 5, L (L za0 y) 6, L (L za0 y) 7, L (L za0 y) 8, L (L za0 y) 9, L (L za0 y) 10, L (L za0 y) 11, L (L za0 y) 12, L (L za0 y) 13, L (L za0 y) 14, L (L za0 y) 15]) 4), .int .u8 (L (L za1 [L (L za0 y) 0, L (L za0 y) 1, L (L za0 y) 2, L (L za0 y) 3, L (L za0 y) 4, L (L za0 y) 5, L (L za0 y) 6, L (L za0 y) 7, L (L za0 y) 8, L (L za0 y) 9, L (L za0 y) 10, L (L za0 y) 11, L (L za0 y) 12, L (L za0 y) 13, L (L za0 y) 14, L (L za0 y) 15]) 5), .int .u8 (L (L za1 [L (L za0 y) 0, L (L za0 y) 1, L (L za0 y) 2, L (L za0 y) 3, L (L za0 y) 4, L (L za0 y) 5, L (L za0 y) 6, L (L za0 y) 7, L (L za0 y) 8, L (L za0 y) 9, L (L za0 y) 10, L (L za0 y) 11, L (L za0 y) 12, L (L za0 y) 13, L (L za0 y) 14, L (L za0 y) 15]) 6), .int .u8 (L (L za1 [L (L za0 y) 0, L (L za0 y) 1, L (L za0 y) 2, L (L za0 y) 3, L (L za0 y) 4, L (L za0 y) 5, L (L za0 y) 6, L (L za0 y) 7, L (L za0 y) 8, L (L za0 y) 9, L (L za0 y) 10, L (L za0 y) 11, L (L za0 y) 12, L (L za0 y) 13, L (L za0 y) 14, L (L za0 y) 15]) 7), .int .u8 (L (L za1 [L (L za0 y) 0, L (L za0 y) 1, L (L za0 y) 2, L (L za0 y) 3, L (L za0 y) 4, L (L za0 y) 5, L (L za0 y) 6, L (L za0 y) 7, L (L za0 y) 8, L (L za0 y) 9, L (L za0 y) 10, L (L za0 y) 11, L (L za0 y) 12, L (L za0 y) 13, L (L za0 y) 14, L (L za0 y) 15]) 8), .int .u8 (L (L za1 [L (L za0 y) 0, L (L za0 y) 1, L (L za0 y) 2, L (L za0 y) 3, L (L za0 y) 4, L (L za0 y) 5, L (L za0 y) 6, L (L za0 y) 7, L (L za0 y) 8, L (L za0 y) 9, L (L za0 y) 10, L (L za0 y) 11, L (L za0 y) 12, L (L za0 y) 13, L (L za0 y) 14, L (L za0 y) 15]) 9), .int .u8 (L (L za1 [L (L za0 y) 0, L (L za0 y) 1, L (L za0 y) 2, L (L za0 y) 3, L (L za0 y) 4, L (L za0 y) 5, L (L za0 y) 6, L (L za0 y) 7, L (L za0 y) 8, L (L za0 y) 9, L (L za0 y) 10, L (L za0 y) 11, L (L za0 y) 12, L (L za0 y) 13, L (L za0 y) 14, L (L za0 y) 15]) 10), .int .u8 (L (L za1 [L (L za0 y) 0, L (L za0 y) 1, L (L za0 y) 2, L (L za0 y) 3, L (L za0 y) 4, L (L za0 y) 5, L (L za0 y) 6, L (L za0 y) 7, L (L za0 y) 8, L (L za0 y) 9, L (L za0 y) 10, L (L za0 y) 11, L (L za0 y) 12, L (L za0 y) 13, L (L za0 y) 14, L (L za0 y) 15]) 11), .int .u8 (L (L za1 [L (L za0 y) 0, L (L za0 y) 1, L (L za0 y) 2, L (L za0 y) 3, L (L za0 y) 4, L (L za0 y) 5, L (L za0 y) 6, L (L za0 y) 7, L (L za0 y) 8, L (L za0 y) 9, L (L za0 y) 10, L (L za0 y) 11, L (L za0 y) 12, L (L za0 y) 13, L (L za0 y) 14, L (L za0 y) 15]) 12), .int .u8 (L (L za1 [L (L za0 y) 0, L (L za0 y) 1, L (L za0 y) 2, L (L za0 y) 3, L (L za0 y) 4, L (L za0 y) 5, L (L za0 y) 6, L (L za0 y) 7, L (L za0 y) 8, L (L za0 y) 9, L (L za0 y) 10, L (L za0 y) 11, L (L za0 y) 12, L (L za0 y) 13, L (L za0 y) 14, L (L za0 y) 15]) 13), .int .u8 (L (L za1 [L (L za0 y) 0, L (L za0 y) 1, L (L za0 y) 2, L (L za0 y) 3, L (L za0 y) 4, L (L za0 y) 5, L (L za0 y) 6, L (L za0 y) 7, L (L za0 y) 8, L (L za0 y) 9, L (L za0 y) 10, L (L za0 y) 11, L (L za0 y) 12, L (L za0 y) 13, L (L za0 y) 14, L (L za0 y) 15]) 14), .int .u8 (L (L za1 [L (L za0 y) 0, L (L za0 y) 1, L (L za0 y) 2, L (L za0 y) 3, L (L za0 y) 4, L (L za0 y) 5, L (L za0 y) 6, L (L za0 y) 7, L (L za0 y) 8, L (L za0 y) 9, L (L za0 y) 10, L (L za0 y) 11, L (L za0 y) 12, L (L za0 y) 13, L (L za0 y) 14, L (L za0 y) 15]) 15)])) = True := by subst hL; exact fun y => eq_true (zc3 y).1
 have hG : ∀ y : List Le, L zak (.lst 18 (L zfl y) (fun i => leC L (L (L zao y) i))) = y := by subst hL; exact fun y => zoh y
 have hGo : ∀ y : List Le, (L zfa (.lst 18 (L zfl y) (fun i => leC L (L (L zao y) i)))) = True := by subst hL; exact fun y => eq_true (zos y)
 (cbv; try simp only [syT, true_and, and_true])
 simp only [hE, hEo, hF, hFo, hEta, hMp, hQ1, hQ1o, hQ0, hQo, hG, hGo, true_and]
 subst hL; subst hQ
 have hz : l.length <= 1000000 := hz
 have hgk := zja hok hpo
 have hw : zce .i64 (zbo l p).d 1 = (zbo l p).d + 1 := by
   have := hgk.2
   unfold zce
   rw [zdj]; omega
 refine ⟨fun h => ?_, fun h1 => ⟨fun h => ?_, fun h2 => ⟨⟨hz, hok, hpo⟩, fun hh => ?_, fun hh => ?_⟩⟩⟩
 · have h : ilt k 1 = true := h
   rw [ze8] at h
   exact znr (by unfold zc1; rw [if_pos (.inl h)]) (by decide)
 · have h : ilt 255 k = true := h
   rw [ze8] at h
   exact znr (by unfold zc1; rw [if_pos (.inr h)]) (by decide)
 · have h1 : ilt k 1 = false := h1
   have h2 : ilt 255 k = false := h2
   rw [zia] at h1 h2
   have hh : (zbo l p).h = true := hh
   refine zpt hz hok hpo (by omega) (e := Le.mk (zbo l p).p (ymn (zce .i64 (zbo l p).d 1) 255) true) ?_
   rw [hw]
   unfold ybv
   rw [hh]; rfl
 · have h1 : ilt k 1 = false := h1
   have h2 : ilt 255 k = false := h2
   rw [zia] at h1 h2
   have hh : (zbo l p).h = false := hh
   refine zpt hz hok hpo (by omega) (e := Le.mk (zbo l p).p (ymn (zce .i64 (zbo l p).d 1) 255) (ile k (ymn (zce .i64 (zbo l p).d 1) 255))) ?_
   rw [hw]
   unfold ybv
   rw [hh]; rfl
def m32 : Int := 4294967295
def mulW (x y : Int) : Int := zjq .u64 (zw4 .u64 x m32) (zw4 .u64 y m32)
def mulT (x y : Int) : Int := zce .u64 (zjq .u64 (zmh .u64 x 32) (zw4 .u64 y m32)) (zmh .u64 (mulW x y) 32)
def mulU (x y : Int) : Int := zce .u64 (zw4 .u64 (mulT x y) m32) (zjq .u64 (zw4 .u64 x m32) (zmh .u64 y 32))
def yd9 (x y : Int) : Int := zce .u64 (zce .u64 (zjq .u64 (zmh .u64 x 32) (zmh .u64 y 32)) (zmh .u64 (mulT x y) 32)) (zmh .u64 (mulU x y) 32)
def yfw (x y : Int) : Int := zjq .u64 x y
def yi2 (L : za9) : zcw := (129, fun xs => match xs with | [.int .u64 x, .int .u64 y] => some (True, .tup [.int .u64 (L2 L yd9 x y), .int .u64 (L2 L yfw x y)]) | _ => none)
theorem yd8 : zdd Tryz.prog (yi2 std) := by
 intro xs p r h hp
 dsimp only [yi2] at h |-
 split at h <;> cases h
 try simp only [L2, L3, std] at hp |-
 rename_i x y
 refine zaa (T := tt) (S := noS) (lo := noA) (lb := noA) 5 (fn := Tryz.f129) rfl rfl (by kernel_rfl) (by kernel_rfl) rfl zae (zdx _) (by kernel_rfl) ?_
 intro L P' Q' hL hP hQ
 (cbv; try simp only [syT, true_and, and_true])
 subst hL; subst hQ
 refine ⟨rfl, rfl, rfl, rfl, rfl, ?_⟩
 show zfi (.tup [.int .u64 (yd9 x y), .int .u64 (yfw x y)]) (.tup [.int .u64 (yd9 x y), .int .u64 (yfw x y)])
 simp only [sySet]
 trivial
def ykr (y p : Int) (three : Bool) : Bool := match three with
 | false => decide (p < yd9 y y) || (decide (yd9 y y = p) && decide (0 < yfw y y))
 | true => decide (ybn .u64 p 32 < zce .u64 (zjq .u64 (yd9 y y) y) (yd9 (yfw y y) y)) || (decide (zce .u64 (zjq .u64 (yd9 y y) y) (yd9 (yfw y y) y) = ybn .u64 p 32) && decide (0 < yfw (yfw y y) y))
def ykd (L : za9) : zcw := (123, fun xs => match xs with | [.int .u64 y, .int .u64 p, .bool t] => some (True, .bool (L3 L ykr y p t)) | _ => none)
theorem yf1 : zdd Tryz.prog (ykd std) := by
 intro xs p r h hp
 dsimp only [ykd] at h |-
 split at h <;> cases h
 try simp only [L2, L3, std] at hp |-
 rename_i y p t
 refine zaa (T := tt) (S := fun L => zbf [yi2 L]) (lo := noA) (lb := noA) 5 (fn := Tryz.f123) rfl rfl (by kernel_rfl) (by kernel_rfl) rfl zae (za7 ⟨yd8, trivial⟩) (by kernel_rfl) ?_
 (intro L P1 Q1 hL hP hQ; cbv; subst hL; simp only [L2, L3, std, syT]; subst hQ)
 cases t
 · refine ⟨trivial, fun _ => ⟨fun h => ?_, fun h => ⟨fun h2 => ?_, fun h2 => ?_⟩⟩, fun h => by cases h⟩
   all_goals simp only [zbv]
   all_goals simp_all [ykr, ilt, ieq]
 · refine ⟨trivial, fun h => (by cases h), fun _ => ⟨trivial, rfl, fun h => ?_, fun h => ⟨rfl, fun h2 => ?_, fun h2 => ?_⟩⟩⟩
   all_goals simp only [zbv]
   all_goals simp_all [ykr, ilt, ieq]
def yfy (p : Int) (three : Bool) : Nat -> Int -> Int
 | 0, x => x
 | f + 1, x => yfy p three f (if ykr (bor .u64 x (2 ^ f)) p three = true then x else bor .u64 x (2 ^ f))
def ydw (k n : Nat) : Nat := k + 0 * n
theorem ztc (k n : Nat) : ydw k n = k := by rw [ydw, Nat.zero_mul]; rfl
def zfx (p : Int) (three : Bool) : Int := yfy p three (ydw 37 p.toNat) 0 % 4294967296
theorem zp1 (p : Int) (three : Bool) : zfx p three = yfy p three 37 0 % 4294967296 := by rw [zfx, ztc]
def zt5 (p : Int) (three : Bool) (x : Int × Nat) : Prop := x.2 <= 36 /\ yfy p three (x.2 + 1) x.1 = yfy p three 37 0
def zsi (f : Nat) : Int := 2 ^ f
def lstA (L : za9) (p : Int) (t : Bool) : Nat -> St -> Option Ann := fun id st => match id with
 | 0 => some ⟨Int × Nat, fun x => [(5, .int .u64 (L Prod.fst x)), (6, .int .u64 (L zsi (L Prod.snd x)))], fun _ => [], [0, 1], [], fun x => L3 L zt5 p t x, fun x => L Prod.snd x⟩
 | _ => none
theorem zy4 : ∀ f : _root_.Fin 37, zmh .u64 (zsi f.val) 1 = if f.val = 0 then 0 else zsi (f.val - 1) := by decide +kernel
theorem zsh (f : Nat) : 0 < zsi f := by unfold zsi; exact Int.pow_pos (by decide)
theorem zj8 {f : Nat} (h : f <= 36) : zmh .u64 (zsi f) 1 = if f = 0 then 0 else zsi (f - 1) := zy4 ⟨f, by omega⟩
theorem zt4 {p : Int} {t : Bool} {x : Int} {f : Nat} (h : zt5 p t (x, f)) (h0 : ¬ f = 0) : zt5 p t ((if ykr (bor .u64 x (zsi f)) p t = true then x else bor .u64 x (zsi f)), f - 1) := by
 obtain ⟨h1, h2⟩ := h
 refine ⟨by show f - 1 <= 36; have : f <= 36 := h1; omega, ?_⟩
 rw [<- h2]
 show yfy p t (f - 1 + 1) _ = yfy p t (f + 1) x
 rw [show f - 1 + 1 = f by omega]
 rfl
theorem zyy {p : Int} {t : Bool} {x : Int} {f : Nat} (h : zt5 p t (x, f)) (h0 : f = 0) : (if ykr (bor .u64 x (zsi f)) p t = true then x else bor .u64 x (zsi f)) = yfy p t 37 0 := by
 obtain ⟨h1, h2⟩ := h
 subst h0
 rw [<- h2]; rfl
def zn9 (L : za9) : zcw := (112, fun xs => match xs with | [.int .u64 p, .bool t] => some (True, .int .u32 (L2 L zfx p t)) | _ => none)
theorem zlx : zdd Tryz.prog (zn9 std) := by
 intro xs p r h hp
 dsimp only [zn9] at h |-
 split at h <;> cases h
 try simp only [L2, L3, std] at hp |-
 rename_i p t
 refine zaa (T := tt) (S := fun L => zbf [ykd L]) (lo := noA) (lb := fun L => lstA L p t) 5 (fn := Tryz.f112) rfl rfl (by kernel_rfl) (by kernel_rfl) rfl zae (za7 ⟨yf1, trivial⟩) (by kernel_rfl) ?_
 intro L P' Q' hL hP hQ
 (cbv; try simp only [syT, true_and, and_true])
 refine ⟨fun x hx => ?_, ⟨(0, 36), ?_⟩⟩
 · cbv at hx
   obtain ⟨y1, hy1⟩ : ∃ y : Int × Nat, y = (bor .u64 x.1 (zsi x.2), x.2 - 1) := ⟨_, rfl⟩
   obtain ⟨y2, hy2⟩ : ∃ y : Int × Nat, y = (x.1, x.2 - 1) := ⟨_, rfl⟩
   (cbv; try simp only [syT, true_and, and_true])
   refine ⟨fun h1 => ⟨?_, fun h2 => ⟨y1, ?_⟩, fun h2 => ?_⟩, fun h1 => ⟨?_, fun h2 => ⟨y2, ?_⟩, fun h2 => ?_⟩⟩
   all_goals (try (cbv; try simp only [syT, true_and, and_true]))
   all_goals (obtain ⟨x, f⟩ := x; (subst hL; subst hQ; simp only [L2, L3, std] at *; try simp only [syS, reduceCtorEq, Int.reduceToNat, Int.reduceAdd, Int.reduceSub] at *))
   · decide
   · rw [zj8 hx.1] at h2 |-
     have h0 : ¬ f = 0 := by intro h0; rw [if_pos h0] at h2; omega
     have := zt4 hx h0
     rw [if_neg (by simpa using h1)] at this
     rw [if_neg h0, hy1]
     have hf : f <= 36 := hx.1
     exact ⟨rfl, rfl, this, by show f - 1 + 1 <= f; omega⟩
   · rw [zj8 hx.1] at h2
     have h0 : f = 0 := by
       by_cases h0 : f = 0
       · exact h0
       · rw [if_neg h0] at h2
         exact absurd h2 (by
           have := zsh (f - 1)
           show ¬ zsi (f - 1) <= 0
           omega)
     have := zyy hx h0
     rw [if_neg (by simpa using h1)] at this
     rw [this, zp1]
   · decide
   · rw [zj8 hx.1] at h2 |-
     have h0 : ¬ f = 0 := by intro h0; rw [if_pos h0] at h2; omega
     have := zt4 hx h0
     rw [if_pos (by simpa using h1)] at this
     rw [if_neg h0, hy2]
     exact ⟨rfl, rfl, this, by show f - 1 + 1 <= f; omega⟩
   · rw [zj8 hx.1] at h2
     have h0 : f = 0 := by
       by_cases h0 : f = 0
       · exact h0
       · rw [if_neg h0] at h2
         exact absurd h2 (by
           have := zsh (f - 1)
           show ¬ zsi (f - 1) <= 0
           omega)
     have := zyy hx h0
     rw [if_pos (by simpa using h1)] at this
     rw [this, zp1]
 · (cbv; try simp only [syT, true_and, and_true])
   (subst hL; subst hQ; simp only [L2, L3, std] at *; try simp only [syS, reduceCtorEq, Int.reduceToNat, Int.reduceAdd, Int.reduceSub] at *)
   exact ⟨by decide, by decide, rfl⟩
def prF (n : Int) : Nat -> Int -> Bool
 | 0, _ => false
 | f + 1, d => if d * d <= n then (if n % d = 0 then false else prF n f (d + 1)) else decide (1 < n)
def zfk (n : Int) : Bool := prF n (ydw 38 n.toNat) 2
theorem zxz (n : Int) : prF n 38 2 = zfk n := by rw [zfk, ztc]
def yp5 (n : Int) (d : Nat) : Prop := 2 <= d /\ d <= 33 /\ prF n (40 - d) d = zfk n
def prA (L : za9) (n : Int) : Nat -> St -> Option Ann := fun id st => match id with
 | 0 => some ⟨Nat, fun d => [(3, .int .u64 (L zab d))], fun _ => [], [0], [], fun d => L2 L yp5 n d, fun d => L (fun d : Nat => 40 - d) d⟩
 | _ => none
def zql (L : za9) : zcw := (113, fun xs => match xs with | [.int .u64 n] => some (L (fun n : Int => 0 <= n /\ n <= 1000) n, .bool (L zfk n)) | _ => none)
theorem zuy : zdd Tryz.prog (zql std) := by
 intro xs p r h hp
 dsimp only [zql] at h |-
 split at h <;> cases h
 try simp only [L2, L3, std] at hp |-
 rename_i n
 have hn : 0 <= n /\ n <= 1000 := hp
 refine zaa (T := tt) (S := noS) (lo := fun L => prA L n) (lb := noA) 5 (fn := Tryz.f113) rfl rfl (by kernel_rfl) (by kernel_rfl) rfl zae (zdx _) (by kernel_rfl) ?_
 intro L P' Q' hL hP hQ
 (cbv; try simp only [syT, true_and, and_true])
 refine ⟨⟨2, ?_⟩, fun d hd => ?_⟩
 · (cbv; try simp only [syT, true_and, and_true])
   (subst hL; subst hQ; simp only [L2, L3, std] at *; try simp only [syS, reduceCtorEq, Int.reduceToNat, Int.reduceAdd, Int.reduceSub] at *)
   exact ⟨by decide, by decide, zxz n⟩
 · cbv at hd
   (cbv; try simp only [syT, true_and, and_true])
   refine ⟨fun h1 => ⟨?_, fun h2 => ?_, fun h2 => ⟨d + 1, ?_⟩⟩, fun h1 => ?_⟩
   all_goals (try (cbv; try simp only [syT, true_and, and_true]))
   all_goals (subst hL; subst hQ; simp only [L2, L3, std] at *; try simp only [syS, reduceCtorEq, Int.reduceToNat, Int.reduceAdd, Int.reduceSub] at *)
   all_goals (obtain ⟨i1, i2, i3⟩ := hd)
   all_goals (have hdd : d * d <= 33 * 33 := Nat.mul_le_mul i2 i2)
   all_goals (have hd2 : ((d : Nat) : Int) * ((d : Nat) : Int) = ((d * d : Nat) : Int) := by simp)
   all_goals (rw [show 40 - d = (39 - d) + 1 by omega, prF, hd2] at i3)
   all_goals (try rw [hd2] at h1)
   · omega
   · rw [if_pos (by omega)] at i3
     rw [Int.tmod_eq_emod_of_nonneg hn.1] at h2
     rw [if_pos h2] at i3
     exact i3
   · rw [if_pos (by omega)] at i3
     rw [Int.tmod_eq_emod_of_nonneg hn.1] at h2
     rw [if_neg h2] at i3
     have h31 : d <= 31 := by
       apply Nat.le_of_not_lt
       intro h
       have : 32 * 32 <= d * d := Nat.mul_le_mul h h
       omega
     refine ⟨by omega, ⟨by omega, by omega, ?_⟩, by omega⟩
     rw [show 40 - (d + 1) = 39 - d by omega, <- i3]
     congr 1
   · rw [if_neg (by omega)] at i3
     rw [<- i3]; rfl
def zp8 : List Int := [0x428a2f98, 0x71374491, 0xb5c0fbcf, 0xe9b5dba5, 0x3956c25b, 0x59f111f1, 0x923f82a4, 0xab1c5ed5,
 0xd807aa98, 0x12835b01, 0x243185be, 0x550c7dc3, 0x72be5d74, 0x80deb1fe, 0x9bdc06a7, 0xc19bf174,
 0xe49b69c1, 0xefbe4786, 0x0fc19dc6, 0x240ca1cc, 0x2de92c6f, 0x4a7484aa, 0x5cb0a9dc, 0x76f988da,
 0x983e5152, 0xa831c66d, 0xb00327c8, 0xbf597fc7, 0xc6e00bf3, 0xd5a79147, 0x06ca6351, 0x14292967,
 0x27b70a85, 0x2e1b2138, 0x4d2c6dfc, 0x53380d13, 0x650a7354, 0x766a0abb, 0x81c2c92e, 0x92722c85,
 0xa2bfe8a1, 0xa81a664b, 0xc24b8b70, 0xc76c51a3, 0xd192e819, 0xd6990624, 0xf40e3585, 0x106aa070,
 0x19a4c116, 0x1e376c08, 0x2748774c, 0x34b0bcb5, 0x391c0cb3, 0x4ed8aa4a, 0x5b9cca4f, 0x682e6ff3,
 0x748f82ee, 0x78a5636f, 0x84c87814, 0x8cc70208, 0x90befffa, 0xa4506ceb, 0xbef9a3f7, 0xc67178f2]
def zm8 : List Int := [0x6a09e667, 0xbb67ae85, 0x3c6ef372, 0xa54ff53a, 0x510e527f, 0x9b05688c, 0x1f83d9ab, 0x5be0cd19]
def zis : Nat -> Nat
 | 0 => 0
 | n + 1 => if zfk n = true then zis n + 1 else zis n
def zdf : Nat -> List Int
 | 0 => List.replicate 64 0
 | n + 1 => if zfk n = true then (zdf n).set (zis n) (zfx n true) else zdf n
theorem zkk : ∀ n, (zdf n).length = 64
 | 0 => by rw [zdf, List.length_replicate]
 | n + 1 => by
   rw [zdf]
   split
   · rw [List.length_set, zkk n]
   · exact zkk n
theorem ye0 : zdf 312 = zp8 := by decide +kernel
theorem cnt_311 : zis 311 = 63 /\ zis 312 = 64 := by decide +kernel
theorem yeu : ∀ {m n : Nat}, m <= n -> zis m <= zis n := by
 intro m n h
 induction h with
 | refl => exact Nat.le_refl _
 | step h ih =>
   rename_i k
   rw [zis]
   split <;> omega
def yg4 (n : Nat) : Prop := 2 <= n /\ n <= 311 /\ zis n <= 63
def ziy (n : Nat) : Int := zis n
def keyA (L : za9) : Nat -> St -> Option Ann := fun id st => match id with
 | 0 => some ⟨Nat, fun n => [(2, .int .u64 (L zab n)), (3, .int .i64 (L ziy n)), (1, .ref 1 0)], fun n => [(1, .row 145 1 64 (fun i _ => .int .u32 (L2 L za1 (L zdf n) i)))], [0], [0], fun n => L yg4 n, fun n => L (fun n : Nat => 312 - n) n⟩
 | _ => none
def zti (L : za9) : zcw := (96, fun xs => match xs with | [] => some (True, .arr 64 (fun j => .int .u32 (L2 L za1 zp8 j))) | _ => none)
theorem zyh {l : List Int} {k : Nat} {v : Int} (h : k < l.length) : za1 (l.set k v) k = v := by
 rw [za1, List.getD_eq_getElem?_getD, List.getElem?_set_self h]; rfl
theorem yhy {l : List Int} {k i : Nat} {v : Int} (h : k ≠ i) : za1 (l.set k v) i = za1 l i := by
 rw [za1, za1, List.getD_eq_getElem?_getD, List.getD_eq_getElem?_getD, List.getElem?_set_ne h]
theorem yim : zdf 2 = List.replicate 64 0 /\ 0 = ziy 2 /\ zis 2 <= 63 := by decide +kernel
theorem yg3 {n : Nat} (h : n <= 311) (hc : zis (n + 1) < 64) : n + 1 <= 311 := by
 rcases Nat.lt_or_eq_of_le h with h | h
 · exact h
 · rw [h] at hc
   exact absurd (cnt_311.2 ▸ hc : (64 : Nat) < 64) (by decide)
theorem ymh {n : Nat} (h : n <= 311) (hc : 64 <= zis (n + 1)) : zdf (n + 1) = zp8 := by
 rcases Nat.lt_or_eq_of_le h with h | h
 · have h2 := Nat.le_trans hc (yeu h)
   rw [cnt_311.1] at h2
   exact absurd h2 (by decide)
 · rw [h]; exact ye0
theorem yil {n : Nat} (h : zfk n = true) : zis (n + 1) = zis n + 1 /\ zdf (n + 1) = (zdf n).set (zis n) (zfx n true) := by
 rw [zis, zdf, if_pos h, if_pos h]; exact ⟨rfl, rfl⟩
theorem k_no {n : Nat} (h : zfk n = false) : zis (n + 1) = zis n /\ zdf (n + 1) = zdf n := by
 rw [zis, zdf, if_neg (by rw [h]; decide), if_neg (by rw [h]; decide)]; exact ⟨rfl, rfl⟩
theorem yh8 {l : List Int} {k i : Nat} (v : Int) (hk : k < l.length) : over std k 0 1 [.int .u32 v] (fun i x => .int .u32 (za1 l i)) i 0 = .int .u32 (za1 (l.set k v) i) := by
 rw [zg9, if_pos ⟨Nat.le_refl _, by omega⟩]
 by_cases hi2 : i = k
 · subst hi2
   rw [za5, zyh hk]; rfl
 · rw [zai hi2, yhy (fun h => hi2 h.symm)]; rfl
theorem ymg {n i : Nat} (h : zfk n = true) (hc : zis n < 64) : over std (ziy n).toNat 0 1 [.int .u32 (zfx n true)] (fun i x => .int .u32 (za1 (zdf n) i)) i 0 = .int .u32 (za1 (zdf (n + 1)) i) := by
 rw [(yil h).2]
 have e : (ziy n).toNat = zis n := Int.toNat_natCast _
 rw [e]
 have hl : zis n < (zdf n).length := by rw [zkk]; exact hc
 generalize zfx n true = v
 generalize zdf n = l at hl |-
 generalize zis n = k at hl |-
 exact yh8 v hl
theorem k_go {n n' : Nat} (hn : n' = n + 1) (hi : yg4 n) (h1 : zfk n = true) (h2 : ziy n + 1 < 64) : (∀ i, over std (ziy n).toNat 0 1 [.int .u32 (zfx n true)] (fun i x => .int .u32 (za1 (zdf n) i)) i 0 = .int .u32 (za1 (zdf n') i)) /\ ziy n + 1 = ziy n' /\ yg4 n' /\ 312 - n' < 312 - n := by
 subst hn
 obtain ⟨i1, i2, i3⟩ := hi
 obtain ⟨h3, -⟩ := yil h1
 have h2' : zis n + 1 < 64 := by unfold ziy at h2; omega
 have h5 := yg3 i2 (by rw [h3]; omega)
 refine ⟨fun i => ymg h1 (by omega), ?_, ⟨by omega, h5, by rw [h3]; omega⟩, by omega⟩
 unfold ziy
 rw [h3]; rfl
theorem ypq {n : Nat} (hi : yg4 n) (h1 : zfk n = true) (h2 : ¬ ziy n + 1 < 64) (j : Nat) : over std (ziy n).toNat 0 1 [.int .u32 (zfx n true)] (fun i x => .int .u32 (za1 (zdf n) i)) j 0 = .int .u32 (za1 zp8 j) := by
 obtain ⟨i1, i2, i3⟩ := hi
 obtain ⟨h3, -⟩ := yil h1
 have h2' : 64 <= zis n + 1 := by unfold ziy at h2; omega
 rw [ymg h1 (by omega), ymh i2 (by rw [h3]; omega)]
theorem ypp {n n' : Nat} (hn : n' = n + 1) (hi : yg4 n) (h1 : zfk n = false) (h2 : ziy n < 64) : zdf n = zdf n' /\ ziy n = ziy n' /\ yg4 n' /\ 312 - n' < 312 - n := by
 subst hn
 obtain ⟨i1, i2, i3⟩ := hi
 obtain ⟨h3, h4⟩ := k_no h1
 have h5 := yg3 i2 (by rw [h3]; omega)
 refine ⟨h4.symm, ?_, ⟨by omega, h5, by rw [h3]; omega⟩, by omega⟩
 unfold ziy
 rw [h3]
theorem ypo {n : Nat} (hi : yg4 n) : 2 <= n /\ n <= 311 /\ 0 <= ziy n /\ ziy n <= 63 := by
 obtain ⟨i1, i2, i3⟩ := hi
 refine ⟨i1, i2, Int.natCast_nonneg _, ?_⟩
 unfold ziy; omega
theorem ypr {n : Nat} (hn : n = 2) : (∀ i, i < 64 -> za1 (zdf n) i = 0) /\ ziy n = 0 /\ yg4 n /\ (n : Int) = 2 := by
 subst hn
 refine ⟨fun i hi => ?_, yim.2.1.symm, ⟨by decide, by decide, yim.2.2⟩, rfl⟩
 rw [yim.1, za1, List.getD_eq_getElem?_getD, List.getElem?_replicate, if_pos hi]; rfl
theorem zp7 : zdd Tryz.prog (zti std) := by
 intro xs p r h hp
 dsimp only [zti] at h |-
 split at h <;> cases h
 try simp only [L2, L3, std] at hp |-
 refine zaa (T := tt) (S := fun L => zbf [zql L, zn9 L]) (lo := noA) (lb := keyA) 5 (fn := Tryz.f96) rfl rfl (by kernel_rfl) (by kernel_rfl) rfl zae (za7 ⟨zuy, zlx, trivial⟩) (by kernel_rfl) ?_
 intro L P' Q' hL hP hQ
 obtain ⟨n0, hn0⟩ : ∃ n0 : Nat, n0 = 2 := ⟨_, rfl⟩
 (cbv; try simp only [syT, true_and, and_true])
 refine ⟨fun n hn => ?_, ⟨n0, ?_⟩⟩
 · obtain ⟨n', hn'⟩ : ∃ n' : Nat, n' = n + 1 := ⟨_, rfl⟩
   (cbv; try simp only [syT, true_and, and_true])
   refine ⟨?_, fun h1 => ⟨?_, fun h2 => ⟨n', ?_⟩, fun h2 => ?_⟩, fun h1 => ⟨fun h2 => ⟨n', ?_⟩, fun h2 => ?_⟩⟩
   all_goals (try (cbv; try simp only [syT, true_and, and_true]))
   all_goals (subst hL; subst hQ; simp only [L2, L3, std] at *; try simp only [syS, reduceCtorEq, Int.reduceToNat, Int.reduceAdd, Int.reduceSub] at *)
   all_goals (obtain ⟨r1, r2, r3, r4⟩ := ypo hn)
   · omega
   · omega
   · rw [show (ziy n + 1 + 9223372036854775808) % 18446744073709551616 - 9223372036854775808 = ziy n + 1 by omega] at h2 |-
     obtain ⟨e1, e2, e3, e4⟩ := k_go hn' hn h1 h2
     refine ⟨fun i j hi hj => ?_, e2, by omega, e3, by omega⟩
     have : j = 0 := by omega
     subst this
     exact e1 i
   · rw [show (ziy n + 1 + 9223372036854775808) % 18446744073709551616 - 9223372036854775808 = ziy n + 1 by omega] at h2
     intro j hj
     exact ypq hn h1 (by omega) j
   · obtain ⟨e1, e2, e3, e4⟩ := ypp hn' hn h1 h2
     exact ⟨fun i j hi hj => by rw [e1], e2, by omega, e3, by omega⟩
   · exfalso; omega
 · (cbv; try simp only [syT, true_and, and_true])
   (subst hL; subst hQ; simp only [L2, L3, std] at *; try simp only [syS, reduceCtorEq, Int.reduceToNat, Int.reduceAdd, Int.reduceSub] at *)
   obtain ⟨e1, e2, e3, e4⟩ := ypr hn0
   refine ⟨fun i j hi hj => ?_, e2.symm, e4.symm, e3⟩
   have : j = 0 := by omega
   subst this
   rw [e1 i hi]; rfl
end Sy
end Go.Proofs.YtlphgephdhadhaaGreat
namespace Go.Proofs.YtlphgephdhadhaaGreat
namespace Sy
open Go Go.RowKit
end Sy
end Go.Proofs.YtlphgephdhadhaaGreat
namespace Go.Proofs.YtlphgephdhadhaaGreat
namespace Sy
open Go Go.RowKit
set_option maxRecDepth 100000
set_option linter.unusedSimpArgs false
set_option linter.unusedVariables false
def ybq (a b : List UInt8) : Bool := a.take b.length == b
def zy1 (a b : List UInt8) : Prop := a.length <= 1000000000 /\ b.length <= 1000000000
def zsg (L : za9) : zcw := (92, fun xs => match xs with | [.str a, .str b] => some (L2 L zy1 a b, .bool (L2 L ybq a b)) | _ => none)
def yht (L : za9) : zcw := (82, fun xs => match xs with | [.str a, .str b] => some (L2 L zy1 a b, .bool (L2 L ybq a b)) | _ => none)
theorem zok : zdd Tryz.prog (zsg std) := by
 intro xs p r h hp
 dsimp only [zsg] at h |-
 split at h <;> cases h
 try simp only [L2, L3, std] at hp |-
 rename_i a b
 refine zaa (T := tt) (S := noS) (lo := noA) (lb := noA) 5 (fn := Tryz.f92) rfl rfl (by kernel_rfl) (by kernel_rfl) rfl zae (zdx _) (by kernel_rfl) ?_
 (intro L P1 Q1 hL hP hQ; cbv; subst hL; simp only [L2, L3, std, syT]; subst hQ)
 (simp only [syS, reduceCtorEq, Int.reduceToNat, Int.reduceAdd, Int.reduceSub])
 exact ⟨fun h => ⟨by omega, rfl⟩, fun h => by
   have : ¬ a.take b.length = b := fun e => by have := congrArg List.length e; simp at this; omega
   simp [ybq, this]⟩
theorem ycv : zdd Tryz.prog (yht std) := by
 intro xs p r h hp
 dsimp only [yht] at h |-
 split at h <;> cases h
 try simp only [L2, L3, std] at hp |-
 rename_i a b
 refine zaa (T := tt) (S := fun L => zbf [zsg L]) (lo := noA) (lb := noA) 5 (fn := Tryz.f82) rfl rfl (by kernel_rfl) (by kernel_rfl) rfl zae (za7 ⟨zok, trivial⟩) (by kernel_rfl) ?_
 (intro L P1 Q1 hL hP hQ; cbv; subst hL; simp only [L2, L3, std, syT]; subst hQ)
 (simp only [syS, reduceCtorEq, Int.reduceToNat, Int.reduceAdd, Int.reduceSub])
 exact hp
def toS : AV -> List UInt8
 | .str s => s
 | _ => []
def zeh (n : Nat) (get : Nat -> Nat -> AV) : List (List UInt8) := (List.range n).map fun i => toS (get i 0)
theorem yno {h : Array Obj} {D : Nat -> Prop} {x y : AV} {vs : Array Value} (hr : RL h D zap [x, y] vs) : ∃ a b, vs = #[a, b] /\ R h D zap x a /\ R h D zap y b := by
 obtain ⟨hl, hr⟩ := hr
 obtain ⟨a, b, ha⟩ : ∃ a b, vs.toList = [a, b] := by
   have hl : vs.toList.length = 2 := by simpa using hl.symm
   match vs.toList, hl with
   | [a, b], _ => exact ⟨a, b, rfl⟩
 have : vs = #[a, b] := by rw [<- Array.toArray_toList (xs := vs), ha]
 subst this
 exact ⟨a, b, rfl, hr 0 x a rfl rfl, hr 1 y b rfl rfl⟩
def znh (x : AV) : List UInt8 := match x with
 | .lst _ n get => (zeh n get).flatten
 | _ => []
def zfy (x : AV) : Prop := match x with
 | .lst 1 n get => (∀ i, i < n -> ∃ s, get i 0 = .str s) /\ n <= 1000000 /\ (zeh n get).flatten.length <= 1000000
 | .nils => True
 | _ => False
theorem zpa (l : List (List UInt8)) : Lib.join l [] = l.flatten := by
 unfold Lib.join
 induction l with
 | nil => rfl
 | cons x l ih =>
   cases l with
   | nil => simp
   | cons y l => rw [List.intercalate_cons_cons, ih]; simp
def ztm (L : za9) : zcw := (94, fun xs => match xs with | [x, .str []] => some (L zfy x, .str (L znh x)) | _ => none)
theorem zp9 : zdd Tryz.prog (ztm std) := by
 intro xs p r h hp
 dsimp only [ztm] at h |-
 split at h <;> cases h
 try simp only [L2, L3, std] at hp |-
 rename_i x
 have hp : zfy x := hp
 intro D w vs hD hxs hg
 obtain ⟨a, b, rfl, rx, ry⟩ := yno hxs
 obtain rfl := zwn ry
 unfold ze5
 rw [zbx (fn := Tryz.f94) rfl (by kernel_rfl) rfl]
 have fin : ∀ (l : List UInt8), l = znh x -> (∀ w', Below w.heap.size w w' -> ∃ v D', Ending.returned (.string ⟨l.toArray⟩) = .returned v /\ Below w.heap.size w w' /\ (∀ b, D b -> D' b) /\ (∀ b, D' b -> D b \/ (w.heap.size <= b /\ b < w'.heap.size)) /\ R w'.heap D' zap (.str (znh x)) v) := by
   rintro l rfl w' hw
   exact ⟨_, D, rfl, hw, fun _ h => h, fun b hb => .inl hb, zwm _ _ _ _⟩
 have none_ : znh x = [] -> ∀ (a : Option Addr) (c : Nat), Calls Tryz.prog 94 #[.slice a 0 c, .string ⟨#[]⟩] w fun e w' => ∃ v D', e = .returned v /\ Below w.heap.size w w' /\ (∀ b, D b -> D' b) /\ (∀ b, D' b -> D b \/ (w.heap.size <= b /\ b < w'.heap.size)) /\ R w'.heap D' zap (.str (znh x)) v := by
   intro h0 a c
   refine (Tryz.strings_Join_none a c ⟨#[]⟩ w).mono ?_
   rintro e w' ⟨rfl, rfl⟩
   exact fin [] h0.symm _ (Below.refl _ _)
 unfold zfy at hp
 split at hp
 · rename_i n get _
   obtain ⟨h1, h2, h3⟩ := hp
   cases rx with
   | lst0 => exact none_ rfl _ _
   | lst _ _ _ b o cap us hD0 hc hv h1' hr =>
     have hl : (zeh n get).length = n := by rw [zeh, List.length_map, List.length_range]
     have hq : ∀ j x, ((zeh n get).map (fun s : List UInt8 => (⟨s.toArray⟩ : ByteArray)))[j]? = some x -> w.cell? ⟨b, o + j, none⟩ = some (.string x) := by
       intro j x hj
       have hjn : j < n := by
         have := (List.getElem?_eq_some_iff.1 hj).1
         rw [List.length_map, hl] at this
         exact this
       obtain ⟨s, hs⟩ := h1 j hjn
       have r := hr j 0 hjn (by omega)
       rw [hs] at r
       have hv := hv j 0 hjn (by omega)
       rw [zwn r, Nat.mul_one, Nat.add_zero] at hv
       rw [zg4, hv]
       have e2 : (zeh n get)[j]? = some s := by rw [zeh, List.getElem?_map, List.getElem?_range hjn, Option.map_some, hs]; rfl
       rw [List.getElem?_map, e2] at hj
       cases hj
       rfl
     have hm : ((zeh n get).map (fun s : List UInt8 => (⟨s.toArray⟩ : ByteArray))).map (·.data.toList) = zeh n get := by
       rw [List.map_map]
       exact List.map_id' _
     have := Tryz.strings_Join b o cap ((zeh n get).map (fun s : List UInt8 => (⟨s.toArray⟩ : ByteArray))) ⟨#[]⟩ w hq (hD b hD0) (by rw [List.length_map, hl]; omega) (by rw [List.length_map, hl]; exact hc) (by rw [hm]; show (Lib.join _ []).length <= _; rw [zpa]; omega)
     rw [hm, List.length_map, hl] at this
     refine this.mono ?_
     rintro e w' ⟨rfl, hw⟩
     exact fin _ (by show Lib.join _ [] = _; rw [zpa]; rfl) _ hw
 · cases rx
   exact none_ rfl _ _
 · exact hp.elim
def yp1 (s : List UInt8) (c : Int) : List UInt8 := (List.replicate c.toNat s).flatten
theorem zxo (s : List UInt8) : ∀ c : Nat, Lib.repeatL s c = (List.replicate c s).flatten
 | 0 => rfl
 | c + 1 => by rw [Lib.repeatL, zxo s c, List.replicate_succ, List.flatten_cons]
def yhm (s : List UInt8) (c : Int) : Prop := 0 <= c /\ c <= 1000000 /\ s.length <= 1000000
def yhk (L : za9) : zcw := (110, fun xs => match xs with | [.str s, .int .i64 c] => some (L2 L yhm s c, .str (L2 L yp1 s c)) | _ => none)
theorem ycp : zdd Tryz.prog (yhk std) := by
 intro xs p r h hp
 dsimp only [yhk] at h |-
 split at h <;> cases h
 try simp only [L2, L3, std] at hp |-
 rename_i s c
 obtain ⟨h0, h1, h2⟩ : yhm s c := hp
 obtain ⟨k, rfl⟩ := zym h0
 refine ze4 (fn := Tryz.f110) rfl rfl (by kernel_rfl) (ynp (zjt _) (zh1 _ _)) (fun h D => zwm h D _ _) (fun w => ?_)
 have hs : (⟨s.toArray⟩ : ByteArray).size = s.length := by show s.toArray.size = s.length; simp
 have := Tryz.strings_Repeat ⟨s.toArray⟩ k w (by omega) (by
   rw [hs]
   have : s.length * k <= 1000000 * 1000000 := Nat.mul_le_mul h2 (by omega)
   omega)
 refine this.mono ?_
 rintro e w' ⟨rfl, hw⟩
 refine ⟨?_, hw⟩
 show Ending.returned (.string ⟨(Lib.repeatL s k).toArray⟩) = _
 rw [zxo]; rfl
def zy7 (s : List UInt8) : List UInt8 := s ++ [128] ++ List.replicate ((64 - (s.length + 9) % 64) % 64) 0 ++ zxw (s.length * 8) 8
theorem zxn (n : Nat) : (List.replicate n [(0 : UInt8)]).flatten = List.replicate n 0 := by
 induction n with
 | zero => rfl
 | succ n ih => rw [List.replicate_succ, List.flatten_cons, ih, List.replicate_succ]; rfl
theorem zk1 (e n : Int) (h0 : 0 <= n) (h8 : n <= 8) : (zxw e n).length = n.toNat := by
 rw [zxw, zk2]
 unfold cl8
 omega
theorem yp7 (n : Nat) (h : n <= 1000000) : ((64 - ((((n : Int) + 1 + 9223372036854775808) % 18446744073709551616 - 9223372036854775808 + 8 + 9223372036854775808) % 18446744073709551616 - 9223372036854775808).tmod 64 + 9223372036854775808) % 18446744073709551616 - 9223372036854775808).tmod 64 = (((64 - (n + 9) % 64) % 64 : Nat) : Int) := by
 have h1 : ((((n : Int) + 1 + 9223372036854775808) % 18446744073709551616 - 9223372036854775808 + 8 + 9223372036854775808) % 18446744073709551616 - 9223372036854775808) = ((n + 9 : Nat) : Int) := by omega
 rw [h1, Int.tmod_eq_emod_of_nonneg (a := ((n + 9 : Nat) : Int)) (by omega)]
 have h2 : (64 - ((n + 9 : Nat) : Int) % 64 + 9223372036854775808) % 18446744073709551616 - 9223372036854775808 = ((64 - (n + 9) % 64 : Nat) : Int) := by omega
 rw [h2, Int.tmod_eq_emod_of_nonneg (by omega)]
 omega
theorem yhl {k : Nat} (h : k < 64) : yhm [0] (k : Int) := ⟨Int.natCast_nonneg _, by omega, by decide⟩
theorem len8 (n : Nat) (h : n <= 1000000) : (n : Int) % 18446744073709551616 * 8 % 18446744073709551616 = (n : Int) * 8 := by omega
def zml (L : za9) : zcw := (93, fun xs => match xs with | [.str s] => some (L2 L upto 1000000 s, .str (L zy7 s)) | _ => none)
theorem zli : zdd Tryz.prog (zml std) := by
 intro xs p r h hp
 dsimp only [zml] at h |-
 split at h <;> cases h
 try simp only [L2, L3, std] at hp |-
 rename_i s
 refine zaa (T := tt) (S := fun L => zbf [yhk L, zuv L]) (lo := noA) (lb := noA) 5 (fn := Tryz.f93) rfl rfl (by kernel_rfl) (by kernel_rfl) rfl zae (za7 ⟨ycp, zj4, trivial⟩) (by kernel_rfl) ?_
 have hl : s.length <= 1000000 := hp
 have hpn := yp7 s.length hl
 have hl8 := len8 s.length hl
 (intro L P1 Q1 hL hP hQ; cbv; subst hL; simp only [L2, L3, std, syT]; subst hQ)
 (simp only [syS, reduceCtorEq, Int.reduceToNat, Int.reduceAdd, Int.reduceSub])
 rw [hpn, hl8]
 have hz : zy7 s = s ++ [128] ++ List.replicate ((64 - (s.length + 9) % 64) % 64) 0 ++ zxw (s.length * 8) 8 := rfl
 rw [hz]
 have hk : (64 - (s.length + 9) % 64) % 64 < 64 := Nat.mod_lt _ (by decide)
 generalize (64 - (s.length + 9) % 64) % 64 = k at hk |-
 have hr : yp1 [0] (k : Int) = List.replicate k 0 := by
   rw [yp1, Int.toNat_natCast, zxn]
 rw [hr]
 have hput := zk1 ((s.length : Int) * 8) 8 (by decide) (by decide)
 simp only [List.length_append, List.length_replicate, List.length_cons, List.length_nil, hput]
 refine ⟨by omega, by decide, by decide, yhl hk, by omega, ⟨by omega, by omega, by decide, by decide⟩, by omega, trivial⟩
def yo3 (s : List UInt8) : Nat := (64 - (s.length + 9) % 64) % 64
def zir (n : Nat) : List Int := zm8.take n
def frA (L : za9) : Nat -> St -> Option Ann := fun id st => match id with
 | 0 => some ⟨Nat, fun n => [(5, .int .i64 (L zab n))], fun n => [(1, .row 143 1 8 (fun i _ => .int .u32 (L2 L za1 (L zir n) i)))], [0, 1, 4], [0], fun n => L (fun n : Nat => n <= 8) n, fun n => L (fun n : Nat => 8 - n) n⟩
 | _ => none
def w8 (g : Nat -> AV) : AV := .agg [g 0, g 1, g 2, g 3, g 4, g 5, g 6, g 7]
theorem yel : ∀ n : _root_.Fin 8, zfx (za1 [2, 3, 5, 7, 11, 13, 17, 19] n.val) false = za1 zm8 n.val := by decide +kernel
theorem ya2 {n n' i : Nat} (hn : n' = n + 1) (h : n < 8) (hi : i < 8) : over std n 0 1 [.int .u32 (zfx (za1 [2, 3, 5, 7, 11, 13, 17, 19] n) false)] (fun i x => .int .u32 (za1 (zir n) i)) i 0 = .int .u32 (za1 (zir n') i) := by
 rw [zg9, if_pos ⟨Nat.le_refl _, by omega⟩, yel ⟨n, h⟩]
 subst hn
 have hl : zm8.length = 8 := rfl
 by_cases hi2 : i = n
 · subst hi2
   rw [za5]
   show AV.int .u32 (za1 zm8 i) = _
   rw [zir, za1, za1, List.getD_eq_getElem?_getD, List.getD_eq_getElem?_getD, List.getElem?_take_of_lt (by omega)]
 · rw [zai hi2]
   show AV.int .u32 (za1 (zir n) i) = _
   congr 1
   rw [zir, zir, za1, za1, List.getD_eq_getElem?_getD, List.getD_eq_getElem?_getD]
   by_cases hlt : i < n
   · rw [List.getElem?_take_of_lt hlt, List.getElem?_take_of_lt (by omega)]
   · rw [List.getElem?_eq_none (by rw [List.length_take]; omega), List.getElem?_eq_none (by rw [List.length_take]; omega)]
def znn (L : za9) : zcw := (95, fun xs => match xs with | [] => some (True, w8 fun i => .int .u32 (L2 L za1 zm8 i)) | _ => none)
theorem zm7 : zdd Tryz.prog (znn std) := by
 intro xs p r h hp
 dsimp only [znn] at h |-
 split at h <;> cases h
 try simp only [L2, L3, std] at hp |-
 refine zaa (T := tt) (S := fun L => zbf [zn9 L]) (lo := frA) (lb := noA) 5 (fn := Tryz.f95) rfl rfl (by kernel_rfl) (by kernel_rfl) rfl zae (za7 ⟨zlx, trivial⟩) (by kernel_rfl) ?_
 intro L P' Q' hL hP hQ
 (cbv; try simp only [syT, true_and, and_true])
 refine ⟨⟨0, ?_⟩, fun n hn => ?_⟩
 · (cbv; try simp only [syT, true_and, and_true])
   (subst hL; subst hQ; simp only [L2, L3, std] at *; try simp only [syS, reduceCtorEq, Int.reduceToNat, Int.reduceAdd, Int.reduceSub] at *)
   exact ⟨fun i j hi hj => by
     have : j = 0 := by omega
     subst this
     simp [zir, za1]; rfl, by omega⟩
 · obtain ⟨n', hn'⟩ : ∃ n' : Nat, n' = n + 1 := ⟨_, rfl⟩
   (cbv; try simp only [syT, true_and, and_true])
   refine ⟨fun h1 => ⟨?_, ?_, n', ?_⟩, fun h1 => ?_⟩
   · (subst hL; subst hQ; simp only [L2, L3, std] at *; try simp only [syS, reduceCtorEq, Int.reduceToNat, Int.reduceAdd, Int.reduceSub] at *)
     omega
   · (subst hL; subst hQ; simp only [L2, L3, std] at *; try simp only [syS, reduceCtorEq, Int.reduceToNat, Int.reduceAdd, Int.reduceSub] at *)
     omega
   · (cbv; try simp only [syT, true_and, and_true])
     (subst hL; subst hQ; simp only [L2, L3, std] at *; try simp only [syS, reduceCtorEq, Int.reduceToNat, Int.reduceAdd, Int.reduceSub] at *)
     have h1 : n < 8 := by omega
     refine ⟨fun i j hi hj => ?_, by omega, by omega, by omega⟩
     have : j = 0 := by omega
     subst this
     exact ya2 hn' h1 hi
   · unfold w8 at hQ
     (subst hL; subst hQ; simp only [L2, L3, std] at *; try simp only [syS, reduceCtorEq, Int.reduceToNat, Int.reduceAdd, Int.reduceSub] at *)
     have : n = 8 := by omega
     subst this
     exact ⟨rfl, rfl, rfl, rfl, rfl, rfl, rfl, rfl⟩
def rlS (k : Int) : Int := zw4 .u64 (IntKind.u64.wrap k) 31
def rlZ (x k : Int) : Int := bor .u32 (ybn .u32 x (rlS k)) (zmh .u32 x (zrx .u64 32 (rlS k)))
def yow (L : za9) : zcw := (124, fun xs => match xs with | [.int .u32 x, .int .i64 k] => some (True, .int .u32 (L2 L rlZ x k)) | _ => none)
theorem zgp (a : Int) : 0 <= IntKind.u64.wrap a := Int.emod_nonneg _ (by decide)
theorem zuq (k : Int) : 0 <= rlS k := zgp _
theorem yhj : zdd Tryz.prog (yow std) := by
 intro xs p r h hp
 dsimp only [yow] at h |-
 split at h <;> cases h
 try simp only [L2, L3, std] at hp |-
 rename_i x k
 refine zaa (T := tt) (S := noS) (lo := noA) (lb := noA) 5 (fn := Tryz.f124) rfl rfl (by kernel_rfl) (by kernel_rfl) rfl zae (zdx _) (by kernel_rfl) ?_
 (intro L P1 Q1 hL hP hQ; cbv; subst hL; simp only [L2, L3, std, syT]; subst hQ)
 refine ⟨decide_eq_true (zuq k), decide_eq_true (zgp _), ?_⟩
 rw [zgf]
 rfl
def rotZ (x a b c : Int) (sh : Bool) : Int := yew .u32 (yew .u32 (rlZ x (zrx .i64 0 a)) (rlZ x (zrx .i64 0 b))) (if sh then zmh .u32 x c else rlZ x (zrx .i64 0 c))
def yli (t : Int × Int × Int × Int × Bool) : Int := rotZ t.1 t.2.1 t.2.2.1 t.2.2.2.1 t.2.2.2.2
def yhi (L : za9) : zcw := (115, fun xs => match xs with | [.int .u32 x, .int .i64 a, .int .i64 b, .int .i64 c, .bool sh] => some (L (fun c : Int => 0 <= c) c, .int .u32 (L yli (x, a, b, c, sh))) | _ => none)
theorem ycn : zdd Tryz.prog (yhi std) := by
 intro xs p r h hp
 dsimp only [yhi] at h |-
 split at h <;> cases h
 try simp only [L2, L3, std] at hp |-
 rename_i x a b c sh
 have hc : 0 <= c := hp
 refine zaa (T := tt) (S := fun L => zbf [yow L]) (lo := noA) (lb := noA) 5 (fn := Tryz.f115) rfl rfl (by kernel_rfl) (by kernel_rfl) rfl zae (za7 ⟨yhj, trivial⟩) (by kernel_rfl) ?_
 (intro L P1 Q1 hL hP hQ; cbv; subst hL; simp only [L2, L3, std, syT]; subst hQ)
 refine ⟨trivial, fun h => ⟨decide_eq_true hc, trivial, trivial, ?_⟩, fun h => ⟨trivial, trivial, ?_⟩⟩
 · rw [zgf]
   subst h; rfl
 · rw [zgf]
   subst h; rfl
def zw8 (s : List UInt8) (n : Int) : Int := IntKind.u32.wrap (getZ (ykj s (zjq .i64 4 n) (zce .i64 (zjq .i64 4 n) 4)))
def yd4 (l : List Int) (n : Nat) : Int := zce .u32 (zce .u32 (zce .u32 (za1 l (n - 16)) (yli (za1 l (n - 15), 7, 18, 3, true))) (za1 l (n - 7))) (yli (za1 l (n - 2), 17, 19, 10, true))
def wN (s : List UInt8) : Nat -> List Int
 | 0 => []
 | n + 1 => wN s n ++ [if n < 16 then zw8 s n else yd4 (wN s n) n]
def zwo (v : List Int) (k w : Int) : Int := zce .u32 (zce .u32 (zce .u32 (zce .u32 (za1 v 7) (yli (za1 v 4, 6, 11, 25, false))) (bor .u32 (zw4 .u32 (za1 v 4) (za1 v 5)) (zw4 .u32 (yew .u32 4294967295 (za1 v 4)) (za1 v 6)))) k) w
def yh0 (v : List Int) : Int := zce .u32 (yli (za1 v 0, 2, 13, 22, false)) (bor .u32 (zw4 .u32 (za1 v 0) (za1 v 1)) (zw4 .u32 (za1 v 2) (bor .u32 (za1 v 0) (za1 v 1))))
def yc6 (v : List Int) (k w : Int) : List Int :=
 [zce .u32 (zwo v k w) (yh0 v), za1 v 0, za1 v 1, za1 v 2, zce .u32 (za1 v 3) (zwo v k w), za1 v 4, za1 v 5, za1 v 6]
def vN (w h : List Int) : Nat -> List Int
 | 0 => h
 | n + 1 => yc6 (vN w h n) (za1 zp8 n) (za1 w n)
def vS (s : List UInt8) (h : List Int) (n : Nat) : List Int := vN (wN s 64) h n
def hN (h v : List Int) (n : Nat) : List Int := (List.range 8).map fun i => if i < n then zce .u32 (za1 h i) (za1 v i) else za1 h i
def hS (s : List UInt8) (h : List Int) (n : Nat) : List Int := hN h (vS s h 64) n
def yo4 (h : List Int) (s : List UInt8) : List Int := hS s h 8
theorem zwe (s : List UInt8) : ∀ n, (wN s n).length = n
 | 0 => rfl
 | n + 1 => by rw [wN, List.length_append, zwe s n]; rfl
theorem yd1 {l : List Int} {v : Int} (i : Nat) : za1 (l ++ [v]) i = if i = l.length then v else za1 l i := by
 rw [za1, za1, List.getD_eq_getElem?_getD, List.getD_eq_getElem?_getD]
 by_cases h : i < l.length
 · rw [List.getElem?_append_left h, if_neg (by omega)]
 · rw [List.getElem?_append_right (by omega)]
   by_cases h2 : i = l.length
   · rw [if_pos h2, h2, Nat.sub_self]; rfl
   · rw [if_neg h2, List.getElem?_eq_none (by simp; omega), List.getElem?_eq_none (by omega)]
theorem ybb {l : List Int} {n : Nat} (v : Int) (hl : l.length = n) (i : Nat) : over std n 0 1 [.int .u32 v] (fun i _ => .int .u32 (za1 l i)) i 0 = .int .u32 (za1 (l ++ [v]) i) := by
 rw [zg9, if_pos ⟨Nat.le_refl _, by omega⟩, yd1, hl]
 by_cases hi2 : i = n
 · rw [if_pos hi2, hi2, za5]; rfl
 · rw [if_neg hi2, zai hi2]; rfl
theorem yok {s : List UInt8} {n n' : Nat} (h : n' = n + 1) (h2 : n < 16) : wN s n' = wN s n ++ [zw8 s n] := by
 subst h; rw [wN, if_pos h2]
theorem yol {s : List UInt8} {n n' : Nat} (h : n' = n + 1) (h2 : ¬ n < 16) : wN s n' = wN s n ++ [yd4 (wN s n) n] := by
 subst h; rw [wN, if_neg h2]
def mixA (L : za9) (h : List Int) (s : List UInt8) : Nat -> St -> Option Ann := fun id st => match id with
 | 0 => some ⟨Nat, fun n => [(17, .int .i64 (L zab n))], fun n => [(7, .row 145 1 64 (fun i _ => .int .u32 (L2 L za1 (L2 L wN s n) i)))], [1, 2, 3, 6, 7], [3, 6], fun n => L (fun n : Nat => n <= 16) n, fun n => L (fun n : Nat => 16 - n) n⟩
 | 2 => some ⟨Nat, fun n => [(11, .int .i64 (L zab n))], fun n => [(7, .row 145 1 64 (fun i _ => .int .u32 (L2 L za1 (L2 L wN s n) i)))], [1, 2, 3, 6, 7], [3, 6], fun n => L (fun n : Nat => 16 <= n /\ n <= 64) n, fun n => L (fun n : Nat => 64 - n) n⟩
 | 4 => some ⟨Nat, fun n => [(64, .int .i64 (L zab n))], fun n => [(12, .row 143 1 8 (fun i _ => .int .u32 (L2 L za1 (L3 L vS s h n) i)))], [1, 2, 3, 6, 7, 12], [3, 6, 7], fun n => L (fun n : Nat => n <= 64) n, fun n => L (fun n : Nat => 64 - n) n⟩
 | 6 => some ⟨Nat, fun n => [(127, .int .i64 (L zab n))], fun n => [(3, .row 143 1 8 (fun i _ => .int .u32 (L2 L za1 (L3 L hS s h n) i)))], [3, 6, 12], [6, 12], fun n => L (fun n : Nat => n <= 8) n, fun n => L (fun n : Nat => 8 - n) n⟩
 | _ => none
def ymi (n : Nat) (g : Nat -> AV) : Prop := n = 64 /\ ∀ j, j < 64 -> g j = .int .u32 (za1 zp8 j)
def ypg (x : List Int × List UInt8) : List Int := yo4 x.1 x.2
def w8L (L : za9) (l : List Int) : AV := .agg [.int .u32 (L2 L za1 l 0), .int .u32 (L2 L za1 l 1), .int .u32 (L2 L za1 l 2), .int .u32 (L2 L za1 l 3), .int .u32 (L2 L za1 l 4), .int .u32 (L2 L za1 l 5), .int .u32 (L2 L za1 l 6), .int .u32 (L2 L za1 l 7)]
def yda (L : za9) : zcw := (97, fun xs => match xs with
 | [.agg [.int .u32 a0, .int .u32 a1, .int .u32 a2, .int .u32 a3, .int .u32 a4, .int .u32 a5, .int .u32 a6, .int .u32 a7], .iptr n g, .str s] => some (L2 L ymi n g /\ L (fun s : List UInt8 => s.length = 64) s, w8L L (L ypg ([a0, a1, a2, a3, a4, a5, a6, a7], s)))
 | _ => none)
theorem yp0 {h : Array Obj} {D : Nat -> Prop} {μ : Mu} {a x y : AV} {r : List AV} {vs : Array Value} (e : ∀ v, R h D μ x v -> R h D μ y v) (hr : RL h D μ (a :: x :: r) vs) : RL h D μ (a :: y :: r) vs := by
 refine ⟨by rw [<- hr.1]; rfl, fun i z v hz hv => ?_⟩
 match i, hz with
 | 0, hz => exact hr.2 0 z v hz hv
 | 1, hz => cases hz; exact e v (hr.2 1 x v rfl hv)
 | i + 2, hz => exact hr.2 (i + 2) z v hz hv
theorem yf0 {P : Program} {f : FuncId} {xs ys : List AV} {r : AV} (h : ∀ h D vs, RL h D zap xs vs -> RL h D zap ys vs) (ha : zac P f ys r) : zac P f xs r := fun D w vs hD hx => ha D w vs hD (h _ _ _ hx)
theorem zzh {h : Array Obj} {D : Nat -> Prop} {μ : Mu} {n : Nat} {g g' : Nat -> AV} {v : Value} (r : R h D μ (.iptr n g) v) (e : ∀ j, j < n -> g j = g' j) : R h D μ (.iptr n g') v := by
 cases r with
 | iptr _ _ b o vs hD hv h1 hr => exact .iptr n g' b o vs hD hv h1 (fun j hj => by rw [<- e j hj]; exact hr j hj)
theorem zi5 {n n' : Nat} (h : n' = n + 1) (h2 : n < 1000) : zce .i64 (zab n) 1 = zab n' := by
 subst h; unfold zab; rw [zce, zdj]; omega
theorem zn1 {n k : Nat} {c : Int} (hc : c = (k : Int)) (h : k <= n) (h2 : n < 1000) : (zrx .i64 (zab n) c).toNat = n - k := by
 subst hc; unfold zab; rw [zrx, zdj]; omega
theorem zad {n k : Nat} (h : ilt (zab n) (zab k) = true) : n < k := by
 have := of_decide_eq_true h
 unfold zab at this; omega
theorem zd6 {n k : Nat} (h : ilt (zab n) (zab k) = false) : ¬ n < k := by
 have := of_decide_eq_false h
 unfold zab at this; omega
theorem zd8 {n k : Nat} (h : n < k) : inR (zab n) (zab k) = true := by rw [zpb]; exact ⟨Int.natCast_nonneg _, by unfold zab; omega⟩
theorem zpj {n : Nat} (h : n < 1000) : zjq .i64 4 (zab n) = ((4 * n : Nat) : Int) /\ zce .i64 (zjq .i64 4 (zab n)) 4 = ((4 * n + 4 : Nat) : Int) := by
 have e : zjq .i64 4 (zab n) = ((4 * n : Nat) : Int) := by rw [zjq, zdj, zab]; omega
 rw [e]
 refine ⟨rfl, ?_⟩
 rw [zce, zdj]; omega
theorem w_in {s : List UInt8} {n : Nat} (h : n < 16) (hs : s.length = 64) : inS (zjq .i64 4 (zab n)) (zce .i64 (zjq .i64 4 (zab n)) 4) (slen s) = true := by
 obtain ⟨e1, e2⟩ := zpj (n := n) (by omega)
 rw [e2, e1, slen, hs, ymm]
 exact ⟨by omega, by omega, by omega⟩
theorem yoj {s : List UInt8} {n : Nat} (h : n < 16) (hs : s.length = 64) : yee (ykj s (zjq .i64 4 (zab n)) (zce .i64 (zjq .i64 4 (zab n)) 4)) := by
 obtain ⟨e1, e2⟩ := zpj (n := n) (by omega)
 rw [e2, e1, ykj, yee, List.length_drop, List.length_take, hs, Int.toNat_natCast, Int.toNat_natCast]
 omega
theorem znj {n k : Nat} {c : Int} (hc : c = (k : Int)) (h : k <= n) (h2 : n < 64) : inR (zrx .i64 (zab n) c) (zab 64) = true := by
 subst hc
 have e : zrx .i64 (zab n) (k : Int) = zab (n - k) := by unfold zab; rw [zrx, zdj]; omega
 rw [e]
 exact zd8 (by omega)
theorem yov {a0 a1 a2 a3 a4 a5 a6 a7 : Int} {i : Nat} {s : List UInt8} (hi : i < 8) : AV.int .u32 (za1 [za1 [a0, a1, a2, a3, a4, a5, a6, a7] 0, za1 [a0, a1, a2, a3, a4, a5, a6, a7] 1, za1 [a0, a1, a2, a3, a4, a5, a6, a7] 2, za1 [a0, a1, a2, a3, a4, a5, a6, a7] 3, za1 [a0, a1, a2, a3, a4, a5, a6, a7] 4, za1 [a0, a1, a2, a3, a4, a5, a6, a7] 5, za1 [a0, a1, a2, a3, a4, a5, a6, a7] 6, za1 [a0, a1, a2, a3, a4, a5, a6, a7] 7] i) = .int .u32 (za1 (vS s [a0, a1, a2, a3, a4, a5, a6, a7] 0) i) := rfl
theorem yc5 {v : List Int} {k w : Int} {i : Nat} (hi : i < 8) : over std 0 0 1 [.int .u32 (zce .u32 (zwo v k w) (yh0 v))] (over std 4 0 1 [.int .u32 (zce .u32 (za1 v 3) (zwo v k w))] (fun i _ => ziv std (zd0 1 7 i) (.int .u32 (za1 v (0 + (i - 1)))) (.int .u32 (za1 v i)))) i 0 = .int .u32 (za1 (yc6 v k w) i) := by
 unfold yc6
 generalize zwo v k w = x
 generalize yh0 v = y
 match i, hi with
 | 0, _ => rfl
 | 1, _ => rfl
 | 2, _ => rfl
 | 3, _ => rfl
 | 4, _ => rfl
 | 5, _ => rfl
 | 6, _ => rfl
 | 7, _ => rfl
theorem yec {h v : List Int} {n i : Nat} (hi : i < 8) : za1 (hN h v n) i = if i < n then zce .u32 (za1 h i) (za1 v i) else za1 h i := by
 rw [hN, za1, List.getD_eq_getElem?_getD, List.getElem?_map, List.getElem?_range hi]; rfl
theorem ymr {h v : List Int} {n n' i : Nat} (hn : n' = n + 1) (h8 : n < 8) (hi : i < 8) : over std n 0 1 [.int .u32 (zce .u32 (za1 (hN h v n) n) (za1 v n))] (fun i _ => .int .u32 (za1 (hN h v n) i)) i 0 = .int .u32 (za1 (hN h v n') i) := by
 subst hn
 rw [zg9, if_pos ⟨Nat.le_refl _, by omega⟩, yec hi, yec h8, yec hi, if_neg (Nat.lt_irrefl n)]
 by_cases hi2 : i = n
 · rw [hi2, za5, if_neg (Nat.lt_irrefl n), if_pos (Nat.lt_succ_self n)]; rfl
 · rw [zai hi2]
   by_cases hlt : i < n
   · rw [if_pos hlt, if_pos (by omega)]; rfl
   · rw [if_neg hlt, if_neg (by omega)]; rfl
theorem hN_0 {h v : List Int} {n i : Nat} (hn : n = 0) (hi : i < 8) : AV.int .u32 (za1 h i) = .int .u32 (za1 (hN h v n) i) := by
 rw [yec hi, hn, if_neg (Nat.not_lt_zero i)]
theorem ymy (m : List Int) : zfi (w8L std m) (.agg [.int .u32 (za1 [za1 m 0, za1 m 1, za1 m 2, za1 m 3, za1 m 4, za1 m 5, za1 m 6, za1 m 7] 0), .int .u32 (za1 [za1 m 0, za1 m 1, za1 m 2, za1 m 3, za1 m 4, za1 m 5, za1 m 6, za1 m 7] 1),
   .int .u32 (za1 [za1 m 0, za1 m 1, za1 m 2, za1 m 3, za1 m 4, za1 m 5, za1 m 6, za1 m 7] 2), .int .u32 (za1 [za1 m 0, za1 m 1, za1 m 2, za1 m 3, za1 m 4, za1 m 5, za1 m 6, za1 m 7] 3), .int .u32 (za1 [za1 m 0, za1 m 1, za1 m 2, za1 m 3, za1 m 4, za1 m 5, za1 m 6, za1 m 7] 4),
   .int .u32 (za1 [za1 m 0, za1 m 1, za1 m 2, za1 m 3, za1 m 4, za1 m 5, za1 m 6, za1 m 7] 5), .int .u32 (za1 [za1 m 0, za1 m 1, za1 m 2, za1 m 3, za1 m 4, za1 m 5, za1 m 6, za1 m 7] 6), .int .u32 (za1 [za1 m 0, za1 m 1, za1 m 2, za1 m 3, za1 m 4, za1 m 5, za1 m 6, za1 m 7] 7)]) := by
 unfold w8L
 simp only [sySet, L2, std]
 exact ⟨rfl, rfl, rfl, rfl, rfl, rfl, rfl, rfl, trivial⟩
theorem zsw : zdd Tryz.prog (yda std) := by
 intro xs p r h hp
 dsimp only [yda] at h |-
 split at h <;> cases h
 try simp only [L2, L3, std] at hp |-
 rename_i a0 a1 a2 a3 a4 a5 a6 a7 n g s
 obtain ⟨⟨hn, hg⟩, hs⟩ : ymi n g /\ s.length = 64 := hp
 subst hn
 obtain ⟨kf, hkf⟩ : ∃ kf : Nat -> Int, kf = za1 zp8 := ⟨_, rfl⟩
 obtain ⟨hl, hhl⟩ : ∃ l : List Int, l = [a0, a1, a2, a3, a4, a5, a6, a7] := ⟨_, rfl⟩
 rw [<- hkf] at hg
 refine yf0 (fun h D vs hr => yp0 (fun v r => zzh r hg) hr) ?_
 rw [<- hhl]
 clear hg g
 refine zaa (T := tt) (S := fun L => zbf [yj2 L, yhi L]) (lo := fun L => mixA L hl s) (lb := noA) 5 (fn := Tryz.f97) rfl rfl (by kernel_rfl) (by kernel_rfl) rfl zae (za7 ⟨yed, ycn, trivial⟩) (by kernel_rfl) ?_
 obtain ⟨n0, hn0⟩ : ∃ n : Nat, n = 0 := ⟨_, rfl⟩
 obtain ⟨n1, hn1⟩ : ∃ n : Nat, n = 16 := ⟨_, rfl⟩
 intro L P' Q' hL hP hQ
 (cbv; try simp only [syT, true_and, and_true])
 refine ⟨⟨n0, ?_⟩, fun n hn => ?_⟩
 · (cbv; try simp only [syT, true_and, and_true])
   subst hL; subst hQ
   refine ⟨fun _ _ _ _ => trivial, fun _ _ _ _ => trivial, fun i j hi hj => ?_, fun _ _ => trivial, ?_, ?_⟩
   · have : j = 0 := by omega
     subst this; subst hn0; rfl
   · subst hn0; rfl
   · subst hn0; exact Nat.zero_le _
 obtain ⟨n', hn'⟩ : ∃ n' : Nat, n' = n + 1 := ⟨_, rfl⟩
 (cbv; try simp only [syT, true_and, and_true])
 refine ⟨fun h1 => ⟨?_, ?_, ?_, n', ?_⟩, fun h1 => ⟨⟨n1, ?_⟩, fun m hm => ?_⟩⟩
 · subst hL
   exact w_in (zad h1) hs
 · subst hL
   exact yoj (zad h1) hs
 · subst hL
   have h16 : n < 16 := zad h1
   exact zd8 (by omega)
 · (cbv; try simp only [syT, true_and, and_true])
   subst hL; subst hQ
   have h16 : n < 16 := zad h1
   refine ⟨fun _ _ _ _ => trivial, fun _ _ _ _ => trivial, fun i j hi hj => ?_, fun _ _ => trivial, ?_, ?_, ?_⟩
   · have : j = 0 := by omega
     subst this
     rw [show L2 std wN s n' = wN s n ++ [zw8 s n] from yok hn' h16]
     exact ybb _ (zwe s n) i
   · exact zi5 hn' (by omega)
   · show n' <= 16
     omega
   · show 16 - n' + 1 <= 16 - n
     omega
 · (cbv; try simp only [syT, true_and, and_true])
   subst hL; subst hQ
   have h16 : n = n1 := by
     have hn : n <= 16 := hn
     have h2 : ¬ n < 16 := zd6 h1
     omega
   subst h16
   refine ⟨fun _ _ _ _ => trivial, fun _ _ _ _ => trivial, fun _ _ _ _ => rfl, fun _ _ => trivial, ?_, ?_⟩
   · subst hn1; rfl
   · subst hn1; exact ⟨Nat.le_refl _, by decide⟩
 clear h1 hn hn' n' hn0 n0
 obtain ⟨m', hm'⟩ : ∃ m' : Nat, m' = m + 1 := ⟨_, rfl⟩
 obtain ⟨k0, hk0⟩ : ∃ k : Nat, k = 0 := ⟨_, rfl⟩
 (cbv; try simp only [syT, true_and, and_true])
 refine ⟨fun h1 => ⟨?_, ?_, ?_, ?_, ?_, ?_, ?_, m', ?_⟩, fun h1 => ⟨⟨k0, ?_⟩, fun k hk => ?_⟩⟩
 · subst hL; exact znj (k := 16) rfl (Nat.le_trans (by decide) hm.1) (zad h1)
 · subst hL; exact znj (k := 15) rfl (Nat.le_trans (by decide) hm.1) (zad h1)
 · subst hL; show (0 : Int) <= 3; decide
 · subst hL; exact znj (k := 7) rfl (Nat.le_trans (by decide) hm.1) (zad h1)
 · subst hL; exact znj (k := 2) rfl (Nat.le_trans (by decide) hm.1) (zad h1)
 · subst hL; show (0 : Int) <= 10; decide
 · subst hL; exact zd8 (zad h1)
 · (cbv; try simp only [syT, true_and, and_true])
   subst hL; subst hQ
   have h64 : m < 64 := zad h1
   have h16 : 16 <= m := hm.1
   refine ⟨fun _ _ _ _ => trivial, fun _ _ _ _ => trivial, fun i j hi hj => ?_, fun _ _ => trivial, ?_, ?_, ?_⟩
   · have : j = 0 := by omega
     subst this
     rw [show L2 std wN s m' = wN s m ++ [yd4 (wN s m) m] from yol hm' (by omega)]
     rw [yd4, <- zn1 (n := m) (k := 16) (c := 16) rfl h16 (by omega), <- zn1 (n := m) (k := 15) (c := 15) rfl (by omega) (by omega), <- zn1 (n := m) (k := 7) (c := 7) rfl (by omega) (by omega), <- zn1 (n := m) (k := 2) (c := 2) rfl (by omega) (by omega)]
     exact ybb _ (zwe s m) i
   · exact zi5 hm' (by omega)
   · exact ⟨by omega, by omega⟩
   · show 64 - m' + 1 <= 64 - m
     omega
 · (cbv; try simp only [syT, true_and, and_true])
   subst hL; subst hQ
   refine ⟨fun _ _ _ _ => trivial, fun _ _ _ _ => trivial, fun _ _ _ _ => trivial, fun i j hi hj => ?_, fun _ _ => trivial, ?_, ?_⟩
   · subst hk0; subst hhl
     exact yov (s := s) hi
   · subst hk0; rfl
   · subst hk0; exact Nat.zero_le _
 have hm64 : m = 64 := by
   subst hL
   have : ¬ m < 64 := zd6 h1
   have : m <= 64 := hm.2
   omega
 subst hm64
 clear h1 hm hm' m' hk0 k0
 obtain ⟨k', hk'⟩ : ∃ k' : Nat, k' = k + 1 := ⟨_, rfl⟩
 obtain ⟨q0, hq0⟩ : ∃ q : Nat, q = 0 := ⟨_, rfl⟩
 (cbv; try simp only [syT, true_and, and_true])
 refine ⟨fun h1 => ⟨?_, ?_, ?_, ?_, ?_, ?_, ?_, ?_, ?_, ?_, ?_, ?_, ?_, ?_, ?_, ?_, ?_, ?_, ?_, ?_, ?_, ?_, k', ?_⟩, fun h1 => ⟨⟨q0, ?_⟩, fun q hq => ?_⟩⟩
 · subst hL; rfl
 · subst hL; rfl
 · subst hL; show (0 : Int) <= 25; decide
 · subst hL; rfl
 · subst hL; rfl
 · subst hL; rfl
 · subst hL; rfl
 · subst hL; exact zd8 (zad h1)
 · subst hL; exact zd8 (zad h1)
 · subst hL; rfl
 · subst hL; show (0 : Int) <= 22; decide
 · subst hL; rfl
 · subst hL; rfl
 · subst hL; rfl
 · subst hL; rfl
 · subst hL; rfl
 · subst hL; rfl
 · subst hL; rfl
 · subst hL; rfl
 · subst hL; rfl
 · subst hL; rfl
 · subst hL; rfl
 · (cbv; try simp only [syT, true_and, and_true])
   subst hL; subst hQ
   have h64 : k < 64 := zad h1
   refine ⟨fun _ _ _ _ => trivial, fun _ _ _ _ => trivial, fun _ _ _ _ => trivial, fun i j hi hj => ?_, fun _ _ => trivial, ?_, ?_, ?_⟩
   · have : j = 0 := by omega
     subst this
     have e : vS s hl k' = yc6 (vS s hl k) (kf k) (za1 (wN s 64) k) := by subst hk'; subst hkf; rfl
     have ek : (zab k).toNat = k := Int.toNat_natCast k
     simp only [L2, L3, std, ek, e]
     clear e
     generalize vS s hl k = v
     generalize wN s 64 = w
     exact yc5 hi
   · exact zi5 hk' (by omega)
   · show k' <= 64
     omega
   · show 64 - k' + 1 <= 64 - k
     omega
 · (cbv; try simp only [syT, true_and, and_true])
   subst hL; subst hQ
   have hk64 : k = 64 := by
     have : ¬ k < 64 := zd6 h1
     have : k <= 64 := hk
     omega
   subst hk64
   refine ⟨fun _ _ _ _ => trivial, fun _ _ _ _ => trivial, fun i j hi hj => ?_, ?_, ?_⟩
   · exact hhl ▸ hN_0 hq0 hi
   · subst hq0; rfl
   · subst hq0; exact Nat.zero_le _
 have hk64 : k = 64 := by
   subst hL
   have : ¬ k < 64 := zd6 h1
   have : k <= 64 := hk
   omega
 subst hk64
 clear h1 hk hk' k' hq0 q0
 obtain ⟨q', hq'⟩ : ∃ q' : Nat, q' = q + 1 := ⟨_, rfl⟩
 (cbv; try simp only [syT, true_and, and_true])
 refine ⟨fun h1 => ⟨?_, ?_, ?_, q', ?_⟩, fun h1 => ?_⟩
 · subst hL; exact zd8 (zad h1)
 · subst hL; exact zd8 (zad h1)
 · subst hL; exact zd8 (zad h1)
 · (cbv; try simp only [syT, true_and, and_true])
   subst hL; subst hQ
   have h8 : q < 8 := zad h1
   refine ⟨fun _ _ _ _ => trivial, fun _ _ _ _ => trivial, fun i j hi hj => ?_, ?_, ?_, ?_⟩
   · have : j = 0 := by omega
     subst this
     have ek : (zab q).toNat = q := Int.toNat_natCast q
     simp only [L2, L3, std, ek, hS]
     exact ymr hq' h8 hi
   · exact zi5 hq' (by omega)
   · show q' <= 8
     omega
   · show 8 - q' + 1 <= 8 - q
     omega
 · subst hL; subst hQ
   have hq8 : q = 8 := by
     have : ¬ q < 8 := zd6 h1
     have : q <= 8 := hq
     omega
   subst hq8
   rw [show ypg (hl, s) = hS s hl 8 from rfl]
   simp only [std]
   generalize hS s hl 8 = m
   exact ymy m
def ynj (p : List UInt8) (n : Nat) : List UInt8 := (p.drop (64 * n)).take 64
def zo3 (p : List UInt8) : Nat -> List Int
 | 0 => zm8
 | n + 1 => yo4 (zo3 p n) (ynj p n)
def ybr (m : List Int) : Nat -> List UInt8
 | 0 => []
 | n + 1 => ybr m n ++ zxw (IntKind.u64.wrap (za1 m n)) 4
def yl8 (p : List UInt8) : List UInt8 := ybr (zo3 p (p.length / 64)) 8
def zhj (p : List UInt8) (n : Nat) : List UInt8 := p.drop (64 * n)
def yb8 (p : List UInt8) (n : Nat) : Prop := 64 * (n + 1) <= p.length
theorem zmx (m : List Int) : ∀ n, (ybr m n).length = 4 * n
 | 0 => rfl
 | n + 1 => by rw [ybr, List.length_append, zmx m n, zk1 _ _ (by decide) (by decide)]; show 4 * n + 4 = _; omega
theorem zs5 (p : List UInt8) : (yl8 p).length = 32 := zmx _ 8
theorem zj7 (s : List UInt8) : (zy7 s).length % 64 = 0 /\ 64 <= (zy7 s).length /\ (zy7 s).length = s.length + 9 + yo3 s := by
 have : (zy7 s).length = s.length + 9 + yo3 s := by
   rw [zy7, List.length_append, List.length_append, List.length_append, List.length_replicate, zk1 _ _ (by decide) (by decide)]
   show s.length + 1 + yo3 s + 8 = _
   omega
 rw [this]
 unfold yo3
 omega
def zu5 (x : AV) : List UInt8 := yl8 (zy7 (znh x))
def smB (L : za9) (p : List UInt8) : Nat -> St -> Option Ann := fun id st => match id with
 | 0 => some ⟨Nat, fun n => [(3, .str (L2 L zhj p n)), (4, .ref 4 0), (5, .ref 5 0)], fun n => [(5, .row 145 1 64 (fun i _ => .int .u32 (L2 L za1 zp8 i))), (4, .row 143 1 8 (fun i _ => .int .u32 (L2 L za1 (L2 L zo3 p n) i)))], [2, 700005], [2], fun n => L2 L yb8 p n, fun n => L2 L (fun (p : List UInt8) (n : Nat) => p.length - n) p n⟩
 | _ => none
def smA (L : za9) (m : List Int) : Nat -> St -> Option Ann := fun id st => match id with
 | 0 => some ⟨Nat, fun n => [(23, .int .i64 (L zab n)), (22, w8L L m)], fun n => [(6, .row 127 1 32 (fun i _ => .int .u8 (L2 L zat (L2 L ybr m n) i)))], [2, 6], [2], fun n => L (fun n : Nat => n <= 8) n, fun n => L (fun n : Nat => 8 - n) n⟩
 | _ => none
def yc3 (L : za9) : zcw := (81, fun xs => match xs with | [x] => some (L zfy x, .arr 32 (fun j => .int .u8 (L2 L zat (L zu5 x) j))) | _ => none)
theorem zjm {p : List UInt8} {k : Nat} (h : yb8 p k) : inC 64 (slen (zhj p k)) = true := by
 have h : 64 * (k + 1) <= p.length := h
 rw [inC, slen, zhj, List.length_drop, Bool.and_eq_true, decide_eq_true_eq, decide_eq_true_eq]
 omega
theorem yb6 {p : List UInt8} {k : Nat} (h : yb8 p k) : ((zhj p k).take (64 : Int).toNat).length = 64 := by
 have h : 64 * (k + 1) <= p.length := h
 rw [zhj, List.length_take, List.length_drop]
 show min 64 _ = _
 omega
theorem zjn {p : List UInt8} {k k' : Nat} (h : k' = k + 1) : (zhj p k).drop (64 : Int).toNat = zhj p k' := by
 subst h
 rw [zhj, zhj, List.drop_drop]; rfl
theorem ztx {p : List UInt8} {k k' : Nat} (hp : p.length % 64 = 0) (h : k' = k + 1) (hn : ¬ (zhj p k').length = 0) : yb8 p k' := by
 rw [zhj, List.length_drop] at hn
 show 64 * (k' + 1) <= p.length
 omega
theorem yb7 {p : List UInt8} {k k' : Nat} (hk : yb8 p k) (h : k' = k + 1) (hn : (zhj p k').length = 0) : k' = p.length / 64 := by
 have hk : 64 * (k + 1) <= p.length := hk
 rw [zhj, List.length_drop] at hn
 omega
theorem zre {l : List Int} (h : l.length = 8) : [za1 l 0, za1 l 1, za1 l 2, za1 l 3, za1 l 4, za1 l 5, za1 l 6, za1 l 7] = l := by
 match l, h with
 | [a, b, c, d, e, f, g, h], _ => rfl
theorem ydb (h : List Int) (s : List UInt8) : (yo4 h s).length = 8 := by
 rw [yo4, hS, hN, List.length_map, List.length_range]
theorem zf7 (p : List UInt8) : ∀ k, (zo3 p k).length = 8
 | 0 => rfl
 | k + 1 => ydb _ _
theorem zj2 {p : List UInt8} {k k' : Nat} (h : k' = k + 1) : ypg ([za1 (zo3 p k) 0, za1 (zo3 p k) 1, za1 (zo3 p k) 2, za1 (zo3 p k) 3, za1 (zo3 p k) 4, za1 (zo3 p k) 5, za1 (zo3 p k) 6, za1 (zo3 p k) 7], (zhj p k).take (64 : Int).toNat) = zo3 p k' := by
 rw [zre (zf7 p k)]
 subst h
 rfl
theorem yfc {l : List UInt8} (h : (!seq l []) = true) : ¬ l.length = 0 := by
 intro hl
 rw [List.eq_nil_of_length_eq_zero hl] at h
 exact absurd h (by decide)
theorem zws {l : List UInt8} (h : (!seq l []) = false) : l.length = 0 := by
 have : l = [] := by
   have h2 : seq l [] = true := by simpa using h
   simpa [seq] using h2
 rw [this]; rfl
theorem yfm {q : Nat} (h : q < 8) : inC (zjq .i64 4 (zab q)) (zab 32) = true := by
 rw [(zpj (n := q) (by omega)).1, yis]
 unfold zab
 omega
theorem zya (x : Int) : yct (IntKind.u64.wrap x) 4 := by
 refine ⟨zgp _, ?_, by decide, by decide⟩
 rw [zwd]; omega
theorem zsk {q : Nat} {x : Int} (h : q < 8) : zof (List.length (zxw x 4)) (Nat.sub 32 (Int.toNat (zjq .i64 4 (zab q)))) = true := by
 rw [(zpj (n := q) (by omega)).1, Int.toNat_natCast, zk1 _ _ (by decide) (by decide), zof, Bool.and_eq_true, zbl, zci]
 show 0 < 32 - 4 * q /\ 4 <= 32 - 4 * q
 omega
theorem zy9 {m : List Int} {q q' : Nat} (hq : q' = q + 1) (h8 : q < 8) (i : Nat) : ziv std (zd0 (Nat.add 0 (Int.toNat (zjq .i64 4 (zab q)))) (List.length (zxw (IntKind.u64.wrap (za1 m q)) 4)) i)
   (.int .u8 (zq7 (zxw (IntKind.u64.wrap (za1 m q)) 4) (zab (Nat.sub i (Nat.add 0 (Int.toNat (zjq .i64 4 (zab q)))))))) (.int .u8 (zat (ybr m q) i)) = .int .u8 (zat (ybr m q') i) := by
 subst hq
 rw [(zpj (n := q) (by omega)).1, Int.toNat_natCast, show Nat.add 0 (4 * q) = 4 * q from Nat.zero_add _, show ybr m (q + 1) = ybr m q ++ zxw (IntKind.u64.wrap (za1 m q)) 4 from rfl]
 have hl := zmx m q
 have hp := zk1 (IntKind.u64.wrap (za1 m q)) 4 (by decide) (by decide)
 generalize ybr m q = l at hl |-
 generalize zxw (IntKind.u64.wrap (za1 m q)) 4 = b at hp |-
 have hp : b.length = 4 := hp
 rw [hp, zd0]
 by_cases h1 : i < 4 * q
 · rw [show zbd (4 * q) i = false by rw [Bool.eq_false_iff, ne_eq, zci]; omega, zny (by omega)]; rfl
 · rw [show zbd (4 * q) i = true by rw [zci]; omega, znx (by omega), hl]
   by_cases h2 : i < 4 * q + 4
   · rw [zvk h2]
     show AV.int .u8 (zq7 b (zab (i - 4 * q))) = _
     rw [zq7, zab, Int.toNat_natCast]; rfl
   · rw [yk7 h2]
     show AV.int .u8 (zat l i) = _
     rw [zat, zat, List.getD_eq_getElem?_getD, List.getD_eq_getElem?_getD, List.getElem?_eq_none (by omega), List.getElem?_eq_none (by omega)]
theorem ygx {n : Nat} {get : Nat -> Nat -> AV} (hp : zfy (.lst 1 n get)) : zac Tryz.prog 81 [.lst 1 n get] (.arr 32 (fun j => .int .u8 (L2 std zat (std zu5 (.lst 1 n get)) j))) := by
 obtain ⟨p, hpp⟩ : ∃ p, p = zy7 (znh (.lst 1 n get)) := ⟨_, rfl⟩
 obtain ⟨m, hm⟩ : ∃ m, m = zo3 p (p.length / 64) := ⟨_, rfl⟩
 have hlen : p.length % 64 = 0 /\ 64 <= p.length := by rw [hpp]; exact ⟨(zj7 _).1, (zj7 _).2.1⟩
 refine zaa (T := tt) (S := fun L => zbf [ztm L, zml L, znn L, zti L, yda L, zuv L]) (lo := fun L => smA L m) (lb := fun L => smB L p) 5 (fn := Tryz.f81) rfl rfl (by kernel_rfl) (by kernel_rfl) rfl zae (za7 ⟨zp9, zli, zm7, zp7, zsw, zj4, trivial⟩) (by kernel_rfl) ?_
 obtain ⟨n0, hn0⟩ : ∃ n : Nat, n = 0 := ⟨_, rfl⟩
 intro L P' Q' hL hP hQ
 obtain ⟨q0, hq0⟩ : ∃ n : Nat, n = 0 := ⟨_, rfl⟩
 (cbv; try simp only [syT, true_and, and_true])
 refine ⟨fun k hk => ?_, ?_⟩
 · obtain ⟨k', hk'⟩ : ∃ k' : Nat, k' = k + 1 := ⟨_, rfl⟩
   (cbv; try simp only [syT, true_and, and_true])
   refine ⟨?_, ⟨⟨?_, ?_⟩, ?_, fun h1 => ⟨k', ?_⟩, fun h1 => ⟨⟨q0, ?_⟩, fun q hq => ?_⟩⟩⟩
   · subst hL; exact zjm hk
   · subst hL; exact ⟨rfl, fun j hj => rfl⟩
   · subst hL; exact yb6 hk
   · subst hL; exact zjm hk
   · (cbv; try simp only [syT, true_and, and_true])
     subst hL; subst hQ
     simp only [L2, std] at h1 |-
     rw [zjn hk'] at h1 |-
     rw [zj2 hk', zre (zf7 _ _)]
     refine ⟨fun _ _ _ _ => trivial, fun _ _ _ _ => rfl, fun _ _ _ _ => trivial, rfl, ztx hlen.1 hk' (yfc h1), ?_⟩
     have hk : 64 * (k + 1) <= p.length := hk
     show p.length - k' + 1 <= p.length - k
     omega
   · (cbv; try simp only [syT, true_and, and_true])
     subst hL; subst hQ
     simp only [L2, std] at h1 |-
     rw [zjn hk'] at h1
     rw [zj2 hk', zre (zf7 _ _)]
     have hm : m = zo3 p k' := by rw [hm, <- yb7 hk hk' (zws h1)]
     rw [<- hm]
     subst hq0
     refine ⟨fun _ _ _ _ => trivial, fun i j hi hj => ?_, rfl, rfl, rfl, rfl, rfl, rfl, rfl, rfl, rfl, by decide⟩
     have : j = 0 := by omega
     subst this; rfl
   · obtain ⟨q', hq'⟩ : ∃ q' : Nat, q' = q + 1 := ⟨_, rfl⟩
     have hm8 : m.length = 8 := by rw [hm]; exact zf7 _ _
     (cbv; try simp only [syT, true_and, and_true])
     refine ⟨fun h2 => ⟨?_, ?_, ?_, ?_, q', ?_⟩, fun h2 => ?_⟩
     · subst hL; exact zd8 (zad h2)
     · subst hL; exact yfm (zad h2)
     · subst hL; exact zya _
     · subst hL; exact zsk (zad h2)
     · (cbv; try simp only [syT, true_and, and_true])
       subst hL; subst hQ
       have h8 : q < 8 := zad h2
       have ek : (zab q).toNat = q := Int.toNat_natCast q
       simp only [L2, L3, std, ek]
       rw [zre hm8]
       refine ⟨fun _ _ _ _ => trivial, fun i j hi hj => zy9 hq' h8 i, ?_, ?_, ?_⟩
       · exact zi5 hq' (by omega)
       · show q' <= 8
         omega
       · show 8 - q' + 1 <= 8 - q
         omega
     · subst hL; subst hQ
       have hq8 : q = 8 := by
         have : ¬ q < 8 := zd6 h2
         have : q <= 8 := hq
         omega
       subst hq8
       rw [znm]
       intro j hj
       simp only [L2, std, zu5, yl8]
       rw [<- hpp, <- hm]
 · (cbv; try simp only [syT, true_and, and_true])
   refine ⟨?_, ?_, n0, ?_⟩
   · subst hL; exact hp
   · subst hL; exact hp.2.2
   · (cbv; try simp only [syT, true_and, and_true])
     subst hL; subst hQ
     refine ⟨fun _ _ _ _ => trivial, fun i j hi hj => ?_, fun _ _ _ _ => trivial, ?_, ?_⟩
     · subst hn0; rfl
     · subst hn0; exact hpp.symm
     · subst hn0
       show 64 * (0 + 1) <= p.length
       omega
theorem ygw (hp : zfy .nils) : zac Tryz.prog 81 [.nils] (.arr 32 (fun j => .int .u8 (L2 std zat (std zu5 .nils) j))) := by
 obtain ⟨p, hpp⟩ : ∃ p, p = zy7 (znh .nils) := ⟨_, rfl⟩
 obtain ⟨m, hm⟩ : ∃ m, m = zo3 p (p.length / 64) := ⟨_, rfl⟩
 have hlen : p.length % 64 = 0 /\ 64 <= p.length := by rw [hpp]; exact ⟨(zj7 _).1, (zj7 _).2.1⟩
 refine zaa (T := tt) (S := fun L => zbf [ztm L, zml L, znn L, zti L, yda L, zuv L]) (lo := fun L => smA L m) (lb := fun L => smB L p) 5 (fn := Tryz.f81) rfl rfl (by kernel_rfl) (by kernel_rfl) rfl zae (za7 ⟨zp9, zli, zm7, zp7, zsw, zj4, trivial⟩) (by kernel_rfl) ?_
 obtain ⟨n0, hn0⟩ : ∃ n : Nat, n = 0 := ⟨_, rfl⟩
 intro L P' Q' hL hP hQ
 obtain ⟨q0, hq0⟩ : ∃ n : Nat, n = 0 := ⟨_, rfl⟩
 (cbv; try simp only [syT, true_and, and_true])
 refine ⟨fun k hk => ?_, ?_⟩
 · obtain ⟨k', hk'⟩ : ∃ k' : Nat, k' = k + 1 := ⟨_, rfl⟩
   (cbv; try simp only [syT, true_and, and_true])
   refine ⟨?_, ⟨⟨?_, ?_⟩, ?_, fun h1 => ⟨k', ?_⟩, fun h1 => ⟨⟨q0, ?_⟩, fun q hq => ?_⟩⟩⟩
   · subst hL; exact zjm hk
   · subst hL; exact ⟨rfl, fun j hj => rfl⟩
   · subst hL; exact yb6 hk
   · subst hL; exact zjm hk
   · (cbv; try simp only [syT, true_and, and_true])
     subst hL; subst hQ
     simp only [L2, std] at h1 |-
     rw [zjn hk'] at h1 |-
     rw [zj2 hk', zre (zf7 _ _)]
     refine ⟨fun _ _ _ _ => trivial, fun _ _ _ _ => rfl, fun _ _ _ _ => trivial, rfl, ztx hlen.1 hk' (yfc h1), ?_⟩
     have hk : 64 * (k + 1) <= p.length := hk
     show p.length - k' + 1 <= p.length - k
     omega
   · (cbv; try simp only [syT, true_and, and_true])
     subst hL; subst hQ
     simp only [L2, std] at h1 |-
     rw [zjn hk'] at h1
     rw [zj2 hk', zre (zf7 _ _)]
     have hm : m = zo3 p k' := by rw [hm, <- yb7 hk hk' (zws h1)]
     rw [<- hm]
     subst hq0
     refine ⟨fun _ _ _ _ => trivial, fun i j hi hj => ?_, rfl, rfl, rfl, rfl, rfl, rfl, rfl, rfl, rfl, by decide⟩
     have : j = 0 := by omega
     subst this; rfl
   · obtain ⟨q', hq'⟩ : ∃ q' : Nat, q' = q + 1 := ⟨_, rfl⟩
     have hm8 : m.length = 8 := by rw [hm]; exact zf7 _ _
     (cbv; try simp only [syT, true_and, and_true])
     refine ⟨fun h2 => ⟨?_, ?_, ?_, ?_, q', ?_⟩, fun h2 => ?_⟩
     · subst hL; exact zd8 (zad h2)
     · subst hL; exact yfm (zad h2)
     · subst hL; exact zya _
     · subst hL; exact zsk (zad h2)
     · (cbv; try simp only [syT, true_and, and_true])
       subst hL; subst hQ
       have h8 : q < 8 := zad h2
       have ek : (zab q).toNat = q := Int.toNat_natCast q
       simp only [L2, L3, std, ek]
       rw [zre hm8]
       refine ⟨fun _ _ _ _ => trivial, fun i j hi hj => zy9 hq' h8 i, ?_, ?_, ?_⟩
       · exact zi5 hq' (by omega)
       · show q' <= 8
         omega
       · show 8 - q' + 1 <= 8 - q
         omega
     · subst hL; subst hQ
       have hq8 : q = 8 := by
         have : ¬ q < 8 := zd6 h2
         have : q <= 8 := hq
         omega
       subst hq8
       rw [znm]
       intro j hj
       simp only [L2, std, zu5, yl8]
       rw [<- hpp, <- hm]
 · (cbv; try simp only [syT, true_and, and_true])
   refine ⟨?_, ?_, n0, ?_⟩
   · subst hL; exact hp
   · subst hL; exact Nat.zero_le _
   · (cbv; try simp only [syT, true_and, and_true])
     subst hL; subst hQ
     refine ⟨fun _ _ _ _ => trivial, fun i j hi hj => ?_, fun _ _ _ _ => trivial, ?_, ?_⟩
     · subst hn0; rfl
     · subst hn0; exact hpp.symm
     · subst hn0
       show 64 * (0 + 1) <= p.length
       omega
theorem zm1 {x : AV} (hp : zfy x) : x = .nils \/ ∃ n get, x = .lst 1 n get := by
 unfold zfy at hp
 split at hp
 · exact .inr ⟨_, _, rfl⟩
 · exact .inl rfl
 · exact hp.elim
theorem zs4 : zdd Tryz.prog (yc3 std) := by
 intro xs p r h hp
 dsimp only [yc3] at h |-
 split at h <;> cases h
 try simp only [L2, L3, std] at hp |-
 rename_i x
 rcases zm1 hp with rfl | ⟨n, get, rfl⟩
 · exact ygw hp
 · exact ygx hp
def zs2 (L : za9) : zcw := (73, fun xs => match xs with | [x] => some (L zfy x, .str (L zu5 x)) | _ => none)
theorem zs6 (x : AV) : (zu5 x).length = 32 := zs5 _
theorem zs1 (x : AV) : bytesOf 32 (fun i => (AV.int .u8 (zat (zu5 x) (0 + i))).toI) = zu5 x := by
 have := zez (zu5 x)
 rw [zs6] at this
 simp only [Nat.zero_add]
 exact this
theorem zo7 : zdd Tryz.prog (zs2 std) := by
 intro xs p r h hp
 dsimp only [zs2] at h |-
 split at h <;> cases h
 try simp only [L2, L3, std] at hp |-
 rename_i x
 have hp : zfy x := hp
 rcases zm1 hp with rfl | ⟨n, get, rfl⟩
 · refine zaa (T := tt) (S := fun L => zbf [yc3 L]) (lo := noA) (lb := noA) 5 (fn := Tryz.f73) rfl rfl (by kernel_rfl) (by kernel_rfl) rfl zae (za7 ⟨zs4, trivial⟩) (by kernel_rfl) ?_
   (intro L P1 Q1 hL hP hQ; cbv; subst hL; simp only [L2, L3, std, syT]; subst hQ)
   refine ⟨hp, trivial, ⟨show 0 + 32 <= 32 by decide, fun i _ => ⟨_, rfl⟩⟩, ?_⟩
   rw [zs1, zje]
 · refine zaa (T := tt) (S := fun L => zbf [yc3 L]) (lo := noA) (lb := noA) 5 (fn := Tryz.f73) rfl rfl (by kernel_rfl) (by kernel_rfl) rfl zae (za7 ⟨zs4, trivial⟩) (by kernel_rfl) ?_
   (intro L P1 Q1 hL hP hQ; cbv; subst hL; simp only [L2, L3, std, syT]; subst hQ)
   refine ⟨hp, trivial, ⟨show 0 + 32 <= 32 by decide, fun i _ => ⟨_, rfl⟩⟩, ?_⟩
   rw [zs1, zje]
def zuw (s : List UInt8) : List UInt8 := yl8 (zy7 s)
theorem yc4 (s : List UInt8) : zu5 (.lst 1 1 fun i _ => .str (ym2 [s] (Nat.add 0 i))) = zuw s := by
 have e : znh (.lst 1 1 fun i _ => .str (ym2 [s] (Nat.add 0 i))) = s := by
   show s ++ [] = s
   exact List.append_nil s
 rw [zu5, e, zuw]
theorem ye3 (s : List UInt8) (h : s.length <= 1000000) : zfy (.lst 1 1 fun i _ => .str (ym2 [s] (Nat.add 0 i))) := by
 refine ⟨fun i _ => ⟨_, rfl⟩, by decide, ?_⟩
 show (s ++ []).length <= 1000000
 rw [List.append_nil]; exact h
theorem zj5 (s : List UInt8) : (zuw s).length = 32 := zs5 _
abbrev B32 (a : Int) : BitVec IntKind.u32.bits := BitVec.ofInt IntKind.u32.bits a
def n32 (b : BitVec IntKind.u32.bits) : Int := b.toNat
theorem yoh (b : BitVec IntKind.u32.bits) : IntKind.u32.wrap b.toNat = n32 b := by
 rw [yl0, n32]
 have : b.toNat < 2 ^ 32 := b.isLt
 omega
theorem yls (a b : Int) : bor .u32 a b = n32 (B32 a ||| B32 b) := yoh _
theorem or_comm (a b : Int) : bor .u32 a b = bor .u32 b a := by
 rw [yls, yls, BitVec.or_comm]
def hB (p : List UInt8) (a : Int) (n : Nat) : List Int := hS (ynj p (a.toNat / 64)) (zo3 p (a.toNat / 64)) n
theorem ynu : (zuw [97, 98, 99]).take 4 = [186, 120, 22, 191] := by decide +kernel
theorem zvq : zac Tryz.prog 74 [] (.bool true) := by
 refine zaa (T := tt) (S := fun L => zbf [tru 56, zs2 L, yht L]) (lo := noA) (lb := noA) 5 (fn := Tryz.f74) rfl rfl (by kernel_rfl) (by kernel_rfl) rfl zae (za7 ⟨zby zij, zo7, ycv, trivial⟩) (by kernel_rfl) ?_
 (intro L P1 Q1 hL hP hQ; cbv; subst hL; simp only [L2, L3, std, syT]; subst hQ)
 have e : zu5 (.lst 1 2 fun i _ => .str (ym2 [[97], [98, 99]] (Nat.add 0 i))) = zuw [97, 98, 99] := rfl
 have hb : ybq (zuw [97, 98, 99]) [186, 120, 22, 191] = true := by
   show (List.take 4 (zuw [97, 98, 99]) == [186, 120, 22, 191]) = true
   rw [ynu]; rfl
 rw [e, hb]
 refine ⟨trivial, fun _ => ⟨⟨?_, by decide, by decide⟩, ⟨?_, by decide⟩, fun _ => ⟨trivial, ?_⟩, fun h => by cases h⟩, fun h => by cases h⟩
 · intro i hi
   exact ⟨_, rfl⟩
 · rw [zj5]; decide
 · rw [zbv, slen, zs6]; rfl
theorem zll : ∀ (k n : Nat), n < 128 ^ (k + 1) -> (zdh n).length <= k + 1
 | 0, n, h => by rw [zbt (by omega)]; simp
 | k + 1, n, h => by
   by_cases h1 : n < 128
   · rw [zbt h1]; simp
   · rw [zg8 (by omega), List.length_cons]
     have := zll k (n / 128) (by rw [Nat.div_lt_iff_lt_mul (by omega)]; rw [Nat.pow_succ] at h; exact h)
     omega
theorem zlk {n : Int} (h : zeg n) : (zbb n).length <= 10 := zll 9 n.toNat (by
 have := h.2
 have := h.1
 rw [show (128 : Nat) ^ (9 + 1) = 1180591620717411303424 from by decide]
 omega)
def cb (s : List UInt8) (i : Nat) : Nat := (s.getD i 0).toNat
theorem yev (s : List UInt8) (i : Nat) : cb s i < 256 := UInt8.toNat_lt _
def lng (s : List UInt8) : Nat -> Nat -> Nat -> Nat × Nat × Nat
 | 0, _, _ => (0, 0, 4)
 | f + 1, i, n =>
   if s.length <= i then (0, 0, 3)
   else if i = 9 /\ 1 < cb s i then (0, 0, 4)
   else if 128 <= cb s i then lng s f (i + 1) (n + cb s i % 128 * 2 ^ (7 * i))
   else if 0 < cb s i \/ i = 0 then (n + cb s i % 128 * 2 ^ (7 * i), i + 1, 0)
   else (0, 0, 4)
def zqw (s : List UInt8) : Int := (lng s 10 0 0).1
def zqx (s : List UInt8) : Int := (lng s 10 0 0).2.1
def zvz (s : List UInt8) : Int := (lng s 10 0 0).2.2
def zha (s : List UInt8) (x : Nat × Nat) : Prop := x.1 <= s.length /\ x.1 <= 9 /\ x.2 < 2 ^ (7 * x.1) /\ lng s (10 - x.1) x.1 x.2 = lng s 10 0 0
theorem yk6 {n m i : Nat} (hn : n < 2 ^ i) (hm : m * 2 ^ i < 2 ^ 64) (hn' : n < 2 ^ 64) : bor .u64 (n : Int) ((m * 2 ^ i : Nat) : Int) = ((n + m * 2 ^ i : Nat) : Int) := by
 have e : n ||| m * 2 ^ i = n + m * 2 ^ i := by
   have := Nat.shiftLeft_add_eq_or_of_lt hn m
   rw [Nat.shiftLeft_eq] at this
   rw [Nat.or_comm, <- this, Nat.add_comm]
 have hlt : n ||| m * 2 ^ i < 2 ^ 64 := Nat.or_lt_two_pow hn' hm
 unfold bor
 rw [show IntKind.u64.bits = 64 from rfl, BitVec.ofInt_natCast, BitVec.ofInt_natCast, BitVec.toNat_or, BitVec.toNat_ofNat, BitVec.toNat_ofNat, Nat.mod_eq_of_lt hn', Nat.mod_eq_of_lt hm, zwd, <- e]
 omega
theorem yle {c i : Nat} (h : c * 2 ^ (7 * i) < 2 ^ 64) (hi : i <= 9) : ybn .u64 (c : Int) (7 * (i : Int)) = ((c * 2 ^ (7 * i) : Nat) : Int) := by
 unfold ybn
 rw [show (7 * (i : Int)).toNat = 7 * i by omega, show IntKind.u64.bits = 64 from rfl, Nat.min_eq_left (by omega), zwd]
 have e : ((c : Int) * 2 ^ (7 * i)) = ((c * 2 ^ (7 * i) : Nat) : Int) := by simp
 rw [e]
 omega
theorem pow9 {i : Nat} (hi : i <= 9) : 2 ^ (7 * i) <= 2 ^ 63 := Nat.pow_le_pow_right (by decide) (by omega)
theorem zn7 {c i n : Nat} (hi : i <= 9) (hn : n < 2 ^ (7 * i)) (hc : c < 256) (h9 : ¬ (i = 9 /\ 1 < c)) : n + c % 128 * 2 ^ (7 * i) < 2 ^ (7 * (i + 1)) /\ n + c % 128 * 2 ^ (7 * i) < 2 ^ 64 /\ c % 128 * 2 ^ (7 * i) < 2 ^ 64 /\ n < 2 ^ 64 := by
 have h1 := pow9 hi
 have e : 2 ^ (7 * (i + 1)) = 128 * 2 ^ (7 * i) := by rw [show 7 * (i + 1) = 7 + 7 * i by omega, Nat.pow_add]
 have h2 : c % 128 * 2 ^ (7 * i) <= 127 * 2 ^ (7 * i) := Nat.mul_le_mul_right _ (by omega)
 rw [e]
 refine ⟨by omega, ?_⟩
 by_cases h : i = 9
 · subst h
   have : c <= 1 := by omega
   have h3 : c % 128 * 2 ^ (7 * 9) <= 1 * 2 ^ (7 * 9) := Nat.mul_le_mul_right _ (by omega)
   omega
 · have h3 : 2 ^ (7 * i) <= 2 ^ 56 := Nat.pow_le_pow_right (by decide) (by omega)
   omega
theorem yma {c i n : Nat} (hi : i <= 9) (hn : n < 2 ^ (7 * i)) (hc : c < 256) (h9 : ¬ (i = 9 /\ 1 < c)) : bor .u64 (n : Int) (ybn .u64 ((c : Int) % 128) (7 * (i : Int))) = ((n + c % 128 * 2 ^ (7 * i) : Nat) : Int) := by
 obtain ⟨_, _, h3, h4⟩ := zn7 hi hn hc h9
 rw [show ((c : Int) % 128) = ((c % 128 : Nat) : Int) by omega, yle h3 hi, yk6 hn h3 h4]
theorem zh9 {s : List UInt8} {i n : Nat} (hx : zha s (i, n)) : lng s 10 0 0 = if s.length <= i then (0, 0, 3)
   else if i = 9 /\ 1 < cb s i then (0, 0, 4)
   else if 128 <= cb s i then lng s (9 - i) (i + 1) (n + cb s i % 128 * 2 ^ (7 * i))
   else if 0 < cb s i \/ i = 0 then (n + cb s i % 128 * 2 ^ (7 * i), i + 1, 0)
   else (0, 0, 4) := by
 obtain ⟨h1, h2, h3, h4⟩ := hx
 rw [<- h4]
 simp only at h2 |-
 rw [show 10 - i = (9 - i) + 1 by omega, lng]
theorem zt7 {s : List UInt8} {a b c : Nat} (h : lng s 10 0 0 = (a, b, c)) : (a : Int) = zqw s /\ (b : Int) = zqx s /\ (c : Int) = zvz s := by
 unfold zqw zqx zvz
 rw [h]
 exact ⟨rfl, rfl, rfl⟩
theorem ypj {s : List UInt8} {i n : Nat} (hx : zha s (i, n)) (h : (i : Int) = (s.length : Int)) : 0 = zqw s /\ 0 = zqx s /\ 3 = zvz s := by
 have := zh9 hx
 rw [if_pos (by omega)] at this
 exact zt7 this
theorem ziz (s : List UInt8) (i : Nat) : ((s.getD i 0).toNat : Int) % 18446744073709551616 = (cb s i : Int) := by
 have := yev s i
 unfold cb at *
 omega
theorem ypi {s : List UInt8} {i n : Nat} (hx : zha s (i, n)) (h : ¬ (i : Int) = (s.length : Int)) (h9 : (i : Int) = 9) (hc : 1 < ((s.getD i 0).toNat : Int) % 18446744073709551616) : 0 = zqw s /\ 0 = zqx s /\ 4 = zvz s := by
 have := zh9 hx
 have h1 := hx.1
 rw [ziz] at hc
 simp only at h1
 rw [if_neg (by omega), if_pos ⟨by omega, by omega⟩] at this
 exact zt7 this
theorem ym9 {s : List UInt8} {i n : Nat} (hx : zha s (i, n)) (h9 : ¬ (i = 9 /\ 1 < cb s i)) : bor .u64 (n : Int) (ybn .u64 ((((s.getD i 0).toNat : Int) % 18446744073709551616).tmod 128) ((7 * (i : Int) + 9223372036854775808) % 18446744073709551616 - 9223372036854775808)) = ((n + cb s i % 128 * 2 ^ (7 * i) : Nat) : Int) := by
 have h1 := hx.2.1
 have h2 := hx.2.2.1
 simp only at h1 h2
 rw [ziz, Int.tmod_eq_emod_of_nonneg (by omega), show (7 * (i : Int) + 9223372036854775808) % 18446744073709551616 - 9223372036854775808 = 7 * (i : Int) by omega]
 exact yma h1 h2 (yev s i) h9
theorem yph {s : List UInt8} {i n : Nat} (hx : zha s (i, n)) (h : ¬ (i : Int) = (s.length : Int)) (h9 : ¬ (i = 9 /\ 1 < cb s i)) (hm : 128 <= ((s.getD i 0).toNat : Int) % 18446744073709551616) : zha s (i + 1, n + cb s i % 128 * 2 ^ (7 * i)) /\ 10 - (i + 1) + 1 <= 10 - i /\ i <= 8 := by
 have h0 := zh9 hx
 have h1 := hx.2.1
 have h2 := hx.2.2.1
 have h3 := hx.1
 rw [ziz] at hm
 simp only at h1 h2 h3
 rw [if_neg (by omega), if_neg h9, if_pos (by omega)] at h0
 refine ⟨⟨?_, ?_, (zn7 h1 h2 (yev s i) h9).1, ?_⟩, by omega, by omega⟩
 · simp only; omega
 · simp only; omega
 · simp only
   rw [h0]; congr 1; omega
theorem ydl {s : List UInt8} {i n : Nat} (hx : zha s (i, n)) (h : ¬ (i : Int) = (s.length : Int)) (h9 : ¬ (i = 9 /\ 1 < cb s i)) (hm : ((s.getD i 0).toNat : Int) % 18446744073709551616 < 128) (hp : 0 < cb s i \/ i = 0) :
   bor .u64 (n : Int) (ybn .u64 ((((s.getD i 0).toNat : Int) % 18446744073709551616).tmod 128) ((7 * (i : Int) + 9223372036854775808) % 18446744073709551616 - 9223372036854775808)) = zqw s /\
     ((i : Int) + 1 + 9223372036854775808) % 18446744073709551616 - 9223372036854775808 = zqx s /\ 0 = zvz s := by
 have h0 := zh9 hx
 have h1 := hx.2.1
 have h3 := hx.1
 rw [ziz] at hm
 simp only at h1 h3
 rw [if_neg (by omega), if_neg h9, if_neg (by omega), if_pos hp] at h0
 obtain ⟨e1, e2, e3⟩ := zt7 h0
 rw [ym9 hx h9]
 exact ⟨e1, by rw [<- e2]; omega, e3⟩
theorem ymb {s : List UInt8} {i n : Nat} (hx : zha s (i, n)) (h : ¬ (i : Int) = (s.length : Int)) (h9 : ¬ (i = 9 /\ 1 < cb s i)) (hm : ((s.getD i 0).toNat : Int) % 18446744073709551616 < 128) (hp : ((s.getD i 0).toNat : Int) % 18446744073709551616 <= 0)
   (h1 : ¬ ((i : Int) + 1 + 9223372036854775808) % 18446744073709551616 - 9223372036854775808 = 1) : 0 = zqw s /\ 0 = zqx s /\ 4 = zvz s := by
 have h0 := zh9 hx
 have h2 := hx.2.1
 have h3 := hx.1
 rw [ziz] at hm hp
 simp only at h2 h3
 rw [if_neg (by omega), if_neg h9, if_neg (by omega), if_neg (by omega)] at h0
 exact zt7 h0
def lngA (L : za9) (s : List UInt8) : Nat -> St -> Option Ann := fun id st => match id with
 | 0 => some ⟨Nat × Nat, fun x => [(6, .int .i64 (L zab (L Prod.fst x))), (5, .int .u64 (L zab (L Prod.snd x)))], fun _ => [], [0], [],
     fun x => L2 L zha s x, fun x => L (fun x : Nat × Nat => 10 - x.1) x⟩
 | _ => none
def yia (L : za9) : zcw := (65, fun xs => match xs with | [.str s] => some (True, .tup [.int .u64 (L zqw s), .int .i64 (L zqx s), .int .i64 (L zvz s)]) | _ => none)
theorem ydk : zdd Tryz.prog (yia std) := by
 intro xs p r h hp
 dsimp only [yia] at h |-
 split at h <;> cases h
 try simp only [L2, L3, std] at hp |-
 rename_i s
 refine zaa (T := tt) (S := noS) (lo := noA) (lb := fun L => lngA L s) 5 (fn := Tryz.f65) rfl rfl (by kernel_rfl) (by kernel_rfl) rfl zae (zdx _) (by kernel_rfl) ?_
 intro L P' Q' hL hP hQ
 (cbv; try simp only [syT, true_and, and_true])
 refine ⟨fun x hx => ?_, ⟨(0, 0), ?_⟩⟩
 · cbv at hx
   obtain ⟨i, n⟩ := x
   (cbv; try simp only [syT, true_and, and_true])
   obtain ⟨m, hm'⟩ : ∃ m, m = n + cb s i % 128 * 2 ^ (7 * i) := ⟨_, rfl⟩
   refine ⟨fun h => ?_, fun h => ⟨?_, fun h9 => ⟨fun hc => ?_, fun hc => ⟨?_, ?_, fun hm => ⟨(i + 1, m), ?_⟩, fun hm => ⟨fun hp => ?_, fun hp => ⟨fun h1 => ?_, fun h1 => ?_⟩⟩⟩⟩,
     fun h9 => ⟨?_, ?_, fun hm => ⟨(i + 1, m), ?_⟩, fun hm => ⟨fun hp => ?_, fun hp => ⟨fun h1 => ?_, fun h1 => ?_⟩⟩⟩⟩⟩
   · (subst hL; subst hQ; simp only [L2, L3, std] at *; try simp only [syS, reduceCtorEq, Int.reduceToNat, Int.reduceAdd, Int.reduceSub] at *)
     exact ypj hx h
   · (subst hL; subst hQ; simp only [L2, L3, std] at *; try simp only [syS, reduceCtorEq, Int.reduceToNat, Int.reduceAdd, Int.reduceSub] at *)
     have := hx.1
     simp only at this
     omega
   · (subst hL; subst hQ; simp only [L2, L3, std] at *; try simp only [syS, reduceCtorEq, Int.reduceToNat, Int.reduceAdd, Int.reduceSub] at *)
     exact ypi hx h h9 hc
   · (subst hL; subst hQ; simp only [L2, L3, std] at *; try simp only [syS, reduceCtorEq, Int.reduceToNat, Int.reduceAdd, Int.reduceSub] at *)
     decide
   · (subst hL; subst hQ; simp only [L2, L3, std] at *; try simp only [syS, reduceCtorEq, Int.reduceToNat, Int.reduceAdd, Int.reduceSub] at *)
     have := hx.2.1
     simp only at this
     rw [Int.emod_eq_of_lt (by omega) (by omega)]
     omega
   · (cbv; try simp only [syT, true_and, and_true])
     (subst hL; subst hQ; simp only [L2, L3, std] at *; try simp only [syS, reduceCtorEq, Int.reduceToNat, Int.reduceAdd, Int.reduceSub] at *)
     rw [ziz] at hc
     exact absurd hm (by rw [ziz]; omega)
   · (subst hL; subst hQ; simp only [L2, L3, std] at *; try simp only [syS, reduceCtorEq, Int.reduceToNat, Int.reduceAdd, Int.reduceSub] at *)
     rw [ziz] at hc
     exact ydl hx h (by omega) hm (by rw [ziz] at hp; omega)
   · (subst hL; subst hQ; simp only [L2, L3, std] at *; try simp only [syS, reduceCtorEq, Int.reduceToNat, Int.reduceAdd, Int.reduceSub] at *)
     rw [ziz] at hc
     have := hx.2.1
     simp only at this
     exact ydl hx h (by omega) hm (by omega)
   · (subst hL; subst hQ; simp only [L2, L3, std] at *; try simp only [syS, reduceCtorEq, Int.reduceToNat, Int.reduceAdd, Int.reduceSub] at *)
     rw [ziz] at hc
     exact ymb hx h (by omega) hm hp h1
   · (subst hL; subst hQ; simp only [L2, L3, std] at *; try simp only [syS, reduceCtorEq, Int.reduceToNat, Int.reduceAdd, Int.reduceSub] at *)
     decide
   · (subst hL; subst hQ; simp only [L2, L3, std] at *; try simp only [syS, reduceCtorEq, Int.reduceToNat, Int.reduceAdd, Int.reduceSub] at *)
     have := hx.2.1
     simp only at this
     rw [Int.emod_eq_of_lt (by omega) (by omega)]
     omega
   · (cbv; try simp only [syT, true_and, and_true])
     (subst hL; subst hQ; simp only [L2, L3, std] at *; try simp only [syS, reduceCtorEq, Int.reduceToNat, Int.reduceAdd, Int.reduceSub] at *)
     obtain ⟨q1, q2, q3⟩ := yph hx h (by omega) hm
     rw [ym9 hx (by omega), hm']
     exact ⟨rfl, by omega, q1, q2⟩
   · (subst hL; subst hQ; simp only [L2, L3, std] at *; try simp only [syS, reduceCtorEq, Int.reduceToNat, Int.reduceAdd, Int.reduceSub] at *)
     exact ydl hx h (by omega) hm (by rw [ziz] at hp; omega)
   · (subst hL; subst hQ; simp only [L2, L3, std] at *; try simp only [syS, reduceCtorEq, Int.reduceToNat, Int.reduceAdd, Int.reduceSub] at *)
     have := hx.2.1
     simp only at this
     exact ydl hx h (by omega) hm (by omega)
   · (subst hL; subst hQ; simp only [L2, L3, std] at *; try simp only [syS, reduceCtorEq, Int.reduceToNat, Int.reduceAdd, Int.reduceSub] at *)
     exact ymb hx h (by omega) hm hp h1
 · (cbv; try simp only [syT, true_and, and_true])
   (subst hL; subst hQ; simp only [L2, L3, std] at *; try simp only [syS, reduceCtorEq, Int.reduceToNat, Int.reduceAdd, Int.reduceSub] at *)
   exact ⟨Nat.zero_le _, by omega, by simp, rfl⟩
theorem ynf (p : List UInt8) (c : UInt8) (r : List UInt8) : cb (p ++ c :: r) p.length = c.toNat := by
 unfold cb
 rw [List.getD_eq_getElem?_getD, List.getElem?_append_right (Nat.le_refl _), Nat.sub_self]
 rfl
theorem zoz (r : List UInt8) : ∀ (f m n0 : Nat) (p : List UInt8), f + p.length = 10 -> m * 2 ^ (7 * p.length) < 2 ^ 64 -> (0 < m \/ p.length = 0) ->
   lng (p ++ (zdh m ++ r)) f p.length n0 = (n0 + m * 2 ^ (7 * p.length), p.length + (zdh m).length, 0)
 | 0, m, n0, p, hf, hm, h0 => by
   have : p.length = 10 := by omega
   rw [this] at hm h0
   have : 2 ^ (7 * 10) <= m * 2 ^ (7 * 10) := Nat.le_mul_of_pos_left _ (by omega)
   omega
 | f + 1, m, n0, p, hf, hm, h0 => by
   by_cases hb : 128 <= m
   · rw [zg8 hb]
     have hc : cb (p ++ (UInt8.ofNat (m % 128 + 128) :: zdh (m / 128) ++ r)) p.length = m % 128 + 128 := by
       rw [List.cons_append, ynf]
       simp; omega
     have h9 : p.length ≠ 9 := by
       intro h
       rw [h] at hm
       have : 128 * 2 ^ (7 * 9) <= m * 2 ^ (7 * 9) := Nat.mul_le_mul_right _ hb
       omega
     rw [lng, if_neg (by simp), hc, if_neg (by omega), if_pos (by omega)]
     have e : p ++ (UInt8.ofNat (m % 128 + 128) :: zdh (m / 128) ++ r) = (p ++ [UInt8.ofNat (m % 128 + 128)]) ++ (zdh (m / 128) ++ r) := by simp
     have hl : (p ++ [UInt8.ofNat (m % 128 + 128)]).length = p.length + 1 := by simp
     have hp : 2 ^ (7 * (p.length + 1)) = 128 * 2 ^ (7 * p.length) := by rw [show 7 * (p.length + 1) = 7 + 7 * p.length by omega, Nat.pow_add]
     have hd : m / 128 * (128 * 2 ^ (7 * p.length)) + m % 128 * 2 ^ (7 * p.length) = m * 2 ^ (7 * p.length) := by
       rw [<- Nat.mul_assoc, <- Nat.add_mul]
       congr 1; omega
     have ih := zoz r f (m / 128) (n0 + (m % 128 + 128) % 128 * 2 ^ (7 * p.length)) (p ++ [UInt8.ofNat (m % 128 + 128)]) (by rw [hl]; omega) (by rw [hl, hp]; omega) (.inl (by omega))
     rw [hl] at ih
     rw [e, ih, hp, List.length_cons, show (m % 128 + 128) % 128 = m % 128 by omega]
     refine Prod.ext ?_ (Prod.ext ?_ rfl)
     · show n0 + m % 128 * 2 ^ (7 * p.length) + m / 128 * (128 * 2 ^ (7 * p.length)) = n0 + m * 2 ^ (7 * p.length)
       omega
     · show p.length + 1 + _ = p.length + (_ + 1)
       omega
   · rw [zbt (by omega)]
     have hc : cb (p ++ ([UInt8.ofNat m] ++ r)) p.length = m := by
       rw [List.singleton_append, ynf]
       simp; omega
     have h9 : ¬ (p.length = 9 /\ 1 < m) := by
       rintro ⟨h, h1⟩
       rw [h] at hm
       have : 2 * 2 ^ (7 * 9) <= m * 2 ^ (7 * 9) := Nat.mul_le_mul_right _ h1
       omega
     rw [lng, if_neg (by simp), hc, if_neg h9, if_neg (by omega), if_pos h0, Nat.mod_eq_of_lt (by omega)]
     rfl
theorem yfz {m : Int} (h : zeg m) (r : List UInt8) : zqw (zbb m ++ r) = m /\ zqx (zbb m ++ r) = ((zbb m).length : Int) /\ zvz (zbb m ++ r) = 0 := by
 have h0 := h.1
 have h1 := h.2
 have := zoz r 10 m.toNat 0 [] rfl (by simp; omega) (.inr rfl)
 simp only [List.nil_append, List.length_nil, Nat.zero_add, Nat.mul_zero, Nat.pow_zero, Nat.mul_one] at this
 unfold zqw zqx zvz zbb
 rw [this]
 refine ⟨?_, rfl, rfl⟩
 show ((m.toNat : Nat) : Int) = m
 omega
theorem zt8 {s : List UInt8} : ∀ (f i n : Nat), f + i = 10 -> n < 2 ^ (7 * i) -> i <= s.length -> (lng s f i n).2.1 <= 10 /\ ((lng s f i n).2.2 = 0 -> 1 <= (lng s f i n).2.1 /\ (lng s f i n).2.1 <= s.length /\ (lng s f i n).1 < 2 ^ 64)
 | 0, i, n, hf, hn, hi => by simp [lng]
 | f + 1, i, n, hf, hn, hi => by
   rw [lng]
   by_cases h1 : s.length <= i
   · rw [if_pos h1]; simp
   · rw [if_neg h1]
     by_cases h2 : i = 9 /\ 1 < cb s i
     · rw [if_pos h2]; simp
     · rw [if_neg h2]
       have hb := zn7 (by omega) hn (yev s i) h2
       by_cases h3 : 128 <= cb s i
       · rw [if_pos h3]
         by_cases h9 : i = 9
         · omega
         · exact zt8 f (i + 1) _ (by omega) hb.1 (by omega)
       · rw [if_neg h3]
         by_cases h4 : 0 < cb s i \/ i = 0
         · rw [if_pos h4]
           exact ⟨by show i + 1 <= 10; omega, fun _ => ⟨by show 1 <= i + 1; omega, by show i + 1 <= s.length; omega, hb.2.1⟩⟩
         · rw [if_neg h4]; simp
theorem yi9 {s : List UInt8} (h : zvz s = 0) : 1 <= zqx s /\ zqx s <= (s.length : Int) /\ 0 <= zqw s /\ zqw s < 18446744073709551616 := by
 have := (zt8 (s := s) 10 0 0 rfl (by simp) (Nat.zero_le _)).2
 unfold zvz at h
 unfold zqx zqw
 have := this (by omega)
 omega
def cpT (a b : List UInt8) : List UInt8 := if ybq a b = true then a.drop b.length else a
def yjo (L : za9) : zcw := (80, fun xs => match xs with | [.str a, .str b] => some (L2 L zy1 a b, .tup [.str (L2 L cpT a b), .bool (L2 L ybq a b)]) | _ => none)
def yq5 (L : za9) : zcw := (72, fun xs => match xs with | [.str a, .str b] => some (L2 L zy1 a b, .tup [.str (L2 L cpT a b), .bool (L2 L ybq a b)]) | _ => none)
theorem zy0 {a b : List UInt8} (h : ybq a b = true) : b.length <= a.length := by
 have h : a.take b.length = b := by simpa [ybq] using h
 have := congrArg List.length h
 simp at this
 omega
theorem yer : zdd Tryz.prog (yjo std) := by
 intro xs p r h hp
 dsimp only [yjo] at h |-
 split at h <;> cases h
 try simp only [L2, L3, std] at hp |-
 rename_i a b
 obtain ⟨p1, p2⟩ : zy1 a b := hp
 refine zaa (T := tt) (S := fun L => zbf [zsg L]) (lo := noA) (lb := noA) 5 (fn := Tryz.f80) rfl rfl (by kernel_rfl) (by kernel_rfl) rfl zae (za7 ⟨zok, trivial⟩) (by kernel_rfl) ?_
 (intro L P1 Q1 hL hP hQ; cbv; subst hL; simp only [L2, L3, std, syT]; subst hQ)
 (simp only [syS, reduceCtorEq, Int.reduceToNat, Int.reduceAdd, Int.reduceSub])
 refine ⟨⟨p1, p2⟩, fun h => ⟨(if_neg (by rw [h]; decide)).symm, h.symm⟩, fun h => ⟨⟨by omega, ?_⟩, (if_pos h).symm, h.symm⟩⟩
 have := zy0 h
 omega
theorem yjn : zdd Tryz.prog (yq5 std) := by
 intro xs p r h hp
 dsimp only [yq5] at h |-
 split at h <;> cases h
 try simp only [L2, L3, std] at hp |-
 rename_i a b
 refine zaa (T := tt) (S := fun L => zbf [yjo L]) (lo := noA) (lb := noA) 5 (fn := Tryz.f72) rfl rfl (by kernel_rfl) (by kernel_rfl) rfl zae (za7 ⟨yer, trivial⟩) (by kernel_rfl) ?_
 (intro L P1 Q1 hL hP hQ; cbv; subst hL; simp only [L2, L3, std, syT]; subst hQ)
 (simp only [syS, reduceCtorEq, Int.reduceToNat, Int.reduceAdd, Int.reduceSub])
 exact hp
def slH (t : List UInt8) : List UInt8 := ybp (ybp [79, 84] (zbb (t.length : Int))) t
def slT (t : List UInt8) : List UInt8 := slH t ++ (zuw (slH t)).take 16
def slS (s t : List UInt8) : Bool := slT t == s
def opT (s : List UInt8) : List UInt8 := (s.drop (2 + (zqx (s.drop 2)).toNat)).take (zqw (s.drop 2)).toNat
def opB (s : List UInt8) : Bool := slS s (opT s)
def opV (s : List UInt8) : List UInt8 := if opB s = true then opT s else []
def opE (s : List UInt8) : Int := if opB s = true then 0 else 23
theorem zxy (s : List UInt8) : ((zuw s).take 16).length = 16 := by rw [List.length_take, zj5]; rfl
theorem zf6 (t : List UInt8) (h : t.length <= 1000000) : zeg (t.length : Int) := ⟨by omega, by omega⟩
theorem zwq (t : List UInt8) : (slH t).length = 2 + (zbb (t.length : Int)).length + t.length := by simp [slH, ybp]; omega
theorem zwp (t : List UInt8) : (slT t).length = 2 + (zbb (t.length : Int)).length + t.length + 16 := by rw [slT, List.length_append, zwq, zxy]
theorem zmo (t : List UInt8) : (slT t).drop 2 = zbb (t.length : Int) ++ (t ++ (zuw (slH t)).take 16) := by simp [slT, slH, ybp]
theorem ylt (t : List UInt8) (h : t.length <= 1000000) : opT (slT t) = t := by
 obtain ⟨e1, e2, e3⟩ := yfz (zf6 t h) (t ++ (zuw (slH t)).take 16)
 rw [opT, zmo, e1, e2]
 have e : (slT t).drop (2 + ((zbb (t.length : Int)).length : Int).toNat) = t ++ (zuw (slH t)).take 16 := by
   rw [<- List.drop_drop, zmo, Int.toNat_natCast, List.drop_left]
 rw [e, Int.toNat_natCast, List.take_left]
theorem yfo (t : List UInt8) (h : t.length <= 1000000) : opB (slT t) = true := by
 rw [opB, ylt t h, slS]; simp
theorem zye {s : List UInt8} (h : opB s = true) : slT (opT s) = s := by simpa [opB, slS] using h
theorem ylu (t : List UInt8) (h : t.length <= 1000000) : opV (slT t) = t := by rw [opV, if_pos (yfo t h), ylt t h]
theorem ylv (t : List UInt8) (h : t.length <= 1000000) : opE (slT t) = 0 := by rw [opE, if_pos (yfo t h)]
def zs8 (L : za9) : zcw := (58, fun xs => match xs with | [.str t] => some (L2 L upto 100000 t, .str (L slT t)) | _ => none)
theorem zo9 : zdd Tryz.prog (zs8 std) := by
 intro xs p r h hp
 dsimp only [zs8] at h |-
 split at h <;> cases h
 try simp only [L2, L3, std] at hp |-
 rename_i t
 have hl : t.length <= 100000 := hp
 refine zaa (T := tt) (S := fun L => zbf [zhy L, zs2 L]) (lo := noA) (lb := noA) 5 (fn := Tryz.f58) rfl rfl (by kernel_rfl) (by kernel_rfl) rfl zae (za7 ⟨zg7, zo7, trivial⟩) (by kernel_rfl) ?_
 (intro L P1 Q1 hL hP hQ; cbv; subst hL; simp only [L2, L3, std, syT]; subst hQ)
 have hk := zf6 t (by omega)
 have hz := zlk hk
 have e1 : IntKind.u64.wrap (slen t) = (t.length : Int) := by rw [zwd, slen]; omega
 rw [e1, yc4]
 have hs := zwq t
 have e2 : ybp (ybp [79, 84] (zbb (t.length : Int))) t = slH t := rfl
 rw [e2]
 refine ⟨hk, ?_, ?_, ye3 _ (by omega), ?_, ?_, ?_⟩
 · rw [znu, List.length_cons, List.length_cons, List.length_nil]; omega
 · rw [znu, ybp, List.length_append, List.length_cons, List.length_cons, List.length_nil]; omega
 · rw [yis, slen, zj5]; decide
 · rw [znu, List.length_take, zj5]; omega
 · rw [zje]; rfl
def zyb (L : za9) : zcw := (57, fun xs => match xs with | [.str s] => some (L2 L upto 100000 s, .tup [.str (L opV s), .int .i64 (L opE s)]) | _ => none)
theorem yfn (s : List UInt8) : (opT s).length <= s.length := by
 rw [opT, List.length_take, List.length_drop]; omega
theorem zqq {s : List UInt8} (h : opB s = true) (hs : s.length <= 1000000) : ybq s [79, 84] = true /\ zvz (s.drop 2) = 0 /\ zqw (s.drop 2) = ((opT s).length : Int) /\ zqx (s.drop 2) = ((zbb ((opT s).length : Int)).length : Int) /\ s.length = 2 + (zbb ((opT s).length : Int)).length + (opT s).length + 16 := by
 have hl := yfn s
 obtain ⟨e1, e2, e3⟩ := yfz (zf6 (opT s) (by omega)) (opT s ++ (zuw (slH (opT s))).take 16)
 rw [<- zmo, zye h] at e1 e2 e3
 have hn := zwp (opT s)
 rw [zye h] at hn
 refine ⟨?_, e3, e1, e2, hn⟩
 rw [<- zye h]
 rfl
theorem ylw {s : List UInt8} (h : ¬ slT (opT s) = s) : opB s = false := by
 unfold opB slS
 simpa using h
theorem ycz {s : List UInt8} (h : opB s = false) : [] = opV s /\ 23 = opE s := by
 rw [opV, opE, if_neg (by rw [h]; decide), if_neg (by rw [h]; decide)]
 exact ⟨rfl, rfl⟩
theorem zyc : zdd Tryz.prog (zyb std) := by
 intro xs p r h hp
 dsimp only [zyb] at h |-
 split at h <;> cases h
 try simp only [L2, L3, std] at hp |-
 rename_i s
 have hl : s.length <= 100000 := hp
 refine zaa (T := tt) (S := fun L => zbf [yq5 L, yia L, zs8 L]) (lo := noA) (lb := noA) 5 (fn := Tryz.f57) rfl rfl (by kernel_rfl) (by kernel_rfl) rfl zae (za7 ⟨yjn, ydk, zo9, trivial⟩) (by kernel_rfl) ?_
 (intro L P1 Q1 hL hP hQ; cbv; subst hL; simp only [L2, L3, std, syT]; subst hQ)
 (simp only [syS, reduceCtorEq, Int.reduceToNat, Int.reduceAdd, Int.reduceSub])
 refine ⟨⟨by omega, by decide⟩, fun hpre => ycz (by
   cases h : opB s with
   | false => rfl
   | true => rw [(zqq h (by omega)).1] at hpre; cases hpre), fun hpre => ?_⟩
 have hr : cpT s [79, 84] = s.drop 2 := if_pos hpre
 have hlen := zy0 hpre
 have hlen : 2 <= s.length := hlen
 rw [hr]
 have hdl : (s.drop 2).length = s.length - 2 := List.length_drop
 refine ⟨fun he => ycz (by
   cases h : opB s with
   | false => rfl
   | true => exact absurd (zqq h (by omega)).2.1 he), fun he => ⟨fun hn => ycz (by
   cases h : opB s with
   | false => rfl
   | true =>
     obtain ⟨_, _, h1, h2, h3⟩ := zqq h (by omega)
     exfalso
     apply hn
     rw [h1, h2, hdl]
     omega), fun hn => ?_⟩⟩
 obtain ⟨k1, k2, n1, n2⟩ := yi9 he
 rw [hdl] at hn k2 |-
 generalize hK : zqx (s.drop 2) = K at hn k1 k2 |-
 generalize hN : zqw (s.drop 2) = N at hn n1 n2 |-
 have eN : (K + ((N + 9223372036854775808) % 18446744073709551616 - 9223372036854775808) + 9223372036854775808) % 18446744073709551616 - 9223372036854775808 = K + N := by omega
 rw [eN]
 have et : List.drop K.toNat (List.take (K + N).toNat (s.drop 2)) = opT s := by
   rw [opT, hK, hN, <- List.drop_drop, List.drop_take]
   congr 1; omega
 rw [et]
 have := yfn s
 refine ⟨⟨by omega, by omega, by omega⟩, (show (opT s).length <= 100000 by omega), fun h => ?_, fun h => ycz (ylw h)⟩
 have hb : opB s = true := by rw [opB, slS, h]; simp
 rw [opV, opE, if_pos hb, if_pos hb]
 exact ⟨rfl, rfl⟩
def yj9 : zcw := (61, fun xs => match xs with | [] => some (True, .int .i64 4) | _ => none)
theorem yeh : zdd Tryz.prog yj9 := by
 intro xs p r h hp
 dsimp only [yj9] at h |-
 split at h <;> cases h
 try simp only [L2, L3, std] at hp |-
 refine zaa (T := tt) (S := noS) (lo := noA) (lb := noA) 5 (fn := Tryz.f61) rfl rfl (by kernel_rfl) (by kernel_rfl) rfl zae (zdx _) (by kernel_rfl) ?_
 (intro L P1 Q1 hL hP hQ; cbv; subst hL; simp only [L2, L3, std, syT]; subst hQ)
 (simp only [syS, reduceCtorEq, Int.reduceToNat, Int.reduceAdd, Int.reduceSub])
inductive DkS where
 | a (k : Int)
 | b (k : Int) (x s : List UInt8)
 | c (k : Int) (x s : List UInt8)
 | d (k : Int) (x s y t : List UInt8)
def nmA : List UInt8 := [97]
def nmB : List UInt8 := [98]
def zcm (x s : List UInt8) : Ob := .box 156 [.str x, .str s]
def ycw (key : List UInt8) : Ob := .row 159 4 1 (fun _ j => zc0 .dead [.int .i64 1, .str [], .str key, .dead] j)
def ztu (n s : Nat) (pend : AV) (k : Int) : Ob := .box 152 [.int .i64 100, .mp n, .mp s, pend, .int .i64 k, .int .i64 (-1), .bool false]
def zrg (pend : AV) (k : Int) : Ob := ztu 500001 500002 pend k
def dkO (p : Nat) : DkS -> List (Nat × Ob)
 | .a k => [(500000, zrg .nils k), (500001, .mapl .s []), (500002, .mapl .s [])]
 | .b k x s => [(500000, zrg (.sl p 4 0 1) k), (500001, .mapl .s [(.s nmA, .ref 500003 0)]), (500002, .mapl .s []), (500003, zcm x s), (p, ycw nmA)]
 | .c k x s => [(500000, zrg .nils k), (500001, .mapl .s [(.s nmA, .ref 500003 0)]), (500002, .mapl .s [(.s nmA, .ref 500003 0)]), (500003, zcm x s)]
 | .d k x s y t => [(500000, zrg (.sl p 4 0 1) k), (500001, .mapl .s [(.s nmA, .ref 500003 0), (.s nmB, .ref 500004 0)]), (500002, .mapl .s [(.s nmA, .ref 500003 0)]), (500003, zcm x s), (500004, zcm y t), (p, ycw nmB)]
def zba : Option Ob -> List UInt8 × List UInt8
 | some (.box _ [.str x, .str s]) => (x, s)
 | _ => ([], [])
def ya8 (ob : Nat -> Option Ob) (id : Nat) : Option DkS := match ob id with
 | some (.box _ [_, .mp n, _, .nils, .int _ k, _, _]) => match ob n with
   | some (.mapl _ []) => some (.a k)
   | some (.mapl _ [(_, .ref i _)]) => some (.c k (zba (ob i)).1 (zba (ob i)).2)
   | _ => none
 | some (.box _ [_, .mp n, _, .sl _ _ _ _, .int _ k, _, _]) => match ob n with
   | some (.mapl _ [(_, .ref i _)]) => some (.b k (zba (ob i)).1 (zba (ob i)).2)
   | some (.mapl _ [(_, .ref i _), (_, .ref j _)]) => some (.d k (zba (ob i)).1 (zba (ob i)).2 (zba (ob j)).1 (zba (ob j)).2)
   | _ => none
 | _ => none
def inc (k : Int) : Int := k + 1
def DkS.up (L : za9) : DkS -> DkS
 | .a k => .a (L inc k)
 | .b k x s => .b (L inc k) x s
 | .c k x s => .c (L inc k) x s
 | .d k x s y t => .d (L inc k) x s y t
def DkS.k : DkS -> Int
 | .a k => k
 | .b k _ _ => k
 | .c k _ _ => k
 | .d k _ _ _ _ => k
def zcf (k : Int) : Prop := 0 <= k /\ k <= 1000
theorem ybx {k : Int} (h : zcf k) : zce .i64 k 1 = inc k := by
 obtain ⟨h0, h1⟩ := h
 unfold zce inc
 rw [zdj]
 omega
def yhw : zfp := (98, fun raw ob => match raw with
 | [.ref id 0] => match ya8 ob id with
   | some sh => some ⟨[.ref 500000 0], dkO 500005 sh, True, .int .i64 0, dkO 500005 sh⟩
   | _ => none
 | _ => none)
theorem ypc (sh : DkS) : zan Tryz.prog 98 [.ref 500000 0] (dkO 500005 sh) (.int .i64 0) (dkO 500005 sh) := by
 cases sh <;>
 · refine zaj (T := tt) (S := fun L => zb0 [] []) (lo := noA) (lb := noA) 8 (fn := Tryz.f98) (xs := fun L => [.ref 500000 0]) (rts := fun _ => [.int .i64 0]) (O := fun L => dkO 500005 _) (O1 := fun L => dkO 500005 _)
     rfl rfl (by kernel_rfl) (by kernel_rfl) (by kernel_rfl) zae (za8 trivial trivial) (by kernel_rfl) ?_
   intro L P' Q' hL hP hQ
   (cbv; try simp only [syT, true_and, and_true])
   subst hL
   simp [std]
theorem zk8 : zcc Tryz.prog yhw := by
 intro raw ob T hT hp
 unfold yhw at hT
 simp only at hT
 repeat' split at hT
 all_goals first | (cases hT; done) | (cases hT; exact ypc _)
def zig (L : za9) : zfp := (101, fun raw ob => match raw with
 | [.ref id 0] => match ya8 ob id with
   | some sh => some ⟨[.ref 500000 0], dkO 500005 sh, L zcf sh.k, .int .i64 0, dkO 500005 (sh.up L)⟩
   | _ => none
 | _ => none)
theorem ygz (sh : DkS) (hk : zcf sh.k) : zan Tryz.prog 101 [.ref 500000 0] (dkO 500005 sh) (.int .i64 0) (dkO 500005 (sh.up std)) := by
 cases sh <;>
 · refine zaj (T := tt) (S := fun L => zb0 [] []) (lo := noA) (lb := noA) 8 (fn := Tryz.f101) (xs := fun L => [.ref 500000 0]) (rts := fun _ => [.int .i64 0]) (O := fun L => dkO 500005 _) (O1 := fun L => dkO 500005 (DkS.up L _))
     rfl rfl (by kernel_rfl) (by kernel_rfl) (by kernel_rfl) zae (za8 trivial trivial) (by kernel_rfl) ?_
   intro L P' Q' hL hP hQ
   (cbv; try simp only [syT, true_and, and_true])
   subst hL
   simp only [DkS.k] at hk
   have e0 : ieq (-1) 0 = false := by decide
   have e1 : ilt 0 (-1) = false := by decide
   simp [std, e0, e1, ybx hk]
theorem zgi : zcc Tryz.prog (zig std) := by
 intro raw ob T hT hp
 unfold zig at hT
 simp only at hT
 repeat' split at hT
 all_goals first | (cases hT; done) | (cases hT; exact ygz _ hp)
def yq2 (L : za9) : List (Nat × Ob) := [(14, ztu 11 12 .nils 0), (11, .mapl .s []), (12, .mapl .s [])]
def yi0 (L : za9) : zfp := (83, fun raw ob => match raw with
 | [.int .i64 n] => some ⟨[.int .i64 100], [], True, .tup [.ref 14 0, .int .i64 0], yq2 L⟩
 | _ => none)
theorem ym3 : zan Tryz.prog 83 [.int .i64 100] [] (.tup [.ref 14 0, .int .i64 0]) (yq2 std) := by
 refine zaj (T := tt) (S := fun L => zb0 [] []) (lo := noA) (lb := noA) 8 (fn := Tryz.f83) (xs := fun L => [.int .i64 100]) (rts := fun _ => [.ref 14 0, .int .i64 0]) (O := fun L => []) (O1 := fun L => yq2 L)
     rfl rfl (by kernel_rfl) (by kernel_rfl) (by kernel_rfl) zae (za8 trivial trivial) (by kernel_rfl) ?_
 intro L P' Q' hL hP hQ
 (cbv; try simp only [syT, true_and, and_true])
 subst hL
 have e0 : ilt 100 0 = false := by decide
 have e1 : ilt 65536 100 = false := by decide
 simp [std, e0, e1]
theorem yd5 : zcc Tryz.prog (yi0 std) := by
 intro raw ob T hT hp
 unfold yi0 at hT
 simp only at hT
 repeat' split at hT
 all_goals first | (cases hT; done) | (cases hT; exact ym3)
def zmm : zfp := (104, fun raw ob => match raw with
 | [.ref id 0, .str key] => match ya8 ob id with
   | some (.a _) => none
   | some sh => some ⟨[.ref 500000 0, .str nmA], dkO 500005 sh, True, .tup [.ref 500003 0, .int .i64 0], dkO 500005 sh⟩
   | _ => none
 | _ => none)
def DkS.some : DkS -> Prop
 | .a _ => False
 | _ => True
theorem yc2 (sh : DkS) (hs : sh.some) : zan Tryz.prog 104 [.ref 500000 0, .str nmA] (dkO 500005 sh) (.tup [.ref 500003 0, .int .i64 0]) (dkO 500005 sh) := by
 cases sh
 case a => exact hs.elim
 all_goals
   refine zaj (T := tt) (S := fun L => zb0 [] [yhw]) (lo := noA) (lb := noA) 8 (fn := Tryz.f104) (xs := fun L => [.ref 500000 0, .str nmA]) (rts := fun _ => [.ref 500003 0, .int .i64 0]) (O := fun L => dkO 500005 _) (O1 := fun L => dkO 500005 _)
     rfl rfl (by kernel_rfl) (by kernel_rfl) (by kernel_rfl) zae (za8 trivial ⟨zk8, trivial⟩) (by kernel_rfl) ?_
   intro L P' Q' hL hP hQ
   (cbv; try simp only [syT, true_and, and_true])
   subst hL
   have e0 : ine 0 0 = false := by decide
   simp [std, e0]
theorem zlj : zcc Tryz.prog zmm := by
 intro raw ob T hT hp
 unfold zmm at hT
 simp only at hT
 repeat' split at hT
 all_goals first | (cases hT; done) | skip
 rename_i sh h1 h2
 cases hT
 refine yc2 sh ?_
 cases sh
 · exact absurd rfl (h1 _)
 all_goals trivial
def zu4 : AV := .agg [.int .i64 1, .str [], .str nmA, .ref 500003 0]
def zu3 : AV := .agg [.int .i64 1, .str [], .str nmB, .ref 500004 0]
def do0 (x s : List UInt8) : List (Nat × Ob) := [(500001, .mapl .s []), (500003, zcm x s)]
def do1 (x s : List UInt8) : List (Nat × Ob) := [(500001, .mapl .s [(.s nmA, .ref 500003 0)]), (500003, zcm x s)]
def do2 (x s y t : List UInt8) : List (Nat × Ob) := [(500001, .mapl .s [(.s nmA, .ref 500003 0)]), (500003, zcm x s), (500004, zcm y t)]
def do3 (x s y t : List UInt8) : List (Nat × Ob) := [(500001, .mapl .s [(.s nmA, .ref 500003 0), (.s nmB, .ref 500004 0)]), (500003, zcm x s), (500004, zcm y t)]
def yn7 : zfp := (106, fun raw ob => match raw with
 | [.mp n, .agg [_, _, _, .ref i _]] => match ob n with
   | some (.mapl _ []) => some ⟨[.mp 500001, zu4], do0 (zba (ob i)).1 (zba (ob i)).2, True, .tup [], do1 (zba (ob i)).1 (zba (ob i)).2⟩
   | some (.mapl _ [(_, .ref j _)]) => some ⟨[.mp 500001, zu3], do2 (zba (ob j)).1 (zba (ob j)).2 (zba (ob i)).1 (zba (ob i)).2, True, .tup [], do3 (zba (ob j)).1 (zba (ob j)).2 (zba (ob i)).1 (zba (ob i)).2⟩
   | _ => none
 | _ => none)
theorem do_a (x s : List UInt8) : zan Tryz.prog 106 [.mp 500001, zu4] (do0 x s) (.tup []) (do1 x s) := by
 refine zaj (T := tt) (S := fun L => zb0 [] []) (lo := noA) (lb := noA) 8 (fn := Tryz.f106) (xs := fun L => [.mp 500001, zu4]) (rts := fun _ => []) (O := fun L => do0 x s) (O1 := fun L => do1 x s)
   rfl rfl (by kernel_rfl) (by kernel_rfl) (by kernel_rfl) zae (za8 trivial trivial) (by kernel_rfl) ?_
 intro L P' Q' hL hP hQ
 (cbv; try simp only [syT, true_and, and_true])
 subst hL
 have e0 : ieq 1 1 = true := by decide
 simp [std, e0]
theorem do_b (x s y t : List UInt8) : zan Tryz.prog 106 [.mp 500001, zu3] (do2 x s y t) (.tup []) (do3 x s y t) := by
 refine zaj (T := tt) (S := fun L => zb0 [] []) (lo := noA) (lb := noA) 8 (fn := Tryz.f106) (xs := fun L => [.mp 500001, zu3]) (rts := fun _ => []) (O := fun L => do2 x s y t) (O1 := fun L => do3 x s y t)
   rfl rfl (by kernel_rfl) (by kernel_rfl) (by kernel_rfl) zae (za8 trivial trivial) (by kernel_rfl) ?_
 intro L P' Q' hL hP hQ
 (cbv; try simp only [syT, true_and, and_true])
 subst hL
 have e0 : ieq 1 1 = true := by decide
 simp [std, e0]
theorem zrf : zcc Tryz.prog yn7 := by
 intro raw ob T hT hp
 unfold yn7 at hT
 simp only at hT
 repeat' split at hT
 all_goals first | (cases hT; done) | (cases hT; exact do_a _ _) | (cases hT; exact do_b _ _ _ _)
def zj0 : zfp := (102, fun raw ob => match raw with
 | [.ref id 0, .agg [_, _, _, .ref i _]] => match ya8 ob id with
   | some (.a k) => some ⟨[.ref 500000 0, zu4], zbj (dkO 500005 (.a k)) [(500003, zcm (zba (ob i)).1 (zba (ob i)).2)], True, .tup [], dkO 17 (.b k (zba (ob i)).1 (zba (ob i)).2)⟩
   | some (.c k x s) => some ⟨[.ref 500000 0, zu3], zbj (dkO 500005 (.c k x s)) [(500004, zcm (zba (ob i)).1 (zba (ob i)).2)], True, .tup [], dkO 17 (.d k x s (zba (ob i)).1 (zba (ob i)).2)⟩
   | _ => none
 | _ => none)
theorem yc0 (k : Int) (x s : List UInt8) : zan Tryz.prog 102 [.ref 500000 0, zu4] (zbj (dkO 500005 (.a k)) [(500003, zcm x s)]) (.tup []) (dkO 17 (.b k x s)) := by
 refine zaj (T := tt) (S := fun L => zb0 [] [yn7]) (lo := noA) (lb := noA) 8 (fn := Tryz.f102) (xs := fun L => [.ref 500000 0, zu4]) (rts := fun _ => []) (O := fun L => zbj (dkO 500005 (.a k)) [(500003, zcm x s)]) (O1 := fun L => dkO 17 (.b k x s))
   rfl rfl (by kernel_rfl) (by kernel_rfl) (by kernel_rfl) zae (za8 trivial ⟨zrf, trivial⟩) (by kernel_rfl) ?_
 intro L P' Q' hL hP hQ
 (cbv; try simp only [syT, true_and, and_true])
 subst hL
 simp [std]
 exact ⟨by decide, fun i j hi hj => by subst hi; simp [L2, std]⟩
theorem ybz (k : Int) (x s y t : List UInt8) : zan Tryz.prog 102 [.ref 500000 0, zu3] (zbj (dkO 500005 (.c k x s)) [(500004, zcm y t)]) (.tup []) (dkO 17 (.d k x s y t)) := by
 refine zaj (T := tt) (S := fun L => zb0 [] [yn7]) (lo := noA) (lb := noA) 8 (fn := Tryz.f102) (xs := fun L => [.ref 500000 0, zu3]) (rts := fun _ => []) (O := fun L => zbj (dkO 500005 (.c k x s)) [(500004, zcm y t)]) (O1 := fun L => dkO 17 (.d k x s y t))
   rfl rfl (by kernel_rfl) (by kernel_rfl) (by kernel_rfl) zae (za8 trivial ⟨zrf, trivial⟩) (by kernel_rfl) ?_
 intro L P' Q' hL hP hQ
 (cbv; try simp only [syT, true_and, and_true])
 subst hL
 simp [std]
 exact ⟨by decide, fun i j hi hj => by subst hi; simp [L2, std]⟩
theorem zjs : zcc Tryz.prog zj0 := by
 intro raw ob T hT hp
 unfold zj0 at hT
 simp only at hT
 repeat' split at hT
 all_goals first | (cases hT; done) | (cases hT; exact yc0 _ _ _) | (cases hT; exact ybz _ _ _ _ _)
end Sy
end Go.Proofs.YtlphgephdhadhaaGreat
namespace Go.Proofs.YtlphgephdhadhaaGreat
open Go Go.RowKit
open Go.ChangeMaps (setBlock)
theorem zv7 (seen : Array Nat) : leftOf #[] seen = #[] := by simp [leftOf]
set_option maxRecDepth 1000000 in
theorem yon (w : World) (b bm : Nat) (clock : Nat) (hc : w.cell? ⟨b, 1, none⟩ = some (.map (some bm))) (hm : w.heap[bm]? = some (.map #[] clock)) :
   Calls Tryz.prog 100 #[.pointer (some ⟨b, 0, none⟩)] w fun e w' => e = .returned (.int .i64 0) /\ Below w.heap.size w w' := by
 have hrg := run_range_map (P := Tryz.prog) w 149 9 153 bm #[] clock Tryz.underlying149 hm
 have hnx : ∀ ty, (Instr.next (.pointer (some ⟨w.heap.size, 0, none⟩)) false ty).run Tryz.prog (w.alloc (.mapIter (some bm) clock #[] clock)) = .ok (.tuple #[.bool false]) (w.alloc (.mapIter (some bm) clock #[] clock)) := fun ty => by
   rcases run_next_map (P := Tryz.prog) w ty bm clock clock #[] #[] clock hm (by simp) (Nat.le_refl _) with ⟨_, h⟩ | ⟨e, he, _⟩
   · exact h
   · rw [zv7] at he; simp at he
 go_enter Tryz.func100, Tryz.ntmps100
 go_wp2
 refine wp_loop_rounds 1 ?_
 rw [rounds_succ]
 go_wp2
 go_ret
 exact ⟨rfl, (Below.refl _ w).alloc (Nat.le_refl _) _⟩
set_option maxRecDepth 1000000 in
theorem yom (w : World) (b bm bn : Nat) (clock : Nat) (x : MapEntry) (s : ByteArray) (hc : w.cell? ⟨b, 1, none⟩ = some (.map (some bm))) (hm : w.heap[bm]? = some (.map #[x] clock)) (hst : MapKept.Stamped #[x] clock)
   (hx : x.val = .pointer (some ⟨bn, 0, none⟩)) (hn : w.cell? ⟨bn, 0, none⟩ = some (.string s)) :
   Calls Tryz.prog 100 #[.pointer (some ⟨b, 0, none⟩)] w fun e w' => e = .returned (.int .i64 (wrap64 s.size)) /\ Below w.heap.size w w' := by
 have hrg := run_range_map (P := Tryz.prog) w 149 9 153 bm #[x] clock Tryz.underlying149 hm
 have hbn : bn < w.heap.size := by
   rcases Nat.lt_or_ge bn w.heap.size with h | h
   · exact h
   · simp [World.cell?, Array.getElem?_eq_none h] at hn
 have hbm : bm < w.heap.size := by
   rcases Nat.lt_or_ge bm w.heap.size with h | h
   · exact h
   · simp [Array.getElem?_eq_none h] at hm
 obtain ⟨W2, hr2, hk2, hB2, hnx⟩ : ∃ W2 : World, W2.heap[w.heap.size]? = some (.mapIter (some bm) clock #[x.born] clock) /\ (∀ k, k < w.heap.size -> W2.heap[k]? = w.heap[k]?) /\ Below w.heap.size w W2 /\
     ∀ ty, (Instr.next (.pointer (some ⟨w.heap.size, 0, none⟩)) false ty).run Tryz.prog (w.alloc (.mapIter (some bm) clock #[] clock)) = .ok (.tuple #[.bool true, x.key, .pointer (some ⟨bn, 0, none⟩)]) W2 := by
   rcases run_next_at (P := Tryz.prog) (w.alloc (.mapIter (some bm) clock #[] clock)) 0 w.heap.size bm clock clock #[] #[x] clock (heap_alloc_new _ _) ((heap_alloc_old w _ hbm).trans hm) hst.1 (Nat.le_refl _) with ⟨h0, _⟩ | ⟨e, he, w1, hal, h⟩
   · simp [leftOf] at h0
   · simp [leftOf] at he
     subst he
     rw [hx] at h
     have hB : Below w.heap.size w (w.alloc (.mapIter (some bm) clock #[] clock)) := (Below.refl _ w).alloc (Nat.le_refl _) _
     have hw : w1.heap = (w.alloc (.mapIter (some bm) clock #[] clock)).heap /\ w1.os = w.os /\ w1.tape = w.tape /\ w1.output = w.output := by
       rcases hal with rfl | rfl
       · exact ⟨rfl, rfl, rfl, rfl⟩
       · exact ⟨rfl, rfl, rfl, rfl⟩
     obtain ⟨h1, h2, h3, h4⟩ := hw
     have hl : w.heap.size < (w.alloc (.mapIter (some bm) clock #[] clock)).heap.size := by
       show w.heap.size < (w.heap.push _).size
       rw [Array.size_push]
       omega
     have hne : ∀ k, k < w.heap.size -> (w1.heap.setIfInBounds w.heap.size (.mapIter (some bm) clock #[e.born] clock))[k]? = w.heap[k]? := fun k hk => by
       rw [Array.getElem?_setIfInBounds_ne (by omega), h1]
       exact heap_alloc_old w _ hk
     refine ⟨setBlock w1 w.heap.size (.mapIter (some bm) clock #[e.born] clock), ?_, hne, ⟨h2, h3, h4, ?_, hne⟩, fun ty => h⟩
     · show (w1.heap.setIfInBounds w.heap.size _)[w.heap.size]? = _
       rw [h1, Array.getElem?_setIfInBounds, if_pos rfl, if_pos hl]
     · show w.heap.size <= (w1.heap.setIfInBounds w.heap.size _).size
       rw [h1, Array.size_setIfInBounds]
       exact Nat.le_of_lt hl
 have hm2 : W2.heap[bm]? = some (.map #[x] clock) := (hk2 bm hbm).trans hm
 have hen : (Instr.entry (.pointer (some ⟨w.heap.size, 0, none⟩))).run Tryz.prog W2 = .ok (.tuple #[x.key, .pointer (some ⟨bn, 0, none⟩)]) W2 := by
   have hen := run_entry_at (P := Tryz.prog) W2 w.heap.size bm clock #[] #[x] clock x hr2 hm2 (by simp) hst.2.1
   rw [hx] at hen
   exact hen
 have hn1 : W2.cell? ⟨bn, 0, none⟩ = some (.string s) := by
   simp only [World.cell?, hk2 bn hbn]
   exact hn
 have hnx2 : ∀ ty, (Instr.next (.pointer (some ⟨w.heap.size, 0, none⟩)) false ty).run Tryz.prog W2 = .ok (.tuple #[.bool false]) W2 := fun ty => by
   rcases run_next_at (P := Tryz.prog) W2 ty w.heap.size bm clock clock #[x.born] #[x] clock hr2 hm2 hst.1 (Nat.le_refl _) with ⟨_, h⟩ | ⟨e, he, _⟩
   · exact h
   · simp [leftOf] at he
 go_enter Tryz.func100, Tryz.ntmps100
 go_wp2
 refine wp_loop_rounds 2 ?_
 rw [rounds_succ]
 go_wp2
 rw [rounds_succ]
 go_wp2
 go_ret
 exact ⟨rfl, hB2⟩
end Go.Proofs.YtlphgephdhadhaaGreat
namespace Go.Proofs
open Go.Shelf
def Tryz.keys108_ren : Go.Shelf.Ren := ⟨fun | 7 => 108 | 10 => 120 | n => n, fun | 23 => 149 | 26 => 9 | 3 => 153 | 28 => 169 | 0 => 0 | 27 => 168 | 33 => 47 | 4 => 4 | n => n, fun | n => n⟩
theorem Tryz.keys108 : Go.Proofs.SlLaysZ.n7 Tryz.prog Tryz.keys108_ren := {
 mixed := by kernel_rfl
 f7 := ⟨Tryz.f108.name, by decide, Tryz.func108.trans (congrArg some (by kernel_rfl))⟩
 f10 := ⟨Tryz.f120.name, by decide, Tryz.func120.trans (congrArg some (by kernel_rfl))⟩
 t0 := Tryz.underlying0
 a0 := Tryz.isAgg0
 z0 := Tryz.sizeOf0
 v0 := Tryz.zeroValue0
 t4 := Tryz.underlying4
 a4 := Tryz.isAgg4
 z4 := Tryz.sizeOf4
 v4 := Tryz.zeroValue4
 t23 := Tryz.underlying149
 a23 := Tryz.isAgg149
 z23 := Tryz.sizeOf149
 v23 := Tryz.zeroValue149
 t26 := Tryz.underlying9
 a26 := Tryz.isAgg9
 z26 := Tryz.sizeOf9
 v26 := Tryz.zeroValue9
 t27 := Tryz.underlying168
 a27 := Tryz.isAgg168
 z27 := Tryz.sizeOf168
 v27 := Tryz.zeroValue168
 t28 := Tryz.underlying169
 a28 := Tryz.isAgg169
 z28 := Tryz.sizeOf169
 v28 := Tryz.zeroValue169
 t33 := Tryz.underlying47
 a33 := Tryz.isAgg47
 z33 := Tryz.sizeOf47
 v33 := Tryz.zeroValue47 }
def Tryz.sorted107_ren : Go.Shelf.Ren := ⟨fun | 6 => 107 | 8 => 118 | 9 => 119 | 11 => 125 | 13 => 127 | 12 => 126 | 23 => 140 | 24 => 141 | 14 => 131 | 15 => 132 | 16 => 133 | 17 => 134 | 18 => 135 | 19 => 136 | 20 => 137 | 21 => 138 | 22 => 139 | 25 => 142 | 26 => 143 | 27 => 144 | 28 => 145 | 29 => 146 | 30 => 147 | 31 => 148 | n => n, fun | 26 => 9 | 28 => 169 | 24 => 125 | 0 => 0 | 3 => 3 | 37 => 105 | 48 => 142 | 50 => 63 | 4 => 4 | 40 => 196 | 39 => 195 | 45 => 56 | 5 => 5 | 9 => 9 | 51 => 203 | 55 => 207 | 57 => 209 | 58 => 210 | 33 => 47 | n => n, fun | n => n⟩
theorem Tryz.sorted107 : Go.Proofs.SlLaysZ.n6 Tryz.prog Tryz.sorted107_ren := {
 mixed := by kernel_rfl
 f6 := ⟨Tryz.f107.name, by decide, Tryz.func107.trans (congrArg some (by kernel_rfl))⟩
 f8 := ⟨Tryz.f118.name, by decide, Tryz.func118.trans (congrArg some (by kernel_rfl))⟩
 f11 := ⟨Tryz.f125.name, by decide, Tryz.func125.trans (congrArg some (by kernel_rfl))⟩
 t0 := Tryz.underlying0
 a0 := Tryz.isAgg0
 z0 := Tryz.sizeOf0
 v0 := Tryz.zeroValue0
 t24 := Tryz.underlying125
 a24 := Tryz.isAgg125
 z24 := Tryz.sizeOf125
 v24 := Tryz.zeroValue125
 t26 := Tryz.underlying9
 a26 := Tryz.isAgg9
 z26 := Tryz.sizeOf9
 v26 := Tryz.zeroValue9
 t28 := Tryz.underlying169
 a28 := Tryz.isAgg169
 z28 := Tryz.sizeOf169
 v28 := Tryz.zeroValue169
 i26 := by kernel_rfl }
def Tryz.sort119_ren : Go.Shelf.Ren := ⟨fun | 6 => 119 | 8 => 127 | 9 => 126 | 19 => 140 | 20 => 141 | 21 => 131 | 22 => 132 | 23 => 133 | 24 => 134 | 25 => 135 | 26 => 136 | 27 => 137 | 28 => 138 | 29 => 139 | 36 => 142 | 31 => 143 | 32 => 144 | 37 => 145 | 38 => 146 | 39 => 147 | 41 => 148 | n => n, fun | 27 => 125 | 29 => 9 | 3 => 3 | 32 => 105 | 26 => 125 | 0 => 0 | 44 => 142 | 46 => 63 | 4 => 4 | 36 => 196 | 35 => 195 | 41 => 56 | 5 => 5 | 9 => 9 | 53 => 203 | 57 => 207 | 63 => 209 | 64 => 210 | n => n, fun | n => n⟩
theorem Tryz.sort119 : Go.Proofs.SlLaysM.n6 Tryz.prog Tryz.sort119_ren := {
 mixed := by kernel_rfl
 f6 := ⟨Tryz.f119.name, by decide, Tryz.func119.trans (congrArg some (by kernel_rfl))⟩
 f8 := Tryz.func127.trans (congrArg some (by kernel_rfl))
 f9 := ⟨Tryz.f126.name, by decide, Tryz.func126.trans (congrArg some (by kernel_rfl))⟩
 f19 := Tryz.func140.trans (congrArg some (by kernel_rfl))
 f20 := Tryz.func141.trans (congrArg some (by kernel_rfl))
 f21 := ⟨Tryz.f131.name, by decide, Tryz.func131.trans (congrArg some (by kernel_rfl))⟩
 f22 := ⟨Tryz.f132.name, by decide, Tryz.func132.trans (congrArg some (by kernel_rfl))⟩
 f23 := ⟨Tryz.f133.name, by decide, Tryz.func133.trans (congrArg some (by kernel_rfl))⟩
 f24 := ⟨Tryz.f134.name, by decide, Tryz.func134.trans (congrArg some (by kernel_rfl))⟩
 f25 := ⟨Tryz.f135.name, by decide, Tryz.func135.trans (congrArg some (by kernel_rfl))⟩
 f26 := ⟨Tryz.f136.name, by decide, Tryz.func136.trans (congrArg some (by kernel_rfl))⟩
 f27 := ⟨Tryz.f137.name, by decide, Tryz.func137.trans (congrArg some (by kernel_rfl))⟩
 f28 := ⟨Tryz.f138.name, by decide, Tryz.func138.trans (congrArg some (by kernel_rfl))⟩
 f29 := ⟨Tryz.f139.name, by decide, Tryz.func139.trans (congrArg some (by kernel_rfl))⟩
 f31 := Tryz.func143.trans (congrArg some (by kernel_rfl))
 f32 := Tryz.func144.trans (congrArg some (by kernel_rfl))
 f36 := ⟨Tryz.f142.name, by decide, Tryz.func142.trans (congrArg some (by kernel_rfl))⟩
 f37 := ⟨Tryz.f145.name, by decide, Tryz.func145.trans (congrArg some (by kernel_rfl))⟩
 f38 := ⟨Tryz.f146.name, by decide, Tryz.func146.trans (congrArg some (by kernel_rfl))⟩
 f39 := ⟨Tryz.f147.name, by decide, Tryz.func147.trans (congrArg some (by kernel_rfl))⟩
 f41 := ⟨Tryz.f148.name, by decide, Tryz.func148.trans (congrArg some (by kernel_rfl))⟩
 t0 := Tryz.underlying0
 a0 := Tryz.isAgg0
 z0 := Tryz.sizeOf0
 v0 := Tryz.zeroValue0
 t3 := Tryz.underlying3
 a3 := Tryz.isAgg3
 z3 := Tryz.sizeOf3
 v3 := Tryz.zeroValue3
 t4 := Tryz.underlying4
 a4 := Tryz.isAgg4
 z4 := Tryz.sizeOf4
 v4 := Tryz.zeroValue4
 t5 := Tryz.underlying5
 a5 := Tryz.isAgg5
 z5 := Tryz.sizeOf5
 v5 := Tryz.zeroValue5
 t9 := Tryz.underlying9
 a9 := Tryz.isAgg9
 z9 := Tryz.sizeOf9
 v9 := Tryz.zeroValue9
 t26 := Tryz.underlying125
 a26 := Tryz.isAgg125
 z26 := Tryz.sizeOf125
 v26 := Tryz.zeroValue125
 t27 := Tryz.underlying125
 a27 := Tryz.isAgg125
 z27 := Tryz.sizeOf125
 v27 := Tryz.zeroValue125
 t29 := Tryz.underlying9
 a29 := Tryz.isAgg9
 z29 := Tryz.sizeOf9
 v29 := Tryz.zeroValue9
 t32 := Tryz.underlying105
 a32 := Tryz.isAgg105
 z32 := Tryz.sizeOf105
 v32 := Tryz.zeroValue105
 t35 := Tryz.underlying195
 a35 := Tryz.isAgg195
 z35 := Tryz.sizeOf195
 v35 := Tryz.zeroValue195
 t36 := Tryz.underlying196
 a36 := Tryz.isAgg196
 z36 := Tryz.sizeOf196
 v36 := Tryz.zeroValue196
 t41 := Tryz.underlying56
 a41 := Tryz.isAgg56
 z41 := Tryz.sizeOf56
 v41 := Tryz.zeroValue56
 t44 := Tryz.underlying142
 a44 := Tryz.isAgg142
 z44 := Tryz.sizeOf142
 v44 := Tryz.zeroValue142
 t46 := Tryz.underlying63
 a46 := Tryz.isAgg63
 z46 := Tryz.sizeOf63
 v46 := Tryz.zeroValue63
 t53 := Tryz.underlying203
 a53 := Tryz.isAgg203
 z53 := Tryz.sizeOf203
 v53 := Tryz.zeroValue203
 t57 := Tryz.underlying207
 a57 := Tryz.isAgg207
 z57 := Tryz.sizeOf207
 v57 := Tryz.zeroValue207
 t63 := Tryz.underlying209
 a63 := Tryz.isAgg209
 z63 := Tryz.sizeOf209
 v63 := Tryz.zeroValue209
 t64 := Tryz.underlying210
 a64 := Tryz.isAgg210
 z64 := Tryz.sizeOf210
 v64 := Tryz.zeroValue210 }
def Tryz.clone105_ren : Go.Shelf.Ren := ⟨fun | 5 => 105 | 7 => 117 | n => n, fun | 23 => 149 | 25 => 9 | 3 => 153 | 4 => 4 | 20 => 20 | n => n, fun | n => n⟩
theorem Tryz.clone105 : Go.Proofs.SlLaysW.n5 Tryz.prog Tryz.clone105_ren := {
 mixed := by kernel_rfl
 f5 := ⟨Tryz.f105.name, by decide, Tryz.func105.trans (congrArg some (by kernel_rfl))⟩
 f7 := Tryz.func117.trans (congrArg some (by kernel_rfl))
 t4 := Tryz.underlying4
 a4 := Tryz.isAgg4
 z4 := Tryz.sizeOf4
 v4 := Tryz.zeroValue4
 t20 := Tryz.underlying20
 a20 := Tryz.isAgg20
 z20 := Tryz.sizeOf20
 v20 := Tryz.zeroValue20
 t23 := Tryz.underlying149
 a23 := Tryz.isAgg149
 z23 := Tryz.sizeOf149
 v23 := Tryz.zeroValue149 }
end Go.Proofs
namespace Go.Proofs.YtlphgephdhadhaaGreat
open Go Go.RowKit
open Go.WideElems (Fit rd rg rg_of)
open Go.Maps
theorem yc7 (m : Nat) : AnyZ.SortsIn Tryz.prog Tryz.sorted107_ren Fence.wide m :=
 ⟨fun blk off cap ss W hH hblk hsz => callsIn_wide.2 (AnyM.slices_Sort_string Tryz.sort119 blk off cap ss W hH hblk hsz),
  fun p cap W => callsIn_wide.2 (AnyM.slices_Sort_string_none Tryz.sort119 p cap W)⟩
def ypb (_ : Value) : Option (DataW Unit × List MemPlace) := some (.lit (.bool true), [])
set_option maxHeartbeats 1000000 in
theorem yh4 (w : World) (Bm b clock : Nat) (x : MapEntry) (s : ByteArray) (hB : Bm < w.heap.size) (hc : w.cell? ⟨Bm, 0, none⟩ = some (.map (some b))) (hb : w.heap[b]? = some (.map #[x] clock)) (hst : MapKept.Stamped #[x] clock)
   (hk : x.key = .string s) (hs : s.size <= 1000) :
   Calls Tryz.prog 107 #[.func (.func 120) #[] #[.pointer (some ⟨Bm, 0, none⟩)]] w fun e w' => ∃ v, e = .returned v /\ w'.ownsRow w.heap.size 9 1 v 1 [.string s] /\ Below w.heap.size w w' := by
 have hrd : rd Tryz.prog 9 ypb x = some (.string s.data.toList, .lit (.bool true)) := by
   have hl : s.size <= maxLen := Nat.le_trans hs (by decide)
   simp [rd, ypb, Go.keyOf, hk, mapKey, Tryz.underlying9, hl]
 have hown : w.ownsMap Tryz.prog 9 ypb b 1 (.map [(.string s.data.toList, .lit (.bool true))]) := by
   refine ⟨#[x], clock, hb, ⟨(show 1 <= maxLen by decide), hst, fun y hy => ?_⟩, by simp, ?_⟩
   · simp at hy; subst hy; exact ⟨_, hrd⟩
   · simp [rg_of hrd, DataW.insert]
 have hseq := AnyZ.keys_gives (ρ := Tryz.keys108_ren) (F := Fence.wide) (n := 2) { Tryz.keys108 with } trivial rfl (by omega) Bm b 1 _ w hB hc hown
 refine (callsIn_wide.1 (AnyZ.sorted_in Tryz.sorted107 Fence.wide 5 trivial trivial trivial trivial rfl (by omega) (yc7 _) (enters_of Tryz.func119 (by kernel_rfl) rfl) 120 _ trivial (enters_of Tryz.func120 (by kernel_rfl) rfl) _ 1 (by decide) (by omega) w hseq)).mono ?_
 rintro e w' ⟨v, ss, rfl, hS, hrow, -, hB⟩
 have : ss = [s.data.toList] := by simpa [strKeys, strOf] using hS
 subst this
 have hrow := hrow
 simp [encStr] at hrow
 exact ⟨v, rfl, hrow, hB⟩
namespace Sy
theorem zhn {P : Program} {f : FuncId} {fn : Func} {c : Code} {vs : Array Value} {w : World} {Q : Ending -> World -> Prop} (hf : P.funcs[f]? = some fn) (hb : fn.body = some c) (hn : (fn.name == "runtime.NumGoroutine") = false) (h : Calls P f vs w Q) : ze5 P f vs w Q := by
 unfold ze5
 rw [zbx hf hn hb]
 exact h
theorem zkd {D D' : Nat -> Prop} {w w' : World} {μ : Mu} {O : List (Nat × Ob)} {r : AV} {v : Value} (hD : ∀ b, D b -> b < w.heap.size)
   (hdom : ∀ n, μ n = none ↔ za3 O n = none) (hobs : ∀ n o x, za3 O n = some o -> μ n = some x -> zgo w.heap D μ o x)
   (hinj : ∀ n n' b z z', μ n = some (some (b, z)) -> μ n' = some (some (b, z')) -> n = n') (hown : ∀ n b z, μ n = some (some (b, z)) -> b < w.heap.size /\ ¬ D b)
   (B : Below w.heap.size w w') (up : ∀ b, D b -> D' b) (dn : ∀ b, D' b -> D b \/ (w.heap.size <= b /\ b < w'.heap.size)) (rv : R w'.heap D' μ r v) : ygm D w μ O O r (.returned v) v w' D' μ :=
 { ret := rfl, os := B.os, tape := B.tape, output := B.output, size := B.size, old := fun b hb _ => B.block b hb, up := up,
   dn := fun b hb => (dn b hb).elim .inl (fun h => .inr (.inl h)), dom := hdom,
   obs := fun n o x ho hx => (hobs n o x ho hx).mono (fun b hb => B.block b (hD b hb)) up (fun _ _ h => h) (fun b z e _ => by subst e; exact B.block b (hown n b z hx).1),
   inj := hinj,
   own := fun n b z h => ⟨Nat.lt_of_lt_of_le (hown n b z h).1 B.size, fun hb => (dn b hb).elim (hown n b z h).2 (fun h2 => absurd (hown n b z h).1 (by omega)), .inr ⟨n, z, h⟩⟩,
   keep := fun _ _ _ => rfl, val := rv }
theorem ydc {D : Nat -> Prop} {w w' : World} {μ : Mu} {O : List (Nat × Ob)} {r : AV} {v : Value} (id : Nat) (o : Ob) (z : Nat × Nat) (hD : ∀ b, D b -> b < w.heap.size) (hid : za3 O id = none)
   (hdom : ∀ n, μ n = none ↔ za3 O n = none) (hobs : ∀ n o x, za3 O n = some o -> μ n = some x -> zgo w.heap D μ o x)
   (hinj : ∀ n n' b z z', μ n = some (some (b, z)) -> μ n' = some (some (b, z')) -> n = n') (hown : ∀ n b z, μ n = some (some (b, z)) -> b < w.heap.size /\ ¬ D b)
   (B : Below w.heap.size w w') (hlt : w.heap.size < w'.heap.size)
   (ok : zgo w'.heap D (fun n => if n = id then some (some (w.heap.size, z)) else μ n) o (some (w.heap.size, z)))
   (rv : R w'.heap D (fun n => if n = id then some (some (w.heap.size, z)) else μ n) r v) :
   ygm D w μ O (zbj O [(id, o)]) r (.returned v) v w' D (fun n => if n = id then some (some (w.heap.size, z)) else μ n) := by
 have hμ : μ id = none := (hdom id).2 hid
 have hm : ∀ n x, μ n = some x -> (if n = id then some (some (w.heap.size, z)) else μ n) = some x := fun n x h => by
   rw [if_neg (by rintro rfl; rw [hμ] at h; cases h)]; exact h
 have ha : ∀ n, za3 (zbj O [(id, o)]) n = if n = id then some o else za3 O n := fun n => by
   rw [ze3]
   by_cases e : n = id
   · subst e; rw [hid, if_pos rfl]; simp [za3, za5]
   · rw [if_neg e]
     cases za3 O n with
     | some _ => rfl
     | none => simp [za3, zai (fun h => e h.symm)]
 refine { ret := rfl, os := B.os, tape := B.tape, output := B.output, size := B.size, old := fun b hb _ => B.block b hb, up := fun _ h => h, dn := fun b hb => .inl hb, dom := fun n => ?_, obs := fun n o' x ho hx => ?_, inj := fun n n' b z1 z2 h1 h2 => ?_, own := fun n b z1 h => ?_, keep := fun n h _ => ?_, val := rv }
 · rw [ha]
   by_cases e : n = id
   · simp [e]
   · simp only [if_neg e]; exact hdom n
 · rw [ha] at ho
   by_cases e : n = id
   · simp only [if_pos e] at ho hx
     cases ho; cases hx
     exact ok
   · simp only [if_neg e] at ho hx
     exact (hobs n o' x ho hx).mono (fun b hb => B.block b (hD b hb)) (fun _ h => h) hm (fun b z e _ => by subst e; exact B.block b (hown n b z hx).1)
 · by_cases e : n = id <;> by_cases e' : n' = id
   · rw [e, e']
   · simp only [if_pos e, if_neg e'] at h1 h2
     cases h1
     exact absurd (hown n' _ _ h2).1 (by omega)
   · simp only [if_neg e, if_pos e'] at h1 h2
     cases h2
     exact absurd (hown n _ _ h1).1 (by omega)
   · simp only [if_neg e, if_neg e'] at h1 h2
     exact hinj n n' b z1 z2 h1 h2
 · by_cases e : n = id
   · simp only [if_pos e] at h
     cases h
     exact ⟨hlt, fun hb => absurd (hD _ hb) (by omega), .inl (Nat.le_refl _)⟩
   · simp only [if_neg e] at h
     exact ⟨Nat.lt_of_lt_of_le (hown n b z1 h).1 B.size, (hown n b z1 h).2, .inr ⟨n, z1, h⟩⟩
 · exact if_neg (fun e => h (by rw [e]; exact hid))
end Sy
end Go.Proofs.YtlphgephdhadhaaGreat
namespace Go.Proofs.YtlphgephdhadhaaGreat
namespace Sy
open Go Go.RowKit
set_option maxRecDepth 100000
set_option linter.unusedSimpArgs false
set_option linter.unusedVariables false
def yfp (x s : List UInt8) : List (Nat × Ob) := [(500001, .mapl .s [(.s nmA, .ref 500003 0)]), (500003, zcm x s)]
theorem zmz {h : Array Obj} {D : Nat -> Prop} {μ : Mu} {x : AV} {vs : Array Value} (hr : RL h D μ [x] vs) : ∃ v, vs = #[v] /\ R h D μ x v := by
 obtain ⟨hl, hr⟩ := hr
 obtain ⟨a, ha⟩ : ∃ a, vs.toList = [a] := List.length_eq_one_iff.1 (by simpa using hl.symm)
 have : vs = #[a] := by rw [<- Array.toArray_toList (xs := vs), ha]
 subst this
 exact ⟨a, rfl, hr 0 x a rfl rfl⟩
theorem zor {h : Array Obj} {D : Nat -> Prop} {μ : Mu} {b z m : Nat} {v : AV} (k : zgo h D μ (.mapl .s [(.s nmA, v)]) (some (b, z, m))) :
   ∃ x clock s, h[b]? = some (.map #[x] clock) /\ MapKept.Stamped #[x] clock /\ x.key = .string s /\ s.data.toList = nmA /\ R h D μ v x.val := by
 obtain ⟨es, clock, kf, hb, hn, hks, hnd, hr⟩ := k
 have hn : es.size = 1 := hn
 obtain ⟨x, rfl⟩ : ∃ x, es = #[x] := ⟨es[0], by
   apply Array.ext
   · simpa using hn
   · intro i h1 h2
     have : i = 0 := by simp at h2; exact h2
     subst this; rfl⟩
 obtain ⟨y, hy, ry⟩ := hr 0 x rfl
 obtain ⟨k1, k2⟩ := hks.key 0 x rfl
 obtain ⟨s, k3, k4⟩ := k1
 have hkf : kf 0 = .s nmA /\ y = v := by
   simp only [zb5] at hy
   split at hy
   · rename_i h; exact ⟨(zki h).symm, by cases hy; rfl⟩
   · cases hy
 obtain ⟨h1, rfl⟩ := hkf
 rw [h1] at k4
 exact ⟨x, clock, s, hb, hks.st, k3, (Ky.s.inj k4).symm, ry⟩
def zjg : zfp := (105, fun raw ob => match raw with
 | [.mp n] => match ob n with
   | some (.mapl _ [(_, .ref i _)]) => some ⟨[.mp 500001], yfp (zba (ob i)).1 (zba (ob i)).2, True, .mp 600000, zbj (yfp (zba (ob i)).1 (zba (ob i)).2) [(600000, .mapl .s [(.s nmA, .ref 500003 0)])]⟩
   | _ => none
 | _ => none)
theorem zl0 : zcc Tryz.prog zjg := by
 intro raw ob T hT hp
 unfold zjg at hT
 simp only at hT
 repeat' split at hT
 all_goals first | (cases hT; done) | skip
 cases hT
 intro D w μ vs hD hxs hdom hobs hinj hown hg hgb
 obtain ⟨v, rfl, r1⟩ := zmz hxs
 cases r1 with
 | mp _ b z m hμ =>
   obtain ⟨es, clock, kf, hb, hn, hks, hnd, hr⟩ := hobs 500001 _ _ rfl hμ
   refine zhn (fn := Tryz.f105) rfl rfl (by kernel_rfl) ((AnyW.maps_Clone Tryz.clone105 b es clock w hb).mono ?_)
   rintro e w' ⟨rfl, rfl⟩
   have B : Below w.heap.size w (w.alloc (.map es clock)) := (Below.refl _ w).alloc (Nat.le_refl _) _
   have hm : ∀ n x, μ n = some x -> (if n = 600000 then some (some (w.heap.size, (0, 0))) else μ n) = some x := fun n x h => by
     rw [if_neg (by rintro rfl; rw [(hdom 600000).2 rfl] at h; cases h)]; exact h
   refine ⟨_, D, _, ydc 600000 _ (0, 0) hD rfl hdom hobs hinj hown B (by show w.heap.size < (w.heap.push _).size; simp) ⟨es, clock, kf, heap_alloc_new _ _, hn, hks, hnd, fun i x hx => ?_⟩ (.mp _ w.heap.size 0 0 (if_pos rfl))⟩
   obtain ⟨y, h1, h2⟩ := hr i x hx
   exact ⟨y, h1, h2.mono (fun b hb => B.block b (hD b hb)) (fun _ h => h) hm⟩
def seqO (x s : List UInt8) : List (Nat × Ob) := [(500010, .box 149 [.mp 500001]), (500001, .mapl .s [(.s nmA, .ref 500003 0)]), (500003, zcm x s)]
def zj1 : zfp := (107, fun raw ob => match raw with
 | [.fn _ [] [.ref c _]] => match ob c with
   | some (.box _ [.mp n]) => match ob n with
     | some (.mapl _ [(_, .ref i _)]) => some ⟨[.fn 120 [] [.ref 500010 0]], seqO (zba (ob i)).1 (zba (ob i)).2, True, .lst 1 1 (fun _ _ => .str nmA), seqO (zba (ob i)).1 (zba (ob i)).2⟩
     | _ => none
   | _ => none
 | _ => none)
theorem zjv : zcc Tryz.prog zj1 := by
 intro raw ob T hT hp
 unfold zj1 at hT
 simp only at hT
 repeat' split at hT
 all_goals first | (cases hT; done) | skip
 cases hT
 intro D w μ vs hD hxs hdom hobs hinj hown hg hgb
 obtain ⟨v, rfl, r1⟩ := zmz hxs
 cases r1 with
 | fn _ _ _ us1 us2 e1 e2 h1 h2 =>
   obtain ⟨u, hu⟩ : ∃ u, us2.toList = [u] := List.length_eq_one_iff.1 (by simpa using e2.symm)
   have : us2 = #[u] := by rw [<- Array.toArray_toList (xs := us2), hu]
   subst this
   have : us1 = #[] := by
     apply Array.eq_empty_of_size_eq_zero
     simpa using e1.symm
   subst this
   have r2 : R w.heap D μ (.ref 500010 0) u := h2 0 _ u rfl rfl
   cases r2 with
   | ref _ _ b z m hμ =>
     obtain ⟨C, t, fr, hb, hz, hf, ho, hC⟩ := hobs 500010 _ _ rfl hμ
     obtain ⟨v0, rfl, r3⟩ := zmz hC
     cases r3 with
     | mp _ bm zm mm hμm =>
       obtain ⟨x, clock, s, hbm, hst, hk, hs, rx⟩ := zor (hobs 500001 _ _ rfl hμm)
       have hss : s.size = 1 := by
         have := congrArg List.length hs
         simpa [nmA] using this
       refine zhn (fn := Tryz.f107) rfl rfl (by kernel_rfl) ((yh4 w b bm clock x s (hown _ _ _ hμ).1 (by rw [zg4]; simp [zb2 hb]) hbm hst hk (by omega)).mono ?_)
       rintro e w' ⟨v, rfl, ⟨-, hrow⟩, B⟩
       rcases hrow with ⟨-, h0⟩ | ⟨g, cap, cur, rfl, hg0, hgb, hc1, hc2, hc3, hc4⟩
       · cases h0
       have hcur : cur[0]? = some (.string s) := by
         have := congrArg (fun l => l[0]?) hc4
         simpa using this
       have hlt : g < w'.heap.size := (Array.getElem?_eq_some_iff.1 hgb).1
       refine ⟨_, fun b => D b \/ b = g, μ, zkd hD hdom hobs hinj hown B (fun b h => .inl h) (fun b h => h.elim .inl (fun e => .inr (by subst e; exact ⟨hg0, hlt⟩))) (.lst 1 1 _ g 0 cap (fun _ _ => .string s) (.inr rfl) hc1 (fun i j hi hj => ?_) (fun i j hi hj => rfl) (fun i j hi hj => .str _ s hs))⟩
       have : i = 0 := by omega
       subst this
       have : j = 0 := by omega
       subst this
       rw [zb2 hgb]
       exact hcur
def zc7 (a : List UInt8) : Prop := a.length <= 1000
def zwy (L : za9) : zcw := (116, fun xs => match xs with | [.str a] => some (L zc7 a, .str a) | _ => none)
def yc9 (L : za9) : zcw := (103, fun xs => match xs with | [.str a] => some (L zc7 a, .str a) | _ => none)
theorem zwz : zdd Tryz.prog (zwy std) := by
 intro xs p r h hp
 dsimp only [zwy] at h |-
 split at h <;> cases h
 try simp only [L2, L3, std] at hp |-
 rename_i a
 have h1 : a.length <= 1000 := hp
 exact ze4 (fn := Tryz.f116) rfl rfl (by kernel_rfl) (yka (zjt _)) (fun h D => zwm h D zap _) (fun w => Tryz.stringslite_Clone ⟨a.toArray⟩ w (by show a.toArray.size <= _; rw [List.size_toArray]; omega))
theorem zsa : zdd Tryz.prog (yc9 std) := by
 intro xs p r h hp
 dsimp only [yc9] at h |-
 split at h <;> cases h
 try simp only [L2, L3, std] at hp |-
 rename_i a
 have h1 : zc7 a := hp
 refine zaa (T := tt) (S := fun L => zbf [zwy L]) (lo := noA) (lb := noA) 5 (fn := Tryz.f103) rfl rfl (by kernel_rfl) (by kernel_rfl) rfl zae (za7 ⟨zwz, trivial⟩) (by kernel_rfl) ?_
 (intro L P1 Q1 hL hP hQ; cbv; subst hL; simp only [L2, L3, std, syT]; subst hQ)
 (simp only [syS, reduceCtorEq, Int.reduceToNat, Int.reduceAdd, Int.reduceSub])
 exact h1
def yd6 (a : List UInt8) : Bool := !decide (a = []) && decide (a.length <= 32)
def zsu (L : za9) : zcw := (99, fun xs => match xs with | [.str a] => some (L zc7 a, .bool (L yd6 a)) | _ => none)
theorem zou : zdd Tryz.prog (zsu std) := by
 intro xs p r h hp
 dsimp only [zsu] at h |-
 split at h <;> cases h
 try simp only [L2, L3, std] at hp |-
 rename_i a
 have h1 : a.length <= 1000 := hp
 refine zaa (T := tt) (S := noS) (lo := noA) (lb := noA) 5 (fn := Tryz.f99) rfl rfl (by kernel_rfl) (by kernel_rfl) rfl zae (zdx _) (by kernel_rfl) ?_
 (intro L P1 Q1 hL hP hQ; cbv; subst hL; simp only [L2, L3, std, syT]; subst hQ)
 (simp only [syS, reduceCtorEq, Int.reduceToNat, Int.reduceAdd, Int.reduceSub])
 refine ⟨fun h => ?_, fun h => ?_⟩
 · unfold yd6
   rw [decide_eq_false h]
   unfold ile
   simp
   omega
 · subst h; rfl
def zhe (s : List UInt8) (i q : Nat) : Int := if q < i then zq7 s q else 0
def ypn (L : za9) (s : List UInt8) : Nat -> St -> Option Ann := fun id st => match id with
 | 0 => some ⟨Nat, fun i => [(27, .int .i64 (L zab i))], fun i => [(24, .row 5 1 (L lenN s) (fun q _ => .int .u8 (L3 L zhe s i q)))], [0, 1, 6, 26], [500003],
     fun i => L2 L (fun (s : List UInt8) i => i <= s.length) s i, fun i => L2 L (fun (s : List UInt8) (i : Nat) => s.length - i) s i⟩
 | _ => none
theorem yb4 (s : List UInt8) : bytesOf s.length (fun k => zq7 s k) = s := by
 apply List.ext_getElem
 · simp [bytesOf]
 · intro i h1 h2
   simp [bytesOf, zq7, h2]
theorem shr0 (k : IntKind) (b : Int) : zmh k 0 b = 0 := by unfold zmh; simp
theorem ylb {i : Nat} (h : i <= 1000) : ile 0 (Int.tmod (yof .i64 (zab i) 64) 63) = true := by
 have e1 : (zab i).tdiv 64 = ((i / 64 : Nat) : Int) := by
   unfold zab
   exact (Int.ofNat_tdiv i 64).symm
 unfold yof
 rw [zdj, e1]
 have e2 : ((i / 64 : Nat) : Int) + 9223372036854775808 < 18446744073709551616 := by omega
 rw [Int.emod_eq_of_lt (by omega) e2]
 unfold ile
 rw [decide_eq_true_eq]
 exact Int.tmod_nonneg _ (by omega)
def zzd (L : za9) : zfp := (109, fun raw ob => match raw with
 | [.ref i 0, .int .u64 _] => some ⟨[.ref 500003 0, .int .u64 0], [(500003, zcm (zba (ob i)).1 (zba (ob i)).2)], L zc7 (zba (ob i)).2, .str (zba (ob i)).2, [(500003, zcm (zba (ob i)).1 (zba (ob i)).2)]⟩
 | _ => none)
theorem yij (x s : List UInt8) (hs : zc7 s) : zan Tryz.prog 109 [.ref 500003 0, .int .u64 0] [(500003, zcm x s)] (.str s) [(500003, zcm x s)] := by
 have hs : s.length <= 1000 := hs
 refine zaj (T := tt) (S := fun L => zb0 [] []) (lo := fun L => ypn L s) (lb := noA) 8 (fn := Tryz.f109) (xs := fun L => [.ref 500003 0, .int .u64 0]) (rts := fun _ => [.str s]) (O := fun L => [(500003, zcm x s)]) (O1 := fun L => [(500003, zcm x s)])
   rfl rfl (by kernel_rfl) (by kernel_rfl) (by kernel_rfl) zae (za8 trivial trivial) (by kernel_rfl) ?_
 intro L P' Q' hL hP hQ
 (cbv; try simp only [syT, true_and, and_true])
 refine ⟨?_, fun h1 => ?_, fun h1 => ⟨?_, ⟨0, ?_⟩, fun i hi => ?_⟩⟩
 · subst hL; decide
 · exfalso
   subst hL
   revert h1
   simp only [std, L2]
   decide
 · subst hL
   show ym5 1 (slen s) (slen s) = true
   rw [yfx]
   unfold slen
   omega
 · (cbv; try simp only [syT, true_and, and_true])
   subst hL
   refine ⟨⟨rfl, fun a b ha hb => ?_⟩, rfl, Nat.zero_le _⟩
   have : b = 0 := by omega
   subst this
   simp [zc0, L3, std, zhe]
 · (cbv; try simp only [syT, true_and, and_true])
   refine ⟨fun h2 => ⟨?_, ?_, ?_, fun h3 => ?_, fun h3 => ⟨fun h4 => ⟨?_, ?_, ⟨i + 1, ?_⟩⟩, fun h4 => ?_⟩⟩, fun h2 => ?_⟩
   · subst hL; decide
   · subst hL; decide
   · subst hL
     have hi : i <= s.length := hi
     exact ylb (by omega)
   · exfalso
     subst hL
     revert h3
     simp only [std, shr0]
     decide
   · subst hL
     have h4 : ilt (zab i) (slen s) = true := h4
     rw [ze8] at h4
     show inR (zab i) (slen s) = true
     rw [zpb]
     exact ⟨Int.natCast_nonneg _, h4⟩
   · subst hL
     have h4 : ilt (zab i) (slen s) = true := h4
     rw [ze8] at h4
     show inR (zab i) (zab (Int.toNat (slen s))) = true
     rw [zpb]
     exact ⟨Int.natCast_nonneg _, h4⟩
   · (cbv; try simp only [syT, true_and, and_true])
     subst hL
     have hi : i <= s.length := hi
     have h4 : ilt (zab i) (slen s) = true := h4
     rw [ze8] at h4
     have h4 : (i : Int) < (s.length : Int) := h4
     refine ⟨fun a b ha hb => ?_, ?_, ?_, ?_⟩
     · refine (yp8 _ .u8 _ (zhe s i) a b hb).trans (congrArg (AV.int .u8) ?_)
       show (if a = 0 + (zab i).toNat then zq7 s (zab i) else zhe s i a) = zhe s (i + 1) a
       have e1 : 0 + (zab i).toNat = i := by unfold zab; omega
       rw [e1]
       unfold zhe
       by_cases e : a = i
       · subst e
         rw [if_pos rfl, if_pos (by omega)]; rfl
       · rw [if_neg e]
         by_cases e2 : a < i
         · rw [if_pos e2, if_pos (by omega)]
         · rw [if_neg e2, if_neg (by omega)]
     · show zce .i64 (zab i) 1 = zab (i + 1)
       unfold zce zab
       rw [zdj]
       omega
     · show i + 1 <= s.length
       omega
     · show s.length - (i + 1) < s.length - i
       omega
   · exfalso
     subst hL
     have h2 : ilt (zab i) (zab (Int.toNat (slen s))) = true := h2
     have h4 : ilt (zab i) (slen s) = false := h4
     have e : zab (Int.toNat (slen s)) = slen s := by unfold zab slen; omega
     rw [e, h4] at h2
     cases h2
   · subst hL
     have hi : i <= s.length := hi
     have h2 : ilt (zab i) (zab (Int.toNat (slen s))) = false := h2
     rw [zia] at h2
     have e : i = s.length := by unfold zab slen at h2; omega
     subst e
     refine ⟨⟨?_, fun k _ => ⟨_, rfl⟩⟩, ?_⟩
     · show 0 + s.length <= s.length
       omega
     · show bytesOf s.length (fun k => zhe s s.length (0 + k)) = s
       refine Eq.trans ?_ (yb4 s)
       unfold bytesOf
       refine List.map_congr_left fun k hk => ?_
       have hk : k < s.length := by simpa using hk
       show UInt8.ofNat (zhe s s.length (0 + k)).toNat = UInt8.ofNat (zq7 s k).toNat
       unfold zhe
       rw [if_pos (by omega), Nat.zero_add]
theorem zze : zcc Tryz.prog (zzd std) := by
 intro raw ob T hT hp
 unfold zzd at hT
 simp only at hT
 repeat' split at hT
 all_goals first | (cases hT; done) | (cases hT; exact yij _ _ hp)
def DkS.used (L : za9) : DkS -> Int
 | .c _ x _ => L slen x
 | _ => 0
def DkS.usable : DkS -> Prop
 | .a _ => True
 | .c _ x _ => zc7 x
 | _ => False
def zry (L : za9) : zfp := (100, fun raw ob => match raw with
 | [.ref id 0] => match ya8 ob id with
   | some sh => some ⟨[.ref 500000 0], dkO 500005 sh, L DkS.usable sh, .int .i64 (sh.used L), dkO 500005 sh⟩
   | _ => none
 | _ => none)
theorem zo5 : zcc Tryz.prog (zry std) := by
 intro raw ob T hT hp
 unfold zry at hT
 simp only at hT
 repeat' split at hT
 all_goals first | (cases hT; done) | skip
 rename_i sh hsh
 cases hT
 intro D w μ vs hD hxs hdom hobs hinj hown hg hgb
 obtain ⟨v, rfl, r1⟩ := zmz hxs
 cases r1 with
 | ref _ _ b z m hμ =>
   cases sh with
   | b k x s => exact hp.elim
   | d k x s y t => exact hp.elim
   | a k =>
     obtain ⟨C, t, fr, hb, hz, hf, ho, hC1, hC2⟩ := hobs 500000 _ _ rfl hμ
     obtain ⟨v1, hv1⟩ : ∃ v1, C[1]? = some v1 := ⟨C[1]'(by rw [<- hC1]; simp), by simp⟩
     have r2 : R w.heap D μ (.mp 500001) v1 := hC2 1 _ v1 rfl hv1
     cases r2 with
     | mp _ bm zm mm hμm =>
       obtain ⟨es, clock, kf, hbm, hn, hks, hnd, hr⟩ := hobs 500001 _ _ rfl hμm
       have hes : es = #[] := Array.eq_empty_of_size_eq_zero hn
       subst hes
       refine zhn (fn := Tryz.f100) rfl rfl (by kernel_rfl) ((yon w b bm clock (by rw [zg4, zb2 hb]; exact hv1) hbm).mono ?_)
       rintro e w' ⟨rfl, B⟩
       exact ⟨_, D, μ, zkd hD hdom hobs hinj hown B (fun b h => h) (fun b h => .inl h) (.int _ _)⟩
   | c k x s =>
     obtain ⟨C, t, fr, hb, hz, hf, ho, hC1, hC2⟩ := hobs 500000 _ _ rfl hμ
     obtain ⟨v1, hv1⟩ : ∃ v1, C[1]? = some v1 := ⟨C[1]'(by rw [<- hC1]; simp), by simp⟩
     have r2 : R w.heap D μ (.mp 500001) v1 := hC2 1 _ v1 rfl hv1
     cases r2 with
     | mp _ bm zm mm hμm =>
       obtain ⟨e, clock, s1, hbm, hst, hk, hs, rx⟩ := zor (hobs 500001 _ _ rfl hμm)
       generalize hev : e.val = ev at rx
       cases rx with
       | ref _ _ bn zn mn hμn =>
         obtain ⟨C', t', fr', hb', hz', hf', ho', hC1', hC2'⟩ := hobs 500003 _ _ rfl hμn
         obtain ⟨v2, hv2⟩ : ∃ v2, C'[0]? = some v2 := ⟨C'[0]'(by rw [<- hC1']; simp), by simp⟩
         have r3 : R w.heap D μ (.str x) v2 := hC2' 0 _ v2 rfl hv2
         obtain ⟨s2, rfl, hs2⟩ := r3.inv_str
         have hsh : x.length <= 1000 := hp
         have hsz : s2.size = x.length := by rw [<- hs2]; simp
         refine zhn (fn := Tryz.f100) rfl rfl (by kernel_rfl) ((yom w b bm bn clock e s2 (by rw [zg4, zb2 hb]; exact hv1) hbm hst hev (by rw [zg4, zb2 hb']; exact hv2)).mono ?_)
         rintro e w' ⟨rfl, B⟩
         have he : wrap64 (s2.size : Int) = slen x := by
           unfold wrap64 slen
           omega
         rw [he]
         exact ⟨_, D, μ, zkd hD hdom hobs hinj hown B (fun b h => h) (fun b h => .inl h) (.int _ _)⟩
def wrO (L : za9) (x : List UInt8) : DkS -> List (Nat × Ob)
 | .a k => [(500000, zrg (.sl 17 4 0 1) (L inc k)), (500001, .mapl .s [(.s nmA, .ref 64 0)]), (500002, .mapl .s []), (64, zcm x []), (17, ycw nmA)]
 | .c k y s => [(500000, zrg (.sl 17 4 0 1) (L inc k)), (500001, .mapl .s [(.s nmA, .ref 500003 0), (.s nmB, .ref 64 0)]), (500002, .mapl .s [(.s nmA, .ref 500003 0)]), (500003, zcm y s), (64, zcm x []), (17, ycw nmB)]
 | _ => []
def yoe : DkS -> List UInt8
 | .a _ => nmA
 | _ => nmB
def yny (x : List UInt8) : DkS -> Prop
 | .a k => zcf k /\ x.length <= 50
 | .c k y s => zcf k /\ x.length <= 50 /\ y.length <= 50
 | _ => False
def zq9 (L : za9) : zfp := (84, fun raw ob => match raw with
 | [.ref id 0, .str _, .str x] => match ya8 ob id with
   | some sh => some ⟨[.ref 500000 0, .str (yoe sh), .str x], dkO 500005 sh, L2 L yny x sh, .int .i64 0, wrO L x sh⟩
   | _ => none
 | _ => none)
theorem ygp (k : Int) (x : List UInt8) (hk : zcf k) (hx : x.length <= 50) : zan Tryz.prog 84 [.ref 500000 0, .str nmA, .str x] (dkO 500005 (.a k)) (.int .i64 0) (wrO std x (.a k)) := by
 refine zaj (T := tt) (S := fun L => zb0 [yc9 L, zsu L] [yhw, zry L, zig L, zj0]) (lo := noA) (lb := noA) 8 (fn := Tryz.f84) (xs := fun L => [.ref 500000 0, .str nmA, .str x]) (rts := fun _ => [.int .i64 0]) (O := fun L => dkO 500005 (.a k)) (O1 := fun L => wrO L x (.a k))
   rfl rfl (by kernel_rfl) (by kernel_rfl) (by kernel_rfl) zae (za8 ⟨zsa, zou, trivial⟩ ⟨zk8, zo5, zgi, zjs, trivial⟩) (by kernel_rfl) ?_
 intro L P' Q' hL hP hQ
 (cbv; try simp only [syT, true_and, and_true])
 subst hL
 have e0 : ine 0 0 = false := by decide
 have e1 : yd6 [97] = true := by decide
 have e2 : ile 16 (Int.ofNat 0) = false := by decide
 have e3 : ilt 100 (zce .i64 (slen x) 0) = false := by
   rw [zia]
   unfold zce slen
   rw [zdj]
   omega
 have e4 : zc7 x := by unfold zc7; omega
 have e5 : zc7 [97] := by unfold zc7; decide
 simp [std, e0, e1, e2, e3, e4, e5, DkS.usable, DkS.k, hk]
 decide
theorem ygo (k : Int) (x y s : List UInt8) (hk : zcf k) (hx : x.length <= 50) (hy : y.length <= 50) : zan Tryz.prog 84 [.ref 500000 0, .str nmB, .str x] (dkO 500005 (.c k y s)) (.int .i64 0) (wrO std x (.c k y s)) := by
 refine zaj (T := tt) (S := fun L => zb0 [yc9 L, zsu L] [yhw, zry L, zig L, zj0]) (lo := noA) (lb := noA) 8 (fn := Tryz.f84) (xs := fun L => [.ref 500000 0, .str nmB, .str x]) (rts := fun _ => [.int .i64 0]) (O := fun L => dkO 500005 (.c k y s)) (O1 := fun L => wrO L x (.c k y s))
   rfl rfl (by kernel_rfl) (by kernel_rfl) (by kernel_rfl) zae (za8 ⟨zsa, zou, trivial⟩ ⟨zk8, zo5, zgi, zjs, trivial⟩) (by kernel_rfl) ?_
 intro L P' Q' hL hP hQ
 (cbv; try simp only [syT, true_and, and_true])
 subst hL
 have e0 : ine 0 0 = false := by decide
 have e1 : yd6 [98] = true := by decide
 have e2 : ile 16 (Int.ofNat 1) = false := by decide
 have e3 : ilt 100 (zce .i64 (slen x) (slen y)) = false := by
   rw [zia]
   unfold zce slen
   rw [zdj]
   omega
 have e4 : zc7 x := by unfold zc7; omega
 have e6 : zc7 y := by unfold zc7; omega
 have e5 : zc7 [98] := by unfold zc7; decide
 simp [std, e0, e1, e2, e3, e4, e5, e6, DkS.usable, DkS.k, hk]
 decide
theorem zu2 : zcc Tryz.prog (zq9 std) := by
 intro raw ob T hT hp
 unfold zq9 at hT
 simp only at hT
 repeat' split at hT
 all_goals first | (cases hT; done) | skip
 rename_i x _ sh hsh
 cases hT
 have hp : yny x sh := hp
 cases sh with
 | a k => exact ygp k x hp.1 hp.2
 | b k y s => exact hp.elim
 | c k y s => exact ygo k x y s hp.1 hp.2.1 hp.2.2
 | d k y s z t => exact hp.elim
def zwk (L : za9) : zfp := (85, fun raw ob => match raw with
 | [.ref id 0, .str _] => match ya8 ob id with
   | some (.b k x s) => some ⟨[.ref 500000 0, .str nmA], dkO 500005 (.b k x s), L zcf k, .int .i64 0, dkO 500005 (.b (L inc k) x x)⟩
   | _ => none
 | _ => none)
theorem yl6 (k : Int) (x s : List UInt8) (hk : zcf k) : zan Tryz.prog 85 [.ref 500000 0, .str nmA] (dkO 500005 (.b k x s)) (.int .i64 0) (dkO 500005 (.b (inc k) x x)) := by
 refine zaj (T := tt) (S := fun L => zb0 [] [zmm, zig L]) (lo := noA) (lb := noA) 8 (fn := Tryz.f85) (xs := fun L => [.ref 500000 0, .str nmA]) (rts := fun _ => [.int .i64 0]) (O := fun L => dkO 500005 (.b k x s)) (O1 := fun L => dkO 500005 (.b (L inc k) x x))
   rfl rfl (by kernel_rfl) (by kernel_rfl) (by kernel_rfl) zae (za8 trivial ⟨zlj, zgi, trivial⟩) (by kernel_rfl) ?_
 intro L P' Q' hL hP hQ
 (cbv; try simp only [syT, true_and, and_true])
 subst hL
 have e0 : ieq 0 0 = true := by decide
 simp [std, e0, DkS.k, hk]
theorem zwl : zcc Tryz.prog (zwk std) := by
 intro raw ob T hT hp
 unfold zwk at hT
 simp only at hT
 repeat' split at hT
 all_goals first | (cases hT; done) | (cases hT; exact yl6 _ _ _ hp)
def sdO (k : Int) (x s : List UInt8) : List (Nat × Ob) := [(500000, ztu 500001 18 .nils k), (500001, .mapl .s [(.s nmA, .ref 500003 0)]), (18, .mapl .s [(.s nmA, .ref 500003 0)]), (500003, zcm x s)]
def zww (L : za9) : zfp := (86, fun raw ob => match raw with
 | [.ref id 0] => match ya8 ob id with
   | some (.b k x s) => some ⟨[.ref 500000 0], dkO 500005 (.b k x s), L zcf k, .int .i64 0, sdO (L inc k) x s⟩
   | _ => none
 | _ => none)
theorem ylf (k : Int) (x s : List UInt8) (hk : zcf k) : zan Tryz.prog 86 [.ref 500000 0] (dkO 500005 (.b k x s)) (.int .i64 0) (sdO (inc k) x s) := by
 refine zaj (T := tt) (S := fun L => zb0 [] [yhw, zig L, zjg]) (lo := noA) (lb := noA) 8 (fn := Tryz.f86) (xs := fun L => [.ref 500000 0]) (rts := fun _ => [.int .i64 0]) (O := fun L => dkO 500005 (.b k x s)) (O1 := fun L => sdO (L inc k) x s)
   rfl rfl (by kernel_rfl) (by kernel_rfl) (by kernel_rfl) zae (za8 trivial ⟨zk8, zgi, zl0, trivial⟩) (by kernel_rfl) ?_
 intro L P' Q' hL hP hQ
 (cbv; try simp only [syT, true_and, and_true])
 subst hL
 have e0 : ieq 0 0 = true := by decide
 simp [std, e0, DkS.k, hk]
theorem zwx : zcc Tryz.prog (zww std) := by
 intro raw ob T hT hp
 unfold zww at hT
 simp only at hT
 repeat' split at hT
 all_goals first | (cases hT; done) | (cases hT; exact ylf _ _ _ hp)
def zxr : zfp := (88, fun raw ob => match raw with
 | [.ref id 0, .str _] => match ya8 ob id with
   | some (.c k x s) => some ⟨[.ref 500000 0, .str nmA], dkO 500005 (.c k x s), True, .tup [.str x, .int .i64 0], dkO 500005 (.c k x s)⟩
   | _ => none
 | _ => none)
theorem yln (k : Int) (x s : List UInt8) : zan Tryz.prog 88 [.ref 500000 0, .str nmA] (dkO 500005 (.c k x s)) (.tup [.str x, .int .i64 0]) (dkO 500005 (.c k x s)) := by
 refine zaj (T := tt) (S := fun L => zb0 [] [zmm]) (lo := noA) (lb := noA) 8 (fn := Tryz.f88) (xs := fun L => [.ref 500000 0, .str nmA]) (rts := fun _ => [.str x, .int .i64 0]) (O := fun L => dkO 500005 (.c k x s)) (O1 := fun L => dkO 500005 (.c k x s))
   rfl rfl (by kernel_rfl) (by kernel_rfl) (by kernel_rfl) zae (za8 trivial ⟨zlj, trivial⟩) (by kernel_rfl) ?_
 intro L P' Q' hL hP hQ
 (cbv; try simp only [syT, true_and, and_true])
 subst hL
 have e0 : ine 0 0 = false := by decide
 simp [std, e0]
theorem zxs : zcc Tryz.prog zxr := by
 intro raw ob T hT hp
 unfold zxr at hT
 simp only at hT
 repeat' split at hT
 all_goals first | (cases hT; done) | (cases hT; exact yln _ _ _)
def znq : zfp := (108, fun raw ob => match raw with
 | [.mp n] => match ob n with
   | some (.mapl _ [(_, .ref i _)]) => some ⟨[.mp 500001], yfp (zba (ob i)).1 (zba (ob i)).2, True, .fn 120 [] [.ref 1 0], zbj [(1, .box 149 [.mp 500001])] (yfp (zba (ob i)).1 (zba (ob i)).2)⟩
   | _ => none
 | _ => none)
theorem yen (x s : List UInt8) : zan Tryz.prog 108 [.mp 500001] (yfp x s) (.fn 120 [] [.ref 1 0]) (zbj [(1, .box 149 [.mp 500001])] (yfp x s)) := by
 refine zaj (T := tt) (S := fun L => zb0 [] []) (lo := noA) (lb := noA) 8 (fn := Tryz.f108) (xs := fun L => [.mp 500001]) (rts := fun _ => [.fn 120 [] [.ref 1 0]]) (O := fun L => yfp x s) (O1 := fun L => zbj [(1, .box 149 [.mp 500001])] (yfp x s))
   rfl rfl (by kernel_rfl) (by kernel_rfl) (by kernel_rfl) zae (za8 trivial trivial) (by kernel_rfl) ?_
 intro L P' Q' hL hP hQ
 (cbv; try simp only [syT, true_and, and_true])
theorem zma : zcc Tryz.prog znq := by
 intro raw ob T hT hp
 unfold znq at hT
 simp only at hT
 repeat' split at hT
 all_goals first | (cases hT; done) | (cases hT; exact yen _ _)
def zqt : zfp := (89, fun raw ob => match raw with
 | [.ref id 0] => match ya8 ob id with
   | some (.c k x s) => some ⟨[.ref 500000 0], dkO 500005 (.c k x s), True, .lst 1 1 (fun _ _ => .str nmA), dkO 500005 (.c k x s)⟩
   | _ => none
 | _ => none)
theorem yi1 (k : Int) (x s : List UInt8) : zan Tryz.prog 89 [.ref 500000 0] (dkO 500005 (.c k x s)) (.lst 1 1 (fun _ _ => .str nmA)) (dkO 500005 (.c k x s)) := by
 refine zaj (T := tt) (S := fun L => zb0 [] [yhw, znq, zj1]) (lo := noA) (lb := noA) 8 (fn := Tryz.f89) (xs := fun L => [.ref 500000 0]) (rts := fun _ => [.lst 1 1 (fun _ _ => .str nmA)]) (O := fun L => dkO 500005 (.c k x s)) (O1 := fun L => dkO 500005 (.c k x s))
   rfl rfl (by kernel_rfl) (by kernel_rfl) (by kernel_rfl) zae (za8 trivial ⟨zk8, zma, zjv, trivial⟩) (by kernel_rfl) ?_
 intro L P' Q' hL hP hQ
 (cbv; try simp only [syT, true_and, and_true])
 subst hL
 have e0 : ine 0 0 = false := by decide
 simp [std, e0]
theorem zv2 : zcc Tryz.prog zqt := by
 intro raw ob T hT hp
 unfold zqt at hT
 simp only at hT
 repeat' split at hT
 all_goals first | (cases hT; done) | (cases hT; exact yi1 _ _ _)
def zyi (x s : List UInt8) (i : Nat) : List UInt8 := if i = 0 then x else s
def isZ (i : Nat) : Bool := decide (i = 0)
def crA (L : za9) (k : Int) (x s y t : List UInt8) : Nat -> St -> Option Ann := fun id st => match id with
 | 0 => some ⟨Nat, fun i => [(21, .int .i64 (L zab i))], fun _ => [], [0, 1, 2, 19, 20], [500000, 500001, 500002, 500003, 500004, 500005], fun i => L (fun i => i <= 1) i, fun i => L (fun (i : Nat) => 1 - i) i⟩
 | 2 => some ⟨Nat, fun i => [(51, .int .i64 (L zab i)), (9, .int .i64 (L zab i))], fun i => [(500000, zrg (.sl 500005 4 0 1) k), (500001, .mapl .s [(.s nmA, .ref 500003 0), (.s nmB, .ref 500004 0)]), (500002, .mapl .s [(.s nmA, .ref 500003 0)]), (500003, .box 156 [.str (L3 L zyi x s i), .str s]), (500004, zcm y t), (43, .mapq (L isZ i))], [0, 2, 8, 49, 50], [500005], fun i => L (fun i => i <= 1) i, fun i => L (fun (i : Nat) => 1 - i) i⟩
 | _ => none
def crO (k : Int) (s : List UInt8) : List (Nat × Ob) := [(500000, ztu 19 500002 .nils k), (19, .mapl .s [(.s nmA, .ref 500003 0)]), (500002, .mapl .s [(.s nmA, .ref 500003 0)]), (500003, zcm s s)]
def zrj (L : za9) : zfp := (87, fun raw ob => match raw with
 | [.ref id 0, .nils, .nils] => match ya8 ob id with
   | some (.d k x s y t) => some ⟨[.ref 500000 0, .nils, .nils], dkO 500005 (.d k x s y t), L zc7 s, .tup [], crO k s⟩
   | _ => none
 | _ => none)
theorem yjm (k : Int) (x s y t : List UInt8) (hs : zc7 s) : zan Tryz.prog 87 [.ref 500000 0, .nils, .nils] (dkO 500005 (.d k x s y t)) (.tup []) (crO k s) := by
 refine zaj (T := tt) (S := fun L => zb0 [] [yn7, znq, zj1, zzd L, zjg]) (lo := fun L => crA L k x s y t) (lb := noA) 12 (fn := Tryz.f87) (xs := fun L => [.ref 500000 0, .nils, .nils]) (rts := fun _ => []) (O := fun L => dkO 500005 (.d k x s y t)) (O1 := fun L => crO k s)
   rfl rfl (by kernel_rfl) (by kernel_rfl) (by kernel_rfl) zae (za8 trivial ⟨zrf, zma, zjv, zze, zl0, trivial⟩) (by kernel_rfl) ?_
 intro L P' Q' hL hP hQ
 (cbv; try simp only [syT, true_and, and_true])
 refine ⟨fun h => (by cases h), fun _ => ⟨⟨0, ?_⟩, fun i hi => ?_⟩⟩
 · (cbv; try simp only [syT, true_and, and_true])
   subst hL
   exact ⟨fun _ _ _ _ => trivial, rfl, Nat.zero_le _⟩
 · (cbv; try simp only [syT, true_and, and_true])
   refine ⟨fun h2 => ⟨?_, fun h3 => ?_, fun h3 => ⟨i + 1, ?_⟩⟩, fun h2 => ⟨⟨0, ?_⟩, fun j hj => ?_⟩⟩
   · subst hL
     have h2 : ilt (zab i) (zab 1) = true := h2
     rw [ze8] at h2
     show inR (zab i) (zab 1) = true
     rw [zpb]
     exact ⟨Int.natCast_nonneg _, h2⟩
   · subst hL
     have h3 : ilt (zab i) 0 = true := h3
     rw [ze8] at h3
     unfold zab at h3
     omega
   · (cbv; try simp only [syT, true_and, and_true])
     subst hL
     have hi : i <= 1 := hi
     have h2 : ilt (zab i) (zab 1) = true := h2
     rw [ze8] at h2
     unfold zab at h2
     refine ⟨fun _ _ _ _ => trivial, ?_, ?_, ?_⟩
     · show zce .i64 (zab i) 1 = zab (i + 1)
       unfold zce zab
       rw [zdj]
       omega
     · show i + 1 <= 1
       omega
     · show 1 - (i + 1) < 1 - i
       omega
   · (cbv; try simp only [syT, true_and, and_true])
     subst hL
     exact ⟨fun _ _ _ _ => trivial, fun _ => trivial, rfl, fun _ _ _ _ => trivial, rfl, rfl, Nat.zero_le _⟩
   · (cbv; try simp only [syT, true_and, and_true])
     refine ⟨fun h3 => ⟨?_, ?_, fun h => (by cases h), fun _ => ⟨fun h4 => ?_, fun h4 => ⟨?_, ?_, ⟨j + 1, ?_⟩⟩⟩⟩, fun h3 => ?_⟩
     · subst hL
       have h3 : ilt (zab j) (zab 1) = true := h3
       rw [ze8] at h3
       show inR (zab j) (zab 1) = true
       rw [zpb]
       exact ⟨Int.natCast_nonneg _, h3⟩
     · subst hL
       have h3 : ilt (zab j) (zab 1) = true := h3
       rw [ze8] at h3
       unfold zab at h3
       exact decide_eq_true (show j = 0 by omega)
     · subst hL
       have h4 : ilt (zab j) 0 = true := h4
       rw [ze8] at h4
       unfold zab at h4
       omega
     · subst hL
       exact hs
     · subst hL
       have h3 : ilt (zab j) (zab 1) = true := h3
       rw [ze8] at h3
       unfold zab at h3
       exact decide_eq_true (show j = 0 by omega)
     · (cbv; try simp only [syT, true_and, and_true])
       subst hL
       have hj : j <= 1 := hj
       have h3 : ilt (zab j) (zab 1) = true := h3
       rw [ze8] at h3
       unfold zab at h3
       have ew : zce .i64 (zab j) 1 = zab (j + 1) := by
         unfold zce zab
         rw [zdj]
         omega
       refine ⟨fun _ _ _ _ => trivial, fun h => ?_, ?_, fun _ _ _ _ => trivial, ew, ew, ?_, ?_⟩
       · have h : decide (j + 1 = 0) = true := h
         simp at h
       · show s = zyi x s (j + 1)
         unfold zyi
         rw [if_neg (by omega)]
       · show j + 1 <= 1
         omega
       · show 1 - (j + 1) < 1 - j
         omega
     · subst hL
       have h3 : ilt (zab j) (zab 1) = false := h3
       rw [zia] at h3
       unfold zab at h3
       show zyi x s j = s
       unfold zyi
       rw [if_neg (by omega)]
theorem zvf : zcc Tryz.prog (zrj std) := by
 intro raw ob T hT hp
 unfold zrj at hT
 simp only at hT
 repeat' split at hT
 all_goals first | (cases hT; done) | (cases hT; exact yjm _ _ _ _ _ hp)
theorem zvo : zac Tryz.prog 75 [] (.bool true) := by
 refine zaa (T := tt) (S := fun L => zb0 [] [yi0 L, zq9 L, zwk L, zww L, zrj L, zxr, zqt]) (lo := noA) (lb := noA) 12 (fn := Tryz.f75) rfl rfl (by kernel_rfl) (by kernel_rfl) rfl zae (za8 trivial ⟨yd5, zu2, zwl, zwx, zvf, zxs, zv2, trivial⟩) (by kernel_rfl) ?_
 intro L P' Q' hL hP hQ
 (cbv; try simp only [syT, true_and, and_true])
 subst hL
 subst hQ
 have e0 : ine 0 0 = false := by decide
 have e1 : ieq 0 0 = true := by decide
 have s0 : zcf 0 := ⟨by decide, by decide⟩
 have s1 : zcf (inc 0) := ⟨by decide, by decide⟩
 have s2 : zcf (inc (inc 0)) := ⟨by decide, by decide⟩
 have s3 : zcf (inc (inc (inc 0))) := ⟨by decide, by decide⟩
 have w1 : yny [120] (.a 0) := ⟨s0, by decide⟩
 have w2 : yny [121] (.c (inc (inc (inc 0))) [120] [120]) := ⟨s3, by decide, by decide⟩
 have sh : zc7 [120] := by unfold zc7; decide
 have q1 : seq [120] [120] = true := by decide
 have q2 : ieq (zab 1) 1 = true := by decide
 simp [std, e0, e1, s1, s2, w1, w2, sh, q1, q2, zbv]
theorem zvx : zac Tryz.prog 59 [] (.bool true) := by
 refine zaa (T := tt) (S := fun L => zbf [tru 74]) (lo := noA) (lb := noA) 5 (fn := Tryz.f59) rfl rfl (by kernel_rfl) (by kernel_rfl) rfl zae (za7 ⟨zby zvq, trivial⟩) (by kernel_rfl) ?_
 (intro L P1 Q1 hL hP hQ; cbv; subst hL; simp only [L2, L3, std, syT]; subst hQ)
 (simp only [syS, reduceCtorEq, Int.reduceToNat, Int.reduceAdd, Int.reduceSub])
theorem zvv : zac Tryz.prog 60 [] (.bool true) := by
 refine zaa (T := tt) (S := fun L => zbf [tru 75]) (lo := noA) (lb := noA) 5 (fn := Tryz.f60) rfl rfl (by kernel_rfl) (by kernel_rfl) rfl zae (za7 ⟨zby zvo, trivial⟩) (by kernel_rfl) ?_
 (intro L P1 Q1 hL hP hQ; cbv; subst hL; simp only [L2, L3, std, syT]; subst hQ)
 (simp only [syS, reduceCtorEq, Int.reduceToNat, Int.reduceAdd, Int.reduceSub])
theorem zvn : zac Tryz.prog 42 [] (.bool true) := by
 refine zaa (T := tt) (S := fun L => zbf [zs8 L, zyb L, yj9, tru 56, tru 59, tru 60]) (lo := noA) (lb := noA) 5 (fn := Tryz.f42) rfl rfl (by kernel_rfl) (by kernel_rfl) rfl zae (za7 ⟨zo9, zyc, yeh, zby zij, zby zvx, zby zvv, trivial⟩) (by kernel_rfl) ?_
 (intro L P1 Q1 hL hP hQ; cbv; subst hL; simp only [L2, L3, std, syT]; subst hQ)
 have e1 : opV (slT [97]) = [97] := ylu [97] (by decide)
 have e2 : opE (slT [97]) = 0 := ylv [97] (by decide)
 have h1 : upto 100000 [97] := by show [97].length <= 100000; decide
 have hk := zlk (zf6 [97] (by decide))
 have h2 : upto 100000 (slT [97]) := by
   have := zwp [97]
   show (slT [97]).length <= 100000
   have e : [(97 : UInt8)].length = 1 := rfl
   omega
 rw [e1, e2]
 have q1 : ieq 0 0 = true := by decide
 have q2 : seq [97] [97] = true := by decide
 have q3 : ieq 4 4 = true := by decide
 simp [h1, h2, q1, q2, q3, zbv]
theorem zvu : zac Tryz.prog 23 [] (.bool true) := by
 refine zaa (T := tt) (S := fun L => zbf [tru 42]) (lo := noA) (lb := noA) 5 (fn := Tryz.f23) rfl rfl (by kernel_rfl) (by kernel_rfl) rfl zae (za7 ⟨zby zvn, trivial⟩) (by kernel_rfl) ?_
 (intro L P1 Q1 hL hP hQ; cbv; subst hL; simp only [L2, L3, std, syT]; subst hQ)
 (simp only [syS, reduceCtorEq, Int.reduceToNat, Int.reduceAdd, Int.reduceSub])
theorem zih : ∀ l : List CV, zf0 l = true ↔ ∀ i, i < l.length -> zhq (zf3 l i) = true
 | [] => by rw [zf0]; simp
 | v :: l => by
   rw [zf0, Bool.and_eq_true, zih l]
   refine ⟨fun ⟨h1, h2⟩ i hi => ?_, fun h => ⟨h 0 (by simp), fun i hi => h (i + 1) (by simpa using hi)⟩⟩
   cases i with
   | zero => exact h1
   | succ i => exact h2 i (by simpa using hi)
def ye9 (l : List CV) : Int := if zf0 l = true then -1 else (l.findIdx fun v => !zhq v : Nat)
def ynl (l : List CV) (i : Nat) : Prop := i <= l.length /\ ∀ j, j < i -> zhq (zf3 l j) = true
theorem yiy {l : List CV} {i : Nat} (hi : i < l.length) (h : ∀ j, j < i -> zhq (zf3 l j) = true) (hn : zhq (zf3 l i) = false) : ye9 l = (i : Int) := by
 have hb : ¬ zf0 l = true := by
   rw [zih]
   intro h2
   have := h2 i hi
   rw [hn] at this; cases this
 rw [ye9, if_neg hb]
 congr 1
 rw [List.findIdx_eq hi]
 have get : ∀ (j : Nat) (hj : j < l.length), l[j] = zf3 l j := by
   intro j hj
   rw [zf3, List.getD_eq_getElem?_getD, List.getElem?_eq_getElem hj]; rfl
 refine ⟨by rw [get i hi, hn]; rfl, fun j hj => ?_⟩
 have hj' := h j hj
 rw [get j (by omega), hj']; rfl
theorem ye8 {l : List CV} (h : ∀ j, j < l.length -> zhq (zf3 l j) = true) : ye9 l = -1 := by rw [ye9, if_pos ((zih l).2 h)]
theorem yix (l : List CV) : (0 <= ye9 l) = (zf0 l = false) := by
 unfold ye9
 split
 · rename_i h; rw [h]; simp
 · rename_i h; simp at h; rw [h]; simp
def yo9 (N : Nat) (L : za9) : zcw := (67, fun xs => match xs with
 | [.agg [.int .i64 k, .int .u64 n, .str s, x]] => some (L okL x /\ L2 L zo8 N (mkV L k n s x), .bool (L not (L zhq (mkV L k n s x))))
 | _ => none)
def yo6 (N : Nat) (L : za9) : zcw := (77, fun xs => match xs with
 | [x, .fn 67 [] []] => some (L okL x /\ L2 L zqd N (L rdL x), .int .i64 (L ye9 (L rdL x)))
 | _ => none)
def yq9 (N : Nat) (L : za9) : zcw := (66, fun xs => match xs with
 | [x, .fn 67 [] []] => some (L okL x /\ L2 L zqd N (L rdL x), .bool (L not (L zf0 (L rdL x))))
 | _ => none)
def zme (N : Nat) (L : za9) : zcw := (50, fun xs => match xs with
 | [.agg [.int .i64 k, .int .u64 n, .str s, x]] => some (L okL x /\ L2 L zo8 N (mkV L k n s x), .bool (L zhq (mkV L k n s x)))
 | _ => none)
theorem ypl (l : List CV) : ieq ((lenL l : Nat) : Int) 0 = l.isEmpty := by
 cases l with
 | nil => rfl
 | cons v l =>
   simp [lenL, ieq]
   omega
theorem ymo (a b : Int) : (ile a b = false) = ¬ a <= b := by simp [ile]
theorem yql {N : Nat} (ih : zdd Tryz.prog (zme N std)) : zdd Tryz.prog (yo9 N std) := by
 intro xs p r h hp
 unfold yo9 at h
 simp only at h
 split at h
 rotate_left
 · cases h
 rename_i k n s x
 cases h
 obtain ⟨ho, hz⟩ := hp
 refine yoa ho ?_
 rw [show mkV std k n s x = .mk k n s (rdL x) from rfl] at hz |-
 generalize rdL x = l at hz |-
 have hz : zo8 N (.mk k n s l) := hz
 refine zau (xs := fun L => [.agg [.int .i64 k, .int .u64 n, .str s, cvL L l]]) (T := tt) (S := fun L => zbf [zme N L]) (lo := noA) (lb := noA) 5 (fn := Tryz.f67) rfl rfl (by kernel_rfl) (by kernel_rfl) rfl zae (za7 ⟨ih, trivial⟩) (by kernel_rfl) ?_
 intro L P' Q' hL hP hQ
 (cbv; try simp only [syT, true_and, and_true])
 (subst hL; subst hQ; simp only [L2, L3, std] at *; try simp only [syS, reduceCtorEq, Int.reduceToNat, Int.reduceAdd, Int.reduceSub] at *)
 rw [rdl, mkl]
 exact ⟨⟨okl l, hz⟩, rfl⟩
def ifA (L : za9) (l : List CV) : Nat -> St -> Option Ann := fun id s => match id with
 | 0 => some ⟨Nat, fun i => [(8, .int .i64 (L zab i))], fun i => [], [0, 1, 6, 7], [],
     fun i => L2 L ynl l i, fun i => L2 L (fun (l : List CV) (i : Nat) => l.length - i) l i⟩
 | _ => none
theorem ypw {N : Nat} (ih : zdd Tryz.prog (yo9 N std)) : zdd Tryz.prog (yo6 N std) := by
 intro xs p r h hp
 unfold yo6 at h
 simp only at h
 split at h
 rotate_left
 · cases h
 rename_i x
 cases h
 obtain ⟨ho, hz⟩ := hp
 refine yob ho ?_
 have hz : zqd N (rdL x) := hz
 show zac _ _ _ (.int .i64 (ye9 (rdL x)))
 generalize rdL x = l at hz |-
 refine zau (T := tt) (S := fun L => zbf [yo9 N L]) (lo := fun L => ifA L l) (lb := noA) 5 (fn := Tryz.f77) (xs := fun L => [cvL L l, .fn 67 [] []]) rfl rfl (by kernel_rfl) (by kernel_rfl) rfl zae
   (za7 ⟨ih, trivial⟩) (by kernel_rfl) ?_
 intro L P' Q' hL hP hQ
 (cbv; try simp only [syT, true_and, and_true])
 refine ⟨⟨0, ?_⟩, fun i hi => ?_⟩
 · (cbv; try simp only [syT, true_and, and_true])
   (subst hL; subst hQ; simp only [L2, L3, std] at *; try simp only [syS, reduceCtorEq, Int.reduceToNat, Int.reduceAdd, Int.reduceSub] at *)
   exact ⟨Nat.zero_le _, fun j hj => by omega⟩
 · cbv at hi
   (cbv; try simp only [syT, true_and, and_true])
   refine ⟨fun hlt => ⟨?_, ⟨?_, ?_⟩, fun hb => ?_, fun hb => ⟨i + 1, ?_⟩⟩, fun hge => ?_⟩
   · (subst hL; subst hQ; simp only [L2, L3, std] at *; try simp only [syS, reduceCtorEq, Int.reduceToNat, Int.reduceAdd, Int.reduceSub] at *)
     omega
   · (subst hL; subst hQ; simp only [L2, L3, std] at *; try simp only [syS, reduceCtorEq, Int.reduceToNat, Int.reduceAdd, Int.reduceSub] at *)
     exact (zmt _).2
   · (subst hL; subst hQ; simp only [L2, L3, std] at *; try simp only [syS, reduceCtorEq, Int.reduceToNat, Int.reduceAdd, Int.reduceSub] at *)
     rw [zfc]
     exact zsq hz (by have : lenL l = l.length := rfl; omega)
   · (subst hL; subst hQ; simp only [L2, L3, std] at *; try simp only [syS, reduceCtorEq, Int.reduceToNat, Int.reduceAdd, Int.reduceSub] at *)
     rw [zca] at hb
     exact (yiy (by have : lenL l = l.length := rfl; omega) hi.2 hb).symm
   · (cbv; try simp only [syT, true_and, and_true])
     (subst hL; subst hQ; simp only [L2, L3, std] at *; try simp only [syS, reduceCtorEq, Int.reduceToNat, Int.reduceAdd, Int.reduceSub] at *)
     rw [zca] at hb
     have : lenL l = l.length := rfl
     have := zlw l
     have h1 := hz.1
     have h2 := hz.2
     refine ⟨by omega, ⟨by omega, fun j hj => ?_⟩, by omega⟩
     by_cases e : j = i
     · rw [e]; exact hb
     · exact hi.2 j (by omega)
   · (subst hL; subst hQ; simp only [L2, L3, std] at *; try simp only [syS, reduceCtorEq, Int.reduceToNat, Int.reduceAdd, Int.reduceSub] at *)
     have : lenL l = l.length := rfl
     exact (ye8 fun j hj => hi.2 j (by omega)).symm
theorem yqa {N : Nat} (ih : zdd Tryz.prog (yo6 N std)) : zdd Tryz.prog (yq9 N std) := by
 intro xs p r h hp
 unfold yq9 at h
 simp only at h
 split at h
 rotate_left
 · cases h
 rename_i x
 cases h
 obtain ⟨ho, hz⟩ := hp
 refine yob ho ?_
 have hz : zqd N (rdL x) := hz
 show zac _ _ _ (.bool (not (zf0 (rdL x))))
 generalize rdL x = l at hz |-
 refine zau (xs := fun L => [cvL L l, .fn 67 [] []]) (T := tt) (S := fun L => zbf [yo6 N L]) (lo := noA) (lb := noA) 5 (fn := Tryz.f66) rfl rfl (by kernel_rfl) (by kernel_rfl) rfl zae (za7 ⟨ih, trivial⟩) (by kernel_rfl) ?_
 intro L P' Q' hL hP hQ
 (cbv; try simp only [syT, true_and, and_true])
 (subst hL; subst hQ; simp only [L2, L3, std] at *; try simp only [syS, reduceCtorEq, Int.reduceToNat, Int.reduceAdd, Int.reduceSub] at *)
 rw [rdl]
 refine ⟨⟨okl l, hz⟩, ?_⟩
 have := yix l
 cases hb : zf0 l with
 | true =>
   rw [hb] at this
   simp only [Bool.true_eq_false, eq_iff_iff, iff_false] at this
   have h : ile 0 (ye9 l) = false := by rw [ymo]; exact this
   rw [h]; rfl
 | false =>
   rw [hb] at this
   simp only [eq_iff_iff, iff_true] at this
   simpa [ile] using this
theorem yba : ∀ N, zdd Tryz.prog (zme N std) := by
 intro N
 induction N with
 | zero =>
   intro xs p r h hp
   unfold zme at h
   simp only at h
   split at h
   · rename_i k n s x
     cases h
     have h1 : sizeC (mkV std k n s x) <= 0 := hp.2.1
     have := zen (mkV std k n s x)
     omega
   · cases h
 | succ N ih =>
   intro xs p r h hp
   unfold zme at h
   simp only at h
   split at h
   rotate_left
   · cases h
   rename_i k n s x
   cases h
   obtain ⟨ho, hz⟩ := hp
   refine yoa ho ?_
   rw [show mkV std k n s x = .mk k n s (rdL x) from rfl] at hz |-
   generalize rdL x = l at hz |-
   have hz : zo8 (N + 1) (.mk k n s l) := hz
   refine zau (T := tt) (S := fun L => zbf [yq9 N L]) (lo := noA) (lb := noA) 5 (fn := Tryz.f50) (xs := fun L => [.agg [.int .i64 k, .int .u64 n, .str s, cvL L l]]) rfl rfl (by kernel_rfl) (by kernel_rfl) rfl zae
     (za7 ⟨yqa (ypw (yql ih)), trivial⟩) (by kernel_rfl) ?_
   intro L P' Q' hL hP hQ
   (cbv; try simp only [syT, true_and, and_true])
   (subst hL; subst hQ; simp only [L2, L3, std] at *; try simp only [syS, reduceCtorEq, Int.reduceToNat, Int.reduceAdd, Int.reduceSub] at *)
   simp only [rdl, ypl]
   rw [zch] at hz
   rw [zhq]
   by_cases h1 : k = 1
   · simp [h1]
     exact ⟨fun a _ => a, fun a b => absurd b a⟩
   · by_cases h2 : k = 2
     · simp [h2]
       exact ⟨fun a _ => a, fun a b => absurd b a⟩
     · by_cases h3 : k = 3
       · simp [h3]
         refine ⟨fun h4 => ⟨fun h5 => ⟨⟨okl l, hz.1⟩, by simp [h4, h5]⟩, fun h5 => by simp [h5]⟩, fun h4 => by simp [h4]⟩
       · simp [h1, h2, h3]
end Sy
end Go.Proofs.YtlphgephdhadhaaGreat
