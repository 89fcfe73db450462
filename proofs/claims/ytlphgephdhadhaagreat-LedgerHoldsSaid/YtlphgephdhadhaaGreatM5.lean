/-Chapter 16 (ledger): Get, zs7, Clear, All, the first that is not held, Died. Chapter 6 (digest): the constants. Chapter 6 (digest): Keys, the words of nothing; and what stands between these and the texts behind.-/
import Derived.Test.YtlphgephdhadhaaGreatM4
import Derived.Test.YtlphgephdhadhaaGreatShelf
import Derived.Tactics
import Derived.Tactics2
import Derived.StillTactics
import Derived.Laws.Cells
import Derived.Laws.Pointers
import Derived.Laws.Sem
import Derived.Laws.Small
import Derived.LoopTactic
import Derived.LoopN
import Derived.Laws.IdiomRangeMap
import Derived.Maps.RangeRun
import Derived.Shelf.SlIter.Nil
import Derived.Shelf.SortM.Plain
import Derived.Shelf.SortM.SortNone
import Derived.Shelf.SlMaps.Clone
import Derived.Ground.GgzProg
import Derived.Ground.SlgmProg
import Derived.Ground.SlmcProg
import Derived.Test.YtlphgephdhadhaaGreatProg
namespace Go.Proofs.YtlphgephdhadhaaGreat
namespace Sy
open Go Go.RowKit
set_option maxRecDepth 100000
set_option linter.unusedSimpArgs false
set_option linter.unusedVariables false
def zic (l : List Le) (p : Pr) : List Le := zbx l ⟨p, 0, (zb2 l p).h⟩
def zie (l : List Le) (p : Pr) : List Le := zbx l ⟨p, 0, false⟩
def zvl (L : za8) : zcu := (10, fun xs => match xs with
 | [.agg [x], q] => some (L ze7 x /\ L zcl q /\ L zdz (L zaf x) /\ L zd6 (L zaf x) /\ L zgm (L zal q), leA L (L2 L zb2 (L zaf x) (L zal q)))
 | _ => none)
theorem zjh : zd7 Tryz.prog (zvl std) := by
 intro xs p r h hp
 dsimp only [zvl] at h |-
 split at h <;> cases h
 try simp only [L2, L3, std] at hp |-
 rename_i x q
 obtain ⟨ho, ho2, hz, hok, hpo⟩ := hp
 refine zw8 ze0 ho (zqh ziv ho2 ?_)
 rw [zgr]
 have hz : zdz (zaf x) := hz
 have hok : zd6 (zaf x) := hok
 have hpo : zgm (zal q) := hpo
 show zab _ _ (.agg [zti std leV (zaf x)] :: zot std (zal q) :: _) (leA std (zb2 (zaf x) (zal q)))
 generalize zaf x = l at hz hok |-
 generalize zal q = p at hpo |-
 refine zas (T := tt) (S := fun L => zbe [zyi L]) (lo := noA) (lb := noA) 5 (fn := Tryz.f10) (xs := fun L => [.agg [zci L l], zot L p]) rfl rfl (by kernel_rfl) (by kernel_rfl) rfl zae (za7 ⟨zn4, trivial⟩) (by kernel_rfl) ?_
 intro L P' Q' hL hP hQ
 have hE : ∀ (y : Pr) (d : Int) (h : Bool), L zbt (.agg [.int .u8 (L (L za0 y) 0), .int .u8 (L (L za0 y) 1), .int .u8 (L (L za0 y) 2), .int .u8 (L (L za0 y) 3), .int .u8 (L (L za0 y) 4), .int .u8 (L (L za0 y) 5), .int .u8 (L (L za0 y) 6), .int .u8 (L (L za0 y) 7), .int .u8 (L (L za0 y) 8), .int .u8 (L (L za0 y) 9), .int .u8 (L (L za0 y) 10), .int .u8 (L (L za0 y) 11), .int .u8 (L (L za0 y) 12), .int .u8 (L (L za0 y) 13), .int .u8 (L (L za0 y) 14), .int .u8 (L (L za0 y) 15), .int .i64 d, .bool h]) = L (L (L Le.mk y) d) h := by subst hL; exact fun y d h => (zbi ⟨y, d, h⟩).2
 have hEo : ∀ (y : Pr) (d : Int) (h : Bool), (L zdc (.agg [.int .u8 (L (L za0 y) 0), .int .u8 (L (L za0 y) 1), .int .u8 (L (L za0 y) 2), .int .u8 (L (L za0 y) 3), .int .u8 (L (L za0 y) 4), .int .u8 (L (L za0 y) 5), .int .u8 (L (L za0 y) 6), .int .u8 (L (L za0 y) 7), .int .u8 (L (L za0 y) 8), .int .u8 (L (L za0 y) 9), .int .u8 (L (L za0 y) 10), .int .u8 (L (L za0 y) 11), .int .u8 (L (L za0 y) 12), .int .u8 (L (L za0 y) 13), .int .u8 (L (L za0 y) 14), .int .u8 (L (L za0 y) 15), .int .i64 d, .bool h])) = True := by subst hL; exact fun y d h => eq_true (zbi ⟨y, d, h⟩).1
 have hF : ∀ (y : Pr) (d : Int) (h : Bool), L zbt (.agg [.int .u8 (L (L za1 [L (L za0 y) 0, L (L za0 y) 1, L (L za0 y) 2, L (L za0 y) 3, L (L za0 y) 4, L (L za0 y) 5, L (L za0 y) 6, L (L za0 y) 7, L (L za0 y) 8, L (L za0 y) 9, L (L za0 y) 10, L (L za0 y) 11, L (L za0 y) 12, L (L za0 y) 13, L (L za0 y) 14, L (L za0 y) 15]) 0), .int .u8 (L (L za1 [L (L za0 y) 0, L (L za0 y) 1, L (L za0 y) 2, L (L za0 y) 3, L (L za0 y) 4, L (L za0 y) 5, L (L za0 y) 6, L (L za0 y) 7, L (L za0 y) 8, L (L za0 y) 9, L (L za0 y) 10, L (L za0 y) 11, L (L za0 y) 12, L (L za0 y) 13, L (L za0 y) 14, L (L za0 y) 15]) 1), .int .u8 (L (L za1 [L (L za0 y) 0, L (L za0 y) 1, L (L za0 y) 2, L (L za0 y) 3, L (L za0 y) 4, L (L za0 y) 5, L (L za0 y) 6, L (L za0 y) 7, L (L za0 y) 8, L (L za0 y) 9, L (L za0 y) 10, L (L za0 y) 11, L (L za0 y) 12, L (L za0 y) 13, L (L za0 y) 14, L (L za0 y) 15]) 2), .int .u8 (L (L za1 [L (L za0 y) 0, L (L za0 y) 1, L (L za0 y) 2, L (L za0 y) 3, L (L za0 y) 4, L (L za0 y) 5, L (L za0 y) 6, L (L za0 y) 7, L (L za0 y) 8, L (L za0 y) 9, L (L za0 y) 10, L (L za0 y) 11, L (L za0 y) 12, L (L za0 y) 13, L (L za0 y) 14, L (L za0 y) 15]) 3), .int .u8 (L (L za1 [L (L za0 y) 0, L (L za0 y) 1, L (L za0 y) 2, L (L za0 y) 3, L (L za0 y) 4, L (L za0 y) 5, L (L za0 y) 6, L (L za0 y) 7, L (L za0 y) 8, L (L za0 y) 9, L (L za0 y) 10, L (L za0 y) 11, L (L za0 y) 12, L (L za0 y) 13, L (L za0 y) 14, L (L za0 y) 15]) 4), .int .u8 (L (L za1 [L (L za0 y) 0, L (L za0 y) 1, L (L za0 y) 2, L (L za0 y) 3, L (L za0 y) 4, L (L za0 y) 5, L (L za0 y) 6, L (L za0 y) 7, L (L za0 y) 8, L (L za0 y) 9, L (L za0 y) 10, L (L za0 y) 11, L (L za0 y) 12, L (L za0 y) 13, L (L za0 y) 14, L (L za0 y) 15]) 5), .int .u8 (L (L za1 [L (L za0 y) 0, L (L za0 y) 1, L (L za0 y) 2, L (L za0 y) 3, L (L za0 y) 4, L (L za0 y) 5, L (L za0 y) 6, L (L za0 y) 7, L (L za0 y) 8, L (L za0 y) 9, L (L za0 y) 10, L (L za0 y) 11, L (L za0 y) 12, L (L za0 y) 13, L (L za0 y) 14, L (L za0 y) 15]) 6), .int .u8 (L (L za1 [L (L za0 y) 0, L (L za0 y) 1, L (L za0 y) 2, L (L za0 y) 3, L (L za0 y) 4, L (L za0 y) 5, L (L za0 y) 6, L (L za0 y) 7, L (L za0 y) 8, L (L za0 y) 9, L (L za0 y) 10, L (L za0 y) 11, L (L za0 y) 12, L (L za0 y) 13, L (L za0 y) 14, L (L za0 y) 15]) 7), .int .u8 (L (L za1 [L (L za0 y) 0, L (L za0 y) 1, L (L za0 y) 2, L (L za0 y) 3, L (L za0 y) 4, L (L za0 y) 5, L (L za0 y) 6, L (L za0 y) 7, L (L za0 y) 8, L (L za0 y) 9, L (L za0 y) 10, L (L za0 y) 11, L (L za0 y) 12, L (L za0 y) 13, L (L za0 y) 14, L (L za0 y) 15]) 8), .int .u8 (L (L za1 [L (L za0 y) 0, L (L za0 y) 1, L (L za0 y) 2, L (L za0 y) 3, L (L za0 y) 4, L (L za0 y) 5, L (L za0 y) 6, L (L za0 y) 7, L (L za0 y) 8, L (L za0 y) 9, L (L za0 y) 10, L (L za0 y) 11, L (L za0 y) 12, L (L za0 y) 13, L (L za0 y) 14, L (L za0 y) 15]) 9), .int .u8 (L (L za1 [L (L za0 y) 0, L (L za0 y) 1, L (L za0 y) 2, L (L za0 y) 3, L (L za0 y) 4, L (L za0 y) 5, L (L za0 y) 6, L (L za0 y) 7, L (L za0 y) 8, L (L za0 y) 9, L (L za0 y) 10, L (L za0 y) 11, L (L za0 y) 12, L (L za0 y) 13, L (L za0 y) 14, L (L za0 y) 15]) 10), .int .u8 (L (L za1 [L (L za0 y) 0, L (L za0 y) 1, L (L za0 y) 2, L (L za0 y) 3, L (L za0 y) 4, L (L za0 y) 5, L (L za0 y) 6, L (L za0 y) 7, L (L za0 y) 8, L (L za0 y) 9, L (L za0 y) 10, L (L za0 y) 11, L (L za0 y) 12, L (L za0 y) 13, L (L za0 y) 14, L (L za0 y) 15]) 11), .int .u8 (L (L za1 [L (L za0 y) 0, L (L za0 y) 1, L (L za0 y) 2, L (L za0 y) 3, L (L za0 y) 4, L (L za0 y) 5, L (L za0 y) 6, L (L za0 y) 7, L (L za0 y) 8, L (L za0 y) 9, L (L za0 y) 10, L (L za0 y) 11, L (L za0 y) 12, L (L za0 y) 13, L (L za0 y) 14, L (L za0 y) 15]) 12), .int .u8 (L (L za1 [L (L za0 y) 0, L (L za0 y) 1, L (L za0 y) 2, L (L za0 y) 3, L (L za0 y) 4, L (L za0 y) 5, L (L za0 y) 6, L (L za0 y) 7, L (L za0 y) 8, L (L za0 y) 9, L (L za0 y) 10, L (L za0 y) 11, L (L za0 y) 12, L (L za0 y) 13, L (L za0 y) 14, L (L za0 y) 15]) 13), .int .u8 (L (L za1 [L (L za0 y) 0, L (L za0 y) 1, L (L za0 y) 2, L (L za0 y) 3, L (L za0 y) 4, L (L za0 y) 5, L (L za0 y) 6, L (L za0 y) 7, L (L za0 y) 8, L (L za0 y) 9, L (L za0 y) 10, L (L za0 y) 11, L (L za0 y) 12, L (L za0 y) 13, L (L za0 y) 14, L (L za0 y) 15]) 14), .int .u8 (L (L za1 [L (L za0 y) 0, L (L za0 y) 1, L (L za0 y) 2, L (L za0 y) 3, L (L za0 y) 4, L (L za0 y) 5, L (L za0 y) 6, L (L za0 y) 7, L (L za0 y) 8, L (L za0 y) 9, L (L za0 y) 10, L (L za0 y) 11, L (L za0 y) 12, L (L za0 y) 13, L (L za0 y) 14, L (L za0 y) 15]) 15), .int .i64 d, .bool h]) = L (L (L Le.mk y) d) h := by subst hL; exact fun y d h => (zbi ⟨y, d, h⟩).2
 have hFo : ∀ (y : Pr) (d : Int) (h : Bool), (L zdc (.agg [.int .u8 (L (L za1 [L (L za0 y) 0, L (L za0 y) 1, L (L za0 y) 2, L (L za0 y) 3, L (L za0 y) 4, L (L za0 y) 5, L (L za0 y) 6, L (L za0 y) 7, L (L za0 y) 8, L (L za0 y) 9, L (L za0 y) 10, L (L za0 y) 11, L (L za0 y) 12, L (L za0 y) 13, L (L za0 y) 14, L (L za0 y) 15]) 0), .int .u8 (L (L za1 [L (L za0 y) 0, L (L za0 y) 1, L (L za0 y) 2, L (L za0 y) 3, L (L za0 y) 4, L (L za0 y) 5, L (L za0 y) 6, L (L za0 y) 7, L (L za0 y) 8, L (L za0 y) 9, L (L za0 y) 10, L (L za0 y) 11, L (L za0 y) 12, L (L za0 y) 13, L (L za0 y) 14, L (L za0 y) 15]) 1), .int .u8 (L (L za1 [L (L za0 y) 0, L (L za0 y) 1, L (L za0 y) 2, L (L za0 y) 3, L (L za0 y) 4, L (L za0 y) 5, L (L za0 y) 6, L (L za0 y) 7, L (L za0 y) 8, L (L za0 y) 9, L (L za0 y) 10, L (L za0 y) 11, L (L za0 y) 12, L (L za0 y) 13, L (L za0 y) 14, L (L za0 y) 15]) 2), .int .u8 (L (L za1 [L (L za0 y) 0, L (L za0 y) 1, L (L za0 y) 2, L (L za0 y) 3, L (L za0 y) 4, L (L za0 y) 5, L (L za0 y) 6, L (L za0 y) 7, L (L za0 y) 8, L (L za0 y) 9, L (L za0 y) 10, L (L za0 y) 11, L (L za0 y) 12, L (L za0 y) 13, L (L za0 y) 14, L (L za0 y) 15]) 3), .int .u8 (L (L za1 [L (L za0 y) 0, L (L za0 y) 1, L (L za0 y) 2, L (L za0 y) 3, L (L za0 y) 4, L (L za0 y) 5, L (L za0 y) 6, L (L za0 y) 7, L (L za0 y) 8, L (L za0 y) 9, L (L za0 y) 10, L (L za0 y) 11, L (L za0 y) 12, L (L za0 y) 13, L (L za0 y) 14, L (L za0 y) 15]) 4), .int .u8 (L (L za1 [L (L za0 y) 0, L (L za0 y) 1, L (L za0 y) 2, L (L za0 y) 3, L (L za0 y) 4, L (L za0 y) 5, L (L za0 y) 6, L (L za0 y) 7, L (L za0 y) 8, L (L za0 y) 9, L (L za0 y) 10, L (L za0 y) 11, L (L za0 y) 12, L (L za0 y) 13, L (L za0 y) 14, L (L za0 y) 15]) 5), .int .u8 (L (L za1 [L (L za0 y) 0, L (L za0 y) 1, L (L za0 y) 2, L (L za0 y) 3, L (L za0 y) 4, L (L za0 y) 5, L (L za0 y) 6, L (L za0 y) 7, L (L za0 y) 8, L (L za0 y) 9, L (L za0 y) 10, L (L za0 y) 11, L (L za0 y) 12, L (L za0 y) 13, L (L za0 y) 14, L (L za0 y) 15]) 6), .int .u8 (L (L za1 [L (L za0 y) 0, L (L za0 y) 1, L (L za0 y) 2, L (L za0 y) 3, L (L za0 y) 4, L (L za0 y) 5, L (L za0 y) 6, L (L za0 y) 7, L (L za0 y) 8, L (L za0 y) 9, L (L za0 y) 10, L (L za0 y) 11, L (L za0 y) 12, L (L za0 y) 13, L (L za0 y) 14, L (L za0 y) 15]) 7), .int .u8 (L (L za1 [L (L za0 y) 0, L (L za0 y) 1, L (L za0 y) 2, L (L za0 y) 3, L (L za0 y) 4, L (L za0 y) 5, L (L za0 y) 6, L (L za0 y) 7, L (L za0 y) 8, L (L za0 y) 9, L (L za0 y) 10, L (L za0 y) 11, L (L za0 y) 12, L (L za0 y) 13, L (L za0 y) 14, L (L za0 y) 15]) 8), .int .u8 (L (L za1 [L (L za0 y) 0, L (L za0 y) 1, L (L za0 y) 2, L (L za0 y) 3, L (L za0 y) 4, L (L za0 y) 5, L (L za0 y) 6, L (L za0 y) 7, L (L za0 y) 8, L (L za0 y) 9, L (L za0 y) 10, L (L za0 y) 11, L (L za0 y) 12, L (L za0 y) 13, L (L za0 y) 14, L (L za0 y) 15]) 9), .int .u8 (L (L za1 [L (L za0 y) 0, L (L za0 y) 1, L (L za0 y) 2, L (L za0 y) 3, L (L za0 y) 4, L (L za0 y) 5, L (L za0 y) 6, L (L za0 y) 7, L (L za0 y) 8, L (L za0 y) 9, L (L za0 y) 10, L (L za0 y) 11, L (L za0 y) 12, L (L za0 y) 13, L (L za0 y) 14, L (L za0 y) 15]) 10), .int .u8 (L (L za1 [L (L za0 y) 0, L (L za0 y) 1, L (L za0 y) 2, L (L za0 y) 3, L (L za0 y) 4, L (L za0 y) 5, L (L za0 y) 6, L (L za0 y) 7, L (L za0 y) 8, L (L za0 y) 9, L (L za0 y) 10, L (L za0 y) 11, L (L za0 y) 12, L (L za0 y) 13, L (L za0 y) 14, L (L za0 y) 15]) 11), .int .u8 (L (L za1 [L (L za0 y) 0, L (L za0 y) 1, L (L za0 y) 2, L (L za0 y) 3, L (L za0 y) 4, L (L za0 y) 5, L (L za0 y) 6, L (L za0 y) 7, L (L za0 y) 8, L (L za0 y) 9, L (L za0 y) 10, L (L za0 y) 11, L (L za0 y) 12, L (L za0 y) 13, L (L za0 y) 14, L (L za0 y) 15]) 12), .int .u8 (L (L za1 [L (L za0 y) 0, L (L za0 y) 1, L (L za0 y) 2, L (L za0 y) 3, L (L za0 y) 4, L (L za0 y) 5, L (L za0 y) 6, L (L za0 y) 7, L (L za0 y) 8, L (L za0 y) 9, L (L za0 y) 10, L (L za0 y) 11, L (L za0 y) 12, L (L za0 y) 13, L (L za0 y) 14, L (L za0 y) 15]) 13), .int .u8 (L (L za1 [L (L za0 y) 0, L (L za0 y) 1, L (L za0 y) 2, L (L za0 y) 3, L (L za0 y) 4, L (L za0 y) 5, L (L za0 y) 6, L (L za0 y) 7, L (L za0 y) 8, L (L za0 y) 9, L (L za0 y) 10, L (L za0 y) 11, L (L za0 y) 12, L (L za0 y) 13, L (L za0 y) 14, L (L za0 y) 15]) 14), .int .u8 (L (L za1 [L (L za0 y) 0, L (L za0 y) 1, L (L za0 y) 2, L (L za0 y) 3, L (L za0 y) 4, L (L za0 y) 5, L (L za0 y) 6, L (L za0 y) 7, L (L za0 y) 8, L (L za0 y) 9, L (L za0 y) 10, L (L za0 y) 11, L (L za0 y) 12, L (L za0 y) 13, L (L za0 y) 14, L (L za0 y) 15]) 15), .int .i64 d, .bool h])) = True := by subst hL; exact fun y d h => eq_true (zbi ⟨y, d, h⟩).1
 have hEta : ∀ y : Le, L (L (L Le.mk (L Le.p y)) (L Le.d y)) (L Le.h y) = y := by subst hL; exact fun y => rfl
 have hMp : ∀ (y : Pr) (d : Int) (h : Bool), L Le.p (L (L (L Le.mk y) d) h) = y := by subst hL; exact fun y d h => rfl
 have hQ0 : ∀ y : Pr, L zal (.agg [.int .u8 (L (L za0 y) 0), .int .u8 (L (L za0 y) 1), .int .u8 (L (L za0 y) 2), .int .u8 (L (L za0 y) 3), .int .u8 (L (L za0 y) 4), .int .u8 (L (L za0 y) 5), .int .u8 (L (L za0 y) 6), .int .u8 (L (L za0 y) 7), .int .u8 (L (L za0 y) 8), .int .u8 (L (L za0 y) 9), .int .u8 (L (L za0 y) 10), .int .u8 (L (L za0 y) 11), .int .u8 (L (L za0 y) 12), .int .u8 (L (L za0 y) 13), .int .u8 (L (L za0 y) 14), .int .u8 (L (L za0 y) 15)]) = y := by subst hL; exact fun y => (zbh y).2
 have hQo : ∀ y : Pr, (L zcl (.agg [.int .u8 (L (L za0 y) 0), .int .u8 (L (L za0 y) 1), .int .u8 (L (L za0 y) 2), .int .u8 (L (L za0 y) 3), .int .u8 (L (L za0 y) 4), .int .u8 (L (L za0 y) 5), .int .u8 (L (L za0 y) 6), .int .u8 (L (L za0 y) 7), .int .u8 (L (L za0 y) 8), .int .u8 (L (L za0 y) 9), .int .u8 (L (L za0 y) 10), .int .u8 (L (L za0 y) 11), .int .u8 (L (L za0 y) 12), .int .u8 (L (L za0 y) 13), .int .u8 (L (L za0 y) 14), .int .u8 (L (L za0 y) 15)])) = True := by subst hL; exact fun y => eq_true (zbh y).1
 have hQ1 : ∀ y : Pr, L zal (.agg [.int .u8 (L (L za1 [L (L za0 y) 0, L (L za0 y) 1, L (L za0 y) 2, L (L za0 y) 3, L (L za0 y) 4, L (L za0 y) 5, L (L za0 y) 6, L (L za0 y) 7, L (L za0 y) 8, L (L za0 y) 9, L (L za0 y) 10, L (L za0 y) 11, L (L za0 y) 12, L (L za0 y) 13, L (L za0 y) 14, L (L za0 y) 15]) 0), .int .u8 (L (L za1 [L (L za0 y) 0, L (L za0 y) 1, L (L za0 y) 2, L (L za0 y) 3, L (L za0 y) 4, L (L za0 y) 5, L (L za0 y) 6, L (L za0 y) 7, L (L za0 y) 8, L (L za0 y) 9, L (L za0 y) 10, L (L za0 y) 11, L (L za0 y) 12, L (L za0 y) 13, L (L za0 y) 14, L (L za0 y) 15]) 1), .int .u8 (L (L za1 [L (L za0 y) 0, L (L za0 y) 1, L (L za0 y) 2, L (L za0 y) 3, L (L za0 y) 4, L (L za0 y) 5, L (L za0 y) 6, L (L za0 y) 7, L (L za0 y) 8, L (L za0 y) 9, L (L za0 y) 10, L (L za0 y) 11, L (L za0 y) 12, L (L za0 y) 13, L (L za0 y) 14, L (L za0 y) 15]) 2), .int .u8 (L (L za1 [L (L za0 y) 0, L (L za0 y) 1, L (L za0 y) 2, L (L za0 y) 3, L (L za0 y) 4, L (L za0 y) 5, L (L za0 y) 6, L (L za0 y) 7, L (L za0 y) 8, L (L za0 y) 9, L (L za0 y) 10, L (L za0 y) 11, L (L za0 y) 12, L (L za0 y) 13, L (L za0 y) 14, L (L za0 y) 15]) 3), .int .u8 (L (L za1 [L (L za0 y) 0, L (L za0 y) 1, L (L za0 y) 2, L (L za0 y) 3, L (L za0 y) 4, L (L za0 y) 5, L (L za0 y) 6, L (L za0 y) 7, L (L za0 y) 8, L (L za0 y) 9, L (L za0 y) 10, L (L za0 y) 11, L (L za0 y) 12, L (L za0 y) 13, L (L za0 y) 14, L (L za0 y) 15]) 4), .int .u8 (L (L za1 [L (L za0 y) 0, L (L za0 y) 1, L (L za0 y) 2, L (L za0 y) 3, L (L za0 y) 4, L (L za0 y) 5, L (L za0 y) 6, L (L za0 y) 7, L (L za0 y) 8, L (L za0 y) 9, L (L za0 y) 10, L (L za0 y) 11, L (L za0 y) 12, L (L za0 y) 13, L (L za0 y) 14, L (L za0 y) 15]) 5), .int .u8 (L (L za1 [L (L za0 y) 0, L (L za0 y) 1, L (L za0 y) 2, L (L za0 y) 3, L (L za0 y) 4, L (L za0 y) 5, L (L za0 y) 6, L (L za0 y) 7, L (L za0 y) 8, L (L za0 y) 9, L (L za0 y) 10, L (L za0 y) 11, L (L za0 y) 12, L (L za0 y) 13, L (L za0 y) 14, L (L za0 y) 15]) 6), .int .u8 (L (L za1 [L (L za0 y) 0, L (L za0 y) 1, L (L za0 y) 2, L (L za0 y) 3, L (L za0 y) 4, L (L za0 y) 5, L (L za0 y) 6, L (L za0 y) 7, L (L za0 y) 8, L (L za0 y) 9, L (L za0 y) 10, L (L za0 y) 11, L (L za0 y) 12, L (L za0 y) 13, L (L za0 y) 14, L (L za0 y) 15]) 7), .int .u8 (L (L za1 [L (L za0 y) 0, L (L za0 y) 1, L (L za0 y) 2, L (L za0 y) 3, L (L za0 y) 4, L (L za0 y) 5, L (L za0 y) 6, L (L za0 y) 7, L (L za0 y) 8, L (L za0 y) 9, L (L za0 y) 10, L (L za0 y) 11, L (L za0 y) 12, L (L za0 y) 13, L (L za0 y) 14, L (L za0 y) 15]) 8), .int .u8 (L (L za1 [L (L za0 y) 0, L (L za0 y) 1, L (L za0 y) 2, L (L za0 y) 3, L (L za0 y) 4, L (L za0 y) 5, L (L za0 y) 6, L (L za0 y) 7, L (L za0 y) 8, L (L za0 y) 9, L (L za0 y) 10, L (L za0 y) 11, L (L za0 y) 12, L (L za0 y) 13, L (L za0 y) 14, L (L za0 y) 15]) 9), .int .u8 (L (L za1 [L (L za0 y) 0, L (L za0 y) 1, L (L za0 y) 2, L (L za0 y) 3, L (L za0 y) 4, L (L za0 y) 5, L (L za0 y) 6, L (L za0 y) 7, L (L za0 y) 8, L (L za0 y) 9, L (L za0 y) 10, L (L za0 y) 11, L (L za0 y) 12, L (L za0 y) 13, L (L za0 y) 14, L (L za0 y) 15]) 10), .int .u8 (L (L za1 [L (L za0 y) 0, L (L za0 y) 1, L (L za0 y) 2, L (L za0 y) 3, L (L za0 y) 4, L (L za0 y) 5, L (L za0 y) 6, L (L za0 y) 7, L (L za0 y) 8, L (L za0 y) 9, L (L za0 y) 10, L (L za0 y) 11, L (L za0 y) 12, L (L za0 y) 13, L (L za0 y) 14, L (L za0 y) 15]) 11), .int .u8 (L (L za1 [L (L za0 y) 0, L (L za0 y) 1, L (L za0 y) 2, L (L za0 y) 3, L (L za0 y) 4, L (L za0 y) 5, L (L za0 y) 6, L (L za0 y) 7, L (L za0 y) 8, L (L za0 y) 9, L (L za0 y) 10, L (L za0 y) 11, L (L za0 y) 12, L (L za0 y) 13, L (L za0 y) 14, L (L za0 y) 15]) 12), .int .u8 (L (L za1 [L (L za0 y) 0, L (L za0 y) 1, L (L za0 y) 2, L (L za0 y) 3, L (L za0 y) 4, L (L za0 y) 5, L (L za0 y) 6, L (L za0 y) 7, L (L za0 y) 8, L (L za0 y) 9, L (L za0 y) 10, L (L za0 y) 11, L (L za0 y) 12, L (L za0 y) 13, L (L za0 y) 14, L (L za0 y) 15]) 13), .int .u8 (L (L za1 [L (L za0 y) 0, L (L za0 y) 1, L (L za0 y) 2, L (L za0 y) 3, L (L za0 y) 4, L (L za0 y) 5, L (L za0 y) 6, L (L za0 y) 7, L (L za0 y) 8, L (L za0 y) 9, L (L za0 y) 10, L (L za0 y) 11, L (L za0 y) 12, L (L za0 y) 13, L (L za0 y) 14, L (L za0 y) 15]) 14), .int .u8 (L (L za1 [L (L za0 y) 0, L (L za0 y) 1, L (L za0 y) 2, L (L za0 y) 3, L (L za0 y) 4, L (L za0 y) 5, L (L za0 y) 6, L (L za0 y) 7, L (L za0 y) 8, L (L za0 y) 9, L (L za0 y) 10, L (L za0 y) 11, L (L za0 y) 12, L (L za0 y) 13, L (L za0 y) 14, L (L za0 y) 15]) 15)]) = y := by subst hL; exact fun y => (zbh y).2
 have hQ1o : ∀ y : Pr, (L zcl (.agg [.int .u8 (L (L za1 [L (L za0 y) 0, L (L za0 y) 1, L (L za0 y) 2, L (L za0 y) 3, L (L za0 y) 4, L (L za0 y) 5, L (L za0 y) 6, L (L za0 y) 7, L (L za0 y) 8, L (L za0 y) 9, L (L za0 y) 10, L (L za0 y) 11, L (L za0 y) 12, L (L za0 y) 13, L (L za0 y) 14, L (L za0 y) 15]) 0), .int .u8 (L (L za1 [L (L za0 y) 0, L (L za0 y) 1, L (L za0 y) 2, L (L za0 y) 3, L (L za0 y) 4, L (L za0 y) 5, L (L za0 y) 6, L (L za0 y) 7, L (L za0 y) 8, L (L za0 y) 9, L (L za0 y) 10, L (L za0 y) 11, L (L za0 y) 12, L (L za0 y) 13, L (L za0 y) 14, L (L za0 y) 15]) 1), .int .u8 (L (L za1 [L (L za0 y) 0, L (L za0 y) 1, L (L za0 y) 2, L (L za0 y) 3, L (L za0 y) 4, L (L za0 y) 5, L (L za0 y) 6, L (L za0 y) 7, L (L za0 y) 8, L (L za0 y) 9, L (L za0 y) 10, L (L za0 y) 11, L (L za0 y) 12, L (L za0 y) 13, L (L za0 y) 14, L (L za0 y) 15]) 2), .int .u8 (L (L za1 [L (L za0 y) 0, L (L za0 y) 1, L (L za0 y) 2, L (L za0 y) 3, L (L za0 y) 4, L (L za0 y) 5, L (L za0 y) 6, L (L za0 y) 7, L (L za0 y) 8, L (L za0 y) 9, L (L za0 y) 10, L (L za0 y) 11, L (L za0 y) 12, L (L za0 y) 13, L (L za0 y) 14, L (L za0 y) 15]) 3), .int .u8 (L (L za1 [L (L za0 y) 0, L (L za0 y) 1, L (L za0 y) 2, L (L za0 y) 3, L (L za0 y) 4, L (L za0 y) 5, L (L za0 y) 6, L (L za0 y) 7, L (L za0 y) 8, L (L za0 y) 9, L (L za0 y) 10, L (L za0 y) 11, L (L za0 y) 12, L (L za0 y) 13, L (L za0 y) 14, L (L za0 y) 15]) 4), .int .u8 (L (L za1 [L (L za0 y) 0, L (L za0 y) 1, L (L za0 y) 2, L (L za0 y) 3, L (L za0 y) 4, L (L za0 y) 5, L (L za0 y) 6, L (L za0 y) 7, L (L za0 y) 8, L (L za0 y) 9, L (L za0 y) 10, L (L za0 y) 11, L (L za0 y) 12, L (L za0 y) 13, L (L za0 y) 14, L (L za0 y) 15]) 5), .int .u8 (L (L za1 [L (L za0 y) 0, L (L za0 y) 1, L (L za0 y) 2, L (L za0 y) 3, L (L za0 y) 4, L (L za0 y) 5, L (L za0 y) 6, L (L za0 y) 7, L (L za0 y) 8, L (L za0 y) 9, L (L za0 y) 10, L (L za0 y) 11, L (L za0 y) 12, L (L za0 y) 13, L (L za0 y) 14, L (L za0 y) 15]) 6), .int .u8 (L (L za1 [L (L za0 y) 0, L (L za0 y) 1, L (L za0 y) 2, L (L za0 y) 3, L (L za0 y) 4, L (L za0 y) 5, L (L za0 y) 6, L (L za0 y) 7, L (L za0 y) 8, L (L za0 y) 9, L (L za0 y) 10, L (L za0 y) 11, L (L za0 y) 12, L (L za0 y) 13, L (L za0 y) 14, L (L za0 y) 15]) 7), .int .u8 (L (L za1 [L (L za0 y) 0, L (L za0 y) 1, L (L za0 y) 2, L (L za0 y) 3, L (L za0 y) 4, L (L za0 y) 5, L (L za0 y) 6, L (L za0 y) 7, L (L za0 y) 8, L (L za0 y) 9, L (L za0 y) 10, L (L za0 y) 11, L (L za0 y) 12, L (L za0 y) 13, L (L za0 y) 14, L (L za0 y) 15]) 8), .int .u8 (L (L za1 [L (L za0 y) 0, L (L za0 y) 1, L (L za0 y) 2, L (L za0 y) 3, L (L za0 y) 4, L (L za0 y) 5, L (L za0 y) 6, L (L za0 y) 7, L (L za0 y) 8, L (L za0 y) 9, L (L za0 y) 10, L (L za0 y) 11, L (L za0 y) 12, L (L za0 y) 13, L (L za0 y) 14, L (L za0 y) 15]) 9), .int .u8 (L (L za1 [L (L za0 y) 0, L (L za0 y) 1, L (L za0 y) 2, L (L za0 y) 3, L (L za0 y) 4, L (L za0 y) 5, L (L za0 y) 6, L (L za0 y) 7, L (L za0 y) 8, L (L za0 y) 9, L (L za0 y) 10, L (L za0 y) 11, L (L za0 y) 12, L (L za0 y) 13, L (L za0 y) 14, L (L za0 y) 15]) 10), .int .u8 (L (L za1 [L (L za0 y) 0, L (L za0 y) 1, L (L za0 y) 2, L (L za0 y) 3, L (L za0 y) 4, L (L za0 y) 5, L (L za0 y) 6, L (L za0 y) 7, L (L za0 y) 8, L (L za0 y) 9, L (L za0 y) 10, L (L za0 y) 11, L (L za0 y) 12, L (L za0 y) 13, L (L za0 y) 14, L (L za0 y) 15]) 11), .int .u8 (L (L za1 [L (L za0 y) 0, L (L za0 y) 1, L (L za0 y) 2, L (L za0 y) 3, L (L za0 y) 4, L (L za0 y) 5, L (L za0 y) 6, L (L za0 y) 7, L (L za0 y) 8, L (L za0 y) 9, L (L za0 y) 10, L (L za0 y) 11, L (L za0 y) 12, L (L za0 y) 13, L (L za0 y) 14, L (L za0 y) 15]) 12), .int .u8 (L (L za1 [L (L za0 y) 0, L (L za0 y) 1, L (L za0 y) 2, L (L za0 y) 3, L (L za0 y) 4, L (L za0 y) 5, L (L za0 y) 6, L (L za0 y) 7, L (L za0 y) 8, L (L za0 y) 9, L (L za0 y) 10, L (L za0 y) 11, L (L za0 y) 12, L (L za0 y) 13, L (L za0 y) 14, L (L za0 y) 15]) 13), .int .u8 (L (L za1 [L (L za0 y) 0, L (L za0 y) 1, L (L za0 y) 2, L (L za0 y) 3, L (L za0 y) 4, L (L za0 y) 5, L (L za0 y) 6, L (L za0 y) 7, L (L za0 y) 8, L (L za0 y) 9, L (L za0 y) 10, L (L za0 y) 11, L (L za0 y) 12, L (L za0 y) 13, L (L za0 y) 14, L (L za0 y) 15]) 14), .int .u8 (L (L za1 [L (L za0 y) 0, L (L za0 y) 1, L (L za0 y) 2, L (L za0 y) 3, L (L za0 y) 4, L (L za0 y) 5, L (L za0 y) 6, L (L za0 y) 7, L (L za0 y) 8, L (L za0 y) 9, L (L za0 y) 10, L (L za0 y) 11, L (L za0 y) 12, L (L za0 y) 13, L (L za0 y) 14, L (L za0 y) 15]) 15)])) = True := by subst hL; exact fun y => eq_true (zbh y).1
 have hG : ∀ y : List Le, L zaf (.lst 18 (L zf5 y) (fun i => leC L (L (L zao y) i))) = y := by subst hL; exact fun y => zh6 y
 have hGo : ∀ y : List Le, (L ze7 (.lst 18 (L zf5 y) (fun i => leC L (L (L zao y) i)))) = True := by subst hL; exact fun y => eq_true (zlg y)
 (cbv; try simp only [syT, true_and, and_true])
 simp only [hE, hEo, hF, hFo, hEta, hMp, hQ1, hQ1o, hQ0, hQo, hG, hGo, true_and]
 subst hL; subst hQ
 have hw : zf5 l = l.length := rfl
 have hz : l.length <= 1000000 := hz
 refine ⟨⟨hz, hok, hpo⟩, fun hh => ?_, fun hh => ?_⟩
 · obtain ⟨h, e⟩ := yjk hok hpo hh
   refine ⟨?_, ?_⟩
   · show inR (ze1 l p) (zac l.length) = true
     rw [zns, zb1]
     exact ⟨Int.natCast_nonneg _, Int.ofNat_lt.2 h⟩
   · refine ygm _ _ ?_
     show zao l (ze1 l p).toNat = zb2 l p
     rw [e, show (ze1 l p).toNat = zcp (prN p) l from Int.toNat_natCast _, zga h]
 · exact ygm _ ⟨p, 0, false⟩ (zrm hh).symm
def yim (L : za8) : zcu := (11, fun xs => match xs with
 | [.agg [x], q] => some (L ze7 x /\ L zcl q /\ L zdz (L zaf x) /\ L zd6 (L zaf x) /\ L zgm (L zal q), .agg [zci L (L2 L zic (L zaf x) (L zal q))])
 | _ => none)
theorem zh5 {l : List Le} {p : Pr} (hok : zd6 l) (hpo : zgm p) : zhy ⟨p, 0, (zb2 l p).h⟩ := ⟨hpo, Int.le_refl _, by show (0 : Int) <= 255; decide⟩
theorem ydx : zd7 Tryz.prog (yim std) := by
 intro xs p r h hp
 dsimp only [yim] at h |-
 split at h <;> cases h
 try simp only [L2, L3, std] at hp |-
 rename_i x q
 obtain ⟨ho, ho2, hz, hok, hpo⟩ := hp
 refine zw8 ze0 ho (zqh ziv ho2 ?_)
 rw [zgr]
 have hz : zdz (zaf x) := hz
 have hok : zd6 (zaf x) := hok
 have hpo : zgm (zal q) := hpo
 show zab _ _ (.agg [zti std leV (zaf x)] :: zot std (zal q) :: _) (.agg [zci std (zic (zaf x) (zal q))])
 generalize zaf x = l at hz hok |-
 generalize zal q = p at hpo |-
 refine zas (T := tt) (S := fun L => zbe [zvl L, zzc L]) (lo := noA) (lb := noA) 5 (fn := Tryz.f11) (xs := fun L => [.agg [zci L l], zot L p]) rfl rfl (by kernel_rfl) (by kernel_rfl) rfl zae (za7 ⟨zjh, zne, trivial⟩) (by kernel_rfl) ?_
 intro L P' Q' hL hP hQ
 have hE : ∀ (y : Pr) (d : Int) (h : Bool), L zbt (.agg [.int .u8 (L (L za0 y) 0), .int .u8 (L (L za0 y) 1), .int .u8 (L (L za0 y) 2), .int .u8 (L (L za0 y) 3), .int .u8 (L (L za0 y) 4), .int .u8 (L (L za0 y) 5), .int .u8 (L (L za0 y) 6), .int .u8 (L (L za0 y) 7), .int .u8 (L (L za0 y) 8), .int .u8 (L (L za0 y) 9), .int .u8 (L (L za0 y) 10), .int .u8 (L (L za0 y) 11), .int .u8 (L (L za0 y) 12), .int .u8 (L (L za0 y) 13), .int .u8 (L (L za0 y) 14), .int .u8 (L (L za0 y) 15), .int .i64 d, .bool h]) = L (L (L Le.mk y) d) h := by subst hL; exact fun y d h => (zbi ⟨y, d, h⟩).2
 have hEo : ∀ (y : Pr) (d : Int) (h : Bool), (L zdc (.agg [.int .u8 (L (L za0 y) 0), .int .u8 (L (L za0 y) 1), .int .u8 (L (L za0 y) 2), .int .u8 (L (L za0 y) 3), .int .u8 (L (L za0 y) 4), .int .u8 (L (L za0 y) 5), .int .u8 (L (L za0 y) 6), .int .u8 (L (L za0 y) 7), .int .u8 (L (L za0 y) 8), .int .u8 (L (L za0 y) 9), .int .u8 (L (L za0 y) 10), .int .u8 (L (L za0 y) 11), .int .u8 (L (L za0 y) 12), .int .u8 (L (L za0 y) 13), .int .u8 (L (L za0 y) 14), .int .u8 (L (L za0 y) 15), .int .i64 d, .bool h])) = True := by subst hL; exact fun y d h => eq_true (zbi ⟨y, d, h⟩).1
 have hF : ∀ (y : Pr) (d : Int) (h : Bool), L zbt (.agg [.int .u8 (L (L za1 [L (L za0 y) 0, L (L za0 y) 1, L (L za0 y) 2, L (L za0 y) 3, L (L za0 y) 4, L (L za0 y) 5, L (L za0 y) 6, L (L za0 y) 7, L (L za0 y) 8, L (L za0 y) 9, L (L za0 y) 10, L (L za0 y) 11, L (L za0 y) 12, L (L za0 y) 13, L (L za0 y) 14, L (L za0 y) 15]) 0), .int .u8 (L (L za1 [L (L za0 y) 0, L (L za0 y) 1, L (L za0 y) 2, L (L za0 y) 3, L (L za0 y) 4, L (L za0 y) 5, L (L za0 y) 6, L (L za0 y) 7, L (L za0 y) 8, L (L za0 y) 9, L (L za0 y) 10, L (L za0 y) 11, L (L za0 y) 12, L (L za0 y) 13, L (L za0 y) 14, L (L za0 y) 15]) 1), .int .u8 (L (L za1 [L (L za0 y) 0, L (L za0 y) 1, L (L za0 y) 2, L (L za0 y) 3, L (L za0 y) 4, L (L za0 y) 5, L (L za0 y) 6, L (L za0 y) 7, L (L za0 y) 8, L (L za0 y) 9, L (L za0 y) 10, L (L za0 y) 11, L (L za0 y) 12, L (L za0 y) 13, L (L za0 y) 14, L (L za0 y) 15]) 2), .int .u8 (L (L za1 [L (L za0 y) 0, L (L za0 y) 1, L (L za0 y) 2, L (L za0 y) 3, L (L za0 y) 4, L (L za0 y) 5, L (L za0 y) 6, L (L za0 y) 7, L (L za0 y) 8, L (L za0 y) 9, L (L za0 y) 10, L (L za0 y) 11, L (L za0 y) 12, L (L za0 y) 13, L (L za0 y) 14, L (L za0 y) 15]) 3), .int .u8 (L (L za1 [L (L za0 y) 0, L (L za0 y) 1, L (L za0 y) 2, L (L za0 y) 3, L (L za0 y) 4, L (L za0 y) 5, L (L za0 y) 6, L (L za0 y) 7, L (L za0 y) 8, L (L za0 y) 9, L (L za0 y) 10, L (L za0 y) 11, L (L za0 y) 12, L (L za0 y) 13, L (L za0 y) 14, L (L za0 y) 15]) 4), .int .u8 (L (L za1 [L (L za0 y) 0, L (L za0 y) 1, L (L za0 y) 2, L (L za0 y) 3, L (L za0 y) 4, L (L za0 y) 5, L (L za0 y) 6, L (L za0 y) 7, L (L za0 y) 8, L (L za0 y) 9, L (L za0 y) 10, L (L za0 y) 11, L (L za0 y) 12, L (L za0 y) 13, L (L za0 y) 14, L (L za0 y) 15]) 5), .int .u8 (L (L za1 [L (L za0 y) 0, L (L za0 y) 1, L (L za0 y) 2, L (L za0 y) 3, L (L za0 y) 4, L (L za0 y) 5, L (L za0 y) 6, L (L za0 y) 7, L (L za0 y) 8, L (L za0 y) 9, L (L za0 y) 10, L (L za0 y) 11, L (L za0 y) 12, L (L za0 y) 13, L (L za0 y) 14, L (L za0 y) 15]) 6), .int .u8 (L (L za1 [L (L za0 y) 0, L (L za0 y) 1, L (L za0 y) 2, L (L za0 y) 3, L (L za0 y) 4, L (L za0 y) 5, L (L za0 y) 6, L (L za0 y) 7, L (L za0 y) 8, L (L za0 y) 9, L (L za0 y) 10, L (L za0 y) 11, L (L za0 y) 12, L (L za0 y) 13, L (L za0 y) 14, L (L za0 y) 15]) 7), .int .u8 (L (L za1 [L (L za0 y) 0, L (L za0 y) 1, L (L za0 y) 2, L (L za0 y) 3, L (L za0 y) 4, L (L za0 y) 5, L (L za0 y) 6, L (L za0 y) 7, L (L za0 y) 8, L (L za0 y) 9, L (L za0 y) 10, L (L za0 y) 11, L (L za0 y) 12, L (L za0 y) 13, L (L za0 y) 14, L (L za0 y) 15]) 8), .int .u8 (L (L za1 [L (L za0 y) 0, L (L za0 y) 1, L (L za0 y) 2, L (L za0 y) 3, L (L za0 y) 4, L (L za0 y) 5, L (L za0 y) 6, L (L za0 y) 7, L (L za0 y) 8, L (L za0 y) 9, L (L za0 y) 10, L (L za0 y) 11, L (L za0 y) 12, L (L za0 y) 13, L (L za0 y) 14, L (L za0 y) 15]) 9), .int .u8 (L (L za1 [L (L za0 y) 0, L (L za0 y) 1, L (L za0 y) 2, L (L za0 y) 3, L (L za0 y) 4, L (L za0 y) 5, L (L za0 y) 6, L (L za0 y) 7, L (L za0 y) 8, L (L za0 y) 9, L (L za0 y) 10, L (L za0 y) 11, L (L za0 y) 12, L (L za0 y) 13, L (L za0 y) 14, L (L za0 y) 15]) 10), .int .u8 (L (L za1 [L (L za0 y) 0, L (L za0 y) 1, L (L za0 y) 2, L (L za0 y) 3, L (L za0 y) 4, L (L za0 y) 5, L (L za0 y) 6, L (L za0 y) 7, L (L za0 y) 8, L (L za0 y) 9, L (L za0 y) 10, L (L za0 y) 11, L (L za0 y) 12, L (L za0 y) 13, L (L za0 y) 14, L (L za0 y) 15]) 11), .int .u8 (L (L za1 [L (L za0 y) 0, L (L za0 y) 1, L (L za0 y) 2, L (L za0 y) 3, L (L za0 y) 4, L (L za0 y) 5, L (L za0 y) 6, L (L za0 y) 7, L (L za0 y) 8, L (L za0 y) 9, L (L za0 y) 10, L (L za0 y) 11, L (L za0 y) 12, L (L za0 y) 13, L (L za0 y) 14, L (L za0 y) 15]) 12), .int .u8 (L (L za1 [L (L za0 y) 0, L (L za0 y) 1, L (L za0 y) 2, L (L za0 y) 3, L (L za0 y) 4, L (L za0 y) 5, L (L za0 y) 6, L (L za0 y) 7, L (L za0 y) 8, L (L za0 y) 9, L (L za0 y) 10, L (L za0 y) 11, L (L za0 y) 12, L (L za0 y) 13, L (L za0 y) 14, L (L za0 y) 15]) 13), .int .u8 (L (L za1 [L (L za0 y) 0, L (L za0 y) 1, L (L za0 y) 2, L (L za0 y) 3, L (L za0 y) 4, L (L za0 y) 5, L (L za0 y) 6, L (L za0 y) 7, L (L za0 y) 8, L (L za0 y) 9, L (L za0 y) 10, L (L za0 y) 11, L (L za0 y) 12, L (L za0 y) 13, L (L za0 y) 14, L (L za0 y) 15]) 14), .int .u8 (L (L za1 [L (L za0 y) 0, L (L za0 y) 1, L (L za0 y) 2, L (L za0 y) 3, L (L za0 y) 4, L (L za0 y) 5, L (L za0 y) 6, L (L za0 y) 7, L (L za0 y) 8, L (L za0 y) 9, L (L za0 y) 10, L (L za0 y) 11, L (L za0 y) 12, L (L za0 y) 13, L (L za0 y) 14, L (L za0 y) 15]) 15), .int .i64 d, .bool h]) = L (L (L Le.mk y) d) h := by subst hL; exact fun y d h => (zbi ⟨y, d, h⟩).2
 have hFo : ∀ (y : Pr) (d : Int) (h : Bool), (L zdc (.agg [.int .u8 (L (L za1 [L (L za0 y) 0, L (L za0 y) 1, L (L za0 y) 2, L (L za0 y) 3, L (L za0 y) 4, L (L za0 y) 5, L (L za0 y) 6, L (L za0 y) 7, L (L za0 y) 8, L (L za0 y) 9, L (L za0 y) 10, L (L za0 y) 11, L (L za0 y) 12, L (L za0 y) 13, L (L za0 y) 14, L (L za0 y) 15]) 0), .int .u8 (L (L za1 [L (L za0 y) 0, L (L za0 y) 1, L (L za0 y) 2, L (L za0 y) 3, L (L za0 y) 4, L (L za0 y) 5, L (L za0 y) 6, L (L za0 y) 7, L (L za0 y) 8, L (L za0 y) 9, L (L za0 y) 10, L (L za0 y) 11, L (L za0 y) 12, L (L za0 y) 13, L (L za0 y) 14, L (L za0 y) 15]) 1), .int .u8 (L (L za1 [L (L za0 y) 0, L (L za0 y) 1, L (L za0 y) 2, L (L za0 y) 3, L (L za0 y) 4, L (L za0 y) 5, L (L za0 y) 6, L (L za0 y) 7, L (L za0 y) 8, L (L za0 y) 9, L (L za0 y) 10, L (L za0 y) 11, L (L za0 y) 12, L (L za0 y) 13, L (L za0 y) 14, L (L za0 y) 15]) 2), .int .u8 (L (L za1 [L (L za0 y) 0, L (L za0 y) 1, L (L za0 y) 2, L (L za0 y) 3, L (L za0 y) 4, L (L za0 y) 5, L (L za0 y) 6, L (L za0 y) 7, L (L za0 y) 8, L (L za0 y) 9, L (L za0 y) 10, L (L za0 y) 11, L (L za0 y) 12, L (L za0 y) 13, L (L za0 y) 14, L (L za0 y) 15]) 3), .int .u8 (L (L za1 [L (L za0 y) 0, L (L za0 y) 1, L (L za0 y) 2, L (L za0 y) 3, L (L za0 y) 4, L (L za0 y) 5, L (L za0 y) 6, L (L za0 y) 7, L (L za0 y) 8, L (L za0 y) 9, L (L za0 y) 10, L (L za0 y) 11, L (L za0 y) 12, L (L za0 y) 13, L (L za0 y) 14, L (L za0 y) 15]) 4), .int .u8 (L (L za1 [L (L za0 y) 0, L (L za0 y) 1, L (L za0 y) 2, L (L za0 y) 3, L (L za0 y) 4, L (L za0 y) 5, L (L za0 y) 6, L (L za0 y) 7, L (L za0 y) 8, L (L za0 y) 9, L (L za0 y) 10, L (L za0 y) 11, L (L za0 y) 12, L (L za0 y) 13, L (L za0 y) 14, L (L za0 y) 15]) 5), .int .u8 (L (L za1 [L (L za0 y) 0, L (L za0 y) 1, L (L za0 y) 2, L (L za0 y) 3, L (L za0 y) 4, L (L za0 y) 5, L (L za0 y) 6, L (L za0 y) 7, L (L za0 y) 8, L (L za0 y) 9, L (L za0 y) 10, L (L za0 y) 11, L (L za0 y) 12, L (L za0 y) 13, L (L za0 y) 14, L (L za0 y) 15]) 6), .int .u8 (L (L za1 [L (L za0 y) 0, L (L za0 y) 1, L (L za0 y) 2, L (L za0 y) 3, L (L za0 y) 4, L (L za0 y) 5, L (L za0 y) 6, L (L za0 y) 7, L (L za0 y) 8, L (L za0 y) 9, L (L za0 y) 10, L (L za0 y) 11, L (L za0 y) 12, L (L za0 y) 13, L (L za0 y) 14, L (L za0 y) 15]) 7), .int .u8 (L (L za1 [L (L za0 y) 0, L (L za0 y) 1, L (L za0 y) 2, L (L za0 y) 3, L (L za0 y) 4, L (L za0 y) 5, L (L za0 y) 6, L (L za0 y) 7, L (L za0 y) 8, L (L za0 y) 9, L (L za0 y) 10, L (L za0 y) 11, L (L za0 y) 12, L (L za0 y) 13, L (L za0 y) 14, L (L za0 y) 15]) 8), .int .u8 (L (L za1 [L (L za0 y) 0, L (L za0 y) 1, L (L za0 y) 2, L (L za0 y) 3, L (L za0 y) 4, L (L za0 y) 5, L (L za0 y) 6, L (L za0 y) 7, L (L za0 y) 8, L (L za0 y) 9, L (L za0 y) 10, L (L za0 y) 11, L (L za0 y) 12, L (L za0 y) 13, L (L za0 y) 14, L (L za0 y) 15]) 9), .int .u8 (L (L za1 [L (L za0 y) 0, L (L za0 y) 1, L (L za0 y) 2, L (L za0 y) 3, L (L za0 y) 4, L (L za0 y) 5, L (L za0 y) 6, L (L za0 y) 7, L (L za0 y) 8, L (L za0 y) 9, L (L za0 y) 10, L (L za0 y) 11, L (L za0 y) 12, L (L za0 y) 13, L (L za0 y) 14, L (L za0 y) 15]) 10), .int .u8 (L (L za1 [L (L za0 y) 0, L (L za0 y) 1, L (L za0 y) 2, L (L za0 y) 3, L (L za0 y) 4, L (L za0 y) 5, L (L za0 y) 6, L (L za0 y) 7, L (L za0 y) 8, L (L za0 y) 9, L (L za0 y) 10, L (L za0 y) 11, L (L za0 y) 12, L (L za0 y) 13, L (L za0 y) 14, L (L za0 y) 15]) 11), .int .u8 (L (L za1 [L (L za0 y) 0, L (L za0 y) 1, L (L za0 y) 2, L (L za0 y) 3, L (L za0 y) 4, L (L za0 y) 5, L (L za0 y) 6, L (L za0 y) 7, L (L za0 y) 8, L (L za0 y) 9, L (L za0 y) 10, L (L za0 y) 11, L (L za0 y) 12, L (L za0 y) 13, L (L za0 y) 14, L (L za0 y) 15]) 12), .int .u8 (L (L za1 [L (L za0 y) 0, L (L za0 y) 1, L (L za0 y) 2, L (L za0 y) 3, L (L za0 y) 4, L (L za0 y) 5, L (L za0 y) 6, L (L za0 y) 7, L (L za0 y) 8, L (L za0 y) 9, L (L za0 y) 10, L (L za0 y) 11, L (L za0 y) 12, L (L za0 y) 13, L (L za0 y) 14, L (L za0 y) 15]) 13), .int .u8 (L (L za1 [L (L za0 y) 0, L (L za0 y) 1, L (L za0 y) 2, L (L za0 y) 3, L (L za0 y) 4, L (L za0 y) 5, L (L za0 y) 6, L (L za0 y) 7, L (L za0 y) 8, L (L za0 y) 9, L (L za0 y) 10, L (L za0 y) 11, L (L za0 y) 12, L (L za0 y) 13, L (L za0 y) 14, L (L za0 y) 15]) 14), .int .u8 (L (L za1 [L (L za0 y) 0, L (L za0 y) 1, L (L za0 y) 2, L (L za0 y) 3, L (L za0 y) 4, L (L za0 y) 5, L (L za0 y) 6, L (L za0 y) 7, L (L za0 y) 8, L (L za0 y) 9, L (L za0 y) 10, L (L za0 y) 11, L (L za0 y) 12, L (L za0 y) 13, L (L za0 y) 14, L (L za0 y) 15]) 15), .int .i64 d, .bool h])) = True := by subst hL; exact fun y d h => eq_true (zbi ⟨y, d, h⟩).1
 have hEta : ∀ y : Le, L (L (L Le.mk (L Le.p y)) (L Le.d y)) (L Le.h y) = y := by subst hL; exact fun y => rfl
 have hMp : ∀ (y : Pr) (d : Int) (h : Bool), L Le.p (L (L (L Le.mk y) d) h) = y := by subst hL; exact fun y d h => rfl
 have hQ0 : ∀ y : Pr, L zal (.agg [.int .u8 (L (L za0 y) 0), .int .u8 (L (L za0 y) 1), .int .u8 (L (L za0 y) 2), .int .u8 (L (L za0 y) 3), .int .u8 (L (L za0 y) 4), .int .u8 (L (L za0 y) 5), .int .u8 (L (L za0 y) 6), .int .u8 (L (L za0 y) 7), .int .u8 (L (L za0 y) 8), .int .u8 (L (L za0 y) 9), .int .u8 (L (L za0 y) 10), .int .u8 (L (L za0 y) 11), .int .u8 (L (L za0 y) 12), .int .u8 (L (L za0 y) 13), .int .u8 (L (L za0 y) 14), .int .u8 (L (L za0 y) 15)]) = y := by subst hL; exact fun y => (zbh y).2
 have hQo : ∀ y : Pr, (L zcl (.agg [.int .u8 (L (L za0 y) 0), .int .u8 (L (L za0 y) 1), .int .u8 (L (L za0 y) 2), .int .u8 (L (L za0 y) 3), .int .u8 (L (L za0 y) 4), .int .u8 (L (L za0 y) 5), .int .u8 (L (L za0 y) 6), .int .u8 (L (L za0 y) 7), .int .u8 (L (L za0 y) 8), .int .u8 (L (L za0 y) 9), .int .u8 (L (L za0 y) 10), .int .u8 (L (L za0 y) 11), .int .u8 (L (L za0 y) 12), .int .u8 (L (L za0 y) 13), .int .u8 (L (L za0 y) 14), .int .u8 (L (L za0 y) 15)])) = True := by subst hL; exact fun y => eq_true (zbh y).1
 have hQ1 : ∀ y : Pr, L zal (.agg [.int .u8 (L (L za1 [L (L za0 y) 0, L (L za0 y) 1, L (L za0 y) 2, L (L za0 y) 3, L (L za0 y) 4, L (L za0 y) 5, L (L za0 y) 6, L (L za0 y) 7, L (L za0 y) 8, L (L za0 y) 9, L (L za0 y) 10, L (L za0 y) 11, L (L za0 y) 12, L (L za0 y) 13, L (L za0 y) 14, L (L za0 y) 15]) 0), .int .u8 (L (L za1 [L (L za0 y) 0, L (L za0 y) 1, L (L za0 y) 2, L (L za0 y) 3, L (L za0 y) 4, L (L za0 y) 5, L (L za0 y) 6, L (L za0 y) 7, L (L za0 y) 8, L (L za0 y) 9, L (L za0 y) 10, L (L za0 y) 11, L (L za0 y) 12, L (L za0 y) 13, L (L za0 y) 14, L (L za0 y) 15]) 1), .int .u8 (L (L za1 [L (L za0 y) 0, L (L za0 y) 1, L (L za0 y) 2, L (L za0 y) 3, L (L za0 y) 4, L (L za0 y) 5, L (L za0 y) 6, L (L za0 y) 7, L (L za0 y) 8, L (L za0 y) 9, L (L za0 y) 10, L (L za0 y) 11, L (L za0 y) 12, L (L za0 y) 13, L (L za0 y) 14, L (L za0 y) 15]) 2), .int .u8 (L (L za1 [L (L za0 y) 0, L (L za0 y) 1, L (L za0 y) 2, L (L za0 y) 3, L (L za0 y) 4, L (L za0 y) 5, L (L za0 y) 6, L (L za0 y) 7, L (L za0 y) 8, L (L za0 y) 9, L (L za0 y) 10, L (L za0 y) 11, L (L za0 y) 12, L (L za0 y) 13, L (L za0 y) 14, L (L za0 y) 15]) 3), .int .u8 (L (L za1 [L (L za0 y) 0, L (L za0 y) 1, L (L za0 y) 2, L (L za0 y) 3, L (L za0 y) 4, L (L za0 y) 5, L (L za0 y) 6, L (L za0 y) 7, L (L za0 y) 8, L (L za0 y) 9, L (L za0 y) 10, L (L za0 y) 11, L (L za0 y) 12, L (L za0 y) 13, L (L za0 y) 14, L (L za0 y) 15]) 4), .int .u8 (L (L za1 [L (L za0 y) 0, L (L za0 y) 1, L (L za0 y) 2, L (L za0 y) 3, L (L za0 y) 4, L (L za0 y) 5, L (L za0 y) 6, L (L za0 y) 7, L (L za0 y) 8, L (L za0 y) 9, L (L za0 y) 10, L (L za0 y) 11, L (L za0 y) 12, L (L za0 y) 13, L (L za0 y) 14, L (L za0 y) 15]) 5), .int .u8 (L (L za1 [L (L za0 y) 0, L (L za0 y) 1, L (L za0 y) 2, L (L za0 y) 3, L (L za0 y) 4, L (L za0 y) 5, L (L za0 y) 6, L (L za0 y) 7, L (L za0 y) 8, L (L za0 y) 9, L (L za0 y) 10, L (L za0 y) 11, L (L za0 y) 12, L (L za0 y) 13, L (L za0 y) 14, L (L za0 y) 15]) 6), .int .u8 (L (L za1 [L (L za0 y) 0, L (L za0 y) 1, L (L za0 y) 2, L (L za0 y) 3, L (L za0 y) 4, L (L za0 y) 5, L (L za0 y) 6, L (L za0 y) 7, L (L za0 y) 8, L (L za0 y) 9, L (L za0 y) 10, L (L za0 y) 11, L (L za0 y) 12, L (L za0 y) 13, L (L za0 y) 14, L (L za0 y) 15]) 7), .int .u8 (L (L za1 [L (L za0 y) 0, L (L za0 y) 1, L (L za0 y) 2, L (L za0 y) 3, L (L za0 y) 4, L (L za0 y) 5, L (L za0 y) 6, L (L za0 y) 7, L (L za0 y) 8, L (L za0 y) 9, L (L za0 y) 10, L (L za0 y) 11, L (L za0 y) 12, L (L za0 y) 13, L (L za0 y) 14, L (L za0 y) 15]) 8), .int .u8 (L (L za1 [L (L za0 y) 0, L (L za0 y) 1, L (L za0 y) 2, L (L za0 y) 3, L (L za0 y) 4, L (L za0 y) 5, L (L za0 y) 6, L (L za0 y) 7, L (L za0 y) 8, L (L za0 y) 9, L (L za0 y) 10, L (L za0 y) 11, L (L za0 y) 12, L (L za0 y) 13, L (L za0 y) 14, L (L za0 y) 15]) 9), .int .u8 (L (L za1 [L (L za0 y) 0, L (L za0 y) 1, L (L za0 y) 2, L (L za0 y) 3, L (L za0 y) 4, L (L za0 y) 5, L (L za0 y) 6, L (L za0 y) 7, L (L za0 y) 8, L (L za0 y) 9, L (L za0 y) 10, L (L za0 y) 11, L (L za0 y) 12, L (L za0 y) 13, L (L za0 y) 14, L (L za0 y) 15]) 10), .int .u8 (L (L za1 [L (L za0 y) 0, L (L za0 y) 1, L (L za0 y) 2, L (L za0 y) 3, L (L za0 y) 4, L (L za0 y) 5, L (L za0 y) 6, L (L za0 y) 7, L (L za0 y) 8, L (L za0 y) 9, L (L za0 y) 10, L (L za0 y) 11, L (L za0 y) 12, L (L za0 y) 13, L (L za0 y) 14, L (L za0 y) 15]) 11), .int .u8 (L (L za1 [L (L za0 y) 0, L (L za0 y) 1, L (L za0 y) 2, L (L za0 y) 3, L (L za0 y) 4, L (L za0 y) 5, L (L za0 y) 6, L (L za0 y) 7, L (L za0 y) 8, L (L za0 y) 9, L (L za0 y) 10, L (L za0 y) 11, L (L za0 y) 12, L (L za0 y) 13, L (L za0 y) 14, L (L za0 y) 15]) 12), .int .u8 (L (L za1 [L (L za0 y) 0, L (L za0 y) 1, L (L za0 y) 2, L (L za0 y) 3, L (L za0 y) 4, L (L za0 y) 5, L (L za0 y) 6, L (L za0 y) 7, L (L za0 y) 8, L (L za0 y) 9, L (L za0 y) 10, L (L za0 y) 11, L (L za0 y) 12, L (L za0 y) 13, L (L za0 y) 14, L (L za0 y) 15]) 13), .int .u8 (L (L za1 [L (L za0 y) 0, L (L za0 y) 1, L (L za0 y) 2, L (L za0 y) 3, L (L za0 y) 4, L (L za0 y) 5, L (L za0 y) 6, L (L za0 y) 7, L (L za0 y) 8, L (L za0 y) 9, L (L za0 y) 10, L (L za0 y) 11, L (L za0 y) 12, L (L za0 y) 13, L (L za0 y) 14, L (L za0 y) 15]) 14), .int .u8 (L (L za1 [L (L za0 y) 0, L (L za0 y) 1, L (L za0 y) 2, L (L za0 y) 3, L (L za0 y) 4, L (L za0 y) 5, L (L za0 y) 6, L (L za0 y) 7, L (L za0 y) 8, L (L za0 y) 9, L (L za0 y) 10, L (L za0 y) 11, L (L za0 y) 12, L (L za0 y) 13, L (L za0 y) 14, L (L za0 y) 15]) 15)]) = y := by subst hL; exact fun y => (zbh y).2
 have hQ1o : ∀ y : Pr, (L zcl (.agg [.int .u8 (L (L za1 [L (L za0 y) 0, L (L za0 y) 1, L (L za0 y) 2, L (L za0 y) 3, L (L za0 y) 4, L (L za0 y) 5, L (L za0 y) 6, L (L za0 y) 7, L (L za0 y) 8, L (L za0 y) 9, L (L za0 y) 10, L (L za0 y) 11, L (L za0 y) 12, L (L za0 y) 13, L (L za0 y) 14, L (L za0 y) 15]) 0), .int .u8 (L (L za1 [L (L za0 y) 0, L (L za0 y) 1, L (L za0 y) 2, L (L za0 y) 3, L (L za0 y) 4, L (L za0 y) 5, L (L za0 y) 6, L (L za0 y) 7, L (L za0 y) 8, L (L za0 y) 9, L (L za0 y) 10, L (L za0 y) 11, L (L za0 y) 12, L (L za0 y) 13, L (L za0 y) 14, L (L za0 y) 15]) 1), .int .u8 (L (L za1 [L (L za0 y) 0, L (L za0 y) 1, L (L za0 y) 2, L (L za0 y) 3, L (L za0 y) 4, L (L za0 y) 5, L (L za0 y) 6, L (L za0 y) 7, L (L za0 y) 8, L (L za0 y) 9, L (L za0 y) 10, L (L za0 y) 11, L (L za0 y) 12, L (L za0 y) 13, L (L za0 y) 14, L (L za0 y) 15]) 2), .int .u8 (L (L za1 [L (L za0 y) 0, L (L za0 y) 1, L (L za0 y) 2, L (L za0 y) 3, L (L za0 y) 4, L (L za0 y) 5, L (L za0 y) 6, L (L za0 y) 7, L (L za0 y) 8, L (L za0 y) 9, L (L za0 y) 10, L (L za0 y) 11, L (L za0 y) 12, L (L za0 y) 13, L (L za0 y) 14, L (L za0 y) 15]) 3), .int .u8 (L (L za1 [L (L za0 y) 0, L (L za0 y) 1, L (L za0 y) 2, L (L za0 y) 3, L (L za0 y) 4, L (L za0 y) 5, L (L za0 y) 6, L (L za0 y) 7, L (L za0 y) 8, L (L za0 y) 9, L (L za0 y) 10, L (L za0 y) 11, L (L za0 y) 12, L (L za0 y) 13, L (L za0 y) 14, L (L za0 y) 15]) 4), .int .u8 (L (L za1 [L (L za0 y) 0, L (L za0 y) 1, L (L za0 y) 2, L (L za0 y) 3, L (L za0 y) 4, L (L za0 y) 5, L (L za0 y) 6, L (L za0 y) 7, L (L za0 y) 8, L (L za0 y) 9, L (L za0 y) 10, L (L za0 y) 11, L (L za0 y) 12, L (L za0 y) 13, L (L za0 y) 14, L (L za0 y) 15]) 5), .int .u8 (L (L za1 [L (L za0 y) 0, L (L za0 y) 1, L (L za0 y) 2, L (L za0 y) 3, L (L za0 y) 4, L (L za0 y) 5, L (L za0 y) 6, L (L za0 y) 7, L (L za0 y) 8, L (L za0 y) 9, L (L za0 y) 10, L (L za0 y) 11, L (L za0 y) 12, L (L za0 y) 13, L (L za0 y) 14, L (L za0 y) 15]) 6), .int .u8 (L (L za1 [L (L za0 y) 0, L (L za0 y) 1, L (L za0 y) 2, L (L za0 y) 3, L (L za0 y) 4, L (L za0 y) 5, L (L za0 y) 6, L (L za0 y) 7, L (L za0 y) 8, L (L za0 y) 9, L (L za0 y) 10, L (L za0 y) 11, L (L za0 y) 12, L (L za0 y) 13, L (L za0 y) 14, L (L za0 y) 15]) 7), .int .u8 (L (L za1 [L (L za0 y) 0, L (L za0 y) 1, L (L za0 y) 2, L (L za0 y) 3, L (L za0 y) 4, L (L za0 y) 5, L (L za0 y) 6, L (L za0 y) 7, L (L za0 y) 8, L (L za0 y) 9, L (L za0 y) 10, L (L za0 y) 11, L (L za0 y) 12, L (L za0 y) 13, L (L za0 y) 14, L (L za0 y) 15]) 8), .int .u8 (L (L za1 [L (L za0 y) 0, L (L za0 y) 1, L (L za0 y) 2, L (L za0 y) 3, L (L za0 y) 4, L (L za0 y) 5, L (L za0 y) 6, L (L za0 y) 7, L (L za0 y) 8, L (L za0 y) 9, L (L za0 y) 10, L (L za0 y) 11, L (L za0 y) 12, L (L za0 y) 13, L (L za0 y) 14, L (L za0 y) 15]) 9), .int .u8 (L (L za1 [L (L za0 y) 0, L (L za0 y) 1, L (L za0 y) 2, L (L za0 y) 3, L (L za0 y) 4, L (L za0 y) 5, L (L za0 y) 6, L (L za0 y) 7, L (L za0 y) 8, L (L za0 y) 9, L (L za0 y) 10, L (L za0 y) 11, L (L za0 y) 12, L (L za0 y) 13, L (L za0 y) 14, L (L za0 y) 15]) 10), .int .u8 (L (L za1 [L (L za0 y) 0, L (L za0 y) 1, L (L za0 y) 2, L (L za0 y) 3, L (L za0 y) 4, L (L za0 y) 5, L (L za0 y) 6, L (L za0 y) 7, L (L za0 y) 8, L (L za0 y) 9, L (L za0 y) 10, L (L za0 y) 11, L (L za0 y) 12, L (L za0 y) 13, L (L za0 y) 14, L (L za0 y) 15]) 11), .int .u8 (L (L za1 [L (L za0 y) 0, L (L za0 y) 1, L (L za0 y) 2, L (L za0 y) 3, L (L za0 y) 4, L (L za0 y) 5, L (L za0 y) 6, L (L za0 y) 7, L (L za0 y) 8, L (L za0 y) 9, L (L za0 y) 10, L (L za0 y) 11, L (L za0 y) 12, L (L za0 y) 13, L (L za0 y) 14, L (L za0 y) 15]) 12), .int .u8 (L (L za1 [L (L za0 y) 0, L (L za0 y) 1, L (L za0 y) 2, L (L za0 y) 3, L (L za0 y) 4, L (L za0 y) 5, L (L za0 y) 6, L (L za0 y) 7, L (L za0 y) 8, L (L za0 y) 9, L (L za0 y) 10, L (L za0 y) 11, L (L za0 y) 12, L (L za0 y) 13, L (L za0 y) 14, L (L za0 y) 15]) 13), .int .u8 (L (L za1 [L (L za0 y) 0, L (L za0 y) 1, L (L za0 y) 2, L (L za0 y) 3, L (L za0 y) 4, L (L za0 y) 5, L (L za0 y) 6, L (L za0 y) 7, L (L za0 y) 8, L (L za0 y) 9, L (L za0 y) 10, L (L za0 y) 11, L (L za0 y) 12, L (L za0 y) 13, L (L za0 y) 14, L (L za0 y) 15]) 14), .int .u8 (L (L za1 [L (L za0 y) 0, L (L za0 y) 1, L (L za0 y) 2, L (L za0 y) 3, L (L za0 y) 4, L (L za0 y) 5, L (L za0 y) 6, L (L za0 y) 7, L (L za0 y) 8, L (L za0 y) 9, L (L za0 y) 10, L (L za0 y) 11, L (L za0 y) 12, L (L za0 y) 13, L (L za0 y) 14, L (L za0 y) 15]) 15)])) = True := by subst hL; exact fun y => eq_true (zbh y).1
 have hG : ∀ y : List Le, L zaf (.lst 18 (L zf5 y) (fun i => leC L (L (L zao y) i))) = y := by subst hL; exact fun y => zh6 y
 have hGo : ∀ y : List Le, (L ze7 (.lst 18 (L zf5 y) (fun i => leC L (L (L zao y) i)))) = True := by subst hL; exact fun y => eq_true (zlg y)
 (cbv; try simp only [syT, true_and, and_true])
 simp only [hE, hEo, hF, hFo, hEta, hMp, hQ1, hQ1o, hQ0, hQo, hG, hGo, true_and]
 subst hL; subst hQ
 have e : Le.mk (zb2 l p).p 0 (zb2 l p).h = ⟨p, 0, (zb2 l p).h⟩ := by rw [znj]
 have hk := zh5 hok hpo
 refine ⟨⟨hz, hok, hpo⟩, ⟨hz, hok, ?_⟩, ?_⟩
 · show zhy (Le.mk (zb2 l p).p 0 (zb2 l p).h)
   rw [e]; exact hk
 · refine zl2 _ _ _ ?_ fun i j hi hj => ?_
   · show (zbx l (Le.mk (zb2 l p).p 0 (zb2 l p).h)).length = _
     rw [e]; rfl
   · show leC std (zao (zbx l (Le.mk (zb2 l p).p 0 (zb2 l p).h)) i) j = _
     rw [e]; rfl
def yis (L : za8) : zcu := (12, fun xs => match xs with
 | [.agg [x], q] => some (L ze7 x /\ L zcl q /\ L zdz (L zaf x) /\ L zd6 (L zaf x) /\ L zgm (L zal q), .agg [zci L (L2 L zie (L zaf x) (L zal q))])
 | _ => none)
theorem ye9 : zd7 Tryz.prog (yis std) := by
 intro xs p r h hp
 dsimp only [yis] at h |-
 split at h <;> cases h
 try simp only [L2, L3, std] at hp |-
 rename_i x q
 obtain ⟨ho, ho2, hz, hok, hpo⟩ := hp
 refine zw8 ze0 ho (zqh ziv ho2 ?_)
 rw [zgr]
 have hz : zdz (zaf x) := hz
 have hok : zd6 (zaf x) := hok
 have hpo : zgm (zal q) := hpo
 show zab _ _ (.agg [zti std leV (zaf x)] :: zot std (zal q) :: _) (.agg [zci std (zie (zaf x) (zal q))])
 generalize zaf x = l at hz hok |-
 generalize zal q = p at hpo |-
 refine zas (T := tt) (S := fun L => zbe [zzc L]) (lo := noA) (lb := noA) 5 (fn := Tryz.f12) (xs := fun L => [.agg [zci L l], zot L p]) rfl rfl (by kernel_rfl) (by kernel_rfl) rfl zae (za7 ⟨zne, trivial⟩) (by kernel_rfl) ?_
 intro L P' Q' hL hP hQ
 have hE : ∀ (y : Pr) (d : Int) (h : Bool), L zbt (.agg [.int .u8 (L (L za0 y) 0), .int .u8 (L (L za0 y) 1), .int .u8 (L (L za0 y) 2), .int .u8 (L (L za0 y) 3), .int .u8 (L (L za0 y) 4), .int .u8 (L (L za0 y) 5), .int .u8 (L (L za0 y) 6), .int .u8 (L (L za0 y) 7), .int .u8 (L (L za0 y) 8), .int .u8 (L (L za0 y) 9), .int .u8 (L (L za0 y) 10), .int .u8 (L (L za0 y) 11), .int .u8 (L (L za0 y) 12), .int .u8 (L (L za0 y) 13), .int .u8 (L (L za0 y) 14), .int .u8 (L (L za0 y) 15), .int .i64 d, .bool h]) = L (L (L Le.mk y) d) h := by subst hL; exact fun y d h => (zbi ⟨y, d, h⟩).2
 have hEo : ∀ (y : Pr) (d : Int) (h : Bool), (L zdc (.agg [.int .u8 (L (L za0 y) 0), .int .u8 (L (L za0 y) 1), .int .u8 (L (L za0 y) 2), .int .u8 (L (L za0 y) 3), .int .u8 (L (L za0 y) 4), .int .u8 (L (L za0 y) 5), .int .u8 (L (L za0 y) 6), .int .u8 (L (L za0 y) 7), .int .u8 (L (L za0 y) 8), .int .u8 (L (L za0 y) 9), .int .u8 (L (L za0 y) 10), .int .u8 (L (L za0 y) 11), .int .u8 (L (L za0 y) 12), .int .u8 (L (L za0 y) 13), .int .u8 (L (L za0 y) 14), .int .u8 (L (L za0 y) 15), .int .i64 d, .bool h])) = True := by subst hL; exact fun y d h => eq_true (zbi ⟨y, d, h⟩).1
 have hF : ∀ (y : Pr) (d : Int) (h : Bool), L zbt (.agg [.int .u8 (L (L za1 [L (L za0 y) 0, L (L za0 y) 1, L (L za0 y) 2, L (L za0 y) 3, L (L za0 y) 4, L (L za0 y) 5, L (L za0 y) 6, L (L za0 y) 7, L (L za0 y) 8, L (L za0 y) 9, L (L za0 y) 10, L (L za0 y) 11, L (L za0 y) 12, L (L za0 y) 13, L (L za0 y) 14, L (L za0 y) 15]) 0), .int .u8 (L (L za1 [L (L za0 y) 0, L (L za0 y) 1, L (L za0 y) 2, L (L za0 y) 3, L (L za0 y) 4, L (L za0 y) 5, L (L za0 y) 6, L (L za0 y) 7, L (L za0 y) 8, L (L za0 y) 9, L (L za0 y) 10, L (L za0 y) 11, L (L za0 y) 12, L (L za0 y) 13, L (L za0 y) 14, L (L za0 y) 15]) 1), .int .u8 (L (L za1 [L (L za0 y) 0, L (L za0 y) 1, L (L za0 y) 2, L (L za0 y) 3, L (L za0 y) 4, L (L za0 y) 5, L (L za0 y) 6, L (L za0 y) 7, L (L za0 y) 8, L (L za0 y) 9, L (L za0 y) 10, L (L za0 y) 11, L (L za0 y) 12, L (L za0 y) 13, L (L za0 y) 14, L (L za0 y) 15]) 2), .int .u8 (L (L za1 [L (L za0 y) 0, L (L za0 y) 1, L (L za0 y) 2, L (L za0 y) 3, L (L za0 y) 4, L (L za0 y) 5, L (L za0 y) 6, L (L za0 y) 7, L (L za0 y) 8, L (L za0 y) 9, L (L za0 y) 10, L (L za0 y) 11, L (L za0 y) 12, L (L za0 y) 13, L (L za0 y) 14, L (L za0 y) 15]) 3), .int .u8 (L (L za1 [L (L za0 y) 0, L (L za0 y) 1, L (L za0 y) 2, L (L za0 y) 3, L (L za0 y) 4, L (L za0 y) 5, L (L za0 y) 6, L (L za0 y) 7, L (L za0 y) 8, L (L za0 y) 9, L (L za0 y) 10, L (L za0 y) 11, L (L za0 y) 12, L (L za0 y) 13, L (L za0 y) 14, L (L za0 y) 15]) 4), .int .u8 (L (L za1 [L (L za0 y) 0, L (L za0 y) 1, L (L za0 y) 2, L (L za0 y) 3, L (L za0 y) 4, L (L za0 y) 5, L (L za0 y) 6, L (L za0 y) 7, L (L za0 y) 8, L (L za0 y) 9, L (L za0 y) 10, L (L za0 y) 11, L (L za0 y) 12, L (L za0 y) 13, L (L za0 y) 14, L (L za0 y) 15]) 5), .int .u8 (L (L za1 [L (L za0 y) 0, L (L za0 y) 1, L (L za0 y) 2, L (L za0 y) 3, L (L za0 y) 4, L (L za0 y) 5, L (L za0 y) 6, L (L za0 y) 7, L (L za0 y) 8, L (L za0 y) 9, L (L za0 y) 10, L (L za0 y) 11, L (L za0 y) 12, L (L za0 y) 13, L (L za0 y) 14, L (L za0 y) 15]) 6), .int .u8 (L (L za1 [L (L za0 y) 0, L (L za0 y) 1, L (L za0 y) 2, L (L za0 y) 3, L (L za0 y) 4, L (L za0 y) 5, L (L za0 y) 6, L (L za0 y) 7, L (L za0 y) 8, L (L za0 y) 9, L (L za0 y) 10, L (L za0 y) 11, L (L za0 y) 12, L (L za0 y) 13, L (L za0 y) 14, L (L za0 y) 15]) 7), .int .u8 (L (L za1 [L (L za0 y) 0, L (L za0 y) 1, L (L za0 y) 2, L (L za0 y) 3, L (L za0 y) 4, L (L za0 y) 5, L (L za0 y) 6, L (L za0 y) 7, L (L za0 y) 8, L (L za0 y) 9, L (L za0 y) 10, L (L za0 y) 11, L (L za0 y) 12, L (L za0 y) 13, L (L za0 y) 14, L (L za0 y) 15]) 8), .int .u8 (L (L za1 [L (L za0 y) 0, L (L za0 y) 1, L (L za0 y) 2, L (L za0 y) 3, L (L za0 y) 4, L (L za0 y) 5, L (L za0 y) 6, L (L za0 y) 7, L (L za0 y) 8, L (L za0 y) 9, L (L za0 y) 10, L (L za0 y) 11, L (L za0 y) 12, L (L za0 y) 13, L (L za0 y) 14, L (L za0 y) 15]) 9), .int .u8 (L (L za1 [L (L za0 y) 0, L (L za0 y) 1, L (L za0 y) 2, L (L za0 y) 3, L (L za0 y) 4, L (L za0 y) 5, L (L za0 y) 6, L (L za0 y) 7, L (L za0 y) 8, L (L za0 y) 9, L (L za0 y) 10, L (L za0 y) 11, L (L za0 y) 12, L (L za0 y) 13, L (L za0 y) 14, L (L za0 y) 15]) 10), .int .u8 (L (L za1 [L (L za0 y) 0, L (L za0 y) 1, L (L za0 y) 2, L (L za0 y) 3, L (L za0 y) 4, L (L za0 y) 5, L (L za0 y) 6, L (L za0 y) 7, L (L za0 y) 8, L (L za0 y) 9, L (L za0 y) 10, L (L za0 y) 11, L (L za0 y) 12, L (L za0 y) 13, L (L za0 y) 14, L (L za0 y) 15]) 11), .int .u8 (L (L za1 [L (L za0 y) 0, L (L za0 y) 1, L (L za0 y) 2, L (L za0 y) 3, L (L za0 y) 4, L (L za0 y) 5, L (L za0 y) 6, L (L za0 y) 7, L (L za0 y) 8, L (L za0 y) 9, L (L za0 y) 10, L (L za0 y) 11, L (L za0 y) 12, L (L za0 y) 13, L (L za0 y) 14, L (L za0 y) 15]) 12), .int .u8 (L (L za1 [L (L za0 y) 0, L (L za0 y) 1, L (L za0 y) 2, L (L za0 y) 3, L (L za0 y) 4, L (L za0 y) 5, L (L za0 y) 6, L (L za0 y) 7, L (L za0 y) 8, L (L za0 y) 9, L (L za0 y) 10, L (L za0 y) 11, L (L za0 y) 12, L (L za0 y) 13, L (L za0 y) 14, L (L za0 y) 15]) 13), .int .u8 (L (L za1 [L (L za0 y) 0, L (L za0 y) 1, L (L za0 y) 2, L (L za0 y) 3, L (L za0 y) 4, L (L za0 y) 5, L (L za0 y) 6, L (L za0 y) 7, L (L za0 y) 8, L (L za0 y) 9, L (L za0 y) 10, L (L za0 y) 11, L (L za0 y) 12, L (L za0 y) 13, L (L za0 y) 14, L (L za0 y) 15]) 14), .int .u8 (L (L za1 [L (L za0 y) 0, L (L za0 y) 1, L (L za0 y) 2, L (L za0 y) 3, L (L za0 y) 4, L (L za0 y) 5, L (L za0 y) 6, L (L za0 y) 7, L (L za0 y) 8, L (L za0 y) 9, L (L za0 y) 10, L (L za0 y) 11, L (L za0 y) 12, L (L za0 y) 13, L (L za0 y) 14, L (L za0 y) 15]) 15), .int .i64 d, .bool h]) = L (L (L Le.mk y) d) h := by subst hL; exact fun y d h => (zbi ⟨y, d, h⟩).2
 have hFo : ∀ (y : Pr) (d : Int) (h : Bool), (L zdc (.agg [.int .u8 (L (L za1 [L (L za0 y) 0, L (L za0 y) 1, L (L za0 y) 2, L (L za0 y) 3, L (L za0 y) 4, L (L za0 y) 5, L (L za0 y) 6, L (L za0 y) 7, L (L za0 y) 8, L (L za0 y) 9, L (L za0 y) 10, L (L za0 y) 11, L (L za0 y) 12, L (L za0 y) 13, L (L za0 y) 14, L (L za0 y) 15]) 0), .int .u8 (L (L za1 [L (L za0 y) 0, L (L za0 y) 1, L (L za0 y) 2, L (L za0 y) 3, L (L za0 y) 4, L (L za0 y) 5, L (L za0 y) 6, L (L za0 y) 7, L (L za0 y) 8, L (L za0 y) 9, L (L za0 y) 10, L (L za0 y) 11, L (L za0 y) 12, L (L za0 y) 13, L (L za0 y) 14, L (L za0 y) 15]) 1), .int .u8 (L (L za1 [L (L za0 y) 0, L (L za0 y) 1, L (L za0 y) 2, L (L za0 y) 3, L (L za0 y) 4, L (L za0 y) 5, L (L za0 y) 6, L (L za0 y) 7, L (L za0 y) 8, L (L za0 y) 9, L (L za0 y) 10, L (L za0 y) 11, L (L za0 y) 12, L (L za0 y) 13, L (L za0 y) 14, L (L za0 y) 15]) 2), .int .u8 (L (L za1 [L (L za0 y) 0, L (L za0 y) 1, L (L za0 y) 2, L (L za0 y) 3, L (L za0 y) 4, L (L za0 y) 5, L (L za0 y) 6, L (L za0 y) 7, L (L za0 y) 8, L (L za0 y) 9, L (L za0 y) 10, L (L za0 y) 11, L (L za0 y) 12, L (L za0 y) 13, L (L za0 y) 14, L (L za0 y) 15]) 3), .int .u8 (L (L za1 [L (L za0 y) 0, L (L za0 y) 1, L (L za0 y) 2, L (L za0 y) 3, L (L za0 y) 4, L (L za0 y) 5, L (L za0 y) 6, L (L za0 y) 7, L (L za0 y) 8, L (L za0 y) 9, L (L za0 y) 10, L (L za0 y) 11, L (L za0 y) 12, L (L za0 y) 13, L (L za0 y) 14, L (L za0 y) 15]) 4), .int .u8 (L (L za1 [L (L za0 y) 0, L (L za0 y) 1, L (L za0 y) 2, L (L za0 y) 3, L (L za0 y) 4, L (L za0 y) 5, L (L za0 y) 6, L (L za0 y) 7, L (L za0 y) 8, L (L za0 y) 9, L (L za0 y) 10, L (L za0 y) 11, L (L za0 y) 12, L (L za0 y) 13, L (L za0 y) 14, L (L za0 y) 15]) 5), .int .u8 (L (L za1 [L (L za0 y) 0, L (L za0 y) 1, L (L za0 y) 2, L (L za0 y) 3, L (L za0 y) 4, L (L za0 y) 5, L (L za0 y) 6, L (L za0 y) 7, L (L za0 y) 8, L (L za0 y) 9, L (L za0 y) 10, L (L za0 y) 11, L (L za0 y) 12, L (L za0 y) 13, L (L za0 y) 14, L (L za0 y) 15]) 6), .int .u8 (L (L za1 [L (L za0 y) 0, L (L za0 y) 1, L (L za0 y) 2, L (L za0 y) 3, L (L za0 y) 4, L (L za0 y) 5, L (L za0 y) 6, L (L za0 y) 7, L (L za0 y) 8, L (L za0 y) 9, L (L za0 y) 10, L (L za0 y) 11, L (L za0 y) 12, L (L za0 y) 13, L (L za0 y) 14, L (L za0 y) 15]) 7), .int .u8 (L (L za1 [L (L za0 y) 0, L (L za0 y) 1, L (L za0 y) 2, L (L za0 y) 3, L (L za0 y) 4, L (L za0 y) 5, L (L za0 y) 6, L (L za0 y) 7, L (L za0 y) 8, L (L za0 y) 9, L (L za0 y) 10, L (L za0 y) 11, L (L za0 y) 12, L (L za0 y) 13, L (L za0 y) 14, L (L za0 y) 15]) 8), .int .u8 (L (L za1 [L (L za0 y) 0, L (L za0 y) 1, L (L za0 y) 2, L (L za0 y) 3, L (L za0 y) 4, L (L za0 y) 5, L (L za0 y) 6, L (L za0 y) 7, L (L za0 y) 8, L (L za0 y) 9, L (L za0 y) 10, L (L za0 y) 11, L (L za0 y) 12, L (L za0 y) 13, L (L za0 y) 14, L (L za0 y) 15]) 9), .int .u8 (L (L za1 [L (L za0 y) 0, L (L za0 y) 1, L (L za0 y) 2, L (L za0 y) 3, L (L za0 y) 4, L (L za0 y) 5, L (L za0 y) 6, L (L za0 y) 7, L (L za0 y) 8, L (L za0 y) 9, L (L za0 y) 10, L (L za0 y) 11, L (L za0 y) 12, L (L za0 y) 13, L (L za0 y) 14, L (L za0 y) 15]) 10), .int .u8 (L (L za1 [L (L za0 y) 0, L (L za0 y) 1, L (L za0 y) 2, L (L za0 y) 3, L (L za0 y) 4, L (L za0 y) 5, L (L za0 y) 6, L (L za0 y) 7, L (L za0 y) 8, L (L za0 y) 9, L (L za0 y) 10, L (L za0 y) 11, L (L za0 y) 12, L (L za0 y) 13, L (L za0 y) 14, L (L za0 y) 15]) 11), .int .u8 (L (L za1 [L (L za0 y) 0, L (L za0 y) 1, L (L za0 y) 2, L (L za0 y) 3, L (L za0 y) 4, L (L za0 y) 5, L (L za0 y) 6, L (L za0 y) 7, L (L za0 y) 8, L (L za0 y) 9, L (L za0 y) 10, L (L za0 y) 11, L (L za0 y) 12, L (L za0 y) 13, L (L za0 y) 14, L (L za0 y) 15]) 12), .int .u8 (L (L za1 [L (L za0 y) 0, L (L za0 y) 1, L (L za0 y) 2, L (L za0 y) 3, L (L za0 y) 4, L (L za0 y) 5, L (L za0 y) 6, L (L za0 y) 7, L (L za0 y) 8, L (L za0 y) 9, L (L za0 y) 10, L (L za0 y) 11, L (L za0 y) 12, L (L za0 y) 13, L (L za0 y) 14, L (L za0 y) 15]) 13), .int .u8 (L (L za1 [L (L za0 y) 0, L (L za0 y) 1, L (L za0 y) 2, L (L za0 y) 3, L (L za0 y) 4, L (L za0 y) 5, L (L za0 y) 6, L (L za0 y) 7, L (L za0 y) 8, L (L za0 y) 9, L (L za0 y) 10, L (L za0 y) 11, L (L za0 y) 12, L (L za0 y) 13, L (L za0 y) 14, L (L za0 y) 15]) 14), .int .u8 (L (L za1 [L (L za0 y) 0, L (L za0 y) 1, L (L za0 y) 2, L (L za0 y) 3, L (L za0 y) 4, L (L za0 y) 5, L (L za0 y) 6, L (L za0 y) 7, L (L za0 y) 8, L (L za0 y) 9, L (L za0 y) 10, L (L za0 y) 11, L (L za0 y) 12, L (L za0 y) 13, L (L za0 y) 14, L (L za0 y) 15]) 15), .int .i64 d, .bool h])) = True := by subst hL; exact fun y d h => eq_true (zbi ⟨y, d, h⟩).1
 have hEta : ∀ y : Le, L (L (L Le.mk (L Le.p y)) (L Le.d y)) (L Le.h y) = y := by subst hL; exact fun y => rfl
 have hMp : ∀ (y : Pr) (d : Int) (h : Bool), L Le.p (L (L (L Le.mk y) d) h) = y := by subst hL; exact fun y d h => rfl
 have hQ0 : ∀ y : Pr, L zal (.agg [.int .u8 (L (L za0 y) 0), .int .u8 (L (L za0 y) 1), .int .u8 (L (L za0 y) 2), .int .u8 (L (L za0 y) 3), .int .u8 (L (L za0 y) 4), .int .u8 (L (L za0 y) 5), .int .u8 (L (L za0 y) 6), .int .u8 (L (L za0 y) 7), .int .u8 (L (L za0 y) 8), .int .u8 (L (L za0 y) 9), .int .u8 (L (L za0 y) 10), .int .u8 (L (L za0 y) 11), .int .u8 (L (L za0 y) 12), .int .u8 (L (L za0 y) 13), .int .u8 (L (L za0 y) 14), .int .u8 (L (L za0 y) 15)]) = y := by subst hL; exact fun y => (zbh y).2
 have hQo : ∀ y : Pr, (L zcl (.agg [.int .u8 (L (L za0 y) 0), .int .u8 (L (L za0 y) 1), .int .u8 (L (L za0 y) 2), .int .u8 (L (L za0 y) 3), .int .u8 (L (L za0 y) 4), .int .u8 (L (L za0 y) 5), .int .u8 (L (L za0 y) 6), .int .u8 (L (L za0 y) 7), .int .u8 (L (L za0 y) 8), .int .u8 (L (L za0 y) 9), .int .u8 (L (L za0 y) 10), .int .u8 (L (L za0 y) 11), .int .u8 (L (L za0 y) 12), .int .u8 (L (L za0 y) 13), .int .u8 (L (L za0 y) 14), .int .u8 (L (L za0 y) 15)])) = True := by subst hL; exact fun y => eq_true (zbh y).1
 have hQ1 : ∀ y : Pr, L zal (.agg [.int .u8 (L (L za1 [L (L za0 y) 0, L (L za0 y) 1, L (L za0 y) 2, L (L za0 y) 3, L (L za0 y) 4, L (L za0 y) 5, L (L za0 y) 6, L (L za0 y) 7, L (L za0 y) 8, L (L za0 y) 9, L (L za0 y) 10, L (L za0 y) 11, L (L za0 y) 12, L (L za0 y) 13, L (L za0 y) 14, L (L za0 y) 15]) 0), .int .u8 (L (L za1 [L (L za0 y) 0, L (L za0 y) 1, L (L za0 y) 2, L (L za0 y) 3, L (L za0 y) 4, L (L za0 y) 5, L (L za0 y) 6, L (L za0 y) 7, L (L za0 y) 8, L (L za0 y) 9, L (L za0 y) 10, L (L za0 y) 11, L (L za0 y) 12, L (L za0 y) 13, L (L za0 y) 14, L (L za0 y) 15]) 1), .int .u8 (L (L za1 [L (L za0 y) 0, L (L za0 y) 1, L (L za0 y) 2, L (L za0 y) 3, L (L za0 y) 4, L (L za0 y) 5, L (L za0 y) 6, L (L za0 y) 7, L (L za0 y) 8, L (L za0 y) 9, L (L za0 y) 10, L (L za0 y) 11, L (L za0 y) 12, L (L za0 y) 13, L (L za0 y) 14, L (L za0 y) 15]) 2), .int .u8 (L (L za1 [L (L za0 y) 0, L (L za0 y) 1, L (L za0 y) 2, L (L za0 y) 3, L (L za0 y) 4, L (L za0 y) 5, L (L za0 y) 6, L (L za0 y) 7, L (L za0 y) 8, L (L za0 y) 9, L (L za0 y) 10, L (L za0 y) 11, L (L za0 y) 12, L (L za0 y) 13, L (L za0 y) 14, L (L za0 y) 15]) 3), .int .u8 (L (L za1 [L (L za0 y) 0, L (L za0 y) 1, L (L za0 y) 2, L (L za0 y) 3, L (L za0 y) 4, L (L za0 y) 5, L (L za0 y) 6, L (L za0 y) 7, L (L za0 y) 8, L (L za0 y) 9, L (L za0 y) 10, L (L za0 y) 11, L (L za0 y) 12, L (L za0 y) 13, L (L za0 y) 14, L (L za0 y) 15]) 4), .int .u8 (L (L za1 [L (L za0 y) 0, L (L za0 y) 1, L (L za0 y) 2, L (L za0 y) 3, L (L za0 y) 4, L (L za0 y) 5, L (L za0 y) 6, L (L za0 y) 7, L (L za0 y) 8, L (L za0 y) 9, L (L za0 y) 10, L (L za0 y) 11, L (L za0 y) 12, L (L za0 y) 13, L (L za0 y) 14, L (L za0 y) 15]) 5), .int .u8 (L (L za1 [L (L za0 y) 0, L (L za0 y) 1, L (L za0 y) 2, L (L za0 y) 3, L (L za0 y) 4, L (L za0 y) 5, L (L za0 y) 6, L (L za0 y) 7, L (L za0 y) 8, L (L za0 y) 9, L (L za0 y) 10, L (L za0 y) 11, L (L za0 y) 12, L (L za0 y) 13, L (L za0 y) 14, L (L za0 y) 15]) 6), .int .u8 (L (L za1 [L (L za0 y) 0, L (L za0 y) 1, L (L za0 y) 2, L (L za0 y) 3, L (L za0 y) 4, L (L za0 y) 5, L (L za0 y) 6, L (L za0 y) 7, L (L za0 y) 8, L (L za0 y) 9, L (L za0 y) 10, L (L za0 y) 11, L (L za0 y) 12, L (L za0 y) 13, L (L za0 y) 14, L (L za0 y) 15]) 7), .int .u8 (L (L za1 [L (L za0 y) 0, L (L za0 y) 1, L (L za0 y) 2, L (L za0 y) 3, L (L za0 y) 4, L (L za0 y) 5, L (L za0 y) 6, L (L za0 y) 7, L (L za0 y) 8, L (L za0 y) 9, L (L za0 y) 10, L (L za0 y) 11, L (L za0 y) 12, L (L za0 y) 13, L (L za0 y) 14, L (L za0 y) 15]) 8), .int .u8 (L (L za1 [L (L za0 y) 0, L (L za0 y) 1, L (L za0 y) 2, L (L za0 y) 3, L (L za0 y) 4, L (L za0 y) 5, L (L za0 y) 6, L (L za0 y) 7, L (L za0 y) 8, L (L za0 y) 9, L (L za0 y) 10, L (L za0 y) 11, L (L za0 y) 12, L (L za0 y) 13, L (L za0 y) 14, L (L za0 y) 15]) 9), .int .u8 (L (L za1 [L (L za0 y) 0, L (L za0 y) 1, L (L za0 y) 2, L (L za0 y) 3, L (L za0 y) 4, L (L za0 y) 5, L (L za0 y) 6, L (L za0 y) 7, L (L za0 y) 8, L (L za0 y) 9, L (L za0 y) 10, L (L za0 y) 11, L (L za0 y) 12, L (L za0 y) 13, L (L za0 y) 14, L (L za0 y) 15]) 10), .int .u8 (L (L za1 [L (L za0 y) 0, L (L za0 y) 1, L (L za0 y) 2, L (L za0 y) 3, L (L za0 y) 4, L (L za0 y) 5, L (L za0 y) 6, L (L za0 y) 7, L (L za0 y) 8, L (L za0 y) 9, L (L za0 y) 10, L (L za0 y) 11, L (L za0 y) 12, L (L za0 y) 13, L (L za0 y) 14, L (L za0 y) 15]) 11), .int .u8 (L (L za1 [L (L za0 y) 0, L (L za0 y) 1, L (L za0 y) 2, L (L za0 y) 3, L (L za0 y) 4, L (L za0 y) 5, L (L za0 y) 6, L (L za0 y) 7, L (L za0 y) 8, L (L za0 y) 9, L (L za0 y) 10, L (L za0 y) 11, L (L za0 y) 12, L (L za0 y) 13, L (L za0 y) 14, L (L za0 y) 15]) 12), .int .u8 (L (L za1 [L (L za0 y) 0, L (L za0 y) 1, L (L za0 y) 2, L (L za0 y) 3, L (L za0 y) 4, L (L za0 y) 5, L (L za0 y) 6, L (L za0 y) 7, L (L za0 y) 8, L (L za0 y) 9, L (L za0 y) 10, L (L za0 y) 11, L (L za0 y) 12, L (L za0 y) 13, L (L za0 y) 14, L (L za0 y) 15]) 13), .int .u8 (L (L za1 [L (L za0 y) 0, L (L za0 y) 1, L (L za0 y) 2, L (L za0 y) 3, L (L za0 y) 4, L (L za0 y) 5, L (L za0 y) 6, L (L za0 y) 7, L (L za0 y) 8, L (L za0 y) 9, L (L za0 y) 10, L (L za0 y) 11, L (L za0 y) 12, L (L za0 y) 13, L (L za0 y) 14, L (L za0 y) 15]) 14), .int .u8 (L (L za1 [L (L za0 y) 0, L (L za0 y) 1, L (L za0 y) 2, L (L za0 y) 3, L (L za0 y) 4, L (L za0 y) 5, L (L za0 y) 6, L (L za0 y) 7, L (L za0 y) 8, L (L za0 y) 9, L (L za0 y) 10, L (L za0 y) 11, L (L za0 y) 12, L (L za0 y) 13, L (L za0 y) 14, L (L za0 y) 15]) 15)]) = y := by subst hL; exact fun y => (zbh y).2
 have hQ1o : ∀ y : Pr, (L zcl (.agg [.int .u8 (L (L za1 [L (L za0 y) 0, L (L za0 y) 1, L (L za0 y) 2, L (L za0 y) 3, L (L za0 y) 4, L (L za0 y) 5, L (L za0 y) 6, L (L za0 y) 7, L (L za0 y) 8, L (L za0 y) 9, L (L za0 y) 10, L (L za0 y) 11, L (L za0 y) 12, L (L za0 y) 13, L (L za0 y) 14, L (L za0 y) 15]) 0), .int .u8 (L (L za1 [L (L za0 y) 0, L (L za0 y) 1, L (L za0 y) 2, L (L za0 y) 3, L (L za0 y) 4, L (L za0 y) 5, L (L za0 y) 6, L (L za0 y) 7, L (L za0 y) 8, L (L za0 y) 9, L (L za0 y) 10, L (L za0 y) 11, L (L za0 y) 12, L (L za0 y) 13, L (L za0 y) 14, L (L za0 y) 15]) 1), .int .u8 (L (L za1 [L (L za0 y) 0, L (L za0 y) 1, L (L za0 y) 2, L (L za0 y) 3, L (L za0 y) 4, L (L za0 y) 5, L (L za0 y) 6, L (L za0 y) 7, L (L za0 y) 8, L (L za0 y) 9, L (L za0 y) 10, L (L za0 y) 11, L (L za0 y) 12, L (L za0 y) 13, L (L za0 y) 14, L (L za0 y) 15]) 2), .int .u8 (L (L za1 [L (L za0 y) 0, L (L za0 y) 1, L (L za0 y) 2, L (L za0 y) 3, L (L za0 y) 4, L (L za0 y) 5, L (L za0 y) 6, L (L za0 y) 7, L (L za0 y) 8, L (L za0 y) 9, L (L za0 y) 10, L (L za0 y) 11, L (L za0 y) 12, L (L za0 y) 13, L (L za0 y) 14, L (L za0 y) 15]) 3), .int .u8 (L (L za1 [L (L za0 y) 0, L (L za0 y) 1, L (L za0 y) 2, L (L za0 y) 3, L (L za0 y) 4, L (L za0 y) 5, L (L za0 y) 6, L (L za0 y) 7, L (L za0 y) 8, L (L za0 y) 9, L (L za0 y) 10, L (L za0 y) 11, L (L za0 y) 12, L (L za0 y) 13, L (L za0 y) 14, L (L za0 y) 15]) 4), .int .u8 (L (L za1 [L (L za0 y) 0, L (L za0 y) 1, L (L za0 y) 2, L (L za0 y) 3, L (L za0 y) 4, L (L za0 y) 5, L (L za0 y) 6, L (L za0 y) 7, L (L za0 y) 8, L (L za0 y) 9, L (L za0 y) 10, L (L za0 y) 11, L (L za0 y) 12, L (L za0 y) 13, L (L za0 y) 14, L (L za0 y) 15]) 5), .int .u8 (L (L za1 [L (L za0 y) 0, L (L za0 y) 1, L (L za0 y) 2, L (L za0 y) 3, L (L za0 y) 4, L (L za0 y) 5, L (L za0 y) 6, L (L za0 y) 7, L (L za0 y) 8, L (L za0 y) 9, L (L za0 y) 10, L (L za0 y) 11, L (L za0 y) 12, L (L za0 y) 13, L (L za0 y) 14, L (L za0 y) 15]) 6), .int .u8 (L (L za1 [L (L za0 y) 0, L (L za0 y) 1, L (L za0 y) 2, L (L za0 y) 3, L (L za0 y) 4, L (L za0 y) 5, L (L za0 y) 6, L (L za0 y) 7, L (L za0 y) 8, L (L za0 y) 9, L (L za0 y) 10, L (L za0 y) 11, L (L za0 y) 12, L (L za0 y) 13, L (L za0 y) 14, L (L za0 y) 15]) 7), .int .u8 (L (L za1 [L (L za0 y) 0, L (L za0 y) 1, L (L za0 y) 2, L (L za0 y) 3, L (L za0 y) 4, L (L za0 y) 5, L (L za0 y) 6, L (L za0 y) 7, L (L za0 y) 8, L (L za0 y) 9, L (L za0 y) 10, L (L za0 y) 11, L (L za0 y) 12, L (L za0 y) 13, L (L za0 y) 14, L (L za0 y) 15]) 8), .int .u8 (L (L za1 [L (L za0 y) 0, L (L za0 y) 1, L (L za0 y) 2, L (L za0 y) 3, L (L za0 y) 4, L (L za0 y) 5, L (L za0 y) 6, L (L za0 y) 7, L (L za0 y) 8, L (L za0 y) 9, L (L za0 y) 10, L (L za0 y) 11, L (L za0 y) 12, L (L za0 y) 13, L (L za0 y) 14, L (L za0 y) 15]) 9), .int .u8 (L (L za1 [L (L za0 y) 0, L (L za0 y) 1, L (L za0 y) 2, L (L za0 y) 3, L (L za0 y) 4, L (L za0 y) 5, L (L za0 y) 6, L (L za0 y) 7, L (L za0 y) 8, L (L za0 y) 9, L (L za0 y) 10, L (L za0 y) 11, L (L za0 y) 12, L (L za0 y) 13, L (L za0 y) 14, L (L za0 y) 15]) 10), .int .u8 (L (L za1 [L (L za0 y) 0, L (L za0 y) 1, L (L za0 y) 2, L (L za0 y) 3, L (L za0 y) 4, L (L za0 y) 5, L (L za0 y) 6, L (L za0 y) 7, L (L za0 y) 8, L (L za0 y) 9, L (L za0 y) 10, L (L za0 y) 11, L (L za0 y) 12, L (L za0 y) 13, L (L za0 y) 14, L (L za0 y) 15]) 11), .int .u8 (L (L za1 [L (L za0 y) 0, L (L za0 y) 1, L (L za0 y) 2, L (L za0 y) 3, L (L za0 y) 4, L (L za0 y) 5, L (L za0 y) 6, L (L za0 y) 7, L (L za0 y) 8, L (L za0 y) 9, L (L za0 y) 10, L (L za0 y) 11, L (L za0 y) 12, L (L za0 y) 13, L (L za0 y) 14, L (L za0 y) 15]) 12), .int .u8 (L (L za1 [L (L za0 y) 0, L (L za0 y) 1, L (L za0 y) 2, L (L za0 y) 3, L (L za0 y) 4, L (L za0 y) 5, L (L za0 y) 6, L (L za0 y) 7, L (L za0 y) 8, L (L za0 y) 9, L (L za0 y) 10, L (L za0 y) 11, L (L za0 y) 12, L (L za0 y) 13, L (L za0 y) 14, L (L za0 y) 15]) 13), .int .u8 (L (L za1 [L (L za0 y) 0, L (L za0 y) 1, L (L za0 y) 2, L (L za0 y) 3, L (L za0 y) 4, L (L za0 y) 5, L (L za0 y) 6, L (L za0 y) 7, L (L za0 y) 8, L (L za0 y) 9, L (L za0 y) 10, L (L za0 y) 11, L (L za0 y) 12, L (L za0 y) 13, L (L za0 y) 14, L (L za0 y) 15]) 14), .int .u8 (L (L za1 [L (L za0 y) 0, L (L za0 y) 1, L (L za0 y) 2, L (L za0 y) 3, L (L za0 y) 4, L (L za0 y) 5, L (L za0 y) 6, L (L za0 y) 7, L (L za0 y) 8, L (L za0 y) 9, L (L za0 y) 10, L (L za0 y) 11, L (L za0 y) 12, L (L za0 y) 13, L (L za0 y) 14, L (L za0 y) 15]) 15)])) = True := by subst hL; exact fun y => eq_true (zbh y).1
 have hG : ∀ y : List Le, L zaf (.lst 18 (L zf5 y) (fun i => leC L (L (L zao y) i))) = y := by subst hL; exact fun y => zh6 y
 have hGo : ∀ y : List Le, (L ze7 (.lst 18 (L zf5 y) (fun i => leC L (L (L zao y) i)))) = True := by subst hL; exact fun y => eq_true (zlg y)
 (cbv; try simp only [syT, true_and, and_true])
 simp only [hE, hEo, hF, hFo, hEta, hMp, hQ1, hQ1o, hQ0, hQo, hG, hGo, true_and]
 subst hL; subst hQ
 exact ⟨⟨hz, hok, ⟨hpo, Int.le_refl _, by show (0 : Int) <= 255; decide⟩⟩, zl2 _ _ _ rfl fun i j hi hj => rfl⟩
def ya9 (L : za8) : zcu := (26, fun xs => match xs with
 | [x] => some (L zdc x, .bool (L not (L Le.h (L zbt x))))
 | _ => none)
theorem yaa : zd7 Tryz.prog (ya9 std) := by
 intro xs p r h hp
 dsimp only [ya9] at h |-
 split at h <;> cases h
 try simp only [L2, L3, std] at hp |-
 rename_i x
 have ho : zdc x := hp
 refine ac_g ze0 ho ?_
 rw [zzl]
 show zab Tryz.prog 26 [leA std (zbt x)] (.bool (!(zbt x).h))
 generalize zbt x = e
 refine zas (T := tt) (S := noS) (lo := noA) (lb := noA) 5 (fn := Tryz.f26) (xs := fun L => [leA L e]) rfl rfl (by kernel_rfl) (by kernel_rfl) rfl zae (zdx _) (by kernel_rfl) ?_
 intro L P' Q' hL hP hQ
 (cbv; try simp only [syT, true_and, and_true])
 subst hL; subst hQ
 rw [zby]; rfl
def zix (e : Le) : Bool := !e.h
def zew (l : List Le) : Int := zpp zix l
def fidA (L : za8) (l : List Le) : Nat -> St -> Option Ann := fun id st => match id with
 | 0 => some ⟨Nat, fun i => [(8, .int .i64 (L zac i))], fun _ => [], [0, 1, 4, 7], [], fun i => L3 L zr3 zix l i, fun i => L2 L Nat.sub (L zf5 l) i⟩
 | _ => none
def yjl (L : za8) : zcu := (25, fun xs => match xs with
 | [x, .fn k [] []] => match zam k 26 with
   | true => some (L ze7 x /\ L zdz (L zaf x), .int .i64 (L zew (L zaf x)))
   | false => none
 | _ => none)
theorem yf1 : zd7 Tryz.prog (yjl std) := by
 intro xs p r h hp
 unfold yjl at h
 simp only at h
 split at h
 rotate_left
 · cases h
 rename_i x k
 cases hk : zam k 26 with
 | false => rw [hk] at h; cases h
 | true =>
 rw [hk] at h
 obtain rfl : k = 26 := of_decide_eq_true hk
 cases h
 obtain ⟨ho, hz⟩ := hp
 refine yo1 ze0 ho ?_
 have hz : zdz (zaf x) := hz
 show zab _ _ (zti std leV (zaf x) :: _) (.int .i64 (zew (zaf x)))
 generalize zaf x = l at hz |-
 refine zas (T := tt) (S := fun L => zbe [ya9 L]) (lo := fun L => fidA L l) (lb := noA) 5 (fn := Tryz.f25) (xs := fun L => [zci L l, .fn 26 [] []]) rfl rfl (by kernel_rfl) (by kernel_rfl) rfl zae (za7 ⟨yaa, trivial⟩) (by kernel_rfl) ?_
 intro L P' Q' hL hP hQ
 have hw : zf5 l = l.length := rfl
 have hz : l.length <= 1000000 := hz
 have hE : ∀ (y : Pr) (d : Int) (h : Bool), L zbt (.agg [.int .u8 (L (L za0 y) 0), .int .u8 (L (L za0 y) 1), .int .u8 (L (L za0 y) 2), .int .u8 (L (L za0 y) 3), .int .u8 (L (L za0 y) 4), .int .u8 (L (L za0 y) 5), .int .u8 (L (L za0 y) 6), .int .u8 (L (L za0 y) 7), .int .u8 (L (L za0 y) 8), .int .u8 (L (L za0 y) 9), .int .u8 (L (L za0 y) 10), .int .u8 (L (L za0 y) 11), .int .u8 (L (L za0 y) 12), .int .u8 (L (L za0 y) 13), .int .u8 (L (L za0 y) 14), .int .u8 (L (L za0 y) 15), .int .i64 d, .bool h]) = L (L (L Le.mk y) d) h := by subst hL; exact fun y d h => (zbi ⟨y, d, h⟩).2
 have hEo : ∀ (y : Pr) (d : Int) (h : Bool), (L zdc (.agg [.int .u8 (L (L za0 y) 0), .int .u8 (L (L za0 y) 1), .int .u8 (L (L za0 y) 2), .int .u8 (L (L za0 y) 3), .int .u8 (L (L za0 y) 4), .int .u8 (L (L za0 y) 5), .int .u8 (L (L za0 y) 6), .int .u8 (L (L za0 y) 7), .int .u8 (L (L za0 y) 8), .int .u8 (L (L za0 y) 9), .int .u8 (L (L za0 y) 10), .int .u8 (L (L za0 y) 11), .int .u8 (L (L za0 y) 12), .int .u8 (L (L za0 y) 13), .int .u8 (L (L za0 y) 14), .int .u8 (L (L za0 y) 15), .int .i64 d, .bool h])) = True := by subst hL; exact fun y d h => eq_true (zbi ⟨y, d, h⟩).1
 have hF : ∀ (y : Pr) (d : Int) (h : Bool), L zbt (.agg [.int .u8 (L (L za1 [L (L za0 y) 0, L (L za0 y) 1, L (L za0 y) 2, L (L za0 y) 3, L (L za0 y) 4, L (L za0 y) 5, L (L za0 y) 6, L (L za0 y) 7, L (L za0 y) 8, L (L za0 y) 9, L (L za0 y) 10, L (L za0 y) 11, L (L za0 y) 12, L (L za0 y) 13, L (L za0 y) 14, L (L za0 y) 15]) 0), .int .u8 (L (L za1 [L (L za0 y) 0, L (L za0 y) 1, L (L za0 y) 2, L (L za0 y) 3, L (L za0 y) 4, L (L za0 y) 5, L (L za0 y) 6, L (L za0 y) 7, L (L za0 y) 8, L (L za0 y) 9, L (L za0 y) 10, L (L za0 y) 11, L (L za0 y) 12, L (L za0 y) 13, L (L za0 y) 14, L (L za0 y) 15]) 1), .int .u8 (L (L za1 [L (L za0 y) 0, L (L za0 y) 1, L (L za0 y) 2, L (L za0 y) 3, L (L za0 y) 4, L (L za0 y) 5, L (L za0 y) 6, L (L za0 y) 7, L (L za0 y) 8, L (L za0 y) 9, L (L za0 y) 10, L (L za0 y) 11, L (L za0 y) 12, L (L za0 y) 13, L (L za0 y) 14, L (L za0 y) 15]) 2), .int .u8 (L (L za1 [L (L za0 y) 0, L (L za0 y) 1, L (L za0 y) 2, L (L za0 y) 3, L (L za0 y) 4, L (L za0 y) 5, L (L za0 y) 6, L (L za0 y) 7, L (L za0 y) 8, L (L za0 y) 9, L (L za0 y) 10, L (L za0 y) 11, L (L za0 y) 12, L (L za0 y) 13, L (L za0 y) 14, L (L za0 y) 15]) 3), .int .u8 (L (L za1 [L (L za0 y) 0, L (L za0 y) 1, L (L za0 y) 2, L (L za0 y) 3, L (L za0 y) 4, L (L za0 y) 5, L (L za0 y) 6, L (L za0 y) 7, L (L za0 y) 8, L (L za0 y) 9, L (L za0 y) 10, L (L za0 y) 11, L (L za0 y) 12, L (L za0 y) 13, L (L za0 y) 14, L (L za0 y) 15]) 4), .int .u8 (L (L za1 [L (L za0 y) 0, L (L za0 y) 1, L (L za0 y) 2, L (L za0 y) 3, L (L za0 y) 4, L (L za0 y) 5, L (L za0 y) 6, L (L za0 y) 7, L (L za0 y) 8, L (L za0 y) 9, L (L za0 y) 10, L (L za0 y) 11, L (L za0 y) 12, L (L za0 y) 13, L (L za0 y) 14, L (L za0 y) 15]) 5), .int .u8 (L (L za1 [L (L za0 y) 0, L (L za0 y) 1, L (L za0 y) 2, L (L za0 y) 3, L (L za0 y) 4, L (L za0 y) 5, L (L za0 y) 6, L (L za0 y) 7, L (L za0 y) 8, L (L za0 y) 9, L (L za0 y) 10, L (L za0 y) 11, L (L za0 y) 12, L (L za0 y) 13, L (L za0 y) 14, L (L za0 y) 15]) 6), .int .u8 (L (L za1 [L (L za0 y) 0, L (L za0 y) 1, L (L za0 y) 2, L (L za0 y) 3, L (L za0 y) 4, L (L za0 y) 5, L (L za0 y) 6, L (L za0 y) 7, L (L za0 y) 8, L (L za0 y) 9, L (L za0 y) 10, L (L za0 y) 11, L (L za0 y) 12, L (L za0 y) 13, L (L za0 y) 14, L (L za0 y) 15]) 7), .int .u8 (L (L za1 [L (L za0 y) 0, L (L za0 y) 1, L (L za0 y) 2, L (L za0 y) 3, L (L za0 y) 4, L (L za0 y) 5, L (L za0 y) 6, L (L za0 y) 7, L (L za0 y) 8, L (L za0 y) 9, L (L za0 y) 10, L (L za0 y) 11, L (L za0 y) 12, L (L za0 y) 13, L (L za0 y) 14, L (L za0 y) 15]) 8), .int .u8 (L (L za1 [L (L za0 y) 0, L (L za0 y) 1, L (L za0 y) 2, L (L za0 y) 3, L (L za0 y) 4, L (L za0 y) 5, L (L za0 y) 6, L (L za0 y) 7, L (L za0 y) 8, L (L za0 y) 9, L (L za0 y) 10, L (L za0 y) 11, L (L za0 y) 12, L (L za0 y) 13, L (L za0 y) 14, L (L za0 y) 15]) 9), .int .u8 (L (L za1 [L (L za0 y) 0, L (L za0 y) 1, L (L za0 y) 2, L (L za0 y) 3, L (L za0 y) 4, L (L za0 y) 5, L (L za0 y) 6, L (L za0 y) 7, L (L za0 y) 8, L (L za0 y) 9, L (L za0 y) 10, L (L za0 y) 11, L (L za0 y) 12, L (L za0 y) 13, L (L za0 y) 14, L (L za0 y) 15]) 10), .int .u8 (L (L za1 [L (L za0 y) 0, L (L za0 y) 1, L (L za0 y) 2, L (L za0 y) 3, L (L za0 y) 4, L (L za0 y) 5, L (L za0 y) 6, L (L za0 y) 7, L (L za0 y) 8, L (L za0 y) 9, L (L za0 y) 10, L (L za0 y) 11, L (L za0 y) 12, L (L za0 y) 13, L (L za0 y) 14, L (L za0 y) 15]) 11), .int .u8 (L (L za1 [L (L za0 y) 0, L (L za0 y) 1, L (L za0 y) 2, L (L za0 y) 3, L (L za0 y) 4, L (L za0 y) 5, L (L za0 y) 6, L (L za0 y) 7, L (L za0 y) 8, L (L za0 y) 9, L (L za0 y) 10, L (L za0 y) 11, L (L za0 y) 12, L (L za0 y) 13, L (L za0 y) 14, L (L za0 y) 15]) 12), .int .u8 (L (L za1 [L (L za0 y) 0, L (L za0 y) 1, L (L za0 y) 2, L (L za0 y) 3, L (L za0 y) 4, L (L za0 y) 5, L (L za0 y) 6, L (L za0 y) 7, L (L za0 y) 8, L (L za0 y) 9, L (L za0 y) 10, L (L za0 y) 11, L (L za0 y) 12, L (L za0 y) 13, L (L za0 y) 14, L (L za0 y) 15]) 13), .int .u8 (L (L za1 [L (L za0 y) 0, L (L za0 y) 1, L (L za0 y) 2, L (L za0 y) 3, L (L za0 y) 4, L (L za0 y) 5, L (L za0 y) 6, L (L za0 y) 7, L (L za0 y) 8, L (L za0 y) 9, L (L za0 y) 10, L (L za0 y) 11, L (L za0 y) 12, L (L za0 y) 13, L (L za0 y) 14, L (L za0 y) 15]) 14), .int .u8 (L (L za1 [L (L za0 y) 0, L (L za0 y) 1, L (L za0 y) 2, L (L za0 y) 3, L (L za0 y) 4, L (L za0 y) 5, L (L za0 y) 6, L (L za0 y) 7, L (L za0 y) 8, L (L za0 y) 9, L (L za0 y) 10, L (L za0 y) 11, L (L za0 y) 12, L (L za0 y) 13, L (L za0 y) 14, L (L za0 y) 15]) 15), .int .i64 d, .bool h]) = L (L (L Le.mk y) d) h := by subst hL; exact fun y d h => (zbi ⟨y, d, h⟩).2
 have hFo : ∀ (y : Pr) (d : Int) (h : Bool), (L zdc (.agg [.int .u8 (L (L za1 [L (L za0 y) 0, L (L za0 y) 1, L (L za0 y) 2, L (L za0 y) 3, L (L za0 y) 4, L (L za0 y) 5, L (L za0 y) 6, L (L za0 y) 7, L (L za0 y) 8, L (L za0 y) 9, L (L za0 y) 10, L (L za0 y) 11, L (L za0 y) 12, L (L za0 y) 13, L (L za0 y) 14, L (L za0 y) 15]) 0), .int .u8 (L (L za1 [L (L za0 y) 0, L (L za0 y) 1, L (L za0 y) 2, L (L za0 y) 3, L (L za0 y) 4, L (L za0 y) 5, L (L za0 y) 6, L (L za0 y) 7, L (L za0 y) 8, L (L za0 y) 9, L (L za0 y) 10, L (L za0 y) 11, L (L za0 y) 12, L (L za0 y) 13, L (L za0 y) 14, L (L za0 y) 15]) 1), .int .u8 (L (L za1 [L (L za0 y) 0, L (L za0 y) 1, L (L za0 y) 2, L (L za0 y) 3, L (L za0 y) 4, L (L za0 y) 5, L (L za0 y) 6, L (L za0 y) 7, L (L za0 y) 8, L (L za0 y) 9, L (L za0 y) 10, L (L za0 y) 11, L (L za0 y) 12, L (L za0 y) 13, L (L za0 y) 14, L (L za0 y) 15]) 2), .int .u8 (L (L za1 [L (L za0 y) 0, L (L za0 y) 1, L (L za0 y) 2, L (L za0 y) 3, L (L za0 y) 4, L (L za0 y) 5, L (L za0 y) 6, L (L za0 y) 7, L (L za0 y) 8, L (L za0 y) 9, L (L za0 y) 10, L (L za0 y) 11, L (L za0 y) 12, L (L za0 y) 13, L (L za0 y) 14, L (L za0 y) 15]) 3), .int .u8 (L (L za1 [L (L za0 y) 0, L (L za0 y) 1, L (L za0 y) 2, L (L za0 y) 3, L (L za0 y) 4, L (L za0 y) 5, L (L za0 y) 6, L (L za0 y) 7, L (L za0 y) 8, L (L za0 y) 9, L (L za0 y) 10, L (L za0 y) 11, L (L za0 y) 12, L (L za0 y) 13, L (L za0 y) 14, L (L za0 y) 15]) 4), .int .u8 (L (L za1 [L (L za0 y) 0, L (L za0 y) 1, L (L za0 y) 2, L (L za0 y) 3, L (L za0 y) 4, L (L za0 y) 5, L (L za0 y) 6, L (L za0 y) 7, L (L za0 y) 8, L (L za0 y) 9, L (L za0 y) 10, L (L za0 y) 11, L (L za0 y) 12, L (L za0 y) 13, L (L za0 y) 14, L (L za0 y) 15]) 5), .int .u8 (L (L za1 [L (L za0 y) 0, L (L za0 y) 1, L (L za0 y) 2, L (L za0 y) 3, L (L za0 y) 4, L (L za0 y) 5, L (L za0 y) 6, L (L za0 y) 7, L (L za0 y) 8, L (L za0 y) 9, L (L za0 y) 10, L (L za0 y) 11, L (L za0 y) 12, L (L za0 y) 13, L (L za0 y) 14, L (L za0 y) 15]) 6), .int .u8 (L (L za1 [L (L za0 y) 0, L (L za0 y) 1, L (L za0 y) 2, L (L za0 y) 3, L (L za0 y) 4, L (L za0 y) 5, L (L za0 y) 6, L (L za0 y) 7, L (L za0 y) 8, L (L za0 y) 9, L (L za0 y) 10, L (L za0 y) 11, L (L za0 y) 12, L (L za0 y) 13, L (L za0 y) 14, L (L za0 y) 15]) 7), .int .u8 (L (L za1 [L (L za0 y) 0, L (L za0 y) 1, L (L za0 y) 2, L (L za0 y) 3, L (L za0 y) 4, L (L za0 y) 5, L (L za0 y) 6, L (L za0 y) 7, L (L za0 y) 8, L (L za0 y) 9, L (L za0 y) 10, L (L za0 y) 11, L (L za0 y) 12, L (L za0 y) 13, L (L za0 y) 14, L (L za0 y) 15]) 8), .int .u8 (L (L za1 [L (L za0 y) 0, L (L za0 y) 1, L (L za0 y) 2, L (L za0 y) 3, L (L za0 y) 4, L (L za0 y) 5, L (L za0 y) 6, L (L za0 y) 7, L (L za0 y) 8, L (L za0 y) 9, L (L za0 y) 10, L (L za0 y) 11, L (L za0 y) 12, L (L za0 y) 13, L (L za0 y) 14, L (L za0 y) 15]) 9), .int .u8 (L (L za1 [L (L za0 y) 0, L (L za0 y) 1, L (L za0 y) 2, L (L za0 y) 3, L (L za0 y) 4, L (L za0 y) 5, L (L za0 y) 6, L (L za0 y) 7, L (L za0 y) 8, L (L za0 y) 9, L (L za0 y) 10, L (L za0 y) 11, L (L za0 y) 12, L (L za0 y) 13, L (L za0 y) 14, L (L za0 y) 15]) 10), .int .u8 (L (L za1 [L (L za0 y) 0, L (L za0 y) 1, L (L za0 y) 2, L (L za0 y) 3, L (L za0 y) 4, L (L za0 y) 5, L (L za0 y) 6, L (L za0 y) 7, L (L za0 y) 8, L (L za0 y) 9, L (L za0 y) 10, L (L za0 y) 11, L (L za0 y) 12, L (L za0 y) 13, L (L za0 y) 14, L (L za0 y) 15]) 11), .int .u8 (L (L za1 [L (L za0 y) 0, L (L za0 y) 1, L (L za0 y) 2, L (L za0 y) 3, L (L za0 y) 4, L (L za0 y) 5, L (L za0 y) 6, L (L za0 y) 7, L (L za0 y) 8, L (L za0 y) 9, L (L za0 y) 10, L (L za0 y) 11, L (L za0 y) 12, L (L za0 y) 13, L (L za0 y) 14, L (L za0 y) 15]) 12), .int .u8 (L (L za1 [L (L za0 y) 0, L (L za0 y) 1, L (L za0 y) 2, L (L za0 y) 3, L (L za0 y) 4, L (L za0 y) 5, L (L za0 y) 6, L (L za0 y) 7, L (L za0 y) 8, L (L za0 y) 9, L (L za0 y) 10, L (L za0 y) 11, L (L za0 y) 12, L (L za0 y) 13, L (L za0 y) 14, L (L za0 y) 15]) 13), .int .u8 (L (L za1 [L (L za0 y) 0, L (L za0 y) 1, L (L za0 y) 2, L (L za0 y) 3, L (L za0 y) 4, L (L za0 y) 5, L (L za0 y) 6, L (L za0 y) 7, L (L za0 y) 8, L (L za0 y) 9, L (L za0 y) 10, L (L za0 y) 11, L (L za0 y) 12, L (L za0 y) 13, L (L za0 y) 14, L (L za0 y) 15]) 14), .int .u8 (L (L za1 [L (L za0 y) 0, L (L za0 y) 1, L (L za0 y) 2, L (L za0 y) 3, L (L za0 y) 4, L (L za0 y) 5, L (L za0 y) 6, L (L za0 y) 7, L (L za0 y) 8, L (L za0 y) 9, L (L za0 y) 10, L (L za0 y) 11, L (L za0 y) 12, L (L za0 y) 13, L (L za0 y) 14, L (L za0 y) 15]) 15), .int .i64 d, .bool h])) = True := by subst hL; exact fun y d h => eq_true (zbi ⟨y, d, h⟩).1
 have hEta : ∀ y : Le, L (L (L Le.mk (L Le.p y)) (L Le.d y)) (L Le.h y) = y := by subst hL; exact fun y => rfl
 have hMp : ∀ (y : Pr) (d : Int) (h : Bool), L Le.p (L (L (L Le.mk y) d) h) = y := by subst hL; exact fun y d h => rfl
 have hQ0 : ∀ y : Pr, L zal (.agg [.int .u8 (L (L za0 y) 0), .int .u8 (L (L za0 y) 1), .int .u8 (L (L za0 y) 2), .int .u8 (L (L za0 y) 3), .int .u8 (L (L za0 y) 4), .int .u8 (L (L za0 y) 5), .int .u8 (L (L za0 y) 6), .int .u8 (L (L za0 y) 7), .int .u8 (L (L za0 y) 8), .int .u8 (L (L za0 y) 9), .int .u8 (L (L za0 y) 10), .int .u8 (L (L za0 y) 11), .int .u8 (L (L za0 y) 12), .int .u8 (L (L za0 y) 13), .int .u8 (L (L za0 y) 14), .int .u8 (L (L za0 y) 15)]) = y := by subst hL; exact fun y => (zbh y).2
 have hQo : ∀ y : Pr, (L zcl (.agg [.int .u8 (L (L za0 y) 0), .int .u8 (L (L za0 y) 1), .int .u8 (L (L za0 y) 2), .int .u8 (L (L za0 y) 3), .int .u8 (L (L za0 y) 4), .int .u8 (L (L za0 y) 5), .int .u8 (L (L za0 y) 6), .int .u8 (L (L za0 y) 7), .int .u8 (L (L za0 y) 8), .int .u8 (L (L za0 y) 9), .int .u8 (L (L za0 y) 10), .int .u8 (L (L za0 y) 11), .int .u8 (L (L za0 y) 12), .int .u8 (L (L za0 y) 13), .int .u8 (L (L za0 y) 14), .int .u8 (L (L za0 y) 15)])) = True := by subst hL; exact fun y => eq_true (zbh y).1
 have hQ1 : ∀ y : Pr, L zal (.agg [.int .u8 (L (L za1 [L (L za0 y) 0, L (L za0 y) 1, L (L za0 y) 2, L (L za0 y) 3, L (L za0 y) 4, L (L za0 y) 5, L (L za0 y) 6, L (L za0 y) 7, L (L za0 y) 8, L (L za0 y) 9, L (L za0 y) 10, L (L za0 y) 11, L (L za0 y) 12, L (L za0 y) 13, L (L za0 y) 14, L (L za0 y) 15]) 0), .int .u8 (L (L za1 [L (L za0 y) 0, L (L za0 y) 1, L (L za0 y) 2, L (L za0 y) 3, L (L za0 y) 4, L (L za0 y) 5, L (L za0 y) 6, L (L za0 y) 7, L (L za0 y) 8, L (L za0 y) 9, L (L za0 y) 10, L (L za0 y) 11, L (L za0 y) 12, L (L za0 y) 13, L (L za0 y) 14, L (L za0 y) 15]) 1), .int .u8 (L (L za1 [L (L za0 y) 0, L (L za0 y) 1, L (L za0 y) 2, L (L za0 y) 3, L (L za0 y) 4, L (L za0 y) 5, L (L za0 y) 6, L (L za0 y) 7, L (L za0 y) 8, L (L za0 y) 9, L (L za0 y) 10, L (L za0 y) 11, L (L za0 y) 12, L (L za0 y) 13, L (L za0 y) 14, L (L za0 y) 15]) 2), .int .u8 (L (L za1 [L (L za0 y) 0, L (L za0 y) 1, L (L za0 y) 2, L (L za0 y) 3, L (L za0 y) 4, L (L za0 y) 5, L (L za0 y) 6, L (L za0 y) 7, L (L za0 y) 8, L (L za0 y) 9, L (L za0 y) 10, L (L za0 y) 11, L (L za0 y) 12, L (L za0 y) 13, L (L za0 y) 14, L (L za0 y) 15]) 3), .int .u8 (L (L za1 [L (L za0 y) 0, L (L za0 y) 1, L (L za0 y) 2, L (L za0 y) 3, L (L za0 y) 4, L (L za0 y) 5, L (L za0 y) 6, L (L za0 y) 7, L (L za0 y) 8, L (L za0 y) 9, L (L za0 y) 10, L (L za0 y) 11, L (L za0 y) 12, L (L za0 y) 13, L (L za0 y) 14, L (L za0 y) 15]) 4), .int .u8 (L (L za1 [L (L za0 y) 0, L (L za0 y) 1, L (L za0 y) 2, L (L za0 y) 3, L (L za0 y) 4, L (L za0 y) 5, L (L za0 y) 6, L (L za0 y) 7, L (L za0 y) 8, L (L za0 y) 9, L (L za0 y) 10, L (L za0 y) 11, L (L za0 y) 12, L (L za0 y) 13, L (L za0 y) 14, L (L za0 y) 15]) 5), .int .u8 (L (L za1 [L (L za0 y) 0, L (L za0 y) 1, L (L za0 y) 2, L (L za0 y) 3, L (L za0 y) 4, L (L za0 y) 5, L (L za0 y) 6, L (L za0 y) 7, L (L za0 y) 8, L (L za0 y) 9, L (L za0 y) 10, L (L za0 y) 11, L (L za0 y) 12, L (L za0 y) 13, L (L za0 y) 14, L (L za0 y) 15]) 6), .int .u8 (L (L za1 [L (L za0 y) 0, L (L za0 y) 1, L (L za0 y) 2, L (L za0 y) 3, L (L za0 y) 4, L (L za0 y) 5, L (L za0 y) 6, L (L za0 y) 7, L (L za0 y) 8, L (L za0 y) 9, L (L za0 y) 10, L (L za0 y) 11, L (L za0 y) 12, L (L za0 y) 13, L (L za0 y) 14, L (L za0 y) 15]) 7), .int .u8 (L (L za1 [L (L za0 y) 0, L (L za0 y) 1, L (L za0 y) 2, L (L za0 y) 3, L (L za0 y) 4, L (L za0 y) 5, L (L za0 y) 6, L (L za0 y) 7, L (L za0 y) 8, L (L za0 y) 9, L (L za0 y) 10, L (L za0 y) 11, L (L za0 y) 12, L (L za0 y) 13, L (L za0 y) 14, L (L za0 y) 15]) 8), .int .u8 (L (L za1 [L (L za0 y) 0, L (L za0 y) 1, L (L za0 y) 2, L (L za0 y) 3, L (L za0 y) 4, L (L za0 y) 5, L (L za0 y) 6, L (L za0 y) 7, L (L za0 y) 8, L (L za0 y) 9, L (L za0 y) 10, L (L za0 y) 11, L (L za0 y) 12, L (L za0 y) 13, L (L za0 y) 14, L (L za0 y) 15]) 9), .int .u8 (L (L za1 [L (L za0 y) 0, L (L za0 y) 1, L (L za0 y) 2, L (L za0 y) 3, L (L za0 y) 4, L (L za0 y) 5, L (L za0 y) 6, L (L za0 y) 7, L (L za0 y) 8, L (L za0 y) 9, L (L za0 y) 10, L (L za0 y) 11, L (L za0 y) 12, L (L za0 y) 13, L (L za0 y) 14, L (L za0 y) 15]) 10), .int .u8 (L (L za1 [L (L za0 y) 0, L (L za0 y) 1, L (L za0 y) 2, L (L za0 y) 3, L (L za0 y) 4, L (L za0 y) 5, L (L za0 y) 6, L (L za0 y) 7, L (L za0 y) 8, L (L za0 y) 9, L (L za0 y) 10, L (L za0 y) 11, L (L za0 y) 12, L (L za0 y) 13, L (L za0 y) 14, L (L za0 y) 15]) 11), .int .u8 (L (L za1 [L (L za0 y) 0, L (L za0 y) 1, L (L za0 y) 2, L (L za0 y) 3, L (L za0 y) 4, L (L za0 y) 5, L (L za0 y) 6, L (L za0 y) 7, L (L za0 y) 8, L (L za0 y) 9, L (L za0 y) 10, L (L za0 y) 11, L (L za0 y) 12, L (L za0 y) 13, L (L za0 y) 14, L (L za0 y) 15]) 12), .int .u8 (L (L za1 [L (L za0 y) 0, L (L za0 y) 1, L (L za0 y) 2, L (L za0 y) 3, L (L za0 y) 4, L (L za0 y) 5, L (L za0 y) 6, L (L za0 y) 7, L (L za0 y) 8, L (L za0 y) 9, L (L za0 y) 10, L (L za0 y) 11, L (L za0 y) 12, L (L za0 y) 13, L (L za0 y) 14, L (L za0 y) 15]) 13), .int .u8 (L (L za1 [L (L za0 y) 0, L (L za0 y) 1, L (L za0 y) 2, L (L za0 y) 3, L (L za0 y) 4, L (L za0 y) 5, L (L za0 y) 6, L (L za0 y) 7, L (L za0 y) 8, L (L za0 y) 9, L (L za0 y) 10, L (L za0 y) 11, L (L za0 y) 12, L (L za0 y) 13, L (L za0 y) 14, L (L za0 y) 15]) 14), .int .u8 (L (L za1 [L (L za0 y) 0, L (L za0 y) 1, L (L za0 y) 2, L (L za0 y) 3, L (L za0 y) 4, L (L za0 y) 5, L (L za0 y) 6, L (L za0 y) 7, L (L za0 y) 8, L (L za0 y) 9, L (L za0 y) 10, L (L za0 y) 11, L (L za0 y) 12, L (L za0 y) 13, L (L za0 y) 14, L (L za0 y) 15]) 15)]) = y := by subst hL; exact fun y => (zbh y).2
 have hQ1o : ∀ y : Pr, (L zcl (.agg [.int .u8 (L (L za1 [L (L za0 y) 0, L (L za0 y) 1, L (L za0 y) 2, L (L za0 y) 3, L (L za0 y) 4, L (L za0 y) 5, L (L za0 y) 6, L (L za0 y) 7, L (L za0 y) 8, L (L za0 y) 9, L (L za0 y) 10, L (L za0 y) 11, L (L za0 y) 12, L (L za0 y) 13, L (L za0 y) 14, L (L za0 y) 15]) 0), .int .u8 (L (L za1 [L (L za0 y) 0, L (L za0 y) 1, L (L za0 y) 2, L (L za0 y) 3, L (L za0 y) 4, L (L za0 y) 5, L (L za0 y) 6, L (L za0 y) 7, L (L za0 y) 8, L (L za0 y) 9, L (L za0 y) 10, L (L za0 y) 11, L (L za0 y) 12, L (L za0 y) 13, L (L za0 y) 14, L (L za0 y) 15]) 1), .int .u8 (L (L za1 [L (L za0 y) 0, L (L za0 y) 1, L (L za0 y) 2, L (L za0 y) 3, L (L za0 y) 4, L (L za0 y) 5, L (L za0 y) 6, L (L za0 y) 7, L (L za0 y) 8, L (L za0 y) 9, L (L za0 y) 10, L (L za0 y) 11, L (L za0 y) 12, L (L za0 y) 13, L (L za0 y) 14, L (L za0 y) 15]) 2), .int .u8 (L (L za1 [L (L za0 y) 0, L (L za0 y) 1, L (L za0 y) 2, L (L za0 y) 3, L (L za0 y) 4, L (L za0 y) 5, L (L za0 y) 6, L (L za0 y) 7, L (L za0 y) 8, L (L za0 y) 9, L (L za0 y) 10, L (L za0 y) 11, L (L za0 y) 12, L (L za0 y) 13, L (L za0 y) 14, L (L za0 y) 15]) 3), .int .u8 (L (L za1 [L (L za0 y) 0, L (L za0 y) 1, L (L za0 y) 2, L (L za0 y) 3, L (L za0 y) 4, L (L za0 y) 5, L (L za0 y) 6, L (L za0 y) 7, L (L za0 y) 8, L (L za0 y) 9, L (L za0 y) 10, L (L za0 y) 11, L (L za0 y) 12, L (L za0 y) 13, L (L za0 y) 14, L (L za0 y) 15]) 4), .int .u8 (L (L za1 [L (L za0 y) 0, L (L za0 y) 1, L (L za0 y) 2, L (L za0 y) 3, L (L za0 y) 4, L (L za0 y) 5, L (L za0 y) 6, L (L za0 y) 7, L (L za0 y) 8, L (L za0 y) 9, L (L za0 y) 10, L (L za0 y) 11, L (L za0 y) 12, L (L za0 y) 13, L (L za0 y) 14, L (L za0 y) 15]) 5), .int .u8 (L (L za1 [L (L za0 y) 0, L (L za0 y) 1, L (L za0 y) 2, L (L za0 y) 3, L (L za0 y) 4, L (L za0 y) 5, L (L za0 y) 6, L (L za0 y) 7, L (L za0 y) 8, L (L za0 y) 9, L (L za0 y) 10, L (L za0 y) 11, L (L za0 y) 12, L (L za0 y) 13, L (L za0 y) 14, L (L za0 y) 15]) 6), .int .u8 (L (L za1 [L (L za0 y) 0, L (L za0 y) 1, L (L za0 y) 2, L (L za0 y) 3, L (L za0 y) 4, L (L za0 y) 5, L (L za0 y) 6, L (L za0 y) 7, L (L za0 y) 8, L (L za0 y) 9, L (L za0 y) 10, L (L za0 y) 11, L (L za0 y) 12, L (L za0 y) 13, L (L za0 y) 14, L (L za0 y) 15]) 7), .int .u8 (L (L za1 [L (L za0 y) 0, L (L za0 y) 1, L (L za0 y) 2, L (L za0 y) 3, L (L za0 y) 4, L (L za0 y) 5, L (L za0 y) 6, L (L za0 y) 7, L (L za0 y) 8, L (L za0 y) 9, L (L za0 y) 10, L (L za0 y) 11, L (L za0 y) 12, L (L za0 y) 13, L (L za0 y) 14, L (L za0 y) 15]) 8), .int .u8 (L (L za1 [L (L za0 y) 0, L (L za0 y) 1, L (L za0 y) 2, L (L za0 y) 3, L (L za0 y) 4, L (L za0 y) 5, L (L za0 y) 6, L (L za0 y) 7, L (L za0 y) 8, L (L za0 y) 9, L (L za0 y) 10, L (L za0 y) 11, L (L za0 y) 12, L (L za0 y) 13, L (L za0 y) 14, L (L za0 y) 15]) 9), .int .u8 (L (L za1 [L (L za0 y) 0, L (L za0 y) 1, L (L za0 y) 2, L (L za0 y) 3, L (L za0 y) 4, L (L za0 y) 5, L (L za0 y) 6, L (L za0 y) 7, L (L za0 y) 8, L (L za0 y) 9, L (L za0 y) 10, L (L za0 y) 11, L (L za0 y) 12, L (L za0 y) 13, L (L za0 y) 14, L (L za0 y) 15]) 10), .int .u8 (L (L za1 [L (L za0 y) 0, L (L za0 y) 1, L (L za0 y) 2, L (L za0 y) 3, L (L za0 y) 4, L (L za0 y) 5, L (L za0 y) 6, L (L za0 y) 7, L (L za0 y) 8, L (L za0 y) 9, L (L za0 y) 10, L (L za0 y) 11, L (L za0 y) 12, L (L za0 y) 13, L (L za0 y) 14, L (L za0 y) 15]) 11), .int .u8 (L (L za1 [L (L za0 y) 0, L (L za0 y) 1, L (L za0 y) 2, L (L za0 y) 3, L (L za0 y) 4, L (L za0 y) 5, L (L za0 y) 6, L (L za0 y) 7, L (L za0 y) 8, L (L za0 y) 9, L (L za0 y) 10, L (L za0 y) 11, L (L za0 y) 12, L (L za0 y) 13, L (L za0 y) 14, L (L za0 y) 15]) 12), .int .u8 (L (L za1 [L (L za0 y) 0, L (L za0 y) 1, L (L za0 y) 2, L (L za0 y) 3, L (L za0 y) 4, L (L za0 y) 5, L (L za0 y) 6, L (L za0 y) 7, L (L za0 y) 8, L (L za0 y) 9, L (L za0 y) 10, L (L za0 y) 11, L (L za0 y) 12, L (L za0 y) 13, L (L za0 y) 14, L (L za0 y) 15]) 13), .int .u8 (L (L za1 [L (L za0 y) 0, L (L za0 y) 1, L (L za0 y) 2, L (L za0 y) 3, L (L za0 y) 4, L (L za0 y) 5, L (L za0 y) 6, L (L za0 y) 7, L (L za0 y) 8, L (L za0 y) 9, L (L za0 y) 10, L (L za0 y) 11, L (L za0 y) 12, L (L za0 y) 13, L (L za0 y) 14, L (L za0 y) 15]) 14), .int .u8 (L (L za1 [L (L za0 y) 0, L (L za0 y) 1, L (L za0 y) 2, L (L za0 y) 3, L (L za0 y) 4, L (L za0 y) 5, L (L za0 y) 6, L (L za0 y) 7, L (L za0 y) 8, L (L za0 y) 9, L (L za0 y) 10, L (L za0 y) 11, L (L za0 y) 12, L (L za0 y) 13, L (L za0 y) 14, L (L za0 y) 15]) 15)])) = True := by subst hL; exact fun y => eq_true (zbh y).1
 have hG : ∀ y : List Le, L zaf (.lst 18 (L zf5 y) (fun i => leC L (L (L zao y) i))) = y := by subst hL; exact fun y => zh6 y
 have hGo : ∀ y : List Le, (L ze7 (.lst 18 (L zf5 y) (fun i => leC L (L (L zao y) i)))) = True := by subst hL; exact fun y => eq_true (zlg y)
 (cbv; try simp only [syT, true_and, and_true])
 refine ⟨⟨0, ?_⟩, fun i hi => ?_⟩
 · (cbv; try simp only [syT, true_and, and_true])
   (subst hL; subst hQ; simp only [L2, L3, std] at *; try simp only [syS, reduceCtorEq, Int.reduceToNat, Int.reduceAdd, Int.reduceSub] at *)
   exact yic _ _
 · have hi2 : zr3 zix l i := by
     have h := hi
     rw [hL] at h
     exact h
   clear hi
   (cbv; try simp only [syT, true_and, and_true])
   simp only [hE, hEo, hF, hFo, hEta, hMp, hQ1, hQ1o, hQ0, hQo, hG, hGo, true_and]
   obtain ⟨i', hi'⟩ : ∃ i', i' = i + 1 := ⟨_, rfl⟩
   refine ⟨fun h1 => ⟨?_, fun h2 => ?_, fun h2 => ⟨i', ?_⟩⟩, fun h1 => ?_⟩
   all_goals try (cbv; try simp only [syT, true_and, and_true])
   all_goals subst hL; subst hQ
   · have h1 : ilt (zac i) (zac l.length) = true := h1
     rw [zev, zb1, zb1] at h1
     show inR (zac i) (zac l.length) = true
     rw [zns, zb1, zb1]
     omega
   · have h1 : ilt (zac i) (zac l.length) = true := h1
     rw [zev, zb1, zb1] at h1
     have hlt : i < l.length := by omega
     have h2 : zix (zao l i) = true := h2
     show zfk (.int .i64 (zew l)) (.int .i64 (zac i))
     rw [zgf, zew, zyx (V := leV) hi2 hlt h2]; rfl
   · have h1 : ilt (zac i) (zac l.length) = true := h1
     rw [zev, zb1, zb1] at h1
     have hlt : i < l.length := by omega
     have h2 : zix (zao l i) = false := h2
     subst hi'
     refine ⟨fun _ _ _ _ => trivial, ?_, zvg (V := leV) hi2 hlt h2, ?_⟩
     · show zc6 .i64 (zac i) 1 = zac (i + 1)
       unfold zc6 zac
       rw [zdi]; omega
     · show l.length - (i + 1) < l.length - i
       omega
   · have h1 : ilt (zac i) (zac l.length) = false := h1
     rw [zku, zb1, zb1] at h1
     show zfk (.int .i64 (zew l)) (.int .i64 (-1))
     rw [zgf, zew, zyy hi2 (by omega)]
theorem zpz : ∀ l : List Le, (zew l < 0 ↔ ¬ firstFree l < l.length) /\ (firstFree l < l.length -> zew l = (firstFree l : Int))
 | [] => by simp [zew, firstFree, zpp]
 | e :: l => by
   obtain ⟨h1, h2⟩ := zpz l
   have hx := (ya4 zix l).1
   unfold zew firstFree at h1 h2 |-
   unfold zpp
   rw [List.findIdx_cons]
   cases hf : zix e with
   | true =>
     have hf : (!e.h) = true := hf
     rw [if_pos rfl, hf]
     simp
   | false =>
     have hf : (!e.h) = false := hf
     rw [if_neg (by decide), hf, List.length_cons]
     simp only [cond_false]
     by_cases h3 : zpp zix l < 0
     · rw [if_pos h3]
       have := h1.1 h3
       exact ⟨⟨fun _ => by omega, fun _ => by omega⟩, fun h => by omega⟩
     · rw [if_neg h3]
       have h4 : List.findIdx (fun e => !e.h) l < l.length := Classical.byContradiction fun h => h3 (h1.2 h)
       have h5 := h2 h4
       exact ⟨⟨fun _ => by omega, fun _ => by omega⟩, fun h => by omega⟩
def ldE (l : List Le) (x : Pr × Int) : Int := zda l x.1 x.2
def ldD (l : List Le) (x : Pr × Int) : List Le := zdf l x.1 x.2
def ye6 (L : za8) : zcu := (8, fun xs => match xs with
 | [.agg [x], q, .int .i64 k] => some (L ze7 x /\ L zcl q /\ L zdz (L zaf x) /\ L zd6 (L zaf x) /\ L zgm (L zal q), .tup [.agg [zci L (L2 L ldD (L zaf x) (L2 L Prod.mk (L zal q) k))], .int .i64 (L2 L ldE (L zaf x) (L2 L Prod.mk (L zal q) k))])
 | _ => none)
theorem zo0 {l : List Le} {p : Pr} {k c : Int} (h : zda l p k = c) (hc : c ≠ 0) : zfk (.tup [.agg [zci std (zdf l p k)], .int .i64 (zda l p k)]) (.tup [.agg [.nils], .int .i64 c]) := by
 have e : zdf l p k = [] := by unfold zdf; rw [if_neg (by rw [h]; exact hc)]
 rw [zjj, zdo, zdo, zhl, zhm, h, e]
 refine ⟨?_, rfl, trivial⟩
 show zbk (.agg [.lst 18 0 _]) (.agg [.nils])
 rw [zij, zdp]
 exact ⟨rfl, trivial⟩
theorem zo1 {l m : List Le} {p : Pr} {k : Int} (h : zda l p k = 0) (hm : m = zdf l p k) : zfk (.tup [.agg [zci std (zdf l p k)], .int .i64 (zda l p k)]) (.tup [.agg [.lst 18 (zf5 m) fun i => leC std (zao m i)], .int .i64 0]) := by
 rw [zjj, zdo, zdo, zhl, zhm, h, <- hm]
 exact ⟨zl2 _ _ _ rfl fun i j hi hj => rfl, rfl, trivial⟩
theorem ynh {l : List Le} {i : Nat} (hi : i < l.length) : ze7 (.lst 18 (zfs l.length) fun q => zql (fun q => leC std (zao l q)) i (Nat.add 0 q)) /\ zaf (.lst 18 (zfs l.length) fun q => zql (fun q => leC std (zao l q)) i (Nat.add 0 q)) = zei i l := by
 have hl := zet hi
 refine zsp ze0 (by unfold zfs; omega) fun q j hq hj => ?_
 rw [show Nat.add 0 q = q from Nat.zero_add q]
 exact yar hi j
theorem zq5 {l : List Le} {p : Pr} {k : Int} (hz : l.length <= 1000000) (hok : zd6 l) (hpo : zgm p) (hk : ¬ (k < 1 \/ 255 < k)) {e : Le} (he : e = yf5 (zb2 l p) k) :
   (zdz l /\ zd6 l /\ zgm p) /\
     ((!zbr p l) = true ->
       (ile 64 (zac l.length) = true ->
         zdz l /\ (ilt (zew l) 0 = true -> zfk (.tup [.agg [zci std (zdf l p k)], .int .i64 (zda l p k)]) (.tup [.agg [.nils], .int .i64 17])) /\
           (ilt (zew l) 0 = false ->
             (∀ (i j : Nat), i < l.length -> j < 18 -> True) /\ upN l.length /\ (∀ (i j : Nat), i < l.length -> j < 18 -> True) /\ yf7 l.length (zew l) (zc6 .i64 (zew l) 1) /\
               (ze7 (.lst 18 (zfs l.length) fun i => zql (fun i => leC std (zao l i)) (zew l).toNat (Nat.add 0 i)) /\ zdz (zaf (.lst 18 (zfs l.length) fun i => zql (fun i => leC std (zao l i)) (zew l).toNat (Nat.add 0 i))) /\
                 zd6 (zaf (.lst 18 (zfs l.length) fun i => zql (fun i => leC std (zao l i)) (zew l).toNat (Nat.add 0 i))) /\ zhy e) /\
               zfk (.tup [.agg [zci std (zdf l p k)], .int .i64 (zda l p k)]) (.tup [.agg [.lst 18 (zf5 (zbx (zaf (.lst 18 (zfs l.length) fun i => zql (fun i => leC std (zao l i)) (zew l).toNat (Nat.add 0 i))) e))
                 fun i => leC std (zao (zbx (zaf (.lst 18 (zfs l.length) fun i => zql (fun i => leC std (zao l i)) (zew l).toNat (Nat.add 0 i))) e) i)], .int .i64 0]))) /\
       (ile 64 (zac l.length) = false -> (zdz l /\ zd6 l /\ zhy e) /\
         zfk (.tup [.agg [zci std (zdf l p k)], .int .i64 (zda l p k)]) (.tup [.agg [.lst 18 (zf5 (zbx l e)) fun i => leC std (zao (zbx l e) i)], .int .i64 0]))) /\
     ((!zbr p l) = false -> (zdz l /\ zd6 l /\ zhy e) /\
       zfk (.tup [.agg [zci std (zdf l p k)], .int .i64 (zda l p k)]) (.tup [.agg [.lst 18 (zf5 (zbx l e)) fun i => leC std (zao (zbx l e) i)], .int .i64 0])) := by
 subst he
 have hke := zin k (zfi hok hpo)
 obtain ⟨f1, f2⟩ := zpz l
 refine ⟨⟨hz, hok, hpo⟩, fun hh => ⟨fun h64 => ⟨hz, fun hf => ?_, fun hf => ?_⟩, fun h64 => ?_⟩, fun hh => ?_⟩
 · rw [yj9, zb1] at h64
   rw [zev] at hf
   refine zo0 ?_ (by decide)
   unfold zda
   rw [if_neg hk, if_pos ⟨by unfold zih; rw [hh, Bool.true_and]; exact decide_eq_true (by omega), f1.1 hf⟩]
 · rw [yj9, zb1] at h64
   rw [zku] at hf
   have hlt : firstFree l < l.length := Classical.byContradiction fun h => by have := f1.2 h; omega
   have ef := f2 hlt
   have et : (zew l).toNat = firstFree l := by omega
   have hfull : zih l p = true := by unfold zih; rw [hh, Bool.true_and]; exact decide_eq_true (by omega)
   have hE0 : zda l p k = 0 := by unfold zda; rw [if_neg hk, if_neg (fun h => h.2 hlt)]
   have hl := zet hlt
   rw [et]
   obtain ⟨c1, c2⟩ := ynh hlt
   rw [c2]
   refine ⟨fun _ _ _ _ => trivial, hz, fun _ _ _ _ => trivial, ⟨hz, by omega, by omega, ?_⟩, ⟨c1, (show (zei (firstFree l) l).length <= 1000000 by omega), znk hok, hke⟩, zo1 hE0 ?_⟩
   · unfold zc6; rw [zdi]; omega
   · unfold zdf zdk
     rw [if_pos hE0, if_pos hfull]
 · rw [yn2, zb1] at h64
   have hfull : ¬ zih l p = true := by unfold zih; rw [hh, Bool.true_and]; simp; omega
   have hE0 : zda l p k = 0 := by unfold zda; rw [if_neg hk, if_neg (fun h => hfull h.1)]
   refine ⟨⟨hz, hok, hke⟩, zo1 hE0 ?_⟩
   unfold zdf zdk
   rw [if_pos hE0, if_neg hfull]
 · have hfull : ¬ zih l p = true := by unfold zih; rw [hh, Bool.false_and]; decide
   have hE0 : zda l p k = 0 := by unfold zda; rw [if_neg hk, if_neg (fun h => hfull h.1)]
   refine ⟨⟨hz, hok, hke⟩, zo1 hE0 ?_⟩
   unfold zdf zdk
   rw [if_pos hE0, if_neg hfull]
theorem ztn : zd7 Tryz.prog (ye6 std) := by
 intro xs p r h hp
 dsimp only [ye6] at h |-
 split at h <;> cases h
 try simp only [L2, L3, std] at hp |-
 rename_i x q k
 obtain ⟨ho, ho2, hz, hok, hpo⟩ := hp
 refine zw8 ze0 ho (zqh ziv ho2 ?_)
 rw [zgr]
 have hz : zdz (zaf x) := hz
 have hok : zd6 (zaf x) := hok
 have hpo : zgm (zal q) := hpo
 show zab _ _ (.agg [zti std leV (zaf x)] :: zot std (zal q) :: _) (.tup [.agg [zci std (zdf (zaf x) (zal q) k)], .int .i64 (zda (zaf x) (zal q) k)])
 generalize zaf x = l at hz hok |-
 generalize zal q = p at hpo |-
 refine zas (T := tt) (S := fun L => zb3 [zvl L, zyi L, zzc L, yjl L] [clLe L, dlLe L]) (lo := noA) (lb := noA) 5 (fn := Tryz.f8) (xs := fun L => [.agg [zci L l], zot L p, .int .i64 k]) rfl rfl (by kernel_rfl) (by kernel_rfl) rfl zae (zaa ⟨zjh, zn4, zne, yf1, trivial⟩ ⟨zj1, zmi, trivial⟩) (by kernel_rfl) ?_
 intro L P' Q' hL hP hQ
 have hE : ∀ (y : Pr) (d : Int) (h : Bool), L zbt (.agg [.int .u8 (L (L za0 y) 0), .int .u8 (L (L za0 y) 1), .int .u8 (L (L za0 y) 2), .int .u8 (L (L za0 y) 3), .int .u8 (L (L za0 y) 4), .int .u8 (L (L za0 y) 5), .int .u8 (L (L za0 y) 6), .int .u8 (L (L za0 y) 7), .int .u8 (L (L za0 y) 8), .int .u8 (L (L za0 y) 9), .int .u8 (L (L za0 y) 10), .int .u8 (L (L za0 y) 11), .int .u8 (L (L za0 y) 12), .int .u8 (L (L za0 y) 13), .int .u8 (L (L za0 y) 14), .int .u8 (L (L za0 y) 15), .int .i64 d, .bool h]) = L (L (L Le.mk y) d) h := by subst hL; exact fun y d h => (zbi ⟨y, d, h⟩).2
 have hEo : ∀ (y : Pr) (d : Int) (h : Bool), (L zdc (.agg [.int .u8 (L (L za0 y) 0), .int .u8 (L (L za0 y) 1), .int .u8 (L (L za0 y) 2), .int .u8 (L (L za0 y) 3), .int .u8 (L (L za0 y) 4), .int .u8 (L (L za0 y) 5), .int .u8 (L (L za0 y) 6), .int .u8 (L (L za0 y) 7), .int .u8 (L (L za0 y) 8), .int .u8 (L (L za0 y) 9), .int .u8 (L (L za0 y) 10), .int .u8 (L (L za0 y) 11), .int .u8 (L (L za0 y) 12), .int .u8 (L (L za0 y) 13), .int .u8 (L (L za0 y) 14), .int .u8 (L (L za0 y) 15), .int .i64 d, .bool h])) = True := by subst hL; exact fun y d h => eq_true (zbi ⟨y, d, h⟩).1
 have hF : ∀ (y : Pr) (d : Int) (h : Bool), L zbt (.agg [.int .u8 (L (L za1 [L (L za0 y) 0, L (L za0 y) 1, L (L za0 y) 2, L (L za0 y) 3, L (L za0 y) 4, L (L za0 y) 5, L (L za0 y) 6, L (L za0 y) 7, L (L za0 y) 8, L (L za0 y) 9, L (L za0 y) 10, L (L za0 y) 11, L (L za0 y) 12, L (L za0 y) 13, L (L za0 y) 14, L (L za0 y) 15]) 0), .int .u8 (L (L za1 [L (L za0 y) 0, L (L za0 y) 1, L (L za0 y) 2, L (L za0 y) 3, L (L za0 y) 4, L (L za0 y) 5, L (L za0 y) 6, L (L za0 y) 7, L (L za0 y) 8, L (L za0 y) 9, L (L za0 y) 10, L (L za0 y) 11, L (L za0 y) 12, L (L za0 y) 13, L (L za0 y) 14, L (L za0 y) 15]) 1), .int .u8 (L (L za1 [L (L za0 y) 0, L (L za0 y) 1, L (L za0 y) 2, L (L za0 y) 3, L (L za0 y) 4, L (L za0 y) 5, L (L za0 y) 6, L (L za0 y) 7, L (L za0 y) 8, L (L za0 y) 9, L (L za0 y) 10, L (L za0 y) 11, L (L za0 y) 12, L (L za0 y) 13, L (L za0 y) 14, L (L za0 y) 15]) 2), .int .u8 (L (L za1 [L (L za0 y) 0, L (L za0 y) 1, L (L za0 y) 2, L (L za0 y) 3, L (L za0 y) 4, L (L za0 y) 5, L (L za0 y) 6, L (L za0 y) 7, L (L za0 y) 8, L (L za0 y) 9, L (L za0 y) 10, L (L za0 y) 11, L (L za0 y) 12, L (L za0 y) 13, L (L za0 y) 14, L (L za0 y) 15]) 3), .int .u8 (L (L za1 [L (L za0 y) 0, L (L za0 y) 1, L (L za0 y) 2, L (L za0 y) 3, L (L za0 y) 4, L (L za0 y) 5, L (L za0 y) 6, L (L za0 y) 7, L (L za0 y) 8, L (L za0 y) 9, L (L za0 y) 10, L (L za0 y) 11, L (L za0 y) 12, L (L za0 y) 13, L (L za0 y) 14, L (L za0 y) 15]) 4), .int .u8 (L (L za1 [L (L za0 y) 0, L (L za0 y) 1, L (L za0 y) 2, L (L za0 y) 3, L (L za0 y) 4, L (L za0 y) 5, L (L za0 y) 6, L (L za0 y) 7, L (L za0 y) 8, L (L za0 y) 9, L (L za0 y) 10, L (L za0 y) 11, L (L za0 y) 12, L (L za0 y) 13, L (L za0 y) 14, L (L za0 y) 15]) 5), .int .u8 (L (L za1 [L (L za0 y) 0, L (L za0 y) 1, L (L za0 y) 2, L (L za0 y) 3, L (L za0 y) 4, L (L za0 y) 5, L (L za0 y) 6, L (L za0 y) 7, L (L za0 y) 8, L (L za0 y) 9, L (L za0 y) 10, L (L za0 y) 11, L (L za0 y) 12, L (L za0 y) 13, L (L za0 y) 14, L (L za0 y) 15]) 6), .int .u8 (L (L za1 [L (L za0 y) 0, L (L za0 y) 1, L (L za0 y) 2, L (L za0 y) 3, L (L za0 y) 4, L (L za0 y) 5, L (L za0 y) 6, L (L za0 y) 7, L (L za0 y) 8, L (L za0 y) 9, L (L za0 y) 10, L (L za0 y) 11, L (L za0 y) 12, L (L za0 y) 13, L (L za0 y) 14, L (L za0 y) 15]) 7), .int .u8 (L (L za1 [L (L za0 y) 0, L (L za0 y) 1, L (L za0 y) 2, L (L za0 y) 3, L (L za0 y) 4, L (L za0 y) 5, L (L za0 y) 6, L (L za0 y) 7, L (L za0 y) 8, L (L za0 y) 9, L (L za0 y) 10, L (L za0 y) 11, L (L za0 y) 12, L (L za0 y) 13, L (L za0 y) 14, L (L za0 y) 15]) 8), .int .u8 (L (L za1 [L (L za0 y) 0, L (L za0 y) 1, L (L za0 y) 2, L (L za0 y) 3, L (L za0 y) 4, L (L za0 y) 5, L (L za0 y) 6, L (L za0 y) 7, L (L za0 y) 8, L (L za0 y) 9, L (L za0 y) 10, L (L za0 y) 11, L (L za0 y) 12, L (L za0 y) 13, L (L za0 y) 14, L (L za0 y) 15]) 9), .int .u8 (L (L za1 [L (L za0 y) 0, L (L za0 y) 1, L (L za0 y) 2, L (L za0 y) 3, L (L za0 y) 4, L (L za0 y) 5, L (L za0 y) 6, L (L za0 y) 7, L (L za0 y) 8, L (L za0 y) 9, L (L za0 y) 10, L (L za0 y) 11, L (L za0 y) 12, L (L za0 y) 13, L (L za0 y) 14, L (L za0 y) 15]) 10), .int .u8 (L (L za1 [L (L za0 y) 0, L (L za0 y) 1, L (L za0 y) 2, L (L za0 y) 3, L (L za0 y) 4, L (L za0 y) 5, L (L za0 y) 6, L (L za0 y) 7, L (L za0 y) 8, L (L za0 y) 9, L (L za0 y) 10, L (L za0 y) 11, L (L za0 y) 12, L (L za0 y) 13, L (L za0 y) 14, L (L za0 y) 15]) 11), .int .u8 (L (L za1 [L (L za0 y) 0, L (L za0 y) 1, L (L za0 y) 2, L (L za0 y) 3, L (L za0 y) 4, L (L za0 y) 5, L (L za0 y) 6, L (L za0 y) 7, L (L za0 y) 8, L (L za0 y) 9, L (L za0 y) 10, L (L za0 y) 11, L (L za0 y) 12, L (L za0 y) 13, L (L za0 y) 14, L (L za0 y) 15]) 12), .int .u8 (L (L za1 [L (L za0 y) 0, L (L za0 y) 1, L (L za0 y) 2, L (L za0 y) 3, L (L za0 y) 4, L (L za0 y) 5, L (L za0 y) 6, L (L za0 y) 7, L (L za0 y) 8, L (L za0 y) 9, L (L za0 y) 10, L (L za0 y) 11, L (L za0 y) 12, L (L za0 y) 13, L (L za0 y) 14, L (L za0 y) 15]) 13), .int .u8 (L (L za1 [L (L za0 y) 0, L (L za0 y) 1, L (L za0 y) 2, L (L za0 y) 3, L (L za0 y) 4, L (L za0 y) 5, L (L za0 y) 6, L (L za0 y) 7, L (L za0 y) 8, L (L za0 y) 9, L (L za0 y) 10, L (L za0 y) 11, L (L za0 y) 12, L (L za0 y) 13, L (L za0 y) 14, L (L za0 y) 15]) 14), .int .u8 (L (L za1 [L (L za0 y) 0, L (L za0 y) 1, L (L za0 y) 2, L (L za0 y) 3, L (L za0 y) 4, L (L za0 y) 5, L (L za0 y) 6, L (L za0 y) 7, L (L za0 y) 8, L (L za0 y) 9, L (L za0 y) 10, L (L za0 y) 11, L (L za0 y) 12, L (L za0 y) 13, L (L za0 y) 14, L (L za0 y) 15]) 15), .int .i64 d, .bool h]) = L (L (L Le.mk y) d) h := by subst hL; exact fun y d h => (zbi ⟨y, d, h⟩).2
 have hFo : ∀ (y : Pr) (d : Int) (h : Bool), (L zdc (.agg [.int .u8 (L (L za1 [L (L za0 y) 0, L (L za0 y) 1, L (L za0 y) 2, L (L za0 y) 3, L (L za0 y) 4, L (L za0 y) 5, L (L za0 y) 6, L (L za0 y) 7, L (L za0 y) 8, L (L za0 y) 9, L (L za0 y) 10, L (L za0 y) 11, L (L za0 y) 12, L (L za0 y) 13, L (L za0 y) 14, L (L za0 y) 15]) 0), .int .u8 (L (L za1 [L (L za0 y) 0, L (L za0 y) 1, L (L za0 y) 2, L (L za0 y) 3, L (L za0 y) 4, L (L za0 y) 5, L (L za0 y) 6, L (L za0 y) 7, L (L za0 y) 8, L (L za0 y) 9, L (L za0 y) 10, L (L za0 y) 11, L (L za0 y) 12, L (L za0 y) 13, L (L za0 y) 14, L (L za0 y) 15]) 1), .int .u8 (L (L za1 [L (L za0 y) 0, L (L za0 y) 1, L (L za0 y) 2, L (L za0 y) 3, L (L za0 y) 4, L (L za0 y) 5, L (L za0 y) 6, L (L za0 y) 7, L (L za0 y) 8, L (L za0 y) 9, L (L za0 y) 10, L (L za0 y) 11, L (L za0 y) 12, L (L za0 y) 13, L (L za0 y) 14, L (L za0 y) 15]) 2), .int .u8 (L (L za1 [L (L za0 y) 0, L (L za0 y) 1, L (L za0 y) 2, L (L za0 y) 3, L (L za0 y) 4, L (L za0 y) 5, L (L za0 y) 6, L (L za0 y) 7, L (L za0 y) 8, L (L za0 y) 9, L (L za0 y) 10, L (L za0 y) 11, L (L za0 y) 12, L (L za0 y) 13, L (L za0 y) 14, L (L za0 y) 15]) 3), .int .u8 (L (L za1 [L (L za0 y) 0, L (L za0 y) 1, L (L za0 y) 2, L (L za0 y) 3, L (L za0 y) 4, L (L za0 y) 5, L (L za0 y) 6, L (L za0 y) 7, L (L za0 y) 8, L (L za0 y) 9, L (L za0 y) 10, L (L za0 y) 11, L (L za0 y) 12, L (L za0 y) 13, L (L za0 y) 14, L (L za0 y) 15]) 4), .int .u8 (L (L za1 [L (L za0 y) 0, L (L za0 y) 1, L (L za0 y) 2, L (L za0 y) 3, L (L za0 y) 4, L (L za0 y) 5, L (L za0 y) 6, L (L za0 y) 7, L (L za0 y) 8, L (L za0 y) 9, L (L za0 y) 10, L (L za0 y) 11, L (L za0 y) 12, L (L za0 y) 13, L (L za0 y) 14, L (L za0 y) 15]) 5), .int .u8 (L (L za1 [L (L za0 y) 0, L (L za0 y) 1, L (L za0 y) 2, L (L za0 y) 3, L (L za0 y) 4, L (L za0 y) 5, L (L za0 y) 6, L (L za0 y) 7, L (L za0 y) 8, L (L za0 y) 9, L (L za0 y) 10, L (L za0 y) 11, L (L za0 y) 12, L (L za0 y) 13, L (L za0 y) 14, L (L za0 y) 15]) 6), .int .u8 (L (L za1 [L (L za0 y) 0, L (L za0 y) 1, L (L za0 y) 2, L (L za0 y) 3, L (L za0 y) 4, L (L za0 y) 5, L (L za0 y) 6, L (L za0 y) 7, L (L za0 y) 8, L (L za0 y) 9, L (L za0 y) 10, L (L za0 y) 11, L (L za0 y) 12, L (L za0 y) 13, L (L za0 y) 14, L (L za0 y) 15]) 7), .int .u8 (L (L za1 [L (L za0 y) 0, L (L za0 y) 1, L (L za0 y) 2, L (L za0 y) 3, L (L za0 y) 4, L (L za0 y) 5, L (L za0 y) 6, L (L za0 y) 7, L (L za0 y) 8, L (L za0 y) 9, L (L za0 y) 10, L (L za0 y) 11, L (L za0 y) 12, L (L za0 y) 13, L (L za0 y) 14, L (L za0 y) 15]) 8), .int .u8 (L (L za1 [L (L za0 y) 0, L (L za0 y) 1, L (L za0 y) 2, L (L za0 y) 3, L (L za0 y) 4, L (L za0 y) 5, L (L za0 y) 6, L (L za0 y) 7, L (L za0 y) 8, L (L za0 y) 9, L (L za0 y) 10, L (L za0 y) 11, L (L za0 y) 12, L (L za0 y) 13, L (L za0 y) 14, L (L za0 y) 15]) 9), .int .u8 (L (L za1 [L (L za0 y) 0, L (L za0 y) 1, L (L za0 y) 2, L (L za0 y) 3, L (L za0 y) 4, L (L za0 y) 5, L (L za0 y) 6, L (L za0 y) 7, L (L za0 y) 8, L (L za0 y) 9, L (L za0 y) 10, L (L za0 y) 11, L (L za0 y) 12, L (L za0 y) 13, L (L za0 y) 14, L (L za0 y) 15]) 10), .int .u8 (L (L za1 [L (L za0 y) 0, L (L za0 y) 1, L (L za0 y) 2, L (L za0 y) 3, L (L za0 y) 4, L (L za0 y) 5, L (L za0 y) 6, L (L za0 y) 7, L (L za0 y) 8, L (L za0 y) 9, L (L za0 y) 10, L (L za0 y) 11, L (L za0 y) 12, L (L za0 y) 13, L (L za0 y) 14, L (L za0 y) 15]) 11), .int .u8 (L (L za1 [L (L za0 y) 0, L (L za0 y) 1, L (L za0 y) 2, L (L za0 y) 3, L (L za0 y) 4, L (L za0 y) 5, L (L za0 y) 6, L (L za0 y) 7, L (L za0 y) 8, L (L za0 y) 9, L (L za0 y) 10, L (L za0 y) 11, L (L za0 y) 12, L (L za0 y) 13, L (L za0 y) 14, L (L za0 y) 15]) 12), .int .u8 (L (L za1 [L (L za0 y) 0, L (L za0 y) 1, L (L za0 y) 2, L (L za0 y) 3, L (L za0 y) 4, L (L za0 y) 5, L (L za0 y) 6, L (L za0 y) 7, L (L za0 y) 8, L (L za0 y) 9, L (L za0 y) 10, L (L za0 y) 11, L (L za0 y) 12, L (L za0 y) 13, L (L za0 y) 14, L (L za0 y) 15]) 13), .int .u8 (L (L za1 [L (L za0 y) 0, L (L za0 y) 1, L (L za0 y) 2, L (L za0 y) 3, L (L za0 y) 4, L (L za0 y) 5, L (L za0 y) 6, L (L za0 y) 7, L (L za0 y) 8, L (L za0 y) 9, L (L za0 y) 10, L (L za0 y) 11, L (L za0 y) 12, L (L za0 y) 13, L (L za0 y) 14, L (L za0 y) 15]) 14), .int .u8 (L (L za1 [L (L za0 y) 0, L (L za0 y) 1, L (L za0 y) 2, L (L za0 y) 3, L (L za0 y) 4, L (L za0 y) 5, L (L za0 y) 6, L (L za0 y) 7, L (L za0 y) 8, L (L za0 y) 9, L (L za0 y) 10, L (L za0 y) 11, L (L za0 y) 12, L (L za0 y) 13, L (L za0 y) 14, L (L za0 y) 15]) 15), .int .i64 d, .bool h])) = True := by subst hL; exact fun y d h => eq_true (zbi ⟨y, d, h⟩).1
 have hEta : ∀ y : Le, L (L (L Le.mk (L Le.p y)) (L Le.d y)) (L Le.h y) = y := by subst hL; exact fun y => rfl
 have hMp : ∀ (y : Pr) (d : Int) (h : Bool), L Le.p (L (L (L Le.mk y) d) h) = y := by subst hL; exact fun y d h => rfl
 have hQ0 : ∀ y : Pr, L zal (.agg [.int .u8 (L (L za0 y) 0), .int .u8 (L (L za0 y) 1), .int .u8 (L (L za0 y) 2), .int .u8 (L (L za0 y) 3), .int .u8 (L (L za0 y) 4), .int .u8 (L (L za0 y) 5), .int .u8 (L (L za0 y) 6), .int .u8 (L (L za0 y) 7), .int .u8 (L (L za0 y) 8), .int .u8 (L (L za0 y) 9), .int .u8 (L (L za0 y) 10), .int .u8 (L (L za0 y) 11), .int .u8 (L (L za0 y) 12), .int .u8 (L (L za0 y) 13), .int .u8 (L (L za0 y) 14), .int .u8 (L (L za0 y) 15)]) = y := by subst hL; exact fun y => (zbh y).2
 have hQo : ∀ y : Pr, (L zcl (.agg [.int .u8 (L (L za0 y) 0), .int .u8 (L (L za0 y) 1), .int .u8 (L (L za0 y) 2), .int .u8 (L (L za0 y) 3), .int .u8 (L (L za0 y) 4), .int .u8 (L (L za0 y) 5), .int .u8 (L (L za0 y) 6), .int .u8 (L (L za0 y) 7), .int .u8 (L (L za0 y) 8), .int .u8 (L (L za0 y) 9), .int .u8 (L (L za0 y) 10), .int .u8 (L (L za0 y) 11), .int .u8 (L (L za0 y) 12), .int .u8 (L (L za0 y) 13), .int .u8 (L (L za0 y) 14), .int .u8 (L (L za0 y) 15)])) = True := by subst hL; exact fun y => eq_true (zbh y).1
 have hQ1 : ∀ y : Pr, L zal (.agg [.int .u8 (L (L za1 [L (L za0 y) 0, L (L za0 y) 1, L (L za0 y) 2, L (L za0 y) 3, L (L za0 y) 4, L (L za0 y) 5, L (L za0 y) 6, L (L za0 y) 7, L (L za0 y) 8, L (L za0 y) 9, L (L za0 y) 10, L (L za0 y) 11, L (L za0 y) 12, L (L za0 y) 13, L (L za0 y) 14, L (L za0 y) 15]) 0), .int .u8 (L (L za1 [L (L za0 y) 0, L (L za0 y) 1, L (L za0 y) 2, L (L za0 y) 3, L (L za0 y) 4, L (L za0 y) 5, L (L za0 y) 6, L (L za0 y) 7, L (L za0 y) 8, L (L za0 y) 9, L (L za0 y) 10, L (L za0 y) 11, L (L za0 y) 12, L (L za0 y) 13, L (L za0 y) 14, L (L za0 y) 15]) 1), .int .u8 (L (L za1 [L (L za0 y) 0, L (L za0 y) 1, L (L za0 y) 2, L (L za0 y) 3, L (L za0 y) 4, L (L za0 y) 5, L (L za0 y) 6, L (L za0 y) 7, L (L za0 y) 8, L (L za0 y) 9, L (L za0 y) 10, L (L za0 y) 11, L (L za0 y) 12, L (L za0 y) 13, L (L za0 y) 14, L (L za0 y) 15]) 2), .int .u8 (L (L za1 [L (L za0 y) 0, L (L za0 y) 1, L (L za0 y) 2, L (L za0 y) 3, L (L za0 y) 4, L (L za0 y) 5, L (L za0 y) 6, L (L za0 y) 7, L (L za0 y) 8, L (L za0 y) 9, L (L za0 y) 10, L (L za0 y) 11, L (L za0 y) 12, L (L za0 y) 13, L (L za0 y) 14, L (L za0 y) 15]) 3), .int .u8 (L (L za1 [L (L za0 y) 0, L (L za0 y) 1, L (L za0 y) 2, L (L za0 y) 3, L (L za0 y) 4, L (L za0 y) 5, L (L za0 y) 6, L (L za0 y) 7, L (L za0 y) 8, L (L za0 y) 9, L (L za0 y) 10, L (L za0 y) 11, L (L za0 y) 12, L (L za0 y) 13, L (L za0 y) 14, L (L za0 y) 15]) 4), .int .u8 (L (L za1 [L (L za0 y) 0, L (L za0 y) 1, L (L za0 y) 2, L (L za0 y) 3, L (L za0 y) 4, L (L za0 y) 5, L (L za0 y) 6, L (L za0 y) 7, L (L za0 y) 8, L (L za0 y) 9, L (L za0 y) 10, L (L za0 y) 11, L (L za0 y) 12, L (L za0 y) 13, L (L za0 y) 14, L (L za0 y) 15]) 5), .int .u8 (L (L za1 [L (L za0 y) 0, L (L za0 y) 1, L (L za0 y) 2, L (L za0 y) 3, L (L za0 y) 4, L (L za0 y) 5, L (L za0 y) 6, L (L za0 y) 7, L (L za0 y) 8, L (L za0 y) 9, L (L za0 y) 10, L (L za0 y) 11, L (L za0 y) 12, L (L za0 y) 13, L (L za0 y) 14, L (L za0 y) 15]) 6), .int .u8 (L (L za1 [L (L za0 y) 0, L (L za0 y) 1, L (L za0 y) 2, L (L za0 y) 3, L (L za0 y) 4, L (L za0 y) 5, L (L za0 y) 6, L (L za0 y) 7, L (L za0 y) 8, L (L za0 y) 9, L (L za0 y) 10, L (L za0 y) 11, L (L za0 y) 12, L (L za0 y) 13, L (L za0 y) 14, L (L za0 y) 15]) 7), .int .u8 (L (L za1 [L (L za0 y) 0, L (L za0 y) 1, L (L za0 y) 2, L (L za0 y) 3, L (L za0 y) 4, L (L za0 y) 5, L (L za0 y) 6, L (L za0 y) 7, L (L za0 y) 8, L (L za0 y) 9, L (L za0 y) 10, L (L za0 y) 11, L (L za0 y) 12, L (L za0 y) 13, L (L za0 y) 14, L (L za0 y) 15]) 8), .int .u8 (L (L za1 [L (L za0 y) 0, L (L za0 y) 1, L (L za0 y) 2, L (L za0 y) 3, L (L za0 y) 4, L (L za0 y) 5, L (L za0 y) 6, L (L za0 y) 7, L (L za0 y) 8, L (L za0 y) 9, L (L za0 y) 10, L (L za0 y) 11, L (L za0 y) 12, L (L za0 y) 13, L (L za0 y) 14, L (L za0 y) 15]) 9), .int .u8 (L (L za1 [L (L za0 y) 0, L (L za0 y) 1, L (L za0 y) 2, L (L za0 y) 3, L (L za0 y) 4, L (L za0 y) 5, L (L za0 y) 6, L (L za0 y) 7, L (L za0 y) 8, L (L za0 y) 9, L (L za0 y) 10, L (L za0 y) 11, L (L za0 y) 12, L (L za0 y) 13, L (L za0 y) 14, L (L za0 y) 15]) 10), .int .u8 (L (L za1 [L (L za0 y) 0, L (L za0 y) 1, L (L za0 y) 2, L (L za0 y) 3, L (L za0 y) 4, L (L za0 y) 5, L (L za0 y) 6, L (L za0 y) 7, L (L za0 y) 8, L (L za0 y) 9, L (L za0 y) 10, L (L za0 y) 11, L (L za0 y) 12, L (L za0 y) 13, L (L za0 y) 14, L (L za0 y) 15]) 11), .int .u8 (L (L za1 [L (L za0 y) 0, L (L za0 y) 1, L (L za0 y) 2, L (L za0 y) 3, L (L za0 y) 4, L (L za0 y) 5, L (L za0 y) 6, L (L za0 y) 7, L (L za0 y) 8, L (L za0 y) 9, L (L za0 y) 10, L (L za0 y) 11, L (L za0 y) 12, L (L za0 y) 13, L (L za0 y) 14, L (L za0 y) 15]) 12), .int .u8 (L (L za1 [L (L za0 y) 0, L (L za0 y) 1, L (L za0 y) 2, L (L za0 y) 3, L (L za0 y) 4, L (L za0 y) 5, L (L za0 y) 6, L (L za0 y) 7, L (L za0 y) 8, L (L za0 y) 9, L (L za0 y) 10, L (L za0 y) 11, L (L za0 y) 12, L (L za0 y) 13, L (L za0 y) 14, L (L za0 y) 15]) 13), .int .u8 (L (L za1 [L (L za0 y) 0, L (L za0 y) 1, L (L za0 y) 2, L (L za0 y) 3, L (L za0 y) 4, L (L za0 y) 5, L (L za0 y) 6, L (L za0 y) 7, L (L za0 y) 8, L (L za0 y) 9, L (L za0 y) 10, L (L za0 y) 11, L (L za0 y) 12, L (L za0 y) 13, L (L za0 y) 14, L (L za0 y) 15]) 14), .int .u8 (L (L za1 [L (L za0 y) 0, L (L za0 y) 1, L (L za0 y) 2, L (L za0 y) 3, L (L za0 y) 4, L (L za0 y) 5, L (L za0 y) 6, L (L za0 y) 7, L (L za0 y) 8, L (L za0 y) 9, L (L za0 y) 10, L (L za0 y) 11, L (L za0 y) 12, L (L za0 y) 13, L (L za0 y) 14, L (L za0 y) 15]) 15)]) = y := by subst hL; exact fun y => (zbh y).2
 have hQ1o : ∀ y : Pr, (L zcl (.agg [.int .u8 (L (L za1 [L (L za0 y) 0, L (L za0 y) 1, L (L za0 y) 2, L (L za0 y) 3, L (L za0 y) 4, L (L za0 y) 5, L (L za0 y) 6, L (L za0 y) 7, L (L za0 y) 8, L (L za0 y) 9, L (L za0 y) 10, L (L za0 y) 11, L (L za0 y) 12, L (L za0 y) 13, L (L za0 y) 14, L (L za0 y) 15]) 0), .int .u8 (L (L za1 [L (L za0 y) 0, L (L za0 y) 1, L (L za0 y) 2, L (L za0 y) 3, L (L za0 y) 4, L (L za0 y) 5, L (L za0 y) 6, L (L za0 y) 7, L (L za0 y) 8, L (L za0 y) 9, L (L za0 y) 10, L (L za0 y) 11, L (L za0 y) 12, L (L za0 y) 13, L (L za0 y) 14, L (L za0 y) 15]) 1), .int .u8 (L (L za1 [L (L za0 y) 0, L (L za0 y) 1, L (L za0 y) 2, L (L za0 y) 3, L (L za0 y) 4, L (L za0 y) 5, L (L za0 y) 6, L (L za0 y) 7, L (L za0 y) 8, L (L za0 y) 9, L (L za0 y) 10, L (L za0 y) 11, L (L za0 y) 12, L (L za0 y) 13, L (L za0 y) 14, L (L za0 y) 15]) 2), .int .u8 (L (L za1 [L (L za0 y) 0, L (L za0 y) 1, L (L za0 y) 2, L (L za0 y) 3, L (L za0 y) 4, L (L za0 y) 5, L (L za0 y) 6, L (L za0 y) 7, L (L za0 y) 8, L (L za0 y) 9, L (L za0 y) 10, L (L za0 y) 11, L (L za0 y) 12, L (L za0 y) 13, L (L za0 y) 14, L (L za0 y) 15]) 3), .int .u8 (L (L za1 [L (L za0 y) 0, L (L za0 y) 1, L (L za0 y) 2, L (L za0 y) 3, L (L za0 y) 4, L (L za0 y) 5, L (L za0 y) 6, L (L za0 y) 7, L (L za0 y) 8, L (L za0 y) 9, L (L za0 y) 10, L (L za0 y) 11, L (L za0 y) 12, L (L za0 y) 13, L (L za0 y) 14, L (L za0 y) 15]) 4), .int .u8 (L (L za1 [L (L za0 y) 0, L (L za0 y) 1, L (L za0 y) 2, L (L za0 y) 3, L (L za0 y) 4, L (L za0 y) 5, L (L za0 y) 6, L (L za0 y) 7, L (L za0 y) 8, L (L za0 y) 9, L (L za0 y) 10, L (L za0 y) 11, L (L za0 y) 12, L (L za0 y) 13, L (L za0 y) 14, L (L za0 y) 15]) 5), .int .u8 (L (L za1 [L (L za0 y) 0, L (L za0 y) 1, L (L za0 y) 2, L (L za0 y) 3, L (L za0 y) 4, L (L za0 y) 5, L (L za0 y) 6, L (L za0 y) 7, L (L za0 y) 8, L (L za0 y) 9, L (L za0 y) 10, L (L za0 y) 11, L (L za0 y) 12, L (L za0 y) 13, L (L za0 y) 14, L (L za0 y) 15]) 6), .int .u8 (L (L za1 [L (L za0 y) 0, L (L za0 y) 1, L (L za0 y) 2, L (L za0 y) 3, L (L za0 y) 4, L (L za0 y) 5, L (L za0 y) 6, L (L za0 y) 7, L (L za0 y) 8, L (L za0 y) 9, L (L za0 y) 10, L (L za0 y) 11, L (L za0 y) 12, L (L za0 y) 13, L (L za0 y) 14, L (L za0 y) 15]) 7), .int .u8 (L (L za1 [L (L za0 y) 0, L (L za0 y) 1, L (L za0 y) 2, L (L za0 y) 3, L (L za0 y) 4, L (L za0 y) 5, L (L za0 y) 6, L (L za0 y) 7, L (L za0 y) 8, L (L za0 y) 9, L (L za0 y) 10, L (L za0 y) 11, L (L za0 y) 12, L (L za0 y) 13, L (L za0 y) 14, L (L za0 y) 15]) 8), .int .u8 (L (L za1 [L (L za0 y) 0, L (L za0 y) 1, L (L za0 y) 2, L (L za0 y) 3, L (L za0 y) 4, L (L za0 y) 5, L (L za0 y) 6, L (L za0 y) 7, L (L za0 y) 8, L (L za0 y) 9, L (L za0 y) 10, L (L za0 y) 11, L (L za0 y) 12, L (L za0 y) 13, L (L za0 y) 14, L (L za0 y) 15]) 9), .int .u8 (L (L za1 [L (L za0 y) 0, L (L za0 y) 1, L (L za0 y) 2, L (L za0 y) 3, L (L za0 y) 4, L (L za0 y) 5, L (L za0 y) 6, L (L za0 y) 7, L (L za0 y) 8, L (L za0 y) 9, L (L za0 y) 10, L (L za0 y) 11, L (L za0 y) 12, L (L za0 y) 13, L (L za0 y) 14, L (L za0 y) 15]) 10), .int .u8 (L (L za1 [L (L za0 y) 0, L (L za0 y) 1, L (L za0 y) 2, L (L za0 y) 3, L (L za0 y) 4, L (L za0 y) 5, L (L za0 y) 6, L (L za0 y) 7, L (L za0 y) 8, L (L za0 y) 9, L (L za0 y) 10, L (L za0 y) 11, L (L za0 y) 12, L (L za0 y) 13, L (L za0 y) 14, L (L za0 y) 15]) 11), .int .u8 (L (L za1 [L (L za0 y) 0, L (L za0 y) 1, L (L za0 y) 2, L (L za0 y) 3, L (L za0 y) 4, L (L za0 y) 5, L (L za0 y) 6, L (L za0 y) 7, L (L za0 y) 8, L (L za0 y) 9, L (L za0 y) 10, L (L za0 y) 11, L (L za0 y) 12, L (L za0 y) 13, L (L za0 y) 14, L (L za0 y) 15]) 12), .int .u8 (L (L za1 [L (L za0 y) 0, L (L za0 y) 1, L (L za0 y) 2, L (L za0 y) 3, L (L za0 y) 4, L (L za0 y) 5, L (L za0 y) 6, L (L za0 y) 7, L (L za0 y) 8, L (L za0 y) 9, L (L za0 y) 10, L (L za0 y) 11, L (L za0 y) 12, L (L za0 y) 13, L (L za0 y) 14, L (L za0 y) 15]) 13), .int .u8 (L (L za1 [L (L za0 y) 0, L (L za0 y) 1, L (L za0 y) 2, L (L za0 y) 3, L (L za0 y) 4, L (L za0 y) 5, L (L za0 y) 6, L (L za0 y) 7, L (L za0 y) 8, L (L za0 y) 9, L (L za0 y) 10, L (L za0 y) 11, L (L za0 y) 12, L (L za0 y) 13, L (L za0 y) 14, L (L za0 y) 15]) 14), .int .u8 (L (L za1 [L (L za0 y) 0, L (L za0 y) 1, L (L za0 y) 2, L (L za0 y) 3, L (L za0 y) 4, L (L za0 y) 5, L (L za0 y) 6, L (L za0 y) 7, L (L za0 y) 8, L (L za0 y) 9, L (L za0 y) 10, L (L za0 y) 11, L (L za0 y) 12, L (L za0 y) 13, L (L za0 y) 14, L (L za0 y) 15]) 15)])) = True := by subst hL; exact fun y => eq_true (zbh y).1
 have hG : ∀ y : List Le, L zaf (.lst 18 (L zf5 y) (fun i => leC L (L (L zao y) i))) = y := by subst hL; exact fun y => zh6 y
 have hGo : ∀ y : List Le, (L ze7 (.lst 18 (L zf5 y) (fun i => leC L (L (L zao y) i)))) = True := by subst hL; exact fun y => eq_true (zlg y)
 (cbv; try simp only [syT, true_and, and_true])
 simp only [hE, hEo, hF, hFo, hEta, hMp, hQ1, hQ1o, hQ0, hQo, hG, hGo, true_and]
 subst hL; subst hQ
 have hz : l.length <= 1000000 := hz
 have hgk := zfi hok hpo
 have hw : zc6 .i64 (zb2 l p).d 1 = (zb2 l p).d + 1 := by
   have := hgk.2
   unfold zc6
   rw [zdi]; omega
 refine ⟨fun h => ?_, fun h1 => ⟨fun h => ?_, fun h2 => ⟨⟨hz, hok, hpo⟩, fun hh => ?_, fun hh => ?_⟩⟩⟩
 · have h : ilt k 1 = true := h
   rw [zev] at h
   exact zo0 (by unfold zda; rw [if_pos (.inl h)]) (by decide)
 · have h : ilt 255 k = true := h
   rw [zev] at h
   exact zo0 (by unfold zda; rw [if_pos (.inr h)]) (by decide)
 · have h1 : ilt k 1 = false := h1
   have h2 : ilt 255 k = false := h2
   rw [zku] at h1 h2
   have hh : (zb2 l p).h = true := hh
   refine zq5 hz hok hpo (by omega) (e := Le.mk (zb2 l p).p (ykx (zc6 .i64 (zb2 l p).d 1) 255) true) ?_
   rw [hw]
   unfold yf5
   rw [hh]; rfl
 · have h1 : ilt k 1 = false := h1
   have h2 : ilt 255 k = false := h2
   rw [zku] at h1 h2
   have hh : (zb2 l p).h = false := hh
   refine zq5 hz hok hpo (by omega) (e := Le.mk (zb2 l p).p (ykx (zc6 .i64 (zb2 l p).d 1) 255) (ile k (ykx (zc6 .i64 (zb2 l p).d 1) 255))) ?_
   rw [hw]
   unfold yf5
   rw [hh]; rfl
def m32 : Int := 4294967295
def mulW (x y : Int) : Int := zjw .u64 (zwi .u64 x m32) (zwi .u64 y m32)
def mulT (x y : Int) : Int := zc6 .u64 (zjw .u64 (zmo .u64 x 32) (zwi .u64 y m32)) (zmo .u64 (mulW x y) 32)
def mulU (x y : Int) : Int := zc6 .u64 (zwi .u64 (mulT x y) m32) (zjw .u64 (zwi .u64 x m32) (zmo .u64 y 32))
def ydo (x y : Int) : Int := zc6 .u64 (zc6 .u64 (zjw .u64 (zmo .u64 x 32) (zmo .u64 y 32)) (zmo .u64 (mulT x y) 32)) (zmo .u64 (mulU x y) 32)
def yga (x y : Int) : Int := zjw .u64 x y
def yig (L : za8) : zcu := (129, fun xs => match xs with | [.int .u64 x, .int .u64 y] => some (True, .tup [.int .u64 (L2 L ydo x y), .int .u64 (L2 L yga x y)]) | _ => none)
theorem ydn : zd7 Tryz.prog (yig std) := by
 intro xs p r h hp
 dsimp only [yig] at h |-
 split at h <;> cases h
 try simp only [L2, L3, std] at hp |-
 rename_i x y
 refine za9 (T := tt) (S := noS) (lo := noA) (lb := noA) 5 (fn := Tryz.f129) rfl rfl (by kernel_rfl) (by kernel_rfl) rfl zae (zdx _) (by kernel_rfl) ?_
 intro L P' Q' hL hP hQ
 (cbv; try simp only [syT, true_and, and_true])
 subst hL; subst hQ
 refine ⟨rfl, rfl, rfl, rfl, rfl, ?_⟩
 show zfk (.tup [.int .u64 (ydo x y), .int .u64 (yga x y)]) (.tup [.int .u64 (ydo x y), .int .u64 (yga x y)])
 simp only [sySet]
 trivial
def yl1 (y p : Int) (three : Bool) : Bool := match three with
 | false => decide (p < ydo y y) || (decide (ydo y y = p) && decide (0 < yga y y))
 | true => decide (yc3 .u64 p 32 < zc6 .u64 (zjw .u64 (ydo y y) y) (ydo (yga y y) y)) || (decide (zc6 .u64 (zjw .u64 (ydo y y) y) (ydo (yga y y) y) = yc3 .u64 p 32) && decide (0 < yga (yga y y) y))
def ykm (L : za8) : zcu := (123, fun xs => match xs with | [.int .u64 y, .int .u64 p, .bool t] => some (True, .bool (L3 L yl1 y p t)) | _ => none)
theorem yfh : zd7 Tryz.prog (ykm std) := by
 intro xs p r h hp
 dsimp only [ykm] at h |-
 split at h <;> cases h
 try simp only [L2, L3, std] at hp |-
 rename_i y p t
 refine za9 (T := tt) (S := fun L => zbe [yig L]) (lo := noA) (lb := noA) 5 (fn := Tryz.f123) rfl rfl (by kernel_rfl) (by kernel_rfl) rfl zae (za7 ⟨ydn, trivial⟩) (by kernel_rfl) ?_
 (intro L P1 Q1 hL hP hQ; cbv; subst hL; simp only [L2, L3, std, syT]; subst hQ)
 cases t
 · refine ⟨trivial, fun _ => ⟨fun h => ?_, fun h => ⟨fun h2 => ?_, fun h2 => ?_⟩⟩, fun h => by cases h⟩
   all_goals simp only [zby]
   all_goals simp_all [yl1, ilt, ieq]
 · refine ⟨trivial, fun h => (by cases h), fun _ => ⟨trivial, rfl, fun h => ?_, fun h => ⟨rfl, fun h2 => ?_, fun h2 => ?_⟩⟩⟩
   all_goals simp only [zby]
   all_goals simp_all [yl1, ilt, ieq]
def ygc (p : Int) (three : Bool) : Nat -> Int -> Int
 | 0, x => x
 | f + 1, x => ygc p three f (if yl1 (bor .u64 x (2 ^ f)) p three = true then x else bor .u64 x (2 ^ f))
def yeb (k n : Nat) : Nat := k + 0 * n
theorem ztq (k n : Nat) : yeb k n = k := by rw [yeb, Nat.zero_mul]; rfl
def zfy (p : Int) (three : Bool) : Int := ygc p three (yeb 37 p.toNat) 0 % 4294967296
theorem zpb (p : Int) (three : Bool) : zfy p three = ygc p three 37 0 % 4294967296 := by rw [zfy, ztq]
def ztj (p : Int) (three : Bool) (x : Int × Nat) : Prop := x.2 <= 36 /\ ygc p three (x.2 + 1) x.1 = ygc p three 37 0
def zsu (f : Nat) : Int := 2 ^ f
def lstA (L : za8) (p : Int) (t : Bool) : Nat -> St -> Option Ann := fun id st => match id with
 | 0 => some ⟨Int × Nat, fun x => [(5, .int .u64 (L Prod.fst x)), (6, .int .u64 (L zsu (L Prod.snd x)))], fun _ => [], [0, 1], [], fun x => L3 L ztj p t x, fun x => L Prod.snd x⟩
 | _ => none
theorem zyh : ∀ f : _root_.Fin 37, zmo .u64 (zsu f.val) 1 = if f.val = 0 then 0 else zsu (f.val - 1) := by decide +kernel
theorem zst (f : Nat) : 0 < zsu f := by unfold zsu; exact Int.pow_pos (by decide)
theorem zjg {f : Nat} (h : f <= 36) : zmo .u64 (zsu f) 1 = if f = 0 then 0 else zsu (f - 1) := zyh ⟨f, by omega⟩
theorem zth {p : Int} {t : Bool} {x : Int} {f : Nat} (h : ztj p t (x, f)) (h0 : ¬ f = 0) : ztj p t ((if yl1 (bor .u64 x (zsu f)) p t = true then x else bor .u64 x (zsu f)), f - 1) := by
 obtain ⟨h1, h2⟩ := h
 refine ⟨by show f - 1 <= 36; have : f <= 36 := h1; omega, ?_⟩
 rw [<- h2]
 show ygc p t (f - 1 + 1) _ = ygc p t (f + 1) x
 rw [show f - 1 + 1 = f by omega]
 rfl
theorem zzd {p : Int} {t : Bool} {x : Int} {f : Nat} (h : ztj p t (x, f)) (h0 : f = 0) : (if yl1 (bor .u64 x (zsu f)) p t = true then x else bor .u64 x (zsu f)) = ygc p t 37 0 := by
 obtain ⟨h1, h2⟩ := h
 subst h0
 rw [<- h2]; rfl
def zng (L : za8) : zcu := (112, fun xs => match xs with | [.int .u64 p, .bool t] => some (True, .int .u32 (L2 L zfy p t)) | _ => none)
theorem zm4 : zd7 Tryz.prog (zng std) := by
 intro xs p r h hp
 dsimp only [zng] at h |-
 split at h <;> cases h
 try simp only [L2, L3, std] at hp |-
 rename_i p t
 refine za9 (T := tt) (S := fun L => zbe [ykm L]) (lo := noA) (lb := fun L => lstA L p t) 5 (fn := Tryz.f112) rfl rfl (by kernel_rfl) (by kernel_rfl) rfl zae (za7 ⟨yfh, trivial⟩) (by kernel_rfl) ?_
 intro L P' Q' hL hP hQ
 (cbv; try simp only [syT, true_and, and_true])
 refine ⟨fun x hx => ?_, ⟨(0, 36), ?_⟩⟩
 · cbv at hx
   obtain ⟨y1, hy1⟩ : ∃ y : Int × Nat, y = (bor .u64 x.1 (zsu x.2), x.2 - 1) := ⟨_, rfl⟩
   obtain ⟨y2, hy2⟩ : ∃ y : Int × Nat, y = (x.1, x.2 - 1) := ⟨_, rfl⟩
   (cbv; try simp only [syT, true_and, and_true])
   refine ⟨fun h1 => ⟨?_, fun h2 => ⟨y1, ?_⟩, fun h2 => ?_⟩, fun h1 => ⟨?_, fun h2 => ⟨y2, ?_⟩, fun h2 => ?_⟩⟩
   all_goals (try (cbv; try simp only [syT, true_and, and_true]))
   all_goals (obtain ⟨x, f⟩ := x; (subst hL; subst hQ; simp only [L2, L3, std] at *; try simp only [syS, reduceCtorEq, Int.reduceToNat, Int.reduceAdd, Int.reduceSub] at *))
   · decide
   · rw [zjg hx.1] at h2 |-
     have h0 : ¬ f = 0 := by intro h0; rw [if_pos h0] at h2; omega
     have := zth hx h0
     rw [if_neg (by simpa using h1)] at this
     rw [if_neg h0, hy1]
     have hf : f <= 36 := hx.1
     exact ⟨rfl, rfl, this, by show f - 1 + 1 <= f; omega⟩
   · rw [zjg hx.1] at h2
     have h0 : f = 0 := by
       by_cases h0 : f = 0
       · exact h0
       · rw [if_neg h0] at h2
         exact absurd h2 (by
           have := zst (f - 1)
           show ¬ zsu (f - 1) <= 0
           omega)
     have := zzd hx h0
     rw [if_neg (by simpa using h1)] at this
     rw [this, zpb]
   · decide
   · rw [zjg hx.1] at h2 |-
     have h0 : ¬ f = 0 := by intro h0; rw [if_pos h0] at h2; omega
     have := zth hx h0
     rw [if_pos (by simpa using h1)] at this
     rw [if_neg h0, hy2]
     exact ⟨rfl, rfl, this, by show f - 1 + 1 <= f; omega⟩
   · rw [zjg hx.1] at h2
     have h0 : f = 0 := by
       by_cases h0 : f = 0
       · exact h0
       · rw [if_neg h0] at h2
         exact absurd h2 (by
           have := zst (f - 1)
           show ¬ zsu (f - 1) <= 0
           omega)
     have := zzd hx h0
     rw [if_pos (by simpa using h1)] at this
     rw [this, zpb]
 · (cbv; try simp only [syT, true_and, and_true])
   (subst hL; subst hQ; simp only [L2, L3, std] at *; try simp only [syS, reduceCtorEq, Int.reduceToNat, Int.reduceAdd, Int.reduceSub] at *)
   exact ⟨by decide, by decide, rfl⟩
def prF (n : Int) : Nat -> Int -> Bool
 | 0, _ => false
 | f + 1, d => if d * d <= n then (if n % d = 0 then false else prF n f (d + 1)) else decide (1 < n)
def zfm (n : Int) : Bool := prF n (yeb 38 n.toNat) 2
theorem zyd (n : Int) : prF n 38 2 = zfm n := by rw [zfm, ztq]
def ype (n : Int) (d : Nat) : Prop := 2 <= d /\ d <= 33 /\ prF n (40 - d) d = zfm n
def prA (L : za8) (n : Int) : Nat -> St -> Option Ann := fun id st => match id with
 | 0 => some ⟨Nat, fun d => [(3, .int .u64 (L zac d))], fun _ => [], [0], [], fun d => L2 L ype n d, fun d => L (fun d : Nat => 40 - d) d⟩
 | _ => none
def zqx (L : za8) : zcu := (113, fun xs => match xs with | [.int .u64 n] => some (L (fun n : Int => 0 <= n /\ n <= 1000) n, .bool (L zfm n)) | _ => none)
theorem zvc : zd7 Tryz.prog (zqx std) := by
 intro xs p r h hp
 dsimp only [zqx] at h |-
 split at h <;> cases h
 try simp only [L2, L3, std] at hp |-
 rename_i n
 have hn : 0 <= n /\ n <= 1000 := hp
 refine za9 (T := tt) (S := noS) (lo := fun L => prA L n) (lb := noA) 5 (fn := Tryz.f113) rfl rfl (by kernel_rfl) (by kernel_rfl) rfl zae (zdx _) (by kernel_rfl) ?_
 intro L P' Q' hL hP hQ
 (cbv; try simp only [syT, true_and, and_true])
 refine ⟨⟨2, ?_⟩, fun d hd => ?_⟩
 · (cbv; try simp only [syT, true_and, and_true])
   (subst hL; subst hQ; simp only [L2, L3, std] at *; try simp only [syS, reduceCtorEq, Int.reduceToNat, Int.reduceAdd, Int.reduceSub] at *)
   exact ⟨by decide, by decide, zyd n⟩
 · cbv at hd
   (cbv; try simp only [syT, true_and, and_true])
   refine ⟨fun h1 => ⟨?_, fun h2 => ?_, fun h2 => ⟨d + 1, ?_⟩⟩, fun h1 => ?_⟩
   all_goals (try (cbv; try simp only [syT, true_and, and_true]))
   all_goals (subst hL; subst hQ; simp only [L2, L3, std] at *; try simp only [syS, reduceCtorEq, Int.reduceToNat, Int.reduceAdd, Int.reduceSub] at *)
   all_goals (obtain ⟨i1, i2, i3⟩ := hd)
   all_goals (have hdd : d * d <= 33 * 33 := Nat.mul_le_mul i2 i2)
   all_goals (have hd2 : ((d : Nat) : Int) * ((d : Nat) : Int) = ((d * d : Nat) : Int) := by simp)
   all_goals (rw [show 40 - d = (39 - d) + 1 by omega, prF, hd2] at i3)
   all_goals (try rw [hd2] at h1)
   · omega
   · rw [if_pos (by omega)] at i3
     rw [Int.tmod_eq_emod_of_nonneg hn.1] at h2
     rw [if_pos h2] at i3
     exact i3
   · rw [if_pos (by omega)] at i3
     rw [Int.tmod_eq_emod_of_nonneg hn.1] at h2
     rw [if_neg h2] at i3
     have h31 : d <= 31 := by
       apply Nat.le_of_not_lt
       intro h
       have : 32 * 32 <= d * d := Nat.mul_le_mul h h
       omega
     refine ⟨by omega, ⟨by omega, by omega, ?_⟩, by omega⟩
     rw [show 40 - (d + 1) = 39 - d by omega, <- i3]
     congr 1
   · rw [if_neg (by omega)] at i3
     rw [<- i3]; rfl
def zpk : List Int := [0x428a2f98, 0x71374491, 0xb5c0fbcf, 0xe9b5dba5, 0x3956c25b, 0x59f111f1, 0x923f82a4, 0xab1c5ed5,
 0xd807aa98, 0x12835b01, 0x243185be, 0x550c7dc3, 0x72be5d74, 0x80deb1fe, 0x9bdc06a7, 0xc19bf174,
 0xe49b69c1, 0xefbe4786, 0x0fc19dc6, 0x240ca1cc, 0x2de92c6f, 0x4a7484aa, 0x5cb0a9dc, 0x76f988da,
 0x983e5152, 0xa831c66d, 0xb00327c8, 0xbf597fc7, 0xc6e00bf3, 0xd5a79147, 0x06ca6351, 0x14292967,
 0x27b70a85, 0x2e1b2138, 0x4d2c6dfc, 0x53380d13, 0x650a7354, 0x766a0abb, 0x81c2c92e, 0x92722c85,
 0xa2bfe8a1, 0xa81a664b, 0xc24b8b70, 0xc76c51a3, 0xd192e819, 0xd6990624, 0xf40e3585, 0x106aa070,
 0x19a4c116, 0x1e376c08, 0x2748774c, 0x34b0bcb5, 0x391c0cb3, 0x4ed8aa4a, 0x5b9cca4f, 0x682e6ff3,
 0x748f82ee, 0x78a5636f, 0x84c87814, 0x8cc70208, 0x90befffa, 0xa4506ceb, 0xbef9a3f7, 0xc67178f2]
def zmf : List Int := [0x6a09e667, 0xbb67ae85, 0x3c6ef372, 0xa54ff53a, 0x510e527f, 0x9b05688c, 0x1f83d9ab, 0x5be0cd19]
def zj0 : Nat -> Nat
 | 0 => 0
 | n + 1 => if zfm n = true then zj0 n + 1 else zj0 n
def zdd : Nat -> List Int
 | 0 => List.replicate 64 0
 | n + 1 => if zfm n = true then (zdd n).set (zj0 n) (zfy n true) else zdd n
theorem zkq : ∀ n, (zdd n).length = 64
 | 0 => by rw [zdd, List.length_replicate]
 | n + 1 => by
   rw [zdd]
   split
   · rw [List.length_set, zkq n]
   · exact zkq n
theorem yee : zdd 312 = zpk := by decide +kernel
theorem cnt_311 : zj0 311 = 63 /\ zj0 312 = 64 := by decide +kernel
theorem yfa : ∀ {m n : Nat}, m <= n -> zj0 m <= zj0 n := by
 intro m n h
 induction h with
 | refl => exact Nat.le_refl _
 | step h ih =>
   rename_i k
   rw [zj0]
   split <;> omega
def ygi (n : Nat) : Prop := 2 <= n /\ n <= 311 /\ zj0 n <= 63
def zj6 (n : Nat) : Int := zj0 n
def keyA (L : za8) : Nat -> St -> Option Ann := fun id st => match id with
 | 0 => some ⟨Nat, fun n => [(2, .int .u64 (L zac n)), (3, .int .i64 (L zj6 n)), (1, .ref 1 0)], fun n => [(1, .row 145 1 64 (fun i _ => .int .u32 (L2 L za1 (L zdd n) i)))], [0], [0], fun n => L ygi n, fun n => L (fun n : Nat => 312 - n) n⟩
 | _ => none
def ztw (L : za8) : zcu := (96, fun xs => match xs with | [] => some (True, .arr 64 (fun j => .int .u32 (L2 L za1 zpk j))) | _ => none)
theorem zyv {l : List Int} {k : Nat} {v : Int} (h : k < l.length) : za1 (l.set k v) k = v := by
 rw [za1, List.getD_eq_getElem?_getD, List.getElem?_set_self h]; rfl
theorem yib {l : List Int} {k i : Nat} {v : Int} (h : k ≠ i) : za1 (l.set k v) i = za1 l i := by
 rw [za1, za1, List.getD_eq_getElem?_getD, List.getD_eq_getElem?_getD, List.getElem?_set_ne h]
theorem yiz : zdd 2 = List.replicate 64 0 /\ 0 = zj6 2 /\ zj0 2 <= 63 := by decide +kernel
theorem ygh {n : Nat} (h : n <= 311) (hc : zj0 (n + 1) < 64) : n + 1 <= 311 := by
 rcases Nat.lt_or_eq_of_le h with h | h
 · exact h
 · rw [h] at hc
   exact absurd (cnt_311.2 ▸ hc : (64 : Nat) < 64) (by decide)
theorem ymu {n : Nat} (h : n <= 311) (hc : 64 <= zj0 (n + 1)) : zdd (n + 1) = zpk := by
 rcases Nat.lt_or_eq_of_le h with h | h
 · have h2 := Nat.le_trans hc (yfa h)
   rw [cnt_311.1] at h2
   exact absurd h2 (by decide)
 · rw [h]; exact yee
theorem yiy {n : Nat} (h : zfm n = true) : zj0 (n + 1) = zj0 n + 1 /\ zdd (n + 1) = (zdd n).set (zj0 n) (zfy n true) := by
 rw [zj0, zdd, if_pos h, if_pos h]; exact ⟨rfl, rfl⟩
theorem k_no {n : Nat} (h : zfm n = false) : zj0 (n + 1) = zj0 n /\ zdd (n + 1) = zdd n := by
 rw [zj0, zdd, if_neg (by rw [h]; decide), if_neg (by rw [h]; decide)]; exact ⟨rfl, rfl⟩
theorem yhl {l : List Int} {k i : Nat} (v : Int) (hk : k < l.length) : over std k 0 1 [.int .u32 v] (fun i x => .int .u32 (za1 l i)) i 0 = .int .u32 (za1 (l.set k v) i) := by
 rw [zg9, if_pos ⟨Nat.le_refl _, by omega⟩]
 by_cases hi2 : i = k
 · subst hi2
   rw [za5, zyv hk]; rfl
 · rw [zaj hi2, yib (fun h => hi2 h.symm)]; rfl
theorem ymt {n i : Nat} (h : zfm n = true) (hc : zj0 n < 64) : over std (zj6 n).toNat 0 1 [.int .u32 (zfy n true)] (fun i x => .int .u32 (za1 (zdd n) i)) i 0 = .int .u32 (za1 (zdd (n + 1)) i) := by
 rw [(yiy h).2]
 have e : (zj6 n).toNat = zj0 n := Int.toNat_natCast _
 rw [e]
 have hl : zj0 n < (zdd n).length := by rw [zkq]; exact hc
 generalize zfy n true = v
 generalize zdd n = l at hl |-
 generalize zj0 n = k at hl |-
 exact yhl v hl
theorem k_go {n n' : Nat} (hn : n' = n + 1) (hi : ygi n) (h1 : zfm n = true) (h2 : zj6 n + 1 < 64) : (∀ i, over std (zj6 n).toNat 0 1 [.int .u32 (zfy n true)] (fun i x => .int .u32 (za1 (zdd n) i)) i 0 = .int .u32 (za1 (zdd n') i)) /\ zj6 n + 1 = zj6 n' /\ ygi n' /\ 312 - n' < 312 - n := by
 subst hn
 obtain ⟨i1, i2, i3⟩ := hi
 obtain ⟨h3, -⟩ := yiy h1
 have h2' : zj0 n + 1 < 64 := by unfold zj6 at h2; omega
 have h5 := ygh i2 (by rw [h3]; omega)
 refine ⟨fun i => ymt h1 (by omega), ?_, ⟨by omega, h5, by rw [h3]; omega⟩, by omega⟩
 unfold zj6
 rw [h3]; rfl
theorem yq1 {n : Nat} (hi : ygi n) (h1 : zfm n = true) (h2 : ¬ zj6 n + 1 < 64) (j : Nat) : over std (zj6 n).toNat 0 1 [.int .u32 (zfy n true)] (fun i x => .int .u32 (za1 (zdd n) i)) j 0 = .int .u32 (za1 zpk j) := by
 obtain ⟨i1, i2, i3⟩ := hi
 obtain ⟨h3, -⟩ := yiy h1
 have h2' : 64 <= zj0 n + 1 := by unfold zj6 at h2; omega
 rw [ymt h1 (by omega), ymu i2 (by rw [h3]; omega)]
theorem yq0 {n n' : Nat} (hn : n' = n + 1) (hi : ygi n) (h1 : zfm n = false) (h2 : zj6 n < 64) : zdd n = zdd n' /\ zj6 n = zj6 n' /\ ygi n' /\ 312 - n' < 312 - n := by
 subst hn
 obtain ⟨i1, i2, i3⟩ := hi
 obtain ⟨h3, h4⟩ := k_no h1
 have h5 := ygh i2 (by rw [h3]; omega)
 refine ⟨h4.symm, ?_, ⟨by omega, h5, by rw [h3]; omega⟩, by omega⟩
 unfold zj6
 rw [h3]
theorem ypz {n : Nat} (hi : ygi n) : 2 <= n /\ n <= 311 /\ 0 <= zj6 n /\ zj6 n <= 63 := by
 obtain ⟨i1, i2, i3⟩ := hi
 refine ⟨i1, i2, Int.natCast_nonneg _, ?_⟩
 unfold zj6; omega
theorem yq2 {n : Nat} (hn : n = 2) : (∀ i, i < 64 -> za1 (zdd n) i = 0) /\ zj6 n = 0 /\ ygi n /\ (n : Int) = 2 := by
 subst hn
 refine ⟨fun i hi => ?_, yiz.2.1.symm, ⟨by decide, by decide, yiz.2.2⟩, rfl⟩
 rw [yiz.1, za1, List.getD_eq_getElem?_getD, List.getElem?_replicate, if_pos hi]; rfl
theorem zpj : zd7 Tryz.prog (ztw std) := by
 intro xs p r h hp
 dsimp only [ztw] at h |-
 split at h <;> cases h
 try simp only [L2, L3, std] at hp |-
 refine za9 (T := tt) (S := fun L => zbe [zqx L, zng L]) (lo := noA) (lb := keyA) 5 (fn := Tryz.f96) rfl rfl (by kernel_rfl) (by kernel_rfl) rfl zae (za7 ⟨zvc, zm4, trivial⟩) (by kernel_rfl) ?_
 intro L P' Q' hL hP hQ
 obtain ⟨n0, hn0⟩ : ∃ n0 : Nat, n0 = 2 := ⟨_, rfl⟩
 (cbv; try simp only [syT, true_and, and_true])
 refine ⟨fun n hn => ?_, ⟨n0, ?_⟩⟩
 · obtain ⟨n', hn'⟩ : ∃ n' : Nat, n' = n + 1 := ⟨_, rfl⟩
   (cbv; try simp only [syT, true_and, and_true])
   refine ⟨?_, fun h1 => ⟨?_, fun h2 => ⟨n', ?_⟩, fun h2 => ?_⟩, fun h1 => ⟨fun h2 => ⟨n', ?_⟩, fun h2 => ?_⟩⟩
   all_goals (try (cbv; try simp only [syT, true_and, and_true]))
   all_goals (subst hL; subst hQ; simp only [L2, L3, std] at *; try simp only [syS, reduceCtorEq, Int.reduceToNat, Int.reduceAdd, Int.reduceSub] at *)
   all_goals (obtain ⟨r1, r2, r3, r4⟩ := ypz hn)
   · omega
   · omega
   · rw [show (zj6 n + 1 + 9223372036854775808) % 18446744073709551616 - 9223372036854775808 = zj6 n + 1 by omega] at h2 |-
     obtain ⟨e1, e2, e3, e4⟩ := k_go hn' hn h1 h2
     refine ⟨fun i j hi hj => ?_, e2, by omega, e3, by omega⟩
     have : j = 0 := by omega
     subst this
     exact e1 i
   · rw [show (zj6 n + 1 + 9223372036854775808) % 18446744073709551616 - 9223372036854775808 = zj6 n + 1 by omega] at h2
     intro j hj
     exact yq1 hn h1 (by omega) j
   · obtain ⟨e1, e2, e3, e4⟩ := yq0 hn' hn h1 h2
     exact ⟨fun i j hi hj => by rw [e1], e2, by omega, e3, by omega⟩
   · exfalso; omega
 · (cbv; try simp only [syT, true_and, and_true])
   (subst hL; subst hQ; simp only [L2, L3, std] at *; try simp only [syS, reduceCtorEq, Int.reduceToNat, Int.reduceAdd, Int.reduceSub] at *)
   obtain ⟨e1, e2, e3, e4⟩ := yq2 hn0
   refine ⟨fun i j hi hj => ?_, e2.symm, e4.symm, e3⟩
   have : j = 0 := by omega
   subst this
   rw [e1 i hi]; rfl
end Sy
end Go.Proofs.YtlphgephdhadhaaGreat
namespace Go.Proofs.YtlphgephdhadhaaGreat
namespace Sy
open Go Go.RowKit
end Sy
end Go.Proofs.YtlphgephdhadhaaGreat
namespace Go.Proofs.YtlphgephdhadhaaGreat
namespace Sy
open Go Go.RowKit
set_option maxRecDepth 100000
set_option linter.unusedSimpArgs false
set_option linter.unusedVariables false
def yc6 (a b : List UInt8) : Bool := a.take b.length == b
def zyf (a b : List UInt8) : Prop := a.length <= 1000000000 /\ b.length <= 1000000000
def zsr (L : za8) : zcu := (92, fun xs => match xs with | [.str a, .str b] => some (L2 L zyf a b, .bool (L2 L yc6 a b)) | _ => none)
def yi5 (L : za8) : zcu := (82, fun xs => match xs with | [.str a, .str b] => some (L2 L zyf a b, .bool (L2 L yc6 a b)) | _ => none)
theorem zou : zd7 Tryz.prog (zsr std) := by
 intro xs p r h hp
 dsimp only [zsr] at h |-
 split at h <;> cases h
 try simp only [L2, L3, std] at hp |-
 rename_i a b
 refine za9 (T := tt) (S := noS) (lo := noA) (lb := noA) 5 (fn := Tryz.f92) rfl rfl (by kernel_rfl) (by kernel_rfl) rfl zae (zdx _) (by kernel_rfl) ?_
 (intro L P1 Q1 hL hP hQ; cbv; subst hL; simp only [L2, L3, std, syT]; subst hQ)
 (simp only [syS, reduceCtorEq, Int.reduceToNat, Int.reduceAdd, Int.reduceSub])
 exact ⟨fun h => ⟨by omega, rfl⟩, fun h => by
   have : ¬ a.take b.length = b := fun e => by have := congrArg List.length e; simp at this; omega
   simp [yc6, this]⟩
theorem yda : zd7 Tryz.prog (yi5 std) := by
 intro xs p r h hp
 dsimp only [yi5] at h |-
 split at h <;> cases h
 try simp only [L2, L3, std] at hp |-
 rename_i a b
 refine za9 (T := tt) (S := fun L => zbe [zsr L]) (lo := noA) (lb := noA) 5 (fn := Tryz.f82) rfl rfl (by kernel_rfl) (by kernel_rfl) rfl zae (za7 ⟨zou, trivial⟩) (by kernel_rfl) ?_
 (intro L P1 Q1 hL hP hQ; cbv; subst hL; simp only [L2, L3, std, syT]; subst hQ)
 (simp only [syS, reduceCtorEq, Int.reduceToNat, Int.reduceAdd, Int.reduceSub])
 exact hp
def toS : AV -> List UInt8
 | .str s => s
 | _ => []
def zeg (n : Nat) (get : Nat -> Nat -> AV) : List (List UInt8) := (List.range n).map fun i => toS (get i 0)
theorem ynw {h : Array Obj} {D : Nat -> Prop} {x y : AV} {vs : Array Value} (hr : RL h D zap [x, y] vs) : ∃ a b, vs = #[a, b] /\ R h D zap x a /\ R h D zap y b := by
 obtain ⟨hl, hr⟩ := hr
 obtain ⟨a, b, ha⟩ : ∃ a b, vs.toList = [a, b] := by
   have hl : vs.toList.length = 2 := by simpa using hl.symm
   match vs.toList, hl with
   | [a, b], _ => exact ⟨a, b, rfl⟩
 have : vs = #[a, b] := by rw [<- Array.toArray_toList (xs := vs), ha]
 subst this
 exact ⟨a, b, rfl, hr 0 x a rfl rfl, hr 1 y b rfl rfl⟩
def znq (x : AV) : List UInt8 := match x with
 | .lst _ n get => (zeg n get).flatten
 | _ => []
def zg0 (x : AV) : Prop := match x with
 | .lst 1 n get => (∀ i, i < n -> ∃ s, get i 0 = .str s) /\ n <= 1000000 /\ (zeg n get).flatten.length <= 1000000
 | .nils => True
 | _ => False
theorem zpm (l : List (List UInt8)) : Lib.join l [] = l.flatten := by
 unfold Lib.join
 induction l with
 | nil => rfl
 | cons x l ih =>
   cases l with
   | nil => simp
   | cons y l => rw [List.intercalate_cons_cons, ih]; simp
def zu0 (L : za8) : zcu := (94, fun xs => match xs with | [x, .str []] => some (L zg0 x, .str (L znq x)) | _ => none)
theorem zpl : zd7 Tryz.prog (zu0 std) := by
 intro xs p r h hp
 dsimp only [zu0] at h |-
 split at h <;> cases h
 try simp only [L2, L3, std] at hp |-
 rename_i x
 have hp : zg0 x := hp
 intro D w vs hD hxs hg
 obtain ⟨a, b, rfl, rx, ry⟩ := ynw hxs
 obtain rfl := zx1 ry
 unfold ze5
 rw [zc0 (fn := Tryz.f94) rfl (by kernel_rfl) rfl]
 have fin : ∀ (l : List UInt8), l = znq x -> (∀ w', Below w.heap.size w w' -> ∃ v D', Ending.returned (.string ⟨l.toArray⟩) = .returned v /\ Below w.heap.size w w' /\ (∀ b, D b -> D' b) /\ (∀ b, D' b -> D b \/ (w.heap.size <= b /\ b < w'.heap.size)) /\ R w'.heap D' zap (.str (znq x)) v) := by
   rintro l rfl w' hw
   exact ⟨_, D, rfl, hw, fun _ h => h, fun b hb => .inl hb, zx0 _ _ _ _⟩
 have none_ : znq x = [] -> ∀ (a : Option Addr) (c : Nat), Calls Tryz.prog 94 #[.slice a 0 c, .string ⟨#[]⟩] w fun e w' => ∃ v D', e = .returned v /\ Below w.heap.size w w' /\ (∀ b, D b -> D' b) /\ (∀ b, D' b -> D b \/ (w.heap.size <= b /\ b < w'.heap.size)) /\ R w'.heap D' zap (.str (znq x)) v := by
   intro h0 a c
   refine (Tryz.strings_Join_none a c ⟨#[]⟩ w).mono ?_
   rintro e w' ⟨rfl, rfl⟩
   exact fin [] h0.symm _ (Below.refl _ _)
 unfold zg0 at hp
 split at hp
 · rename_i n get _
   obtain ⟨h1, h2, h3⟩ := hp
   cases rx with
   | lst0 => exact none_ rfl _ _
   | lst _ _ _ b o cap us hD0 hc hv h1' hr =>
     have hl : (zeg n get).length = n := by rw [zeg, List.length_map, List.length_range]
     have hq : ∀ j x, ((zeg n get).map (fun s : List UInt8 => (⟨s.toArray⟩ : ByteArray)))[j]? = some x -> w.cell? ⟨b, o + j, none⟩ = some (.string x) := by
       intro j x hj
       have hjn : j < n := by
         have := (List.getElem?_eq_some_iff.1 hj).1
         rw [List.length_map, hl] at this
         exact this
       obtain ⟨s, hs⟩ := h1 j hjn
       have r := hr j 0 hjn (by omega)
       rw [hs] at r
       have hv := hv j 0 hjn (by omega)
       rw [zx1 r, Nat.mul_one, Nat.add_zero] at hv
       rw [zfn, hv]
       have e2 : (zeg n get)[j]? = some s := by rw [zeg, List.getElem?_map, List.getElem?_range hjn, Option.map_some, hs]; rfl
       rw [List.getElem?_map, e2] at hj
       cases hj
       rfl
     have hm : ((zeg n get).map (fun s : List UInt8 => (⟨s.toArray⟩ : ByteArray))).map (·.data.toList) = zeg n get := by
       rw [List.map_map]
       exact List.map_id' _
     have := Tryz.strings_Join b o cap ((zeg n get).map (fun s : List UInt8 => (⟨s.toArray⟩ : ByteArray))) ⟨#[]⟩ w hq (hD b hD0) (by rw [List.length_map, hl]; omega) (by rw [List.length_map, hl]; exact hc) (by rw [hm]; show (Lib.join _ []).length <= _; rw [zpm]; omega)
     rw [hm, List.length_map, hl] at this
     refine this.mono ?_
     rintro e w' ⟨rfl, hw⟩
     exact fin _ (by show Lib.join _ [] = _; rw [zpm]; rfl) _ hw
 · cases rx
   exact none_ rfl _ _
 · exact hp.elim
def ypa (s : List UInt8) (c : Int) : List UInt8 := (List.replicate c.toNat s).flatten
theorem zy2 (s : List UInt8) : ∀ c : Nat, Lib.repeatL s c = (List.replicate c s).flatten
 | 0 => rfl
 | c + 1 => by rw [Lib.repeatL, zy2 s c, List.replicate_succ, List.flatten_cons]
def yhz (s : List UInt8) (c : Int) : Prop := 0 <= c /\ c <= 1000000 /\ s.length <= 1000000
def yhx (L : za8) : zcu := (110, fun xs => match xs with | [.str s, .int .i64 c] => some (L2 L yhz s c, .str (L2 L ypa s c)) | _ => none)
theorem yd5 : zd7 Tryz.prog (yhx std) := by
 intro xs p r h hp
 dsimp only [yhx] at h |-
 split at h <;> cases h
 try simp only [L2, L3, std] at hp |-
 rename_i s c
 obtain ⟨h0, h1, h2⟩ : yhz s c := hp
 obtain ⟨k, rfl⟩ := zz0 h0
 refine ze4 (fn := Tryz.f110) rfl rfl (by kernel_rfl) (ynx (zjz _) (zh3 _ _)) (fun h D => zx0 h D _ _) (fun w => ?_)
 have hs : (⟨s.toArray⟩ : ByteArray).size = s.length := by show s.toArray.size = s.length; simp
 have := Tryz.strings_Repeat ⟨s.toArray⟩ k w (by omega) (by
   rw [hs]
   have : s.length * k <= 1000000 * 1000000 := Nat.mul_le_mul h2 (by omega)
   omega)
 refine this.mono ?_
 rintro e w' ⟨rfl, hw⟩
 refine ⟨?_, hw⟩
 show Ending.returned (.string ⟨(Lib.repeatL s k).toArray⟩) = _
 rw [zy2]; rfl
def zyk (s : List UInt8) : List UInt8 := s ++ [128] ++ List.replicate ((64 - (s.length + 9) % 64) % 64) 0 ++ zya (s.length * 8) 8
theorem zy1 (n : Nat) : (List.replicate n [(0 : UInt8)]).flatten = List.replicate n 0 := by
 induction n with
 | zero => rfl
 | succ n ih => rw [List.replicate_succ, List.flatten_cons, ih, List.replicate_succ]; rfl
theorem zk7 (e n : Int) (h0 : 0 <= n) (h8 : n <= 8) : (zya e n).length = n.toNat := by
 rw [zya, zk8]
 unfold cl8
 omega
theorem ypg (n : Nat) (h : n <= 1000000) : ((64 - ((((n : Int) + 1 + 9223372036854775808) % 18446744073709551616 - 9223372036854775808 + 8 + 9223372036854775808) % 18446744073709551616 - 9223372036854775808).tmod 64 + 9223372036854775808) % 18446744073709551616 - 9223372036854775808).tmod 64 = (((64 - (n + 9) % 64) % 64 : Nat) : Int) := by
 have h1 : ((((n : Int) + 1 + 9223372036854775808) % 18446744073709551616 - 9223372036854775808 + 8 + 9223372036854775808) % 18446744073709551616 - 9223372036854775808) = ((n + 9 : Nat) : Int) := by omega
 rw [h1, Int.tmod_eq_emod_of_nonneg (a := ((n + 9 : Nat) : Int)) (by omega)]
 have h2 : (64 - ((n + 9 : Nat) : Int) % 64 + 9223372036854775808) % 18446744073709551616 - 9223372036854775808 = ((64 - (n + 9) % 64 : Nat) : Int) := by omega
 rw [h2, Int.tmod_eq_emod_of_nonneg (by omega)]
 omega
theorem yhy {k : Nat} (h : k < 64) : yhz [0] (k : Int) := ⟨Int.natCast_nonneg _, by omega, by decide⟩
theorem len8 (n : Nat) (h : n <= 1000000) : (n : Int) % 18446744073709551616 * 8 % 18446744073709551616 = (n : Int) * 8 := by omega
def zmt (L : za8) : zcu := (93, fun xs => match xs with | [.str s] => some (L2 L upto 1000000 s, .str (L zyk s)) | _ => none)
theorem zlq : zd7 Tryz.prog (zmt std) := by
 intro xs p r h hp
 dsimp only [zmt] at h |-
 split at h <;> cases h
 try simp only [L2, L3, std] at hp |-
 rename_i s
 refine za9 (T := tt) (S := fun L => zbe [yhx L, zva L]) (lo := noA) (lb := noA) 5 (fn := Tryz.f93) rfl rfl (by kernel_rfl) (by kernel_rfl) rfl zae (za7 ⟨yd5, zjc, trivial⟩) (by kernel_rfl) ?_
 have hl : s.length <= 1000000 := hp
 have hpn := ypg s.length hl
 have hl8 := len8 s.length hl
 (intro L P1 Q1 hL hP hQ; cbv; subst hL; simp only [L2, L3, std, syT]; subst hQ)
 (simp only [syS, reduceCtorEq, Int.reduceToNat, Int.reduceAdd, Int.reduceSub])
 rw [hpn, hl8]
 have hz : zyk s = s ++ [128] ++ List.replicate ((64 - (s.length + 9) % 64) % 64) 0 ++ zya (s.length * 8) 8 := rfl
 rw [hz]
 have hk : (64 - (s.length + 9) % 64) % 64 < 64 := Nat.mod_lt _ (by decide)
 generalize (64 - (s.length + 9) % 64) % 64 = k at hk |-
 have hr : ypa [0] (k : Int) = List.replicate k 0 := by
   rw [ypa, Int.toNat_natCast, zy1]
 rw [hr]
 have hput := zk7 ((s.length : Int) * 8) 8 (by decide) (by decide)
 simp only [List.length_append, List.length_replicate, List.length_cons, List.length_nil, hput]
 refine ⟨by omega, by decide, by decide, yhy hk, by omega, ⟨by omega, by omega, by decide, by decide⟩, by omega, trivial⟩
def yob (s : List UInt8) : Nat := (64 - (s.length + 9) % 64) % 64
def ziz (n : Nat) : List Int := zmf.take n
def frA (L : za8) : Nat -> St -> Option Ann := fun id st => match id with
 | 0 => some ⟨Nat, fun n => [(5, .int .i64 (L zac n))], fun n => [(1, .row 143 1 8 (fun i _ => .int .u32 (L2 L za1 (L ziz n) i)))], [0, 1, 4], [0], fun n => L (fun n : Nat => n <= 8) n, fun n => L (fun n : Nat => 8 - n) n⟩
 | _ => none
def w8 (g : Nat -> AV) : AV := .agg [g 0, g 1, g 2, g 3, g 4, g 5, g 6, g 7]
theorem yf0 : ∀ n : _root_.Fin 8, zfy (za1 [2, 3, 5, 7, 11, 13, 17, 19] n.val) false = za1 zmf n.val := by decide +kernel
theorem yai {n n' i : Nat} (hn : n' = n + 1) (h : n < 8) (hi : i < 8) : over std n 0 1 [.int .u32 (zfy (za1 [2, 3, 5, 7, 11, 13, 17, 19] n) false)] (fun i x => .int .u32 (za1 (ziz n) i)) i 0 = .int .u32 (za1 (ziz n') i) := by
 rw [zg9, if_pos ⟨Nat.le_refl _, by omega⟩, yf0 ⟨n, h⟩]
 subst hn
 have hl : zmf.length = 8 := rfl
 by_cases hi2 : i = n
 · subst hi2
   rw [za5]
   show AV.int .u32 (za1 zmf i) = _
   rw [ziz, za1, za1, List.getD_eq_getElem?_getD, List.getD_eq_getElem?_getD, List.getElem?_take_of_lt (by omega)]
 · rw [zaj hi2]
   show AV.int .u32 (za1 (ziz n) i) = _
   congr 1
   rw [ziz, ziz, za1, za1, List.getD_eq_getElem?_getD, List.getD_eq_getElem?_getD]
   by_cases hlt : i < n
   · rw [List.getElem?_take_of_lt hlt, List.getElem?_take_of_lt (by omega)]
   · rw [List.getElem?_eq_none (by rw [List.length_take]; omega), List.getElem?_eq_none (by rw [List.length_take]; omega)]
def znw (L : za8) : zcu := (95, fun xs => match xs with | [] => some (True, w8 fun i => .int .u32 (L2 L za1 zmf i)) | _ => none)
theorem zme : zd7 Tryz.prog (znw std) := by
 intro xs p r h hp
 dsimp only [znw] at h |-
 split at h <;> cases h
 try simp only [L2, L3, std] at hp |-
 refine za9 (T := tt) (S := fun L => zbe [zng L]) (lo := frA) (lb := noA) 5 (fn := Tryz.f95) rfl rfl (by kernel_rfl) (by kernel_rfl) rfl zae (za7 ⟨zm4, trivial⟩) (by kernel_rfl) ?_
 intro L P' Q' hL hP hQ
 (cbv; try simp only [syT, true_and, and_true])
 refine ⟨⟨0, ?_⟩, fun n hn => ?_⟩
 · (cbv; try simp only [syT, true_and, and_true])
   (subst hL; subst hQ; simp only [L2, L3, std] at *; try simp only [syS, reduceCtorEq, Int.reduceToNat, Int.reduceAdd, Int.reduceSub] at *)
   exact ⟨fun i j hi hj => by
     have : j = 0 := by omega
     subst this
     simp [ziz, za1]; rfl, by omega⟩
 · obtain ⟨n', hn'⟩ : ∃ n' : Nat, n' = n + 1 := ⟨_, rfl⟩
   (cbv; try simp only [syT, true_and, and_true])
   refine ⟨fun h1 => ⟨?_, ?_, n', ?_⟩, fun h1 => ?_⟩
   · (subst hL; subst hQ; simp only [L2, L3, std] at *; try simp only [syS, reduceCtorEq, Int.reduceToNat, Int.reduceAdd, Int.reduceSub] at *)
     omega
   · (subst hL; subst hQ; simp only [L2, L3, std] at *; try simp only [syS, reduceCtorEq, Int.reduceToNat, Int.reduceAdd, Int.reduceSub] at *)
     omega
   · (cbv; try simp only [syT, true_and, and_true])
     (subst hL; subst hQ; simp only [L2, L3, std] at *; try simp only [syS, reduceCtorEq, Int.reduceToNat, Int.reduceAdd, Int.reduceSub] at *)
     have h1 : n < 8 := by omega
     refine ⟨fun i j hi hj => ?_, by omega, by omega, by omega⟩
     have : j = 0 := by omega
     subst this
     exact yai hn' h1 hi
   · unfold w8 at hQ
     (subst hL; subst hQ; simp only [L2, L3, std] at *; try simp only [syS, reduceCtorEq, Int.reduceToNat, Int.reduceAdd, Int.reduceSub] at *)
     have : n = 8 := by omega
     subst this
     exact ⟨rfl, rfl, rfl, rfl, rfl, rfl, rfl, rfl⟩
def rlS (k : Int) : Int := zwi .u64 (IntKind.u64.wrap k) 31
def rlZ (x k : Int) : Int := bor .u32 (yc3 .u32 x (rlS k)) (zmo .u32 x (zs8 .u64 32 (rlS k)))
def yp5 (L : za8) : zcu := (124, fun xs => match xs with | [.int .u32 x, .int .i64 k] => some (True, .int .u32 (L2 L rlZ x k)) | _ => none)
theorem zgq (a : Int) : 0 <= IntKind.u64.wrap a := Int.emod_nonneg _ (by decide)
theorem zv5 (k : Int) : 0 <= rlS k := zgq _
theorem yhw : zd7 Tryz.prog (yp5 std) := by
 intro xs p r h hp
 dsimp only [yp5] at h |-
 split at h <;> cases h
 try simp only [L2, L3, std] at hp |-
 rename_i x k
 refine za9 (T := tt) (S := noS) (lo := noA) (lb := noA) 5 (fn := Tryz.f124) rfl rfl (by kernel_rfl) (by kernel_rfl) rfl zae (zdx _) (by kernel_rfl) ?_
 (intro L P1 Q1 hL hP hQ; cbv; subst hL; simp only [L2, L3, std, syT]; subst hQ)
 refine ⟨decide_eq_true (zv5 k), decide_eq_true (zgq _), ?_⟩
 rw [zgf]
 rfl
def rotZ (x a b c : Int) (sh : Bool) : Int := yfc .u32 (yfc .u32 (rlZ x (zs8 .i64 0 a)) (rlZ x (zs8 .i64 0 b))) (if sh then zmo .u32 x c else rlZ x (zs8 .i64 0 c))
def yls (t : Int × Int × Int × Int × Bool) : Int := rotZ t.1 t.2.1 t.2.2.1 t.2.2.2.1 t.2.2.2.2
def yhv (L : za8) : zcu := (115, fun xs => match xs with | [.int .u32 x, .int .i64 a, .int .i64 b, .int .i64 c, .bool sh] => some (L (fun c : Int => 0 <= c) c, .int .u32 (L yls (x, a, b, c, sh))) | _ => none)
theorem yd3 : zd7 Tryz.prog (yhv std) := by
 intro xs p r h hp
 dsimp only [yhv] at h |-
 split at h <;> cases h
 try simp only [L2, L3, std] at hp |-
 rename_i x a b c sh
 have hc : 0 <= c := hp
 refine za9 (T := tt) (S := fun L => zbe [yp5 L]) (lo := noA) (lb := noA) 5 (fn := Tryz.f115) rfl rfl (by kernel_rfl) (by kernel_rfl) rfl zae (za7 ⟨yhw, trivial⟩) (by kernel_rfl) ?_
 (intro L P1 Q1 hL hP hQ; cbv; subst hL; simp only [L2, L3, std, syT]; subst hQ)
 refine ⟨trivial, fun h => ⟨decide_eq_true hc, trivial, trivial, ?_⟩, fun h => ⟨trivial, trivial, ?_⟩⟩
 · rw [zgf]
   subst h; rfl
 · rw [zgf]
   subst h; rfl
def zwm (s : List UInt8) (n : Int) : Int := IntKind.u32.wrap (getZ (yks s (zjw .i64 4 n) (zc6 .i64 (zjw .i64 4 n) 4)))
def ydj (l : List Int) (n : Nat) : Int := zc6 .u32 (zc6 .u32 (zc6 .u32 (za1 l (n - 16)) (yls (za1 l (n - 15), 7, 18, 3, true))) (za1 l (n - 7))) (yls (za1 l (n - 2), 17, 19, 10, true))
def wN (s : List UInt8) : Nat -> List Int
 | 0 => []
 | n + 1 => wN s n ++ [if n < 16 then zwm s n else ydj (wN s n) n]
def zx2 (v : List Int) (k w : Int) : Int := zc6 .u32 (zc6 .u32 (zc6 .u32 (zc6 .u32 (za1 v 7) (yls (za1 v 4, 6, 11, 25, false))) (bor .u32 (zwi .u32 (za1 v 4) (za1 v 5)) (zwi .u32 (yfc .u32 4294967295 (za1 v 4)) (za1 v 6)))) k) w
def yhd (v : List Int) : Int := zc6 .u32 (yls (za1 v 0, 2, 13, 22, false)) (bor .u32 (zwi .u32 (za1 v 0) (za1 v 1)) (zwi .u32 (za1 v 2) (bor .u32 (za1 v 0) (za1 v 1))))
def ycm (v : List Int) (k w : Int) : List Int :=
 [zc6 .u32 (zx2 v k w) (yhd v), za1 v 0, za1 v 1, za1 v 2, zc6 .u32 (za1 v 3) (zx2 v k w), za1 v 4, za1 v 5, za1 v 6]
def vN (w h : List Int) : Nat -> List Int
 | 0 => h
 | n + 1 => ycm (vN w h n) (za1 zpk n) (za1 w n)
def vS (s : List UInt8) (h : List Int) (n : Nat) : List Int := vN (wN s 64) h n
def hN (h v : List Int) (n : Nat) : List Int := (List.range 8).map fun i => if i < n then zc6 .u32 (za1 h i) (za1 v i) else za1 h i
def hS (s : List UInt8) (h : List Int) (n : Nat) : List Int := hN h (vS s h 64) n
def yoc (h : List Int) (s : List UInt8) : List Int := hS s h 8
theorem zws (s : List UInt8) : ∀ n, (wN s n).length = n
 | 0 => rfl
 | n + 1 => by rw [wN, List.length_append, zws s n]; rfl
theorem ydg {l : List Int} {v : Int} (i : Nat) : za1 (l ++ [v]) i = if i = l.length then v else za1 l i := by
 rw [za1, za1, List.getD_eq_getElem?_getD, List.getD_eq_getElem?_getD]
 by_cases h : i < l.length
 · rw [List.getElem?_append_left h, if_neg (by omega)]
 · rw [List.getElem?_append_right (by omega)]
   by_cases h2 : i = l.length
   · rw [if_pos h2, h2, Nat.sub_self]; rfl
   · rw [if_neg h2, List.getElem?_eq_none (by simp; omega), List.getElem?_eq_none (by omega)]
theorem ybs {l : List Int} {n : Nat} (v : Int) (hl : l.length = n) (i : Nat) : over std n 0 1 [.int .u32 v] (fun i _ => .int .u32 (za1 l i)) i 0 = .int .u32 (za1 (l ++ [v]) i) := by
 rw [zg9, if_pos ⟨Nat.le_refl _, by omega⟩, ydg, hl]
 by_cases hi2 : i = n
 · rw [if_pos hi2, hi2, za5]; rfl
 · rw [if_neg hi2, zaj hi2]; rfl
theorem yot {s : List UInt8} {n n' : Nat} (h : n' = n + 1) (h2 : n < 16) : wN s n' = wN s n ++ [zwm s n] := by
 subst h; rw [wN, if_pos h2]
theorem yov {s : List UInt8} {n n' : Nat} (h : n' = n + 1) (h2 : ¬ n < 16) : wN s n' = wN s n ++ [ydj (wN s n) n] := by
 subst h; rw [wN, if_neg h2]
def mixA (L : za8) (h : List Int) (s : List UInt8) : Nat -> St -> Option Ann := fun id st => match id with
 | 0 => some ⟨Nat, fun n => [(17, .int .i64 (L zac n))], fun n => [(7, .row 145 1 64 (fun i _ => .int .u32 (L2 L za1 (L2 L wN s n) i)))], [1, 2, 3, 6, 7], [3, 6], fun n => L (fun n : Nat => n <= 16) n, fun n => L (fun n : Nat => 16 - n) n⟩
 | 2 => some ⟨Nat, fun n => [(11, .int .i64 (L zac n))], fun n => [(7, .row 145 1 64 (fun i _ => .int .u32 (L2 L za1 (L2 L wN s n) i)))], [1, 2, 3, 6, 7], [3, 6], fun n => L (fun n : Nat => 16 <= n /\ n <= 64) n, fun n => L (fun n : Nat => 64 - n) n⟩
 | 4 => some ⟨Nat, fun n => [(64, .int .i64 (L zac n))], fun n => [(12, .row 143 1 8 (fun i _ => .int .u32 (L2 L za1 (L3 L vS s h n) i)))], [1, 2, 3, 6, 7, 12], [3, 6, 7], fun n => L (fun n : Nat => n <= 64) n, fun n => L (fun n : Nat => 64 - n) n⟩
 | 6 => some ⟨Nat, fun n => [(127, .int .i64 (L zac n))], fun n => [(3, .row 143 1 8 (fun i _ => .int .u32 (L2 L za1 (L3 L hS s h n) i)))], [3, 6, 12], [6, 12], fun n => L (fun n : Nat => n <= 8) n, fun n => L (fun n : Nat => 8 - n) n⟩
 | _ => none
def ymv (n : Nat) (g : Nat -> AV) : Prop := n = 64 /\ ∀ j, j < 64 -> g j = .int .u32 (za1 zpk j)
def ypo (x : List Int × List UInt8) : List Int := yoc x.1 x.2
def w8L (L : za8) (l : List Int) : AV := .agg [.int .u32 (L2 L za1 l 0), .int .u32 (L2 L za1 l 1), .int .u32 (L2 L za1 l 2), .int .u32 (L2 L za1 l 3), .int .u32 (L2 L za1 l 4), .int .u32 (L2 L za1 l 5), .int .u32 (L2 L za1 l 6), .int .u32 (L2 L za1 l 7)]
def ydp (L : za8) : zcu := (97, fun xs => match xs with
 | [.agg [.int .u32 a0, .int .u32 a1, .int .u32 a2, .int .u32 a3, .int .u32 a4, .int .u32 a5, .int .u32 a6, .int .u32 a7], .iptr n g, .str s] => some (L2 L ymv n g /\ L (fun s : List UInt8 => s.length = 64) s, w8L L (L ypo ([a0, a1, a2, a3, a4, a5, a6, a7], s)))
 | _ => none)
theorem yp9 {h : Array Obj} {D : Nat -> Prop} {μ : Mu} {a x y : AV} {r : List AV} {vs : Array Value} (e : ∀ v, R h D μ x v -> R h D μ y v) (hr : RL h D μ (a :: x :: r) vs) : RL h D μ (a :: y :: r) vs := by
 refine ⟨by rw [<- hr.1]; rfl, fun i z v hz hv => ?_⟩
 match i, hz with
 | 0, hz => exact hr.2 0 z v hz hv
 | 1, hz => cases hz; exact e v (hr.2 1 x v rfl hv)
 | i + 2, hz => exact hr.2 (i + 2) z v hz hv
theorem yfg {P : Program} {f : FuncId} {xs ys : List AV} {r : AV} (h : ∀ h D vs, RL h D zap xs vs -> RL h D zap ys vs) (ha : zab P f ys r) : zab P f xs r := fun D w vs hD hx => ha D w vs hD (h _ _ _ hx)
theorem zzx {h : Array Obj} {D : Nat -> Prop} {μ : Mu} {n : Nat} {g g' : Nat -> AV} {v : Value} (r : R h D μ (.iptr n g) v) (e : ∀ j, j < n -> g j = g' j) : R h D μ (.iptr n g') v := by
 cases r with
 | iptr _ _ b o vs hD hv h1 hr => exact .iptr n g' b o vs hD hv h1 (fun j hj => by rw [<- e j hj]; exact hr j hj)
theorem zia {n n' : Nat} (h : n' = n + 1) (h2 : n < 1000) : zc6 .i64 (zac n) 1 = zac n' := by
 subst h; unfold zac; rw [zc6, zdi]; omega
theorem zn9 {n k : Nat} {c : Int} (hc : c = (k : Int)) (h : k <= n) (h2 : n < 1000) : (zs8 .i64 (zac n) c).toNat = n - k := by
 subst hc; unfold zac; rw [zs8, zdi]; omega
theorem zad {n k : Nat} (h : ilt (zac n) (zac k) = true) : n < k := by
 have := of_decide_eq_true h
 unfold zac at this; omega
theorem zd3 {n k : Nat} (h : ilt (zac n) (zac k) = false) : ¬ n < k := by
 have := of_decide_eq_false h
 unfold zac at this; omega
theorem zd5 {n k : Nat} (h : n < k) : inR (zac n) (zac k) = true := by rw [zns]; exact ⟨Int.natCast_nonneg _, by unfold zac; omega⟩
theorem zpv {n : Nat} (h : n < 1000) : zjw .i64 4 (zac n) = ((4 * n : Nat) : Int) /\ zc6 .i64 (zjw .i64 4 (zac n)) 4 = ((4 * n + 4 : Nat) : Int) := by
 have e : zjw .i64 4 (zac n) = ((4 * n : Nat) : Int) := by rw [zjw, zdi, zac]; omega
 rw [e]
 refine ⟨rfl, ?_⟩
 rw [zc6, zdi]; omega
theorem w_in {s : List UInt8} {n : Nat} (h : n < 16) (hs : s.length = 64) : inS (zjw .i64 4 (zac n)) (zc6 .i64 (zjw .i64 4 (zac n)) 4) (slen s) = true := by
 obtain ⟨e1, e2⟩ := zpv (n := n) (by omega)
 rw [e2, e1, slen, hs, yn0]
 exact ⟨by omega, by omega, by omega⟩
theorem yos {s : List UInt8} {n : Nat} (h : n < 16) (hs : s.length = 64) : yet (yks s (zjw .i64 4 (zac n)) (zc6 .i64 (zjw .i64 4 (zac n)) 4)) := by
 obtain ⟨e1, e2⟩ := zpv (n := n) (by omega)
 rw [e2, e1, yks, yet, List.length_drop, List.length_take, hs, Int.toNat_natCast, Int.toNat_natCast]
 omega
theorem znt {n k : Nat} {c : Int} (hc : c = (k : Int)) (h : k <= n) (h2 : n < 64) : inR (zs8 .i64 (zac n) c) (zac 64) = true := by
 subst hc
 have e : zs8 .i64 (zac n) (k : Int) = zac (n - k) := by unfold zac; rw [zs8, zdi]; omega
 rw [e]
 exact zd5 (by omega)
theorem yp4 {a0 a1 a2 a3 a4 a5 a6 a7 : Int} {i : Nat} {s : List UInt8} (hi : i < 8) : AV.int .u32 (za1 [za1 [a0, a1, a2, a3, a4, a5, a6, a7] 0, za1 [a0, a1, a2, a3, a4, a5, a6, a7] 1, za1 [a0, a1, a2, a3, a4, a5, a6, a7] 2, za1 [a0, a1, a2, a3, a4, a5, a6, a7] 3, za1 [a0, a1, a2, a3, a4, a5, a6, a7] 4, za1 [a0, a1, a2, a3, a4, a5, a6, a7] 5, za1 [a0, a1, a2, a3, a4, a5, a6, a7] 6, za1 [a0, a1, a2, a3, a4, a5, a6, a7] 7] i) = .int .u32 (za1 (vS s [a0, a1, a2, a3, a4, a5, a6, a7] 0) i) := rfl
theorem ycl {v : List Int} {k w : Int} {i : Nat} (hi : i < 8) : over std 0 0 1 [.int .u32 (zc6 .u32 (zx2 v k w) (yhd v))] (over std 4 0 1 [.int .u32 (zc6 .u32 (za1 v 3) (zx2 v k w))] (fun i _ => zj4 std (zcz 1 7 i) (.int .u32 (za1 v (0 + (i - 1)))) (.int .u32 (za1 v i)))) i 0 = .int .u32 (za1 (ycm v k w) i) := by
 unfold ycm
 generalize zx2 v k w = x
 generalize yhd v = y
 match i, hi with
 | 0, _ => rfl
 | 1, _ => rfl
 | 2, _ => rfl
 | 3, _ => rfl
 | 4, _ => rfl
 | 5, _ => rfl
 | 6, _ => rfl
 | 7, _ => rfl
theorem yeq {h v : List Int} {n i : Nat} (hi : i < 8) : za1 (hN h v n) i = if i < n then zc6 .u32 (za1 h i) (za1 v i) else za1 h i := by
 rw [hN, za1, List.getD_eq_getElem?_getD, List.getElem?_map, List.getElem?_range hi]; rfl
theorem yn3 {h v : List Int} {n n' i : Nat} (hn : n' = n + 1) (h8 : n < 8) (hi : i < 8) : over std n 0 1 [.int .u32 (zc6 .u32 (za1 (hN h v n) n) (za1 v n))] (fun i _ => .int .u32 (za1 (hN h v n) i)) i 0 = .int .u32 (za1 (hN h v n') i) := by
 subst hn
 rw [zg9, if_pos ⟨Nat.le_refl _, by omega⟩, yeq hi, yeq h8, yeq hi, if_neg (Nat.lt_irrefl n)]
 by_cases hi2 : i = n
 · rw [hi2, za5, if_neg (Nat.lt_irrefl n), if_pos (Nat.lt_succ_self n)]; rfl
 · rw [zaj hi2]
   by_cases hlt : i < n
   · rw [if_pos hlt, if_pos (by omega)]; rfl
   · rw [if_neg hlt, if_neg (by omega)]; rfl
theorem hN_0 {h v : List Int} {n i : Nat} (hn : n = 0) (hi : i < 8) : AV.int .u32 (za1 h i) = .int .u32 (za1 (hN h v n) i) := by
 rw [yeq hi, hn, if_neg (Nat.not_lt_zero i)]
theorem yn6 (m : List Int) : zfk (w8L std m) (.agg [.int .u32 (za1 [za1 m 0, za1 m 1, za1 m 2, za1 m 3, za1 m 4, za1 m 5, za1 m 6, za1 m 7] 0), .int .u32 (za1 [za1 m 0, za1 m 1, za1 m 2, za1 m 3, za1 m 4, za1 m 5, za1 m 6, za1 m 7] 1),
   .int .u32 (za1 [za1 m 0, za1 m 1, za1 m 2, za1 m 3, za1 m 4, za1 m 5, za1 m 6, za1 m 7] 2), .int .u32 (za1 [za1 m 0, za1 m 1, za1 m 2, za1 m 3, za1 m 4, za1 m 5, za1 m 6, za1 m 7] 3), .int .u32 (za1 [za1 m 0, za1 m 1, za1 m 2, za1 m 3, za1 m 4, za1 m 5, za1 m 6, za1 m 7] 4),
   .int .u32 (za1 [za1 m 0, za1 m 1, za1 m 2, za1 m 3, za1 m 4, za1 m 5, za1 m 6, za1 m 7] 5), .int .u32 (za1 [za1 m 0, za1 m 1, za1 m 2, za1 m 3, za1 m 4, za1 m 5, za1 m 6, za1 m 7] 6), .int .u32 (za1 [za1 m 0, za1 m 1, za1 m 2, za1 m 3, za1 m 4, za1 m 5, za1 m 6, za1 m 7] 7)]) := by
 unfold w8L
 simp only [sySet, L2, std]
 exact ⟨rfl, rfl, rfl, rfl, rfl, rfl, rfl, rfl, trivial⟩
theorem zt8 : zd7 Tryz.prog (ydp std) := by
 intro xs p r h hp
 dsimp only [ydp] at h |-
 split at h <;> cases h
 try simp only [L2, L3, std] at hp |-
 rename_i a0 a1 a2 a3 a4 a5 a6 a7 n g s
 obtain ⟨⟨hn, hg⟩, hs⟩ : ymv n g /\ s.length = 64 := hp
 subst hn
 obtain ⟨kf, hkf⟩ : ∃ kf : Nat -> Int, kf = za1 zpk := ⟨_, rfl⟩
 obtain ⟨hl, hhl⟩ : ∃ l : List Int, l = [a0, a1, a2, a3, a4, a5, a6, a7] := ⟨_, rfl⟩
 rw [<- hkf] at hg
 refine yfg (fun h D vs hr => yp9 (fun v r => zzx r hg) hr) ?_
 rw [<- hhl]
 clear hg g
 refine za9 (T := tt) (S := fun L => zbe [yjf L, yhv L]) (lo := fun L => mixA L hl s) (lb := noA) 5 (fn := Tryz.f97) rfl rfl (by kernel_rfl) (by kernel_rfl) rfl zae (za7 ⟨yer, yd3, trivial⟩) (by kernel_rfl) ?_
 obtain ⟨n0, hn0⟩ : ∃ n : Nat, n = 0 := ⟨_, rfl⟩
 obtain ⟨n1, hn1⟩ : ∃ n : Nat, n = 16 := ⟨_, rfl⟩
 intro L P' Q' hL hP hQ
 (cbv; try simp only [syT, true_and, and_true])
 refine ⟨⟨n0, ?_⟩, fun n hn => ?_⟩
 · (cbv; try simp only [syT, true_and, and_true])
   subst hL; subst hQ
   refine ⟨fun _ _ _ _ => trivial, fun _ _ _ _ => trivial, fun i j hi hj => ?_, fun _ _ => trivial, ?_, ?_⟩
   · have : j = 0 := by omega
     subst this; subst hn0; rfl
   · subst hn0; rfl
   · subst hn0; exact Nat.zero_le _
 obtain ⟨n', hn'⟩ : ∃ n' : Nat, n' = n + 1 := ⟨_, rfl⟩
 (cbv; try simp only [syT, true_and, and_true])
 refine ⟨fun h1 => ⟨?_, ?_, ?_, n', ?_⟩, fun h1 => ⟨⟨n1, ?_⟩, fun m hm => ?_⟩⟩
 · subst hL
   exact w_in (zad h1) hs
 · subst hL
   exact yos (zad h1) hs
 · subst hL
   have h16 : n < 16 := zad h1
   exact zd5 (by omega)
 · (cbv; try simp only [syT, true_and, and_true])
   subst hL; subst hQ
   have h16 : n < 16 := zad h1
   refine ⟨fun _ _ _ _ => trivial, fun _ _ _ _ => trivial, fun i j hi hj => ?_, fun _ _ => trivial, ?_, ?_, ?_⟩
   · have : j = 0 := by omega
     subst this
     rw [show L2 std wN s n' = wN s n ++ [zwm s n] from yot hn' h16]
     exact ybs _ (zws s n) i
   · exact zia hn' (by omega)
   · show n' <= 16
     omega
   · show 16 - n' + 1 <= 16 - n
     omega
 · (cbv; try simp only [syT, true_and, and_true])
   subst hL; subst hQ
   have h16 : n = n1 := by
     have hn : n <= 16 := hn
     have h2 : ¬ n < 16 := zd3 h1
     omega
   subst h16
   refine ⟨fun _ _ _ _ => trivial, fun _ _ _ _ => trivial, fun _ _ _ _ => rfl, fun _ _ => trivial, ?_, ?_⟩
   · subst hn1; rfl
   · subst hn1; exact ⟨Nat.le_refl _, by decide⟩
 clear h1 hn hn' n' hn0 n0
 obtain ⟨m', hm'⟩ : ∃ m' : Nat, m' = m + 1 := ⟨_, rfl⟩
 obtain ⟨k0, hk0⟩ : ∃ k : Nat, k = 0 := ⟨_, rfl⟩
 (cbv; try simp only [syT, true_and, and_true])
 refine ⟨fun h1 => ⟨?_, ?_, ?_, ?_, ?_, ?_, ?_, m', ?_⟩, fun h1 => ⟨⟨k0, ?_⟩, fun k hk => ?_⟩⟩
 · subst hL; exact znt (k := 16) rfl (Nat.le_trans (by decide) hm.1) (zad h1)
 · subst hL; exact znt (k := 15) rfl (Nat.le_trans (by decide) hm.1) (zad h1)
 · subst hL; show (0 : Int) <= 3; decide
 · subst hL; exact znt (k := 7) rfl (Nat.le_trans (by decide) hm.1) (zad h1)
 · subst hL; exact znt (k := 2) rfl (Nat.le_trans (by decide) hm.1) (zad h1)
 · subst hL; show (0 : Int) <= 10; decide
 · subst hL; exact zd5 (zad h1)
 · (cbv; try simp only [syT, true_and, and_true])
   subst hL; subst hQ
   have h64 : m < 64 := zad h1
   have h16 : 16 <= m := hm.1
   refine ⟨fun _ _ _ _ => trivial, fun _ _ _ _ => trivial, fun i j hi hj => ?_, fun _ _ => trivial, ?_, ?_, ?_⟩
   · have : j = 0 := by omega
     subst this
     rw [show L2 std wN s m' = wN s m ++ [ydj (wN s m) m] from yov hm' (by omega)]
     rw [ydj, <- zn9 (n := m) (k := 16) (c := 16) rfl h16 (by omega), <- zn9 (n := m) (k := 15) (c := 15) rfl (by omega) (by omega), <- zn9 (n := m) (k := 7) (c := 7) rfl (by omega) (by omega), <- zn9 (n := m) (k := 2) (c := 2) rfl (by omega) (by omega)]
     exact ybs _ (zws s m) i
   · exact zia hm' (by omega)
   · exact ⟨by omega, by omega⟩
   · show 64 - m' + 1 <= 64 - m
     omega
 · (cbv; try simp only [syT, true_and, and_true])
   subst hL; subst hQ
   refine ⟨fun _ _ _ _ => trivial, fun _ _ _ _ => trivial, fun _ _ _ _ => trivial, fun i j hi hj => ?_, fun _ _ => trivial, ?_, ?_⟩
   · subst hk0; subst hhl
     exact yp4 (s := s) hi
   · subst hk0; rfl
   · subst hk0; exact Nat.zero_le _
 have hm64 : m = 64 := by
   subst hL
   have : ¬ m < 64 := zd3 h1
   have : m <= 64 := hm.2
   omega
 subst hm64
 clear h1 hm hm' m' hk0 k0
 obtain ⟨k', hk'⟩ : ∃ k' : Nat, k' = k + 1 := ⟨_, rfl⟩
 obtain ⟨q0, hq0⟩ : ∃ q : Nat, q = 0 := ⟨_, rfl⟩
 (cbv; try simp only [syT, true_and, and_true])
 refine ⟨fun h1 => ⟨?_, ?_, ?_, ?_, ?_, ?_, ?_, ?_, ?_, ?_, ?_, ?_, ?_, ?_, ?_, ?_, ?_, ?_, ?_, ?_, ?_, ?_, k', ?_⟩, fun h1 => ⟨⟨q0, ?_⟩, fun q hq => ?_⟩⟩
 · subst hL; rfl
 · subst hL; rfl
 · subst hL; show (0 : Int) <= 25; decide
 · subst hL; rfl
 · subst hL; rfl
 · subst hL; rfl
 · subst hL; rfl
 · subst hL; exact zd5 (zad h1)
 · subst hL; exact zd5 (zad h1)
 · subst hL; rfl
 · subst hL; show (0 : Int) <= 22; decide
 · subst hL; rfl
 · subst hL; rfl
 · subst hL; rfl
 · subst hL; rfl
 · subst hL; rfl
 · subst hL; rfl
 · subst hL; rfl
 · subst hL; rfl
 · subst hL; rfl
 · subst hL; rfl
 · subst hL; rfl
 · (cbv; try simp only [syT, true_and, and_true])
   subst hL; subst hQ
   have h64 : k < 64 := zad h1
   refine ⟨fun _ _ _ _ => trivial, fun _ _ _ _ => trivial, fun _ _ _ _ => trivial, fun i j hi hj => ?_, fun _ _ => trivial, ?_, ?_, ?_⟩
   · have : j = 0 := by omega
     subst this
     have e : vS s hl k' = ycm (vS s hl k) (kf k) (za1 (wN s 64) k) := by subst hk'; subst hkf; rfl
     have ek : (zac k).toNat = k := Int.toNat_natCast k
     simp only [L2, L3, std, ek, e]
     clear e
     generalize vS s hl k = v
     generalize wN s 64 = w
     exact ycl hi
   · exact zia hk' (by omega)
   · show k' <= 64
     omega
   · show 64 - k' + 1 <= 64 - k
     omega
 · (cbv; try simp only [syT, true_and, and_true])
   subst hL; subst hQ
   have hk64 : k = 64 := by
     have : ¬ k < 64 := zd3 h1
     have : k <= 64 := hk
     omega
   subst hk64
   refine ⟨fun _ _ _ _ => trivial, fun _ _ _ _ => trivial, fun i j hi hj => ?_, ?_, ?_⟩
   · exact hhl ▸ hN_0 hq0 hi
   · subst hq0; rfl
   · subst hq0; exact Nat.zero_le _
 have hk64 : k = 64 := by
   subst hL
   have : ¬ k < 64 := zd3 h1
   have : k <= 64 := hk
   omega
 subst hk64
 clear h1 hk hk' k' hq0 q0
 obtain ⟨q', hq'⟩ : ∃ q' : Nat, q' = q + 1 := ⟨_, rfl⟩
 (cbv; try simp only [syT, true_and, and_true])
 refine ⟨fun h1 => ⟨?_, ?_, ?_, q', ?_⟩, fun h1 => ?_⟩
 · subst hL; exact zd5 (zad h1)
 · subst hL; exact zd5 (zad h1)
 · subst hL; exact zd5 (zad h1)
 · (cbv; try simp only [syT, true_and, and_true])
   subst hL; subst hQ
   have h8 : q < 8 := zad h1
   refine ⟨fun _ _ _ _ => trivial, fun _ _ _ _ => trivial, fun i j hi hj => ?_, ?_, ?_, ?_⟩
   · have : j = 0 := by omega
     subst this
     have ek : (zac q).toNat = q := Int.toNat_natCast q
     simp only [L2, L3, std, ek, hS]
     exact yn3 hq' h8 hi
   · exact zia hq' (by omega)
   · show q' <= 8
     omega
   · show 8 - q' + 1 <= 8 - q
     omega
 · subst hL; subst hQ
   have hq8 : q = 8 := by
     have : ¬ q < 8 := zd3 h1
     have : q <= 8 := hq
     omega
   subst hq8
   rw [show ypo (hl, s) = hS s hl 8 from rfl]
   simp only [std]
   generalize hS s hl 8 = m
   exact yn6 m
def ynr (p : List UInt8) (n : Nat) : List UInt8 := (p.drop (64 * n)).take 64
def zod (p : List UInt8) : Nat -> List Int
 | 0 => zmf
 | n + 1 => yoc (zod p n) (ynr p n)
def yc7 (m : List Int) : Nat -> List UInt8
 | 0 => []
 | n + 1 => yc7 m n ++ zya (IntKind.u64.wrap (za1 m n)) 4
def yli (p : List UInt8) : List UInt8 := yc7 (zod p (p.length / 64)) 8
def zhn (p : List UInt8) (n : Nat) : List UInt8 := p.drop (64 * n)
def ybp (p : List UInt8) (n : Nat) : Prop := 64 * (n + 1) <= p.length
theorem zn5 (m : List Int) : ∀ n, (yc7 m n).length = 4 * n
 | 0 => rfl
 | n + 1 => by rw [yc7, List.length_append, zn5 m n, zk7 _ _ (by decide) (by decide)]; show 4 * n + 4 = _; omega
theorem zsg (p : List UInt8) : (yli p).length = 32 := zn5 _ 8
theorem zjf (s : List UInt8) : (zyk s).length % 64 = 0 /\ 64 <= (zyk s).length /\ (zyk s).length = s.length + 9 + yob s := by
 have : (zyk s).length = s.length + 9 + yob s := by
   rw [zyk, List.length_append, List.length_append, List.length_append, List.length_replicate, zk7 _ _ (by decide) (by decide)]
   show s.length + 1 + yob s + 8 = _
   omega
 rw [this]
 unfold yob
 omega
def zuk (x : AV) : List UInt8 := yli (zyk (znq x))
def smB (L : za8) (p : List UInt8) : Nat -> St -> Option Ann := fun id st => match id with
 | 0 => some ⟨Nat, fun n => [(3, .str (L2 L zhn p n)), (4, .ref 4 0), (5, .ref 5 0)], fun n => [(5, .row 145 1 64 (fun i _ => .int .u32 (L2 L za1 zpk i))), (4, .row 143 1 8 (fun i _ => .int .u32 (L2 L za1 (L2 L zod p n) i)))], [2, 700005], [2], fun n => L2 L ybp p n, fun n => L2 L (fun (p : List UInt8) (n : Nat) => p.length - n) p n⟩
 | _ => none
def smA (L : za8) (m : List Int) : Nat -> St -> Option Ann := fun id st => match id with
 | 0 => some ⟨Nat, fun n => [(23, .int .i64 (L zac n)), (22, w8L L m)], fun n => [(6, .row 127 1 32 (fun i _ => .int .u8 (L2 L zau (L2 L yc7 m n) i)))], [2, 6], [2], fun n => L (fun n : Nat => n <= 8) n, fun n => L (fun n : Nat => 8 - n) n⟩
 | _ => none
def ycj (L : za8) : zcu := (81, fun xs => match xs with | [x] => some (L zg0 x, .arr 32 (fun j => .int .u8 (L2 L zau (L zuk x) j))) | _ => none)
theorem zjs {p : List UInt8} {k : Nat} (h : ybp p k) : inC 64 (slen (zhn p k)) = true := by
 have h : 64 * (k + 1) <= p.length := h
 rw [inC, slen, zhn, List.length_drop, Bool.and_eq_true, decide_eq_true_eq, decide_eq_true_eq]
 omega
theorem ybn {p : List UInt8} {k : Nat} (h : ybp p k) : ((zhn p k).take (64 : Int).toNat).length = 64 := by
 have h : 64 * (k + 1) <= p.length := h
 rw [zhn, List.length_take, List.length_drop]
 show min 64 _ = _
 omega
theorem zjt {p : List UInt8} {k k' : Nat} (h : k' = k + 1) : (zhn p k).drop (64 : Int).toNat = zhn p k' := by
 subst h
 rw [zhn, zhn, List.drop_drop]; rfl
theorem zub {p : List UInt8} {k k' : Nat} (hp : p.length % 64 = 0) (h : k' = k + 1) (hn : ¬ (zhn p k').length = 0) : ybp p k' := by
 rw [zhn, List.length_drop] at hn
 show 64 * (k' + 1) <= p.length
 omega
theorem ybo {p : List UInt8} {k k' : Nat} (hk : ybp p k) (h : k' = k + 1) (hn : (zhn p k').length = 0) : k' = p.length / 64 := by
 have hk : 64 * (k + 1) <= p.length := hk
 rw [zhn, List.length_drop] at hn
 omega
theorem zrq {l : List Int} (h : l.length = 8) : [za1 l 0, za1 l 1, za1 l 2, za1 l 3, za1 l 4, za1 l 5, za1 l 6, za1 l 7] = l := by
 match l, h with
 | [a, b, c, d, e, f, g, h], _ => rfl
theorem ydq (h : List Int) (s : List UInt8) : (yoc h s).length = 8 := by
 rw [yoc, hS, hN, List.length_map, List.length_range]
theorem zf9 (p : List UInt8) : ∀ k, (zod p k).length = 8
 | 0 => rfl
 | k + 1 => ydq _ _
theorem zja {p : List UInt8} {k k' : Nat} (h : k' = k + 1) : ypo ([za1 (zod p k) 0, za1 (zod p k) 1, za1 (zod p k) 2, za1 (zod p k) 3, za1 (zod p k) 4, za1 (zod p k) 5, za1 (zod p k) 6, za1 (zod p k) 7], (zhn p k).take (64 : Int).toNat) = zod p k' := by
 rw [zrq (zf9 p k)]
 subst h
 rfl
theorem yfs {l : List UInt8} (h : (!seq l []) = true) : ¬ l.length = 0 := by
 intro hl
 rw [List.eq_nil_of_length_eq_zero hl] at h
 exact absurd h (by decide)
theorem zx6 {l : List UInt8} (h : (!seq l []) = false) : l.length = 0 := by
 have : l = [] := by
   have h2 : seq l [] = true := by simpa using h
   simpa [seq] using h2
 rw [this]; rfl
theorem yg0 {q : Nat} (h : q < 8) : inC (zjw .i64 4 (zac q)) (zac 32) = true := by
 rw [(zpv (n := q) (by omega)).1, yj5]
 unfold zac
 omega
theorem zyn (x : Int) : yd8 (IntKind.u64.wrap x) 4 := by
 refine ⟨zgq _, ?_, by decide, by decide⟩
 rw [zwr]; omega
theorem zsw {q : Nat} {x : Int} (h : q < 8) : zop (List.length (zya x 4)) (Nat.sub 32 (Int.toNat (zjw .i64 4 (zac q)))) = true := by
 rw [(zpv (n := q) (by omega)).1, Int.toNat_natCast, zk7 _ _ (by decide) (by decide), zop, Bool.and_eq_true, zbo, zcg]
 show 0 < 32 - 4 * q /\ 4 <= 32 - 4 * q
 omega
theorem zym {m : List Int} {q q' : Nat} (hq : q' = q + 1) (h8 : q < 8) (i : Nat) : zj4 std (zcz (Nat.add 0 (Int.toNat (zjw .i64 4 (zac q)))) (List.length (zya (IntKind.u64.wrap (za1 m q)) 4)) i)
   (.int .u8 (zqk (zya (IntKind.u64.wrap (za1 m q)) 4) (zac (Nat.sub i (Nat.add 0 (Int.toNat (zjw .i64 4 (zac q)))))))) (.int .u8 (zau (yc7 m q) i)) = .int .u8 (zau (yc7 m q') i) := by
 subst hq
 rw [(zpv (n := q) (by omega)).1, Int.toNat_natCast, show Nat.add 0 (4 * q) = 4 * q from Nat.zero_add _, show yc7 m (q + 1) = yc7 m q ++ zya (IntKind.u64.wrap (za1 m q)) 4 from rfl]
 have hl := zn5 m q
 have hp := zk7 (IntKind.u64.wrap (za1 m q)) 4 (by decide) (by decide)
 generalize yc7 m q = l at hl |-
 generalize zya (IntKind.u64.wrap (za1 m q)) 4 = b at hp |-
 have hp : b.length = 4 := hp
 rw [hp, zcz]
 by_cases h1 : i < 4 * q
 · rw [show zbd (4 * q) i = false by rw [Bool.eq_false_iff, ne_eq, zcg]; omega, zo8 (by omega)]; rfl
 · rw [show zbd (4 * q) i = true by rw [zcg]; omega, zo7 (by omega), hl]
   by_cases h2 : i < 4 * q + 4
   · rw [zvz h2]
     show AV.int .u8 (zqk b (zac (i - 4 * q))) = _
     rw [zqk, zac, Int.toNat_natCast]; rfl
   · rw [ykh h2]
     show AV.int .u8 (zau l i) = _
     rw [zau, zau, List.getD_eq_getElem?_getD, List.getD_eq_getElem?_getD, List.getElem?_eq_none (by omega), List.getElem?_eq_none (by omega)]
theorem yha {n : Nat} {get : Nat -> Nat -> AV} (hp : zg0 (.lst 1 n get)) : zab Tryz.prog 81 [.lst 1 n get] (.arr 32 (fun j => .int .u8 (L2 std zau (std zuk (.lst 1 n get)) j))) := by
 obtain ⟨p, hpp⟩ : ∃ p, p = zyk (znq (.lst 1 n get)) := ⟨_, rfl⟩
 obtain ⟨m, hm⟩ : ∃ m, m = zod p (p.length / 64) := ⟨_, rfl⟩
 have hlen : p.length % 64 = 0 /\ 64 <= p.length := by rw [hpp]; exact ⟨(zjf _).1, (zjf _).2.1⟩
 refine za9 (T := tt) (S := fun L => zbe [zu0 L, zmt L, znw L, ztw L, ydp L, zva L]) (lo := fun L => smA L m) (lb := fun L => smB L p) 5 (fn := Tryz.f81) rfl rfl (by kernel_rfl) (by kernel_rfl) rfl zae (za7 ⟨zpl, zlq, zme, zpj, zt8, zjc, trivial⟩) (by kernel_rfl) ?_
 obtain ⟨n0, hn0⟩ : ∃ n : Nat, n = 0 := ⟨_, rfl⟩
 intro L P' Q' hL hP hQ
 obtain ⟨q0, hq0⟩ : ∃ n : Nat, n = 0 := ⟨_, rfl⟩
 (cbv; try simp only [syT, true_and, and_true])
 refine ⟨fun k hk => ?_, ?_⟩
 · obtain ⟨k', hk'⟩ : ∃ k' : Nat, k' = k + 1 := ⟨_, rfl⟩
   (cbv; try simp only [syT, true_and, and_true])
   refine ⟨?_, ⟨⟨?_, ?_⟩, ?_, fun h1 => ⟨k', ?_⟩, fun h1 => ⟨⟨q0, ?_⟩, fun q hq => ?_⟩⟩⟩
   · subst hL; exact zjs hk
   · subst hL; exact ⟨rfl, fun j hj => rfl⟩
   · subst hL; exact ybn hk
   · subst hL; exact zjs hk
   · (cbv; try simp only [syT, true_and, and_true])
     subst hL; subst hQ
     simp only [L2, std] at h1 |-
     rw [zjt hk'] at h1 |-
     rw [zja hk', zrq (zf9 _ _)]
     refine ⟨fun _ _ _ _ => trivial, fun _ _ _ _ => rfl, fun _ _ _ _ => trivial, rfl, zub hlen.1 hk' (yfs h1), ?_⟩
     have hk : 64 * (k + 1) <= p.length := hk
     show p.length - k' + 1 <= p.length - k
     omega
   · (cbv; try simp only [syT, true_and, and_true])
     subst hL; subst hQ
     simp only [L2, std] at h1 |-
     rw [zjt hk'] at h1
     rw [zja hk', zrq (zf9 _ _)]
     have hm : m = zod p k' := by rw [hm, <- ybo hk hk' (zx6 h1)]
     rw [<- hm]
     subst hq0
     refine ⟨fun _ _ _ _ => trivial, fun i j hi hj => ?_, rfl, rfl, rfl, rfl, rfl, rfl, rfl, rfl, rfl, by decide⟩
     have : j = 0 := by omega
     subst this; rfl
   · obtain ⟨q', hq'⟩ : ∃ q' : Nat, q' = q + 1 := ⟨_, rfl⟩
     have hm8 : m.length = 8 := by rw [hm]; exact zf9 _ _
     (cbv; try simp only [syT, true_and, and_true])
     refine ⟨fun h2 => ⟨?_, ?_, ?_, ?_, q', ?_⟩, fun h2 => ?_⟩
     · subst hL; exact zd5 (zad h2)
     · subst hL; exact yg0 (zad h2)
     · subst hL; exact zyn _
     · subst hL; exact zsw (zad h2)
     · (cbv; try simp only [syT, true_and, and_true])
       subst hL; subst hQ
       have h8 : q < 8 := zad h2
       have ek : (zac q).toNat = q := Int.toNat_natCast q
       simp only [L2, L3, std, ek]
       rw [zrq hm8]
       refine ⟨fun _ _ _ _ => trivial, fun i j hi hj => zym hq' h8 i, ?_, ?_, ?_⟩
       · exact zia hq' (by omega)
       · show q' <= 8
         omega
       · show 8 - q' + 1 <= 8 - q
         omega
     · subst hL; subst hQ
       have hq8 : q = 8 := by
         have : ¬ q < 8 := zd3 h2
         have : q <= 8 := hq
         omega
       subst hq8
       rw [znv]
       intro j hj
       simp only [L2, std, zuk, yli]
       rw [<- hpp, <- hm]
 · (cbv; try simp only [syT, true_and, and_true])
   refine ⟨?_, ?_, n0, ?_⟩
   · subst hL; exact hp
   · subst hL; exact hp.2.2
   · (cbv; try simp only [syT, true_and, and_true])
     subst hL; subst hQ
     refine ⟨fun _ _ _ _ => trivial, fun i j hi hj => ?_, fun _ _ _ _ => trivial, ?_, ?_⟩
     · subst hn0; rfl
     · subst hn0; exact hpp.symm
     · subst hn0
       show 64 * (0 + 1) <= p.length
       omega
theorem yh9 (hp : zg0 .nils) : zab Tryz.prog 81 [.nils] (.arr 32 (fun j => .int .u8 (L2 std zau (std zuk .nils) j))) := by
 obtain ⟨p, hpp⟩ : ∃ p, p = zyk (znq .nils) := ⟨_, rfl⟩
 obtain ⟨m, hm⟩ : ∃ m, m = zod p (p.length / 64) := ⟨_, rfl⟩
 have hlen : p.length % 64 = 0 /\ 64 <= p.length := by rw [hpp]; exact ⟨(zjf _).1, (zjf _).2.1⟩
 refine za9 (T := tt) (S := fun L => zbe [zu0 L, zmt L, znw L, ztw L, ydp L, zva L]) (lo := fun L => smA L m) (lb := fun L => smB L p) 5 (fn := Tryz.f81) rfl rfl (by kernel_rfl) (by kernel_rfl) rfl zae (za7 ⟨zpl, zlq, zme, zpj, zt8, zjc, trivial⟩) (by kernel_rfl) ?_
 obtain ⟨n0, hn0⟩ : ∃ n : Nat, n = 0 := ⟨_, rfl⟩
 intro L P' Q' hL hP hQ
 obtain ⟨q0, hq0⟩ : ∃ n : Nat, n = 0 := ⟨_, rfl⟩
 (cbv; try simp only [syT, true_and, and_true])
 refine ⟨fun k hk => ?_, ?_⟩
 · obtain ⟨k', hk'⟩ : ∃ k' : Nat, k' = k + 1 := ⟨_, rfl⟩
   (cbv; try simp only [syT, true_and, and_true])
   refine ⟨?_, ⟨⟨?_, ?_⟩, ?_, fun h1 => ⟨k', ?_⟩, fun h1 => ⟨⟨q0, ?_⟩, fun q hq => ?_⟩⟩⟩
   · subst hL; exact zjs hk
   · subst hL; exact ⟨rfl, fun j hj => rfl⟩
   · subst hL; exact ybn hk
   · subst hL; exact zjs hk
   · (cbv; try simp only [syT, true_and, and_true])
     subst hL; subst hQ
     simp only [L2, std] at h1 |-
     rw [zjt hk'] at h1 |-
     rw [zja hk', zrq (zf9 _ _)]
     refine ⟨fun _ _ _ _ => trivial, fun _ _ _ _ => rfl, fun _ _ _ _ => trivial, rfl, zub hlen.1 hk' (yfs h1), ?_⟩
     have hk : 64 * (k + 1) <= p.length := hk
     show p.length - k' + 1 <= p.length - k
     omega
   · (cbv; try simp only [syT, true_and, and_true])
     subst hL; subst hQ
     simp only [L2, std] at h1 |-
     rw [zjt hk'] at h1
     rw [zja hk', zrq (zf9 _ _)]
     have hm : m = zod p k' := by rw [hm, <- ybo hk hk' (zx6 h1)]
     rw [<- hm]
     subst hq0
     refine ⟨fun _ _ _ _ => trivial, fun i j hi hj => ?_, rfl, rfl, rfl, rfl, rfl, rfl, rfl, rfl, rfl, by decide⟩
     have : j = 0 := by omega
     subst this; rfl
   · obtain ⟨q', hq'⟩ : ∃ q' : Nat, q' = q + 1 := ⟨_, rfl⟩
     have hm8 : m.length = 8 := by rw [hm]; exact zf9 _ _
     (cbv; try simp only [syT, true_and, and_true])
     refine ⟨fun h2 => ⟨?_, ?_, ?_, ?_, q', ?_⟩, fun h2 => ?_⟩
     · subst hL; exact zd5 (zad h2)
     · subst hL; exact yg0 (zad h2)
     · subst hL; exact zyn _
     · subst hL; exact zsw (zad h2)
     · (cbv; try simp only [syT, true_and, and_true])
       subst hL; subst hQ
       have h8 : q < 8 := zad h2
       have ek : (zac q).toNat = q := Int.toNat_natCast q
       simp only [L2, L3, std, ek]
       rw [zrq hm8]
       refine ⟨fun _ _ _ _ => trivial, fun i j hi hj => zym hq' h8 i, ?_, ?_, ?_⟩
       · exact zia hq' (by omega)
       · show q' <= 8
         omega
       · show 8 - q' + 1 <= 8 - q
         omega
     · subst hL; subst hQ
       have hq8 : q = 8 := by
         have : ¬ q < 8 := zd3 h2
         have : q <= 8 := hq
         omega
       subst hq8
       rw [znv]
       intro j hj
       simp only [L2, std, zuk, yli]
       rw [<- hpp, <- hm]
 · (cbv; try simp only [syT, true_and, and_true])
   refine ⟨?_, ?_, n0, ?_⟩
   · subst hL; exact hp
   · subst hL; exact Nat.zero_le _
   · (cbv; try simp only [syT, true_and, and_true])
     subst hL; subst hQ
     refine ⟨fun _ _ _ _ => trivial, fun i j hi hj => ?_, fun _ _ _ _ => trivial, ?_, ?_⟩
     · subst hn0; rfl
     · subst hn0; exact hpp.symm
     · subst hn0
       show 64 * (0 + 1) <= p.length
       omega
theorem zm8 {x : AV} (hp : zg0 x) : x = .nils \/ ∃ n get, x = .lst 1 n get := by
 unfold zg0 at hp
 split at hp
 · exact .inr ⟨_, _, rfl⟩
 · exact .inl rfl
 · exact hp.elim
theorem zsf : zd7 Tryz.prog (ycj std) := by
 intro xs p r h hp
 dsimp only [ycj] at h |-
 split at h <;> cases h
 try simp only [L2, L3, std] at hp |-
 rename_i x
 rcases zm8 hp with rfl | ⟨n, get, rfl⟩
 · exact yh9 hp
 · exact yha hp
def zsd (L : za8) : zcu := (73, fun xs => match xs with | [x] => some (L zg0 x, .str (L zuk x)) | _ => none)
theorem zsh (x : AV) : (zuk x).length = 32 := zsg _
theorem zsc (x : AV) : bytesOf 32 (fun i => (AV.int .u8 (zau (zuk x) (0 + i))).toI) = zuk x := by
 have := zf0 (zuk x)
 rw [zsh] at this
 simp only [Nat.zero_add]
 exact this
theorem zoh : zd7 Tryz.prog (zsd std) := by
 intro xs p r h hp
 dsimp only [zsd] at h |-
 split at h <;> cases h
 try simp only [L2, L3, std] at hp |-
 rename_i x
 have hp : zg0 x := hp
 rcases zm8 hp with rfl | ⟨n, get, rfl⟩
 · refine za9 (T := tt) (S := fun L => zbe [ycj L]) (lo := noA) (lb := noA) 5 (fn := Tryz.f73) rfl rfl (by kernel_rfl) (by kernel_rfl) rfl zae (za7 ⟨zsf, trivial⟩) (by kernel_rfl) ?_
   (intro L P1 Q1 hL hP hQ; cbv; subst hL; simp only [L2, L3, std, syT]; subst hQ)
   refine ⟨hp, trivial, ⟨show 0 + 32 <= 32 by decide, fun i _ => ⟨_, rfl⟩⟩, ?_⟩
   rw [zsc, zjk]
 · refine za9 (T := tt) (S := fun L => zbe [ycj L]) (lo := noA) (lb := noA) 5 (fn := Tryz.f73) rfl rfl (by kernel_rfl) (by kernel_rfl) rfl zae (za7 ⟨zsf, trivial⟩) (by kernel_rfl) ?_
   (intro L P1 Q1 hL hP hQ; cbv; subst hL; simp only [L2, L3, std, syT]; subst hQ)
   refine ⟨hp, trivial, ⟨show 0 + 32 <= 32 by decide, fun i _ => ⟨_, rfl⟩⟩, ?_⟩
   rw [zsc, zjk]
def zvb (s : List UInt8) : List UInt8 := yli (zyk s)
theorem yck (s : List UInt8) : zuk (.lst 1 1 fun i _ => .str (ymd [s] (Nat.add 0 i))) = zvb s := by
 have e : znq (.lst 1 1 fun i _ => .str (ymd [s] (Nat.add 0 i))) = s := by
   show s ++ [] = s
   exact List.append_nil s
 rw [zuk, e, zvb]
theorem yeh (s : List UInt8) (h : s.length <= 1000000) : zg0 (.lst 1 1 fun i _ => .str (ymd [s] (Nat.add 0 i))) := by
 refine ⟨fun i _ => ⟨_, rfl⟩, by decide, ?_⟩
 show (s ++ []).length <= 1000000
 rw [List.append_nil]; exact h
theorem zjd (s : List UInt8) : (zvb s).length = 32 := zsg _
abbrev B32 (a : Int) : BitVec IntKind.u32.bits := BitVec.ofInt IntKind.u32.bits a
def n32 (b : BitVec IntKind.u32.bits) : Int := b.toNat
theorem yoq (b : BitVec IntKind.u32.bits) : IntKind.u32.wrap b.toNat = n32 b := by
 rw [yla, n32]
 have : b.toNat < 2 ^ 32 := b.isLt
 omega
theorem ym3 (a b : Int) : bor .u32 a b = n32 (B32 a ||| B32 b) := yoq _
theorem or_comm (a b : Int) : bor .u32 a b = bor .u32 b a := by
 rw [ym3, ym3, BitVec.or_comm]
def hB (p : List UInt8) (a : Int) (n : Nat) : List Int := hS (ynr p (a.toNat / 64)) (zod p (a.toNat / 64)) n
theorem yo2 : (zvb [97, 98, 99]).take 4 = [186, 120, 22, 191] := by decide +kernel
theorem zw5 : zab Tryz.prog 74 [] (.bool true) := by
 refine za9 (T := tt) (S := fun L => zbe [tru 56, zsd L, yi5 L]) (lo := noA) (lb := noA) 5 (fn := Tryz.f74) rfl rfl (by kernel_rfl) (by kernel_rfl) rfl zae (za7 ⟨zc1 zir, zoh, yda, trivial⟩) (by kernel_rfl) ?_
 (intro L P1 Q1 hL hP hQ; cbv; subst hL; simp only [L2, L3, std, syT]; subst hQ)
 have e : zuk (.lst 1 2 fun i _ => .str (ymd [[97], [98, 99]] (Nat.add 0 i))) = zvb [97, 98, 99] := rfl
 have hb : yc6 (zvb [97, 98, 99]) [186, 120, 22, 191] = true := by
   show (List.take 4 (zvb [97, 98, 99]) == [186, 120, 22, 191]) = true
   rw [yo2]; rfl
 rw [e, hb]
 refine ⟨trivial, fun _ => ⟨⟨?_, by decide, by decide⟩, ⟨?_, by decide⟩, fun _ => ⟨trivial, ?_⟩, fun h => by cases h⟩, fun h => by cases h⟩
 · intro i hi
   exact ⟨_, rfl⟩
 · rw [zjd]; decide
 · rw [zby, slen, zsh]; rfl
theorem zlt : ∀ (k n : Nat), n < 128 ^ (k + 1) -> (zdg n).length <= k + 1
 | 0, n, h => by rw [zbw (by omega)]; simp
 | k + 1, n, h => by
   by_cases h1 : n < 128
   · rw [zbw h1]; simp
   · rw [zg8 (by omega), List.length_cons]
     have := zlt k (n / 128) (by rw [Nat.div_lt_iff_lt_mul (by omega)]; rw [Nat.pow_succ] at h; exact h)
     omega
theorem zls {n : Int} (h : zef n) : (zbb n).length <= 10 := zlt 9 n.toNat (by
 have := h.2
 have := h.1
 rw [show (128 : Nat) ^ (9 + 1) = 1180591620717411303424 from by decide]
 omega)
def cb (s : List UInt8) (i : Nat) : Nat := (s.getD i 0).toNat
theorem yfb (s : List UInt8) (i : Nat) : cb s i < 256 := UInt8.toNat_lt _
def lng (s : List UInt8) : Nat -> Nat -> Nat -> Nat × Nat × Nat
 | 0, _, _ => (0, 0, 4)
 | f + 1, i, n =>
   if s.length <= i then (0, 0, 3)
   else if i = 9 /\ 1 < cb s i then (0, 0, 4)
   else if 128 <= cb s i then lng s f (i + 1) (n + cb s i % 128 * 2 ^ (7 * i))
   else if 0 < cb s i \/ i = 0 then (n + cb s i % 128 * 2 ^ (7 * i), i + 1, 0)
   else (0, 0, 4)
def zr8 (s : List UInt8) : Int := (lng s 10 0 0).1
def zr9 (s : List UInt8) : Int := (lng s 10 0 0).2.1
def zwe (s : List UInt8) : Int := (lng s 10 0 0).2.2
def zhe (s : List UInt8) (x : Nat × Nat) : Prop := x.1 <= s.length /\ x.1 <= 9 /\ x.2 < 2 ^ (7 * x.1) /\ lng s (10 - x.1) x.1 x.2 = lng s 10 0 0
theorem ykg {n m i : Nat} (hn : n < 2 ^ i) (hm : m * 2 ^ i < 2 ^ 64) (hn' : n < 2 ^ 64) : bor .u64 (n : Int) ((m * 2 ^ i : Nat) : Int) = ((n + m * 2 ^ i : Nat) : Int) := by
 have e : n ||| m * 2 ^ i = n + m * 2 ^ i := by
   have := Nat.shiftLeft_add_eq_or_of_lt hn m
   rw [Nat.shiftLeft_eq] at this
   rw [Nat.or_comm, <- this, Nat.add_comm]
 have hlt : n ||| m * 2 ^ i < 2 ^ 64 := Nat.or_lt_two_pow hn' hm
 unfold bor
 rw [show IntKind.u64.bits = 64 from rfl, BitVec.ofInt_natCast, BitVec.ofInt_natCast, BitVec.toNat_or, BitVec.toNat_ofNat, BitVec.toNat_ofNat, Nat.mod_eq_of_lt hn', Nat.mod_eq_of_lt hm, zwr, <- e]
 omega
theorem ylo {c i : Nat} (h : c * 2 ^ (7 * i) < 2 ^ 64) (hi : i <= 9) : yc3 .u64 (c : Int) (7 * (i : Int)) = ((c * 2 ^ (7 * i) : Nat) : Int) := by
 unfold yc3
 rw [show (7 * (i : Int)).toNat = 7 * i by omega, show IntKind.u64.bits = 64 from rfl, Nat.min_eq_left (by omega), zwr]
 have e : ((c : Int) * 2 ^ (7 * i)) = ((c * 2 ^ (7 * i) : Nat) : Int) := by simp
 rw [e]
 omega
theorem pow9 {i : Nat} (hi : i <= 9) : 2 ^ (7 * i) <= 2 ^ 63 := Nat.pow_le_pow_right (by decide) (by omega)
theorem znf {c i n : Nat} (hi : i <= 9) (hn : n < 2 ^ (7 * i)) (hc : c < 256) (h9 : ¬ (i = 9 /\ 1 < c)) : n + c % 128 * 2 ^ (7 * i) < 2 ^ (7 * (i + 1)) /\ n + c % 128 * 2 ^ (7 * i) < 2 ^ 64 /\ c % 128 * 2 ^ (7 * i) < 2 ^ 64 /\ n < 2 ^ 64 := by
 have h1 := pow9 hi
 have e : 2 ^ (7 * (i + 1)) = 128 * 2 ^ (7 * i) := by rw [show 7 * (i + 1) = 7 + 7 * i by omega, Nat.pow_add]
 have h2 : c % 128 * 2 ^ (7 * i) <= 127 * 2 ^ (7 * i) := Nat.mul_le_mul_right _ (by omega)
 rw [e]
 refine ⟨by omega, ?_⟩
 by_cases h : i = 9
 · subst h
   have : c <= 1 := by omega
   have h3 : c % 128 * 2 ^ (7 * 9) <= 1 * 2 ^ (7 * 9) := Nat.mul_le_mul_right _ (by omega)
   omega
 · have h3 : 2 ^ (7 * i) <= 2 ^ 56 := Nat.pow_le_pow_right (by decide) (by omega)
   omega
theorem ymm {c i n : Nat} (hi : i <= 9) (hn : n < 2 ^ (7 * i)) (hc : c < 256) (h9 : ¬ (i = 9 /\ 1 < c)) : bor .u64 (n : Int) (yc3 .u64 ((c : Int) % 128) (7 * (i : Int))) = ((n + c % 128 * 2 ^ (7 * i) : Nat) : Int) := by
 obtain ⟨_, _, h3, h4⟩ := znf hi hn hc h9
 rw [show ((c : Int) % 128) = ((c % 128 : Nat) : Int) by omega, ylo h3 hi, ykg hn h3 h4]
theorem zhd {s : List UInt8} {i n : Nat} (hx : zhe s (i, n)) : lng s 10 0 0 = if s.length <= i then (0, 0, 3)
   else if i = 9 /\ 1 < cb s i then (0, 0, 4)
   else if 128 <= cb s i then lng s (9 - i) (i + 1) (n + cb s i % 128 * 2 ^ (7 * i))
   else if 0 < cb s i \/ i = 0 then (n + cb s i % 128 * 2 ^ (7 * i), i + 1, 0)
   else (0, 0, 4) := by
 obtain ⟨h1, h2, h3, h4⟩ := hx
 rw [<- h4]
 simp only at h2 |-
 rw [show 10 - i = (9 - i) + 1 by omega, lng]
theorem ztl {s : List UInt8} {a b c : Nat} (h : lng s 10 0 0 = (a, b, c)) : (a : Int) = zr8 s /\ (b : Int) = zr9 s /\ (c : Int) = zwe s := by
 unfold zr8 zr9 zwe
 rw [h]
 exact ⟨rfl, rfl, rfl⟩
theorem ypr {s : List UInt8} {i n : Nat} (hx : zhe s (i, n)) (h : (i : Int) = (s.length : Int)) : 0 = zr8 s /\ 0 = zr9 s /\ 3 = zwe s := by
 have := zhd hx
 rw [if_pos (by omega)] at this
 exact ztl this
theorem zj7 (s : List UInt8) (i : Nat) : ((s.getD i 0).toNat : Int) % 18446744073709551616 = (cb s i : Int) := by
 have := yfb s i
 unfold cb at *
 omega
theorem ypq {s : List UInt8} {i n : Nat} (hx : zhe s (i, n)) (h : ¬ (i : Int) = (s.length : Int)) (h9 : (i : Int) = 9) (hc : 1 < ((s.getD i 0).toNat : Int) % 18446744073709551616) : 0 = zr8 s /\ 0 = zr9 s /\ 4 = zwe s := by
 have := zhd hx
 have h1 := hx.1
 rw [zj7] at hc
 simp only at h1
 rw [if_neg (by omega), if_pos ⟨by omega, by omega⟩] at this
 exact ztl this
theorem yml {s : List UInt8} {i n : Nat} (hx : zhe s (i, n)) (h9 : ¬ (i = 9 /\ 1 < cb s i)) : bor .u64 (n : Int) (yc3 .u64 ((((s.getD i 0).toNat : Int) % 18446744073709551616).tmod 128) ((7 * (i : Int) + 9223372036854775808) % 18446744073709551616 - 9223372036854775808)) = ((n + cb s i % 128 * 2 ^ (7 * i) : Nat) : Int) := by
 have h1 := hx.2.1
 have h2 := hx.2.2.1
 simp only at h1 h2
 rw [zj7, Int.tmod_eq_emod_of_nonneg (by omega), show (7 * (i : Int) + 9223372036854775808) % 18446744073709551616 - 9223372036854775808 = 7 * (i : Int) by omega]
 exact ymm h1 h2 (yfb s i) h9
theorem ypp {s : List UInt8} {i n : Nat} (hx : zhe s (i, n)) (h : ¬ (i : Int) = (s.length : Int)) (h9 : ¬ (i = 9 /\ 1 < cb s i)) (hm : 128 <= ((s.getD i 0).toNat : Int) % 18446744073709551616) : zhe s (i + 1, n + cb s i % 128 * 2 ^ (7 * i)) /\ 10 - (i + 1) + 1 <= 10 - i /\ i <= 8 := by
 have h0 := zhd hx
 have h1 := hx.2.1
 have h2 := hx.2.2.1
 have h3 := hx.1
 rw [zj7] at hm
 simp only at h1 h2 h3
 rw [if_neg (by omega), if_neg h9, if_pos (by omega)] at h0
 refine ⟨⟨?_, ?_, (znf h1 h2 (yfb s i) h9).1, ?_⟩, by omega, by omega⟩
 · simp only; omega
 · simp only; omega
 · simp only
   rw [h0]; congr 1; omega
theorem ydz {s : List UInt8} {i n : Nat} (hx : zhe s (i, n)) (h : ¬ (i : Int) = (s.length : Int)) (h9 : ¬ (i = 9 /\ 1 < cb s i)) (hm : ((s.getD i 0).toNat : Int) % 18446744073709551616 < 128) (hp : 0 < cb s i \/ i = 0) :
   bor .u64 (n : Int) (yc3 .u64 ((((s.getD i 0).toNat : Int) % 18446744073709551616).tmod 128) ((7 * (i : Int) + 9223372036854775808) % 18446744073709551616 - 9223372036854775808)) = zr8 s /\
     ((i : Int) + 1 + 9223372036854775808) % 18446744073709551616 - 9223372036854775808 = zr9 s /\ 0 = zwe s := by
 have h0 := zhd hx
 have h1 := hx.2.1
 have h3 := hx.1
 rw [zj7] at hm
 simp only at h1 h3
 rw [if_neg (by omega), if_neg h9, if_neg (by omega), if_pos hp] at h0
 obtain ⟨e1, e2, e3⟩ := ztl h0
 rw [yml hx h9]
 exact ⟨e1, by rw [<- e2]; omega, e3⟩
theorem ymn {s : List UInt8} {i n : Nat} (hx : zhe s (i, n)) (h : ¬ (i : Int) = (s.length : Int)) (h9 : ¬ (i = 9 /\ 1 < cb s i)) (hm : ((s.getD i 0).toNat : Int) % 18446744073709551616 < 128) (hp : ((s.getD i 0).toNat : Int) % 18446744073709551616 <= 0)
   (h1 : ¬ ((i : Int) + 1 + 9223372036854775808) % 18446744073709551616 - 9223372036854775808 = 1) : 0 = zr8 s /\ 0 = zr9 s /\ 4 = zwe s := by
 have h0 := zhd hx
 have h2 := hx.2.1
 have h3 := hx.1
 rw [zj7] at hm hp
 simp only at h2 h3
 rw [if_neg (by omega), if_neg h9, if_neg (by omega), if_neg (by omega)] at h0
 exact ztl h0
def lngA (L : za8) (s : List UInt8) : Nat -> St -> Option Ann := fun id st => match id with
 | 0 => some ⟨Nat × Nat, fun x => [(6, .int .i64 (L zac (L Prod.fst x))), (5, .int .u64 (L zac (L Prod.snd x)))], fun _ => [], [0], [],
     fun x => L2 L zhe s x, fun x => L (fun x : Nat × Nat => 10 - x.1) x⟩
 | _ => none
def yio (L : za8) : zcu := (65, fun xs => match xs with | [.str s] => some (True, .tup [.int .u64 (L zr8 s), .int .i64 (L zr9 s), .int .i64 (L zwe s)]) | _ => none)
theorem ydy : zd7 Tryz.prog (yio std) := by
 intro xs p r h hp
 dsimp only [yio] at h |-
 split at h <;> cases h
 try simp only [L2, L3, std] at hp |-
 rename_i s
 refine za9 (T := tt) (S := noS) (lo := noA) (lb := fun L => lngA L s) 5 (fn := Tryz.f65) rfl rfl (by kernel_rfl) (by kernel_rfl) rfl zae (zdx _) (by kernel_rfl) ?_
 intro L P' Q' hL hP hQ
 (cbv; try simp only [syT, true_and, and_true])
 refine ⟨fun x hx => ?_, ⟨(0, 0), ?_⟩⟩
 · cbv at hx
   obtain ⟨i, n⟩ := x
   (cbv; try simp only [syT, true_and, and_true])
   obtain ⟨m, hm'⟩ : ∃ m, m = n + cb s i % 128 * 2 ^ (7 * i) := ⟨_, rfl⟩
   refine ⟨fun h => ?_, fun h => ⟨?_, fun h9 => ⟨fun hc => ?_, fun hc => ⟨?_, ?_, fun hm => ⟨(i + 1, m), ?_⟩, fun hm => ⟨fun hp => ?_, fun hp => ⟨fun h1 => ?_, fun h1 => ?_⟩⟩⟩⟩,
     fun h9 => ⟨?_, ?_, fun hm => ⟨(i + 1, m), ?_⟩, fun hm => ⟨fun hp => ?_, fun hp => ⟨fun h1 => ?_, fun h1 => ?_⟩⟩⟩⟩⟩
   · (subst hL; subst hQ; simp only [L2, L3, std] at *; try simp only [syS, reduceCtorEq, Int.reduceToNat, Int.reduceAdd, Int.reduceSub] at *)
     exact ypr hx h
   · (subst hL; subst hQ; simp only [L2, L3, std] at *; try simp only [syS, reduceCtorEq, Int.reduceToNat, Int.reduceAdd, Int.reduceSub] at *)
     have := hx.1
     simp only at this
     omega
   · (subst hL; subst hQ; simp only [L2, L3, std] at *; try simp only [syS, reduceCtorEq, Int.reduceToNat, Int.reduceAdd, Int.reduceSub] at *)
     exact ypq hx h h9 hc
   · (subst hL; subst hQ; simp only [L2, L3, std] at *; try simp only [syS, reduceCtorEq, Int.reduceToNat, Int.reduceAdd, Int.reduceSub] at *)
     decide
   · (subst hL; subst hQ; simp only [L2, L3, std] at *; try simp only [syS, reduceCtorEq, Int.reduceToNat, Int.reduceAdd, Int.reduceSub] at *)
     have := hx.2.1
     simp only at this
     rw [Int.emod_eq_of_lt (by omega) (by omega)]
     omega
   · (cbv; try simp only [syT, true_and, and_true])
     (subst hL; subst hQ; simp only [L2, L3, std] at *; try simp only [syS, reduceCtorEq, Int.reduceToNat, Int.reduceAdd, Int.reduceSub] at *)
     rw [zj7] at hc
     exact absurd hm (by rw [zj7]; omega)
   · (subst hL; subst hQ; simp only [L2, L3, std] at *; try simp only [syS, reduceCtorEq, Int.reduceToNat, Int.reduceAdd, Int.reduceSub] at *)
     rw [zj7] at hc
     exact ydz hx h (by omega) hm (by rw [zj7] at hp; omega)
   · (subst hL; subst hQ; simp only [L2, L3, std] at *; try simp only [syS, reduceCtorEq, Int.reduceToNat, Int.reduceAdd, Int.reduceSub] at *)
     rw [zj7] at hc
     have := hx.2.1
     simp only at this
     exact ydz hx h (by omega) hm (by omega)
   · (subst hL; subst hQ; simp only [L2, L3, std] at *; try simp only [syS, reduceCtorEq, Int.reduceToNat, Int.reduceAdd, Int.reduceSub] at *)
     rw [zj7] at hc
     exact ymn hx h (by omega) hm hp h1
   · (subst hL; subst hQ; simp only [L2, L3, std] at *; try simp only [syS, reduceCtorEq, Int.reduceToNat, Int.reduceAdd, Int.reduceSub] at *)
     decide
   · (subst hL; subst hQ; simp only [L2, L3, std] at *; try simp only [syS, reduceCtorEq, Int.reduceToNat, Int.reduceAdd, Int.reduceSub] at *)
     have := hx.2.1
     simp only at this
     rw [Int.emod_eq_of_lt (by omega) (by omega)]
     omega
   · (cbv; try simp only [syT, true_and, and_true])
     (subst hL; subst hQ; simp only [L2, L3, std] at *; try simp only [syS, reduceCtorEq, Int.reduceToNat, Int.reduceAdd, Int.reduceSub] at *)
     obtain ⟨q1, q2, q3⟩ := ypp hx h (by omega) hm
     rw [yml hx (by omega), hm']
     exact ⟨rfl, by omega, q1, q2⟩
   · (subst hL; subst hQ; simp only [L2, L3, std] at *; try simp only [syS, reduceCtorEq, Int.reduceToNat, Int.reduceAdd, Int.reduceSub] at *)
     exact ydz hx h (by omega) hm (by rw [zj7] at hp; omega)
   · (subst hL; subst hQ; simp only [L2, L3, std] at *; try simp only [syS, reduceCtorEq, Int.reduceToNat, Int.reduceAdd, Int.reduceSub] at *)
     have := hx.2.1
     simp only at this
     exact ydz hx h (by omega) hm (by omega)
   · (subst hL; subst hQ; simp only [L2, L3, std] at *; try simp only [syS, reduceCtorEq, Int.reduceToNat, Int.reduceAdd, Int.reduceSub] at *)
     exact ymn hx h (by omega) hm hp h1
 · (cbv; try simp only [syT, true_and, and_true])
   (subst hL; subst hQ; simp only [L2, L3, std] at *; try simp only [syS, reduceCtorEq, Int.reduceToNat, Int.reduceAdd, Int.reduceSub] at *)
   exact ⟨Nat.zero_le _, by omega, by simp, rfl⟩
theorem ynn (p : List UInt8) (c : UInt8) (r : List UInt8) : cb (p ++ c :: r) p.length = c.toNat := by
 unfold cb
 rw [List.getD_eq_getElem?_getD, List.getElem?_append_right (Nat.le_refl _), Nat.sub_self]
 rfl
theorem zp9 (r : List UInt8) : ∀ (f m n0 : Nat) (p : List UInt8), f + p.length = 10 -> m * 2 ^ (7 * p.length) < 2 ^ 64 -> (0 < m \/ p.length = 0) ->
   lng (p ++ (zdg m ++ r)) f p.length n0 = (n0 + m * 2 ^ (7 * p.length), p.length + (zdg m).length, 0)
 | 0, m, n0, p, hf, hm, h0 => by
   have : p.length = 10 := by omega
   rw [this] at hm h0
   have : 2 ^ (7 * 10) <= m * 2 ^ (7 * 10) := Nat.le_mul_of_pos_left _ (by omega)
   omega
 | f + 1, m, n0, p, hf, hm, h0 => by
   by_cases hb : 128 <= m
   · rw [zg8 hb]
     have hc : cb (p ++ (UInt8.ofNat (m % 128 + 128) :: zdg (m / 128) ++ r)) p.length = m % 128 + 128 := by
       rw [List.cons_append, ynn]
       simp; omega
     have h9 : p.length ≠ 9 := by
       intro h
       rw [h] at hm
       have : 128 * 2 ^ (7 * 9) <= m * 2 ^ (7 * 9) := Nat.mul_le_mul_right _ hb
       omega
     rw [lng, if_neg (by simp), hc, if_neg (by omega), if_pos (by omega)]
     have e : p ++ (UInt8.ofNat (m % 128 + 128) :: zdg (m / 128) ++ r) = (p ++ [UInt8.ofNat (m % 128 + 128)]) ++ (zdg (m / 128) ++ r) := by simp
     have hl : (p ++ [UInt8.ofNat (m % 128 + 128)]).length = p.length + 1 := by simp
     have hp : 2 ^ (7 * (p.length + 1)) = 128 * 2 ^ (7 * p.length) := by rw [show 7 * (p.length + 1) = 7 + 7 * p.length by omega, Nat.pow_add]
     have hd : m / 128 * (128 * 2 ^ (7 * p.length)) + m % 128 * 2 ^ (7 * p.length) = m * 2 ^ (7 * p.length) := by
       rw [<- Nat.mul_assoc, <- Nat.add_mul]
       congr 1; omega
     have ih := zp9 r f (m / 128) (n0 + (m % 128 + 128) % 128 * 2 ^ (7 * p.length)) (p ++ [UInt8.ofNat (m % 128 + 128)]) (by rw [hl]; omega) (by rw [hl, hp]; omega) (.inl (by omega))
     rw [hl] at ih
     rw [e, ih, hp, List.length_cons, show (m % 128 + 128) % 128 = m % 128 by omega]
     refine Prod.ext ?_ (Prod.ext ?_ rfl)
     · show n0 + m % 128 * 2 ^ (7 * p.length) + m / 128 * (128 * 2 ^ (7 * p.length)) = n0 + m * 2 ^ (7 * p.length)
       omega
     · show p.length + 1 + _ = p.length + (_ + 1)
       omega
   · rw [zbw (by omega)]
     have hc : cb (p ++ ([UInt8.ofNat m] ++ r)) p.length = m := by
       rw [List.singleton_append, ynn]
       simp; omega
     have h9 : ¬ (p.length = 9 /\ 1 < m) := by
       rintro ⟨h, h1⟩
       rw [h] at hm
       have : 2 * 2 ^ (7 * 9) <= m * 2 ^ (7 * 9) := Nat.mul_le_mul_right _ h1
       omega
     rw [lng, if_neg (by simp), hc, if_neg h9, if_neg (by omega), if_pos h0, Nat.mod_eq_of_lt (by omega)]
     rfl
theorem ygd {m : Int} (h : zef m) (r : List UInt8) : zr8 (zbb m ++ r) = m /\ zr9 (zbb m ++ r) = ((zbb m).length : Int) /\ zwe (zbb m ++ r) = 0 := by
 have h0 := h.1
 have h1 := h.2
 have := zp9 r 10 m.toNat 0 [] rfl (by simp; omega) (.inr rfl)
 simp only [List.nil_append, List.length_nil, Nat.zero_add, Nat.mul_zero, Nat.pow_zero, Nat.mul_one] at this
 unfold zr8 zr9 zwe zbb
 rw [this]
 refine ⟨?_, rfl, rfl⟩
 show ((m.toNat : Nat) : Int) = m
 omega
theorem ztm {s : List UInt8} : ∀ (f i n : Nat), f + i = 10 -> n < 2 ^ (7 * i) -> i <= s.length -> (lng s f i n).2.1 <= 10 /\ ((lng s f i n).2.2 = 0 -> 1 <= (lng s f i n).2.1 /\ (lng s f i n).2.1 <= s.length /\ (lng s f i n).1 < 2 ^ 64)
 | 0, i, n, hf, hn, hi => by simp [lng]
 | f + 1, i, n, hf, hn, hi => by
   rw [lng]
   by_cases h1 : s.length <= i
   · rw [if_pos h1]; simp
   · rw [if_neg h1]
     by_cases h2 : i = 9 /\ 1 < cb s i
     · rw [if_pos h2]; simp
     · rw [if_neg h2]
       have hb := znf (by omega) hn (yfb s i) h2
       by_cases h3 : 128 <= cb s i
       · rw [if_pos h3]
         by_cases h9 : i = 9
         · omega
         · exact ztm f (i + 1) _ (by omega) hb.1 (by omega)
       · rw [if_neg h3]
         by_cases h4 : 0 < cb s i \/ i = 0
         · rw [if_pos h4]
           exact ⟨by show i + 1 <= 10; omega, fun _ => ⟨by show 1 <= i + 1; omega, by show i + 1 <= s.length; omega, hb.2.1⟩⟩
         · rw [if_neg h4]; simp
theorem yin {s : List UInt8} (h : zwe s = 0) : 1 <= zr9 s /\ zr9 s <= (s.length : Int) /\ 0 <= zr8 s /\ zr8 s < 18446744073709551616 := by
 have := (ztm (s := s) 10 0 0 rfl (by simp) (Nat.zero_le _)).2
 unfold zwe at h
 unfold zr9 zr8
 have := this (by omega)
 omega
def cpT (a b : List UInt8) : List UInt8 := if yc6 a b = true then a.drop b.length else a
def yjy (L : za8) : zcu := (80, fun xs => match xs with | [.str a, .str b] => some (L2 L zyf a b, .tup [.str (L2 L cpT a b), .bool (L2 L yc6 a b)]) | _ => none)
def yqe (L : za8) : zcu := (72, fun xs => match xs with | [.str a, .str b] => some (L2 L zyf a b, .tup [.str (L2 L cpT a b), .bool (L2 L yc6 a b)]) | _ => none)
theorem zye {a b : List UInt8} (h : yc6 a b = true) : b.length <= a.length := by
 have h : a.take b.length = b := by simpa [yc6] using h
 have := congrArg List.length h
 simp at this
 omega
theorem yf8 : zd7 Tryz.prog (yjy std) := by
 intro xs p r h hp
 dsimp only [yjy] at h |-
 split at h <;> cases h
 try simp only [L2, L3, std] at hp |-
 rename_i a b
 obtain ⟨p1, p2⟩ : zyf a b := hp
 refine za9 (T := tt) (S := fun L => zbe [zsr L]) (lo := noA) (lb := noA) 5 (fn := Tryz.f80) rfl rfl (by kernel_rfl) (by kernel_rfl) rfl zae (za7 ⟨zou, trivial⟩) (by kernel_rfl) ?_
 (intro L P1 Q1 hL hP hQ; cbv; subst hL; simp only [L2, L3, std, syT]; subst hQ)
 (simp only [syS, reduceCtorEq, Int.reduceToNat, Int.reduceAdd, Int.reduceSub])
 refine ⟨⟨p1, p2⟩, fun h => ⟨(if_neg (by rw [h]; decide)).symm, h.symm⟩, fun h => ⟨⟨by omega, ?_⟩, (if_pos h).symm, h.symm⟩⟩
 have := zye h
 omega
theorem yjx : zd7 Tryz.prog (yqe std) := by
 intro xs p r h hp
 dsimp only [yqe] at h |-
 split at h <;> cases h
 try simp only [L2, L3, std] at hp |-
 rename_i a b
 refine za9 (T := tt) (S := fun L => zbe [yjy L]) (lo := noA) (lb := noA) 5 (fn := Tryz.f72) rfl rfl (by kernel_rfl) (by kernel_rfl) rfl zae (za7 ⟨yf8, trivial⟩) (by kernel_rfl) ?_
 (intro L P1 Q1 hL hP hQ; cbv; subst hL; simp only [L2, L3, std, syT]; subst hQ)
 (simp only [syS, reduceCtorEq, Int.reduceToNat, Int.reduceAdd, Int.reduceSub])
 exact hp
def slH (t : List UInt8) : List UInt8 := yc5 (yc5 [79, 84] (zbb (t.length : Int))) t
def slT (t : List UInt8) : List UInt8 := slH t ++ (zvb (slH t)).take 16
def slS (s t : List UInt8) : Bool := slT t == s
def opT (s : List UInt8) : List UInt8 := (s.drop (2 + (zr9 (s.drop 2)).toNat)).take (zr8 (s.drop 2)).toNat
def opB (s : List UInt8) : Bool := slS s (opT s)
def opV (s : List UInt8) : List UInt8 := if opB s = true then opT s else []
def opE (s : List UInt8) : Int := if opB s = true then 0 else 23
theorem zyc (s : List UInt8) : ((zvb s).take 16).length = 16 := by rw [List.length_take, zjd]; rfl
theorem zf8 (t : List UInt8) (h : t.length <= 1000000) : zef (t.length : Int) := ⟨by omega, by omega⟩
theorem zx4 (t : List UInt8) : (slH t).length = 2 + (zbb (t.length : Int)).length + t.length := by simp [slH, yc5]; omega
theorem zx3 (t : List UInt8) : (slT t).length = 2 + (zbb (t.length : Int)).length + t.length + 16 := by rw [slT, List.length_append, zx4, zyc]
theorem zmw (t : List UInt8) : (slT t).drop 2 = zbb (t.length : Int) ++ (t ++ (zvb (slH t)).take 16) := by simp [slT, slH, yc5]
theorem ym4 (t : List UInt8) (h : t.length <= 1000000) : opT (slT t) = t := by
 obtain ⟨e1, e2, e3⟩ := ygd (zf8 t h) (t ++ (zvb (slH t)).take 16)
 rw [opT, zmw, e1, e2]
 have e : (slT t).drop (2 + ((zbb (t.length : Int)).length : Int).toNat) = t ++ (zvb (slH t)).take 16 := by
   rw [<- List.drop_drop, zmw, Int.toNat_natCast, List.drop_left]
 rw [e, Int.toNat_natCast, List.take_left]
theorem yg2 (t : List UInt8) (h : t.length <= 1000000) : opB (slT t) = true := by
 rw [opB, ym4 t h, slS]; simp
theorem zyr {s : List UInt8} (h : opB s = true) : slT (opT s) = s := by simpa [opB, slS] using h
theorem ym5 (t : List UInt8) (h : t.length <= 1000000) : opV (slT t) = t := by rw [opV, if_pos (yg2 t h), ym4 t h]
theorem ym6 (t : List UInt8) (h : t.length <= 1000000) : opE (slT t) = 0 := by rw [opE, if_pos (yg2 t h)]
def zsj (L : za8) : zcu := (58, fun xs => match xs with | [.str t] => some (L2 L upto 100000 t, .str (L slT t)) | _ => none)
theorem zoj : zd7 Tryz.prog (zsj std) := by
 intro xs p r h hp
 dsimp only [zsj] at h |-
 split at h <;> cases h
 try simp only [L2, L3, std] at hp |-
 rename_i t
 have hl : t.length <= 100000 := hp
 refine za9 (T := tt) (S := fun L => zbe [zi3 L, zsd L]) (lo := noA) (lb := noA) 5 (fn := Tryz.f58) rfl rfl (by kernel_rfl) (by kernel_rfl) rfl zae (za7 ⟨zg7, zoh, trivial⟩) (by kernel_rfl) ?_
 (intro L P1 Q1 hL hP hQ; cbv; subst hL; simp only [L2, L3, std, syT]; subst hQ)
 have hk := zf8 t (by omega)
 have hz := zls hk
 have e1 : IntKind.u64.wrap (slen t) = (t.length : Int) := by rw [zwr, slen]; omega
 rw [e1, yck]
 have hs := zx4 t
 have e2 : yc5 (yc5 [79, 84] (zbb (t.length : Int))) t = slH t := rfl
 rw [e2]
 refine ⟨hk, ?_, ?_, yeh _ (by omega), ?_, ?_, ?_⟩
 · rw [zo4, List.length_cons, List.length_cons, List.length_nil]; omega
 · rw [zo4, yc5, List.length_append, List.length_cons, List.length_cons, List.length_nil]; omega
 · rw [yj5, slen, zjd]; decide
 · rw [zo4, List.length_take, zjd]; omega
 · rw [zjk]; rfl
def zyo (L : za8) : zcu := (57, fun xs => match xs with | [.str s] => some (L2 L upto 100000 s, .tup [.str (L opV s), .int .i64 (L opE s)]) | _ => none)
theorem yg1 (s : List UInt8) : (opT s).length <= s.length := by
 rw [opT, List.length_take, List.length_drop]; omega
theorem zr2 {s : List UInt8} (h : opB s = true) (hs : s.length <= 1000000) : yc6 s [79, 84] = true /\ zwe (s.drop 2) = 0 /\ zr8 (s.drop 2) = ((opT s).length : Int) /\ zr9 (s.drop 2) = ((zbb ((opT s).length : Int)).length : Int) /\ s.length = 2 + (zbb ((opT s).length : Int)).length + (opT s).length + 16 := by
 have hl := yg1 s
 obtain ⟨e1, e2, e3⟩ := ygd (zf8 (opT s) (by omega)) (opT s ++ (zvb (slH (opT s))).take 16)
 rw [<- zmw, zyr h] at e1 e2 e3
 have hn := zx3 (opT s)
 rw [zyr h] at hn
 refine ⟨?_, e3, e1, e2, hn⟩
 rw [<- zyr h]
 rfl
theorem ym7 {s : List UInt8} (h : ¬ slT (opT s) = s) : opB s = false := by
 unfold opB slS
 simpa using h
theorem yde {s : List UInt8} (h : opB s = false) : [] = opV s /\ 23 = opE s := by
 rw [opV, opE, if_neg (by rw [h]; decide), if_neg (by rw [h]; decide)]
 exact ⟨rfl, rfl⟩
theorem zyp : zd7 Tryz.prog (zyo std) := by
 intro xs p r h hp
 dsimp only [zyo] at h |-
 split at h <;> cases h
 try simp only [L2, L3, std] at hp |-
 rename_i s
 have hl : s.length <= 100000 := hp
 refine za9 (T := tt) (S := fun L => zbe [yqe L, yio L, zsj L]) (lo := noA) (lb := noA) 5 (fn := Tryz.f57) rfl rfl (by kernel_rfl) (by kernel_rfl) rfl zae (za7 ⟨yjx, ydy, zoj, trivial⟩) (by kernel_rfl) ?_
 (intro L P1 Q1 hL hP hQ; cbv; subst hL; simp only [L2, L3, std, syT]; subst hQ)
 (simp only [syS, reduceCtorEq, Int.reduceToNat, Int.reduceAdd, Int.reduceSub])
 refine ⟨⟨by omega, by decide⟩, fun hpre => yde (by
   cases h : opB s with
   | false => rfl
   | true => rw [(zr2 h (by omega)).1] at hpre; cases hpre), fun hpre => ?_⟩
 have hr : cpT s [79, 84] = s.drop 2 := if_pos hpre
 have hlen := zye hpre
 have hlen : 2 <= s.length := hlen
 rw [hr]
 have hdl : (s.drop 2).length = s.length - 2 := List.length_drop
 refine ⟨fun he => yde (by
   cases h : opB s with
   | false => rfl
   | true => exact absurd (zr2 h (by omega)).2.1 he), fun he => ⟨fun hn => yde (by
   cases h : opB s with
   | false => rfl
   | true =>
     obtain ⟨_, _, h1, h2, h3⟩ := zr2 h (by omega)
     exfalso
     apply hn
     rw [h1, h2, hdl]
     omega), fun hn => ?_⟩⟩
 obtain ⟨k1, k2, n1, n2⟩ := yin he
 rw [hdl] at hn k2 |-
 generalize hK : zr9 (s.drop 2) = K at hn k1 k2 |-
 generalize hN : zr8 (s.drop 2) = N at hn n1 n2 |-
 have eN : (K + ((N + 9223372036854775808) % 18446744073709551616 - 9223372036854775808) + 9223372036854775808) % 18446744073709551616 - 9223372036854775808 = K + N := by omega
 rw [eN]
 have et : List.drop K.toNat (List.take (K + N).toNat (s.drop 2)) = opT s := by
   rw [opT, hK, hN, <- List.drop_drop, List.drop_take]
   congr 1; omega
 rw [et]
 have := yg1 s
 refine ⟨⟨by omega, by omega, by omega⟩, (show (opT s).length <= 100000 by omega), fun h => ?_, fun h => yde (ym7 h)⟩
 have hb : opB s = true := by rw [opB, slS, h]; simp
 rw [opV, opE, if_pos hb, if_pos hb]
 exact ⟨rfl, rfl⟩
def yjj : zcu := (61, fun xs => match xs with | [] => some (True, .int .i64 4) | _ => none)
theorem yew : zd7 Tryz.prog yjj := by
 intro xs p r h hp
 dsimp only [yjj] at h |-
 split at h <;> cases h
 try simp only [L2, L3, std] at hp |-
 refine za9 (T := tt) (S := noS) (lo := noA) (lb := noA) 5 (fn := Tryz.f61) rfl rfl (by kernel_rfl) (by kernel_rfl) rfl zae (zdx _) (by kernel_rfl) ?_
 (intro L P1 Q1 hL hP hQ; cbv; subst hL; simp only [L2, L3, std, syT]; subst hQ)
 (simp only [syS, reduceCtorEq, Int.reduceToNat, Int.reduceAdd, Int.reduceSub])
inductive DkS where
 | a (k : Int)
 | b (k : Int) (x s : List UInt8)
 | c (k : Int) (x s : List UInt8)
 | d (k : Int) (x s y t : List UInt8)
def nmA : List UInt8 := [97]
def nmB : List UInt8 := [98]
def zcm (x s : List UInt8) : Ob := .box 156 [.str x, .str s]
def ydb (key : List UInt8) : Ob := .row 159 4 1 (fun _ j => zc3 .dead [.int .i64 1, .str [], .str key, .dead] j)
def zu8 (n s : Nat) (pend : AV) (k : Int) : Ob := .box 152 [.int .i64 100, .mp n, .mp s, pend, .int .i64 k, .int .i64 (-1), .bool false]
def zrs (pend : AV) (k : Int) : Ob := zu8 500001 500002 pend k
def dkO (p : Nat) : DkS -> List (Nat × Ob)
 | .a k => [(500000, zrs .nils k), (500001, .mapl .s []), (500002, .mapl .s [])]
 | .b k x s => [(500000, zrs (.sl p 4 0 1) k), (500001, .mapl .s [(.s nmA, .ref 500003 0)]), (500002, .mapl .s []), (500003, zcm x s), (p, ydb nmA)]
 | .c k x s => [(500000, zrs .nils k), (500001, .mapl .s [(.s nmA, .ref 500003 0)]), (500002, .mapl .s [(.s nmA, .ref 500003 0)]), (500003, zcm x s)]
 | .d k x s y t => [(500000, zrs (.sl p 4 0 1) k), (500001, .mapl .s [(.s nmA, .ref 500003 0), (.s nmB, .ref 500004 0)]), (500002, .mapl .s [(.s nmA, .ref 500003 0)]), (500003, zcm x s), (500004, zcm y t), (p, ydb nmB)]
def zba : Option Ob -> List UInt8 × List UInt8
 | some (.box _ [.str x, .str s]) => (x, s)
 | _ => ([], [])
def yap (ob : Nat -> Option Ob) (id : Nat) : Option DkS := match ob id with
 | some (.box _ [_, .mp n, _, .nils, .int _ k, _, _]) => match ob n with
   | some (.mapl _ []) => some (.a k)
   | some (.mapl _ [(_, .ref i _)]) => some (.c k (zba (ob i)).1 (zba (ob i)).2)
   | _ => none
 | some (.box _ [_, .mp n, _, .sl _ _ _ _, .int _ k, _, _]) => match ob n with
   | some (.mapl _ [(_, .ref i _)]) => some (.b k (zba (ob i)).1 (zba (ob i)).2)
   | some (.mapl _ [(_, .ref i _), (_, .ref j _)]) => some (.d k (zba (ob i)).1 (zba (ob i)).2 (zba (ob j)).1 (zba (ob j)).2)
   | _ => none
 | _ => none
def inc (k : Int) : Int := k + 1
def DkS.up (L : za8) : DkS -> DkS
 | .a k => .a (L inc k)
 | .b k x s => .b (L inc k) x s
 | .c k x s => .c (L inc k) x s
 | .d k x s y t => .d (L inc k) x s y t
def DkS.k : DkS -> Int
 | .a k => k
 | .b k _ _ => k
 | .c k _ _ => k
 | .d k _ _ _ _ => k
def zcd (k : Int) : Prop := 0 <= k /\ k <= 1000
theorem ycd {k : Int} (h : zcd k) : zc6 .i64 k 1 = inc k := by
 obtain ⟨h0, h1⟩ := h
 unfold zc6 inc
 rw [zdi]
 omega
def yi9 : zfq := (98, fun raw ob => match raw with
 | [.ref id 0] => match yap ob id with
   | some sh => some ⟨[.ref 500000 0], dkO 500005 sh, True, .int .i64 0, dkO 500005 sh⟩
   | _ => none
 | _ => none)
theorem ypl (sh : DkS) : zaq Tryz.prog 98 [.ref 500000 0] (dkO 500005 sh) (.int .i64 0) (dkO 500005 sh) := by
 cases sh <;>
 · refine zak (T := tt) (S := fun L => zb3 [] []) (lo := noA) (lb := noA) 8 (fn := Tryz.f98) (xs := fun L => [.ref 500000 0]) (rts := fun _ => [.int .i64 0]) (O := fun L => dkO 500005 _) (O1 := fun L => dkO 500005 _)
     rfl rfl (by kernel_rfl) (by kernel_rfl) (by kernel_rfl) zae (zaa trivial trivial) (by kernel_rfl) ?_
   intro L P' Q' hL hP hQ
   (cbv; try simp only [syT, true_and, and_true])
   subst hL
   simp [std]
theorem zkc : zcb Tryz.prog yi9 := by
 intro raw ob T hT hp
 unfold yi9 at hT
 simp only at hT
 repeat' split at hT
 all_goals first | (cases hT; done) | (cases hT; exact ypl _)
def zim (L : za8) : zfq := (101, fun raw ob => match raw with
 | [.ref id 0] => match yap ob id with
   | some sh => some ⟨[.ref 500000 0], dkO 500005 sh, L zcd sh.k, .int .i64 0, dkO 500005 (sh.up L)⟩
   | _ => none
 | _ => none)
theorem yhc (sh : DkS) (hk : zcd sh.k) : zaq Tryz.prog 101 [.ref 500000 0] (dkO 500005 sh) (.int .i64 0) (dkO 500005 (sh.up std)) := by
 cases sh <;>
 · refine zak (T := tt) (S := fun L => zb3 [] []) (lo := noA) (lb := noA) 8 (fn := Tryz.f101) (xs := fun L => [.ref 500000 0]) (rts := fun _ => [.int .i64 0]) (O := fun L => dkO 500005 _) (O1 := fun L => dkO 500005 (DkS.up L _))
     rfl rfl (by kernel_rfl) (by kernel_rfl) (by kernel_rfl) zae (zaa trivial trivial) (by kernel_rfl) ?_
   intro L P' Q' hL hP hQ
   (cbv; try simp only [syT, true_and, and_true])
   subst hL
   simp only [DkS.k] at hk
   have e0 : ieq (-1) 0 = false := by decide
   have e1 : ilt 0 (-1) = false := by decide
   simp [std, e0, e1, ycd hk]
theorem zgi : zcb Tryz.prog (zim std) := by
 intro raw ob T hT hp
 unfold zim at hT
 simp only at hT
 repeat' split at hT
 all_goals first | (cases hT; done) | (cases hT; exact yhc _ hp)
def yqb (L : za8) : List (Nat × Ob) := [(14, zu8 11 12 .nils 0), (11, .mapl .s []), (12, .mapl .s [])]
def yie (L : za8) : zfq := (83, fun raw ob => match raw with
 | [.int .i64 n] => some ⟨[.int .i64 100], [], True, .tup [.ref 14 0, .int .i64 0], yqb L⟩
 | _ => none)
theorem yme : zaq Tryz.prog 83 [.int .i64 100] [] (.tup [.ref 14 0, .int .i64 0]) (yqb std) := by
 refine zak (T := tt) (S := fun L => zb3 [] []) (lo := noA) (lb := noA) 8 (fn := Tryz.f83) (xs := fun L => [.int .i64 100]) (rts := fun _ => [.ref 14 0, .int .i64 0]) (O := fun L => []) (O1 := fun L => yqb L)
     rfl rfl (by kernel_rfl) (by kernel_rfl) (by kernel_rfl) zae (zaa trivial trivial) (by kernel_rfl) ?_
 intro L P' Q' hL hP hQ
 (cbv; try simp only [syT, true_and, and_true])
 subst hL
 have e0 : ilt 100 0 = false := by decide
 have e1 : ilt 65536 100 = false := by decide
 simp [std, e0, e1]
theorem ydk : zcb Tryz.prog (yie std) := by
 intro raw ob T hT hp
 unfold yie at hT
 simp only at hT
 repeat' split at hT
 all_goals first | (cases hT; done) | (cases hT; exact yme)
def zmu : zfq := (104, fun raw ob => match raw with
 | [.ref id 0, .str key] => match yap ob id with
   | some (.a _) => none
   | some sh => some ⟨[.ref 500000 0, .str nmA], dkO 500005 sh, True, .tup [.ref 500003 0, .int .i64 0], dkO 500005 sh⟩
   | _ => none
 | _ => none)
def DkS.some : DkS -> Prop
 | .a _ => False
 | _ => True
theorem yci (sh : DkS) (hs : sh.some) : zaq Tryz.prog 104 [.ref 500000 0, .str nmA] (dkO 500005 sh) (.tup [.ref 500003 0, .int .i64 0]) (dkO 500005 sh) := by
 cases sh
 case a => exact hs.elim
 all_goals
   refine zak (T := tt) (S := fun L => zb3 [] [yi9]) (lo := noA) (lb := noA) 8 (fn := Tryz.f104) (xs := fun L => [.ref 500000 0, .str nmA]) (rts := fun _ => [.ref 500003 0, .int .i64 0]) (O := fun L => dkO 500005 _) (O1 := fun L => dkO 500005 _)
     rfl rfl (by kernel_rfl) (by kernel_rfl) (by kernel_rfl) zae (zaa trivial ⟨zkc, trivial⟩) (by kernel_rfl) ?_
   intro L P' Q' hL hP hQ
   (cbv; try simp only [syT, true_and, and_true])
   subst hL
   have e0 : ine 0 0 = false := by decide
   simp [std, e0]
theorem zlr : zcb Tryz.prog zmu := by
 intro raw ob T hT hp
 unfold zmu at hT
 simp only at hT
 repeat' split at hT
 all_goals first | (cases hT; done) | skip
 rename_i sh h1 h2
 cases hT
 refine yci sh ?_
 cases sh
 · exact absurd rfl (h1 _)
 all_goals trivial
def zuj : AV := .agg [.int .i64 1, .str [], .str nmA, .ref 500003 0]
def zui : AV := .agg [.int .i64 1, .str [], .str nmB, .ref 500004 0]
def do0 (x s : List UInt8) : List (Nat × Ob) := [(500001, .mapl .s []), (500003, zcm x s)]
def do1 (x s : List UInt8) : List (Nat × Ob) := [(500001, .mapl .s [(.s nmA, .ref 500003 0)]), (500003, zcm x s)]
def do2 (x s y t : List UInt8) : List (Nat × Ob) := [(500001, .mapl .s [(.s nmA, .ref 500003 0)]), (500003, zcm x s), (500004, zcm y t)]
def do3 (x s y t : List UInt8) : List (Nat × Ob) := [(500001, .mapl .s [(.s nmA, .ref 500003 0), (.s nmB, .ref 500004 0)]), (500003, zcm x s), (500004, zcm y t)]
def ynf : zfq := (106, fun raw ob => match raw with
 | [.mp n, .agg [_, _, _, .ref i _]] => match ob n with
   | some (.mapl _ []) => some ⟨[.mp 500001, zuj], do0 (zba (ob i)).1 (zba (ob i)).2, True, .tup [], do1 (zba (ob i)).1 (zba (ob i)).2⟩
   | some (.mapl _ [(_, .ref j _)]) => some ⟨[.mp 500001, zui], do2 (zba (ob j)).1 (zba (ob j)).2 (zba (ob i)).1 (zba (ob i)).2, True, .tup [], do3 (zba (ob j)).1 (zba (ob j)).2 (zba (ob i)).1 (zba (ob i)).2⟩
   | _ => none
 | _ => none)
theorem do_a (x s : List UInt8) : zaq Tryz.prog 106 [.mp 500001, zuj] (do0 x s) (.tup []) (do1 x s) := by
 refine zak (T := tt) (S := fun L => zb3 [] []) (lo := noA) (lb := noA) 8 (fn := Tryz.f106) (xs := fun L => [.mp 500001, zuj]) (rts := fun _ => []) (O := fun L => do0 x s) (O1 := fun L => do1 x s)
   rfl rfl (by kernel_rfl) (by kernel_rfl) (by kernel_rfl) zae (zaa trivial trivial) (by kernel_rfl) ?_
 intro L P' Q' hL hP hQ
 (cbv; try simp only [syT, true_and, and_true])
 subst hL
 have e0 : ieq 1 1 = true := by decide
 simp [std, e0]
theorem do_b (x s y t : List UInt8) : zaq Tryz.prog 106 [.mp 500001, zui] (do2 x s y t) (.tup []) (do3 x s y t) := by
 refine zak (T := tt) (S := fun L => zb3 [] []) (lo := noA) (lb := noA) 8 (fn := Tryz.f106) (xs := fun L => [.mp 500001, zui]) (rts := fun _ => []) (O := fun L => do2 x s y t) (O1 := fun L => do3 x s y t)
   rfl rfl (by kernel_rfl) (by kernel_rfl) (by kernel_rfl) zae (zaa trivial trivial) (by kernel_rfl) ?_
 intro L P' Q' hL hP hQ
 (cbv; try simp only [syT, true_and, and_true])
 subst hL
 have e0 : ieq 1 1 = true := by decide
 simp [std, e0]
theorem zrr : zcb Tryz.prog ynf := by
 intro raw ob T hT hp
 unfold ynf at hT
 simp only at hT
 repeat' split at hT
 all_goals first | (cases hT; done) | (cases hT; exact do_a _ _) | (cases hT; exact do_b _ _ _ _)
def zj8 : zfq := (102, fun raw ob => match raw with
 | [.ref id 0, .agg [_, _, _, .ref i _]] => match yap ob id with
   | some (.a k) => some ⟨[.ref 500000 0, zuj], zbm (dkO 500005 (.a k)) [(500003, zcm (zba (ob i)).1 (zba (ob i)).2)], True, .tup [], dkO 17 (.b k (zba (ob i)).1 (zba (ob i)).2)⟩
   | some (.c k x s) => some ⟨[.ref 500000 0, zui], zbm (dkO 500005 (.c k x s)) [(500004, zcm (zba (ob i)).1 (zba (ob i)).2)], True, .tup [], dkO 17 (.d k x s (zba (ob i)).1 (zba (ob i)).2)⟩
   | _ => none
 | _ => none)
theorem ycg (k : Int) (x s : List UInt8) : zaq Tryz.prog 102 [.ref 500000 0, zuj] (zbm (dkO 500005 (.a k)) [(500003, zcm x s)]) (.tup []) (dkO 17 (.b k x s)) := by
 refine zak (T := tt) (S := fun L => zb3 [] [ynf]) (lo := noA) (lb := noA) 8 (fn := Tryz.f102) (xs := fun L => [.ref 500000 0, zuj]) (rts := fun _ => []) (O := fun L => zbm (dkO 500005 (.a k)) [(500003, zcm x s)]) (O1 := fun L => dkO 17 (.b k x s))
   rfl rfl (by kernel_rfl) (by kernel_rfl) (by kernel_rfl) zae (zaa trivial ⟨zrr, trivial⟩) (by kernel_rfl) ?_
 intro L P' Q' hL hP hQ
 (cbv; try simp only [syT, true_and, and_true])
 subst hL
 simp [std]
 exact ⟨by decide, fun i j hi hj => by subst hi; simp [L2, std]⟩
theorem ycf (k : Int) (x s y t : List UInt8) : zaq Tryz.prog 102 [.ref 500000 0, zui] (zbm (dkO 500005 (.c k x s)) [(500004, zcm y t)]) (.tup []) (dkO 17 (.d k x s y t)) := by
 refine zak (T := tt) (S := fun L => zb3 [] [ynf]) (lo := noA) (lb := noA) 8 (fn := Tryz.f102) (xs := fun L => [.ref 500000 0, zui]) (rts := fun _ => []) (O := fun L => zbm (dkO 500005 (.c k x s)) [(500004, zcm y t)]) (O1 := fun L => dkO 17 (.d k x s y t))
   rfl rfl (by kernel_rfl) (by kernel_rfl) (by kernel_rfl) zae (zaa trivial ⟨zrr, trivial⟩) (by kernel_rfl) ?_
 intro L P' Q' hL hP hQ
 (cbv; try simp only [syT, true_and, and_true])
 subst hL
 simp [std]
 exact ⟨by decide, fun i j hi hj => by subst hi; simp [L2, std]⟩
theorem zjy : zcb Tryz.prog zj8 := by
 intro raw ob T hT hp
 unfold zj8 at hT
 simp only at hT
 repeat' split at hT
 all_goals first | (cases hT; done) | (cases hT; exact ycg _ _ _) | (cases hT; exact ycf _ _ _ _ _)
end Sy
end Go.Proofs.YtlphgephdhadhaaGreat
namespace Go.Proofs.YtlphgephdhadhaaGreat
open Go Go.RowKit
open Go.ChangeMaps (setBlock)
theorem zvm (seen : Array Nat) : leftOf #[] seen = #[] := by simp [leftOf]
set_option maxRecDepth 1000000 in
theorem yox (w : World) (b bm : Nat) (clock : Nat) (hc : w.cell? ⟨b, 1, none⟩ = some (.map (some bm))) (hm : w.heap[bm]? = some (.map #[] clock)) :
   Calls Tryz.prog 100 #[.pointer (some ⟨b, 0, none⟩)] w fun e w' => e = .returned (.int .i64 0) /\ Below w.heap.size w w' := by
 have hrg := run_range_map (P := Tryz.prog) w 149 9 153 bm #[] clock Tryz.underlying149 hm
 have hnx : ∀ ty, (Instr.next (.pointer (some ⟨w.heap.size, 0, none⟩)) false ty).run Tryz.prog (w.alloc (.mapIter (some bm) clock #[] clock)) = .ok (.tuple #[.bool false]) (w.alloc (.mapIter (some bm) clock #[] clock)) := fun ty => by
   rcases run_next_map (P := Tryz.prog) w ty bm clock clock #[] #[] clock hm (by simp) (Nat.le_refl _) with ⟨_, h⟩ | ⟨e, he, _⟩
   · exact h
   · rw [zvm] at he; simp at he
 go_enter Tryz.func100, Tryz.ntmps100
 go_wp2
 refine wp_loop_rounds 1 ?_
 rw [rounds_succ]
 go_wp2
 go_ret
 exact ⟨rfl, (Below.refl _ w).alloc (Nat.le_refl _) _⟩
set_option maxRecDepth 1000000 in
theorem yow (w : World) (b bm bn : Nat) (clock : Nat) (x : MapEntry) (s : ByteArray) (hc : w.cell? ⟨b, 1, none⟩ = some (.map (some bm))) (hm : w.heap[bm]? = some (.map #[x] clock)) (hst : MapKept.Stamped #[x] clock)
   (hx : x.val = .pointer (some ⟨bn, 0, none⟩)) (hn : w.cell? ⟨bn, 0, none⟩ = some (.string s)) :
   Calls Tryz.prog 100 #[.pointer (some ⟨b, 0, none⟩)] w fun e w' => e = .returned (.int .i64 (wrap64 s.size)) /\ Below w.heap.size w w' := by
 have hrg := run_range_map (P := Tryz.prog) w 149 9 153 bm #[x] clock Tryz.underlying149 hm
 have hbn : bn < w.heap.size := by
   rcases Nat.lt_or_ge bn w.heap.size with h | h
   · exact h
   · simp [World.cell?, Array.getElem?_eq_none h] at hn
 have hbm : bm < w.heap.size := by
   rcases Nat.lt_or_ge bm w.heap.size with h | h
   · exact h
   · simp [Array.getElem?_eq_none h] at hm
 obtain ⟨W2, hr2, hk2, hB2, hnx⟩ : ∃ W2 : World, W2.heap[w.heap.size]? = some (.mapIter (some bm) clock #[x.born] clock) /\ (∀ k, k < w.heap.size -> W2.heap[k]? = w.heap[k]?) /\ Below w.heap.size w W2 /\
     ∀ ty, (Instr.next (.pointer (some ⟨w.heap.size, 0, none⟩)) false ty).run Tryz.prog (w.alloc (.mapIter (some bm) clock #[] clock)) = .ok (.tuple #[.bool true, x.key, .pointer (some ⟨bn, 0, none⟩)]) W2 := by
   rcases run_next_at (P := Tryz.prog) (w.alloc (.mapIter (some bm) clock #[] clock)) 0 w.heap.size bm clock clock #[] #[x] clock (heap_alloc_new _ _) ((heap_alloc_old w _ hbm).trans hm) hst.1 (Nat.le_refl _) with ⟨h0, _⟩ | ⟨e, he, w1, hal, h⟩
   · simp [leftOf] at h0
   · simp [leftOf] at he
     subst he
     rw [hx] at h
     have hB : Below w.heap.size w (w.alloc (.mapIter (some bm) clock #[] clock)) := (Below.refl _ w).alloc (Nat.le_refl _) _
     have hw : w1.heap = (w.alloc (.mapIter (some bm) clock #[] clock)).heap /\ w1.os = w.os /\ w1.tape = w.tape /\ w1.output = w.output := by
       rcases hal with rfl | rfl
       · exact ⟨rfl, rfl, rfl, rfl⟩
       · exact ⟨rfl, rfl, rfl, rfl⟩
     obtain ⟨h1, h2, h3, h4⟩ := hw
     have hl : w.heap.size < (w.alloc (.mapIter (some bm) clock #[] clock)).heap.size := by
       show w.heap.size < (w.heap.push _).size
       rw [Array.size_push]
       omega
     have hne : ∀ k, k < w.heap.size -> (w1.heap.setIfInBounds w.heap.size (.mapIter (some bm) clock #[e.born] clock))[k]? = w.heap[k]? := fun k hk => by
       rw [Array.getElem?_setIfInBounds_ne (by omega), h1]
       exact heap_alloc_old w _ hk
     refine ⟨setBlock w1 w.heap.size (.mapIter (some bm) clock #[e.born] clock), ?_, hne, ⟨h2, h3, h4, ?_, hne⟩, fun ty => h⟩
     · show (w1.heap.setIfInBounds w.heap.size _)[w.heap.size]? = _
       rw [h1, Array.getElem?_setIfInBounds, if_pos rfl, if_pos hl]
     · show w.heap.size <= (w1.heap.setIfInBounds w.heap.size _).size
       rw [h1, Array.size_setIfInBounds]
       exact Nat.le_of_lt hl
 have hm2 : W2.heap[bm]? = some (.map #[x] clock) := (hk2 bm hbm).trans hm
 have hen : (Instr.entry (.pointer (some ⟨w.heap.size, 0, none⟩))).run Tryz.prog W2 = .ok (.tuple #[x.key, .pointer (some ⟨bn, 0, none⟩)]) W2 := by
   have hen := run_entry_at (P := Tryz.prog) W2 w.heap.size bm clock #[] #[x] clock x hr2 hm2 (by simp) hst.2.1
   rw [hx] at hen
   exact hen
 have hn1 : W2.cell? ⟨bn, 0, none⟩ = some (.string s) := by
   simp only [World.cell?, hk2 bn hbn]
   exact hn
 have hnx2 : ∀ ty, (Instr.next (.pointer (some ⟨w.heap.size, 0, none⟩)) false ty).run Tryz.prog W2 = .ok (.tuple #[.bool false]) W2 := fun ty => by
   rcases run_next_at (P := Tryz.prog) W2 ty w.heap.size bm clock clock #[x.born] #[x] clock hr2 hm2 hst.1 (Nat.le_refl _) with ⟨_, h⟩ | ⟨e, he, _⟩
   · exact h
   · simp [leftOf] at he
 go_enter Tryz.func100, Tryz.ntmps100
 go_wp2
 refine wp_loop_rounds 2 ?_
 rw [rounds_succ]
 go_wp2
 rw [rounds_succ]
 go_wp2
 go_ret
 exact ⟨rfl, hB2⟩
end Go.Proofs.YtlphgephdhadhaaGreat
namespace Go.Proofs
open Go.Shelf
def Tryz.keys108_ren : Go.Shelf.Ren := ⟨fun | 7 => 108 | 10 => 120 | n => n, fun | 23 => 149 | 26 => 9 | 3 => 153 | 28 => 169 | 0 => 0 | 27 => 168 | 33 => 47 | 4 => 4 | n => n, fun | n => n⟩
theorem Tryz.keys108 : Go.Proofs.SlLaysZ.n7 Tryz.prog Tryz.keys108_ren := {
 mixed := by kernel_rfl
 f7 := ⟨Tryz.f108.name, by decide, Tryz.func108.trans (congrArg some (by kernel_rfl))⟩
 f10 := ⟨Tryz.f120.name, by decide, Tryz.func120.trans (congrArg some (by kernel_rfl))⟩
 t0 := Tryz.underlying0
 a0 := Tryz.isAgg0
 z0 := Tryz.sizeOf0
 v0 := Tryz.zeroValue0
 t4 := Tryz.underlying4
 a4 := Tryz.isAgg4
 z4 := Tryz.sizeOf4
 v4 := Tryz.zeroValue4
 t23 := Tryz.underlying149
 a23 := Tryz.isAgg149
 z23 := Tryz.sizeOf149
 v23 := Tryz.zeroValue149
 t26 := Tryz.underlying9
 a26 := Tryz.isAgg9
 z26 := Tryz.sizeOf9
 v26 := Tryz.zeroValue9
 t27 := Tryz.underlying168
 a27 := Tryz.isAgg168
 z27 := Tryz.sizeOf168
 v27 := Tryz.zeroValue168
 t28 := Tryz.underlying169
 a28 := Tryz.isAgg169
 z28 := Tryz.sizeOf169
 v28 := Tryz.zeroValue169
 t33 := Tryz.underlying47
 a33 := Tryz.isAgg47
 z33 := Tryz.sizeOf47
 v33 := Tryz.zeroValue47 }
def Tryz.sorted107_ren : Go.Shelf.Ren := ⟨fun | 6 => 107 | 8 => 118 | 9 => 119 | 11 => 125 | 13 => 127 | 12 => 126 | 23 => 140 | 24 => 141 | 14 => 131 | 15 => 132 | 16 => 133 | 17 => 134 | 18 => 135 | 19 => 136 | 20 => 137 | 21 => 138 | 22 => 139 | 25 => 142 | 26 => 143 | 27 => 144 | 28 => 145 | 29 => 146 | 30 => 147 | 31 => 148 | n => n, fun | 26 => 9 | 28 => 169 | 24 => 125 | 0 => 0 | 3 => 3 | 37 => 105 | 48 => 142 | 50 => 63 | 4 => 4 | 40 => 196 | 39 => 195 | 45 => 56 | 5 => 5 | 9 => 9 | 51 => 203 | 55 => 207 | 57 => 209 | 58 => 210 | 33 => 47 | n => n, fun | n => n⟩
theorem Tryz.sorted107 : Go.Proofs.SlLaysZ.n6 Tryz.prog Tryz.sorted107_ren := {
 mixed := by kernel_rfl
 f6 := ⟨Tryz.f107.name, by decide, Tryz.func107.trans (congrArg some (by kernel_rfl))⟩
 f8 := ⟨Tryz.f118.name, by decide, Tryz.func118.trans (congrArg some (by kernel_rfl))⟩
 f11 := ⟨Tryz.f125.name, by decide, Tryz.func125.trans (congrArg some (by kernel_rfl))⟩
 t0 := Tryz.underlying0
 a0 := Tryz.isAgg0
 z0 := Tryz.sizeOf0
 v0 := Tryz.zeroValue0
 t24 := Tryz.underlying125
 a24 := Tryz.isAgg125
 z24 := Tryz.sizeOf125
 v24 := Tryz.zeroValue125
 t26 := Tryz.underlying9
 a26 := Tryz.isAgg9
 z26 := Tryz.sizeOf9
 v26 := Tryz.zeroValue9
 t28 := Tryz.underlying169
 a28 := Tryz.isAgg169
 z28 := Tryz.sizeOf169
 v28 := Tryz.zeroValue169
 i26 := by kernel_rfl }
def Tryz.sort119_ren : Go.Shelf.Ren := ⟨fun | 6 => 119 | 8 => 127 | 9 => 126 | 19 => 140 | 20 => 141 | 21 => 131 | 22 => 132 | 23 => 133 | 24 => 134 | 25 => 135 | 26 => 136 | 27 => 137 | 28 => 138 | 29 => 139 | 36 => 142 | 31 => 143 | 32 => 144 | 37 => 145 | 38 => 146 | 39 => 147 | 41 => 148 | n => n, fun | 27 => 125 | 29 => 9 | 3 => 3 | 32 => 105 | 26 => 125 | 0 => 0 | 44 => 142 | 46 => 63 | 4 => 4 | 36 => 196 | 35 => 195 | 41 => 56 | 5 => 5 | 9 => 9 | 53 => 203 | 57 => 207 | 63 => 209 | 64 => 210 | n => n, fun | n => n⟩
theorem Tryz.sort119 : Go.Proofs.SlLaysM.n6 Tryz.prog Tryz.sort119_ren := {
 mixed := by kernel_rfl
 f6 := ⟨Tryz.f119.name, by decide, Tryz.func119.trans (congrArg some (by kernel_rfl))⟩
 f8 := Tryz.func127.trans (congrArg some (by kernel_rfl))
 f9 := ⟨Tryz.f126.name, by decide, Tryz.func126.trans (congrArg some (by kernel_rfl))⟩
 f19 := Tryz.func140.trans (congrArg some (by kernel_rfl))
 f20 := Tryz.func141.trans (congrArg some (by kernel_rfl))
 f21 := ⟨Tryz.f131.name, by decide, Tryz.func131.trans (congrArg some (by kernel_rfl))⟩
 f22 := ⟨Tryz.f132.name, by decide, Tryz.func132.trans (congrArg some (by kernel_rfl))⟩
 f23 := ⟨Tryz.f133.name, by decide, Tryz.func133.trans (congrArg some (by kernel_rfl))⟩
 f24 := ⟨Tryz.f134.name, by decide, Tryz.func134.trans (congrArg some (by kernel_rfl))⟩
 f25 := ⟨Tryz.f135.name, by decide, Tryz.func135.trans (congrArg some (by kernel_rfl))⟩
 f26 := ⟨Tryz.f136.name, by decide, Tryz.func136.trans (congrArg some (by kernel_rfl))⟩
 f27 := ⟨Tryz.f137.name, by decide, Tryz.func137.trans (congrArg some (by kernel_rfl))⟩
 f28 := ⟨Tryz.f138.name, by decide, Tryz.func138.trans (congrArg some (by kernel_rfl))⟩
 f29 := ⟨Tryz.f139.name, by decide, Tryz.func139.trans (congrArg some (by kernel_rfl))⟩
 f31 := Tryz.func143.trans (congrArg some (by kernel_rfl))
 f32 := Tryz.func144.trans (congrArg some (by kernel_rfl))
 f36 := ⟨Tryz.f142.name, by decide, Tryz.func142.trans (congrArg some (by kernel_rfl))⟩
 f37 := ⟨Tryz.f145.name, by decide, Tryz.func145.trans (congrArg some (by kernel_rfl))⟩
 f38 := ⟨Tryz.f146.name, by decide, Tryz.func146.trans (congrArg some (by kernel_rfl))⟩
 f39 := ⟨Tryz.f147.name, by decide, Tryz.func147.trans (congrArg some (by kernel_rfl))⟩
 f41 := ⟨Tryz.f148.name, by decide, Tryz.func148.trans (congrArg some (by kernel_rfl))⟩
 t0 := Tryz.underlying0
 a0 := Tryz.isAgg0
 z0 := Tryz.sizeOf0
 v0 := Tryz.zeroValue0
 t3 := Tryz.underlying3
 a3 := Tryz.isAgg3
 z3 := Tryz.sizeOf3
 v3 := Tryz.zeroValue3
 t4 := Tryz.underlying4
 a4 := Tryz.isAgg4
 z4 := Tryz.sizeOf4
 v4 := Tryz.zeroValue4
 t5 := Tryz.underlying5
 a5 := Tryz.isAgg5
 z5 := Tryz.sizeOf5
 v5 := Tryz.zeroValue5
 t9 := Tryz.underlying9
 a9 := Tryz.isAgg9
 z9 := Tryz.sizeOf9
 v9 := Tryz.zeroValue9
 t26 := Tryz.underlying125
 a26 := Tryz.isAgg125
 z26 := Tryz.sizeOf125
 v26 := Tryz.zeroValue125
 t27 := Tryz.underlying125
 a27 := Tryz.isAgg125
 z27 := Tryz.sizeOf125
 v27 := Tryz.zeroValue125
 t29 := Tryz.underlying9
 a29 := Tryz.isAgg9
 z29 := Tryz.sizeOf9
 v29 := Tryz.zeroValue9
 t32 := Tryz.underlying105
 a32 := Tryz.isAgg105
 z32 := Tryz.sizeOf105
 v32 := Tryz.zeroValue105
 t35 := Tryz.underlying195
 a35 := Tryz.isAgg195
 z35 := Tryz.sizeOf195
 v35 := Tryz.zeroValue195
 t36 := Tryz.underlying196
 a36 := Tryz.isAgg196
 z36 := Tryz.sizeOf196
 v36 := Tryz.zeroValue196
 t41 := Tryz.underlying56
 a41 := Tryz.isAgg56
 z41 := Tryz.sizeOf56
 v41 := Tryz.zeroValue56
 t44 := Tryz.underlying142
 a44 := Tryz.isAgg142
 z44 := Tryz.sizeOf142
 v44 := Tryz.zeroValue142
 t46 := Tryz.underlying63
 a46 := Tryz.isAgg63
 z46 := Tryz.sizeOf63
 v46 := Tryz.zeroValue63
 t53 := Tryz.underlying203
 a53 := Tryz.isAgg203
 z53 := Tryz.sizeOf203
 v53 := Tryz.zeroValue203
 t57 := Tryz.underlying207
 a57 := Tryz.isAgg207
 z57 := Tryz.sizeOf207
 v57 := Tryz.zeroValue207
 t63 := Tryz.underlying209
 a63 := Tryz.isAgg209
 z63 := Tryz.sizeOf209
 v63 := Tryz.zeroValue209
 t64 := Tryz.underlying210
 a64 := Tryz.isAgg210
 z64 := Tryz.sizeOf210
 v64 := Tryz.zeroValue210 }
def Tryz.clone105_ren : Go.Shelf.Ren := ⟨fun | 5 => 105 | 7 => 117 | n => n, fun | 23 => 149 | 25 => 9 | 3 => 153 | 4 => 4 | 20 => 20 | n => n, fun | n => n⟩
theorem Tryz.clone105 : Go.Proofs.SlLaysW.n5 Tryz.prog Tryz.clone105_ren := {
 mixed := by kernel_rfl
 f5 := ⟨Tryz.f105.name, by decide, Tryz.func105.trans (congrArg some (by kernel_rfl))⟩
 f7 := Tryz.func117.trans (congrArg some (by kernel_rfl))
 t4 := Tryz.underlying4
 a4 := Tryz.isAgg4
 z4 := Tryz.sizeOf4
 v4 := Tryz.zeroValue4
 t20 := Tryz.underlying20
 a20 := Tryz.isAgg20
 z20 := Tryz.sizeOf20
 v20 := Tryz.zeroValue20
 t23 := Tryz.underlying149
 a23 := Tryz.isAgg149
 z23 := Tryz.sizeOf149
 v23 := Tryz.zeroValue149 }
end Go.Proofs
namespace Go.Proofs.YtlphgephdhadhaaGreat
open Go Go.RowKit
open Go.WideElems (Fit rd rg rg_of)
open Go.Maps
theorem ycn (m : Nat) : AnyZ.SortsIn Tryz.prog Tryz.sorted107_ren Fence.wide m :=
 ⟨fun blk off cap ss W hH hblk hsz => callsIn_wide.2 (AnyM.slices_Sort_string Tryz.sort119 blk off cap ss W hH hblk hsz),
  fun p cap W => callsIn_wide.2 (AnyM.slices_Sort_string_none Tryz.sort119 p cap W)⟩
def ypk (_ : Value) : Option (DataW Unit × List MemPlace) := some (.lit (.bool true), [])
set_option maxHeartbeats 1000000 in
theorem yhh (w : World) (Bm b clock : Nat) (x : MapEntry) (s : ByteArray) (hB : Bm < w.heap.size) (hc : w.cell? ⟨Bm, 0, none⟩ = some (.map (some b))) (hb : w.heap[b]? = some (.map #[x] clock)) (hst : MapKept.Stamped #[x] clock)
   (hk : x.key = .string s) (hs : s.size <= 1000) :
   Calls Tryz.prog 107 #[.func (.func 120) #[] #[.pointer (some ⟨Bm, 0, none⟩)]] w fun e w' => ∃ v, e = .returned v /\ w'.ownsRow w.heap.size 9 1 v 1 [.string s] /\ Below w.heap.size w w' := by
 have hrd : rd Tryz.prog 9 ypk x = some (.string s.data.toList, .lit (.bool true)) := by
   have hl : s.size <= maxLen := Nat.le_trans hs (by decide)
   simp [rd, ypk, Go.keyOf, hk, mapKey, Tryz.underlying9, hl]
 have hown : w.ownsMap Tryz.prog 9 ypk b 1 (.map [(.string s.data.toList, .lit (.bool true))]) := by
   refine ⟨#[x], clock, hb, ⟨(show 1 <= maxLen by decide), hst, fun y hy => ?_⟩, by simp, ?_⟩
   · simp at hy; subst hy; exact ⟨_, hrd⟩
   · simp [rg_of hrd, DataW.insert]
 have hseq := AnyZ.keys_gives (ρ := Tryz.keys108_ren) (F := Fence.wide) (n := 2) { Tryz.keys108 with } trivial rfl (by omega) Bm b 1 _ w hB hc hown
 refine (callsIn_wide.1 (AnyZ.sorted_in Tryz.sorted107 Fence.wide 5 trivial trivial trivial trivial rfl (by omega) (ycn _) (enters_of Tryz.func119 (by kernel_rfl) rfl) 120 _ trivial (enters_of Tryz.func120 (by kernel_rfl) rfl) _ 1 (by decide) (by omega) w hseq)).mono ?_
 rintro e w' ⟨v, ss, rfl, hS, hrow, -, hB⟩
 have : ss = [s.data.toList] := by simpa [strKeys, strOf] using hS
 subst this
 have hrow := hrow
 simp [encStr] at hrow
 exact ⟨v, rfl, hrow, hB⟩
namespace Sy
theorem zhr {P : Program} {f : FuncId} {fn : Func} {c : Code} {vs : Array Value} {w : World} {Q : Ending -> World -> Prop} (hf : P.funcs[f]? = some fn) (hb : fn.body = some c) (hn : (fn.name == "runtime.NumGoroutine") = false) (h : Calls P f vs w Q) : ze5 P f vs w Q := by
 unfold ze5
 rw [zc0 hf hn hb]
 exact h
theorem zkh {D D' : Nat -> Prop} {w w' : World} {μ : Mu} {O : List (Nat × Ob)} {r : AV} {v : Value} (hD : ∀ b, D b -> b < w.heap.size)
   (hdom : ∀ n, μ n = none ↔ za3 O n = none) (hobs : ∀ n o x, za3 O n = some o -> μ n = some x -> zgp w.heap D μ o x)
   (hinj : ∀ n n' b z z', μ n = some (some (b, z)) -> μ n' = some (some (b, z')) -> n = n') (hown : ∀ n b z, μ n = some (some (b, z)) -> b < w.heap.size /\ ¬ D b)
   (B : Below w.heap.size w w') (up : ∀ b, D b -> D' b) (dn : ∀ b, D' b -> D b \/ (w.heap.size <= b /\ b < w'.heap.size)) (rv : R w'.heap D' μ r v) : ygy D w μ O O r (.returned v) v w' D' μ :=
 { ret := rfl, os := B.os, tape := B.tape, output := B.output, size := B.size, old := fun b hb _ => B.block b hb, up := up,
   dn := fun b hb => (dn b hb).elim .inl (fun h => .inr (.inl h)), dom := hdom,
   obs := fun n o x ho hx => (hobs n o x ho hx).mono (fun b hb => B.block b (hD b hb)) up (fun _ _ h => h) (fun b z e _ => by subst e; exact B.block b (hown n b z hx).1),
   inj := hinj,
   own := fun n b z h => ⟨Nat.lt_of_lt_of_le (hown n b z h).1 B.size, fun hb => (dn b hb).elim (hown n b z h).2 (fun h2 => absurd (hown n b z h).1 (by omega)), .inr ⟨n, z, h⟩⟩,
   keep := fun _ _ _ => rfl, val := rv }
theorem ydr {D : Nat -> Prop} {w w' : World} {μ : Mu} {O : List (Nat × Ob)} {r : AV} {v : Value} (id : Nat) (o : Ob) (z : Nat × Nat) (hD : ∀ b, D b -> b < w.heap.size) (hid : za3 O id = none)
   (hdom : ∀ n, μ n = none ↔ za3 O n = none) (hobs : ∀ n o x, za3 O n = some o -> μ n = some x -> zgp w.heap D μ o x)
   (hinj : ∀ n n' b z z', μ n = some (some (b, z)) -> μ n' = some (some (b, z')) -> n = n') (hown : ∀ n b z, μ n = some (some (b, z)) -> b < w.heap.size /\ ¬ D b)
   (B : Below w.heap.size w w') (hlt : w.heap.size < w'.heap.size)
   (ok : zgp w'.heap D (fun n => if n = id then some (some (w.heap.size, z)) else μ n) o (some (w.heap.size, z)))
   (rv : R w'.heap D (fun n => if n = id then some (some (w.heap.size, z)) else μ n) r v) :
   ygy D w μ O (zbm O [(id, o)]) r (.returned v) v w' D (fun n => if n = id then some (some (w.heap.size, z)) else μ n) := by
 have hμ : μ id = none := (hdom id).2 hid
 have hm : ∀ n x, μ n = some x -> (if n = id then some (some (w.heap.size, z)) else μ n) = some x := fun n x h => by
   rw [if_neg (by rintro rfl; rw [hμ] at h; cases h)]; exact h
 have ha : ∀ n, za3 (zbm O [(id, o)]) n = if n = id then some o else za3 O n := fun n => by
   rw [ze3]
   by_cases e : n = id
   · subst e; rw [hid, if_pos rfl]; simp [za3, za5]
   · rw [if_neg e]
     cases za3 O n with
     | some _ => rfl
     | none => simp [za3, zaj (fun h => e h.symm)]
 refine { ret := rfl, os := B.os, tape := B.tape, output := B.output, size := B.size, old := fun b hb _ => B.block b hb, up := fun _ h => h, dn := fun b hb => .inl hb, dom := fun n => ?_, obs := fun n o' x ho hx => ?_, inj := fun n n' b z1 z2 h1 h2 => ?_, own := fun n b z1 h => ?_, keep := fun n h _ => ?_, val := rv }
 · rw [ha]
   by_cases e : n = id
   · simp [e]
   · simp only [if_neg e]; exact hdom n
 · rw [ha] at ho
   by_cases e : n = id
   · simp only [if_pos e] at ho hx
     cases ho; cases hx
     exact ok
   · simp only [if_neg e] at ho hx
     exact (hobs n o' x ho hx).mono (fun b hb => B.block b (hD b hb)) (fun _ h => h) hm (fun b z e _ => by subst e; exact B.block b (hown n b z hx).1)
 · by_cases e : n = id <;> by_cases e' : n' = id
   · rw [e, e']
   · simp only [if_pos e, if_neg e'] at h1 h2
     cases h1
     exact absurd (hown n' _ _ h2).1 (by omega)
   · simp only [if_neg e, if_pos e'] at h1 h2
     cases h2
     exact absurd (hown n _ _ h1).1 (by omega)
   · simp only [if_neg e, if_neg e'] at h1 h2
     exact hinj n n' b z1 z2 h1 h2
 · by_cases e : n = id
   · simp only [if_pos e] at h
     cases h
     exact ⟨hlt, fun hb => absurd (hD _ hb) (by omega), .inl (Nat.le_refl _)⟩
   · simp only [if_neg e] at h
     exact ⟨Nat.lt_of_lt_of_le (hown n b z1 h).1 B.size, (hown n b z1 h).2, .inr ⟨n, z1, h⟩⟩
 · exact if_neg (fun e => h (by rw [e]; exact hid))
end Sy
end Go.Proofs.YtlphgephdhadhaaGreat
namespace Go.Proofs.YtlphgephdhadhaaGreat
namespace Sy
open Go Go.RowKit
set_option maxRecDepth 100000
set_option linter.unusedSimpArgs false
set_option linter.unusedVariables false
def yg3 (x s : List UInt8) : List (Nat × Ob) := [(500001, .mapl .s [(.s nmA, .ref 500003 0)]), (500003, zcm x s)]
theorem zn7 {h : Array Obj} {D : Nat -> Prop} {μ : Mu} {x : AV} {vs : Array Value} (hr : RL h D μ [x] vs) : ∃ v, vs = #[v] /\ R h D μ x v := by
 obtain ⟨hl, hr⟩ := hr
 obtain ⟨a, ha⟩ : ∃ a, vs.toList = [a] := List.length_eq_one_iff.1 (by simpa using hl.symm)
 have : vs = #[a] := by rw [<- Array.toArray_toList (xs := vs), ha]
 subst this
 exact ⟨a, rfl, hr 0 x a rfl rfl⟩
theorem zp2 {h : Array Obj} {D : Nat -> Prop} {μ : Mu} {b z m : Nat} {v : AV} (k : zgp h D μ (.mapl .s [(.s nmA, v)]) (some (b, z, m))) :
   ∃ x clock s, h[b]? = some (.map #[x] clock) /\ MapKept.Stamped #[x] clock /\ x.key = .string s /\ s.data.toList = nmA /\ R h D μ v x.val := by
 obtain ⟨es, clock, kf, hb, hn, hks, hnd, hr⟩ := k
 have hn : es.size = 1 := hn
 obtain ⟨x, rfl⟩ : ∃ x, es = #[x] := ⟨es[0], by
   apply Array.ext
   · simpa using hn
   · intro i h1 h2
     have : i = 0 := by simp at h2; exact h2
     subst this; rfl⟩
 obtain ⟨y, hy, ry⟩ := hr 0 x rfl
 obtain ⟨k1, k2⟩ := hks.key 0 x rfl
 obtain ⟨s, k3, k4⟩ := k1
 have hkf : kf 0 = .s nmA /\ y = v := by
   simp only [zb6] at hy
   split at hy
   · rename_i h; exact ⟨(zko h).symm, by cases hy; rfl⟩
   · cases hy
 obtain ⟨h1, rfl⟩ := hkf
 rw [h1] at k4
 exact ⟨x, clock, s, hb, hks.st, k3, (Ky.s.inj k4).symm, ry⟩
def zjm : zfq := (105, fun raw ob => match raw with
 | [.mp n] => match ob n with
   | some (.mapl _ [(_, .ref i _)]) => some ⟨[.mp 500001], yg3 (zba (ob i)).1 (zba (ob i)).2, True, .mp 600000, zbm (yg3 (zba (ob i)).1 (zba (ob i)).2) [(600000, .mapl .s [(.s nmA, .ref 500003 0)])]⟩
   | _ => none
 | _ => none)
theorem zl5 : zcb Tryz.prog zjm := by
 intro raw ob T hT hp
 unfold zjm at hT
 simp only at hT
 repeat' split at hT
 all_goals first | (cases hT; done) | skip
 cases hT
 intro D w μ vs hD hxs hdom hobs hinj hown hg hgb
 obtain ⟨v, rfl, r1⟩ := zn7 hxs
 cases r1 with
 | mp _ b z m hμ =>
   obtain ⟨es, clock, kf, hb, hn, hks, hnd, hr⟩ := hobs 500001 _ _ rfl hμ
   refine zhr (fn := Tryz.f105) rfl rfl (by kernel_rfl) ((AnyW.maps_Clone Tryz.clone105 b es clock w hb).mono ?_)
   rintro e w' ⟨rfl, rfl⟩
   have B : Below w.heap.size w (w.alloc (.map es clock)) := (Below.refl _ w).alloc (Nat.le_refl _) _
   have hm : ∀ n x, μ n = some x -> (if n = 600000 then some (some (w.heap.size, (0, 0))) else μ n) = some x := fun n x h => by
     rw [if_neg (by rintro rfl; rw [(hdom 600000).2 rfl] at h; cases h)]; exact h
   refine ⟨_, D, _, ydr 600000 _ (0, 0) hD rfl hdom hobs hinj hown B (by show w.heap.size < (w.heap.push _).size; simp) ⟨es, clock, kf, heap_alloc_new _ _, hn, hks, hnd, fun i x hx => ?_⟩ (.mp _ w.heap.size 0 0 (if_pos rfl))⟩
   obtain ⟨y, h1, h2⟩ := hr i x hx
   exact ⟨y, h1, h2.mono (fun b hb => B.block b (hD b hb)) (fun _ h => h) hm⟩
def seqO (x s : List UInt8) : List (Nat × Ob) := [(500010, .box 149 [.mp 500001]), (500001, .mapl .s [(.s nmA, .ref 500003 0)]), (500003, zcm x s)]
def zj9 : zfq := (107, fun raw ob => match raw with
 | [.fn _ [] [.ref c _]] => match ob c with
   | some (.box _ [.mp n]) => match ob n with
     | some (.mapl _ [(_, .ref i _)]) => some ⟨[.fn 120 [] [.ref 500010 0]], seqO (zba (ob i)).1 (zba (ob i)).2, True, .lst 1 1 (fun _ _ => .str nmA), seqO (zba (ob i)).1 (zba (ob i)).2⟩
     | _ => none
   | _ => none
 | _ => none)
theorem zk1 : zcb Tryz.prog zj9 := by
 intro raw ob T hT hp
 unfold zj9 at hT
 simp only at hT
 repeat' split at hT
 all_goals first | (cases hT; done) | skip
 cases hT
 intro D w μ vs hD hxs hdom hobs hinj hown hg hgb
 obtain ⟨v, rfl, r1⟩ := zn7 hxs
 cases r1 with
 | fn _ _ _ us1 us2 e1 e2 h1 h2 =>
   obtain ⟨u, hu⟩ : ∃ u, us2.toList = [u] := List.length_eq_one_iff.1 (by simpa using e2.symm)
   have : us2 = #[u] := by rw [<- Array.toArray_toList (xs := us2), hu]
   subst this
   have : us1 = #[] := by
     apply Array.eq_empty_of_size_eq_zero
     simpa using e1.symm
   subst this
   have r2 : R w.heap D μ (.ref 500010 0) u := h2 0 _ u rfl rfl
   cases r2 with
   | ref _ _ b z m hμ =>
     obtain ⟨C, t, fr, hb, hz, hf, ho, hC⟩ := hobs 500010 _ _ rfl hμ
     obtain ⟨v0, rfl, r3⟩ := zn7 hC
     cases r3 with
     | mp _ bm zm mm hμm =>
       obtain ⟨x, clock, s, hbm, hst, hk, hs, rx⟩ := zp2 (hobs 500001 _ _ rfl hμm)
       have hss : s.size = 1 := by
         have := congrArg List.length hs
         simpa [nmA] using this
       refine zhr (fn := Tryz.f107) rfl rfl (by kernel_rfl) ((yhh w b bm clock x s (hown _ _ _ hμ).1 (by rw [zfn]; simp [zb0 hb]) hbm hst hk (by omega)).mono ?_)
       rintro e w' ⟨v, rfl, ⟨-, hrow⟩, B⟩
       rcases hrow with ⟨-, h0⟩ | ⟨g, cap, cur, rfl, hg0, hgb, hc1, hc2, hc3, hc4⟩
       · cases h0
       have hcur : cur[0]? = some (.string s) := by
         have := congrArg (fun l => l[0]?) hc4
         simpa using this
       have hlt : g < w'.heap.size := (Array.getElem?_eq_some_iff.1 hgb).1
       refine ⟨_, fun b => D b \/ b = g, μ, zkh hD hdom hobs hinj hown B (fun b h => .inl h) (fun b h => h.elim .inl (fun e => .inr (by subst e; exact ⟨hg0, hlt⟩))) (.lst 1 1 _ g 0 cap (fun _ _ => .string s) (.inr rfl) hc1 (fun i j hi hj => ?_) (fun i j hi hj => rfl) (fun i j hi hj => .str _ s hs))⟩
       have : i = 0 := by omega
       subst this
       have : j = 0 := by omega
       subst this
       rw [zb0 hgb]
       exact hcur
def zc7 (a : List UInt8) : Prop := a.length <= 1000
def zxc (L : za8) : zcu := (116, fun xs => match xs with | [.str a] => some (L zc7 a, .str a) | _ => none)
def ycp (L : za8) : zcu := (103, fun xs => match xs with | [.str a] => some (L zc7 a, .str a) | _ => none)
theorem zxd : zd7 Tryz.prog (zxc std) := by
 intro xs p r h hp
 dsimp only [zxc] at h |-
 split at h <;> cases h
 try simp only [L2, L3, std] at hp |-
 rename_i a
 have h1 : a.length <= 1000 := hp
 exact ze4 (fn := Tryz.f116) rfl rfl (by kernel_rfl) (ykk (zjz _)) (fun h D => zx0 h D zap _) (fun w => Tryz.stringslite_Clone ⟨a.toArray⟩ w (by show a.toArray.size <= _; rw [List.size_toArray]; omega))
theorem zsl : zd7 Tryz.prog (ycp std) := by
 intro xs p r h hp
 dsimp only [ycp] at h |-
 split at h <;> cases h
 try simp only [L2, L3, std] at hp |-
 rename_i a
 have h1 : zc7 a := hp
 refine za9 (T := tt) (S := fun L => zbe [zxc L]) (lo := noA) (lb := noA) 5 (fn := Tryz.f103) rfl rfl (by kernel_rfl) (by kernel_rfl) rfl zae (za7 ⟨zxd, trivial⟩) (by kernel_rfl) ?_
 (intro L P1 Q1 hL hP hQ; cbv; subst hL; simp only [L2, L3, std, syT]; subst hQ)
 (simp only [syS, reduceCtorEq, Int.reduceToNat, Int.reduceAdd, Int.reduceSub])
 exact h1
def ydl (a : List UInt8) : Bool := !decide (a = []) && decide (a.length <= 32)
def zt6 (L : za8) : zcu := (99, fun xs => match xs with | [.str a] => some (L zc7 a, .bool (L ydl a)) | _ => none)
theorem zp4 : zd7 Tryz.prog (zt6 std) := by
 intro xs p r h hp
 dsimp only [zt6] at h |-
 split at h <;> cases h
 try simp only [L2, L3, std] at hp |-
 rename_i a
 have h1 : a.length <= 1000 := hp
 refine za9 (T := tt) (S := noS) (lo := noA) (lb := noA) 5 (fn := Tryz.f99) rfl rfl (by kernel_rfl) (by kernel_rfl) rfl zae (zdx _) (by kernel_rfl) ?_
 (intro L P1 Q1 hL hP hQ; cbv; subst hL; simp only [L2, L3, std, syT]; subst hQ)
 (simp only [syS, reduceCtorEq, Int.reduceToNat, Int.reduceAdd, Int.reduceSub])
 refine ⟨fun h => ?_, fun h => ?_⟩
 · unfold ydl
   rw [decide_eq_false h]
   unfold ile
   simp
   omega
 · subst h; rfl
def zhi (s : List UInt8) (i q : Nat) : Int := if q < i then zqk s q else 0
def ypy (L : za8) (s : List UInt8) : Nat -> St -> Option Ann := fun id st => match id with
 | 0 => some ⟨Nat, fun i => [(27, .int .i64 (L zac i))], fun i => [(24, .row 5 1 (L lenN s) (fun q _ => .int .u8 (L3 L zhi s i q)))], [0, 1, 6, 26], [500003],
     fun i => L2 L (fun (s : List UInt8) i => i <= s.length) s i, fun i => L2 L (fun (s : List UInt8) (i : Nat) => s.length - i) s i⟩
 | _ => none
theorem ybl (s : List UInt8) : bytesOf s.length (fun k => zqk s k) = s := by
 apply List.ext_getElem
 · simp [bytesOf]
 · intro i h1 h2
   simp [bytesOf, zqk, h2]
theorem shr0 (k : IntKind) (b : Int) : zmo k 0 b = 0 := by unfold zmo; simp
theorem yll {i : Nat} (h : i <= 1000) : ile 0 (Int.tmod (yoo .i64 (zac i) 64) 63) = true := by
 have e1 : (zac i).tdiv 64 = ((i / 64 : Nat) : Int) := by
   unfold zac
   exact (Int.ofNat_tdiv i 64).symm
 unfold yoo
 rw [zdi, e1]
 have e2 : ((i / 64 : Nat) : Int) + 9223372036854775808 < 18446744073709551616 := by omega
 rw [Int.emod_eq_of_lt (by omega) e2]
 unfold ile
 rw [decide_eq_true_eq]
 exact Int.tmod_nonneg _ (by omega)
def zzt (L : za8) : zfq := (109, fun raw ob => match raw with
 | [.ref i 0, .int .u64 _] => some ⟨[.ref 500003 0, .int .u64 0], [(500003, zcm (zba (ob i)).1 (zba (ob i)).2)], L zc7 (zba (ob i)).2, .str (zba (ob i)).2, [(500003, zcm (zba (ob i)).1 (zba (ob i)).2)]⟩
 | _ => none)
theorem yiw (x s : List UInt8) (hs : zc7 s) : zaq Tryz.prog 109 [.ref 500003 0, .int .u64 0] [(500003, zcm x s)] (.str s) [(500003, zcm x s)] := by
 have hs : s.length <= 1000 := hs
 refine zak (T := tt) (S := fun L => zb3 [] []) (lo := fun L => ypy L s) (lb := noA) 8 (fn := Tryz.f109) (xs := fun L => [.ref 500003 0, .int .u64 0]) (rts := fun _ => [.str s]) (O := fun L => [(500003, zcm x s)]) (O1 := fun L => [(500003, zcm x s)])
   rfl rfl (by kernel_rfl) (by kernel_rfl) (by kernel_rfl) zae (zaa trivial trivial) (by kernel_rfl) ?_
 intro L P' Q' hL hP hQ
 (cbv; try simp only [syT, true_and, and_true])
 refine ⟨?_, fun h1 => ?_, fun h1 => ⟨?_, ⟨0, ?_⟩, fun i hi => ?_⟩⟩
 · subst hL; decide
 · exfalso
   subst hL
   revert h1
   simp only [std, L2]
   decide
 · subst hL
   show ymg 1 (slen s) (slen s) = true
   rw [ygb]
   unfold slen
   omega
 · (cbv; try simp only [syT, true_and, and_true])
   subst hL
   refine ⟨⟨rfl, fun a b ha hb => ?_⟩, rfl, Nat.zero_le _⟩
   have : b = 0 := by omega
   subst this
   simp [zc3, L3, std, zhi]
 · (cbv; try simp only [syT, true_and, and_true])
   refine ⟨fun h2 => ⟨?_, ?_, ?_, fun h3 => ?_, fun h3 => ⟨fun h4 => ⟨?_, ?_, ⟨i + 1, ?_⟩⟩, fun h4 => ?_⟩⟩, fun h2 => ?_⟩
   · subst hL; decide
   · subst hL; decide
   · subst hL
     have hi : i <= s.length := hi
     exact yll (by omega)
   · exfalso
     subst hL
     revert h3
     simp only [std, shr0]
     decide
   · subst hL
     have h4 : ilt (zac i) (slen s) = true := h4
     rw [zev] at h4
     show inR (zac i) (slen s) = true
     rw [zns]
     exact ⟨Int.natCast_nonneg _, h4⟩
   · subst hL
     have h4 : ilt (zac i) (slen s) = true := h4
     rw [zev] at h4
     show inR (zac i) (zac (Int.toNat (slen s))) = true
     rw [zns]
     exact ⟨Int.natCast_nonneg _, h4⟩
   · (cbv; try simp only [syT, true_and, and_true])
     subst hL
     have hi : i <= s.length := hi
     have h4 : ilt (zac i) (slen s) = true := h4
     rw [zev] at h4
     have h4 : (i : Int) < (s.length : Int) := h4
     refine ⟨fun a b ha hb => ?_, ?_, ?_, ?_⟩
     · refine (yph _ .u8 _ (zhi s i) a b hb).trans (congrArg (AV.int .u8) ?_)
       show (if a = 0 + (zac i).toNat then zqk s (zac i) else zhi s i a) = zhi s (i + 1) a
       have e1 : 0 + (zac i).toNat = i := by unfold zac; omega
       rw [e1]
       unfold zhi
       by_cases e : a = i
       · subst e
         rw [if_pos rfl, if_pos (by omega)]; rfl
       · rw [if_neg e]
         by_cases e2 : a < i
         · rw [if_pos e2, if_pos (by omega)]
         · rw [if_neg e2, if_neg (by omega)]
     · show zc6 .i64 (zac i) 1 = zac (i + 1)
       unfold zc6 zac
       rw [zdi]
       omega
     · show i + 1 <= s.length
       omega
     · show s.length - (i + 1) < s.length - i
       omega
   · exfalso
     subst hL
     have h2 : ilt (zac i) (zac (Int.toNat (slen s))) = true := h2
     have h4 : ilt (zac i) (slen s) = false := h4
     have e : zac (Int.toNat (slen s)) = slen s := by unfold zac slen; omega
     rw [e, h4] at h2
     cases h2
   · subst hL
     have hi : i <= s.length := hi
     have h2 : ilt (zac i) (zac (Int.toNat (slen s))) = false := h2
     rw [zku] at h2
     have e : i = s.length := by unfold zac slen at h2; omega
     subst e
     refine ⟨⟨?_, fun k _ => ⟨_, rfl⟩⟩, ?_⟩
     · show 0 + s.length <= s.length
       omega
     · show bytesOf s.length (fun k => zhi s s.length (0 + k)) = s
       refine Eq.trans ?_ (ybl s)
       unfold bytesOf
       refine List.map_congr_left fun k hk => ?_
       have hk : k < s.length := by simpa using hk
       show UInt8.ofNat (zhi s s.length (0 + k)).toNat = UInt8.ofNat (zqk s k).toNat
       unfold zhi
       rw [if_pos (by omega), Nat.zero_add]
theorem zzu : zcb Tryz.prog (zzt std) := by
 intro raw ob T hT hp
 unfold zzt at hT
 simp only at hT
 repeat' split at hT
 all_goals first | (cases hT; done) | (cases hT; exact yiw _ _ hp)
end Sy
end Go.Proofs.YtlphgephdhadhaaGreat
