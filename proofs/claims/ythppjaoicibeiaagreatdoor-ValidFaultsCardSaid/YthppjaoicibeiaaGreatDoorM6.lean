/-Chapter 10 (valid): the document's Route. Chapter 10 (valid): the document's All: codes, step by step. Chapter 10 (valid): All, Fine, Check. Chapter 10 (valid): the document's All; and what stands between these and the texts behind.-/
import Derived.Test.YthppjaoicibeiaaGreatDoorM5
import Derived.Test.YthppjaoicibeiaaGreatDoorM4
import Derived.Test.YthppjaoicibeiaaGreatDoorM1
import Derived.ProofKit
import Derived.OpenShut
import Derived.LaidMore
import Derived.Lay
import Derived.Stop.Joined
import Derived.Lib.LaidTab
import Derived.Handed
import Derived.Shelf.Vars
namespace Go.Proofs.YthppjaoicibeiaaGreatDoor
namespace Sy
open Go Go.RowKit
set_option maxRecDepth 100000
set_option linter.unusedSimpArgs false
set_option linter.unusedVariables false
def yqe (c : Cf) (l : Ls) (k : Int) : Prop := zmp c /\ yvr l.rs /\ zfn l.rs /\ 0 <= k /\ k < l.rs.length
noncomputable def yfo (c : Cf) (l : Ls) (k : Int) : Int := yae c (zb5 l.rs k.toNat) (l.rs.take k.toNat)
noncomputable def ylc (L : zaa) : zbg := (57, fun xs => match xs with
 | [x, y, .int .i64 k] => some (L zd2 x /\ L zji y /\ L3 L yqe (L zah x) (L zf2 y) k, .int .i64 (L3 L yfo (L zah x) (L zf2 y) k))
 | _ => none)
def zu5 (l : List Cl) (s : List UInt8) (i : Nat) : Bool := (l.take i).any fun a => decide (a.n = s)
def yvk (l : List Rt) (k : Nat) (i : Nat) : Prop := i <= k /\ ∀ j, j < i -> rtP (zb5 l k) (zb5 l j) = false
def goK (k i : Nat) : Nat := k - i
def rrtA (L : zaa) (c : Cf) (l : Ls) (k : Int) : Nat -> St -> Option Ann := fun id st => match id with
 | 0 => some ⟨Nat, fun i => [(33, .int .i64 (L zav i)), (9, .bool (L3 L zu5 (L Cf.cs c) (L Rt.c (L2 L zb5 (L Ls.rs l) (L Int.toNat k))) i))], fun i => [], [2, 4, 7, 31, 32], [4, 7], fun i => L2 L zt4 (L Cf.cs c) i, fun i => L2 L yeq (L Cf.cs c) i⟩
 | 2 => some ⟨Nat, fun i => [(12, .int .i64 (L zav i))], fun i => [], [2, 4, 7], [4, 7], fun i => L3 L yvk (L Ls.rs l) (L Int.toNat k) i, fun i => L2 L goK (L Int.toNat k) i⟩
 | _ => none
theorem znq {l : List Cl} {s : List UInt8} {i : Nat} (h : i < l.length) : zu5 l s (i + 1) = (zu5 l s i || decide ((za5 l i).n = s)) := by
 unfold zu5
 rw [List.take_succ_eq_append_getElem h, List.any_append, za5, zak (V := clV) h]; simp
theorem yfm {l : List Rt} {k : Nat} (hk : k <= l.length) (h : yvk l k k) : zmk (zb5 l k) (l.take k) = false := by
 unfold zmk
 rw [List.any_eq_false]
 intro x hx
 obtain ⟨j, hj, rfl⟩ := List.getElem_of_mem hx
 have hj2 : j < k := by rw [List.length_take] at hj; omega
 have := h.2 j hj2
 rw [show zb5 l j = l[j] by rw [zb5, zak (V := rtV) (by omega)]] at this
 rw [List.getElem_take, this]; decide
theorem yag {l : List Rt} {k j : Nat} (hk : k <= l.length) (hj : j < k) (h : rtP (zb5 l k) (zb5 l j) = true) : zmk (zb5 l k) (l.take k) = true := by
 unfold zmk
 rw [List.any_eq_true]
 refine ⟨zb5 l j, ?_, h⟩
 rw [zb5, zak (V := rtV) (by omega), List.mem_take_iff_getElem]
 exact ⟨j, by omega, rfl⟩
theorem zrk {l : List Cl} {s : List UInt8} {i : Nat} (h : l.length <= i) : zu5 l s i = zth l s := by
 unfold zu5
 rw [List.take_of_length_le h, ycr]
theorem zuj {c : Cf} {l : Ls} {k : Int} {i : Nat} (g1 : ziu (zb5 l.rs k.toNat).h = 0) (g2 : zqf (zb5 l.rs k.toNat).p = 0) (g3 : zu5 c.cs (zb5 l.rs k.toNat).c i = true) (hi : c.cs.length <= i) : yfo c l k = soZ (zmk (zb5 l.rs k.toNat) (l.rs.take k.toNat)) 11 := by
 rw [zrk hi] at g3
 unfold yfo yae
 rw [zj7, if_neg (by rw [g1]; decide), zj7, if_neg (by rw [g2]; decide), g3]
 show zj7 [0, soZ _ 11] = _
 generalize zmk (zb5 l.rs k.toNat) (List.take k.toNat l.rs) = b
 cases b <;> rfl
theorem yfn : zaz Tryz.prog (ylc std) := by
 intro xs p r h hp
 dsimp only [ylc] at h |-
 split at h <;> cases h
 try simp only [L2, L3, std] at hp |-
 rename_i x y k
 obtain ⟨ho, ho2, hz⟩ := hp
 refine zk2 zbi ho (yk1 zcd ho2 ?_)
 have hz : yqe (zah x) (zf2 y) k := hz
 show za7 _ _ [.agg ((List.range 3).map (cfC std (zah x))), .agg ((List.range 7).map (lsC std (zf2 y))), .int .i64 k] (.int .i64 (yfo (zah x) (zf2 y) k))
 generalize zah x = c at hz |-
 generalize zf2 y = l at hz |-
 obtain ⟨h1, h2, h3, h4, h5⟩ := hz
 have h6 : 0 <= k /\ k < (l.rs.length : Int) := ⟨h4, h5⟩
 refine za2 (T := tt) (S := fun L => zao [zsf L, zsa L, zod L]) (lo := fun L => rrtA L c l k) (lb := noA) 5 (fn := Tryz.f57) (xs := fun L => [.agg [.int .u64 (L Cf.v c), zd3 L (L Cf.ls c), zcn L (L Cf.cs c)], .agg [.str (L Ls.n l), .int .u8 (L Pl.a (L Ls.pl l)), .int .u8 (L Pl.b (L Ls.pl l)), .int .u8 (L Pl.c (L Ls.pl l)), .int .u8 (L Pl.d (L Ls.pl l)), .int .u16 (L Pl.p (L Ls.pl l)), zmo L (L Ls.rs l)], .int .i64 k]) rfl rfl (by kernel_rfl) (by kernel_rfl) rfl zab (za3 ⟨zx4, zwy, zse, trivial⟩) (by kernel_rfl) ?_
 intro L P' Q' hL hP hQ
 (cbv; try simp only [syT, true_and, and_true])
 have hk : k.toNat < l.rs.length := (Int.toNat_lt h6.1).2 h6.2
 have hm : zb5 l.rs k.toNat ∈ l.rs := by rw [zb5, zak (V := rtV) hk]; exact List.getElem_mem _
 have hr := h2 _ hm
 simp only [zdu, Bool.and_eq_true, decide_eq_true_eq] at hr
 refine ⟨?_, ?_, fun g1 => ?_, fun g1 => ⟨?_, fun g2 => ?_, fun g2 => ⟨⟨0, ?_⟩, fun i hi => ?_⟩⟩⟩
 · (subst hL; subst hQ; simp only [L2, L3, std] at *; try simp only [syS, reduceCtorEq, Int.reduceToNat, Int.reduceAdd, Int.reduceSub] at *)
   exact h6
 · (subst hL; subst hQ; simp only [L2, L3, std] at *; try simp only [syS, reduceCtorEq, Int.reduceToNat, Int.reduceAdd, Int.reduceSub] at *)
   show _ <= 1000000
   omega
 · (subst hL; subst hQ; simp only [L2, L3, std] at *; try simp only [syS, reduceCtorEq, Int.reduceToNat, Int.reduceAdd, Int.reduceSub] at *)
   unfold yfo yae
   rw [zj7, if_pos g1]
 · (subst hL; subst hQ; simp only [L2, L3, std] at *; try simp only [syS, reduceCtorEq, Int.reduceToNat, Int.reduceAdd, Int.reduceSub] at *)
   show _ <= 1000000000
   omega
 · (subst hL; subst hQ; simp only [L2, L3, std] at *; try simp only [syS, reduceCtorEq, Int.reduceToNat, Int.reduceAdd, Int.reduceSub] at *)
   unfold yfo yae
   rw [zj7, if_neg (by rw [g1]; decide), zj7, if_pos g2]
 · (cbv; try simp only [syT, true_and, and_true])
   (subst hL; subst hQ; simp only [L2, L3, std] at *; try simp only [syS, reduceCtorEq, Int.reduceToNat, Int.reduceAdd, Int.reduceSub] at *)
   exact ⟨rfl, Nat.zero_le _⟩
 · have hi2 : zt4 c.cs i := by
     have h := hi
     rw [hL] at h
     exact h
   clear hi
   (cbv; try simp only [syT, true_and, and_true])
   refine ⟨fun hlt => ⟨?_, fun g3 => ⟨i + 1, ?_⟩, fun g3 => ⟨i + 1, ?_⟩⟩, fun hge => ⟨fun g3 => ?_, fun g3 => ⟨⟨0, ?_⟩, fun j hj => ?_⟩⟩⟩
   all_goals try (cbv; try simp only [syT, true_and, and_true])
   · (subst hL; subst hQ; simp only [L2, L3, std] at *; try simp only [syS, reduceCtorEq, Int.reduceToNat, Int.reduceAdd, Int.reduceSub] at *)
     have : zad c.cs = c.cs.length := rfl
     omega
   · (subst hL; subst hQ; simp only [L2, L3, std] at *; try simp only [syS, reduceCtorEq, Int.reduceToNat, Int.reduceAdd, Int.reduceSub] at *)
     have : zad c.cs = c.cs.length := rfl
     have hz : c.cs.length <= 1000000 := h1.2.1
     rw [znq (by omega), decide_eq_true g3, Bool.or_true]
     exact ⟨rfl, by omega, by show i + 1 <= c.cs.length; omega, by show c.cs.length - (i + 1) + 1 <= c.cs.length - i; omega⟩
   · (subst hL; subst hQ; simp only [L2, L3, std] at *; try simp only [syS, reduceCtorEq, Int.reduceToNat, Int.reduceAdd, Int.reduceSub] at *)
     have : zad c.cs = c.cs.length := rfl
     have hz : c.cs.length <= 1000000 := h1.2.1
     rw [znq (by omega), decide_eq_false g3, Bool.or_false]
     exact ⟨rfl, by omega, by show i + 1 <= c.cs.length; omega, by show c.cs.length - (i + 1) + 1 <= c.cs.length - i; omega⟩
   · (subst hL; subst hQ; simp only [L2, L3, std] at *; try simp only [syS, reduceCtorEq, Int.reduceToNat, Int.reduceAdd, Int.reduceSub] at *)
     have : zad c.cs = c.cs.length := rfl
     rw [zrk (by omega)] at g3
     unfold yfo yae
     rw [zj7, if_neg (by rw [g1]; decide), zj7, if_neg (by rw [g2]; decide), g3]
     show (12 : Int) = zj7 [12, soZ _ 11]
     rfl
   · (subst hL; subst hQ; simp only [L2, L3, std] at *; try simp only [syS, reduceCtorEq, Int.reduceToNat, Int.reduceAdd, Int.reduceSub] at *)
     exact ⟨Nat.zero_le _, fun q hq => absurd hq (Nat.not_lt_zero _)⟩
   · have hj2 : yvk l.rs k.toNat j := by
       have h := hj
       rw [hL] at h
       exact h
     clear hj
     have hq : j < k.toNat -> (zb5 l.rs j).h.length <= 300 := fun h => by
       have hm2 : zb5 l.rs j ∈ l.rs := by rw [zb5, zak (V := rtV) (by omega)]; exact List.getElem_mem _
       have hr2 := h2 _ hm2
       simp only [zdu, Bool.and_eq_true, decide_eq_true_eq] at hr2
       omega
     have hkI : ((k.toNat : Nat) : Int) = k := Int.toNat_of_nonneg h6.1
     have e2 : zad c.cs = c.cs.length := rfl
     have e4 : zad l.rs = l.rs.length := rfl
     refine ⟨fun hlt => ⟨?_, ?_, ?_, fun g4 => ⟨?_, fun g5 => ?_, fun g5 => ⟨j + 1, ?_⟩⟩, fun g4 => ⟨j + 1, ?_⟩⟩, fun hge => ?_⟩
     all_goals try (cbv; try simp only [syT, true_and, and_true])
     · (subst hL; subst hQ; simp only [L2, L3, std] at *; try simp only [syS, reduceCtorEq, Int.reduceToNat, Int.reduceAdd, Int.reduceSub] at *)
       omega
     · (subst hL; subst hQ; simp only [L2, L3, std] at *; try simp only [syS, reduceCtorEq, Int.reduceToNat, Int.reduceAdd, Int.reduceSub] at *)
       have := hq (by omega)
       show _ <= 1000000000
       omega
     · (subst hL; subst hQ; simp only [L2, L3, std] at *; try simp only [syS, reduceCtorEq, Int.reduceToNat, Int.reduceAdd, Int.reduceSub] at *)
       show _ <= 1000000000
       omega
     · (subst hL; subst hQ; simp only [L2, L3, std] at *; try simp only [syS, reduceCtorEq, Int.reduceToNat, Int.reduceAdd, Int.reduceSub] at *)
       omega
     · (subst hL; subst hQ; simp only [L2, L3, std] at *; try simp only [syS, reduceCtorEq, Int.reduceToNat, Int.reduceAdd, Int.reduceSub] at *)
       rw [zuj g1 g2 g3 (by omega), yag (j := j) (by omega) (by omega) (by rw [rtP, decide_eq_true g4, decide_eq_true g5]; rfl)]; rfl
     · (subst hL; subst hQ; simp only [L2, L3, std] at *; try simp only [syS, reduceCtorEq, Int.reduceToNat, Int.reduceAdd, Int.reduceSub] at *)
       have hz : l.rs.length <= 1000000 := h3
       have hj3 := hj2.1
       refine ⟨by omega, ⟨by omega, fun q hq2 => ?_⟩, by show k.toNat - (j + 1) + 1 <= k.toNat - j; omega⟩
       by_cases h : q < j
       · exact hj2.2 q h
       · obtain rfl : q = j := by omega
         rw [rtP, decide_eq_false g5, Bool.and_false]
     · (subst hL; subst hQ; simp only [L2, L3, std] at *; try simp only [syS, reduceCtorEq, Int.reduceToNat, Int.reduceAdd, Int.reduceSub] at *)
       have hz : l.rs.length <= 1000000 := h3
       have hj3 := hj2.1
       refine ⟨by omega, ⟨by omega, fun q hq2 => ?_⟩, by show k.toNat - (j + 1) + 1 <= k.toNat - j; omega⟩
       by_cases h : q < j
       · exact hj2.2 q h
       · obtain rfl : q = j := by omega
         rw [rtP, decide_eq_false g4, Bool.false_and]
     · (subst hL; subst hQ; simp only [L2, L3, std] at *; try simp only [syS, reduceCtorEq, Int.reduceToNat, Int.reduceAdd, Int.reduceSub] at *)
       have hj3 := hj2.1
       obtain rfl : j = k.toNat := by omega
       rw [zuj g1 g2 g3 (by omega), yfm (by omega) hj2]; rfl
end Sy
end Go.Proofs.YthppjaoicibeiaaGreatDoor
namespace Go.Proofs.YthppjaoicibeiaaGreatDoor
namespace Sy
open Go Go.RowKit
set_option maxRecDepth 100000
set_option linter.unusedSimpArgs false
set_option linter.unusedVariables false
def kL0 (x : Ls) : Int := if zfj x.n = false then 4 else 0
def kL1 (l : List Ls) (i k : Nat) : Int := if kL0 (za4 l i) = 0 /\ ((l.take k).any fun y => decide (y.n = (za4 l i).n)) = true then 11 else kL0 (za4 l i)
def kL2 (l : List Ls) (i : Nat) : Int := if kL1 l i i = 0 /\ (za4 l i).pl.p = 0 then 7 else kL1 l i i
def kL3 (l : List Ls) (i k : Nat) : Int := if kL2 l i = 0 /\ ((l.take k).any fun y => zgq y.pl (za4 l i).pl) = true then 13 else kL2 l i
def kL4 (l : List Ls) (i : Nat) : Int := if kL3 l i i = 0 /\ (za4 l i).rs.length = 0 then 12 else kL3 l i i
def kC0 (x : Cl) : Int := if zfj x.n = false then 4 else 0
def kC1 (l : List Cl) (i k : Nat) : Int := if kC0 (za5 l i) = 0 /\ ((l.take k).any fun y => decide (y.n = (za5 l i).n)) = true then 11 else kC0 (za5 l i)
def kC2 (l : List Cl) (i : Nat) : Int := if kC1 l i i = 0 /\ (za5 l i).es.length = 0 then 12 else kC1 l i i
def kE0 (x : Ep) : Int := if zxi x = true then 7 else 0
def kE1 (l : List Ep) (i k : Nat) : Int := if kE0 (zb6 l i) = 0 /\ ((l.take k).any fun y => decide (y.pl = (zb6 l i).pl)) = true then 11 else kE0 (zb6 l i)
theorem zks {α : Type} {l : List α} {k : Nat} (h : k < l.length) (p : α -> Bool) : (l.take (k + 1)).any p = ((l.take k).any p || p l[k]) := by
 rw [List.take_succ_eq_append_getElem h, List.any_append]; simp
theorem ym6 (l : List Ls) (s : List UInt8) : yp6 (l.map Ls.n) s = l.any fun y => decide (y.n = s) := by
 rw [Bool.eq_iff_iff, zv4, List.any_eq_true, List.mem_map]
 simp
theorem yge (l : List Cl) (s : List UInt8) : yp6 (l.map Cl.n) s = l.any fun y => decide (y.n = s) := by
 rw [Bool.eq_iff_iff, zv4, List.any_eq_true, List.mem_map]
 simp
theorem yc5 (l : List Ls) (i : Nat) : kL4 l i = yby (za4 l i) (l.take i) := by
 unfold kL4 kL3 kL2 kL1 kL0 yby ym3 soZ
 rw [ym6]
 generalize ((l.take i).any fun y => decide (y.n = (za4 l i).n)) = b1
 generalize ((l.take i).any fun y => zgq y.pl (za4 l i).pl) = b2
 generalize zfj (za4 l i).n = b0
 by_cases h1 : (za4 l i).pl.p = 0 <;> by_cases h2 : (za4 l i).rs.length = 0 <;> cases b0 <;> cases b1 <;> cases b2 <;> simp [zj7, h1, h2]
theorem yc6 (l : List Cl) (i : Nat) : kC2 l i = yjv (za5 l i) (l.take i) := by
 unfold kC2 kC1 kC0 yjv ym3 soZ
 rw [yge]
 generalize ((l.take i).any fun y => decide (y.n = (za5 l i).n)) = b1
 generalize zfj (za5 l i).n = b0
 by_cases h2 : (za5 l i).es.length = 0 <;> cases b0 <;> cases b1 <;> simp [zj7, h2]
theorem yjh (l : List Ep) (i : Nat) : kE1 l i i = yjp (zb6 l i) (l.take i) := by
 unfold kE1 kE0 yjp soZ zr8
 show _ = zj7 [_, if (l.take i).any (fun y => decide (y.pl = (zb6 l i).pl)) = true then _ else _]
 generalize ((l.take i).any fun y => decide (y.pl = (zb6 l i).pl)) = b1
 generalize zxi (zb6 l i) = b0
 cases b0 <;> cases b1 <;> simp [zj7]
theorem ymn {l : List Ls} {i k : Nat} (h : k < l.length) : kL1 l i (k + 1) = if kL1 l i k = 0 /\ (za4 l k).n = (za4 l i).n then 11 else kL1 l i k := by
 unfold kL1
 rw [zks h, show l[k] = za4 l k by rw [za4, zak (V := lsV) h]]
 generalize ((l.take k).any fun y => decide (y.n = (za4 l i).n)) = b1
 generalize kL0 (za4 l i) = z
 by_cases h1 : (za4 l k).n = (za4 l i).n <;> by_cases h2 : z = 0 <;> cases b1 <;> simp [h1, h2]
theorem ymm {l : List Ls} {i k : Nat} (h : k < l.length) : kL3 l i (k + 1) = if kL3 l i k = 0 /\ zgq (za4 l k).pl (za4 l i).pl = true then 13 else kL3 l i k := by
 unfold kL3
 rw [zks h, show l[k] = za4 l k by rw [za4, zak (V := lsV) h]]
 generalize ((l.take k).any fun y => zgq y.pl (za4 l i).pl) = b1
 generalize kL2 l i = z
 generalize zgq (za4 l k).pl (za4 l i).pl = b2
 by_cases h2 : z = 0 <;> cases b1 <;> cases b2 <;> simp [h2]
theorem ymp {l : List Cl} {i k : Nat} (h : k < l.length) : kC1 l i (k + 1) = if kC1 l i k = 0 /\ (za5 l k).n = (za5 l i).n then 11 else kC1 l i k := by
 unfold kC1
 rw [zks h, show l[k] = za5 l k by rw [za5, zak (V := clV) h]]
 generalize ((l.take k).any fun y => decide (y.n = (za5 l i).n)) = b1
 generalize kC0 (za5 l i) = z
 by_cases h1 : (za5 l k).n = (za5 l i).n <;> by_cases h2 : z = 0 <;> cases b1 <;> simp [h1, h2]
theorem ymo {l : List Ep} {i k : Nat} (h : k < l.length) : kE1 l i (k + 1) = if kE1 l i k = 0 /\ (zb6 l k).pl = (zb6 l i).pl then 11 else kE1 l i k := by
 unfold kE1
 rw [zks h, show l[k] = zb6 l k by rw [zb6, zak (V := epV) h]]
 generalize ((l.take k).any fun y => decide (y.pl = (zb6 l i).pl)) = b1
 generalize kE0 (zb6 l i) = z
 by_cases h1 : (zb6 l k).pl = (zb6 l i).pl <;> by_cases h2 : z = 0 <;> cases b1 <;> simp [h1, h2]
theorem yvu (l : List Ls) (i : Nat) : kL1 l i 0 = kL0 (za4 l i) := by simp [kL1]
theorem yvt (l : List Ls) (i : Nat) : kL3 l i 0 = kL2 l i := by simp [kL3]
theorem yvw (l : List Cl) (i : Nat) : kC1 l i 0 = kC0 (za5 l i) := by simp [kC1]
theorem yvv (l : List Ep) (i : Nat) : kE1 l i 0 = kE0 (zb6 l i) := by simp [kE1]
end Sy
end Go.Proofs.YthppjaoicibeiaaGreatDoor
namespace Go.Proofs.YthppjaoicibeiaaGreatDoor
namespace Sy
open Go Go.RowKit
set_option maxRecDepth 100000
set_option linter.unusedSimpArgs false
set_option linter.unusedVariables false
def yu2 (l : List Rt) (i : Nat) : Prop := leM l i
def yu3 (l : List Ep) (i : Nat) : Prop := leM l i
noncomputable def allA (L : zaa) (c : Cf) : Nat -> St -> Option Ann := fun id st => match id with
 | 0 => some ⟨Nat, fun i => [(29, .int .i64 (L zav i)), (3, .ref 3 0)], fun i => [(3, .box 56 [.sl 901 2 0 (L zad (L2 L vfL c i))]), (901, zqy L (L2 L vfL c i))], [1, 4, 27, 28], [1], fun i => L2 L yc2 (L Cf.ls c) i, fun i => L2 L yna (L Cf.ls c) i⟩
 | 2 => zal st 29 fun k => some ⟨Nat, fun j => [(47, .int .i64 (L zav j)), (3, .ref 3 0)], fun j => [(3, .box 56 [.sl 902 2 0 (L zad (L3 L vgL c (L Int.toNat k) j))]), (902, zqy L (L3 L vgL c (L Int.toNat k) j))], [1, 4, 7, 8, 27, 28, 29, 45, 46], [1, 8], fun j => L2 L yu2 (L Ls.rs (L2 L za4 (L Cf.ls c) (L Int.toNat k))) j, fun j => L2 L ysc (L Ls.rs (L2 L za4 (L Cf.ls c) (L Int.toNat k))) j⟩
 | 4 => some ⟨Nat, fun i => [(69, .int .i64 (L zav i)), (3, .ref 3 0)], fun i => [(3, .box 56 [.sl 903 2 0 (L zad (L2 L vfC c i))]), (903, zqy L (L2 L vfC c i))], [1, 4, 67, 68], [1], fun i => L2 L zt4 (L Cf.cs c) i, fun i => L2 L yeq (L Cf.cs c) i⟩
 | 6 => zal st 69 fun k => some ⟨Nat, fun j => [(87, .int .i64 (L zav j)), (3, .ref 3 0)], fun j => [(3, .box 56 [.sl 904 2 0 (L zad (L3 L vgC c (L Int.toNat k) j))]), (904, zqy L (L3 L vgC c (L Int.toNat k) j))], [1, 4, 11, 12, 67, 68, 69, 85, 86], [1, 12], fun j => L2 L yu3 (L Cl.es (L2 L za5 (L Cf.cs c) (L Int.toNat k))) j, fun j => L2 L goEp (L Cl.es (L2 L za5 (L Cf.cs c) (L Int.toNat k))) j⟩
 | _ => none
noncomputable def ye7 (L : zaa) : zbg := (17, fun xs => match xs with
 | [x] => some (L zd2 x /\ L zf0 (L zah x), zqn L (L zi7 (L zah x)))
 | _ => none)
theorem ykk {l : List Ls} {i : Nat} (h : i <= l.length) : zoq (.lst 7 i fun q => lsC std (za4 l q)) /\ zii (.lst 7 i fun q => lsC std (za4 l q)) = l.take i := zue zcd l h fun _ _ _ _ => rfl
theorem ykj {l : List Rt} {i : Nat} (h : i <= l.length) : zsv (.lst 4 i fun q => rtC std (zb5 l q)) /\ zk6 (.lst 4 i fun q => rtC std (zb5 l q)) = l.take i := zue zea l h fun _ _ _ _ => rfl
theorem ykm {l : List Cl} {i : Nat} (h : i <= l.length) : zjh (.lst 2 i fun q => clC std (za5 l q)) /\ zgh (.lst 2 i fun q => clC std (za5 l q)) = l.take i := zue zc3 l h fun _ _ _ _ => rfl
theorem ykl {l : List Ep} {i : Nat} (h : i <= l.length) : zk7 (.lst 6 i fun q => epC std (zb6 l q)) /\ zhm (.lst 6 i fun q => epC std (zb6 l q)) = l.take i := zue zct l h fun _ _ _ _ => rfl
theorem zo6 {w : List UInt8} {n : Nat} {i : List Int} {o : List Ft} (hn : n = i.length) (hw : w.length <= 100) (hi : i.length <= 2) (ho : o.length <= 1000) : okJ (.lst 1 n fun k x => .int .i64 (zdf i k)) /\ yk8 w (rdJ (.lst 1 n fun k x => .int .i64 (zdf i k))) /\ ym0 (.lst 2 (zad o) fun q => ftC std (zgi o q)) /\ upM (zad o) := by
 obtain ⟨h1, h2⟩ := zhi i hn
 rw [h2]
 refine ⟨h1, ⟨hw, hi⟩, yvh _, ?_⟩
 show o.length <= 1000000
 omega
theorem zuc {e : Int} {w : List UInt8} {n : Nat} {i : List Int} {o o' : List Ft} (hn : n = i.length) (h : tlZ e w i o = o') : (zad (tlZ e w (rdJ (.lst 1 n fun k x => .int .i64 (zdf i k))) (zx9 (.lst 2 (zad o) fun q => ftC std (zgi o q)))) = zad o' /\ ∀ q j, q < zad o' -> j < 2 -> ftC std (zgi (tlZ e w (rdJ (.lst 1 n fun k x => .int .i64 (zdf i k))) (zx9 (.lst 2 (zad o) fun q => ftC std (zgi o q)))) q) j = ftC std (zgi o' q) j) := by
 rw [(zhi i hn).2, yv8, h]
 exact ⟨rfl, fun _ _ _ _ => rfl⟩
theorem zpn : zaz Tryz.prog (ye7 std) := by
 intro xs p r h hp
 dsimp only [ye7] at h |-
 split at h <;> cases h
 try simp only [L2, L3, std] at hp |-
 rename_i x
 refine zk2 zbi hp.1 ?_
 have hp := hp.2
 show za7 _ _ [.agg [.int .u64 (zah x).v, zd3 std (zah x).ls, zcn std (zah x).cs]] (zqn std (zi7 (zah x)))
 have hp : zf0 (zah x) := hp
 generalize zah x = c at hp |-
 have hlt := hp.1
 refine za2 (T := tt) (S := fun L => zcb [yib L, yme L, yo2 L, ynn L, ylb L] [yuu L]) (lo := fun L => allA L c) (lb := noA) 5 (fn := Tryz.f17) (xs := fun L => [.agg [.int .u64 (L Cf.v c), zd3 L (L Cf.ls c), zcn L (L Cf.cs c)]]) rfl rfl (by kernel_rfl) (by kernel_rfl) rfl zab (zay ⟨zw2, ygk, yi6, yhs, yfl, trivial⟩ ⟨yki, trivial⟩) (by kernel_rfl) ?_
 intro L P' Q' hL hP hQ
 have hG : ∀ y : Cf, L zah (.agg [.int .u64 (L Cf.v y), .lst 7 (L zad (L Cf.ls y)) (fun i => lsC L (L (L za4 (L Cf.ls y)) i)), .lst 2 (L zad (L Cf.cs y)) (fun i => clC L (L (L za5 (L Cf.cs y)) i))]) = y := by subst hL; exact fun y => (gK zbi y _ rfl).2
 have hO : ∀ y : Cf, L zd2 (.agg [.int .u64 (L Cf.v y), .lst 7 (L zad (L Cf.ls y)) (fun i => lsC L (L (L za4 (L Cf.ls y)) i)), .lst 2 (L zad (L Cf.cs y)) (fun i => clC L (L (L za5 (L Cf.cs y)) i))]) := by subst hL; exact fun y => (gK zbi y _ rfl).1
 (cbv; try simp only [syT, true_and, and_true])
 simp only [hG, hO, true_and]
 have e1 : zad c.ls = c.ls.length := rfl
 have e2 : zad c.cs = c.cs.length := rfl
 refine ⟨?_, fun h1 => ?_, fun h1 => ⟨⟨0, ?_⟩, fun i hi => ?_⟩⟩
 · (subst hL; subst hQ; simp only [L2, L3, std] at *; try simp only [syS, reduceCtorEq, Int.reduceToNat, Int.reduceAdd, Int.reduceSub] at *)
   exact hp
 · (subst hL; subst hQ; simp only [L2, L3, std] at *; try simp only [syS, reduceCtorEq, Int.reduceToNat, Int.reduceAdd, Int.reduceSub] at *)
   clear hG hO
   rw [zi7, if_pos h1]
   unfold zqn
   rw [zex]
   refine ⟨rfl, fun q j hq hj => ?_⟩
   obtain rfl : q = 0 := by have : q < 1 := hq; omega
   match j, hj with
   | 0, _ => rfl
   | 1, _ => rfl
 · (cbv; try simp only [syT, true_and, and_true])
   (subst hL; subst hQ; simp only [L2, L3, std] at *; try simp only [syS, reduceCtorEq, Int.reduceToNat, Int.reduceAdd, Int.reduceSub] at *)
   exact ⟨rfl, rfl, Nat.zero_le _⟩
 · have hi2 : yc2 c.ls i := by
     have h := hi
     rw [hL] at h
     exact h
   clear hi
   (cbv; try simp only [syT, true_and, and_true])
   have hE1 : ∀ y : Ls, L zf2 (.agg [.str (L Ls.n y), .int .u8 (L Pl.a (L Ls.pl y)), .int .u8 (L Pl.b (L Ls.pl y)), .int .u8 (L Pl.c (L Ls.pl y)), .int .u8 (L Pl.d (L Ls.pl y)), .int .u16 (L Pl.p (L Ls.pl y)), .lst 4 (L zad (L Ls.rs y)) (fun i => rtC L (L (L zb5 (L Ls.rs y)) i))]) = y := by subst hL; exact fun y => (gK zcd y _ rfl).2
   have hE2 : ∀ y : Ls, L zji (.agg [.str (L Ls.n y), .int .u8 (L Pl.a (L Ls.pl y)), .int .u8 (L Pl.b (L Ls.pl y)), .int .u8 (L Pl.c (L Ls.pl y)), .int .u8 (L Pl.d (L Ls.pl y)), .int .u16 (L Pl.p (L Ls.pl y)), .lst 4 (L zad (L Ls.rs y)) (fun i => rtC L (L (L zb5 (L Ls.rs y)) i))]) := by subst hL; exact fun y => (gK zcd y _ rfl).1
   have hRa : ∀ y : Rt, L zla (.agg [.str (L Rt.h y), .str (L Rt.p y), .str (L Rt.c y), .int .u64 (L Rt.i y)]) = y := by subst hL; exact fun y => (gK zea y _ rfl).2
   have hRb : ∀ y : Rt, L zxh (.agg [.str (L Rt.h y), .str (L Rt.p y), .str (L Rt.c y), .int .u64 (L Rt.i y)]) := by subst hL; exact fun y => (gK zea y _ rfl).1
   have hCa : ∀ y : Cl, L zfz (.agg [.str (L Cl.n y), .lst 6 (L zad (L Cl.es y)) (fun i => epC L (L (L zb6 (L Cl.es y)) i))]) = y := by subst hL; exact fun y => (gK zc3 y _ rfl).2
   have hCb : ∀ y : Cl, L zhn (.agg [.str (L Cl.n y), .lst 6 (L zad (L Cl.es y)) (fun i => epC L (L (L zb6 (L Cl.es y)) i))]) := by subst hL; exact fun y => (gK zc3 y _ rfl).1
   have hXa : ∀ y : Ep, L zij (.agg [.int .u8 (L Pl.a (L Ep.pl y)), .int .u8 (L Pl.b (L Ep.pl y)), .int .u8 (L Pl.c (L Ep.pl y)), .int .u8 (L Pl.d (L Ep.pl y)), .int .u16 (L Pl.p (L Ep.pl y)), .int .i64 (L Ep.w y)]) = y := by subst hL; exact fun y => (gK zct y _ rfl).2
   have hXb : ∀ y : Ep, L zlf (.agg [.int .u8 (L Pl.a (L Ep.pl y)), .int .u8 (L Pl.b (L Ep.pl y)), .int .u8 (L Pl.c (L Ep.pl y)), .int .u8 (L Pl.d (L Ep.pl y)), .int .u16 (L Pl.p (L Ep.pl y)), .int .i64 (L Ep.w y)]) := by subst hL; exact fun y => (gK zct y _ rfl).1
   simp only [hG, hO, hE1, hE2, true_and]
   refine ⟨fun hlt1 => ⟨?_, ?_, ?_, ?_, ?_, ?_, ⟨0, ?_⟩, fun j hj => ?_⟩, fun hge => ⟨⟨0, ?_⟩, fun k hk => ?_⟩⟩
   · (subst hL; subst hQ; simp only [L2, L3, std] at *; try simp only [syS, reduceCtorEq, Int.reduceToNat, Int.reduceAdd, Int.reduceSub] at *)
     omega
   · (subst hL; subst hQ; simp only [L2, L3, std] at *; try simp only [syS, reduceCtorEq, Int.reduceToNat, Int.reduceAdd, Int.reduceSub] at *)
     omega
   · (subst hL; subst hQ; simp only [L2, L3, std] at *; try simp only [syS, reduceCtorEq, Int.reduceToNat, Int.reduceAdd, Int.reduceSub] at *)
     clear hG hO hE1 hE2 hRa hRb hCa hCb hXa hXb
     have hi2 : i <= c.ls.length := hi2
     rw [(ykk hi2).2]
     refine ⟨(ykk hi2).1, ?_⟩
     have := (zjn hlt).1
     show (c.ls.take i).length <= 1000000
     rw [List.length_take]; omega
   · exact ⟨rfl, fun _ _ _ _ => trivial⟩
   · exact fun _ _ _ _ => trivial
   · (subst hL; subst hQ; simp only [L2, L3, std] at *; try simp only [syS, reduceCtorEq, Int.reduceToNat, Int.reduceAdd, Int.reduceSub] at *)
     clear hG hO hE1 hE2 hRa hRb hCa hCb hXa hXb
     have hi2 : i <= c.ls.length := hi2
     have := zkx hlt i hi2
     have := (zjn hlt).1
     exact zo6 rfl (by decide) (Nat.le_succ 1) (by omega)
   · (cbv; try simp only [syT, true_and, and_true])
     try simp only [hE1]
     (subst hL; subst hQ; simp only [L2, L3, std] at *; try simp only [syS, reduceCtorEq, Int.reduceToNat, Int.reduceAdd, Int.reduceSub] at *)
     clear hG hO hE1 hE2 hRa hRb hCa hCb hXa hXb
     have hi2 : i <= c.ls.length := hi2
     rw [(ykk hi2).2]
     have h := zuc (e := yby (za4 c.ls i) (c.ls.take i)) (w := yka) (n := 1) (i := [(i : Int)]) (o := vfL c i) (o' := vgL c i 0) rfl (ykb c i).symm
     exact ⟨h, h.1, Nat.zero_le _⟩
   · have hj2 : yu2 (za4 c.ls i).rs j := by
       have h := hj
       rw [hL] at h
       exact h
     clear hj
     (cbv; try simp only [syT, true_and, and_true])
     simp only [hG, hO, hE1, hE2, hRa, hRb, true_and]
     refine ⟨fun hlt2 => ⟨?_, ?_, ?_, ?_, ?_, ?_, ⟨j + 1, ?_⟩⟩, fun hge => ⟨i + 1, ?_⟩⟩
     · (subst hL; subst hQ; simp only [L2, L3, std] at *; try simp only [syS, reduceCtorEq, Int.reduceToNat, Int.reduceAdd, Int.reduceSub] at *)
       omega
     · (subst hL; subst hQ; simp only [L2, L3, std] at *; try simp only [syS, reduceCtorEq, Int.reduceToNat, Int.reduceAdd, Int.reduceSub] at *)
       omega
     · (subst hL; subst hQ; simp only [L2, L3, std] at *; try simp only [syS, reduceCtorEq, Int.reduceToNat, Int.reduceAdd, Int.reduceSub] at *)
       clear hG hO hE1 hE2 hRa hRb hCa hCb hXa hXb
       have hj2 : j <= (za4 c.ls i).rs.length := hj2
       have hj3 : j < (za4 c.ls i).rs.length := by have : zad (za4 c.ls i).rs = (za4 c.ls i).rs.length := rfl; omega
       obtain ⟨g1, g2, g3⟩ := zsz hlt (show i < c.ls.length by omega)
       rw [(ykj hj2).2]
       refine ⟨(ykj hj2).1, zt0 hlt, g2 _ (by rw [zb5, zak (V := rtV) hj3]; exact List.getElem_mem _), fun x hx => g2 x (List.mem_of_mem_take hx), ?_⟩
       show (List.take j _).length <= 1000000
       rw [List.length_take]; omega
     · exact ⟨rfl, fun _ _ _ _ => trivial⟩
     · exact fun _ _ _ _ => trivial
     · (subst hL; subst hQ; simp only [L2, L3, std] at *; try simp only [syS, reduceCtorEq, Int.reduceToNat, Int.reduceAdd, Int.reduceSub] at *)
       clear hG hO hE1 hE2 hRa hRb hCa hCb hXa hXb
       have hi2 : i < c.ls.length := by omega
       exact zo6 rfl (by decide) (Nat.le_refl 2) (zzd hlt hi2 hj2)
     · (cbv; try simp only [syT, true_and, and_true])
       try simp only [hRa]
       (subst hL; subst hQ; simp only [L2, L3, std] at *; try simp only [syS, reduceCtorEq, Int.reduceToNat, Int.reduceAdd, Int.reduceSub] at *)
       clear hG hO hE1 hE2 hRa hRb hCa hCb hXa hXb
       have hj2 : j <= (za4 c.ls i).rs.length := hj2
       have hj3 : j < (za4 c.ls i).rs.length := by have : zad (za4 c.ls i).rs = (za4 c.ls i).rs.length := rfl; omega
       have h12 := (zsz hlt (show i < c.ls.length by omega)).1
       rw [(ykj hj2).2]
       have h := zuc (e := yae c (zb5 (za4 c.ls i).rs j) ((za4 c.ls i).rs.take j)) (w := ytr) (n := 2) (i := [(i : Int), (j : Int)]) (o := vgL c i j) (o' := vgL c i (j + 1)) rfl (zo1 c i j).symm
       exact ⟨h, h.1, by omega, by show j + 1 <= (za4 c.ls i).rs.length; omega, by show (za4 c.ls i).rs.length - (j + 1) + 1 <= (za4 c.ls i).rs.length - j; omega⟩
     · (cbv; try simp only [syT, true_and, and_true])
       (subst hL; subst hQ; simp only [L2, L3, std] at *; try simp only [syS, reduceCtorEq, Int.reduceToNat, Int.reduceAdd, Int.reduceSub] at *)
       clear hG hO hE1 hE2 hRa hRb hCa hCb hXa hXb
       have hj2 : j <= (za4 c.ls i).rs.length := hj2
       have hj3 : j = (za4 c.ls i).rs.length := by have : zad (za4 c.ls i).rs = (za4 c.ls i).rs.length := rfl; omega
       have h12 := (zjn hlt).1
       rw [zze c hj3]
       exact ⟨⟨rfl, fun _ _ _ _ => rfl⟩, rfl, by omega, by show i + 1 <= c.ls.length; omega, by show c.ls.length - (i + 1) + 1 <= c.ls.length - i; omega⟩
   · (cbv; try simp only [syT, true_and, and_true])
     (subst hL; subst hQ; simp only [L2, L3, std] at *; try simp only [syS, reduceCtorEq, Int.reduceToNat, Int.reduceAdd, Int.reduceSub] at *)
     clear hG hO hE1 hE2 hRa hRb hCa hCb hXa hXb
     have hi2 : i <= c.ls.length := hi2
     obtain rfl : i = c.ls.length := by omega
     exact ⟨⟨rfl, fun _ _ _ _ => rfl⟩, rfl, Nat.zero_le _⟩
   · have hk2 : zt4 c.cs k := by
       have h := hk
       rw [hL] at h
       exact h
     clear hk
     (cbv; try simp only [syT, true_and, and_true])
     simp only [hG, hO, hCa, hCb, true_and]
     refine ⟨fun hlt3 => ⟨?_, ?_, ?_, ?_, ?_, ?_, ⟨0, ?_⟩, fun j hj => ?_⟩, fun hge => ?_⟩
     · (subst hL; subst hQ; simp only [L2, L3, std] at *; try simp only [syS, reduceCtorEq, Int.reduceToNat, Int.reduceAdd, Int.reduceSub] at *)
       omega
     · (subst hL; subst hQ; simp only [L2, L3, std] at *; try simp only [syS, reduceCtorEq, Int.reduceToNat, Int.reduceAdd, Int.reduceSub] at *)
       omega
     · (subst hL; subst hQ; simp only [L2, L3, std] at *; try simp only [syS, reduceCtorEq, Int.reduceToNat, Int.reduceAdd, Int.reduceSub] at *)
       clear hG hO hE1 hE2 hRa hRb hCa hCb hXa hXb
       have hk2 : k <= c.cs.length := hk2
       rw [(ykm hk2).2]
       refine ⟨(ykm hk2).1, ?_⟩
       have := (zjn hlt).2
       show (c.cs.take k).length <= 1000000
       rw [List.length_take]; omega
     · exact ⟨rfl, fun _ _ _ _ => trivial⟩
     · exact fun _ _ _ _ => trivial
     · (subst hL; subst hQ; simp only [L2, L3, std] at *; try simp only [syS, reduceCtorEq, Int.reduceToNat, Int.reduceAdd, Int.reduceSub] at *)
       clear hG hO hE1 hE2 hRa hRb hCa hCb hXa hXb
       have hk2 : k <= c.cs.length := hk2
       have := zky hlt k hk2
       have := (zjn hlt).2
       exact zo6 rfl (by decide) (Nat.le_succ 1) (by omega)
     · (cbv; try simp only [syT, true_and, and_true])
       try simp only [hCa]
       (subst hL; subst hQ; simp only [L2, L3, std] at *; try simp only [syS, reduceCtorEq, Int.reduceToNat, Int.reduceAdd, Int.reduceSub] at *)
       clear hG hO hE1 hE2 hRa hRb hCa hCb hXa hXb
       have hk2 : k <= c.cs.length := hk2
       rw [(ykm hk2).2]
       have h := zuc (e := yjv (za5 c.cs k) (c.cs.take k)) (w := ypr) (n := 1) (i := [(k : Int)]) (o := vfC c k) (o' := vgC c k 0) rfl (ykc c k).symm
       exact ⟨h, h.1, Nat.zero_le _⟩
     · have hj2 : yu3 (za5 c.cs k).es j := by
         have h := hj
         rw [hL] at h
         exact h
       clear hj
       (cbv; try simp only [syT, true_and, and_true])
       simp only [hG, hO, hXa, hXb, true_and]
       refine ⟨fun hlt2 => ⟨?_, ?_, ?_, ?_, ?_, ?_, ⟨j + 1, ?_⟩⟩, fun hge => ⟨k + 1, ?_⟩⟩
       · (subst hL; subst hQ; simp only [L2, L3, std] at *; try simp only [syS, reduceCtorEq, Int.reduceToNat, Int.reduceAdd, Int.reduceSub] at *)
         omega
       · (subst hL; subst hQ; simp only [L2, L3, std] at *; try simp only [syS, reduceCtorEq, Int.reduceToNat, Int.reduceAdd, Int.reduceSub] at *)
         omega
       · (subst hL; subst hQ; simp only [L2, L3, std] at *; try simp only [syS, reduceCtorEq, Int.reduceToNat, Int.reduceAdd, Int.reduceSub] at *)
         clear hG hO hE1 hE2 hRa hRb hCa hCb hXa hXb
         have hj2 : j <= (za5 c.cs k).es.length := hj2
         obtain ⟨g1, g2⟩ := zqm hlt (show k < c.cs.length by omega)
         rw [(ykl hj2).2]
         refine ⟨(ykl hj2).1, ?_⟩
         show (List.take j _).length <= 1000000
         rw [List.length_take]; omega
       · exact ⟨rfl, fun _ _ _ _ => trivial⟩
       · exact fun _ _ _ _ => trivial
       · (subst hL; subst hQ; simp only [L2, L3, std] at *; try simp only [syS, reduceCtorEq, Int.reduceToNat, Int.reduceAdd, Int.reduceSub] at *)
         clear hG hO hE1 hE2 hRa hRb hCa hCb hXa hXb
         have hk2 : k < c.cs.length := by omega
         exact zo6 rfl (by decide) (Nat.le_refl 2) (zzf hlt hk2 hj2)
       · (cbv; try simp only [syT, true_and, and_true])
         try simp only [hXa]
         (subst hL; subst hQ; simp only [L2, L3, std] at *; try simp only [syS, reduceCtorEq, Int.reduceToNat, Int.reduceAdd, Int.reduceSub] at *)
         clear hG hO hE1 hE2 hRa hRb hCa hCb hXa hXb
         have hj2 : j <= (za5 c.cs k).es.length := hj2
         have hj3 : j < (za5 c.cs k).es.length := by have : zad (za5 c.cs k).es = (za5 c.cs k).es.length := rfl; omega
         have h12 := (zqm hlt (show k < c.cs.length by omega)).1
         rw [(ykl hj2).2]
         have h := zuc (e := yjp (zb6 (za5 c.cs k).es j) ((za5 c.cs k).es.take j)) (w := yts) (n := 2) (i := [(k : Int), (j : Int)]) (o := vgC c k j) (o' := vgC c k (j + 1)) rfl (zo2 c k j).symm
         exact ⟨h, h.1, by omega, by show j + 1 <= (za5 c.cs k).es.length; omega, by show (za5 c.cs k).es.length - (j + 1) + 1 <= (za5 c.cs k).es.length - j; omega⟩
       · (cbv; try simp only [syT, true_and, and_true])
         (subst hL; subst hQ; simp only [L2, L3, std] at *; try simp only [syS, reduceCtorEq, Int.reduceToNat, Int.reduceAdd, Int.reduceSub] at *)
         clear hG hO hE1 hE2 hRa hRb hCa hCb hXa hXb
         have hj2 : j <= (za5 c.cs k).es.length := hj2
         have hj3 : j = (za5 c.cs k).es.length := by have : zad (za5 c.cs k).es = (za5 c.cs k).es.length := rfl; omega
         have h12 := (zjn hlt).2
         rw [zzg c hj3]
         exact ⟨⟨rfl, fun _ _ _ _ => rfl⟩, rfl, by omega, by show k + 1 <= c.cs.length; omega, by show c.cs.length - (k + 1) + 1 <= c.cs.length - k; omega⟩
     · (subst hL; subst hQ; simp only [L2, L3, std] at *; try simp only [syS, reduceCtorEq, Int.reduceToNat, Int.reduceAdd, Int.reduceSub] at *)
       clear hG hO hE1 hE2 hRa hRb hCa hCb hXa hXb
       have hk2 : k <= c.cs.length := hk2
       obtain rfl : k = c.cs.length := by omega
       rw [zi7, if_neg (by rw [h1]; decide)]
       unfold zqn
       rw [zex]
       exact ⟨rfl, fun _ _ _ _ => rfl⟩
end Sy
end Go.Proofs.YthppjaoicibeiaaGreatDoor
namespace Go.Proofs.YthppjaoicibeiaaGreatDoor
namespace Sy
open Go Go.RowKit
set_option maxRecDepth 100000
set_option maxHeartbeats 4000000
set_option linter.unusedSimpArgs false
set_option linter.unusedVariables false
def zk0 (L : zaa) (l : List Ft) : Ob := .row 64 2 (L zad l) (fun q => ftC L (L (L zgi l) q))
def leN (n k : Nat) : Prop := k <= n
def yrt (l : List Ls) (i : Nat) : List Rt := (za4 l i).rs
noncomputable def yv9 (L : zaa) (c : Cf) : Nat -> St -> Option Ann := fun id st => match id with
 | 0 => some ⟨Nat, fun i => [(34, .int .i64 (L zav i)), (5, .sl 901 2 0 (L zad (L2 L vfL c i)))], fun i => [(901, zk0 L (L2 L vfL c i))], [1, 32, 33], [1], fun i => L2 L yc2 (L Cf.ls c) i, fun i => L2 L yna (L Cf.ls c) i⟩
 | 1000042 => zal st 34 fun i => some ⟨Nat, fun _ => [(8, .int .i64 (L kL0 (L2 L za4 (L Cf.ls c) (L Int.toNat i))))], fun _ => [], [1, 5, 6, 7, 32, 33, 34], [1, 7, 901], fun _ => True, fun _ => 0⟩
 | 2 => zal st 34 fun i => some ⟨Nat, fun k => [(9, .int .i64 (L zav k)), (8, .int .i64 (L3 L kL1 (L Cf.ls c) (L Int.toNat i) k))], fun _ => [], [1, 5, 6, 7, 32, 33, 34], [1, 7, 901], fun k => L2 L leN (L Int.toNat i) k, fun k => L2 L goK (L Int.toNat i) k⟩
 | 1000060 => zal st 34 fun i => zal st 9 fun k => some ⟨Nat, fun _ => [(8, .int .i64 (L3 L kL1 (L Cf.ls c) (L Int.toNat i) (L zmy (L Int.toNat k))))], fun _ => [], [1, 5, 6, 7, 9, 32, 33, 34], [1, 7, 901], fun _ => True, fun _ => 0⟩
 | 1000068 => zal st 34 fun i => some ⟨Nat, fun _ => [(8, .int .i64 (L2 L kL2 (L Cf.ls c) (L Int.toNat i)))], fun _ => [], [1, 5, 6, 7, 32, 33, 34], [1, 7, 901], fun _ => True, fun _ => 0⟩
 | 2000068 => zal st 34 fun i => some ⟨Nat, fun _ => [(8, .int .i64 (L2 L kL2 (L Cf.ls c) (L Int.toNat i)))], fun _ => [], [1, 5, 6, 7, 32, 33, 34], [1, 7, 901], fun _ => True, fun _ => 0⟩
 | 4 => zal st 34 fun i => some ⟨Nat, fun k => [(10, .int .i64 (L zav k)), (8, .int .i64 (L3 L kL3 (L Cf.ls c) (L Int.toNat i) k))], fun _ => [], [1, 5, 6, 7, 32, 33, 34], [1, 7, 901], fun k => L2 L leN (L Int.toNat i) k, fun k => L2 L goK (L Int.toNat i) k⟩
 | 1000086 => zal st 34 fun i => zal st 10 fun k => some ⟨Nat, fun _ => [(8, .int .i64 (L3 L kL3 (L Cf.ls c) (L Int.toNat i) (L zmy (L Int.toNat k))))], fun _ => [], [1, 5, 6, 7, 10, 32, 33, 34], [1, 7, 901], fun _ => True, fun _ => 0⟩
 | 1000094 => zal st 34 fun i => some ⟨Nat, fun _ => [(8, .int .i64 (L2 L kL4 (L Cf.ls c) (L Int.toNat i)))], fun _ => [], [1, 5, 6, 7, 32, 33, 34], [1, 7, 901], fun _ => True, fun _ => 0⟩
 | 2000094 => zal st 34 fun i => some ⟨Nat, fun _ => [(8, .int .i64 (L2 L kL4 (L Cf.ls c) (L Int.toNat i)))], fun _ => [], [1, 5, 6, 7, 32, 33, 34], [1, 7, 901], fun _ => True, fun _ => 0⟩
 | 1000096 => zal st 34 fun i => some ⟨Nat, fun _ => [(5, .sl 902 2 0 (L zad (L3 L vgL c (L Int.toNat i) 0)))], fun _ => [(902, zk0 L (L3 L vgL c (L Int.toNat i) 0))], [1, 6, 7, 32, 33, 34], [1, 7], fun _ => True, fun _ => 0⟩
 | 6 => zal st 34 fun i => some ⟨Nat, fun j => [(108, .int .i64 (L zav j)), (5, .sl 903 2 0 (L zad (L3 L vgL c (L Int.toNat i) j)))], fun j => [(903, zk0 L (L3 L vgL c (L Int.toNat i) j))], [1, 6, 7, 32, 33, 34, 107], [1, 7], fun j => L2 L yu2 (L2 L yrt (L Cf.ls c) (L Int.toNat i)) j, fun j => L2 L ysc (L2 L yrt (L Cf.ls c) (L Int.toNat i)) j⟩
 | 1000116 => zal st 34 fun i => zal st 108 fun j => some ⟨Nat, fun _ => [(5, .sl 904 2 0 (L zad (L3 L vgL c (L Int.toNat i) (L zmy (L Int.toNat j)))))], fun _ => [(904, zk0 L (L3 L vgL c (L Int.toNat i) (L zmy (L Int.toNat j))))], [1, 6, 7, 32, 33, 34, 107, 108], [1, 7], fun _ => True, fun _ => 0⟩
 | 8 => some ⟨Nat, fun i => [(134, .int .i64 (L zav i)), (5, .sl 905 2 0 (L zad (L2 L vfC c i)))], fun i => [(905, zk0 L (L2 L vfC c i))], [1, 132, 133], [1], fun i => L2 L zt4 (L Cf.cs c) i, fun i => L2 L yeq (L Cf.cs c) i⟩
 | 1000142 => zal st 134 fun i => some ⟨Nat, fun _ => [(15, .int .i64 (L kC0 (L2 L za5 (L Cf.cs c) (L Int.toNat i))))], fun _ => [], [1, 5, 13, 14, 132, 133, 134], [1, 14, 905], fun _ => True, fun _ => 0⟩
 | 10 => zal st 134 fun i => some ⟨Nat, fun k => [(16, .int .i64 (L zav k)), (15, .int .i64 (L3 L kC1 (L Cf.cs c) (L Int.toNat i) k))], fun _ => [], [1, 5, 13, 14, 132, 133, 134], [1, 14, 905], fun k => L2 L leN (L Int.toNat i) k, fun k => L2 L goK (L Int.toNat i) k⟩
 | 1000160 => zal st 134 fun i => zal st 16 fun k => some ⟨Nat, fun _ => [(15, .int .i64 (L3 L kC1 (L Cf.cs c) (L Int.toNat i) (L zmy (L Int.toNat k))))], fun _ => [], [1, 5, 13, 14, 16, 132, 133, 134], [1, 14, 905], fun _ => True, fun _ => 0⟩
 | 1000168 => zal st 134 fun i => some ⟨Nat, fun _ => [(15, .int .i64 (L2 L kC2 (L Cf.cs c) (L Int.toNat i)))], fun _ => [], [1, 5, 13, 14, 132, 133, 134], [1, 14, 905], fun _ => True, fun _ => 0⟩
 | 2000168 => zal st 134 fun i => some ⟨Nat, fun _ => [(15, .int .i64 (L2 L kC2 (L Cf.cs c) (L Int.toNat i)))], fun _ => [], [1, 5, 13, 14, 132, 133, 134], [1, 14, 905], fun _ => True, fun _ => 0⟩
 | 1000170 => zal st 134 fun i => some ⟨Nat, fun _ => [(5, .sl 906 2 0 (L zad (L3 L vgC c (L Int.toNat i) 0)))], fun _ => [(906, zk0 L (L3 L vgC c (L Int.toNat i) 0))], [1, 13, 14, 132, 133, 134], [1, 14], fun _ => True, fun _ => 0⟩
 | 12 => zal st 134 fun i => some ⟨Nat, fun j => [(182, .int .i64 (L zav j)), (5, .sl 907 2 0 (L zad (L3 L vgC c (L Int.toNat i) j)))], fun j => [(907, zk0 L (L3 L vgC c (L Int.toNat i) j))], [1, 13, 14, 132, 133, 134, 180, 181], [1, 14], fun j => L2 L yu3 (L Cl.es (L2 L za5 (L Cf.cs c) (L Int.toNat i))) j, fun j => L2 L goEp (L Cl.es (L2 L za5 (L Cf.cs c) (L Int.toNat i))) j⟩
 | 1000205 => zal st 134 fun i => zal st 182 fun j => some ⟨Nat, fun _ => [(19, .int .i64 (L kE0 (L2 L zb6 (L Cl.es (L2 L za5 (L Cf.cs c) (L Int.toNat i))) (L Int.toNat j))))], fun _ => [], [1, 5, 13, 14, 17, 18, 132, 133, 134, 180, 181, 182], [1, 14, 18, 907], fun _ => True, fun _ => 0⟩
 | 2000205 => zal st 134 fun i => zal st 182 fun j => some ⟨Nat, fun _ => [(19, .int .i64 (L kE0 (L2 L zb6 (L Cl.es (L2 L za5 (L Cf.cs c) (L Int.toNat i))) (L Int.toNat j))))], fun _ => [], [1, 5, 13, 14, 17, 18, 132, 133, 134, 180, 181, 182], [1, 14, 18, 907], fun _ => True, fun _ => 0⟩
 | 14 => zal st 134 fun i => zal st 182 fun j => some ⟨Nat, fun k => [(20, .int .i64 (L zav k)), (19, .int .i64 (L3 L kE1 (L Cl.es (L2 L za5 (L Cf.cs c) (L Int.toNat i))) (L Int.toNat j) k))], fun _ => [], [1, 5, 13, 14, 17, 18, 132, 133, 134, 180, 181, 182], [1, 14, 18, 907], fun k => L2 L leN (L Int.toNat j) k, fun k => L2 L goK (L Int.toNat j) k⟩
 | 1000223 => zal st 134 fun i => zal st 182 fun j => zal st 20 fun k => some ⟨Nat, fun _ => [(19, .int .i64 (L3 L kE1 (L Cl.es (L2 L za5 (L Cf.cs c) (L Int.toNat i))) (L Int.toNat j) (L zmy (L Int.toNat k))))], fun _ => [], [1, 5, 13, 14, 17, 18, 20, 132, 133, 134, 180, 181, 182], [1, 14, 18, 907], fun _ => True, fun _ => 0⟩
 | 1000225 => zal st 134 fun i => zal st 182 fun j => some ⟨Nat, fun _ => [(5, .sl 908 2 0 (L zad (L3 L vgC c (L Int.toNat i) (L zmy (L Int.toNat j)))))], fun _ => [(908, zk0 L (L3 L vgC c (L Int.toNat i) (L zmy (L Int.toNat j))))], [1, 13, 14, 132, 133, 134, 180, 181, 182], [1, 14], fun _ => True, fun _ => 0⟩
 | _ => none
noncomputable def yb2 (L : zaa) : zbg := (18, fun xs => match xs with
 | [x] => some (L zd2 x /\ L zf0 (L zah x), zqn L (L zi7 (L zah x)))
 | _ => none)
theorem zvk {o o' : List Ft} {e : Int} {w w' : List UInt8} (h : o' = o ++ ftI e w) (he : ¬ e = 0) (hw : w' = w) : zad o + 1 = zad o' /\ ∀ q j, q < zad o' -> j < 2 -> zia std (zbw q (zad o)) (ftC std (zgi o q) j) (zbq .dead [.int .i64 e, .str w'] ((q - zad o) * 2 + j)) = ftC std (zgi o' q) j := by
 subst hw
 rw [ftI, if_pos he] at h
 subst h
 have e1 : zad (o ++ [⟨e, w'⟩]) = zad o + 1 := by show (o ++ _).length = _; rw [List.length_append]; rfl
 refine ⟨e1.symm, fun q j hq hj => ?_⟩
 rw [e1] at hq
 exact yco hq hj
theorem yhh {o o' : List Ft} {e : Int} {w : List UInt8} (h : o' = o ++ ftI e w) (he : e = 0) : o = o' := by
 rw [h, ftI, if_neg (fun h => h he), List.append_nil]
theorem wh1 (w : List UInt8) (i : Int) : (w ++ [32]) ++ dgI i = whZ w [i] := by rw [ypm]; simp
theorem wh2 (w : List UInt8) (i k : Int) : ((w ++ [32]) ++ dgI i) ++ [32] ++ dgI k = whZ w [i, k] := by rw [ypl]; simp
theorem yrx (c : Cf) {i j : Nat} : yfo c (za4 c.ls i) (j : Int) = yae c (zb5 (za4 c.ls i).rs j) ((za4 c.ls i).rs.take j) := by
 unfold yfo
 rw [Int.toNat_natCast]
theorem yb3 : zaz Tryz.prog (yb2 std) := by
 intro xs p r h hp
 dsimp only [yb2] at h |-
 split at h <;> cases h
 try simp only [L2, L3, std] at hp |-
 rename_i x
 refine zk2 zbi hp.1 ?_
 have hp := hp.2
 show za7 _ _ [.agg [.int .u64 (zah x).v, zd3 std (zah x).ls, zcn std (zah x).cs]] (zqn std (zi7 (zah x)))
 have hp : zf0 (zah x) := hp
 generalize zah x = c at hp |-
 have hlt := hp.1
 refine za2 (T := tt) (S := fun L => zao [yb0 L, zsc L, zsd L, zum L, yle L, ylc L]) (lo := fun L => yv9 L c) (lb := noA) 5 (fn := Tryz.f18) (xs := fun L => [.agg [.int .u64 (L Cf.v c), zd3 L (L Cf.ls c), zcn L (L Cf.cs c)]]) rfl rfl (by kernel_rfl) (by kernel_rfl) rfl zab (za3 ⟨yb1, zx1, zx2, zq6, yfp, yfn, trivial⟩) (by kernel_rfl) ?_
 intro L P' Q' hL hP hQ
 have hG : ∀ y : Cf, L zah (.agg [.int .u64 (L Cf.v y), .lst 7 (L zad (L Cf.ls y)) (fun i => lsC L (L (L za4 (L Cf.ls y)) i)), .lst 2 (L zad (L Cf.cs y)) (fun i => clC L (L (L za5 (L Cf.cs y)) i))]) = y := by subst hL; exact fun y => (gK zbi y _ rfl).2
 have hO : ∀ y : Cf, L zd2 (.agg [.int .u64 (L Cf.v y), .lst 7 (L zad (L Cf.ls y)) (fun i => lsC L (L (L za4 (L Cf.ls y)) i)), .lst 2 (L zad (L Cf.cs y)) (fun i => clC L (L (L za5 (L Cf.cs y)) i))]) := by subst hL; exact fun y => (gK zbi y _ rfl).1
 have e1 : zad c.ls = c.ls.length := rfl
 have e2 : zad c.cs = c.cs.length := rfl
 (cbv; try simp only [syT, true_and, and_true])
 simp only [hG, hO, true_and]
 refine ⟨?_, fun h1 => ?_, fun h1 => ⟨⟨0, ?_⟩, fun i hi => ?_⟩⟩
 · (subst hL; subst hQ; simp only [L2, L3, std] at *; try simp only [syS, reduceCtorEq, Int.reduceToNat, Int.reduceAdd, Int.reduceSub] at *)
   exact hp
 · (subst hL; subst hQ; simp only [L2, L3, std] at *; try simp only [syS, reduceCtorEq, Int.reduceToNat, Int.reduceAdd, Int.reduceSub] at *)
   clear hG hO
   rw [zi7, if_pos h1]
   unfold zqn
   rw [zex]
   refine ⟨rfl, fun q j hq hj => ?_⟩
   obtain rfl : q = 0 := by have : q < 1 := hq; omega
   match j, hj with
   | 0, _ => rfl
   | 1, _ => rfl
 · (cbv; try simp only [syT, true_and, and_true])
   (subst hL; subst hQ; simp only [L2, L3, std] at *; try simp only [syS, reduceCtorEq, Int.reduceToNat, Int.reduceAdd, Int.reduceSub] at *)
   exact ⟨rfl, rfl, Nat.zero_le _⟩
 · have hi2 : yc2 c.ls i := by
     have h := hi
     rw [hL] at h
     exact h
   clear hi
   (cbv; try simp only [syT, true_and, and_true])
   have hE1 : ∀ y : Ls, L zf2 (.agg [.str (L Ls.n y), .int .u8 (L Pl.a (L Ls.pl y)), .int .u8 (L Pl.b (L Ls.pl y)), .int .u8 (L Pl.c (L Ls.pl y)), .int .u8 (L Pl.d (L Ls.pl y)), .int .u16 (L Pl.p (L Ls.pl y)), .lst 4 (L zad (L Ls.rs y)) (fun i => rtC L (L (L zb5 (L Ls.rs y)) i))]) = y := by subst hL; exact fun y => (gK zcd y _ rfl).2
   have hE2 : ∀ y : Ls, L zji (.agg [.str (L Ls.n y), .int .u8 (L Pl.a (L Ls.pl y)), .int .u8 (L Pl.b (L Ls.pl y)), .int .u8 (L Pl.c (L Ls.pl y)), .int .u8 (L Pl.d (L Ls.pl y)), .int .u16 (L Pl.p (L Ls.pl y)), .lst 4 (L zad (L Ls.rs y)) (fun i => rtC L (L (L zb5 (L Ls.rs y)) i))]) := by subst hL; exact fun y => (gK zcd y _ rfl).1
   have hE3 : ∀ y : Pl, zlm L (L Pl.a y) (L Pl.b y) (L Pl.c y) (L Pl.d y) (L Pl.p y) = y := by subst hL; intro y; rfl
   try simp only [hG, hO, hE1, hE2, hE3, true_and]
   refine ⟨fun hlt1 => ⟨?_, ?_, ⟨fun g => ⟨0, ?_⟩, fun g => ⟨0, ?_⟩⟩, fun x1 _ => ?_⟩, fun hge => ?_⟩
   · (subst hL; subst hQ; simp only [L2, L3, std] at *; try simp only [syS, reduceCtorEq, Int.reduceToNat, Int.reduceAdd, Int.reduceSub] at *)
     omega
   · (subst hL; subst hQ; simp only [L2, L3, std] at *; try simp only [syS, reduceCtorEq, Int.reduceToNat, Int.reduceAdd, Int.reduceSub] at *)
     have := (zsz hlt (show i < c.ls.length by omega)).2.2
     show _ <= 1000000000
     omega
   · (cbv; try simp only [syT, true_and, and_true])
     (subst hL; subst hQ; simp only [L2, L3, std] at *; try simp only [syS, reduceCtorEq, Int.reduceToNat, Int.reduceAdd, Int.reduceSub] at *)
     rw [kL0, if_pos g]
   · (cbv; try simp only [syT, true_and, and_true])
     (subst hL; subst hQ; simp only [L2, L3, std] at *; try simp only [syS, reduceCtorEq, Int.reduceToNat, Int.reduceAdd, Int.reduceSub] at *)
     rw [kL0, if_neg (by rw [g]; decide)]
   · (cbv; try simp only [syT, true_and, and_true])
     refine ⟨⟨0, ?_⟩, fun k hk => ?_⟩
     · (cbv; try simp only [syT, true_and, and_true])
       (subst hL; subst hQ; simp only [L2, L3, std] at *; try simp only [syS, reduceCtorEq, Int.reduceToNat, Int.reduceAdd, Int.reduceSub] at *)
       exact ⟨(yvu _ _).symm, Nat.zero_le _⟩
     · have hk2 : leN i k := by
         have h := hk
         rw [hL] at h
         exact h
       clear hk
       (cbv; try simp only [syT, true_and, and_true])
       refine ⟨fun hki => ⟨fun hz => ⟨?_, ⟨fun g => ⟨0, ?_⟩, fun g => ⟨0, ?_⟩⟩, fun x2 _ => ?_⟩, fun hz => ⟨k + 1, ?_⟩⟩, fun hki => (fun hT => ⟨fun hz => ⟨⟨fun g => ⟨0, ?_⟩, fun g => ⟨0, ?_⟩⟩, hT⟩, fun hz => ?_⟩) ?_⟩
       · (subst hL; subst hQ; simp only [L2, L3, std] at *; try simp only [syS, reduceCtorEq, Int.reduceToNat, Int.reduceAdd, Int.reduceSub] at *)
         omega
       · (cbv; try simp only [syT, true_and, and_true])
         (subst hL; subst hQ; simp only [L2, L3, std] at *; try simp only [syS, reduceCtorEq, Int.reduceToNat, Int.reduceAdd, Int.reduceSub] at *)
         clear hG hO hE1 hE2 hE3
         have hi3 := (zjn hlt).1
         have hk3 : k <= i := hk2
         show 11 = kL1 c.ls i (k + 1)
         rw [ymn (by omega), if_pos ⟨hz, g⟩]
       · (cbv; try simp only [syT, true_and, and_true])
         (subst hL; subst hQ; simp only [L2, L3, std] at *; try simp only [syS, reduceCtorEq, Int.reduceToNat, Int.reduceAdd, Int.reduceSub] at *)
         clear hG hO hE1 hE2 hE3
         have hi3 := (zjn hlt).1
         have hk3 : k <= i := hk2
         show kL1 c.ls i k = kL1 c.ls i (k + 1)
         rw [ymn (by omega), if_neg (fun h => g h.2)]
       · (cbv; try simp only [syT, true_and, and_true])
         refine ⟨k + 1, ?_⟩
         (cbv; try simp only [syT, true_and, and_true])
         (subst hL; subst hQ; simp only [L2, L3, std] at *; try simp only [syS, reduceCtorEq, Int.reduceToNat, Int.reduceAdd, Int.reduceSub] at *)
         clear hG hO hE1 hE2 hE3
         have hi3 := (zjn hlt).1
         have hk3 : k <= i := hk2
         exact ⟨rfl, by omega, by show k + 1 <= i; omega, by show i - (k + 1) + 1 <= i - k; omega⟩
       · (cbv; try simp only [syT, true_and, and_true])
         (subst hL; subst hQ; simp only [L2, L3, std] at *; try simp only [syS, reduceCtorEq, Int.reduceToNat, Int.reduceAdd, Int.reduceSub] at *)
         clear hG hO hE1 hE2 hE3
         have hi3 := (zjn hlt).1
         have hk3 : k <= i := hk2
         refine ⟨?_, by omega, by show k + 1 <= i; omega, by show i - (k + 1) + 1 <= i - k; omega⟩
         rw [ymn (by omega), if_neg (fun h => hz h.1)]
       · clear hk2 hki
         intro x2 _
         (cbv; try simp only [syT, true_and, and_true])
         refine ⟨⟨0, ?_⟩, fun k hk => ?_⟩
         · (cbv; try simp only [syT, true_and, and_true])
           (subst hL; subst hQ; simp only [L2, L3, std] at *; try simp only [syS, reduceCtorEq, Int.reduceToNat, Int.reduceAdd, Int.reduceSub] at *)
           exact ⟨(yvt _ _).symm, Nat.zero_le _⟩
         · have hk2 : leN i k := by
             have h := hk
             rw [hL] at h
             exact h
           clear hk
           (cbv; try simp only [syT, true_and, and_true])
           refine ⟨fun hki => ⟨fun hz => ⟨?_, ⟨fun g => ⟨0, ?_⟩, fun g => ⟨0, ?_⟩⟩, fun x2 _ => ?_⟩, fun hz => ⟨k + 1, ?_⟩⟩, fun hki => (fun hT => ⟨fun hz => ⟨⟨fun g => ⟨0, ?_⟩, fun g => ⟨0, ?_⟩⟩, hT⟩, fun hz => ?_⟩) ?_⟩
           · (subst hL; subst hQ; simp only [L2, L3, std] at *; try simp only [syS, reduceCtorEq, Int.reduceToNat, Int.reduceAdd, Int.reduceSub] at *)
             omega
           · (cbv; try simp only [syT, true_and, and_true])
             (subst hL; subst hQ; simp only [L2, L3, std] at *; try simp only [syS, reduceCtorEq, Int.reduceToNat, Int.reduceAdd, Int.reduceSub] at *)
             clear hG hO hE1 hE2 hE3
             have hi3 := (zjn hlt).1
             have hk3 : k <= i := hk2
             show 13 = kL3 c.ls i (k + 1)
             rw [ymm (by omega), if_pos ⟨hz, g⟩]
           · (cbv; try simp only [syT, true_and, and_true])
             (subst hL; subst hQ; simp only [L2, L3, std] at *; try simp only [syS, reduceCtorEq, Int.reduceToNat, Int.reduceAdd, Int.reduceSub] at *)
             clear hG hO hE1 hE2 hE3
             have hi3 := (zjn hlt).1
             have hk3 : k <= i := hk2
             show kL3 c.ls i k = kL3 c.ls i (k + 1)
             rw [ymm (by omega), if_neg (fun h => Bool.false_ne_true (g.symm.trans h.2))]
           · (cbv; try simp only [syT, true_and, and_true])
             refine ⟨k + 1, ?_⟩
             (cbv; try simp only [syT, true_and, and_true])
             (subst hL; subst hQ; simp only [L2, L3, std] at *; try simp only [syS, reduceCtorEq, Int.reduceToNat, Int.reduceAdd, Int.reduceSub] at *)
             clear hG hO hE1 hE2 hE3
             have hi3 := (zjn hlt).1
             have hk3 : k <= i := hk2
             exact ⟨rfl, by omega, by show k + 1 <= i; omega, by show i - (k + 1) + 1 <= i - k; omega⟩
           · (cbv; try simp only [syT, true_and, and_true])
             (subst hL; subst hQ; simp only [L2, L3, std] at *; try simp only [syS, reduceCtorEq, Int.reduceToNat, Int.reduceAdd, Int.reduceSub] at *)
             clear hG hO hE1 hE2 hE3
             have hi3 := (zjn hlt).1
             have hk3 : k <= i := hk2
             refine ⟨?_, by omega, by show k + 1 <= i; omega, by show i - (k + 1) + 1 <= i - k; omega⟩
             rw [ymm (by omega), if_neg (fun h => hz h.1)]
           · clear hk2 hki
             intro x3 _
             (cbv; try simp only [syT, true_and, and_true])
             refine ⟨⟨fun g => ?_, fun g => ⟨0, ?_⟩⟩, fun x4 _ => ?_⟩
             · refine ⟨?_, ?_, 0, ?_⟩
               · (subst hL; subst hQ; simp only [L2, L3, std] at *; try simp only [syS, reduceCtorEq, Int.reduceToNat, Int.reduceAdd, Int.reduceSub] at *)
                 have := zdi i
                 show 9 + (dgI i).length <= 9223372036854775807
                 omega
               · (subst hL; subst hQ; simp only [L2, L3, std] at *; try simp only [syS, reduceCtorEq, Int.reduceToNat, Int.reduceAdd, Int.reduceSub] at *)
                 clear hG hO hE1 hE2 hE3
                 have := (zjn hlt).1
                 have := zkx hlt i (by omega)
                 have : zad (vfL c i) = (vfL c i).length := rfl
                 omega
               · (cbv; try simp only [syT, true_and, and_true])
                 (subst hL; subst hQ; simp only [L2, L3, std] at *; try simp only [syS, reduceCtorEq, Int.reduceToNat, Int.reduceAdd, Int.reduceSub] at *)
                 clear hG hO hE1 hE2 hE3
                 have h := zvk (o := vfL c i) (o' := vgL c i 0) (w' := [108, 105, 115, 116, 101, 110, 101, 114, 32] ++ dgI i) (ykb c i) (by rw [<- yc5]; exact g) (wh1 yka i)
                 rw [<- yc5] at h
                 exact ⟨h, h.1⟩
             · (cbv; try simp only [syT, true_and, and_true])
               (subst hL; subst hQ; simp only [L2, L3, std] at *; try simp only [syS, reduceCtorEq, Int.reduceToNat, Int.reduceAdd, Int.reduceSub] at *)
               clear hG hO hE1 hE2 hE3
               have h := yhh (o := vfL c i) (o' := vgL c i 0) (ykb c i) (by rw [<- yc5]; exact g)
               rw [<- h]
               exact ⟨⟨rfl, fun _ _ _ _ => rfl⟩, rfl⟩
             · (cbv; try simp only [syT, true_and, and_true])
               refine ⟨⟨0, ?_⟩, fun j hj => ?_⟩
               · (cbv; try simp only [syT, true_and, and_true])
                 (subst hL; subst hQ; simp only [L2, L3, std] at *; try simp only [syS, reduceCtorEq, Int.reduceToNat, Int.reduceAdd, Int.reduceSub] at *)
                 exact Nat.zero_le _
               · have hj2 : yu2 (za4 c.ls i).rs j := by
                   have h := hj
                   rw [hL] at h
                   exact h
                 clear hj
                 (cbv; try simp only [syT, true_and, and_true])
                 simp only [hG, hO, hE1, hE2, true_and]
                 refine ⟨fun hlt2 => ⟨?_, ⟨fun g => ⟨?_, ?_, ?_, ?_, 0, ?_⟩, fun g => ⟨0, ?_⟩⟩, fun x5 _ => ?_⟩, fun hge => ⟨i + 1, ?_⟩⟩
                 · (subst hL; subst hQ; simp only [L2, L3, std] at *; try simp only [syS, reduceCtorEq, Int.reduceToNat, Int.reduceAdd, Int.reduceSub] at *)
                   clear hG hO hE1 hE2 hE3
                   have hj2 : j <= (za4 c.ls i).rs.length := hj2
                   have : zad (za4 c.ls i).rs = (za4 c.ls i).rs.length := rfl
                   obtain ⟨g1, g2, g3⟩ := zsz hlt (show i < c.ls.length by omega)
                   refine ⟨zt0 hlt, g2, ?_, by omega, by show (j : Int) < ((za4 c.ls i).rs.length : Int); omega⟩
                   show _ <= 1000000
                   omega
                 · (subst hL; subst hQ; simp only [L2, L3, std] at *; try simp only [syS, reduceCtorEq, Int.reduceToNat, Int.reduceAdd, Int.reduceSub] at *)
                   have := zdi i
                   show 6 + (dgI i).length <= 9223372036854775807
                   omega
                 · (subst hL; subst hQ; simp only [L2, L3, std] at *; try simp only [syS, reduceCtorEq, Int.reduceToNat, Int.reduceAdd, Int.reduceSub] at *)
                   have := zdi i
                   show (_ ++ dgI i).length + 1 <= 9223372036854775807
                   rw [List.length_append]
                   show 6 + (dgI i).length + 1 <= 9223372036854775807
                   omega
                 · (subst hL; subst hQ; simp only [L2, L3, std] at *; try simp only [syS, reduceCtorEq, Int.reduceToNat, Int.reduceAdd, Int.reduceSub] at *)
                   have := zdi i
                   have := zdi j
                   show ((_ ++ dgI i) ++ _).length + (dgI j).length <= 9223372036854775807
                   rw [List.length_append, List.length_append]
                   show 6 + (dgI i).length + 1 + (dgI j).length <= 9223372036854775807
                   omega
                 · (subst hL; subst hQ; simp only [L2, L3, std] at *; try simp only [syS, reduceCtorEq, Int.reduceToNat, Int.reduceAdd, Int.reduceSub] at *)
                   clear hG hO hE1 hE2 hE3
                   have hj2 : j <= (za4 c.ls i).rs.length := hj2
                   have := zzd hlt (show i < c.ls.length by omega) hj2
                   have : zad (vgL c i j) = (vgL c i j).length := rfl
                   omega
                 · (cbv; try simp only [syT, true_and, and_true])
                   try simp only [hG, hE1]
                   (subst hL; subst hQ; simp only [L2, L3, std] at *; try simp only [syS, reduceCtorEq, Int.reduceToNat, Int.reduceAdd, Int.reduceSub] at *)
                   clear hG hO hE1 hE2 hE3
                   rw [yrx] at g |-
                   have h := zvk (o := vgL c i j) (o' := vgL c i (j + 1)) (w' := (([114, 111, 117, 116, 101, 32] ++ dgI i) ++ [32]) ++ dgI j) (zo1 c i j) g (wh2 ytr i j)
                   exact ⟨h, h.1⟩
                 · (cbv; try simp only [syT, true_and, and_true])
                   (subst hL; subst hQ; simp only [L2, L3, std] at *; try simp only [syS, reduceCtorEq, Int.reduceToNat, Int.reduceAdd, Int.reduceSub] at *)
                   clear hG hO hE1 hE2 hE3
                   rw [yrx] at g
                   have h := yhh (o := vgL c i j) (o' := vgL c i (j + 1)) (zo1 c i j) g
                   rw [<- show vgL c i j = vgL c i (zmy j) from h]
                   exact ⟨⟨rfl, fun _ _ _ _ => rfl⟩, rfl⟩
                 · (cbv; try simp only [syT, true_and, and_true])
                   refine ⟨j + 1, ?_⟩
                   (cbv; try simp only [syT, true_and, and_true])
                   (subst hL; subst hQ; simp only [L2, L3, std] at *; try simp only [syS, reduceCtorEq, Int.reduceToNat, Int.reduceAdd, Int.reduceSub] at *)
                   clear hG hO hE1 hE2 hE3
                   have hj2 : j <= (za4 c.ls i).rs.length := hj2
                   have : zad (za4 c.ls i).rs = (za4 c.ls i).rs.length := rfl
                   have := (zsz hlt (show i < c.ls.length by omega)).1
                   exact ⟨⟨rfl, fun _ _ _ _ => rfl⟩, rfl, by omega, by show j + 1 <= (za4 c.ls i).rs.length; omega, by show (za4 c.ls i).rs.length - (j + 1) + 1 <= (za4 c.ls i).rs.length - j; omega⟩
                 · (cbv; try simp only [syT, true_and, and_true])
                   (subst hL; subst hQ; simp only [L2, L3, std] at *; try simp only [syS, reduceCtorEq, Int.reduceToNat, Int.reduceAdd, Int.reduceSub] at *)
                   clear hG hO hE1 hE2 hE3
                   have hj2 : j <= (za4 c.ls i).rs.length := hj2
                   have hj3 : j = (za4 c.ls i).rs.length := by have : zad (za4 c.ls i).rs = (za4 c.ls i).rs.length := rfl; omega
                   have h12 := (zjn hlt).1
                   rw [zze c hj3]
                   exact ⟨⟨rfl, fun _ _ _ _ => rfl⟩, rfl, by omega, by show i + 1 <= c.ls.length; omega, by show c.ls.length - (i + 1) + 1 <= c.ls.length - i; omega⟩
           · (cbv; try simp only [syT, true_and, and_true])
             (subst hL; subst hQ; simp only [L2, L3, std] at *; try simp only [syS, reduceCtorEq, Int.reduceToNat, Int.reduceAdd, Int.reduceSub] at *)
             clear hG hO hE1 hE2 hE3
             have hk3 : k <= i := hk2
             obtain rfl : k = i := by omega
             rw [kL4, if_pos ⟨hz, by have : zad (za4 c.ls k).rs = (za4 c.ls k).rs.length := rfl; omega⟩]
           · (cbv; try simp only [syT, true_and, and_true])
             (subst hL; subst hQ; simp only [L2, L3, std] at *; try simp only [syS, reduceCtorEq, Int.reduceToNat, Int.reduceAdd, Int.reduceSub] at *)
             clear hG hO hE1 hE2 hE3
             have hk3 : k <= i := hk2
             obtain rfl : k = i := by omega
             rw [kL4, if_neg (fun h => g (by have : zad (za4 c.ls k).rs = (za4 c.ls k).rs.length := rfl; omega))]
           · (cbv; try simp only [syT, true_and, and_true])
             refine ⟨⟨0, ?_⟩, hT⟩
             (cbv; try simp only [syT, true_and, and_true])
             (subst hL; subst hQ; simp only [L2, L3, std] at *; try simp only [syS, reduceCtorEq, Int.reduceToNat, Int.reduceAdd, Int.reduceSub] at *)
             clear hT hG hO hE1 hE2 hE3
             have hk3 : k <= i := hk2
             obtain rfl : k = i := by omega
             rw [kL4, if_neg (fun h => hz h.1)]
       · (cbv; try simp only [syT, true_and, and_true])
         (subst hL; subst hQ; simp only [L2, L3, std] at *; try simp only [syS, reduceCtorEq, Int.reduceToNat, Int.reduceAdd, Int.reduceSub] at *)
         clear hG hO hE1 hE2 hE3
         have hk3 : k <= i := hk2
         obtain rfl : k = i := by omega
         rw [kL2, if_pos ⟨hz, g⟩]
       · (cbv; try simp only [syT, true_and, and_true])
         (subst hL; subst hQ; simp only [L2, L3, std] at *; try simp only [syS, reduceCtorEq, Int.reduceToNat, Int.reduceAdd, Int.reduceSub] at *)
         clear hG hO hE1 hE2 hE3
         have hk3 : k <= i := hk2
         obtain rfl : k = i := by omega
         rw [kL2, if_neg (fun h => g h.2)]
       · (cbv; try simp only [syT, true_and, and_true])
         refine ⟨⟨0, ?_⟩, hT⟩
         (cbv; try simp only [syT, true_and, and_true])
         (subst hL; subst hQ; simp only [L2, L3, std] at *; try simp only [syS, reduceCtorEq, Int.reduceToNat, Int.reduceAdd, Int.reduceSub] at *)
         clear hT hG hO hE1 hE2 hE3
         have hk3 : k <= i := hk2
         obtain rfl : k = i := by omega
         rw [kL2, if_neg (fun h => hz h.1)]
   · refine ⟨⟨0, ?_⟩, fun k hk => ?_⟩
     · (cbv; try simp only [syT, true_and, and_true])
       (subst hL; subst hQ; simp only [L2, L3, std] at *; try simp only [syS, reduceCtorEq, Int.reduceToNat, Int.reduceAdd, Int.reduceSub] at *)
       clear hG hO hE1 hE2 hE3
       have hi2 : i <= c.ls.length := hi2
       obtain rfl : i = c.ls.length := by omega
       exact ⟨⟨rfl, fun _ _ _ _ => rfl⟩, rfl, Nat.zero_le _⟩
     · clear hge hi2
       have hk2 : zt4 c.cs k := by
         have h := hk
         rw [hL] at h
         exact h
       clear hk
       (cbv; try simp only [syT, true_and, and_true])
       refine ⟨fun hlt1 => ⟨?_, ?_, ⟨fun g => ⟨0, ?_⟩, fun g => ⟨0, ?_⟩⟩, fun x1 _ => ?_⟩, fun hge => ?_⟩
       · (subst hL; subst hQ; simp only [L2, L3, std] at *; try simp only [syS, reduceCtorEq, Int.reduceToNat, Int.reduceAdd, Int.reduceSub] at *)
         omega
       · (subst hL; subst hQ; simp only [L2, L3, std] at *; try simp only [syS, reduceCtorEq, Int.reduceToNat, Int.reduceAdd, Int.reduceSub] at *)
         have := (zqm hlt (show k < c.cs.length by omega)).2
         show _ <= 1000000000
         omega
       · (cbv; try simp only [syT, true_and, and_true])
         (subst hL; subst hQ; simp only [L2, L3, std] at *; try simp only [syS, reduceCtorEq, Int.reduceToNat, Int.reduceAdd, Int.reduceSub] at *)
         rw [kC0, if_pos g]
       · (cbv; try simp only [syT, true_and, and_true])
         (subst hL; subst hQ; simp only [L2, L3, std] at *; try simp only [syS, reduceCtorEq, Int.reduceToNat, Int.reduceAdd, Int.reduceSub] at *)
         rw [kC0, if_neg (by rw [g]; decide)]
       · (cbv; try simp only [syT, true_and, and_true])
         refine ⟨⟨0, ?_⟩, fun m hm => ?_⟩
         · (cbv; try simp only [syT, true_and, and_true])
           (subst hL; subst hQ; simp only [L2, L3, std] at *; try simp only [syS, reduceCtorEq, Int.reduceToNat, Int.reduceAdd, Int.reduceSub] at *)
           exact ⟨(yvw _ _).symm, Nat.zero_le _⟩
         · have hm2 : leN k m := by
             have h := hm
             rw [hL] at h
             exact h
           clear hm
           (cbv; try simp only [syT, true_and, and_true])
           refine ⟨fun hki => ⟨fun hz => ⟨?_, ⟨fun g => ⟨0, ?_⟩, fun g => ⟨0, ?_⟩⟩, fun x2 _ => ?_⟩, fun hz => ⟨m + 1, ?_⟩⟩, fun hki => (fun hT => ⟨fun hz => ⟨⟨fun g => ⟨0, ?_⟩, fun g => ⟨0, ?_⟩⟩, hT⟩, fun hz => ?_⟩) ?_⟩
           · (subst hL; subst hQ; simp only [L2, L3, std] at *; try simp only [syS, reduceCtorEq, Int.reduceToNat, Int.reduceAdd, Int.reduceSub] at *)
             omega
           · (cbv; try simp only [syT, true_and, and_true])
             (subst hL; subst hQ; simp only [L2, L3, std] at *; try simp only [syS, reduceCtorEq, Int.reduceToNat, Int.reduceAdd, Int.reduceSub] at *)
             clear hG hO hE1 hE2 hE3
             have hi3 := (zjn hlt).2
             have hm3 : m <= k := hm2
             show 11 = kC1 c.cs k (m + 1)
             rw [ymp (by omega), if_pos ⟨hz, g⟩]
           · (cbv; try simp only [syT, true_and, and_true])
             (subst hL; subst hQ; simp only [L2, L3, std] at *; try simp only [syS, reduceCtorEq, Int.reduceToNat, Int.reduceAdd, Int.reduceSub] at *)
             clear hG hO hE1 hE2 hE3
             have hi3 := (zjn hlt).2
             have hm3 : m <= k := hm2
             show kC1 c.cs k m = kC1 c.cs k (m + 1)
             rw [ymp (by omega), if_neg (fun h => g h.2)]
           · (cbv; try simp only [syT, true_and, and_true])
             refine ⟨m + 1, ?_⟩
             (cbv; try simp only [syT, true_and, and_true])
             (subst hL; subst hQ; simp only [L2, L3, std] at *; try simp only [syS, reduceCtorEq, Int.reduceToNat, Int.reduceAdd, Int.reduceSub] at *)
             clear hG hO hE1 hE2 hE3
             have hi3 := (zjn hlt).2
             have hm3 : m <= k := hm2
             exact ⟨rfl, by omega, by show m + 1 <= k; omega, by show k - (m + 1) + 1 <= k - m; omega⟩
           · (cbv; try simp only [syT, true_and, and_true])
             (subst hL; subst hQ; simp only [L2, L3, std] at *; try simp only [syS, reduceCtorEq, Int.reduceToNat, Int.reduceAdd, Int.reduceSub] at *)
             clear hG hO hE1 hE2 hE3
             have hi3 := (zjn hlt).2
             have hm3 : m <= k := hm2
             refine ⟨?_, by omega, by show m + 1 <= k; omega, by show k - (m + 1) + 1 <= k - m; omega⟩
             rw [ymp (by omega), if_neg (fun h => hz h.1)]
           · clear hm2 hki
             intro x3 _
             (cbv; try simp only [syT, true_and, and_true])
             refine ⟨⟨fun g => ?_, fun g => ⟨0, ?_⟩⟩, fun x4 _ => ?_⟩
             · refine ⟨?_, ?_, 0, ?_⟩
               · (subst hL; subst hQ; simp only [L2, L3, std] at *; try simp only [syS, reduceCtorEq, Int.reduceToNat, Int.reduceAdd, Int.reduceSub] at *)
                 have := zdi k
                 show 8 + (dgI k).length <= 9223372036854775807
                 omega
               · (subst hL; subst hQ; simp only [L2, L3, std] at *; try simp only [syS, reduceCtorEq, Int.reduceToNat, Int.reduceAdd, Int.reduceSub] at *)
                 clear hG hO hE1 hE2 hE3
                 have := (zjn hlt).2
                 have := zky hlt k (by omega)
                 have : zad (vfC c k) = (vfC c k).length := rfl
                 omega
               · (cbv; try simp only [syT, true_and, and_true])
                 (subst hL; subst hQ; simp only [L2, L3, std] at *; try simp only [syS, reduceCtorEq, Int.reduceToNat, Int.reduceAdd, Int.reduceSub] at *)
                 clear hG hO hE1 hE2 hE3
                 have h := zvk (o := vfC c k) (o' := vgC c k 0) (w' := [99, 108, 117, 115, 116, 101, 114, 32] ++ dgI k) (ykc c k) (by rw [<- yc6]; exact g) (wh1 ypr k)
                 rw [<- yc6] at h
                 exact ⟨h, h.1⟩
             · (cbv; try simp only [syT, true_and, and_true])
               (subst hL; subst hQ; simp only [L2, L3, std] at *; try simp only [syS, reduceCtorEq, Int.reduceToNat, Int.reduceAdd, Int.reduceSub] at *)
               clear hG hO hE1 hE2 hE3
               have h := yhh (o := vfC c k) (o' := vgC c k 0) (ykc c k) (by rw [<- yc6]; exact g)
               rw [<- h]
               exact ⟨⟨rfl, fun _ _ _ _ => rfl⟩, rfl⟩
             · (cbv; try simp only [syT, true_and, and_true])
               refine ⟨⟨0, ?_⟩, fun j hj => ?_⟩
               · (cbv; try simp only [syT, true_and, and_true])
                 (subst hL; subst hQ; simp only [L2, L3, std] at *; try simp only [syS, reduceCtorEq, Int.reduceToNat, Int.reduceAdd, Int.reduceSub] at *)
                 exact Nat.zero_le _
               · have hj2 : yu3 (za5 c.cs k).es j := by
                   have h := hj
                   rw [hL] at h
                   exact h
                 clear hj
                 (cbv; try simp only [syT, true_and, and_true])
                 refine ⟨fun hlt2 => ⟨?_, (fun hT => ⟨fun p0 => ⟨⟨0, ?_⟩, hT⟩, fun p0 => ?_⟩) ?_⟩, fun hge => ⟨k + 1, ?_⟩⟩
                 · (subst hL; subst hQ; simp only [L2, L3, std] at *; try simp only [syS, reduceCtorEq, Int.reduceToNat, Int.reduceAdd, Int.reduceSub] at *)
                   omega
                 · intro x5 _
                   (cbv; try simp only [syT, true_and, and_true])
                   refine ⟨⟨0, ?_⟩, fun n hn => ?_⟩
                   · (cbv; try simp only [syT, true_and, and_true])
                     (subst hL; subst hQ; simp only [L2, L3, std] at *; try simp only [syS, reduceCtorEq, Int.reduceToNat, Int.reduceAdd, Int.reduceSub] at *)
                     exact ⟨(yvv _ _).symm, Nat.zero_le _⟩
                   · have hn2 : leN j n := by
                       have h := hn
                       rw [hL] at h
                       exact h
                     clear hn
                     (cbv; try simp only [syT, true_and, and_true])
                     refine ⟨fun hki => ⟨fun hz => ⟨?_, ⟨fun g => ⟨0, ?_⟩, fun g => ⟨0, ?_⟩⟩, fun x2 _ => ?_⟩, fun hz => ⟨n + 1, ?_⟩⟩, fun hki => ⟨⟨fun g => ?_, fun g => ⟨0, ?_⟩⟩, fun x4 _ => ?_⟩⟩
                     · (subst hL; subst hQ; simp only [L2, L3, std] at *; try simp only [syS, reduceCtorEq, Int.reduceToNat, Int.reduceAdd, Int.reduceSub] at *)
                       have hn3 : n <= j := hn2
                       have : zad (za5 c.cs k).es = (za5 c.cs k).es.length := rfl
                       omega
                     · have g2 : epP (zb6 (za5 c.cs k).es j) (zb6 (za5 c.cs k).es n) = true := by
                         have h := g
                         rw [hL] at h
                         exact (yd8 _ _).symm.trans h
                       clear g
                       (cbv; try simp only [syT, true_and, and_true])
                       (subst hL; subst hQ; simp only [L2, L3, std] at *; try simp only [syS, reduceCtorEq, Int.reduceToNat, Int.reduceAdd, Int.reduceSub] at *)
                       clear hG hO hE1 hE2 hE3
                       have hn3 : n <= j := hn2
                       have : zad (za5 c.cs k).es = (za5 c.cs k).es.length := rfl
                       show 11 = kE1 (za5 c.cs k).es j (n + 1)
                       rw [ymo (by omega), if_pos ⟨hz, of_decide_eq_true g2⟩]
                     · have g2 : epP (zb6 (za5 c.cs k).es j) (zb6 (za5 c.cs k).es n) = false := by
                         have h := g
                         rw [hL] at h
                         exact (yd8 _ _).symm.trans h
                       clear g
                       (cbv; try simp only [syT, true_and, and_true])
                       (subst hL; subst hQ; simp only [L2, L3, std] at *; try simp only [syS, reduceCtorEq, Int.reduceToNat, Int.reduceAdd, Int.reduceSub] at *)
                       clear hG hO hE1 hE2 hE3
                       have hn3 : n <= j := hn2
                       have : zad (za5 c.cs k).es = (za5 c.cs k).es.length := rfl
                       show kE1 (za5 c.cs k).es j n = kE1 (za5 c.cs k).es j (n + 1)
                       rw [ymo (by omega), if_neg (fun h => of_decide_eq_false g2 h.2)]
                     · (cbv; try simp only [syT, true_and, and_true])
                       refine ⟨n + 1, ?_⟩
                       (cbv; try simp only [syT, true_and, and_true])
                       (subst hL; subst hQ; simp only [L2, L3, std] at *; try simp only [syS, reduceCtorEq, Int.reduceToNat, Int.reduceAdd, Int.reduceSub] at *)
                       clear hG hO hE1 hE2 hE3
                       have hn3 : n <= j := hn2
                       have : zad (za5 c.cs k).es = (za5 c.cs k).es.length := rfl
                       have := (zqm hlt (show k < c.cs.length by omega)).1
                       exact ⟨rfl, by omega, by show n + 1 <= j; omega, by show j - (n + 1) + 1 <= j - n; omega⟩
                     · (cbv; try simp only [syT, true_and, and_true])
                       (subst hL; subst hQ; simp only [L2, L3, std] at *; try simp only [syS, reduceCtorEq, Int.reduceToNat, Int.reduceAdd, Int.reduceSub] at *)
                       clear hG hO hE1 hE2 hE3
                       have hn3 : n <= j := hn2
                       have : zad (za5 c.cs k).es = (za5 c.cs k).es.length := rfl
                       have := (zqm hlt (show k < c.cs.length by omega)).1
                       refine ⟨?_, by omega, by show n + 1 <= j; omega, by show j - (n + 1) + 1 <= j - n; omega⟩
                       rw [ymo (by omega), if_neg (fun h => hz h.1)]
                     · refine ⟨?_, ?_, ?_, ?_, 0, ?_⟩
                       · (subst hL; subst hQ; simp only [L2, L3, std] at *; try simp only [syS, reduceCtorEq, Int.reduceToNat, Int.reduceAdd, Int.reduceSub] at *)
                         have := zdi k
                         show 9 + (dgI k).length <= 9223372036854775807
                         omega
                       · (subst hL; subst hQ; simp only [L2, L3, std] at *; try simp only [syS, reduceCtorEq, Int.reduceToNat, Int.reduceAdd, Int.reduceSub] at *)
                         have := zdi k
                         show (_ ++ dgI k).length + 1 <= 9223372036854775807
                         rw [List.length_append]
                         show 9 + (dgI k).length + 1 <= 9223372036854775807
                         omega
                       · (subst hL; subst hQ; simp only [L2, L3, std] at *; try simp only [syS, reduceCtorEq, Int.reduceToNat, Int.reduceAdd, Int.reduceSub] at *)
                         have := zdi k
                         have := zdi j
                         show ((_ ++ dgI k) ++ _).length + (dgI j).length <= 9223372036854775807
                         rw [List.length_append, List.length_append]
                         show 9 + (dgI k).length + 1 + (dgI j).length <= 9223372036854775807
                         omega
                       · (subst hL; subst hQ; simp only [L2, L3, std] at *; try simp only [syS, reduceCtorEq, Int.reduceToNat, Int.reduceAdd, Int.reduceSub] at *)
                         clear hG hO hE1 hE2 hE3
                         have hj2 : j <= (za5 c.cs k).es.length := hj2
                         have := zzf hlt (show k < c.cs.length by omega) hj2
                         have : zad (vgC c k j) = (vgC c k j).length := rfl
                         omega
                       · (cbv; try simp only [syT, true_and, and_true])
                         (subst hL; subst hQ; simp only [L2, L3, std] at *; try simp only [syS, reduceCtorEq, Int.reduceToNat, Int.reduceAdd, Int.reduceSub] at *)
                         clear hG hO hE1 hE2 hE3
                         have hn3 : n <= j := hn2
                         obtain rfl : n = j := by omega
                         rw [yjh] at g |-
                         have h := zvk (o := vgC c k n) (o' := vgC c k (n + 1)) (w' := (([101, 110, 100, 112, 111, 105, 110, 116, 32] ++ dgI k) ++ [32]) ++ dgI n) (zo2 c k n) g (wh2 yts k n)
                         exact ⟨h, h.1⟩
                     · (cbv; try simp only [syT, true_and, and_true])
                       (subst hL; subst hQ; simp only [L2, L3, std] at *; try simp only [syS, reduceCtorEq, Int.reduceToNat, Int.reduceAdd, Int.reduceSub] at *)
                       clear hG hO hE1 hE2 hE3
                       have hn3 : n <= j := hn2
                       obtain rfl : n = j := by omega
                       rw [yjh] at g
                       have h := yhh (o := vgC c k n) (o' := vgC c k (n + 1)) (zo2 c k n) g
                       rw [<- show vgC c k n = vgC c k (zmy n) from h]
                       exact ⟨⟨rfl, fun _ _ _ _ => rfl⟩, rfl⟩
                     · (cbv; try simp only [syT, true_and, and_true])
                       refine ⟨j + 1, ?_⟩
                       (cbv; try simp only [syT, true_and, and_true])
                       (subst hL; subst hQ; simp only [L2, L3, std] at *; try simp only [syS, reduceCtorEq, Int.reduceToNat, Int.reduceAdd, Int.reduceSub] at *)
                       clear hG hO hE1 hE2 hE3
                       have hj2 : j <= (za5 c.cs k).es.length := hj2
                       have : zad (za5 c.cs k).es = (za5 c.cs k).es.length := rfl
                       have := (zqm hlt (show k < c.cs.length by omega)).1
                       exact ⟨⟨rfl, fun _ _ _ _ => rfl⟩, rfl, by omega, by show j + 1 <= (za5 c.cs k).es.length; omega, by show (za5 c.cs k).es.length - (j + 1) + 1 <= (za5 c.cs k).es.length - j; omega⟩
                 · (cbv; try simp only [syT, true_and, and_true])
                   (subst hL; subst hQ; simp only [L2, L3, std] at *; try simp only [syS, reduceCtorEq, Int.reduceToNat, Int.reduceAdd, Int.reduceSub] at *)
                   rw [kE0, if_pos (by rw [zxi, decide_eq_true p0]; rfl)]
                 · (cbv; try simp only [syT, true_and, and_true])
                   refine ⟨fun an => ⟨⟨0, ?_⟩, hT⟩, fun an => ?_⟩
                   · (cbv; try simp only [syT, true_and, and_true])
                     (subst hL; subst hQ; simp only [L2, L3, std] at *; try simp only [syS, reduceCtorEq, Int.reduceToNat, Int.reduceAdd, Int.reduceSub] at *)
                     rw [kE0, if_pos (by rw [zxi, show zen (zb6 (za5 c.cs k).es j).pl = true from an]; simp)]
                   · (cbv; try simp only [syT, true_and, and_true])
                     refine ⟨fun w0 => ⟨⟨0, ?_⟩, hT⟩, fun w0 => ?_⟩
                     · (cbv; try simp only [syT, true_and, and_true])
                       (subst hL; subst hQ; simp only [L2, L3, std] at *; try simp only [syS, reduceCtorEq, Int.reduceToNat, Int.reduceAdd, Int.reduceSub] at *)
                       rw [kE0, if_pos (by rw [zxi, decide_eq_true w0]; simp)]
                     · (cbv; try simp only [syT, true_and, and_true])
                       refine ⟨⟨fun w1 => ⟨0, ?_⟩, fun w1 => ⟨0, ?_⟩⟩, hT⟩
                       · (cbv; try simp only [syT, true_and, and_true])
                         (subst hL; subst hQ; simp only [L2, L3, std] at *; try simp only [syS, reduceCtorEq, Int.reduceToNat, Int.reduceAdd, Int.reduceSub] at *)
                         rw [kE0, if_pos (by rw [zxi, decide_eq_true w1]; simp)]
                       · (cbv; try simp only [syT, true_and, and_true])
                         (subst hL; subst hQ; simp only [L2, L3, std] at *; try simp only [syS, reduceCtorEq, Int.reduceToNat, Int.reduceAdd, Int.reduceSub] at *)
                         rw [kE0, if_neg (by rw [zxi, decide_eq_false p0, show zen (zb6 (za5 c.cs k).es j).pl = false from an, decide_eq_false (by omega), decide_eq_false (by omega)]; decide)]
                 · (cbv; try simp only [syT, true_and, and_true])
                   (subst hL; subst hQ; simp only [L2, L3, std] at *; try simp only [syS, reduceCtorEq, Int.reduceToNat, Int.reduceAdd, Int.reduceSub] at *)
                   clear hG hO hE1 hE2 hE3
                   have hj2 : j <= (za5 c.cs k).es.length := hj2
                   have hj3 : j = (za5 c.cs k).es.length := by have : zad (za5 c.cs k).es = (za5 c.cs k).es.length := rfl; omega
                   have h12 := (zjn hlt).2
                   rw [zzg c hj3]
                   exact ⟨⟨rfl, fun _ _ _ _ => rfl⟩, rfl, by omega, by show k + 1 <= c.cs.length; omega, by show c.cs.length - (k + 1) + 1 <= c.cs.length - k; omega⟩
           · (cbv; try simp only [syT, true_and, and_true])
             (subst hL; subst hQ; simp only [L2, L3, std] at *; try simp only [syS, reduceCtorEq, Int.reduceToNat, Int.reduceAdd, Int.reduceSub] at *)
             clear hG hO hE1 hE2 hE3
             have hm3 : m <= k := hm2
             obtain rfl : m = k := by omega
             rw [kC2, if_pos ⟨hz, by have : zad (za5 c.cs m).es = (za5 c.cs m).es.length := rfl; omega⟩]
           · (cbv; try simp only [syT, true_and, and_true])
             (subst hL; subst hQ; simp only [L2, L3, std] at *; try simp only [syS, reduceCtorEq, Int.reduceToNat, Int.reduceAdd, Int.reduceSub] at *)
             clear hG hO hE1 hE2 hE3
             have hm3 : m <= k := hm2
             obtain rfl : m = k := by omega
             rw [kC2, if_neg (fun h => g (by have : zad (za5 c.cs m).es = (za5 c.cs m).es.length := rfl; omega))]
           · (cbv; try simp only [syT, true_and, and_true])
             refine ⟨⟨0, ?_⟩, hT⟩
             (cbv; try simp only [syT, true_and, and_true])
             (subst hL; subst hQ; simp only [L2, L3, std] at *; try simp only [syS, reduceCtorEq, Int.reduceToNat, Int.reduceAdd, Int.reduceSub] at *)
             clear hT hG hO hE1 hE2 hE3
             have hm3 : m <= k := hm2
             obtain rfl : m = k := by omega
             rw [kC2, if_neg (fun h => hz h.1)]
       · (subst hL; subst hQ; simp only [L2, L3, std] at *; try simp only [syS, reduceCtorEq, Int.reduceToNat, Int.reduceAdd, Int.reduceSub] at *)
         clear hG hO hE1 hE2 hE3
         have hk2 : k <= c.cs.length := hk2
         obtain rfl : k = c.cs.length := by omega
         rw [zi7, if_neg (by rw [h1]; decide)]
         unfold zqn
         rw [zex]
         exact ⟨rfl, fun _ _ _ _ => rfl⟩
end Sy
end Go.Proofs.YthppjaoicibeiaaGreatDoor
namespace Go.Proofs.YthppjaoicibeiaaGreatDoor
namespace Sy
open Go Go.RowKit
set_option maxRecDepth 100000
set_option linter.unusedSimpArgs false
set_option linter.unusedVariables false
theorem awT : plT ⟨127, 0, 0, 1, 80⟩ = [49, 50, 55, 46, 48, 46, 48, 46, 49, 58, 56, 48] := by
 have d1 := (zhk (s := [49, 50, 55]) (by decide)).1
 have d2 := (zhk (s := [48]) (by decide)).1
 have d3 := (zhk (s := [49]) (by decide)).1
 have d4 := (zhk (s := [56, 48]) (by decide)).1
 rw [show wnV [49, 50, 55] = 127 by decide] at d1
 rw [show wnV [48] = 0 by decide] at d2
 rw [show wnV [49] = 1 by decide] at d3
 rw [show wnV [56, 48] = 80 by decide] at d4
 rw [plT, d1, d2, d3, d4]; rfl
theorem awO : zqe ⟨127, 0, 0, 1, 80⟩ := ⟨⟨by decide, by decide⟩, ⟨by decide, by decide⟩, ⟨by decide, by decide⟩, ⟨by decide, by decide⟩, by decide, by decide⟩
theorem zym : za7 Tryz.prog 82 [] (.bool true) := by
 refine zac (T := tt) (S := fun L => zao [tru 134, ylw L, zsm L]) (lo := noA) (lb := noA) 5 (fn := Tryz.f82) rfl rfl (by kernel_rfl) (by kernel_rfl) rfl zab (za3 ⟨zcg znw, yfz, zxc, trivial⟩) (by kernel_rfl) ?_
 have e := (ykt awO).1 (by decide)
 rw [awT] at e
 (intro L P1 Q1 hL hP hQ; cbv; subst hL; simp only [L2, L3, std, syT]; subst hQ)
 (simp only [syS, reduceCtorEq, Int.reduceToNat, Int.reduceAdd, Int.reduceSub])
 simp only [e.1, e.2]
 exact ⟨(by decide : (12 : Nat) <= 1000000), fun _ => ⟨fun _ => ⟨by omega, fun _ => ⟨awO, awT⟩, rfl⟩, trivial⟩, trivial⟩
theorem zyw : za7 Tryz.prog 31 [] (.bool true) := by
 refine zac (T := tt) (S := fun L => zao [tru 82]) (lo := noA) (lb := noA) 5 (fn := Tryz.f31) rfl rfl (by kernel_rfl) (by kernel_rfl) rfl zab (za3 ⟨zcg zym, trivial⟩) (by kernel_rfl) ?_
 (intro L P1 Q1 hL hP hQ; cbv; subst hL; simp only [L2, L3, std, syT]; subst hQ)
 (simp only [syS, reduceCtorEq, Int.reduceToNat, Int.reduceAdd, Int.reduceSub])
def plAt (L : zaa) (x : Pl) : Nat -> AV
 | 0 => .int .u8 (L Pl.a x)
 | 1 => .int .u8 (L Pl.b x)
 | 2 => .int .u8 (L Pl.c x)
 | 3 => .int .u8 (L Pl.d x)
 | _ => .int .u16 (L Pl.p x)
def plOf (y : List Int × Int × Unit) : Pl := ⟨zdf y.1 0, zdf y.1 1, zdf y.1 2, zdf y.1 3, y.2.1⟩
theorem zut {H : Type} {enc : TypeId × Value -> H} {W : World} : zek enc Tryz.prog W 32 Pl 5 (plAt std) zqe := by
 have O := (zcq (P := Tryz.prog) (enc := enc) (W := W) Tryz.underlying32 (by kernel_rfl) (zaw rfl (ybc Tryz.underlying29 (by kernel_rfl) (zgt Tryz.underlying5 (by kernel_rfl)) (by omega)) (zaw rfl (zgt Tryz.underlying30 (by kernel_rfl)) (ze2 _))))
 refine ⟨O.size, fun fuel cs x h => ?_⟩
 obtain ⟨y, ⟨⟨hl, hall⟩, hp, _⟩, hlen, hy⟩ := O.go fuel cs x h
 have hb : ∀ j, j < 4 -> 0 <= zdf y.1 j /\ zdf y.1 j <= 255 := fun j hj => by
   have hlt : j < y.1.length := by omega
   have := bounds_u8 (hall _ (List.getElem_mem hlt))
   rw [zdf, List.getD_eq_getElem?_getD, List.getElem?_eq_getElem hlt]
   exact this
 refine ⟨plOf y, ⟨hb 0 (by omega), hb 1 (by omega), hb 2 (by omega), hb 3 (by omega), bounds_u16 hp⟩, hlen, fun j hj => ?_⟩
 obtain ⟨v, v1, v2, v3⟩ := hy j hj
 refine ⟨v, v1, v2, ?_⟩
 have cell : ∀ k, k < 4 -> avL (fun n (_ : Nat) => AV.int .u8 n) y.1 (k / 1) (k % 1) = .int .u8 (zdf y.1 k) := fun k hk => by
   rw [Nat.div_one, avL, zdf, List.getD_eq_getElem?_getD, List.getElem?_eq_getElem (by omega : k < y.1.length)]; rfl
 match j, hj with
 | 0, _ => simp only [Nat.mul_one, Nat.lt_add_one, show (0 : Nat) < 4 by omega, if_true, cell] at v3; exact v3
 | 1, _ => simp only [Nat.mul_one, show (1 : Nat) < 4 by omega, if_true, cell] at v3; exact v3
 | 2, _ => simp only [Nat.mul_one, show (2 : Nat) < 4 by omega, if_true, cell] at v3; exact v3
 | 3, _ => simp only [Nat.mul_one, show (3 : Nat) < 4 by omega, if_true, cell] at v3; exact v3
 | 4, _ => exact v3
end Sy
end Go.Proofs.YthppjaoicibeiaaGreatDoor
namespace Go.Proofs.YthppjaoicibeiaaGreatDoor
namespace Sy
open Go Go.RowKit
set_option maxRecDepth 100000
set_option linter.unusedSimpArgs false
set_option linter.unusedVariables false
theorem zek.turn {H : Type} {enc : TypeId × Value -> H} {P : Program} {W : World} {t : TypeId} {α β : Type} {sz : Nat} {av : α -> Nat -> AV} {av' : β -> Nat -> AV} {ok : α -> Prop} {ok' : β -> Prop} (O : zek enc P W t α sz av ok) (f : α -> β) (h2 : ∀ y, ok y -> ok' (f y))
   (h1 : ∀ y, ok y -> ∀ j, j < sz -> ∀ v, R W.heap (DW W) zax (av y j) v -> R W.heap (DW W) zax (av' (f y) j) v) : zek enc P W t β sz av' ok' := by
 refine ⟨O.size, fun fuel cs x h => ?_⟩
 obtain ⟨y, y1, y2, y3⟩ := O.go fuel cs x h
 refine ⟨f y, h2 y y1, y2, fun j hj => ?_⟩
 obtain ⟨v, v1, v2, v3⟩ := y3 j hj
 exact ⟨v, v1, v2, h1 y y1 j hj v v3⟩
theorem yrl {h : Array Obj} {D : Nat -> Prop} {μ : Mu} {sz n : Nat} {get get' : Nat -> Nat -> AV} {v : Value} (e : ∀ i j, i < n -> j < sz -> get i j = get' i j) (r : R h D μ (.lst sz n get) v) : R h D μ (.lst sz n get') v := by
 cases r with
 | lst0 _ _ a cap hn => exact .lst0 _ _ a cap hn
 | lst _ _ _ b o cap vs hD hc hv h1 hr => exact .lst _ _ _ b o cap vs hD hc hv h1 (fun i j hi hj => by rw [<- e i j hi hj]; exact hr i j hi hj)
theorem zhd {H : Type} {enc : TypeId × Value -> H} {P : Program} {W : World} {t e : TypeId} {α : Type} {V : Vw α} {ok : α -> Prop} (ht : P.underlying t = some (.slice e)) (hc : P.cellsOf t = 1) (he : zek enc P W e α V.sz (V.cell std) ok) (hs : 0 < V.sz) :
   zek enc P W t (List α) 1 (fun l _ => zvb std V l) (fun l => l.length <= maxLen /\ ∀ y ∈ l, ok y) :=
 (zss ht hc he hs).turn id (fun y h => h) (fun y h j hj v r => yrl (fun i q hi hq => by
   show avL (V.cell std) y i q = V.cell std (zlg V y i) q
   have hi : i < y.length := hi
   rw [avL, List.getElem?_eq_getElem hi, zak hi]) r)
end Sy
end Go.Proofs.YthppjaoicibeiaaGreatDoor
namespace Go.Proofs.YthppjaoicibeiaaGreatDoor
namespace Sy
open Go Go.RowKit
set_option maxRecDepth 100000
set_option linter.unusedSimpArgs false
set_option linter.unusedVariables false
theorem yg1 {H : Type} {enc : TypeId × Value -> H} {W : World} : zek enc Tryz.prog W 52 Rt 4 (rtC std) yuj :=
 (zcq Tryz.underlying52 (by kernel_rfl) (zaw rfl (zgs Tryz.underlying9 (by kernel_rfl)) (zaw rfl (zgs Tryz.underlying9 (by kernel_rfl)) (zaw rfl (zgs Tryz.underlying9 (by kernel_rfl)) (zaw rfl (zgt Tryz.underlying22 (by kernel_rfl)) (ze2 _)))))).turn
   (fun y => Rt.mk y.1 y.2.1 y.2.2.1 y.2.2.2.1) (fun y h => by have := bounds_u64 h.2.2.2.1; exact ⟨this.1, by show y.2.2.2.1 < _; omega⟩)
   (fun y h j hj v r => by match j, hj with | 0, _ => exact r | 1, _ => exact r | 2, _ => exact r | 3, _ => exact r)
theorem yg3 {H : Type} {enc : TypeId × Value -> H} {W : World} : zek enc Tryz.prog W 54 Ep 6 (epC std) yuk :=
 (zcq Tryz.underlying54 (by kernel_rfl) (zaw rfl zut (zaw rfl (zgt Tryz.underlying3 (by kernel_rfl)) (ze2 _)))).turn
   (fun y => Ep.mk y.1 y.2.1) (fun y h => by have := bounds_i64 h.2.1; exact ⟨h.1, this.1, this.2⟩)
   (fun y h j hj v r => by match j, hj with | 0, _ => exact r | 1, _ => exact r | 2, _ => exact r | 3, _ => exact r | 4, _ => exact r | 5, _ => exact r)
theorem yg2 {H : Type} {enc : TypeId × Value -> H} {W : World} : zek enc Tryz.prog W 35 Ls 7 (lsC std) yk9 :=
 (zcq Tryz.underlying35 (by kernel_rfl) (zaw rfl (zgs Tryz.underlying9 (by kernel_rfl)) (zaw rfl zut (zaw rfl (zhd (V := rtV) Tryz.underlying33 (by kernel_rfl) yg1 (by decide)) (ze2 _))))).turn
   (fun y => Ls.mk y.1 y.2.1 y.2.2.1) (fun y h => ⟨h.2.1, h.2.2.1.2⟩)
   (fun y h j hj v r => by match j, hj with | 0, _ => exact r | 1, _ => exact r | 2, _ => exact r | 3, _ => exact r | 4, _ => exact r | 5, _ => exact r | 6, _ => exact r)
theorem yg4 {H : Type} {enc : TypeId × Value -> H} {W : World} : zek enc Tryz.prog W 40 Cl 2 (clC std) yul :=
 (zcq Tryz.underlying40 (by kernel_rfl) (zaw rfl (zgs Tryz.underlying9 (by kernel_rfl)) (zaw rfl (zhd (V := epV) Tryz.underlying38 (by kernel_rfl) yg3 (by decide)) (ze2 _)))).turn
   (fun y => Cl.mk y.1 y.2.1) (fun y h => h.2.1.2)
   (fun y h j hj v r => by match j, hj with | 0, _ => exact r | 1, _ => exact r)
theorem opens_Cf {H : Type} {enc : TypeId × Value -> H} {W : World} : zek enc Tryz.prog W 26 Cf 3 (cfC std) ypn :=
 (zcq Tryz.underlying26 (by kernel_rfl) (zaw rfl (zgt Tryz.underlying22 (by kernel_rfl)) (zaw rfl (zhd (V := lsV) Tryz.underlying23 (by kernel_rfl) yg2 (by decide)) (zaw rfl (zhd (V := clV) Tryz.underlying24 (by kernel_rfl) yg4 (by decide)) (ze2 _))))).turn
   (fun y => Cf.mk y.1 y.2.1 y.2.2.1) (fun y h => by have := bounds_u64 h.1; exact ⟨⟨this.1, by show y.1 < _; omega⟩, h.2.1.2, h.2.2.1.2⟩)
   (fun y h j hj v r => by match j, hj with | 0, _ => exact r | 1, _ => exact r | 2, _ => exact r)
theorem yit : zas 3 = [3] := by rw [zas, show (3 : Int).toNat = 3 from rfl, zbb (by decide)]; rfl
theorem zpx : zas 0 = [0] := by rw [zas, show (0 : Int).toNat = 0 from rfl, zbb (by decide)]; rfl
theorem yjq : zbr (zdl []) = [3, 0] := by
 rw [zdl, zaj, if_neg (by decide), if_neg (by decide), zb2]
 show _ ++ (zas 0 ++ _) = _
 rw [zpx]; rfl
theorem yda {n : Int} {b : UInt8} (h : zas n = [b]) : zbr (zdl [zgd n, zdl [], zdl []]) = [3, 3, 1, b, 3, 0, 3, 0] := by
 rw [zdl, zaj, if_neg (by decide), if_neg (by decide), zb2, zb2, zb2, zb2]
 show _ ++ (zas 3 ++ (_ ++ (_ ++ (_ ++ _)))) = _
 have e : zbr (zgd n) = [1, b] := by rw [zgd, zaj, if_pos rfl, h]; rfl
 have e' : zbr (.mk 3 0 [] []) = [3, 0] := yjq
 rw [yit, e, show zbr (zdl []) = [3, 0] from yjq]; rfl
theorem ynq (n : Int) : zds (zdl [zgd n, zdl [], zdl []]) = true := by simp [zdl, zgd, zds, zcw]
theorem ynp (n : Int) : zco (zdl [zgd n, zdl [], zdl []]) <= 6 := by
 simp only [zdl, zgd, zco, zb7]
 split <;> decide
theorem ydb {n : Int} {b : UInt8} (h : zas n = [b]) : cfE ⟨n, [], []⟩ = 0 /\ cfT ⟨n, [], []⟩ = [3, 3, 1, b, 3, 0, 3, 0] := by
 have h1 : zlc (zhs ⟨n, [], []⟩) = 0 := by
   show zlc (zdl [zgd n, zdl [], zdl []]) = 0
   have := ynp n
   rw [zlc, if_pos (ynq n), if_neg (by omega), yda h]; rfl
 have h2 : cfE ⟨n, [], []⟩ = 0 := h1
 refine ⟨h2, ?_⟩
 rw [cfT, if_pos h2, (yqy h1).2.2.2]
 exact yda h
theorem yj3 (n : Int) : zah (.agg [.int .u64 n, .nils, .nils]) = ⟨n, [], []⟩ := rfl
theorem ybh (n : Int) : zd2 (.agg [.int .u64 n, .nils, .nils]) := ⟨rfl, ⟨_, rfl⟩, trivial, trivial⟩
theorem zsn {n : Int} (h : zbu n) : zf0 ⟨n, [], []⟩ := ⟨rfl, h, (fun l hl => nomatch hl), (fun l hl => nomatch hl)⟩
theorem zyk : za7 Tryz.prog 8 [] (.bool true) := by
 refine zac (T := tt) (S := fun L => zao [yib L, tru 31, tru 32]) (lo := noA) (lb := noA) 5 (fn := Tryz.f8) rfl rfl (by kernel_rfl) (by kernel_rfl) rfl zab (za3 ⟨zw2, zcg zyw, zcg zyv, trivial⟩) (by kernel_rfl) ?_
 intro L P' Q' hL hP hQ
 (cbv; try simp only [syT, true_and, and_true])
 (subst hL; subst hQ; simp only [L2, L3, std] at *; try simp only [syS, reduceCtorEq, Int.reduceToNat, Int.reduceAdd, Int.reduceSub] at *)
 simp only [yj3, (ydb zzr).1, (ydb zzr).2, (ydb zpx).1, (ydb zpx).2]
 exact ⟨⟨ybh 1, zsn ⟨by decide, by decide⟩⟩, ⟨ybh 0, zsn ⟨by decide, by decide⟩⟩, fun _ => ⟨fun _ => ⟨fun _ => trivial, trivial⟩, trivial⟩, trivial⟩
end Sy
end Go.Proofs.YthppjaoicibeiaaGreatDoor
namespace Go.Proofs.YthppjaoicibeiaaGreatDoor
namespace Sy
open Go Go.RowKit
set_option maxRecDepth 100000
set_option linter.unusedSimpArgs false
set_option linter.unusedVariables false
noncomputable def ypc (c : Cf) : Bool := decide ((zi7 c).length = 0)
noncomputable def yi8 (c : Cf) : Ft := zgi (zi7 c) 0
noncomputable def yhr (L : zaa) : zbg := (19, fun xs => match xs with
 | [x] => some (L zd2 x /\ L zf0 (L zah x), .bool (L ypc (L zah x)))
 | _ => none)
noncomputable def yi7 (L : zaa) : zbg := (20, fun xs => match xs with
 | [x] => some (L zd2 x /\ L zf0 (L zah x), .agg [.int .i64 (L Ft.c (L yi8 (L zah x))), .str (L Ft.w (L yi8 (L zah x)))])
 | _ => none)
theorem zvo : zaz Tryz.prog (yhr std) := by
 intro xs p r h hp
 dsimp only [yhr] at h |-
 split at h <;> cases h
 try simp only [L2, L3, std] at hp |-
 rename_i x
 refine zk2 zbi hp.1 ?_
 have hp := hp.2
 show za7 _ _ [.agg [.int .u64 (zah x).v, zd3 std (zah x).ls, zcn std (zah x).cs]] (.bool (ypc (zah x)))
 have hp : zf0 (zah x) := hp
 generalize zah x = c at hp |-
 refine za2 (T := tt) (S := fun L => zao [ye7 L]) (lo := fun _ => noA std) (lb := noA) 5 (fn := Tryz.f19) (xs := fun L => [.agg [.int .u64 (L Cf.v c), zd3 L (L Cf.ls c), zcn L (L Cf.cs c)]]) rfl rfl (by kernel_rfl) (by kernel_rfl) rfl zab (za3 ⟨zpn, trivial⟩) (by kernel_rfl) ?_
 intro L P' Q' hL hP hQ
 have hG : ∀ y : Cf, L zah (.agg [.int .u64 (L Cf.v y), .lst 7 (L zad (L Cf.ls y)) (fun i => lsC L (L (L za4 (L Cf.ls y)) i)), .lst 2 (L zad (L Cf.cs y)) (fun i => clC L (L (L za5 (L Cf.cs y)) i))]) = y := by subst hL; exact fun y => (gK zbi y _ rfl).2
 have hO : ∀ y : Cf, L zd2 (.agg [.int .u64 (L Cf.v y), .lst 7 (L zad (L Cf.ls y)) (fun i => lsC L (L (L za4 (L Cf.ls y)) i)), .lst 2 (L zad (L Cf.cs y)) (fun i => clC L (L (L za5 (L Cf.cs y)) i))]) := by subst hL; exact fun y => (gK zbi y _ rfl).1
 (cbv; try simp only [syT, true_and, and_true])
 simp only [hG, hO, true_and]
 (subst hL; subst hQ; simp only [L2, L3, std] at *; try simp only [syS, reduceCtorEq, Int.reduceToNat, Int.reduceAdd, Int.reduceSub] at *)
 clear hG hO
 refine ⟨hp, ?_⟩
 show ieq ((zi7 c).length : Int) 0 = _
 rw [yh7]; rfl
theorem zvx : zaz Tryz.prog (yi7 std) := by
 intro xs p r h hp
 dsimp only [yi7] at h |-
 split at h <;> cases h
 try simp only [L2, L3, std] at hp |-
 rename_i x
 refine zk2 zbi hp.1 ?_
 have hp := hp.2
 show za7 _ _ [.agg [.int .u64 (zah x).v, zd3 std (zah x).ls, zcn std (zah x).cs]] (.agg [.int .i64 (yi8 (zah x)).c, .str (yi8 (zah x)).w])
 have hp : zf0 (zah x) := hp
 generalize zah x = c at hp |-
 refine za2 (T := tt) (S := fun L => zao [ye7 L]) (lo := fun _ => noA std) (lb := noA) 5 (fn := Tryz.f20) (xs := fun L => [.agg [.int .u64 (L Cf.v c), zd3 L (L Cf.ls c), zcn L (L Cf.cs c)]]) rfl rfl (by kernel_rfl) (by kernel_rfl) rfl zab (za3 ⟨zpn, trivial⟩) (by kernel_rfl) ?_
 intro L P' Q' hL hP hQ
 have hG : ∀ y : Cf, L zah (.agg [.int .u64 (L Cf.v y), .lst 7 (L zad (L Cf.ls y)) (fun i => lsC L (L (L za4 (L Cf.ls y)) i)), .lst 2 (L zad (L Cf.cs y)) (fun i => clC L (L (L za5 (L Cf.cs y)) i))]) = y := by subst hL; exact fun y => (gK zbi y _ rfl).2
 have hO : ∀ y : Cf, L zd2 (.agg [.int .u64 (L Cf.v y), .lst 7 (L zad (L Cf.ls y)) (fun i => lsC L (L (L za4 (L Cf.ls y)) i)), .lst 2 (L zad (L Cf.cs y)) (fun i => clC L (L (L za5 (L Cf.cs y)) i))]) := by subst hL; exact fun y => (gK zbi y _ rfl).1
 (cbv; try simp only [syT, true_and, and_true])
 simp only [hG, hO, true_and]
 (subst hL; subst hQ; simp only [L2, L3, std] at *; try simp only [syS, reduceCtorEq, Int.reduceToNat, Int.reduceAdd, Int.reduceSub] at *)
 clear hG hO
 refine ⟨hp, fun h => ?_, fun h => ⟨?_, rfl, rfl⟩⟩
 · have h0 : (zi7 c).length = 0 := by have : zad (zi7 c) = (zi7 c).length := rfl; omega
   have : zi7 c = [] := List.length_eq_zero_iff.1 h0
   unfold yi8
   rw [this]
   exact ⟨rfl, rfl⟩
 · omega
def c10 : Cf := ⟨0, [⟨[], ⟨0, 0, 0, 0, 0⟩, []⟩], []⟩
def c0 : Cf := ⟨0, [], []⟩
theorem zzp {n : Int} {b : Nat} (h : n.toNat = b) (hb : b < 128) : zas n = [UInt8.ofNat b] := by rw [zas, h, zbb hb]
theorem yog : zhs c10 = zdl [zgd 0, zdl [zdl [zh9 [], zh9 [0, 0, 0, 0, 0, 0], zdl []]], zdl []] := by rfl
theorem yoi : (zbr (zhs c10)).length <= 8192 := by
 rw [yog]
 have s1 : zas 1 = [1] := zzp rfl (by decide)
 have s6 : zas 6 = [6] := zzp rfl (by decide)
 simp [zdl, zgd, zh9, zaj, zb2, zgb, zpx, yit, s1, s6]
theorem ywx : cfE c10 = 0 := by
 have h : zlc (zhs c10) = 0 := by
   have h1 : zds (zhs c10) = true := by decide +kernel
   have h2 : ¬ zco (zhs c10) > 6 := by decide +kernel
   have h3 := yoi
   rw [zlc, if_pos h1, if_neg h2, if_neg (by omega)]
 rw [cfE, if_neg (by decide), if_neg (by decide), h]
theorem yia : zfj [] = false := by decide +kernel
theorem ytb : dgI 0 = [48] := by decide +kernel
theorem yoj : yi8 c10 = ⟨4, [108, 105, 115, 116, 101, 110, 101, 114, 32, 48]⟩ := by
 have h1 : yby ⟨[], ⟨0, 0, 0, 0, 0⟩, []⟩ [] = 4 := by
   unfold yby ym3
   rw [yia]; rfl
 have h2 : ykd c10 0 = [⟨4, whZ yka [0]⟩] := by
   unfold ykd
   show ftI (yby ⟨[], ⟨0, 0, 0, 0, 0⟩, []⟩ []) _ = _
   rw [h1]; rfl
 have h3 : zi7 c10 = [⟨4, whZ yka [0]⟩] := by
   rw [zi7, if_neg (by rw [ywx]; decide)]
   show vfC c10 0 = _
   rw [vfC]
   show vfL c10 1 = _
   rw [vfL, vfL, h2]; rfl
 rw [yi8, h3, <- wh1, ytb]; rfl
theorem ytc : ypc c0 = true := by
 have h3 : zi7 c0 = [] := by
   rw [zi7, if_neg (by rw [show cfE c0 = 0 from (ydb zpx).1]; decide)]; rfl
 rw [ypc, h3]; rfl
theorem yio : za7 Tryz.prog 45 [] (.bool true) := by
 refine zac (T := tt) (S := fun L => zao [tru 86]) (lo := noA) (lb := noA) 5 (fn := Tryz.f45) rfl rfl (by kernel_rfl) (by kernel_rfl) rfl zab (za3 ⟨zcg zyn, trivial⟩) (by kernel_rfl) ?_
 (intro L P1 Q1 hL hP hQ; cbv; subst hL; simp only [L2, L3, std, syT]; subst hQ)
 (simp only [syS, reduceCtorEq, Int.reduceToNat, Int.reduceAdd, Int.reduceSub])
theorem yin : za7 Tryz.prog 46 [] (.bool true) := by
 refine zac (T := tt) (S := fun L => zao [tru 8]) (lo := noA) (lb := noA) 5 (fn := Tryz.f46) rfl rfl (by kernel_rfl) (by kernel_rfl) rfl zab (za3 ⟨zcg zyk, trivial⟩) (by kernel_rfl) ?_
 (intro L P1 Q1 hL hP hQ; cbv; subst hL; simp only [L2, L3, std, syT]; subst hQ)
 (simp only [syS, reduceCtorEq, Int.reduceToNat, Int.reduceAdd, Int.reduceSub])
theorem yt9 : zah (.agg [.int .u64 0, .lst 7 1 (fun i j => zbq .dead [.str [], .int .u8 0, .int .u8 0, .int .u8 0, .int .u8 0, .int .u16 0, .nils] (i * 7 + j)), .nils]) = c10 := by rfl
theorem yta : zd2 (.agg [.int .u64 0, .lst 7 1 (fun i j => zbq .dead [.str [], .int .u8 0, .int .u8 0, .int .u8 0, .int .u8 0, .int .u16 0, .nils] (i * 7 + j)), .nils]) := by
 refine ⟨rfl, ⟨_, rfl⟩, ⟨rfl, fun i hi => ?_⟩, trivial⟩
 obtain rfl : i = 0 := by omega
 exact ⟨⟨_, rfl⟩, ⟨⟨_, rfl⟩, ⟨_, rfl⟩, ⟨_, rfl⟩, ⟨_, rfl⟩, ⟨_, rfl⟩⟩, trivial⟩
theorem yoh : zf0 c10 := by
 refine ⟨by decide, ⟨by decide, by decide⟩, fun l hl => ?_, fun l hl => nomatch hl⟩
 obtain rfl : l = ⟨[], ⟨0, 0, 0, 0, 0⟩, []⟩ := by simpa [c10] using hl
 exact ⟨by unfold zqe; decide, fun x hx => nomatch hx⟩
theorem zyj : za7 Tryz.prog 16 [] (.bool true) := by
 refine zac (T := tt) (S := fun L => zao [yi7 L, yhr L, tru 45, tru 46]) (lo := noA) (lb := noA) 5 (fn := Tryz.f16) rfl rfl (by kernel_rfl) (by kernel_rfl) rfl zab (za3 ⟨zvx, zvo, zcg yio, zcg yin, trivial⟩) (by kernel_rfl) ?_
 intro L P' Q' hL hP hQ
 (cbv; try simp only [syT, true_and, and_true])
 (subst hL; subst hQ; simp only [L2, L3, std] at *; try simp only [syS, reduceCtorEq, Int.reduceToNat, Int.reduceAdd, Int.reduceSub] at *)
 rw [yt9, yj3, yoj]
 exact ⟨⟨yta, yoh⟩, ⟨ybh 0, zsn ⟨by decide, by decide⟩⟩, fun _ => ⟨rfl, rfl⟩, by rw [show (⟨0, [], []⟩ : Cf) = c0 from rfl, ytc]; decide⟩
end Sy
end Go.Proofs.YthppjaoicibeiaaGreatDoor
namespace Go.Proofs.YthppjaoicibeiaaGreatDoor
namespace Sy
open Go Go.RowKit
set_option maxRecDepth 100000
set_option linter.unusedSimpArgs false
set_option linter.unusedVariables false
def leFt (l : List Ft) (i : Nat) : Prop := leM l i
def goFt (l : List Ft) (i : Nat) : Nat := l.length - i
noncomputable def flA (L : zaa) (c : Cf) : Nat -> St -> Option Ann := fun id st => match id with
 | 0 => some ⟨Nat, fun i => [(32, .int .i64 (L zav i))], fun i => [], [1, 3, 4, 31], [1], fun i => L2 L leFt (L zi7 c) i, fun i => L2 L goFt (L zi7 c) i⟩
 | _ => none
theorem yd3 (y : Cf) (hy : ypn y) : za7 Tryz.prog 4 [.agg ((List.range 3).map (cfC std y))] (.bool true) := by
 refine za2 (T := tt) (S := fun L => zao [tru 16, prS 9 zd2 zah zbm zxf L, ye7 L, yus L, yb2 L, yhr L, yi7 L]) (lo := fun L => flA L y) (lb := noA) 5 (fn := Tryz.f4) (xs := fun L => [.agg [.int .u64 (L Cf.v y), .lst 7 (L zad (L Cf.ls y)) (fun i => lsC L (L (L za4 (L Cf.ls y)) i)), .lst 2 (L zad (L Cf.cs y)) (fun i => clC L (L (L za5 (L Cf.cs y)) i))]]) rfl rfl (by kernel_rfl) (by kernel_rfl) rfl zab (za3 ⟨zcg zyj, zxs, zpn, ykh, yb3, zvo, zvx, trivial⟩) (by kernel_rfl) ?_
 intro L P' Q' hL hP hQ
 have hG : ∀ y : Cf, L zah (.agg [.int .u64 (L Cf.v y), .lst 7 (L zad (L Cf.ls y)) (fun i => lsC L (L (L za4 (L Cf.ls y)) i)), .lst 2 (L zad (L Cf.cs y)) (fun i => clC L (L (L za5 (L Cf.cs y)) i))]) = y := by subst hL; exact fun y => (gK zbi y _ rfl).2
 have hO : ∀ y : Cf, L zd2 (.agg [.int .u64 (L Cf.v y), .lst 7 (L zad (L Cf.ls y)) (fun i => lsC L (L (L za4 (L Cf.ls y)) i)), .lst 2 (L zad (L Cf.cs y)) (fun i => clC L (L (L za5 (L Cf.cs y)) i))]) := by subst hL; exact fun y => (gK zbi y _ rfl).1
 (cbv; try simp only [syT, true_and, and_true])
 simp only [hG, hO, true_and]
 have hl0 : zad (zi7 y) = (zi7 y).length := rfl
 refine ⟨fun h => ?_, fun _ => ⟨?_, fun h => ?_, fun l1 => ⟨?_, ?_, ?_, fun h => ?_, fun _ => ⟨?_, fun h => ?_, fun _ => ⟨⟨0, ?_⟩, fun i hi => ?_⟩⟩⟩⟩⟩
 · subst hL
   exact absurd h (by decide)
 · subst hL
   exact trivial
 · (subst hL; subst hQ; simp only [L2, L3, std] at *; try simp only [syS, reduceCtorEq, Int.reduceToNat, Int.reduceAdd, Int.reduceSub] at *)
 · (subst hL; subst hQ; simp only [L2, L3, std] at *; try simp only [syS, reduceCtorEq, Int.reduceToNat, Int.reduceAdd, Int.reduceSub] at *)
   exact ⟨l1, hy⟩
 · (subst hL; subst hQ; simp only [L2, L3, std] at *; try simp only [syS, reduceCtorEq, Int.reduceToNat, Int.reduceAdd, Int.reduceSub] at *)
   exact zt0 l1
 · (subst hL; subst hQ; simp only [L2, L3, std] at *; try simp only [syS, reduceCtorEq, Int.reduceToNat, Int.reduceAdd, Int.reduceSub] at *)
   exact ⟨l1, hy⟩
 · subst hL
   exact absurd h (by simp [std, ine])
 · (subst hL; subst hQ; simp only [L2, L3, std] at *; try simp only [syS, reduceCtorEq, Int.reduceToNat, Int.reduceAdd, Int.reduceSub] at *)
   exact ⟨l1, hy⟩
 · subst hL
   refine absurd h ?_
   simp only [std]
   rw [show ieq (zav (zad (zi7 y))) 0 = ypc y from (yh7 _).trans rfl]
   cases ypc y <;> decide
 · (cbv; try simp only [syT, true_and, and_true])
   (subst hL; subst hQ; simp only [L2, L3, std] at *; try simp only [syS, reduceCtorEq, Int.reduceToNat, Int.reduceAdd, Int.reduceSub] at *)
   exact Nat.zero_le _
 · have hi2 : leFt (zi7 y) i := by
     have h := hi
     rw [hL] at h
     exact h
   clear hi
   (cbv; try simp only [syT, true_and, and_true])
   simp only [hG, hO, true_and]
   have hz : (zi7 y).length <= 1000 := by
     have hl1 : zbm y = true := by
       subst hL
       have h : (!zbm y) = false := l1
       simpa using h
     have h1 := zky hl1 y.cs.length (Nat.le_refl _)
     have h2 := (zjn hl1).2
     rw [zi7]
     split
     · exact (by decide : (1 : Nat) <= 1000)
     · omega
   refine ⟨fun hlt => ⟨?_, ?_, fun h => ?_, fun _ => ⟨?_, ?_, fun h => ?_, fun _ => ⟨i + 1, ?_⟩⟩⟩, fun hge => ⟨?_, fun h0 => ⟨fun h => ?_, fun h => ?_⟩, fun h0 => ?_⟩⟩
   all_goals try (cbv; try simp only [syT, true_and, and_true])
   all_goals (subst hL; subst hQ; simp only [L2, L3, std] at *; try simp only [syS, reduceCtorEq, Int.reduceToNat, Int.reduceAdd, Int.reduceSub] at *)
   all_goals clear hG hO
   · omega
   · omega
   · omega
   · omega
   · have hi3 : i <= (zi7 y).length := hi2
     exact ⟨by omega, by show i + 1 <= _; omega, by show (zi7 y).length - (i + 1) + 1 <= (zi7 y).length - i; omega⟩
   · exact ⟨l1, hy⟩
   · exfalso
     have h3 : zi7 y = [] := List.length_eq_zero_iff.1 (by omega)
     have h4 : yi8 y = ⟨0, []⟩ := by unfold yi8; rw [h3]; rfl
     rw [h4] at h
     exact h rfl rfl
   · refine ⟨fun h => ⟨⟨by omega, by omega⟩, rfl, rfl⟩, by omega⟩
theorem law_ValidFaults (y : Cf) (hy : ypn y) : za7 Tryz.prog 4 [.agg ((List.range 3).map (cfC std y))] (.bool true) := yd3 y hy
end Sy
end Go.Proofs.YthppjaoicibeiaaGreatDoor
namespace Go.Proofs.YthppjaoicibeiaaGreatDoor
namespace Sy
open Go
set_option linter.unusedVariables false
theorem zt5 {P : Program} {w : World} {n : String} {d : DataW Unit} : ∀ {l : List (String × DataW Unit)} {ps : List MemPlace}, DataW.LaidVars P w l ps -> (n, d) ∈ l ->
   ∃ g t cs fuel p, P.globalNamed n = some g /\ (P.globals[g]?).map (·.type) = some t /\ w.var? P n = some cs /\ DataW.trod (fun _ => ()) P w 0 (fun _ => true) false fuel t cs.toList = some (d, p)
 | x :: r, ps, h, hm => by
   obtain ⟨n', d'⟩ := x
   obtain ⟨g, t, cs, fuel, p, q, h1, h2, h3, h4, h5, _⟩ := h
   rcases List.mem_cons.1 hm with e | hm
   · cases e
     exact ⟨g, t, cs, fuel, p, h1, h2, h3, h4⟩
   · exact zt5 h5 hm
theorem laid_tab {P : Program} {w : World} {name : String} {k : IntKind} {zs : List Int} {l : List (String × DataW Unit)} (h : laidMet P l w) (hm : (name, Lib.tabData k zs) ∈ l) {g : Nat} {t e : TypeId} {n : Nat}
   (hg : P.globalNamed name = some g) (hty : (P.globals[g]?).map (·.type) = some t) (ht : P.underlying t = some (.array n e)) (he : P.underlying e = some (.int k)) (hce : P.cellsOf e = 1) (hct : P.cellsOf t = n) : Lib.TabIs P w name k zs := by
 obtain ⟨ps, hv, _⟩ := h
 obtain ⟨g', t', cs, fuel, p, hg', ht', hvar, hd⟩ := zt5 hv hm
 obtain rfl := Option.some.inj (hg.symm.trans hg')
 obtain rfl := Option.some.inj (hty.symm.trans ht')
 unfold Lib.TabIs
 rw [hvar, <- Lib.cells_of_tab ht he hce hct hd]
theorem laid_ifc {P : Program} {w : World} {name nm : String} {d : DataW Unit} {l : List (String × DataW Unit)} (h : laidMet P l w) (hm : (name, .iface nm d) ∈ l) {g : Nat} {t : TypeId} {ms : Array (String × TypeId)}
   (hg : P.globalNamed name = some g) (hty : (P.globals[g]?).map (·.type) = some t) (ht : P.underlying t = some (.interface ms)) : ∃ te pe, w.var? P name = some #[.iface te pe] := by
 obtain ⟨ps, hv, _⟩ := h
 obtain ⟨g', t', cs, fuel, p, hg', ht', hvar, hd⟩ := zt5 hv hm
 obtain rfl := Option.some.inj (hg.symm.trans hg')
 obtain rfl := Option.some.inj (hty.symm.trans ht')
 obtain ⟨f2, u, v, e, _, _⟩ := iface_of_trod ht hd
 refine ⟨u, v, ?_⟩
 rw [hvar]
 obtain ⟨l0⟩ := cs
 have e : l0 = [.iface u v] := e
 rw [e]
theorem max_is {w : World} (h : w.ShapedOpen Tryz.prog) (hm : ∀ g, Tryz.prog.globalNamed "internal/bytealg.MaxLen" = some g -> ∃ zero t, g < Tryz.prog.globals.size /\ ((begin Tryz.prog (fun _ _ => 0) default).world.heap[g]?).bind Obj.row? = some (zero, t) /\ zero.size = 1 /\ Tryz.prog.buildable t = true /\ Tryz.prog.cellTypes Tryz.prog.depth t = some [t] /\ Tryz.prog.underlying t = some (.int .i64)) : yeg w := by
 intro g hg
 obtain ⟨zero, t, h1, h2, h3, h4, h5, h6⟩ := hm g hg
 exact Go.Proofs.cell_of_shapedOpen_int h h1 h2 h3 h4 h5 h6
theorem returns_and_shaped {H : Type} {enc : TypeId × Value -> H} {a : Assume} {C : Checked} {os : Os} {f : FuncId} {fn : Func} {s : ChangeSpec} {conds : List PathCond} {apart fresh handsOn again : Bool} {X : World -> Array Value -> Prop}
   (hX : ∀ (w w' : World) (args : Array Value), w.heap = w'.heap -> X w args -> X w' args)
   (own : ownKnob C.prog.godebug = none) (started : os.Started) (noInit : C.prog.inits.idxOf? f = none) (hfn : C.prog.funcs[f]? = some fn)
   (witness : ∃ (w : World) (tape : Tape) (i : Input), w.os = os /\ (w.forCall tape i).Shaped C.prog /\ i.vars = [] /\ Input.okWide C.prog (w.forCall tape i) .any w.heap.size f i /\
     ((s.pre enc C.prog fn conds apart (w.forCall tape i).memory i.args /\ X (w.forCall tape i).memory i.args) /\ sizedMet enc C.prog fn (OpenSpec.ofChange s) apart (w.forCall tape i).memory i.args) /\ a.holds C.prog (lone (Frame.enter C.prog f i.args .normal) [] (w.forCall tape i)))
   (contract : ∀ (W : World) (base : Nat) (args : Array Value) (ds gs : List (DataW H)) (before : List MemPlace),
     (∀ (j : Nat) t v, fn.params[j]? = some t -> args[j]? = some v -> Value.okWide C.prog W .any base t v) ->
     DataW.Whole enc C.prog fn.params.toList s.vars apart W args.toList ds gs before ->
     conds.all (PathCond.test C.prog ⟨fn.params.toList, ds, s.plain.varTypes C.prog, gs⟩) = true ->
     (DataW.weightsEach C.prog (fn.params.toList ++ s.plain.varTypes C.prog) (ds ++ gs)).all (· <= reachBytes) = true -> X W args -> W.ShapedOpen C.prog ->
     a.holds C.prog (lone (Frame.enter C.prog f args .normal) [] W) ->
     Calls C.prog f args W fun e W' => ∃ v, e = .returned v /\ s.post enc C.prog fn apart fresh handsOn again W args v W') :
   ReturnsInHanded a C os f .any (fun w args => (s.pre enc C.prog fn conds apart w args /\ X w args) /\ sizedMet enc C.prog fn (OpenSpec.ofChange s) apart w args) (s.post enc C.prog fn apart fresh handsOn again) := by
 refine returnsInHanded_of_calls own started noInit witness ?_
 intro w tape i _ hsh _ hok hpre hholds
 obtain ⟨_, _, _, fn', hfn', _, _, _, _, hval⟩ := hok
 have e : fn' = fn := Option.some.inj (hfn'.symm.trans hfn)
 subst e
 obtain ⟨⟨⟨ds, gs, before, hw, hc⟩, hx⟩, hz⟩ := hpre
 have hw' := DataW.Whole.of_heap (w' := w.forCall tape i) (by rfl) hw
 refine (contract (w.forCall tape i) w.heap.size i.args ds gs before hval hw' hc (hz.weights hw) (hX _ _ _ (by rfl) hx) hsh hholds).mono fun e W' ⟨v, he, hp⟩ => ?_
 subst he
 exact ChangeSpec.post_blind hp
end Sy
end Go.Proofs.YthppjaoicibeiaaGreatDoor
