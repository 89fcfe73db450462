/-Chapter 9 (config): the same. Chapter 9 (config): the first listener, cluster of a name. The laws of chapter 4 (spot): SpotTexts, SpotMeets, SpotOrder, SpotBytes. An argument that is an array; and what stands between these and the texts behind.-/
import Derived.Test.YtfonekpmkdkgnaaGreatDoorM5
import Derived.Test.YtfonekpmkdkgnaaGreatDoorM4
import Derived.Lib.Overlaps
import Derived.Test.YtfonekpmkdkgnaaGreatDoorM1
import Derived.ProofKit
import Derived.OpenShut
import Derived.LaidMore
import Derived.Lay
import Derived.Stop.Joined
import Derived.Lib.LaidTab
import Derived.Handed
import Derived.Shelf.Vars
namespace Go.Proofs.YtfonekpmkdkgnaaGreatDoor
namespace Sy
open Go Go.RowKit
set_option maxRecDepth 100000
set_option linter.unusedSimpArgs false
set_option linter.unusedVariables false
theorem plEq (x y : Pl) : x = y ↔ x.a = y.a /\ x.b = y.b /\ x.c = y.c /\ x.d = y.d /\ x.p = y.p := by cases x; cases y; simp
def zrz {α : Type} (V : Vw α) (a b : List α) (i : Nat) : Prop := a.length = b.length /\ i <= a.length /\ ∀ j, j < i -> zil V a j = zil V b j
theorem zq3 {α : Type} {V : Vw α} {a b : List α} (h : a.length = b.length) : zrz V a b 0 := ⟨h, Nat.zero_le _, fun j hj => by omega⟩
theorem zhp {α : Type} {V : Vw α} {a b : List α} {i : Nat} (h : zrz V a b i) (hi : i < a.length) (e : zil V a i = zil V b i) : zrz V a b (i + 1) :=
 ⟨h.1, hi, fun j hj => by
   by_cases ej : j = i
   · rw [ej]; exact e
   · exact h.2.2 j (by omega)⟩
theorem zja {α : Type} {V : Vw α} {a b : List α} {i : Nat} (h : zrz V a b i) (hi : a.length <= i) : a = b := by
 apply List.ext_getElem h.1
 intro j h1 h2
 have := h.2.2 j (by omega)
 rwa [zat h1, zat h2] at this
theorem zlc {α : Type} {V : Vw α} {a b : List α} {i : Nat} (e : ¬ zil V a i = zil V b i) : ¬ a = b := fun h => e (by rw [h])
theorem zw9 {α : Type} {a b : List α} (h : ¬ a.length = b.length) : ¬ a = b := fun e => h (by rw [e])
def zzl {α : Type} (f : Nat) (ok : AV -> Prop) (rd : AV -> α) (p : α -> α -> Bool) (pre : α -> Prop) (L : za9) : zdq := (f, fun xs => match xs with
 | [x, y] => some (L ok x /\ L ok y /\ L pre (L rd x) /\ L pre (L rd y), .bool (L2 L p (L rd x) (L rd y)))
 | _ => none)
def yor {α : Type} (f : Nat) (ok : AV -> Prop) (rd : AV -> List α) (p : List α -> List α -> Bool) (L : za9) : zdq := (f, fun xs => match xs with
 | [x, y] => some (L ok x /\ L ok y /\ L zee (L rd x), .bool (L2 L p (L rd x) (L rd y)))
 | _ => none)
def yos {α : Type} (f g : Nat) (ok : AV -> Prop) (rd : AV -> List α) (p : List α -> List α -> Bool) (pre : List α -> Prop) (L : za9) : zdq := (f, fun xs => match xs with
 | [x, y, .fn k [] []] => match za8 k g with
   | true => some (L ok x /\ L ok y /\ L zee (L rd x) /\ L pre (L rd x) /\ L pre (L rd y), .bool (L2 L p (L rd x) (L rd y)))
   | false => none
 | _ => none)
theorem yil {α : Type} {V : Vw α} (K : zwq V) {P : Program} {f : FuncId} {x y r : AV} {q : List AV} (ho : okG V x) (ho' : okG V y) (h : za5 P f (.agg ((List.range V.sz).map (V.cell std (rdG V x))) :: .agg ((List.range V.sz).map (V.cell std (rdG V y))) :: q) r) : za5 P f (x :: y :: q) r :=
 zjm (fun h D vs hr => yoi (fun v => G_R K ho) (ysk (fun v => G_R K ho') hr)) h
def eqlA {α : Type} (L : za9) (inv : List α -> List α -> Nat -> Prop) (go : List α -> Nat -> Nat) (l m : List α) : Nat -> St -> Option Ann := fun id st => match id with
 | 0 => some ⟨Nat, fun i => [(13, .int .i64 (L zbh i))], fun i => [], [0, 1, 11, 12], [], fun i => L3 L inv l m i, fun i => L2 L go l i⟩
 | _ => none
def eqfA {α : Type} (L : za9) (inv : List α -> List α -> Nat -> Prop) (go : List α -> Nat -> Nat) (l m : List α) : Nat -> St -> Option Ann := fun id st => match id with
 | 0 => some ⟨Nat, fun i => [(17, .int .i64 (L zbh i))], fun i => [], [0, 1, 2, 15, 16], [], fun i => L3 L inv l m i, fun i => L2 L go l i⟩
 | _ => none
def goEp (l : List Ep) (i : Nat) : Nat := yp7 l i
def yhx (a b : List Rt) : Bool := decide (a = b)
def yuq (a b : List Rt) (i : Nat) : Prop := zrz rtV a b i
def yhv (a b : Rt) : Bool := decide (a = b)
def yhy (a b : List Ep) : Bool := decide (a = b)
def yus (a b : List Ep) (i : Nat) : Prop := zrz epV a b i
def yhw (a b : Ep) : Bool := decide (a = b)
def ymy (a b : List Ls) : Bool := decide (a = b)
def yur (a b : List Ls) (i : Nat) : Prop := zrz lsV a b i
def zyr (a b : Ls) : Bool := decide (a = b)
def yhz (a b : List Cl) : Bool := decide (a = b)
def yut (a b : List Cl) (i : Nat) : Prop := zrz clV a b i
def zyt (a b : Cl) : Bool := decide (a = b)
theorem zyv : zbp Tryz.prog (yor 23 yby ybm yhx std) := by
 intro xs p r h hp
 dsimp only [yor] at h |-
 split at h <;> cases h
 try simp only [L2, L3, std] at hp |-
 rename_i x y
 obtain ⟨ho, ho', hz⟩ := hp
 refine zhx zhz ho (yik zhz ho' ?_)
 have hz : zee (rdW rtV x) := hz
 show za5 _ _ _ (.bool (yhx (rdW rtV x) (rdW rtV y)))
 generalize rdW rtV x = l at hz |-
 generalize rdW rtV y = m
 refine za4 (T := tt) (S := noS) (lo := fun L => eqlA L yuq yrb l m) (lb := noA) 5 (fn := Tryz.f23) (xs := fun L => [znj L l, znj L m]) rfl rfl (by kernel_rfl) (by kernel_rfl) rfl zad (zbl _) (by kernel_rfl) ?_
 intro L P' Q' hL hP hQ
 have e1 : zab l = l.length := rfl
 have e2 : zab m = m.length := rfl
 have hz : l.length <= 1000000 := hz
 (cbv; try simp only [syT, true_and, and_true])
 refine ⟨fun hne => ?_, fun heq => ⟨⟨0, ?_⟩, fun i hi => ?_⟩⟩
 · (subst hL; subst hQ; simp only [L2, L3, std] at *; try simp only [syS, reduceCtorEq, Int.reduceToNat, Int.reduceAdd, Int.reduceSub] at *)
   exact (decide_eq_false (zw9 (by omega))).symm
 · (cbv; try simp only [syT, true_and, and_true])
   (subst hL; subst hQ; simp only [L2, L3, std] at *; try simp only [syS, reduceCtorEq, Int.reduceToNat, Int.reduceAdd, Int.reduceSub] at *)
   exact zq3 (by omega)
 · cbv at hi
   have hE : ∀ x y : Rt, L (L and (L (L seq (L Rt.h x)) (L Rt.h y))) (L (L and (L (L seq (L Rt.p x)) (L Rt.p y))) (L (L and (L (L seq (L Rt.c x)) (L Rt.c y))) (L (L and (L (L ieq (L Rt.i x)) (L Rt.i y))) true))) = yhv x y := by
     subst hL
     intro x y
     cases x; cases y
     rw [Bool.eq_iff_iff]
     simp [std, yhv, seq, ieq, and_assoc]
   (cbv; try simp only [syT, true_and, and_true])
   simp only [hE]
   refine ⟨fun hlt => ⟨?_, ?_, fun hb => ?_, fun hb => ⟨i + 1, ?_⟩⟩, fun hge => ?_⟩
   · (subst hL; subst hQ; simp only [L2, L3, std] at *; try simp only [syS, reduceCtorEq, Int.reduceToNat, Int.reduceAdd, Int.reduceSub] at *)
     omega
   · (subst hL; subst hQ; simp only [L2, L3, std] at *; try simp only [syS, reduceCtorEq, Int.reduceToNat, Int.reduceAdd, Int.reduceSub] at *)
     omega
   · (subst hL; subst hQ; simp only [L2, L3, std] at *; try simp only [syS, reduceCtorEq, Int.reduceToNat, Int.reduceAdd, Int.reduceSub] at *)
     simp only [yhv, Bool.not_eq_true', decide_eq_false_iff_not] at hb
     exact (decide_eq_false (zlc (V := rtV) (i := i) hb)).symm
   · (cbv; try simp only [syT, true_and, and_true])
     (subst hL; subst hQ; simp only [L2, L3, std] at *; try simp only [syS, reduceCtorEq, Int.reduceToNat, Int.reduceAdd, Int.reduceSub] at *)
     simp only [yhv, Bool.not_eq_false', decide_eq_true_eq] at hb
     refine ⟨by omega, zhp hi (by omega) hb, ?_⟩
     show l.length - (i + 1) < l.length - i
     omega
   · (subst hL; subst hQ; simp only [L2, L3, std] at *; try simp only [syS, reduceCtorEq, Int.reduceToNat, Int.reduceAdd, Int.reduceSub] at *)
     exact (decide_eq_true (zja hi (by omega))).symm
theorem zyw : zbp Tryz.prog (yor 26 zpg zp8 yhy std) := by
 intro xs p r h hp
 dsimp only [yor] at h |-
 split at h <;> cases h
 try simp only [L2, L3, std] at hp |-
 rename_i x y
 obtain ⟨ho, ho', hz⟩ := hp
 refine zhx zen ho (yik zen ho' ?_)
 have hz : zee (rdW epV x) := hz
 show za5 _ _ _ (.bool (yhy (rdW epV x) (rdW epV y)))
 generalize rdW epV x = l at hz |-
 generalize rdW epV y = m
 refine za4 (T := tt) (S := noS) (lo := fun L => eqlA L yus goEp l m) (lb := noA) 5 (fn := Tryz.f26) (xs := fun L => [zk9 L l, zk9 L m]) rfl rfl (by kernel_rfl) (by kernel_rfl) rfl zad (zbl _) (by kernel_rfl) ?_
 intro L P' Q' hL hP hQ
 have e1 : zab l = l.length := rfl
 have e2 : zab m = m.length := rfl
 have hz : l.length <= 1000000 := hz
 (cbv; try simp only [syT, true_and, and_true])
 refine ⟨fun hne => ?_, fun heq => ⟨⟨0, ?_⟩, fun i hi => ?_⟩⟩
 · (subst hL; subst hQ; simp only [L2, L3, std] at *; try simp only [syS, reduceCtorEq, Int.reduceToNat, Int.reduceAdd, Int.reduceSub] at *)
   exact (decide_eq_false (zw9 (by omega))).symm
 · (cbv; try simp only [syT, true_and, and_true])
   (subst hL; subst hQ; simp only [L2, L3, std] at *; try simp only [syS, reduceCtorEq, Int.reduceToNat, Int.reduceAdd, Int.reduceSub] at *)
   exact zq3 (by omega)
 · cbv at hi
   have hE : ∀ x y : Ep, L (L and (L (L and (L (L and (L (L ieq (L Pl.a (L Ep.pl x))) (L Pl.a (L Ep.pl y)))) (L (L and (L (L ieq (L Pl.b (L Ep.pl x))) (L Pl.b (L Ep.pl y)))) (L (L and (L (L ieq (L Pl.c (L Ep.pl x))) (L Pl.c (L Ep.pl y)))) (L (L and (L (L ieq (L Pl.d (L Ep.pl x))) (L Pl.d (L Ep.pl y)))) true))))) (L (L and (L (L ieq (L Pl.p (L Ep.pl x))) (L Pl.p (L Ep.pl y)))) true))) (L (L and (L (L ieq (L Ep.w x)) (L Ep.w y))) true) = yhw x y := by
     subst hL
     intro x y
     cases x; cases y
     rw [Bool.eq_iff_iff]
     simp [std, yhw, plEq, seq, ieq, and_assoc]
   (cbv; try simp only [syT, true_and, and_true])
   simp only [hE]
   refine ⟨fun hlt => ⟨?_, ?_, fun hb => ?_, fun hb => ⟨i + 1, ?_⟩⟩, fun hge => ?_⟩
   · (subst hL; subst hQ; simp only [L2, L3, std] at *; try simp only [syS, reduceCtorEq, Int.reduceToNat, Int.reduceAdd, Int.reduceSub] at *)
     omega
   · (subst hL; subst hQ; simp only [L2, L3, std] at *; try simp only [syS, reduceCtorEq, Int.reduceToNat, Int.reduceAdd, Int.reduceSub] at *)
     omega
   · (subst hL; subst hQ; simp only [L2, L3, std] at *; try simp only [syS, reduceCtorEq, Int.reduceToNat, Int.reduceAdd, Int.reduceSub] at *)
     simp only [yhw, Bool.not_eq_true', decide_eq_false_iff_not] at hb
     exact (decide_eq_false (zlc (V := epV) (i := i) hb)).symm
   · (cbv; try simp only [syT, true_and, and_true])
     (subst hL; subst hQ; simp only [L2, L3, std] at *; try simp only [syS, reduceCtorEq, Int.reduceToNat, Int.reduceAdd, Int.reduceSub] at *)
     simp only [yhw, Bool.not_eq_false', decide_eq_true_eq] at hb
     refine ⟨by omega, zhp hi (by omega) hb, ?_⟩
     show l.length - (i + 1) < l.length - i
     omega
   · (subst hL; subst hQ; simp only [L2, L3, std] at *; try simp only [syS, reduceCtorEq, Int.reduceToNat, Int.reduceAdd, Int.reduceSub] at *)
     exact (decide_eq_true (zja hi (by omega))).symm
def zqu (x : Ls) : Prop := zee x.rs
def zqv (x : Cl) : Prop := zee x.es
def zlu (l : List Ls) : Prop := zwp zqu l
def zlv (l : List Cl) : Prop := zwp zqv l
theorem zyq : zbp Tryz.prog (zzl 22 zky zkx zyr zqu std) := by
 intro xs p r h hp
 dsimp only [zzl] at h |-
 split at h <;> cases h
 try simp only [L2, L3, std] at hp |-
 rename_i x x'
 refine yil zd3 hp.1 hp.2.1 ?_
 have hp1 := hp.2.2.1
 have hp2 := hp.2.2.2
 show za5 _ _ _ (.bool (zyr (rdG lsV x) (rdG lsV x')))
 have hp1 : zqu (rdG lsV x) := hp1
 have hp2 : zqu (rdG lsV x') := hp2
 generalize rdG lsV x = y at hp1 |-
 generalize rdG lsV x' = z at hp2 |-
 refine za4 (T := tt) (S := fun L => zb7 [yor 23 yby ybm yhx L]) (lo := fun _ => noA std) (lb := noA) 5 (fn := Tryz.f22) (xs := fun L => [.agg [.str (L Ls.n y), .int .u8 (L Pl.a (L Ls.pl y)), .int .u8 (L Pl.b (L Ls.pl y)), .int .u8 (L Pl.c (L Ls.pl y)), .int .u8 (L Pl.d (L Ls.pl y)), .int .u16 (L Pl.p (L Ls.pl y)), .lst 4 (L zab (L Ls.rs y)) (fun i => rtC L (L (L zbq (L Ls.rs y)) i))], .agg [.str (L Ls.n z), .int .u8 (L Pl.a (L Ls.pl z)), .int .u8 (L Pl.b (L Ls.pl z)), .int .u8 (L Pl.c (L Ls.pl z)), .int .u8 (L Pl.d (L Ls.pl z)), .int .u16 (L Pl.p (L Ls.pl z)), .lst 4 (L zab (L Ls.rs z)) (fun i => rtC L (L (L zbq (L Ls.rs z)) i))]]) rfl rfl (by kernel_rfl) (by kernel_rfl) rfl zad (za7 ⟨zyv, trivial⟩) (by kernel_rfl) ?_
 intro L P' Q' hL hP hQ
 (cbv; try simp only [syT, true_and, and_true])
 (subst hL; subst hQ; simp only [L2, L3, std] at *; try simp only [syS, reduceCtorEq, Int.reduceToNat, Int.reduceAdd, Int.reduceSub] at *)
 simp only [yps]
 refine ⟨fun h1 => ⟨fun h2 => ⟨⟨ylj _, ylj _, hp1⟩, ?_⟩, fun h2 => ?_⟩, fun h1 => ?_⟩
 · have h2 : y.pl = z.pl := (plEq _ _).2 ⟨h2.1.1, h2.1.2.1, h2.1.2.2.1, h2.1.2.2.2, h2.2⟩
   cases y; cases z
   simp only [yhx, zyr, Ls.mk.injEq] at *
   rw [decide_eq_decide]
   simp [h1, h2]
 · refine (decide_eq_false fun e => ?_).symm
   subst e
   exact h2 ⟨rfl, rfl, rfl, rfl⟩ rfl
 · exact (decide_eq_false fun e => h1 (by rw [e])).symm
theorem zys : zbp Tryz.prog (zzl 25 zgx zgu zyt zqv std) := by
 intro xs p r h hp
 dsimp only [zzl] at h |-
 split at h <;> cases h
 try simp only [L2, L3, std] at hp |-
 rename_i x x'
 refine yil zc4 hp.1 hp.2.1 ?_
 have hp1 := hp.2.2.1
 have hp2 := hp.2.2.2
 show za5 _ _ _ (.bool (zyt (rdG clV x) (rdG clV x')))
 have hp1 : zqv (rdG clV x) := hp1
 have hp2 : zqv (rdG clV x') := hp2
 generalize rdG clV x = y at hp1 |-
 generalize rdG clV x' = z at hp2 |-
 refine za4 (T := tt) (S := fun L => zb7 [yor 26 zpg zp8 yhy L]) (lo := fun _ => noA std) (lb := noA) 5 (fn := Tryz.f25) (xs := fun L => [.agg [.str (L Cl.n y), .lst 6 (L zab (L Cl.es y)) (fun i => epC L (L (L zc9 (L Cl.es y)) i))], .agg [.str (L Cl.n z), .lst 6 (L zab (L Cl.es z)) (fun i => epC L (L (L zc9 (L Cl.es z)) i))]]) rfl rfl (by kernel_rfl) (by kernel_rfl) rfl zad (za7 ⟨zyw, trivial⟩) (by kernel_rfl) ?_
 intro L P' Q' hL hP hQ
 (cbv; try simp only [syT, true_and, and_true])
 (subst hL; subst hQ; simp only [L2, L3, std] at *; try simp only [syS, reduceCtorEq, Int.reduceToNat, Int.reduceAdd, Int.reduceSub] at *)
 simp only [yfp]
 refine ⟨fun h1 => ⟨⟨ybx _, ybx _, hp1⟩, ?_⟩, fun h1 => ?_⟩
 · cases y; cases z
   simp only [yhy, zyt, Cl.mk.injEq] at *
   rw [decide_eq_decide]
   simp [h1]
 · exact (decide_eq_false fun e => h1 (by rw [e])).symm
theorem zyx : zbp Tryz.prog (yos 21 22 zpf zp7 ymy zlu std) := by
 intro xs p r h hp
 unfold yos at h
 simp only at h
 split at h
 rotate_left
 · cases h
 rename_i x y k
 cases hk : za8 k 22 with
 | false => rw [hk] at h; cases h
 | true =>
 rw [hk] at h
 obtain rfl : k = 22 := of_decide_eq_true hk
 cases h
 obtain ⟨ho, ho', hz, h1, h2⟩ := hp
 refine zhx zd3 ho (yik zd3 ho' ?_)
 have hz : zee (rdW lsV x) := hz
 have h1 : zlu (rdW lsV x) := h1
 have h2 : zlu (rdW lsV y) := h2
 show za5 _ _ _ (.bool (ymy (rdW lsV x) (rdW lsV y)))
 generalize rdW lsV x = l at hz h1 |-
 generalize rdW lsV y = m at h2 |-
 refine za4 (T := tt) (S := fun L => zb7 [zzl 22 zky zkx zyr zqu L]) (lo := fun L => eqfA L yur ymh l m) (lb := noA) 5 (fn := Tryz.f21) (xs := fun L => [zek L l, zek L m, .fn 22 [] []]) rfl rfl (by kernel_rfl) (by kernel_rfl) rfl zad (za7 ⟨zyq, trivial⟩) (by kernel_rfl) ?_
 intro L P' Q' hL hP hQ
 have e1 : zab l = l.length := rfl
 have e2 : zab m = m.length := rfl
 have hz : l.length <= 1000000 := hz
 (cbv; try simp only [syT, true_and, and_true])
 refine ⟨fun hne => ?_, fun heq => ⟨⟨0, ?_⟩, fun i hi => ?_⟩⟩
 · (subst hL; subst hQ; simp only [L2, L3, std] at *; try simp only [syS, reduceCtorEq, Int.reduceToNat, Int.reduceAdd, Int.reduceSub] at *)
   exact (decide_eq_false (zw9 (by omega))).symm
 · (cbv; try simp only [syT, true_and, and_true])
   (subst hL; subst hQ; simp only [L2, L3, std] at *; try simp only [syS, reduceCtorEq, Int.reduceToNat, Int.reduceAdd, Int.reduceSub] at *)
   exact zq3 (by omega)
 · cbv at hi
   have hG : ∀ y : Ls, L zkx (.agg [.str (L Ls.n y), .int .u8 (L Pl.a (L Ls.pl y)), .int .u8 (L Pl.b (L Ls.pl y)), .int .u8 (L Pl.c (L Ls.pl y)), .int .u8 (L Pl.d (L Ls.pl y)), .int .u16 (L Pl.p (L Ls.pl y)), .lst 4 (L zab (L Ls.rs y)) (fun i => rtC L (L (L zbq (L Ls.rs y)) i))]) = y := by subst hL; exact fun y => (gK zd3 y _ rfl).2
   have hO : ∀ y : Ls, L zky (.agg [.str (L Ls.n y), .int .u8 (L Pl.a (L Ls.pl y)), .int .u8 (L Pl.b (L Ls.pl y)), .int .u8 (L Pl.c (L Ls.pl y)), .int .u8 (L Pl.d (L Ls.pl y)), .int .u16 (L Pl.p (L Ls.pl y)), .lst 4 (L zab (L Ls.rs y)) (fun i => rtC L (L (L zbq (L Ls.rs y)) i))]) := by subst hL; exact fun y => (gK zd3 y _ rfl).1
   (cbv; try simp only [syT, true_and, and_true])
   simp only [hG, hO, true_and]
   refine ⟨fun hlt => ⟨?_, ?_, ⟨?_, ?_⟩, fun hb => ?_, fun hb => ⟨i + 1, ?_⟩⟩, fun hge => ?_⟩
   · (subst hL; subst hQ; simp only [L2, L3, std] at *; try simp only [syS, reduceCtorEq, Int.reduceToNat, Int.reduceAdd, Int.reduceSub] at *)
     omega
   · (subst hL; subst hQ; simp only [L2, L3, std] at *; try simp only [syS, reduceCtorEq, Int.reduceToNat, Int.reduceAdd, Int.reduceSub] at *)
     omega
   · (subst hL; subst hQ; simp only [L2, L3, std] at *; try simp only [syS, reduceCtorEq, Int.reduceToNat, Int.reduceAdd, Int.reduceSub] at *)
     exact h1 _ (by rw [za6, zat (V := lsV) (by omega)]; exact List.getElem_mem _)
   · (subst hL; subst hQ; simp only [L2, L3, std] at *; try simp only [syS, reduceCtorEq, Int.reduceToNat, Int.reduceAdd, Int.reduceSub] at *)
     exact h2 _ (by rw [za6, zat (V := lsV) (by omega)]; exact List.getElem_mem _)
   · (subst hL; subst hQ; simp only [L2, L3, std] at *; try simp only [syS, reduceCtorEq, Int.reduceToNat, Int.reduceAdd, Int.reduceSub] at *)
     simp only [zyr, Bool.not_eq_true', decide_eq_false_iff_not] at hb
     exact (decide_eq_false (zlc (V := lsV) (i := i) hb)).symm
   · (cbv; try simp only [syT, true_and, and_true])
     try simp only [hG]
     (subst hL; subst hQ; simp only [L2, L3, std] at *; try simp only [syS, reduceCtorEq, Int.reduceToNat, Int.reduceAdd, Int.reduceSub] at *)
     simp only [zyr, Bool.not_eq_false', decide_eq_true_eq] at hb
     refine ⟨by omega, zhp hi (by omega) hb, ?_⟩
     show l.length - (i + 1) < l.length - i
     omega
   · (subst hL; subst hQ; simp only [L2, L3, std] at *; try simp only [syS, reduceCtorEq, Int.reduceToNat, Int.reduceAdd, Int.reduceSub] at *)
     exact (decide_eq_true (zja hi (by omega))).symm
theorem zyy : zbp Tryz.prog (yos 24 25 zk4 zk1 yhz zlv std) := by
 intro xs p r h hp
 unfold yos at h
 simp only at h
 split at h
 rotate_left
 · cases h
 rename_i x y k
 cases hk : za8 k 25 with
 | false => rw [hk] at h; cases h
 | true =>
 rw [hk] at h
 obtain rfl : k = 25 := of_decide_eq_true hk
 cases h
 obtain ⟨ho, ho', hz, h1, h2⟩ := hp
 refine zhx zc4 ho (yik zc4 ho' ?_)
 have hz : zee (rdW clV x) := hz
 have h1 : zlv (rdW clV x) := h1
 have h2 : zlv (rdW clV y) := h2
 show za5 _ _ _ (.bool (yhz (rdW clV x) (rdW clV y)))
 generalize rdW clV x = l at hz h1 |-
 generalize rdW clV y = m at h2 |-
 refine za4 (T := tt) (S := fun L => zb7 [zzl 25 zgx zgu zyt zqv L]) (lo := fun L => eqfA L yut ymi l m) (lb := noA) 5 (fn := Tryz.f24) (xs := fun L => [ze0 L l, ze0 L m, .fn 25 [] []]) rfl rfl (by kernel_rfl) (by kernel_rfl) rfl zad (za7 ⟨zys, trivial⟩) (by kernel_rfl) ?_
 intro L P' Q' hL hP hQ
 have e1 : zab l = l.length := rfl
 have e2 : zab m = m.length := rfl
 have hz : l.length <= 1000000 := hz
 (cbv; try simp only [syT, true_and, and_true])
 refine ⟨fun hne => ?_, fun heq => ⟨⟨0, ?_⟩, fun i hi => ?_⟩⟩
 · (subst hL; subst hQ; simp only [L2, L3, std] at *; try simp only [syS, reduceCtorEq, Int.reduceToNat, Int.reduceAdd, Int.reduceSub] at *)
   exact (decide_eq_false (zw9 (by omega))).symm
 · (cbv; try simp only [syT, true_and, and_true])
   (subst hL; subst hQ; simp only [L2, L3, std] at *; try simp only [syS, reduceCtorEq, Int.reduceToNat, Int.reduceAdd, Int.reduceSub] at *)
   exact zq3 (by omega)
 · cbv at hi
   have hG : ∀ y : Cl, L zgu (.agg [.str (L Cl.n y), .lst 6 (L zab (L Cl.es y)) (fun i => epC L (L (L zc9 (L Cl.es y)) i))]) = y := by subst hL; exact fun y => (gK zc4 y _ rfl).2
   have hO : ∀ y : Cl, L zgx (.agg [.str (L Cl.n y), .lst 6 (L zab (L Cl.es y)) (fun i => epC L (L (L zc9 (L Cl.es y)) i))]) := by subst hL; exact fun y => (gK zc4 y _ rfl).1
   (cbv; try simp only [syT, true_and, and_true])
   simp only [hG, hO, true_and]
   refine ⟨fun hlt => ⟨?_, ?_, ⟨?_, ?_⟩, fun hb => ?_, fun hb => ⟨i + 1, ?_⟩⟩, fun hge => ?_⟩
   · (subst hL; subst hQ; simp only [L2, L3, std] at *; try simp only [syS, reduceCtorEq, Int.reduceToNat, Int.reduceAdd, Int.reduceSub] at *)
     omega
   · (subst hL; subst hQ; simp only [L2, L3, std] at *; try simp only [syS, reduceCtorEq, Int.reduceToNat, Int.reduceAdd, Int.reduceSub] at *)
     omega
   · (subst hL; subst hQ; simp only [L2, L3, std] at *; try simp only [syS, reduceCtorEq, Int.reduceToNat, Int.reduceAdd, Int.reduceSub] at *)
     exact h1 _ (by rw [zac, zat (V := clV) (by omega)]; exact List.getElem_mem _)
   · (subst hL; subst hQ; simp only [L2, L3, std] at *; try simp only [syS, reduceCtorEq, Int.reduceToNat, Int.reduceAdd, Int.reduceSub] at *)
     exact h2 _ (by rw [zac, zat (V := clV) (by omega)]; exact List.getElem_mem _)
   · (subst hL; subst hQ; simp only [L2, L3, std] at *; try simp only [syS, reduceCtorEq, Int.reduceToNat, Int.reduceAdd, Int.reduceSub] at *)
     simp only [zyt, Bool.not_eq_true', decide_eq_false_iff_not] at hb
     exact (decide_eq_false (zlc (V := clV) (i := i) hb)).symm
   · (cbv; try simp only [syT, true_and, and_true])
     try simp only [hG]
     (subst hL; subst hQ; simp only [L2, L3, std] at *; try simp only [syS, reduceCtorEq, Int.reduceToNat, Int.reduceAdd, Int.reduceSub] at *)
     simp only [zyt, Bool.not_eq_false', decide_eq_true_eq] at hb
     refine ⟨by omega, zhp hi (by omega) hb, ?_⟩
     show l.length - (i + 1) < l.length - i
     omega
   · (subst hL; subst hQ; simp only [L2, L3, std] at *; try simp only [syS, reduceCtorEq, Int.reduceToNat, Int.reduceAdd, Int.reduceSub] at *)
     exact (decide_eq_true (zja hi (by omega))).symm
def zkh (a b : Cf) : Bool := decide (a = b)
def zis (x : Cf) : Prop := zee x.ls /\ zee x.cs /\ zlu x.ls /\ zlv x.cs
theorem zyu : zbp Tryz.prog (zzl 9 zdy zaf zkh zis std) := by
 intro xs p r h hp
 dsimp only [zzl] at h |-
 split at h <;> cases h
 try simp only [L2, L3, std] at hp |-
 rename_i x x'
 refine yil zdv hp.1 hp.2.1 ?_
 have hp1 := hp.2.2.1
 have hp2 := hp.2.2.2
 show za5 _ _ _ (.bool (zkh (rdG cfV x) (rdG cfV x')))
 have hp1 : zis (rdG cfV x) := hp1
 have hp2 : zis (rdG cfV x') := hp2
 generalize rdG cfV x = y at hp1 |-
 generalize rdG cfV x' = z at hp2 |-
 refine za4 (T := tt) (S := fun L => zb7 [yos 21 22 zpf zp7 ymy zlu L, yos 24 25 zk4 zk1 yhz zlv L]) (lo := fun _ => noA std) (lb := noA) 5 (fn := Tryz.f9) (xs := fun L => [.agg [.int .u64 (L Cf.v y), .lst 7 (L zab (L Cf.ls y)) (fun i => lsC L (L (L za6 (L Cf.ls y)) i)), .lst 2 (L zab (L Cf.cs y)) (fun i => clC L (L (L zac (L Cf.cs y)) i))], .agg [.int .u64 (L Cf.v z), .lst 7 (L zab (L Cf.ls z)) (fun i => lsC L (L (L za6 (L Cf.ls z)) i)), .lst 2 (L zab (L Cf.cs z)) (fun i => clC L (L (L zac (L Cf.cs z)) i))]]) rfl rfl (by kernel_rfl) (by kernel_rfl) rfl zad (za7 ⟨zyx, zyy, trivial⟩) (by kernel_rfl) ?_
 intro L P' Q' hL hP hQ
 (cbv; try simp only [syT, true_and, and_true])
 (subst hL; subst hQ; simp only [L2, L3, std] at *; try simp only [syS, reduceCtorEq, Int.reduceToNat, Int.reduceAdd, Int.reduceSub] at *)
 simp only [yfo, zxp]
 refine ⟨fun h1 => ⟨⟨ybw _, ybw _, hp1.1, hp1.2.2.1, hp2.2.2.1⟩, fun h2 => ⟨⟨zti _, zti _, hp1.2.1, hp1.2.2.2, hp2.2.2.2⟩, ?_⟩, fun h2 => ?_⟩, fun h1 => ?_⟩
 · have h2 : y.ls = z.ls := of_decide_eq_true h2
   cases y; cases z
   simp only [yhz, zkh, Cf.mk.injEq] at *
   rw [decide_eq_decide]
   simp [h1, h2]
 · have h2 : ¬ y.ls = z.ls := of_decide_eq_false h2
   exact (decide_eq_false fun e => h2 (by rw [e])).symm
 · exact (decide_eq_false fun e => h1 (by rw [e])).symm
def zy1 (s : List UInt8) (x : Ls) : Bool := decide (x.n = s)
def zpk (s : List UInt8) (x : Cl) : Bool := decide (x.n = s)
def znb (s : List UInt8) (l : List Ls) : Int := zfi (zy1 s) l
def zht (s : List UInt8) (l : List Cl) : Int := zfi (zpk s) l
def zym (s : List UInt8) (l : List Ls) : Ls := if znb s l < 0 then ⟨[], ⟨0, 0, 0, 0, 0⟩, []⟩ else za6 l (znb s l).toNat
def zqf (s : List UInt8) (l : List Cl) : Cl := if zht s l < 0 then ⟨[], []⟩ else zac l (zht s l).toNat
def yr0 (s : List UInt8) (l : List Ls) : Bool := decide (0 <= znb s l)
def yr2 (s : List UInt8) (l : List Cl) : Bool := decide (0 <= zht s l)
def noLs (s : List UInt8) (l : List Ls) (i : Nat) : Prop := zm3 (zy1 s) l i
def noCl (s : List UInt8) (l : List Cl) (i : Nat) : Prop := zm3 (zpk s) l i
def yh1 (x : Cf) : Prop := zee x.ls /\ zee x.cs
def lsA (L : za9) (x : Ls) : AV := .agg [.str (L Ls.n x), .int .u8 (L Pl.a (L Ls.pl x)), .int .u8 (L Pl.b (L Ls.pl x)), .int .u8 (L Pl.c (L Ls.pl x)), .int .u8 (L Pl.d (L Ls.pl x)), .int .u16 (L Pl.p (L Ls.pl x)), znj L (L Ls.rs x)]
def clA (L : za9) (x : Cl) : AV := .agg [.str (L Cl.n x), zk9 L (L Cl.es x)]
def ymk (L : za9) : zdq := (7, fun xs => match xs with
 | [x, .str s] => some (L zdy x /\ L yh1 (L zaf x), .tup [lsA L (L2 L zym s (L Cf.ls (L zaf x))), .bool (L2 L yr0 s (L Cf.ls (L zaf x)))])
 | _ => none)
def ymp (L : za9) : zdq := (8, fun xs => match xs with
 | [x, .str s] => some (L zdy x /\ L yh1 (L zaf x), .tup [clA L (L2 L zqf s (L Cf.cs (L zaf x))), .bool (L2 L yr2 s (L Cf.cs (L zaf x)))])
 | _ => none)
def fdA (L : za9) (s : List UInt8) (y : Cf) : Nat -> St -> Option Ann := fun id st => match id with
 | 0 => some ⟨Nat, fun i => [(11, .int .i64 (L zbh i))], fun i => [], [1, 4, 9, 10], [4], fun i => L3 L noLs s (L Cf.ls y) i, fun i => L2 L ymh (L Cf.ls y) i⟩
 | _ => none
def fcA (L : za9) (s : List UInt8) (y : Cf) : Nat -> St -> Option Ann := fun id st => match id with
 | 0 => some ⟨Nat, fun i => [(11, .int .i64 (L zbh i))], fun i => [], [1, 4, 9, 10], [4], fun i => L3 L noCl s (L Cf.cs y) i, fun i => L2 L ymi (L Cf.cs y) i⟩
 | _ => none
theorem ygl (x y : Ls) (h : x = y) : fits1 (lsA std x) (.agg [.str y.n, .int .u8 y.pl.a, .int .u8 y.pl.b, .int .u8 y.pl.c, .int .u8 y.pl.d, .int .u16 y.pl.p, .lst 4 (zab y.rs) fun q => rtC std (zbq y.rs q)]) := by
 subst h
 show fits1 (.agg [.str x.n, .int .u8 x.pl.a, .int .u8 x.pl.b, .int .u8 x.pl.c, .int .u8 x.pl.d, .int .u16 x.pl.p, .lst 4 (zab x.rs) fun q => rtC std (zbq x.rs q)]) _
 simp only [zc6, zbt, zdm, zc7, true_and, and_true]
 exact fun _ _ _ _ => trivial
theorem ygm : fits1 (lsA std ⟨[], ⟨0, 0, 0, 0, 0⟩, []⟩) (.agg [.str [], .int .u8 0, .int .u8 0, .int .u8 0, .int .u8 0, .int .u16 0, .nils]) := by
 show fits1 (.agg [.str [], .int .u8 0, .int .u8 0, .int .u8 0, .int .u8 0, .int .u16 0, .lst 4 0 _]) _
 simp only [zc6, zbt, zfk, zc7, true_and, and_true]
theorem yia (x y : Cl) (h : x = y) : fits1 (clA std x) (.agg [.str y.n, .lst 6 (zab y.es) fun q => epC std (zc9 y.es q)]) := by
 subst h
 show fits1 (.agg [.str x.n, .lst 6 (zab x.es) fun q => epC std (zc9 x.es q)]) _
 simp only [zc6, zbt, zdm, zc7, true_and, and_true]
 exact fun _ _ _ _ => trivial
theorem yib : fits1 (clA std ⟨[], []⟩) (.agg [.str [], .nils]) := by
 show fits1 (.agg [.str [], .lst 6 0 _]) _
 simp only [zc6, zbt, zfk, zc7, true_and, and_true]
theorem yhh : zbp Tryz.prog (ymk std) := by
 intro xs p r h hp
 dsimp only [ymk] at h |-
 split at h <;> cases h
 try simp only [L2, L3, std] at hp |-
 rename_i x s
 obtain ⟨ho, hp⟩ := hp
 refine zss zdv ho ?_
 have hp : yh1 (zaf x) := hp
 show za5 _ _ [.agg [.int .u64 (zaf x).v, zek std (zaf x).ls, ze0 std (zaf x).cs], .str s] (.tup [lsA std (zym s (zaf x).ls), .bool (yr0 s (zaf x).ls)])
 generalize zaf x = y at hp |-
 refine za4 (T := tt) (S := noS) (lo := fun L => fdA L s y) (lb := noA) 5 (fn := Tryz.f7) (xs := fun L => [.agg [.int .u64 (L Cf.v y), zek L (L Cf.ls y), ze0 L (L Cf.cs y)], .str s]) rfl rfl (by kernel_rfl) (by kernel_rfl) rfl zad (zbl _) (by kernel_rfl) ?_
 intro L P' Q' hL hP hQ
 (cbv; try simp only [syT, true_and, and_true])
 have e1 : zab y.ls = y.ls.length := rfl
 have z1 : y.ls.length <= 1000000 := hp.1
 refine ⟨⟨0, ?_⟩, fun i hi => ?_⟩
 · (cbv; try simp only [syT, true_and, and_true])
   (subst hL; subst hQ; simp only [L2, L3, std] at *; try simp only [syS, reduceCtorEq, Int.reduceToNat, Int.reduceAdd, Int.reduceSub] at *)
   exact zk6 _ _
 · cbv at hi
   (cbv; try simp only [syT, true_and, and_true])
   refine ⟨fun hlt => ⟨?_, fun h1 => ?_, fun h1 => ⟨i + 1, ?_⟩⟩, fun hge => ?_⟩
   · (subst hL; subst hQ; simp only [L2, L3, std] at *; try simp only [syS, reduceCtorEq, Int.reduceToNat, Int.reduceAdd, Int.reduceSub] at *)
     omega
   · (subst hL; subst hQ; simp only [L2, L3, std] at *; try simp only [syS, reduceCtorEq, Int.reduceToNat, Int.reduceAdd, Int.reduceSub] at *)
     have e := zfd (V := lsV) hi (by omega) (decide_eq_true h1)
     have e : znb s y.ls = i := e
     refine ⟨ygl _ _ ?_, ?_⟩
     · unfold zym
       rw [e, if_neg (by omega)]; rfl
     · unfold yr0
       rw [e]; simp
   · (cbv; try simp only [syT, true_and, and_true])
     (subst hL; subst hQ; simp only [L2, L3, std] at *; try simp only [syS, reduceCtorEq, Int.reduceToNat, Int.reduceAdd, Int.reduceSub] at *)
     refine ⟨by omega, zec (V := lsV) hi (by omega) (decide_eq_false h1), ?_⟩
     show y.ls.length - (i + 1) + 1 <= y.ls.length - i
     omega
   · (subst hL; subst hQ; simp only [L2, L3, std] at *; try simp only [syS, reduceCtorEq, Int.reduceToNat, Int.reduceAdd, Int.reduceSub] at *)
     have e := zfe hi (by omega)
     have e : znb s y.ls = -1 := e
     refine ⟨?_, ?_⟩
     · unfold zym
       rw [e, if_pos (by decide)]
       exact ygm
     · unfold yr0
       rw [e]; rfl
theorem yhs : zbp Tryz.prog (ymp std) := by
 intro xs p r h hp
 dsimp only [ymp] at h |-
 split at h <;> cases h
 try simp only [L2, L3, std] at hp |-
 rename_i x s
 obtain ⟨ho, hp⟩ := hp
 refine zss zdv ho ?_
 have hp : yh1 (zaf x) := hp
 show za5 _ _ [.agg [.int .u64 (zaf x).v, zek std (zaf x).ls, ze0 std (zaf x).cs], .str s] (.tup [clA std (zqf s (zaf x).cs), .bool (yr2 s (zaf x).cs)])
 generalize zaf x = y at hp |-
 refine za4 (T := tt) (S := noS) (lo := fun L => fcA L s y) (lb := noA) 5 (fn := Tryz.f8) (xs := fun L => [.agg [.int .u64 (L Cf.v y), zek L (L Cf.ls y), ze0 L (L Cf.cs y)], .str s]) rfl rfl (by kernel_rfl) (by kernel_rfl) rfl zad (zbl _) (by kernel_rfl) ?_
 intro L P' Q' hL hP hQ
 (cbv; try simp only [syT, true_and, and_true])
 have e1 : zab y.cs = y.cs.length := rfl
 have z1 : y.cs.length <= 1000000 := hp.2
 refine ⟨⟨0, ?_⟩, fun i hi => ?_⟩
 · (cbv; try simp only [syT, true_and, and_true])
   (subst hL; subst hQ; simp only [L2, L3, std] at *; try simp only [syS, reduceCtorEq, Int.reduceToNat, Int.reduceAdd, Int.reduceSub] at *)
   exact zk6 _ _
 · cbv at hi
   (cbv; try simp only [syT, true_and, and_true])
   refine ⟨fun hlt => ⟨?_, fun h1 => ?_, fun h1 => ⟨i + 1, ?_⟩⟩, fun hge => ?_⟩
   · (subst hL; subst hQ; simp only [L2, L3, std] at *; try simp only [syS, reduceCtorEq, Int.reduceToNat, Int.reduceAdd, Int.reduceSub] at *)
     omega
   · (subst hL; subst hQ; simp only [L2, L3, std] at *; try simp only [syS, reduceCtorEq, Int.reduceToNat, Int.reduceAdd, Int.reduceSub] at *)
     have e := zfd (V := clV) hi (by omega) (decide_eq_true h1)
     have e : zht s y.cs = i := e
     refine ⟨yia _ _ ?_, ?_⟩
     · unfold zqf
       rw [e, if_neg (by omega)]; rfl
     · unfold yr2
       rw [e]; simp
   · (cbv; try simp only [syT, true_and, and_true])
     (subst hL; subst hQ; simp only [L2, L3, std] at *; try simp only [syS, reduceCtorEq, Int.reduceToNat, Int.reduceAdd, Int.reduceSub] at *)
     refine ⟨by omega, zec (V := clV) hi (by omega) (decide_eq_false h1), ?_⟩
     show y.cs.length - (i + 1) + 1 <= y.cs.length - i
     omega
   · (subst hL; subst hQ; simp only [L2, L3, std] at *; try simp only [syS, reduceCtorEq, Int.reduceToNat, Int.reduceAdd, Int.reduceSub] at *)
     have e := zfe hi (by omega)
     have e : zht s y.cs = -1 := e
     refine ⟨?_, ?_⟩
     · unfold zqf
       rw [e, if_pos (by decide)]
       exact yib
     · unfold yr2
       rw [e]; rfl
theorem awT : plT ⟨127, 0, 0, 1, 80⟩ = [49, 50, 55, 46, 48, 46, 48, 46, 49, 58, 56, 48] := by
 have d1 := (zhq (s := [49, 50, 55]) (by decide)).1
 have d2 := (zhq (s := [48]) (by decide)).1
 have d3 := (zhq (s := [49]) (by decide)).1
 have d4 := (zhq (s := [56, 48]) (by decide)).1
 rw [show wnV [49, 50, 55] = 127 by decide] at d1
 rw [show wnV [48] = 0 by decide] at d2
 rw [show wnV [49] = 1 by decide] at d3
 rw [show wnV [56, 48] = 80 by decide] at d4
 rw [plT, d1, d2, d3, d4]; rfl
theorem awO : zqd ⟨127, 0, 0, 1, 80⟩ := ⟨⟨by decide, by decide⟩, ⟨by decide, by decide⟩, ⟨by decide, by decide⟩, ⟨by decide, by decide⟩, by decide, by decide⟩
theorem zza : za5 Tryz.prog 58 [] (.bool true) := by
 refine zaw (T := tt) (S := fun L => zb7 [tru 93, ylh L, zta L]) (lo := noA) (lb := noA) 5 (fn := Tryz.f58) rfl rfl (by kernel_rfl) (by kernel_rfl) rfl zad (za7 ⟨zeu zoq, yfw, zxr, trivial⟩) (by kernel_rfl) ?_
 have e := (yko awO).1 (by decide)
 rw [awT] at e
 (intro L P1 Q1 hL hP hQ; cbv; subst hL; simp only [L2, L3, std, syT]; subst hQ)
 (simp only [syS, reduceCtorEq, Int.reduceToNat, Int.reduceAdd, Int.reduceSub])
 simp only [e.1, e.2]
 exact ⟨(by decide : (12 : Nat) <= 1000000), fun _ => ⟨fun _ => ⟨by omega, fun _ => ⟨awO, awT⟩, rfl⟩, trivial⟩, trivial⟩
theorem zzk : za5 Tryz.prog 19 [] (.bool true) := by
 refine zaw (T := tt) (S := fun L => zb7 [tru 58]) (lo := noA) (lb := noA) 5 (fn := Tryz.f19) rfl rfl (by kernel_rfl) (by kernel_rfl) rfl zad (za7 ⟨zeu zza, trivial⟩) (by kernel_rfl) ?_
 (intro L P1 Q1 hL hP hQ; cbv; subst hL; simp only [L2, L3, std, syT]; subst hQ)
 (simp only [syS, reduceCtorEq, Int.reduceToNat, Int.reduceAdd, Int.reduceSub])
def plAt (L : za9) (x : Pl) : Nat -> AV
 | 0 => .int .u8 (L Pl.a x)
 | 1 => .int .u8 (L Pl.b x)
 | 2 => .int .u8 (L Pl.c x)
 | 3 => .int .u8 (L Pl.d x)
 | _ => .int .u16 (L Pl.p x)
def plOf (y : List Int × Int × Unit) : Pl := ⟨zn7 y.1 0, zn7 y.1 1, zn7 y.1 2, zn7 y.1 3, y.2.1⟩
theorem zve {H : Type} {enc : TypeId × Value -> H} {W : World} : zea enc Tryz.prog W 32 Pl 5 (plAt std) zqd := by
 have O := (zd2 (P := Tryz.prog) (enc := enc) (W := W) Tryz.underlying32 (by kernel_rfl) (zaq rfl (ybt Tryz.underlying29 (by kernel_rfl) (zgv Tryz.underlying5 (by kernel_rfl)) (by omega)) (zaq rfl (zgv Tryz.underlying30 (by kernel_rfl)) (zeb _))))
 refine ⟨O.size, fun fuel cs x h => ?_⟩
 obtain ⟨y, ⟨⟨hl, hall⟩, hp, _⟩, hlen, hy⟩ := O.go fuel cs x h
 have hb : ∀ j, j < 4 -> 0 <= zn7 y.1 j /\ zn7 y.1 j <= 255 := fun j hj => by
   have hlt : j < y.1.length := by omega
   have := bounds_u8 (hall _ (List.getElem_mem hlt))
   rw [zn7, List.getD_eq_getElem?_getD, List.getElem?_eq_getElem hlt]
   exact this
 refine ⟨plOf y, ⟨hb 0 (by omega), hb 1 (by omega), hb 2 (by omega), hb 3 (by omega), bounds_u16 hp⟩, hlen, fun j hj => ?_⟩
 obtain ⟨v, v1, v2, v3⟩ := hy j hj
 refine ⟨v, v1, v2, ?_⟩
 have cell : ∀ k, k < 4 -> avL (fun n (_ : Nat) => AV.int .u8 n) y.1 (k / 1) (k % 1) = .int .u8 (zn7 y.1 k) := fun k hk => by
   rw [Nat.div_one, avL, zn7, List.getD_eq_getElem?_getD, List.getElem?_eq_getElem (by omega : k < y.1.length)]; rfl
 match j, hj with
 | 0, _ => simp only [Nat.mul_one, Nat.lt_add_one, show (0 : Nat) < 4 by omega, if_true, cell] at v3; exact v3
 | 1, _ => simp only [Nat.mul_one, show (1 : Nat) < 4 by omega, if_true, cell] at v3; exact v3
 | 2, _ => simp only [Nat.mul_one, show (2 : Nat) < 4 by omega, if_true, cell] at v3; exact v3
 | 3, _ => simp only [Nat.mul_one, show (3 : Nat) < 4 by omega, if_true, cell] at v3; exact v3
 | 4, _ => exact v3
end Sy
end Go.Proofs.YtfonekpmkdkgnaaGreatDoor
namespace Go.Proofs.YtfonekpmkdkgnaaGreatDoor
namespace Sy
open Go Go.RowKit
theorem zea.turn {H : Type} {enc : TypeId × Value -> H} {P : Program} {W : World} {t : TypeId} {α β : Type} {sz : Nat} {av : α -> Nat -> AV} {av' : β -> Nat -> AV} {ok : α -> Prop} {ok' : β -> Prop} (O : zea enc P W t α sz av ok) (f : α -> β) (h2 : ∀ y, ok y -> ok' (f y))
   (h1 : ∀ y, ok y -> ∀ j, j < sz -> ∀ v, R W.heap (DW W) zam (av y j) v -> R W.heap (DW W) zam (av' (f y) j) v) : zea enc P W t β sz av' ok' := by
 refine ⟨O.size, fun fuel cs x h => ?_⟩
 obtain ⟨y, y1, y2, y3⟩ := O.go fuel cs x h
 refine ⟨f y, h2 y y1, y2, fun j hj => ?_⟩
 obtain ⟨v, v1, v2, v3⟩ := y3 j hj
 exact ⟨v, v1, v2, h1 y y1 j hj v v3⟩
end Sy
end Go.Proofs.YtfonekpmkdkgnaaGreatDoor
namespace Go.Proofs.YtfonekpmkdkgnaaGreatDoor
namespace Sy
open Go Go.RowKit
set_option maxRecDepth 100000
set_option linter.unusedSimpArgs false
set_option linter.unusedVariables false
theorem yqo {h : Array Obj} {D : Nat -> Prop} {μ : Mu} {sz n : Nat} {get get' : Nat -> Nat -> AV} {v : Value} (e : ∀ i j, i < n -> j < sz -> get i j = get' i j) (r : R h D μ (.lst sz n get) v) : R h D μ (.lst sz n get') v := by
 cases r with
 | lst0 _ _ a cap hn => exact .lst0 _ _ a cap hn
 | lst _ _ _ b o cap vs hD hc hv h1 hr => exact .lst _ _ _ b o cap vs hD hc hv h1 (fun i j hi hj => by rw [<- e i j hi hj]; exact hr i j hi hj)
theorem zhh {H : Type} {enc : TypeId × Value -> H} {P : Program} {W : World} {t e : TypeId} {α : Type} {V : Vw α} {ok : α -> Prop} (ht : P.underlying t = some (.slice e)) (hc : P.cellsOf t = 1) (he : zea enc P W e α V.sz (V.cell std) ok) (hs : 0 < V.sz) :
   zea enc P W t (List α) 1 (fun l _ => ycf std V l) (fun l => l.length <= maxLen /\ ∀ y ∈ l, ok y) :=
 (ztf ht hc he hs).turn id (fun y h => h) (fun y h j hj v r => yqo (fun i q hi hq => by
   show avL (V.cell std) y i q = V.cell std (zil V y i) q
   have hi : i < y.length := hi
   rw [avL, List.getElem?_eq_getElem hi, zat hi]) r)
theorem yg2 {H : Type} {enc : TypeId × Value -> H} {W : World} : zea enc Tryz.prog W 52 Rt 4 (rtC std) yt4 :=
 (zd2 Tryz.underlying52 (by kernel_rfl) (zaq rfl (opens_str Tryz.underlying9 (by kernel_rfl)) (zaq rfl (opens_str Tryz.underlying9 (by kernel_rfl)) (zaq rfl (opens_str Tryz.underlying9 (by kernel_rfl)) (zaq rfl (zgv Tryz.underlying22 (by kernel_rfl)) (zeb _)))))).turn
   (fun y => Rt.mk y.1 y.2.1 y.2.2.1 y.2.2.2.1) (fun y h => by have := bounds_u64 h.2.2.2.1; exact ⟨this.1, by show y.2.2.2.1 < _; omega⟩)
   (fun y h j hj v r => by match j, hj with | 0, _ => exact r | 1, _ => exact r | 2, _ => exact r | 3, _ => exact r)
theorem yg4 {H : Type} {enc : TypeId × Value -> H} {W : World} : zea enc Tryz.prog W 54 Ep 6 (epC std) yob :=
 (zd2 Tryz.underlying54 (by kernel_rfl) (zaq rfl zve (zaq rfl (zgv Tryz.underlying3 (by kernel_rfl)) (zeb _)))).turn
   (fun y => Ep.mk y.1 y.2.1) (fun y h => by have := bounds_i64 h.2.1; exact ⟨h.1, this.1, this.2⟩)
   (fun y h j hj v r => by match j, hj with | 0, _ => exact r | 1, _ => exact r | 2, _ => exact r | 3, _ => exact r | 4, _ => exact r | 5, _ => exact r)
theorem yg3 {H : Type} {enc : TypeId × Value -> H} {W : World} : zea enc Tryz.prog W 35 Ls 7 (lsC std) zwu :=
 (zd2 Tryz.underlying35 (by kernel_rfl) (zaq rfl (opens_str Tryz.underlying9 (by kernel_rfl)) (zaq rfl zve (zaq rfl (zhh (V := rtV) Tryz.underlying33 (by kernel_rfl) yg2 (by decide)) (zeb _))))).turn
   (fun y => Ls.mk y.1 y.2.1 y.2.2.1) (fun y h => ⟨h.2.1, h.2.2.1.2⟩)
   (fun y h j hj v r => by match j, hj with | 0, _ => exact r | 1, _ => exact r | 2, _ => exact r | 3, _ => exact r | 4, _ => exact r | 5, _ => exact r | 6, _ => exact r)
theorem yg5 {H : Type} {enc : TypeId × Value -> H} {W : World} : zea enc Tryz.prog W 40 Cl 2 (clC std) yoc :=
 (zd2 Tryz.underlying40 (by kernel_rfl) (zaq rfl (opens_str Tryz.underlying9 (by kernel_rfl)) (zaq rfl (zhh (V := epV) Tryz.underlying38 (by kernel_rfl) yg4 (by decide)) (zeb _)))).turn
   (fun y => Cl.mk y.1 y.2.1) (fun y h => h.2.1.2)
   (fun y h j hj v r => by match j, hj with | 0, _ => exact r | 1, _ => exact r)
theorem opens_Cf {H : Type} {enc : TypeId × Value -> H} {W : World} : zea enc Tryz.prog W 26 Cf 3 (cfC std) yer :=
 (zd2 Tryz.underlying26 (by kernel_rfl) (zaq rfl (zgv Tryz.underlying22 (by kernel_rfl)) (zaq rfl (zhh (V := lsV) Tryz.underlying23 (by kernel_rfl) yg3 (by decide)) (zaq rfl (zhh (V := clV) Tryz.underlying24 (by kernel_rfl) yg5 (by decide)) (zeb _))))).turn
   (fun y => Cf.mk y.1 y.2.1 y.2.2.1) (fun y h => by have := bounds_u64 h.1; exact ⟨⟨this.1, by show y.1 < _; omega⟩, h.2.1.2, h.2.2.1.2⟩)
   (fun y h j hj v r => by match j, hj with | 0, _ => exact r | 1, _ => exact r | 2, _ => exact r)
theorem ype : zb8 3 = [3] := by rw [zb8, show (3 : Int).toNat = 3 from rfl, zbk (by decide)]; rfl
theorem yad : zb8 0 = [0] := by rw [zb8, show (0 : Int).toNat = 0 from rfl, zbk (by decide)]; rfl
theorem yjz : zc8 (zdw []) = [3, 0] := by
 rw [zdw, zao, if_neg (by decide), if_neg (by decide), zb0]
 show _ ++ (zb8 0 ++ _) = _
 rw [yad]; rfl
theorem ydh {n : Int} {b : UInt8} (h : zb8 n = [b]) : zc8 (zdw [zg1 n, zdw [], zdw []]) = [3, 3, 1, b, 3, 0, 3, 0] := by
 rw [zdw, zao, if_neg (by decide), if_neg (by decide), zb0, zb0, zb0, zb0]
 show _ ++ (zb8 3 ++ (_ ++ (_ ++ (_ ++ _)))) = _
 have e : zc8 (zg1 n) = [1, b] := by rw [zg1, zao, if_pos rfl, h]; rfl
 have e' : zc8 (.mk 3 0 [] []) = [3, 0] := yjz
 rw [ype, e, show zc8 (zdw []) = [3, 0] from yjz]; rfl
theorem yn2 (n : Int) : zgd (zdw [zg1 n, zdw [], zdw []]) = true := by simp [zdw, zg1, zgd, ze5]
theorem yn1 (n : Int) : ze2 (zdw [zg1 n, zdw [], zdw []]) <= 6 := by
 simp only [zdw, zg1, ze2, zb2]
 split <;> decide
theorem yi2 {n : Int} {b : UInt8} (h : zb8 n = [b]) : cfE ⟨n, [], []⟩ = 0 /\ cfT ⟨n, [], []⟩ = [3, 3, 1, b, 3, 0, 3, 0] := by
 have h1 : zt9 (zl0 ⟨n, [], []⟩) = 0 := by
   show zt9 (zdw [zg1 n, zdw [], zdw []]) = 0
   have := yn1 n
   rw [zt9, if_pos (yn2 n), if_neg (by omega), ydh h]; rfl
 have h2 : cfE ⟨n, [], []⟩ = 0 := h1
 refine ⟨h2, ?_⟩
 rw [cfT, if_pos h2, (ypy h1).2.2.2]
 exact ydh h
theorem ypu (n : Int) : zaf (.agg [.int .u64 n, .nils, .nils]) = ⟨n, [], []⟩ := rfl
theorem yje (n : Int) : zdy (.agg [.int .u64 n, .nils, .nils]) := ⟨rfl, ⟨_, rfl⟩, trivial, trivial⟩
theorem ybo {n : Int} (h : zd6 n) : yec ⟨n, [], []⟩ := ⟨rfl, h, (fun l hl => nomatch hl), (fun l hl => nomatch hl)⟩
theorem zz8 : za5 Tryz.prog 5 [] (.bool true) := by
 refine zaw (T := tt) (S := fun L => zb7 [ynw L, tru 19, tru 20]) (lo := noA) (lb := noA) 5 (fn := Tryz.f5) rfl rfl (by kernel_rfl) (by kernel_rfl) rfl zad (za7 ⟨yic, zeu zzk, zeu zzj, trivial⟩) (by kernel_rfl) ?_
 intro L P' Q' hL hP hQ
 (cbv; try simp only [syT, true_and, and_true])
 (subst hL; subst hQ; simp only [L2, L3, std] at *; try simp only [syS, reduceCtorEq, Int.reduceToNat, Int.reduceAdd, Int.reduceSub] at *)
 simp only [ypu, (yi2 yac).1, (yi2 yac).2, (yi2 yad).1, (yi2 yad).2]
 exact ⟨⟨yje 1, ybo ⟨by decide, by decide⟩⟩, ⟨yje 0, ybo ⟨by decide, by decide⟩⟩, fun _ => ⟨fun _ => ⟨fun _ => trivial, trivial⟩, trivial⟩, trivial⟩
theorem zhm {x : Cf} (h : zcj x = true) : zis x := by
 simp only [zcj, Bool.and_eq_true, decide_eq_true_eq, List.all_eq_true, zdf, ze4] at h
 obtain ⟨⟨⟨l1, l2⟩, l3⟩, l4⟩ := h
 refine ⟨?_, ?_, fun a ha => ?_, fun a ha => ?_⟩
 · show _ <= 1000000
   omega
 · show _ <= 1000000
   omega
 · have := (l3 a ha).1.2
   show _ <= 1000000
   omega
 · have := (l4 a ha).2
   show _ <= 1000000
   omega
theorem zp2 : ∀ (N : Nat) (u v : CV), sizeC u <= N -> (zqt u v = true ↔ u = v)
 | 0, u, v, h => by have := zdr u; omega
 | N + 1, .mk k n s l, .mk k' n' s' l', h => by
   rw [zcv] at h
   have hl : zf8 l l' = true ↔ l = l' := by
     rw [zf7]
     constructor
     · rintro ⟨h1, h2⟩
       refine zwe h1 fun i hi => ?_
       exact (zp2 N _ _ (by have := zgq l i hi; omega)).1 (h2 i hi)
     · rintro rfl
       exact ⟨rfl, fun i hi => (zp2 N _ _ (by have := zgq l i hi; omega)).2 rfl⟩
   rw [zfw, CV.mk.injEq, Bool.and_eq_true, Bool.and_eq_true, Bool.and_eq_true, hl]
   simp only [decide_eq_true_eq, and_assoc]
theorem yn0 (x y : Ep) (hx : yob x) (hy : yob y) (h : zg7 x = zg7 y) : x = y := by
 have h := zjw h
 simp only [List.cons.injEq, and_true] at h
 obtain ⟨h1, h2⟩ := h
 have h2 := ztj h2
 obtain ⟨x1, x2, x3⟩ := hx
 obtain ⟨y1, y2, y3⟩ := hy
 have h1 := zv9 x1 y1 (zi3 h1)
 cases x; cases y
 rw [Ep.mk.injEq]
 simp only at *
 exact ⟨h1, by omega⟩
theorem ynd (x y : Cl) (hx : yoc x) (hy : yoc y) (h : zgo x = zgo y) : x = y := by
 have h := zjw h
 simp only [List.cons.injEq, and_true] at h
 obtain ⟨h1, h2⟩ := h
 have h2 := zld (p := yob) yn0 hx hy h2
 cases x; cases y
 rw [Cl.mk.injEq]
 exact ⟨zi3 h1, h2⟩
theorem ydt {x y : Cf} (hx : yer x) (hy : yer y) (h : zl0 x = zl0 y) : x = y := by
 have h := zjw h
 simp only [List.cons.injEq, and_true] at h
 obtain ⟨h1, h2, h3⟩ := h
 have h2 := zld (p := zwu) yqp hx.2.1 hy.2.1 h2
 have h3 := zld (p := yoc) ynd hx.2.2 hy.2.2 h3
 cases x; cases y
 rw [Cf.mk.injEq]
 exact ⟨ztj h1, h2, h3⟩
def rsP (x : Cf) : Prop := zcj x = true /\ yer x
theorem zbr {x : Cf} (h : zcj x = true) : znk x := by
 simp only [zcj, Bool.and_eq_true, decide_eq_true_eq, List.all_eq_true, zdf, ze4] at h
 obtain ⟨⟨⟨l1, l2⟩, l3⟩, l4⟩ := h
 refine ⟨?_, ?_, fun a ha => ?_, fun a ha => ?_⟩
 · show _ <= 1000000
   omega
 · show _ <= 1000000
   omega
 · have := (l3 a ha).1.2
   show _ <= 1000000
   omega
 · have := (l4 a ha).2
   show _ <= 1000000
   omega
theorem yj4 {x : Cf} (h : rsP x) : ytx x := ⟨zbr h.1, fun l hl => (h.2.2.1 l hl).1, fun c hc e he => (h.2.2.2 c hc e he).1⟩
theorem yfm : zbp Tryz.prog (zzl 11 zdy zaf zkh rsP std) := by
 intro xs p r h hp
 dsimp only [zzl] at h |-
 split at h <;> cases h
 try simp only [L2, L3, std] at hp |-
 rename_i x x'
 refine yil zdv hp.1 hp.2.1 ?_
 have hp1 := hp.2.2.1
 have hp2 := hp.2.2.2
 show za5 _ _ _ (.bool (zkh (rdG cfV x) (rdG cfV x')))
 have hp1 : rsP (rdG cfV x) := hp1
 have hp2 : rsP (rdG cfV x') := hp2
 generalize rdG cfV x = y at hp1 |-
 generalize rdG cfV x' = z at hp2 |-
 refine za4 (T := tt) (S := fun L => zb7 [yb8 L, zlx 7000 L]) (lo := fun _ => noA std) (lb := noA) 5 (fn := Tryz.f11) (xs := fun L => [.agg [.int .u64 (L Cf.v y), zek L (L Cf.ls y), ze0 L (L Cf.cs y)], .agg [.int .u64 (L Cf.v z), zek L (L Cf.ls z), ze0 L (L Cf.cs z)]]) rfl rfl (by kernel_rfl) (by kernel_rfl) rfl zad (za7 ⟨yb9, zxk _, trivial⟩) (by kernel_rfl) ?_
 intro L P' Q' hL hP hQ
 have hG : ∀ y : Cf, L zaf (.agg [.int .u64 (L Cf.v y), .lst 7 (L zab (L Cf.ls y)) (fun i => lsC L (L (L za6 (L Cf.ls y)) i)), .lst 2 (L zab (L Cf.cs y)) (fun i => clC L (L (L zac (L Cf.cs y)) i))]) = y := by subst hL; exact fun y => (gK zdv y _ rfl).2
 have hO : ∀ y : Cf, L zdy (.agg [.int .u64 (L Cf.v y), .lst 7 (L zab (L Cf.ls y)) (fun i => lsC L (L (L za6 (L Cf.ls y)) i)), .lst 2 (L zab (L Cf.cs y)) (fun i => clC L (L (L zac (L Cf.cs y)) i))]) := by subst hL; exact fun y => (gK zdv y _ rfl).1
 (cbv; try simp only [syT, true_and, and_true])
 simp only [hG, hO, true_and]
 (subst hL; subst hQ; simp only [L2, L3, std] at *; try simp only [syS, reduceCtorEq, Int.reduceToNat, Int.reduceAdd, Int.reduceSub] at *)
 clear hG hO
 have e : ∀ y : Cf, CV.mk 3 0 [] (zl0 y).ls = zl0 y := fun _ => rfl
 rw [(yfq y).1, (yfq z).1, e, e]
 refine ⟨yj4 hp1, yj4 hp2, ⟨(yfq y).2, (yfq z).2, (yju hp1.1 hp1.2).sz, by decide⟩, ?_⟩
 rw [Bool.eq_iff_iff, zp2 _ _ _ (Nat.le_refl _)]
 unfold zkh
 rw [decide_eq_true_eq]
 exact ⟨fun h => ydt hp1.2 hp2.2 h, fun h => by rw [h]⟩
theorem zvp {P : Program} {f : FuncId} {sz n : Nat} {get : Nat -> Nat -> AV} {xs : List AV} {O : List (Nat × Ob)} {r : AV} {O1 : List (Nat × Ob)} (h1 : 0 < n -> zce P f (.lst sz n get :: xs) O r O1) (h2 : n = 0 -> zce P f (.nils :: xs) O r O1) (h3 : n = 0 -> zce P f (.emp :: xs) O r O1) : zce P f (.lst sz n get :: xs) O r O1 := by
 by_cases h0 : 0 < n
 · exact h1 h0
 obtain rfl : n = 0 := by omega
 intro D w μ vs hD hxs
 obtain ⟨v, hv⟩ : ∃ v, vs[0]? = some v := by
   have := hxs.1
   simp at this
   exact ⟨vs[0], by simp⟩
 have hr := hxs.2 0 _ v rfl hv
 have other : ∀ y, R w.heap D μ y v -> RL w.heap D μ (y :: xs) vs := fun y hy => ⟨hxs.1, fun i z u hz hu => by
   cases i with
   | zero => cases hz; rw [hv] at hu; cases hu; exact hy
   | succ i => exact hxs.2 (i + 1) z u hz hu⟩
 cases hr with
 | lst0 _ _ a cap hn =>
   cases a with
   | none =>
     have := hn rfl
     subst this
     exact h2 rfl D w μ vs hD (other _ .nils)
   | some a => exact h3 rfl D w μ vs hD (other _ (.emp a cap))
 | lst _ _ _ b o cap ws hD' hc hv' h1' hr' => exact h3 rfl D w μ vs hD (other _ (.emp _ cap))
def upN (n : Nat) : Prop := n <= 1000000
def zgh (f ty sz : Nat) (L : za9) : zuv := (f, fun raw ob => match raw with
 | [.lst s n get] => match za8 s sz with
   | true => some ⟨[.lst sz n get], [], L upN n, .sl 900 sz 0 n, [(900, .row ty sz n get)]⟩
   | false => none
 | _ => none)
theorem zuh {P : Program} {f : FuncId} {args : Array Value} {w : World} {Q Q' : Ending -> World -> Prop} (h : zeq P f args w Q) (k : ∀ e w', Q e w' -> Q' e w') : zeq P f args w Q' := by
 unfold zeq at h |-
 split at h
 · exact h.mono fun e w' => k e w'
 · exact k _ _ h
 · exact h.elim
theorem zv0 {p : Nat} {o : Ob} : za2 [(p, o)] p = some o := by simp [za2, za3]
theorem yit {p i : Nat} {o : Ob} (h : i ≠ p) : za2 [(p, o)] i = none := by simp [za2, zak (fun e => h e.symm)]
theorem zqj {p : Nat} (hp : p < zcn) (i : Nat) : i = p \/ (∃ k, i = mid p k) \/ ∀ o, gx (za2 [(p, o)]) i = none := by
 by_cases h : i = p
 · exact .inl h
 · refine .inr ?_
   by_cases hm : zax i = true
   · obtain ⟨h1, h2⟩ := yjf hm
     by_cases ht : zgy i = p
     · exact .inl ⟨zqe i, by rw [<- ht]; exact h2.symm⟩
     · exact .inr fun o => by rw [zfj _ hm, yit ht]; rfl
   · exact .inr fun o => by rw [zah (by simpa using hm), yit h]
def yki (ty sz n0 : Nat) (len0 : Nat -> Nat) (get0 : Nat -> Nat -> Nat -> AV) (n : Nat) (get : Nat -> Nat -> AV) : Ob :=
 .tab ty sz (n0 + 1) (fun k => yai (za8 k n0) n (len0 k)) (fun k i j => znf (za8 k n0) (get i j) (get0 k i j))
theorem yql {P : Program} {f : FuncId} {xs : List AV} {d ty sz n p n0 : Nat} {get : Nat -> Nat -> AV} {len0 : Nat -> Nat} {get0 : Nat -> Nat -> Nat -> AV} (hx : ∀ h D μ vs, RL h D μ xs vs -> RL h D zam xs vs) (hp : p < zcn) (hd : d < zcn)
   (hm : zce P f xs [] (.sl d sz 0 n) [(d, .row ty sz n get)]) : zce P f xs [(p, .tab ty sz n0 len0 get0)] (.asl p n0 sz 0 n) [(p, yki ty sz n0 len0 get0 n get)] := by
 intro D w μ vs hD hxs hdom hobs hinj hown hg hgb
 have gO : ∀ k, gx (za2 [(p, Ob.tab ty sz n0 len0 get0)]) (mid p k) = if k < n0 then some (.row ty sz (len0 k) (get0 k)) else none := fun k => by rw [ycv hp, zv0]; rfl
 have gO1 : ∀ k, gx (za2 [(p, yki ty sz n0 len0 get0 n get)]) (mid p k) = if k < n0 + 1 then some (.row ty sz (yai (za8 k n0) n (len0 k)) (fun i j => znf (za8 k n0) (get i j) (get0 k i j))) else none := fun k => by rw [ycv hp, zv0]; rfl
 have pO : ∀ o, gx (za2 [(p, o)]) p = some o := fun o => by rw [zah (zb6.2 hp), zv0]
 have inj : ∀ k k', mid p k = mid p k' -> k = k' := fun k k' e => by
   have h1 := (zff hp k).2.2
   rw [e, (zff hp k').2.2] at h1
   exact h1.symm
 have pm' : ∀ k, p ≠ mid p k := fun k e => by
   have h1 := (zff hp k).1
   rw [<- e, zb6.2 hp] at h1; cases h1
 have hμn : μ (mid p n0) = none := (hdom _).2 (by rw [gO, if_neg (by omega)])
 have rowS : ∀ k, k < n0 -> yai (za8 k n0) n (len0 k) = len0 k /\ (fun i j => znf (za8 k n0) (get i j) (get0 k i j)) = get0 k := fun k hk => by
   rw [zak (show k ≠ n0 by omega)]
   exact ⟨rfl, rfl⟩
 have h0 := hm D w zam vs hD (hx _ _ _ _ hxs) (fun n => by rw [yjp]; exact ⟨fun _ => rfl, fun _ => rfl⟩) (fun n o x ho => by rw [yjp] at ho; cases ho) (fun n n' b z z' h => by cases h) (fun n b z h => by cases h) hg (fun n b z h => by cases h)
 refine zuh h0 ?_
 rintro e w' ⟨v, D', μ1, he⟩
 have gd : gx (za2 [(d, Ob.row ty sz n get)]) d = some (.row ty sz n get) := by rw [zah (zb6.2 hd), zv0]
 have hsome : ∃ x, μ1 d = some x := Option.ne_none_iff_exists'.1 fun e => by
   have := (he.dom d).1 e
   rw [gd] at this; cases this
 obtain ⟨x1, hx1⟩ := hsome
 have new : ∀ b z, μ1 d = some (some (b, z)) -> b < w'.heap.size /\ ¬ D' b /\ w.heap.size <= b := fun b z h => by
   obtain ⟨h1, h2, h3⟩ := he.own d b z h
   refine ⟨h1, h2, h3.elim id fun ⟨m, z', q⟩ => by cases q⟩
 have old : ∀ b, b < w.heap.size -> w'.heap[b]? = w.heap[b]? := fun b hb => he.old b hb fun n z h => by cases h
 let μ' : Mu := fun i => if i = mid p n0 then μ1 d else μ i
 have m0 : μ' (mid p n0) = μ1 d := if_pos rfl
 have m1 : ∀ i, i ≠ mid p n0 -> μ' i = μ i := fun i hi => if_neg hi
 have hD2 : ∀ b, D b -> w'.heap[b]? = w.heap[b]? := fun b hb => old b (hD b hb)
 have keepD : ∀ i b z, μ i = some (some (b, z)) -> ¬ D' b := fun i b z h hb => by
   obtain ⟨h1, h2⟩ := hown i b z h
   rcases he.dn b hb with q | q | ⟨m, z', q⟩
   · exact h2 q
   · omega
   · cases q
 have obOld : ∀ i o x, gx (za2 [(p, Ob.tab ty sz n0 len0 get0)]) i = some o -> μ i = some x -> ze6 w'.heap D' μ' o x := fun i o x ho hxx =>
   (hobs i o x ho hxx).mono hD2 he.up (fun id y hy => by rw [m1 id (fun e => by rw [e, hμn] at hy; cases hy)]; exact hy) (fun b z hb _ => old b (hown i b z (by rw [hxx, hb])).1)
 refine ⟨v, D', μ', { ret := he.ret, os := he.os, tape := he.tape, output := he.output, size := he.size, old := fun b h1 h2 => old b h1, up := he.up, dn := fun b hb => ?_, dom := fun i => ?_, obs := fun i o x ho hxx => ?_, inj := fun i i' b z z' h1 h2 => ?_, own := fun i b z h => ?_, keep := fun i h1 h2 => ?_, val := ?_ }⟩
 · rcases he.dn b hb with q | q | ⟨m, z', q⟩
   · exact .inl q
   · exact .inr (.inl q)
   · cases q
 · rcases zqj hp i with rfl | ⟨k, rfl⟩ | hno
   · rw [m1 _ (pm' _), pO, hdom, pO]; simp
   · by_cases hk : k = n0
     · subst hk
       rw [m0, hx1, gO1, if_pos (by omega)]; simp
     · rw [m1 _ (fun e => hk (inj _ _ e)), gO1, hdom, gO]
       by_cases h : k < n0
       · rw [if_pos h, if_pos (by omega)]; simp
       · rw [if_neg h, if_neg (by omega)]
   · rw [m1 _ (fun e => by subst e; have := hno (yki ty sz n0 len0 get0 n get); rw [gO1, if_pos (by omega)] at this; cases this), hdom, hno, hno]
 · rcases zqj hp i with rfl | ⟨k, rfl⟩ | hno
   · rw [pO] at ho
     cases ho
     rw [m1 _ (pm' _)] at hxx
     have := hobs i _ x (pO _) hxx
     match x, this with
     | none, _ => exact trivial
     | some _, h => exact h.elim
   · by_cases hk : k = n0
     · subst hk
       rw [m0] at hxx
       rw [gO1, if_pos (by omega), za3] at ho
       cases ho
       have := he.obs d _ x gd hxx
       match x, this with
       | none, h => exact h
       | some (b, z, m), h => exact h
     · rw [m1 _ (fun e => hk (inj _ _ e))] at hxx
       rw [gO1] at ho
       split at ho
       · rename_i hlt
         obtain ⟨q1, q2⟩ := rowS k (by omega)
         rw [q1, q2] at ho
         exact obOld _ o x (by rw [gO, if_pos (by omega)]; exact ho) hxx
       · cases ho
   · rw [hno] at ho; cases ho
 · by_cases e1 : i = mid p n0 <;> by_cases e2 : i' = mid p n0
   · rw [e1, e2]
   · subst e1
     rw [m0] at h1
     rw [m1 _ e2] at h2
     have := (new b z h1).2.2
     have := (hown i' b z' h2).1
     omega
   · subst e2
     rw [m0] at h2
     rw [m1 _ e1] at h1
     have := (new b z' h2).2.2
     have := (hown i b z h1).1
     omega
   · rw [m1 _ e1] at h1
     rw [m1 _ e2] at h2
     exact hinj i i' b z z' h1 h2
 · by_cases e1 : i = mid p n0
   · subst e1
     rw [m0] at h
     obtain ⟨h1, h2, h3⟩ := new b z h
     exact ⟨h1, h2, .inl h3⟩
   · rw [m1 _ e1] at h
     exact ⟨Nat.lt_of_lt_of_le (hown i b z h).1 he.size, keepD i b z h, .inr ⟨i, z, h⟩⟩
 · refine m1 i fun e => ?_
   rw [e, gO, if_neg (by omega)] at h1
   exact h1 rfl
 · have r := he.val
   cases r with
   | slv _ _ a h => exact .aslv _ _ _ a (by rw [m0]; exact h)
   | sl0 _ _ _ b z m o h ho => exact .asl0 _ _ _ _ b z m o (by rw [m0]; exact h) ho
   | sl _ _ _ _ b z m cap h hn hz ho => exact .asl _ _ _ _ _ b z m cap (by rw [m0]; exact h) hn hz ho
theorem yl4 {h : Array Obj} {D : Nat -> Prop} {μ : Mu} {sz n : Nat} {get : Nat -> Nat -> AV} {vs : Array Value} (r : RL h D μ [.lst sz n get] vs) : RL h D zam [.lst sz n get] vs := by
 refine ⟨r.1, fun i x v hx hv => ?_⟩
 have := r.2 i x v hx hv
 match i, hx with
 | 0, hx =>
   cases hx
   cases this with
   | lst0 _ _ a cap hn => exact .lst0 _ _ a cap hn
   | lst _ _ _ b o cap us hD hc hu h1 hr => exact .lst _ _ _ b o cap us hD hc hu h1 hr
 | i + 1, hx => simp at hx
def zwh (f ty sz p : Nat) (L : za9) : zuv := (f, fun raw ob => match raw with
 | [.lst s n get] => match za8 s sz, ob p with
   | true, some (.tab ty' sz' n0 len0 get0) => match za8 ty' ty, za8 sz' sz with
     | true, true => some ⟨[.lst sz n get], [(p, .tab ty sz n0 len0 get0)], L upN n, .asl p n0 sz 0 n, [(p, .tab ty sz (L2 L Nat.add n0 1) (fun k => L3 L yai (L2 L za8 k n0) n (len0 k)) (fun k i j => L3 L znf (L2 L za8 k n0) (get i j) (get0 k i j)))]⟩
     | _, _ => none
   | _, _ => none
 | _ => none)
theorem zmt {P : Program} {f ty sz p : Nat} (hp : p < zcn) (h : zhc P (zgh f ty sz std)) : zhc P (zwh f ty sz p std) := by
 intro raw ob T hT hpp
 unfold zwh at hT
 simp only at hT
 split at hT
 rotate_left
 · cases hT
 rename_i s n get
 split at hT
 rotate_left
 · cases hT
 rename_i ty' sz' n0 len0 get0 hs hob
 split at hT
 rotate_left
 · cases hT
 rename_i h1 h2
 cases hT
 have hn : n <= 1000000 := hpp
 have h3 := h [.lst sz n get] (fun _ => none) _ (by simp only [zgh, za3]; rfl) hn
 exact yql (fun h D μ vs r => yl4 r) hp (by unfold zcn; omega) h3
theorem zs7 : zhc Tryz.prog (zgh 27 35 7 std) := by
 intro raw ob T h hp
 unfold zgh at h
 simp only at h
 split at h
 rotate_left
 · cases h
 rename_i s n get
 cases hs : za8 s 7 with
 | false => rw [hs] at h; cases h
 | true =>
 rw [hs] at h
 cases h
 have hp : n <= 1000000 := hp
 refine zvp (fun h0 => ?_) (fun h0 => ?_) (fun h0 => ?_)
 · refine zay (T := tt) (S := noS) (lo := noA) (lb := noA) 5 (fn := Tryz.f27) (xs := fun L => [.lst 7 n get]) (rts := fun _ => [.sl 900 7 0 n]) (O := fun L => []) (O1 := fun L => [(900, .row 35 7 n get)]) rfl rfl (by kernel_rfl) (by kernel_rfl) (by kernel_rfl) zad (zbl _) (by kernel_rfl) ?_
   intro L P' Q' hL hP hQ
   (cbv; try simp only [syT, true_and, and_true])
   (subst hL; subst hQ; simp only [L2, L3, std] at *; try simp only [syS, reduceCtorEq, Int.reduceToNat, Int.reduceAdd, Int.reduceSub] at *)
   simp only [zbn] at *
   exact ⟨h0, Nat.le_trans (Nat.mul_le_mul_right _ (show 0 + n <= 1000000 by omega)) (by decide), by omega⟩
 · refine zay (T := tt) (S := noS) (lo := noA) (lb := noA) 5 (fn := Tryz.f27) (xs := fun L => [.nils]) (rts := fun _ => [.sl 900 7 0 n]) (O := fun L => []) (O1 := fun L => [(900, .row 35 7 n get)]) rfl rfl (by kernel_rfl) (by kernel_rfl) (by kernel_rfl) zad (zbl _) (by kernel_rfl) ?_
   intro L P' Q' hL hP hQ
   (cbv; try simp only [syT, true_and, and_true])
   (subst hL; subst hQ; simp only [L2, L3, std] at *; try simp only [syS, reduceCtorEq, Int.reduceToNat, Int.reduceAdd, Int.reduceSub] at *)
   exact ⟨by omega, by omega⟩
 · refine zay (T := tt) (S := noS) (lo := noA) (lb := noA) 5 (fn := Tryz.f27) (xs := fun L => [.emp]) (rts := fun _ => [.sl 900 7 0 n]) (O := fun L => []) (O1 := fun L => [(900, .row 35 7 n get)]) rfl rfl (by kernel_rfl) (by kernel_rfl) (by kernel_rfl) zad (zbl _) (by kernel_rfl) ?_
   intro L P' Q' hL hP hQ
   (cbv; try simp only [syT, true_and, and_true])
   (subst hL; subst hQ; simp only [L2, L3, std] at *; try simp only [syS, reduceCtorEq, Int.reduceToNat, Int.reduceAdd, Int.reduceSub] at *)
   exact ⟨⟨by omega, by omega⟩, ⟨by omega, fun i j hi hj => by omega⟩, by omega⟩
theorem zs9 : zhc Tryz.prog (zgh 28 40 2 std) := by
 intro raw ob T h hp
 unfold zgh at h
 simp only at h
 split at h
 rotate_left
 · cases h
 rename_i s n get
 cases hs : za8 s 2 with
 | false => rw [hs] at h; cases h
 | true =>
 rw [hs] at h
 cases h
 have hp : n <= 1000000 := hp
 refine zvp (fun h0 => ?_) (fun h0 => ?_) (fun h0 => ?_)
 · refine zay (T := tt) (S := noS) (lo := noA) (lb := noA) 5 (fn := Tryz.f28) (xs := fun L => [.lst 2 n get]) (rts := fun _ => [.sl 900 2 0 n]) (O := fun L => []) (O1 := fun L => [(900, .row 40 2 n get)]) rfl rfl (by kernel_rfl) (by kernel_rfl) (by kernel_rfl) zad (zbl _) (by kernel_rfl) ?_
   intro L P' Q' hL hP hQ
   (cbv; try simp only [syT, true_and, and_true])
   (subst hL; subst hQ; simp only [L2, L3, std] at *; try simp only [syS, reduceCtorEq, Int.reduceToNat, Int.reduceAdd, Int.reduceSub] at *)
   simp only [zbn] at *
   exact ⟨h0, Nat.le_trans (Nat.mul_le_mul_right _ (show 0 + n <= 1000000 by omega)) (by decide), by omega⟩
 · refine zay (T := tt) (S := noS) (lo := noA) (lb := noA) 5 (fn := Tryz.f28) (xs := fun L => [.nils]) (rts := fun _ => [.sl 900 2 0 n]) (O := fun L => []) (O1 := fun L => [(900, .row 40 2 n get)]) rfl rfl (by kernel_rfl) (by kernel_rfl) (by kernel_rfl) zad (zbl _) (by kernel_rfl) ?_
   intro L P' Q' hL hP hQ
   (cbv; try simp only [syT, true_and, and_true])
   (subst hL; subst hQ; simp only [L2, L3, std] at *; try simp only [syS, reduceCtorEq, Int.reduceToNat, Int.reduceAdd, Int.reduceSub] at *)
   exact ⟨by omega, by omega⟩
 · refine zay (T := tt) (S := noS) (lo := noA) (lb := noA) 5 (fn := Tryz.f28) (xs := fun L => [.emp]) (rts := fun _ => [.sl 900 2 0 n]) (O := fun L => []) (O1 := fun L => [(900, .row 40 2 n get)]) rfl rfl (by kernel_rfl) (by kernel_rfl) (by kernel_rfl) zad (zbl _) (by kernel_rfl) ?_
   intro L P' Q' hL hP hQ
   (cbv; try simp only [syT, true_and, and_true])
   (subst hL; subst hQ; simp only [L2, L3, std] at *; try simp only [syS, reduceCtorEq, Int.reduceToNat, Int.reduceAdd, Int.reduceSub] at *)
   exact ⟨⟨by omega, by omega⟩, ⟨by omega, fun i j hi hj => by omega⟩, by omega⟩
theorem zs6 : zhc Tryz.prog (zgh 29 52 4 std) := by
 intro raw ob T h hp
 unfold zgh at h
 simp only at h
 split at h
 rotate_left
 · cases h
 rename_i s n get
 cases hs : za8 s 4 with
 | false => rw [hs] at h; cases h
 | true =>
 rw [hs] at h
 cases h
 have hp : n <= 1000000 := hp
 refine zvp (fun h0 => ?_) (fun h0 => ?_) (fun h0 => ?_)
 · refine zay (T := tt) (S := noS) (lo := noA) (lb := noA) 5 (fn := Tryz.f29) (xs := fun L => [.lst 4 n get]) (rts := fun _ => [.sl 900 4 0 n]) (O := fun L => []) (O1 := fun L => [(900, .row 52 4 n get)]) rfl rfl (by kernel_rfl) (by kernel_rfl) (by kernel_rfl) zad (zbl _) (by kernel_rfl) ?_
   intro L P' Q' hL hP hQ
   (cbv; try simp only [syT, true_and, and_true])
   (subst hL; subst hQ; simp only [L2, L3, std] at *; try simp only [syS, reduceCtorEq, Int.reduceToNat, Int.reduceAdd, Int.reduceSub] at *)
   simp only [zbn] at *
   exact ⟨h0, Nat.le_trans (Nat.mul_le_mul_right _ (show 0 + n <= 1000000 by omega)) (by decide), by omega⟩
 · refine zay (T := tt) (S := noS) (lo := noA) (lb := noA) 5 (fn := Tryz.f29) (xs := fun L => [.nils]) (rts := fun _ => [.sl 900 4 0 n]) (O := fun L => []) (O1 := fun L => [(900, .row 52 4 n get)]) rfl rfl (by kernel_rfl) (by kernel_rfl) (by kernel_rfl) zad (zbl _) (by kernel_rfl) ?_
   intro L P' Q' hL hP hQ
   (cbv; try simp only [syT, true_and, and_true])
   (subst hL; subst hQ; simp only [L2, L3, std] at *; try simp only [syS, reduceCtorEq, Int.reduceToNat, Int.reduceAdd, Int.reduceSub] at *)
   exact ⟨by omega, by omega⟩
 · refine zay (T := tt) (S := noS) (lo := noA) (lb := noA) 5 (fn := Tryz.f29) (xs := fun L => [.emp]) (rts := fun _ => [.sl 900 4 0 n]) (O := fun L => []) (O1 := fun L => [(900, .row 52 4 n get)]) rfl rfl (by kernel_rfl) (by kernel_rfl) (by kernel_rfl) zad (zbl _) (by kernel_rfl) ?_
   intro L P' Q' hL hP hQ
   (cbv; try simp only [syT, true_and, and_true])
   (subst hL; subst hQ; simp only [L2, L3, std] at *; try simp only [syS, reduceCtorEq, Int.reduceToNat, Int.reduceAdd, Int.reduceSub] at *)
   exact ⟨⟨by omega, by omega⟩, ⟨by omega, fun i j hi hj => by omega⟩, by omega⟩
theorem zs8 : zhc Tryz.prog (zgh 30 54 6 std) := by
 intro raw ob T h hp
 unfold zgh at h
 simp only at h
 split at h
 rotate_left
 · cases h
 rename_i s n get
 cases hs : za8 s 6 with
 | false => rw [hs] at h; cases h
 | true =>
 rw [hs] at h
 cases h
 have hp : n <= 1000000 := hp
 refine zvp (fun h0 => ?_) (fun h0 => ?_) (fun h0 => ?_)
 · refine zay (T := tt) (S := noS) (lo := noA) (lb := noA) 5 (fn := Tryz.f30) (xs := fun L => [.lst 6 n get]) (rts := fun _ => [.sl 900 6 0 n]) (O := fun L => []) (O1 := fun L => [(900, .row 54 6 n get)]) rfl rfl (by kernel_rfl) (by kernel_rfl) (by kernel_rfl) zad (zbl _) (by kernel_rfl) ?_
   intro L P' Q' hL hP hQ
   (cbv; try simp only [syT, true_and, and_true])
   (subst hL; subst hQ; simp only [L2, L3, std] at *; try simp only [syS, reduceCtorEq, Int.reduceToNat, Int.reduceAdd, Int.reduceSub] at *)
   simp only [zbn] at *
   exact ⟨h0, Nat.le_trans (Nat.mul_le_mul_right _ (show 0 + n <= 1000000 by omega)) (by decide), by omega⟩
 · refine zay (T := tt) (S := noS) (lo := noA) (lb := noA) 5 (fn := Tryz.f30) (xs := fun L => [.nils]) (rts := fun _ => [.sl 900 6 0 n]) (O := fun L => []) (O1 := fun L => [(900, .row 54 6 n get)]) rfl rfl (by kernel_rfl) (by kernel_rfl) (by kernel_rfl) zad (zbl _) (by kernel_rfl) ?_
   intro L P' Q' hL hP hQ
   (cbv; try simp only [syT, true_and, and_true])
   (subst hL; subst hQ; simp only [L2, L3, std] at *; try simp only [syS, reduceCtorEq, Int.reduceToNat, Int.reduceAdd, Int.reduceSub] at *)
   exact ⟨by omega, by omega⟩
 · refine zay (T := tt) (S := noS) (lo := noA) (lb := noA) 5 (fn := Tryz.f30) (xs := fun L => [.emp]) (rts := fun _ => [.sl 900 6 0 n]) (O := fun L => []) (O1 := fun L => [(900, .row 54 6 n get)]) rfl rfl (by kernel_rfl) (by kernel_rfl) (by kernel_rfl) zad (zbl _) (by kernel_rfl) ?_
   intro L P' Q' hL hP hQ
   (cbv; try simp only [syT, true_and, and_true])
   (subst hL; subst hQ; simp only [L2, L3, std] at *; try simp only [syS, reduceCtorEq, Int.reduceToNat, Int.reduceAdd, Int.reduceSub] at *)
   exact ⟨⟨by omega, by omega⟩, ⟨by omega, fun i j hi hj => by omega⟩, by omega⟩
@[cbv_opaque] def zv2 (q p : Nat) (x y : AV) : AV := cond (zbg q p) x y
@[cbv_eval] theorem selI_self (p : Nat) (x y : AV) : zv2 p p x y = y := by
 unfold zv2
 rw [show zbg p p = false from by rw [Bool.eq_false_iff, ne_eq, zbn]; omega]
 rfl
theorem zgs (q p : Nat) (x y : AV) : zv2 q p x y = if q < p then x else y := by
 unfold zv2
 by_cases h : q < p
 · rw [if_pos h, zih h]; rfl
 · rw [if_neg h, zki h]; rfl
def lsT (L : za9) (l : List Ls) (q : Nat) : Nat -> AV
 | 6 => .asl 600100 q 4 0 (L zab (L Ls.rs (L (L za6 l) q)))
 | j => lsC L (L (L za6 l) q) j
def clT (L : za9) (l : List Cl) (q : Nat) : Nat -> AV
 | 1 => .asl 600101 q 6 0 (L zab (L Cl.es (L (L zac l) q)))
 | j => clC L (L (L zac l) q) j
def lsI (L : za9) (l : List Ls) (p q : Nat) : Nat -> AV
 | 6 => zv2 q p (.asl 600100 q 4 0 (L zab (L Ls.rs (L (L za6 l) q)))) (znj L (L Ls.rs (L (L za6 l) q)))
 | j => lsC L (L (L za6 l) q) j
def clI (L : za9) (l : List Cl) (p q : Nat) : Nat -> AV
 | 1 => zv2 q p (.asl 600101 q 6 0 (L zab (L Cl.es (L (L zac l) q)))) (zk9 L (L Cl.es (L (L zac l) q)))
 | j => clC L (L (L zac l) q) j
def znz (L : za9) (l : List Ls) : Ob := .rowp 600100 35 7 (L zab l) (lsT L l)
def zqz (L : za9) (l : List Cl) : Ob := .rowp 600101 40 2 (L zab l) (clT L l)
def ypm (L : za9) (l : List Cl) : Ob := .row 40 2 (L zab l) (fun q => clC L (L (L zac l) q))
def zlm (L : za9) (l : List Ls) (n : Nat) : Ob := .tab 52 4 n (fun k => L zab (L Ls.rs (L (L za6 l) k))) (fun k i => rtC L (L (L zbq (L Ls.rs (L (L za6 l) k))) i))
def znd (L : za9) (l : List Cl) (n : Nat) : Ob := .tab 54 6 n (fun k => L zab (L Cl.es (L (L zac l) k))) (fun k i => epC L (L (L zc9 (L Cl.es (L (L zac l) k))) i))
def yna (L : za9) : zuv := (10, fun raw ob => match raw, ob 600100, ob 600101 with
 | [.agg cs], some (.tab tA sA nA lA gA), some (.tab tB sB nB lB gB) => match za8 tA 52, za8 sA 4, za8 nA 0, za8 tB 54, za8 sB 6, za8 nB 0 with
   | true, true, true, true, true, true => some ⟨[.agg cs], [(600100, .tab 52 4 0 lA gA), (600101, .tab 54 6 0 lB gB)], L zdy (.agg cs) /\ L znk (L zaf (.agg cs)),
       .agg [.int .u64 (L Cf.v (L zaf (.agg cs))), .sl 900 7 0 (L zab (L Cf.ls (L zaf (.agg cs)))), .sl 901 2 0 (L zab (L Cf.cs (L zaf (.agg cs))))],
       [(900, znz L (L Cf.ls (L zaf (.agg cs)))), (901, zqz L (L Cf.cs (L zaf (.agg cs)))), (600100, zlm L (L Cf.ls (L zaf (.agg cs))) (L zab (L Cf.ls (L zaf (.agg cs))))), (600101, znd L (L Cf.cs (L zaf (.agg cs))) (L zab (L Cf.cs (L zaf (.agg cs)))))]⟩
   | _, _, _, _, _, _ => none
 | _, _, _ => none)
def yuy (L : za9) (y : Cf) (lB : Nat -> Nat) (gB : Nat -> Nat -> Nat -> AV) : Nat -> St -> Option Ann := fun id st => match id with
 | 0 => some ⟨Nat, fun i => [(16, .int .i64 (L zbh i)), (1, .ref 1 0)], fun i => [(1, .box 26 [.int .u64 (L Cf.v y), .sl 910 7 0 (L zab (L Cf.ls y)), .sl 911 2 0 (L zab (L Cf.cs y))]), (910, .rowp 600100 35 7 (L zab (L Cf.ls y)) (lsI L (L Cf.ls y) (L2 L Nat.add 0 (L Int.toNat (L zbh i))))), (911, ypm L (L Cf.cs y)), (600100, zlm L (L Cf.ls y) i), (600101, .tab 54 6 0 lB gB)], [2, 15], [2], fun i => L2 L yjk (L Cf.ls y) i, fun i => L2 L ymh (L Cf.ls y) i⟩
 | 2 => some ⟨Nat, fun i => [(35, .int .i64 (L zbh i)), (1, .ref 1 0)], fun i => [(1, .box 26 [.int .u64 (L Cf.v y), .sl 912 7 0 (L zab (L Cf.ls y)), .sl 913 2 0 (L zab (L Cf.cs y))]), (912, znz L (L Cf.ls y)), (913, .rowp 600101 40 2 (L zab (L Cf.cs y)) (clI L (L Cf.cs y) (L2 L Nat.add 0 (L Int.toNat (L zbh i))))), (600100, zlm L (L Cf.ls y) (L zab (L Cf.ls y))), (600101, znd L (L Cf.cs y) i)], [2, 34], [2], fun i => L2 L yjl (L Cf.cs y) i, fun i => L2 L ymi (L Cf.cs y) i⟩
 | _ => none
theorem ls_0 (l : List Ls) (q j : Nat) (hj : j < 7) : lsC std (za6 l q) j = lsI std l 0 q j := by
 match j, hj with
 | 0, _ => rfl
 | 1, _ => rfl
 | 2, _ => rfl
 | 3, _ => rfl
 | 4, _ => rfl
 | 5, _ => rfl
 | 6, _ =>
   show _ = zv2 q 0 _ _
   rw [zgs, if_neg (by omega)]; rfl
theorem cl_0 (l : List Cl) (q j : Nat) (hj : j < 2) : clC std (zac l q) j = clI std l 0 q j := by
 match j, hj with
 | 0, _ => rfl
 | 1, _ =>
   show _ = zv2 q 0 _ _
   rw [zgs, if_neg (by omega)]; rfl
theorem yfy (l : List Ls) (i q j : Nat) (hj : j < 7) : over std i 6 1 [AV.asl 600100 i 4 0 (zab (za6 l i).rs)] (lsI std l i) q j = lsI std l (i + 1) q j := by
 match j, hj with
 | 0, _ => rfl
 | 1, _ => rfl
 | 2, _ => rfl
 | 3, _ => rfl
 | 4, _ => rfl
 | 5, _ => rfl
 | 6, _ =>
   show zer std (za8 q i) (AV.asl 600100 i 4 0 (zab (za6 l i).rs)) (zv2 q i (.asl 600100 q 4 0 (zab (za6 l q).rs)) (znj std (za6 l q).rs)) = zv2 q (i + 1) (.asl 600100 q 4 0 (zab (za6 l q).rs)) (znj std (za6 l q).rs)
   rw [zgs, zgs]
   by_cases h : q = i
   · subst h
     rw [za3, if_neg (by omega), if_pos (by omega)]; rfl
   · rw [zak h]
     by_cases h2 : q < i
     · rw [if_pos h2, if_pos (by omega)]; rfl
     · rw [if_neg h2, if_neg (by omega)]; rfl
theorem yg0 (l : List Cl) (i q j : Nat) (hj : j < 2) : over std i 1 1 [AV.asl 600101 i 6 0 (zab (zac l i).es)] (clI std l i) q j = clI std l (i + 1) q j := by
 match j, hj with
 | 0, _ => rfl
 | 1, _ =>
   show zer std (za8 q i) (AV.asl 600101 i 6 0 (zab (zac l i).es)) (zv2 q i (.asl 600101 q 6 0 (zab (zac l q).es)) (zk9 std (zac l q).es)) = zv2 q (i + 1) (.asl 600101 q 6 0 (zab (zac l q).es)) (zk9 std (zac l q).es)
   rw [zgs, zgs]
   by_cases h : q = i
   · subst h
     rw [za3, if_neg (by omega), if_pos (by omega)]; rfl
   · rw [zak h]
     by_cases h2 : q < i
     · rw [if_pos h2, if_pos (by omega)]; rfl
     · rw [if_neg h2, if_neg (by omega)]; rfl
theorem ylt (l : List Ls) (i q j : Nat) (hj : j < 7) (hq : q < i) : lsI std l i q j = lsT std l q j := by
 match j, hj with
 | 0, _ => rfl
 | 1, _ => rfl
 | 2, _ => rfl
 | 3, _ => rfl
 | 4, _ => rfl
 | 5, _ => rfl
 | 6, _ =>
   show zv2 q i _ _ = _
   rw [zgs, if_pos hq]; rfl
theorem yne (l : List Cl) (i q j : Nat) (hj : j < 2) (hq : q < i) : clI std l i q j = clT std l q j := by
 match j, hj with
 | 0, _ => rfl
 | 1, _ =>
   show zv2 q i _ _ = _
   rw [zgs, if_pos hq]; rfl
theorem yah (f : Nat -> Nat) (k i : Nat) : yai (za8 k i) (f i) (f k) = f k := by
 by_cases h : k = i
 · subst h; rw [za3]; rfl
 · rw [zak h]; rfl
theorem yag (f : Nat -> AV) (k i : Nat) : znf (za8 k i) (f i) (f k) = f k := by
 by_cases h : k = i
 · subst h; rw [za3]; rfl
 · rw [zak h]; rfl
theorem zz3 : zhc Tryz.prog (yna std) := by
 intro raw ob T h hp
 unfold yna at h
 simp only at h
 split at h
 rotate_left
 · cases h
 rename_i cs tA sA nA lA gA tB sB nB lB gB _ _
 split at h
 rotate_left
 · cases h
 cases h
 obtain ⟨ho, hp⟩ := hp
 have ho : okG cfV (.agg cs) := ho
 refine zto (fun h D μ vs hr => yoi (fun v => G_R zdv ho) hr) ?_
 have hp : znk (zaf (.agg cs)) := hp
 show zce Tryz.prog 10 [.agg [.int .u64 (zaf (.agg cs)).v, zek std (zaf (.agg cs)).ls, ze0 std (zaf (.agg cs)).cs]] [(600100, .tab 52 4 0 lA gA), (600101, .tab 54 6 0 lB gB)] (.agg [.int .u64 (zaf (.agg cs)).v, .sl 900 7 0 (zab (zaf (.agg cs)).ls), .sl 901 2 0 (zab (zaf (.agg cs)).cs)])
   [(900, znz std (zaf (.agg cs)).ls), (901, zqz std (zaf (.agg cs)).cs), (600100, zlm std (zaf (.agg cs)).ls (zab (zaf (.agg cs)).ls)), (600101, znd std (zaf (.agg cs)).cs (zab (zaf (.agg cs)).cs))]
 generalize zaf (.agg cs) = y at hp |-
 refine zay (T := tt) (S := fun L => zf6 [] [zgh 27 35 7 L, zgh 28 40 2 L, zwh 29 52 4 600100 L, zwh 30 54 6 600101 L]) (lo := fun L => yuy L y lB gB) (lb := noA) 5 (fn := Tryz.f10) (xs := fun L => [.agg [.int .u64 (L Cf.v y), zek L (L Cf.ls y), ze0 L (L Cf.cs y)]]) (rts := fun L => [.agg [.int .u64 (L Cf.v y), .sl 900 7 0 (L zab (L Cf.ls y)), .sl 901 2 0 (L zab (L Cf.cs y))]]) (O := fun L => [(600100, .tab 52 4 0 lA gA), (600101, .tab 54 6 0 lB gB)])
   (O1 := fun L => [(900, znz L (L Cf.ls y)), (901, zqz L (L Cf.cs y)), (600100, zlm L (L Cf.ls y) (L zab (L Cf.ls y))), (600101, znd L (L Cf.cs y) (L zab (L Cf.cs y)))]) rfl rfl (by kernel_rfl) (by kernel_rfl) (by kernel_rfl) zad (zc1 trivial ⟨zs7, zs9, zmt (by unfold zcn; omega) zs6, zmt (by unfold zcn; omega) zs8, trivial⟩) (by kernel_rfl) ?_
 intro L P' Q' hL hP hQ
 have e1 : zab y.ls = y.ls.length := rfl
 have e2 : zab y.cs = y.cs.length := rfl
 have z1 : y.ls.length <= 1000000 := hp.1
 have z2 : y.cs.length <= 1000000 := hp.2.1
 (cbv; try simp only [syT, true_and, and_true])
 refine ⟨?_, ?_, ?_, ?_, ⟨0, ?_⟩, fun i hi => ?_⟩
 · exact fun _ _ _ _ => trivial
 · subst hL
   exact z1
 · exact fun _ _ _ _ => trivial
 · subst hL
   exact z2
 · (cbv; try simp only [syT, true_and, and_true])
   (subst hL; subst hQ; simp only [L2, L3, std] at *; try simp only [syS, reduceCtorEq, Int.reduceToNat, Int.reduceAdd, Int.reduceSub] at *)
   exact ⟨⟨fun k hk => absurd hk (by omega), fun k a b hk => absurd hk (by omega)⟩, fun q j hq hj => ls_0 _ _ _ hj, Nat.zero_le _⟩
 · have hi2 : yjk y.ls i := by
     have h := hi
     rw [hL] at h
     exact h
   clear hi
   (cbv; try simp only [syT, true_and, and_true])
   refine ⟨fun hlt => ⟨?_, ?_, ⟨fun _ _ => trivial, fun _ _ _ _ _ _ => trivial⟩, fun _ _ _ _ => trivial, ?_, ?_, ⟨i + 1, ?_⟩⟩, fun hge => ⟨⟨0, ?_⟩, fun k hk => ?_⟩⟩
   · (subst hL; subst hQ; simp only [L2, L3, std] at *; try simp only [syS, reduceCtorEq, Int.reduceToNat, Int.reduceAdd, Int.reduceSub] at *)
     omega
   · (subst hL; subst hQ; simp only [L2, L3, std] at *; try simp only [syS, reduceCtorEq, Int.reduceToNat, Int.reduceAdd, Int.reduceSub] at *)
     exact Nat.le_succ _
   · (subst hL; subst hQ; simp only [L2, L3, std] at *; try simp only [syS, reduceCtorEq, Int.reduceToNat, Int.reduceAdd, Int.reduceSub] at *)
     exact zi4 hp (by omega)
   · (subst hL; subst hQ; simp only [L2, L3, std] at *; try simp only [syS, reduceCtorEq, Int.reduceToNat, Int.reduceAdd, Int.reduceSub] at *)
     omega
   · (cbv; try simp only [syT, true_and, and_true])
     (subst hL; subst hQ; simp only [L2, L3, std] at *; try simp only [syS, reduceCtorEq, Int.reduceToNat, Int.reduceAdd, Int.reduceSub] at *)
     have hi3 : i <= y.ls.length := hi2
     refine ⟨Nat.le_refl _, Nat.le_succ _, ⟨fun k hk => yah (fun k => zab (za6 y.ls k).rs) k i, fun k a j hk ha hj => yag (fun k => rtC std (zbq (za6 y.ls k).rs a) j) k i⟩, fun q j hq hj => yfy _ _ _ _ hj, by omega, ?_, ?_⟩
     · show i + 1 <= y.ls.length
       omega
     · show y.ls.length - (i + 1) + 1 <= y.ls.length - i
       omega
   · (cbv; try simp only [syT, true_and, and_true])
     (subst hL; subst hQ; simp only [L2, L3, std] at *; try simp only [syS, reduceCtorEq, Int.reduceToNat, Int.reduceAdd, Int.reduceSub] at *)
     have hi3 : i <= y.ls.length := hi2
     exact ⟨by omega, ⟨fun k hk => absurd hk (by omega), fun k a b hk => absurd hk (by omega)⟩, by omega, fun q j hq hj => cl_0 _ _ _ hj, fun q j hq hj => ylt _ _ _ _ hj (by omega), Nat.zero_le _⟩
   · have hk2 : yjl y.cs k := by
       have h := hk
       rw [hL] at h
       exact h
     clear hk
     (cbv; try simp only [syT, true_and, and_true])
     refine ⟨fun hlt => ⟨?_, ?_, ⟨fun _ _ => trivial, fun _ _ _ _ _ _ => trivial⟩, fun _ _ _ _ => trivial, ?_, ?_, ⟨k + 1, ?_⟩⟩, fun hge2 => ?_⟩
     · (subst hL; subst hQ; simp only [L2, L3, std] at *; try simp only [syS, reduceCtorEq, Int.reduceToNat, Int.reduceAdd, Int.reduceSub] at *)
       omega
     · (subst hL; subst hQ; simp only [L2, L3, std] at *; try simp only [syS, reduceCtorEq, Int.reduceToNat, Int.reduceAdd, Int.reduceSub] at *)
       exact Nat.le_succ _
     · (subst hL; subst hQ; simp only [L2, L3, std] at *; try simp only [syS, reduceCtorEq, Int.reduceToNat, Int.reduceAdd, Int.reduceSub] at *)
       exact zi5 hp (by omega)
     · (subst hL; subst hQ; simp only [L2, L3, std] at *; try simp only [syS, reduceCtorEq, Int.reduceToNat, Int.reduceAdd, Int.reduceSub] at *)
       omega
     · (cbv; try simp only [syT, true_and, and_true])
       (subst hL; subst hQ; simp only [L2, L3, std] at *; try simp only [syS, reduceCtorEq, Int.reduceToNat, Int.reduceAdd, Int.reduceSub] at *)
       have hk3 : k <= y.cs.length := hk2
       refine ⟨Nat.le_refl _, Nat.le_refl _, Nat.le_succ _, ⟨fun q hq => yah (fun k => zab (zac y.cs k).es) q k, fun q a j hq ha hj => yag (fun k => epC std (zc9 (zac y.cs k).es a) j) q k⟩, fun q j hq hj => yg0 _ _ _ _ hj, by omega, ?_, ?_⟩
       · show k + 1 <= y.cs.length
         omega
       · show y.cs.length - (k + 1) + 1 <= y.cs.length - k
         omega
     · (subst hL; subst hQ; simp only [L2, L3, std] at *; try simp only [syS, reduceCtorEq, Int.reduceToNat, Int.reduceAdd, Int.reduceSub] at *)
       have hk3 : k <= y.cs.length := hk2
       exact ⟨Nat.le_refl _, by omega, by omega, fun q j hq hj => yne _ _ _ _ hj (by omega)⟩
def yo3 (s : List UInt8) (l : List Ls) (i : Nat) : Int := if zfi (zy1 s) (l.drop i) < 0 then -1 else zfi (zy1 s) (l.drop i) + i
def yo5 (s : List UInt8) (l : List Cl) (i : Nat) : Int := if zfi (zpk s) (l.drop i) < 0 then -1 else zfi (zpk s) (l.drop i) + i
def zfb (i : Nat) : Int := (i : Int) - 1
theorem yjq {α : Type} (p : α -> Bool) (l : List α) : (if zfi p (l.drop l.length) < 0 then (-1 : Int) else zfi p (l.drop l.length) + l.length) = -1 := by
 rw [List.drop_length]; rfl
theorem zpz {α : Type} {V : Vw α} (p : α -> Bool) {l : List α} {i : Nat} (hi : i < l.length) : (if zfi p (l.drop i) < 0 then (-1 : Int) else zfi p (l.drop i) + i) = if p (zil V l i) = true then (i : Int) else (if zfi p (l.drop (i + 1)) < 0 then (-1 : Int) else zfi p (l.drop (i + 1)) + (i + 1 : Nat)) := by
 have h := zbd p (l.drop (i + 1))
 rw [zat hi, List.drop_eq_getElem_cons hi, zfi]
 by_cases h1 : p l[i] = true
 · rw [if_pos h1, if_pos h1, if_neg (by decide)]; omega
 · rw [if_neg h1, if_neg h1]
   by_cases h2 : zfi p (l.drop (i + 1)) < 0
   · rw [if_pos h2, if_pos h2, if_pos (by decide)]
   · rw [if_neg h2, if_neg h2, if_neg (by omega)]; omega
theorem fr_0 {α : Type} (p : α -> Bool) (l : List α) : (if zfi p (l.drop 0) < 0 then (-1 : Int) else zfi p (l.drop 0) + (0 : Nat)) = zfi p l := by
 have h := zbd p l
 rw [List.drop_zero]
 split <;> omega
theorem yid {s : List UInt8} {l : List Ls} {i : Nat} (hi : i < l.length) (h : (za6 l i).n = s) : yo3 s l i = i := by
 have e : zy1 s (zil lsV l i) = true := decide_eq_true h
 unfold yo3
 rw [zpz (V := lsV) _ hi, if_pos e]
theorem yo2 {s : List UInt8} {l : List Ls} {i : Nat} (hi : i < l.length) (h : ¬ (za6 l i).n = s) : yo3 s l i = yo3 s l (i + 1) := by
 have e : ¬ zy1 s (zil lsV l i) = true := fun e => h (of_decide_eq_true e)
 unfold yo3
 rw [zpz (V := lsV) _ hi, if_neg e]
theorem yie {s : List UInt8} {l : List Cl} {i : Nat} (hi : i < l.length) (h : (zac l i).n = s) : yo5 s l i = i := by
 have e : zpk s (zil clV l i) = true := decide_eq_true h
 unfold yo5
 rw [zpz (V := clV) _ hi, if_pos e]
theorem yo4 {s : List UInt8} {l : List Cl} {i : Nat} (hi : i < l.length) (h : ¬ (zac l i).n = s) : yo5 s l i = yo5 s l (i + 1) := by
 have e : ¬ zpk s (zil clV l i) = true := fun e => h (of_decide_eq_true e)
 unfold yo5
 rw [zpz (V := clV) _ hi, if_neg e]
theorem zl3 (i : Nat) : (zfb (i + 1)).toNat = i := by unfold zfb; omega
def zgm (l : List Ls) (p q : Nat × Nat) : List UInt8 := if q.1 < p.1 \/ (q.1 = p.1 /\ q.2 < p.2) then (zbq (za6 l q.1).rs q.2).h ++ [120] else (zbq (za6 l q.1).rs q.2).h
def zqc (l : List Cl) (p q : Nat × Nat) : Int := if q.1 < p.1 \/ (q.1 = p.1 /\ q.2 < p.2) then yey .i64 (zc9 (zac l q.1).es q.2).w 1 else (zc9 (zac l q.1).es q.2).w
def rtX (L : za9) (l : List Ls) (p : Nat × Nat) (k a : Nat) : Nat -> AV
 | 0 => .str (L3 L zgm l p (k, a))
 | c => rtC L (L (L zbq (L Ls.rs (L (L za6 l) k))) a) c
def epX (L : za9) (l : List Cl) (p : Nat × Nat) (k a : Nat) : Nat -> AV
 | 5 => .int .i64 (L3 L zqc l p (k, a))
 | c => epC L (L (L zc9 (L Cl.es (L (L zac l) k))) a) c
def ytb (L : za9) (l : List Ls) (p : Nat × Nat) : Ob := .tab 52 4 (L zab l) (fun k => L zab (L Ls.rs (L (L za6 l) k))) (fun k a => rtX L l p k a)
def yta (L : za9) (l : List Cl) (p : Nat × Nat) : Ob := .tab 54 6 (L zab l) (fun k => L zab (L Cl.es (L (L zac l) k))) (fun k a => epX L l p k a)
def cnA (L : za9) (s : List UInt8) (y : Cf) : Nat -> St -> Option Ann := fun id st => match id with
 | 0 => some ⟨Nat, fun i => [(13, .int .i64 (L zfb i)), (11, .int .i64 (L3 L yo3 s (L Cf.ls y) i))], fun i => [], [2, 3, 4, 7, 8, 9, 10, 12], [3, 4, 7, 9, 600100, 600101], fun i => L2 L yjk (L Cf.ls y) i, fun i => i⟩
 | 2 => some ⟨Nat, fun i => [(14, .int .i64 (L zfb i)), (12, .int .i64 (L3 L yo5 s (L Cf.cs y) i))], fun i => [], [2, 3, 4, 7, 8, 9, 10, 11], [3, 4, 7, 9, 600100, 600101], fun i => L2 L yjl (L Cf.cs y) i, fun i => i⟩
 | 4 => some ⟨Nat, fun i => [(148, .int .i64 (L zbh i)), (15, .ref 15 0)], fun i => [(15, .box 26 [.int .u64 (L Cf.v y), .sl 920 7 0 (L zab (L Cf.ls y)), .sl 921 2 0 (L zab (L Cf.cs y))]), (920, znz L (L Cf.ls y)), (921, zqz L (L Cf.cs y)), (600100, ytb L (L Cf.ls y) (i, 0)), (600101, yta L (L Cf.cs y) (0, 0))], [3, 16, 147], [3, 16], fun i => L2 L yjk (L Cf.ls y) i, fun i => L2 L ymh (L Cf.ls y) i⟩
 | 6 => zi2 st 148 fun k => some ⟨Nat, fun j => [(158, .int .i64 (L zbh j))], fun j => [(600100, ytb L (L Cf.ls y) (L2 L Nat.add 0 (L Int.toNat k), j))], [3, 15, 16, 147, 148, 17, 157], [3, 15, 16, 920, 921, 600101], fun j => L2 L yqv (L Ls.rs (L2 L za6 (L Cf.ls y) (L2 L Nat.add 0 (L Int.toNat k)))) j, fun j => L2 L yrb (L Ls.rs (L2 L za6 (L Cf.ls y) (L2 L Nat.add 0 (L Int.toNat k)))) j⟩
 | 8 => some ⟨Nat, fun i => [(179, .int .i64 (L zbh i)), (15, .ref 15 0)], fun i => [(15, .box 26 [.int .u64 (L Cf.v y), .sl 922 7 0 (L zab (L Cf.ls y)), .sl 923 2 0 (L zab (L Cf.cs y))]), (922, znz L (L Cf.ls y)), (923, zqz L (L Cf.cs y)), (600100, ytb L (L Cf.ls y) (L zab (L Cf.ls y), 0)), (600101, yta L (L Cf.cs y) (i, 0))], [3, 16, 178], [3, 16], fun i => L2 L yjl (L Cf.cs y) i, fun i => L2 L ymi (L Cf.cs y) i⟩
 | 10 => zi2 st 179 fun k => some ⟨Nat, fun j => [(189, .int .i64 (L zbh j))], fun j => [(600101, yta L (L Cf.cs y) (L2 L Nat.add 0 (L Int.toNat k), j))], [3, 15, 16, 178, 179, 19, 188], [3, 15, 16, 922, 923, 600100], fun j => L2 L yqw (L Cl.es (L2 L zac (L Cf.cs y) (L2 L Nat.add 0 (L Int.toNat k)))) j, fun j => L2 L yun (L Cl.es (L2 L zac (L Cf.cs y) (L2 L Nat.add 0 (L Int.toNat k)))) j⟩
 | _ => none
theorem zmu {x : Ls} {n : Nat} {g : Nat -> Nat -> AV} (hn : n = 1) (hg : ∀ j, j < 7 -> g 0 j = lsC std x j) : zdy (.agg [.int .u64 0, .lst 7 n g, .nils]) /\ zaf (.agg [.int .u64 0, .lst 7 n g, .nils]) = ⟨0, [x], []⟩ := by
 subst hn
 obtain ⟨a1, a2⟩ := ziv zd3 (l := [x]) (n := 1) (get := g) rfl (fun i j hi hj => by
   obtain rfl : i = 0 := by omega
   exact hg j hj)
 refine ⟨⟨rfl, ⟨_, rfl⟩, a1, trivial⟩, ?_⟩
 show Cf.mk 0 (rdW lsV (.lst 7 1 g)) [] = _
 rw [show rdW lsV (.lst 7 1 g) = [x] from a2]
theorem zig {x : Cl} {n : Nat} {g : Nat -> Nat -> AV} (hn : n = 1) (hg : ∀ j, j < 2 -> g 0 j = clC std x j) : zdy (.agg [.int .u64 0, .nils, .lst 2 n g]) /\ zaf (.agg [.int .u64 0, .nils, .lst 2 n g]) = ⟨0, [], [x]⟩ := by
 subst hn
 obtain ⟨a1, a2⟩ := ziv zc4 (l := [x]) (n := 1) (get := g) rfl (fun i j hi hj => by
   obtain rfl : i = 0 := by omega
   exact hg j hj)
 refine ⟨⟨rfl, ⟨_, rfl⟩, trivial, a1⟩, ?_⟩
 show Cf.mk 0 [] (rdW clV (.lst 2 1 g)) = _
 rw [show rdW clV (.lst 2 1 g) = [x] from a2]
theorem zqs {x : Ls} {n : Nat} {g : Nat -> Nat -> AV} (hn : n = 1) (hg : ∀ j, j < 7 -> g 0 j = lsC std x j) (hx : zee x.rs) : zis (zaf (.agg [.int .u64 0, .lst 7 n g, .nils])) := by
 rw [(zmu hn hg).2]
 refine ⟨?_, ?_, fun a ha => ?_, fun a ha => by cases ha⟩
 · show 1 <= 1000000
   decide
 · show 0 <= 1000000
   decide
 · rw [List.mem_singleton.1 ha]; exact hx
theorem zir {x : Cl} {n : Nat} {g : Nat -> Nat -> AV} (hn : n = 1) (hg : ∀ j, j < 2 -> g 0 j = clC std x j) (hx : zee x.es) : zis (zaf (.agg [.int .u64 0, .nils, .lst 2 n g])) := by
 rw [(zig hn hg).2]
 refine ⟨?_, ?_, fun a ha => ?_, fun a ha => ?_⟩
 · show 0 <= 1000000
   decide
 · show 1 <= 1000000
   decide
 · cases ha
 · rw [List.mem_singleton.1 ha]; exact hx
theorem yhu {x : Ls} {n n' : Nat} {g g' : Nat -> Nat -> AV} (hn : n = 1) (hg : ∀ j, j < 7 -> g 0 j = lsC std x j) (hn' : n' = 1) (hg' : ∀ j, j < 7 -> g' 0 j = lsC std x j) : zkh (zaf (.agg [.int .u64 0, .lst 7 n g, .nils])) (zaf (.agg [.int .u64 0, .lst 7 n' g', .nils])) = true := by
 rw [(zmu hn hg).2, (zmu hn' hg').2]
 exact decide_eq_true rfl
theorem zw8 {x : Cl} {n n' : Nat} {g g' : Nat -> Nat -> AV} (hn : n = 1) (hg : ∀ j, j < 2 -> g 0 j = clC std x j) (hn' : n' = 1) (hg' : ∀ j, j < 2 -> g' 0 j = clC std x j) : zkh (zaf (.agg [.int .u64 0, .nils, .lst 2 n g])) (zaf (.agg [.int .u64 0, .nils, .lst 2 n' g'])) = true := by
 rw [(zig hn hg).2, (zig hn' hg').2]
 exact decide_eq_true rfl
theorem ynf {y : Cf} {n m : Nat} {g h : Nat -> Nat -> AV} (hn : n = y.ls.length) (hm : m = y.cs.length) (hg : ∀ i j, i < n -> j < 7 -> g i j = lsC std (za6 y.ls i) j) (hh : ∀ i j, i < m -> j < 2 -> h i j = clC std (zac y.cs i) j) :
   zdy (.agg [.int .u64 y.v, .lst 7 n g, .lst 2 m h]) /\ zaf (.agg [.int .u64 y.v, .lst 7 n g, .lst 2 m h]) = y := by
 obtain ⟨a1, a2⟩ := ziv zd3 hn hg
 obtain ⟨b1, b2⟩ := ziv zc4 hm hh
 refine ⟨⟨rfl, ⟨_, rfl⟩, a1, b1⟩, ?_⟩
 show Cf.mk y.v (rdW lsV (.lst 7 n g)) (rdW clV (.lst 2 m h)) = y
 rw [show rdW lsV (.lst 7 n g) = y.ls from a2, show rdW clV (.lst 2 m h) = y.cs from b2]
theorem zts (x : Ls) (j : Nat) (hj : j < 7) : zbb .dead [.str x.n, .int .u8 x.pl.a, .int .u8 x.pl.b, .int .u8 x.pl.c, .int .u8 x.pl.d, .int .u16 x.pl.p, .lst 4 (zab x.rs) fun q => rtC std (zbq x.rs q)] (Nat.add 0 0 * 7 + j) = lsC std x j := by
 match j, hj with
 | 0, _ => rfl
 | 1, _ => rfl
 | 2, _ => rfl
 | 3, _ => rfl
 | 4, _ => rfl
 | 5, _ => rfl
 | 6, _ => rfl
theorem zka (x : Cl) (j : Nat) (hj : j < 2) : zbb .dead [.str x.n, .lst 6 (zab x.es) fun q => epC std (zc9 x.es q)] (Nat.add 0 0 * 2 + j) = clC std x j := by
 match j, hj with
 | 0, _ => rfl
 | 1, _ => rfl
theorem ycx {s : List UInt8} {y : Cf} (h : znk y) : zee (zym s y.ls).rs := by
 unfold zym
 split
 · exact Nat.zero_le _
 · rename_i h1
   have h2 := (zbd (zy1 s) y.ls).2
   have h3 : znb s y.ls < y.ls.length := h2
   exact zi4 h (by omega)
theorem zq0 {s : List UInt8} {y : Cf} (h : znk y) : zee (zqf s y.cs).es := by
 unfold zqf
 split
 · exact Nat.zero_le _
 · rename_i h1
   have h2 := (zbd (zpk s) y.cs).2
   have h3 : zht s y.cs < y.cs.length := h2
   exact zi5 h (by omega)
theorem zn1 (s : List UInt8) (l : List Ls) : yo3 s l 0 = znb s l := fr_0 _ _
theorem zfm (s : List UInt8) (l : List Cl) : yo5 s l 0 = zht s l := fr_0 _ _
theorem zjk {a : Int} (h : 0 <= a) (h2 : a < 9223372036854775807) : ((a + 1 + 9223372036854775808) % 18446744073709551616 - 9223372036854775808 : Int).toNat - a.toNat = 1 := by omega
theorem ycy {s : List UInt8} {l : List Ls} (h : 0 <= znb s l) : zym s l = za6 l ((znb s l).toNat + 0) := by
 unfold zym
 rw [if_neg (by omega)]; rfl
theorem zof {s : List UInt8} {l : List Cl} (h : 0 <= zht s l) : zqf s l = zac l ((zht s l).toNat + 0) := by
 unfold zqf
 rw [if_neg (by omega)]; rfl
theorem ypg {OB : Nat -> Option Ob} {l : List Ls} {n : Nat} (h : OB 600100 = some (zlm std l n)) (q j : Nat) (hj : j < 7) : zne OB (lsT std l q j) = lsC std (za6 l q) j := by
 match j, hj with
 | 0, _ => rfl
 | 1, _ => rfl
 | 2, _ => rfl
 | 3, _ => rfl
 | 4, _ => rfl
 | 5, _ => rfl
 | 6, _ =>
   show zne OB (.asl 600100 q 4 0 (zab (za6 l q).rs)) = AV.lst 4 (zab (za6 l q).rs) (fun i => rtC std (zbq (za6 l q).rs i))
   simp only [zne, h, zlm, za3, Nat.zero_add]
   rfl
theorem yph {OB : Nat -> Option Ob} {l : List Cl} {n : Nat} (h : OB 600101 = some (znd std l n)) (q j : Nat) (hj : j < 2) : zne OB (clT std l q j) = clC std (zac l q) j := by
 match j, hj with
 | 0, _ => rfl
 | 1, _ =>
   show zne OB (.asl 600101 q 6 0 (zab (zac l q).es)) = AV.lst 6 (zab (zac l q).es) (fun i => epC std (zc9 (zac l q).es i))
   simp only [zne, h, znd, za3, Nat.zero_add]
   rfl
theorem yds {y : Cf} {OB OB' : Nat -> Option Ob} {n m : Nat} (h : OB 600100 = some (zlm std y.ls n)) (h' : OB' 600101 = some (znd std y.cs m)) :
   zdy (.agg [.int .u64 y.v, .lst 7 (zab y.ls) (fun i j => zne OB (lsT std y.ls i j)), .lst 2 (zab y.cs) (fun i j => zne OB' (clT std y.cs i j))]) /\
   zaf (.agg [.int .u64 y.v, .lst 7 (zab y.ls) (fun i j => zne OB (lsT std y.ls i j)), .lst 2 (zab y.cs) (fun i j => zne OB' (clT std y.cs i j))]) = y :=
 ynf rfl rfl (fun i j hi hj => ypg h i j hj) (fun i j hi hj => yph h' i j hj)
theorem yq4 {y : Cf} {OB OB' : Nat -> Option Ob} (h : OB 600100 = some (zlm std y.ls (zab y.ls))) (h' : OB' 600101 = some (znd std y.cs (zab y.cs))) :
   zdy (.agg [.int .u64 y.v, .lst 7 (zab y.ls) (fun i j => zne OB (lsT std y.ls i j)), .lst 2 (zab y.cs) (fun i j => zne OB' (clT std y.cs i j))]) := (yds h h').1
theorem yfk {y : Cf} {OB OB' : Nat -> Option Ob} (hs : zis y) (h : OB 600100 = some (zlm std y.ls (zab y.ls))) (h' : OB' 600101 = some (znd std y.cs (zab y.cs))) :
   zis (zaf (.agg [.int .u64 y.v, .lst 7 (zab y.ls) (fun i j => zne OB (lsT std y.ls i j)), .lst 2 (zab y.cs) (fun i j => zne OB' (clT std y.cs i j))])) := by rw [(yds h h').2]; exact hs
theorem ymx {y : Cf} {OB OB' : Nat -> Option Ob} (e : zkh (zaf (.agg [.int .u64 y.v, .lst 7 (zab y.ls) (fun i j => zne OB (lsT std y.ls i j)), .lst 2 (zab y.cs) (fun i j => zne OB' (clT std y.cs i j))])) y = false) (h : OB 600100 = some (zlm std y.ls (zab y.ls))) (h' : OB' 600101 = some (znd std y.cs (zab y.cs))) : False := by
 rw [(yds h h').2] at e
 exact absurd e (by simp [zkh])
theorem yht {y a : Cf} (e : a = y) : zkh a y = true := decide_eq_true e
theorem ytp (l : List Ls) (k a j : Nat) (hj : j < 4) : rtC std (zbq (za6 l k).rs a) j = rtX std l (0, 0) k a j := by
 match j, hj with
 | 0, _ =>
   show AV.str _ = AV.str (zgm l (0, 0) (k, a))
   unfold zgm
   rw [if_neg (by simp)]; rfl
 | 1, _ => rfl
 | 2, _ => rfl
 | 3, _ => rfl
theorem yuu (l : List Cl) (k a j : Nat) (hj : j < 6) : epC std (zc9 (zac l k).es a) j = epX std l (0, 0) k a j := by
 match j, hj with
 | 0, _ => rfl
 | 1, _ => rfl
 | 2, _ => rfl
 | 3, _ => rfl
 | 4, _ => rfl
 | 5, _ =>
   show AV.int _ _ = AV.int .i64 (zqc l (0, 0) (k, a))
   unfold zqc
   rw [if_neg (by simp)]; rfl
theorem zw3 (l : List Ls) (i j : Nat) : zgm l (i, j) (i, j) = (zbq (za6 l i).rs j).h := by
 unfold zgm
 rw [if_neg (by simp)]
theorem yka (l : List Cl) (i j : Nat) : zqc l (i, j) (i, j) = (zc9 (zac l i).es j).w := by
 unfold zqc
 rw [if_neg (by simp)]
theorem zy8 {y : Cf} (h : zcj y = true) {i j : Nat} (hi : i < y.ls.length) (hj : j < (za6 y.ls i).rs.length) : (zbq (za6 y.ls i).rs j).h.length <= 300 := by
 simp only [zcj, Bool.and_eq_true, decide_eq_true_eq, List.all_eq_true, zdf, ze4] at h
 have h1 := h.1.2 (za6 y.ls i) (by rw [za6, zat (V := lsV) hi]; exact List.getElem_mem _)
 have h2 := h1.2 (zbq (za6 y.ls i).rs j) (by rw [zbq, zat (V := rtV) hj]; exact List.getElem_mem _)
 simp only [zh2, Bool.and_eq_true, decide_eq_true_eq] at h2
 exact h2.1.1
theorem zp4 {l : List Ls} {p p' : Nat × Nat} {k a c : Nat} (hc : c < 4) (h : (k < p.1 \/ (k = p.1 /\ a < p.2)) ↔ (k < p'.1 \/ (k = p'.1 /\ a < p'.2))) : rtX std l p k a c = rtX std l p' k a c := by
 match c, hc with
 | 0, _ =>
   show AV.str (zgm l p (k, a)) = AV.str (zgm l p' (k, a))
   have e : zgm l p (k, a) = zgm l p' (k, a) := by
     unfold zgm
     by_cases h1 : k < p.1 \/ (k = p.1 /\ a < p.2)
     · rw [if_pos h1, if_pos (h.1 h1)]
     · rw [if_neg h1, if_neg (fun h2 => h1 (h.2 h2))]
   rw [e]
 | 1, _ => rfl
 | 2, _ => rfl
 | 3, _ => rfl
theorem zwc {l : List Cl} {p p' : Nat × Nat} {k a c : Nat} (hc : c < 6) (h : (k < p.1 \/ (k = p.1 /\ a < p.2)) ↔ (k < p'.1 \/ (k = p'.1 /\ a < p'.2))) : epX std l p k a c = epX std l p' k a c := by
 match c, hc with
 | 0, _ => rfl
 | 1, _ => rfl
 | 2, _ => rfl
 | 3, _ => rfl
 | 4, _ => rfl
 | 5, _ =>
   show AV.int .i64 (zqc l p (k, a)) = AV.int .i64 (zqc l p' (k, a))
   have e : zqc l p (k, a) = zqc l p' (k, a) := by
     unfold zqc
     by_cases h1 : k < p.1 \/ (k = p.1 /\ a < p.2)
     · rw [if_pos h1, if_pos (h.1 h1)]
     · rw [if_neg h1, if_neg (fun h2 => h1 (h.2 h2))]
   rw [e]
theorem yk6 {k i a j : Nat} (h : ¬ (k = i /\ a = j)) : (L2 std za8 k i && L2 std za8 a j) = false := by
 show (za8 k i && za8 a j) = false
 by_cases h1 : k = i
 · rw [zak (fun h2 => h ⟨h1, h2⟩ : ¬ a = j), Bool.and_false]
 · rw [zak h1, Bool.false_and]
theorem yfx {l : List Ls} {i j k a c : Nat} (hc : c < 4) : ybs std i j 0 1 [AV.str (zgm l (i, j) (i, j) ++ [120])] (rtX std l (i, j)) k a c = rtX std l (i, j + 1) k a c := by
 rw [ziy]
 by_cases h0 : c = 0
 · subst h0
   rw [if_pos (by omega)]
   by_cases h : k = i /\ a = j
   · obtain ⟨rfl, rfl⟩ := h
     show zer std (za8 k k && za8 a a) (AV.str (zgm l (k, a) (k, a) ++ [120])) (AV.str (zgm l (k, a) (k, a))) = AV.str (zgm l (k, a + 1) (k, a))
     rw [za3, za3, zw3, show zgm l (k, a + 1) (k, a) = (zbq (za6 l k).rs a).h ++ [120] from by unfold zgm; rw [if_pos (by simp)]]
     rfl
   · rw [yk6 h]
     show AV.str (zgm l (i, j) (k, a)) = AV.str (zgm l (i, j + 1) (k, a))
     have := zp4 (l := l) (p := (i, j)) (p' := (i, j + 1)) (k := k) (a := a) (c := 0) (by decide) (by simp only; omega)
     exact this
 · rw [if_neg (by omega)]
   match c, hc, h0 with
   | 0, _, h => exact absurd rfl h
   | 1, _, _ => rfl
   | 2, _, _ => rfl
   | 3, _, _ => rfl
theorem yfz {l : List Cl} {i j k a c : Nat} (hc : c < 6) : ybs std i j 5 1 [AV.int .i64 (yey .i64 (zqc l (i, j) (i, j)) 1)] (epX std l (i, j)) k a c = epX std l (i, j + 1) k a c := by
 rw [ziy]
 by_cases h0 : c = 5
 · subst h0
   rw [if_pos (by omega)]
   by_cases h : k = i /\ a = j
   · obtain ⟨rfl, rfl⟩ := h
     show zer std (za8 k k && za8 a a) (AV.int .i64 (yey .i64 (zqc l (k, a) (k, a)) 1)) (AV.int .i64 (zqc l (k, a) (k, a))) = AV.int .i64 (zqc l (k, a + 1) (k, a))
     rw [za3, za3, yka, show zqc l (k, a + 1) (k, a) = yey .i64 (zc9 (zac l k).es a).w 1 from by unfold zqc; rw [if_pos (by simp)]]
     rfl
   · rw [yk6 h]
     show AV.int .i64 (zqc l (i, j) (k, a)) = AV.int .i64 (zqc l (i, j + 1) (k, a))
     have := zwc (l := l) (p := (i, j)) (p' := (i, j + 1)) (k := k) (a := a) (c := 5) (by decide) (by simp only; omega)
     exact this
 · rw [if_neg (by omega)]
   match c, hc, h0 with
   | 0, _, _ => rfl
   | 1, _, _ => rfl
   | 2, _, _ => rfl
   | 3, _, _ => rfl
   | 4, _, _ => rfl
   | 5, _, h => exact absurd rfl h
set_option maxHeartbeats 2000000 in
theorem yhr (y z : Cf) (hy : yer y) (hz : yer z) (s : List UInt8) : za5 Tryz.prog 3 [.agg ((List.range 3).map (cfC std y)), .agg ((List.range 3).map (cfC std z)), .str s] (.bool true) := by
 refine yel (T := tt) (S := fun L => zf6 [tru 5, prS 6 zdy zaf zcj yld L, ymk L, ymp L, zzl 9 zdy zaf zkh zis L, yt8 L, zzl 11 zdy zaf zkh rsP L] [yna L]) (lo := fun L => cnA L s y) (lb := noA) 5 (fn := Tryz.f3)
   (xs := fun L => [.agg [.int .u64 (L Cf.v y), .lst 7 (L zab (L Cf.ls y)) (fun i => lsC L (L (L za6 (L Cf.ls y)) i)), .lst 2 (L zab (L Cf.cs y)) (fun i => clC L (L (L zac (L Cf.cs y)) i))], .agg [.int .u64 (L Cf.v z), .lst 7 (L zab (L Cf.ls z)) (fun i => lsC L (L (L za6 (L Cf.ls z)) i)), .lst 2 (L zab (L Cf.cs z)) (fun i => clC L (L (L zac (L Cf.cs z)) i))], .str s])
   [(600100, .tab 52 4 0 (fun _ => 0) (fun _ _ _ => .dead)), (600101, .tab 54 6 0 (fun _ => 0) (fun _ _ _ => .dead))] (by kernel_rfl) rfl rfl (by kernel_rfl) (by kernel_rfl) rfl zad (zc1 ⟨zeu zz8, zy9, yhh, yhs, zyu, yke, yfm, trivial⟩ ⟨zz3, trivial⟩) (by kernel_rfl) ?_
 intro L P' Q' hL hP hQ
 have hG : ∀ y : Cf, L zaf (.agg [.int .u64 (L Cf.v y), .lst 7 (L zab (L Cf.ls y)) (fun i => lsC L (L (L za6 (L Cf.ls y)) i)), .lst 2 (L zab (L Cf.cs y)) (fun i => clC L (L (L zac (L Cf.cs y)) i))]) = y := by subst hL; exact fun y => (gK zdv y _ rfl).2
 have hO : ∀ y : Cf, L zdy (.agg [.int .u64 (L Cf.v y), .lst 7 (L zab (L Cf.ls y)) (fun i => lsC L (L (L za6 (L Cf.ls y)) i)), .lst 2 (L zab (L Cf.cs y)) (fun i => clC L (L (L zac (L Cf.cs y)) i))]) := by subst hL; exact fun y => (gK zdv y _ rfl).1
 (cbv; try simp only [syT, true_and, and_true])
 simp only [hG, hO, true_and]
 have e1 : zab y.ls = y.ls.length := rfl
 have e2 : zab y.cs = y.cs.length := rfl
 obtain ⟨n0, hn0⟩ : ∃ n, n = y.ls.length := ⟨_, rfl⟩
 obtain ⟨m0, hm0⟩ : ∃ n, n = y.cs.length := ⟨_, rfl⟩
 refine ⟨fun h => ?_, fun _ => ⟨?_, fun h => ?_, fun l1 => ⟨?_, fun h => ?_, fun l2 => ⟨fun h => ?_, fun l3 => ⟨?_, ?_, ⟨n0, ?_⟩, fun i hi => ?_⟩⟩⟩⟩⟩
 · (subst hL; subst hQ; simp only [L2, L3, std] at *; try simp only [syS, reduceCtorEq, Int.reduceToNat, Int.reduceAdd, Int.reduceSub] at *)
 · (subst hL; subst hQ; simp only [L2, L3, std] at *; try simp only [syS, reduceCtorEq, Int.reduceToNat, Int.reduceAdd, Int.reduceSub] at *)
   trivial
 · (subst hL; subst hQ; simp only [L2, L3, std] at *; try simp only [syS, reduceCtorEq, Int.reduceToNat, Int.reduceAdd, Int.reduceSub] at *)
 · (subst hL; subst hQ; simp only [L2, L3, std] at *; try simp only [syS, reduceCtorEq, Int.reduceToNat, Int.reduceAdd, Int.reduceSub] at *)
   trivial
 · (subst hL; subst hQ; simp only [L2, L3, std] at *; try simp only [syS, reduceCtorEq, Int.reduceToNat, Int.reduceAdd, Int.reduceSub] at *)
 · (subst hL; subst hQ; simp only [L2, L3, std] at *; try simp only [syS, reduceCtorEq, Int.reduceToNat, Int.reduceAdd, Int.reduceSub] at *)
 · (subst hL; subst hQ; simp only [L2, L3, std] at *; try simp only [syS, reduceCtorEq, Int.reduceToNat, Int.reduceAdd, Int.reduceSub] at *)
   have := zbr l1
   exact ⟨this.1, this.2.1⟩
 · (subst hL; subst hQ; simp only [L2, L3, std] at *; try simp only [syS, reduceCtorEq, Int.reduceToNat, Int.reduceAdd, Int.reduceSub] at *)
   have := zbr l1
   exact ⟨this.1, this.2.1⟩
 · (cbv; try simp only [syT, true_and, and_true])
   (subst hL; subst hQ; simp only [L2, L3, std] at *; try simp only [syS, reduceCtorEq, Int.reduceToNat, Int.reduceAdd, Int.reduceSub] at *)
   have z1 : y.ls.length <= 1000000 := (zbr l1).1
   subst hn0
   exact ⟨(yjq _ _).symm, by unfold zfb; omega, Nat.le_refl _⟩
 · have hi2 : yjk y.ls i := by
     have h := hi
     rw [hL] at h
     exact h
   clear hi
   (cbv; try simp only [syT, true_and, and_true])
   have hi3 : i <= y.ls.length := hi2
   obtain ⟨i', hi'⟩ : ∃ i', i' = i - 1 := ⟨_, rfl⟩
   refine ⟨fun g1 => ⟨?_, fun g2 => ⟨i', ?_⟩, fun g2 => ⟨i', ?_⟩⟩, fun g1 => ⟨⟨m0, ?_⟩, fun k hk => ?_⟩⟩
   · (subst hL; subst hQ; simp only [L2, L3, std] at *; try simp only [syS, reduceCtorEq, Int.reduceToNat, Int.reduceAdd, Int.reduceSub] at *)
     unfold zfb at *
     omega
   · (cbv; try simp only [syT, true_and, and_true])
     (subst hL; subst hQ; simp only [L2, L3, std] at *; try simp only [syS, reduceCtorEq, Int.reduceToNat, Int.reduceAdd, Int.reduceSub] at *)
     have z1 : y.ls.length <= 1000000 := (zbr l1).1
     have hi0 : i = i' + 1 := by unfold zfb at g1; omega
     subst hi0
     rw [zl3] at g2
     rw [yid (by omega) g2]
     unfold zfb
     exact ⟨by omega, by omega, by show i' <= y.ls.length; omega, by omega⟩
   · (cbv; try simp only [syT, true_and, and_true])
     (subst hL; subst hQ; simp only [L2, L3, std] at *; try simp only [syS, reduceCtorEq, Int.reduceToNat, Int.reduceAdd, Int.reduceSub] at *)
     have z1 : y.ls.length <= 1000000 := (zbr l1).1
     have hi0 : i = i' + 1 := by unfold zfb at g1; omega
     subst hi0
     rw [zl3] at g2
     rw [yo2 (by omega) g2]
     unfold zfb
     exact ⟨rfl, by omega, by show i' <= y.ls.length; omega, by omega⟩
   · (cbv; try simp only [syT, true_and, and_true])
     (subst hL; subst hQ; simp only [L2, L3, std] at *; try simp only [syS, reduceCtorEq, Int.reduceToNat, Int.reduceAdd, Int.reduceSub] at *)
     have z2 : y.cs.length <= 1000000 := (zbr l1).2.1
     subst hm0
     exact ⟨(yjq _ _).symm, by unfold zfb; omega, Nat.le_refl _⟩
   · have hk2 : yjl y.cs k := by
       have h := hk
       rw [hL] at h
       exact h
     clear hk
     (cbv; try simp only [syT, true_and, and_true])
     have hk3 : k <= y.cs.length := hk2
     obtain ⟨k', hk'⟩ : ∃ k', k' = k - 1 := ⟨_, rfl⟩
     refine ⟨fun g3 => ⟨?_, fun g2 => ⟨k', ?_⟩, fun g2 => ⟨k', ?_⟩⟩, fun g3 => ?_⟩
     · (subst hL; subst hQ; simp only [L2, L3, std] at *; try simp only [syS, reduceCtorEq, Int.reduceToNat, Int.reduceAdd, Int.reduceSub] at *)
       unfold zfb at *
       omega
     · (cbv; try simp only [syT, true_and, and_true])
       (subst hL; subst hQ; simp only [L2, L3, std] at *; try simp only [syS, reduceCtorEq, Int.reduceToNat, Int.reduceAdd, Int.reduceSub] at *)
       have z1 : y.cs.length <= 1000000 := (zbr l1).2.1
       have hi0 : k = k' + 1 := by unfold zfb at g3; omega
       subst hi0
       rw [zl3] at g2
       rw [yie (by omega) g2]
       unfold zfb
       exact ⟨by omega, by omega, by show k' <= y.cs.length; omega, by omega⟩
     · (cbv; try simp only [syT, true_and, and_true])
       (subst hL; subst hQ; simp only [L2, L3, std] at *; try simp only [syS, reduceCtorEq, Int.reduceToNat, Int.reduceAdd, Int.reduceSub] at *)
       have z1 : y.cs.length <= 1000000 := (zbr l1).2.1
       have hi0 : k = k' + 1 := by unfold zfb at g3; omega
       subst hi0
       rw [zl3] at g2
       rw [yo4 (by omega) g2]
       unfold zfb
       exact ⟨rfl, by omega, by show k' <= y.cs.length; omega, by omega⟩
     · simp only [hG, hO, true_and]
       have hi0 : i = 0 := by
         have g := g1
         rw [hL] at g
         have g : ¬ 0 <= zfb i := of_decide_eq_false g
         unfold zfb at g
         omega
       have hk0 : k = 0 := by
         have g := g3
         rw [hL] at g
         have g : ¬ 0 <= zfb k := of_decide_eq_false g
         unfold zfb at g
         omega
       subst hi0
       subst hk0
       have yl : zcj y = true := by
         have g := l1
         rw [hL] at g
         simpa [std] using g
       have zl : zcj z = true := by
         have g := l2
         rw [hL] at g
         simpa [std] using g
       have hb : ∀ b : Bool, ¬ yva b b = false := fun b => by cases b <;> decide
       have yf := zbr yl
       have zf := zbr zl
       refine ⟨fun h => ?g1, fun a1 => ⟨fun h => ?g2, fun a2 => ⟨fun ok1 => ⟨?g3, ⟨?g4, ?g5, ?g6, ?g7⟩, fun h => ?g8, fun _ => ⟨fun ok2 => ⟨?g9, ⟨?g10, ?g11, ?g12, ?g13⟩, fun h => ?g14, fun _ => ?r1⟩, fun nok2 => ?r2⟩⟩, fun nok1 => ⟨fun ok2 => ⟨?g15, ⟨?g16, ?g17, ?g18, ?g19⟩, fun h => ?g20, fun _ => ?r3⟩, fun nok2 => ?r4⟩⟩⟩⟩
       case g1 =>
         (subst hL; subst hQ; simp only [L2, L3, std] at *; try simp only [syS, reduceCtorEq, Int.reduceToNat, Int.reduceAdd, Int.reduceSub] at *)
         rw [zn1, show yr0 s y.ls = ile 0 (znb s y.ls) from rfl] at h
         exact hb _ h
       case g2 =>
         (subst hL; subst hQ; simp only [L2, L3, std] at *; try simp only [syS, reduceCtorEq, Int.reduceToNat, Int.reduceAdd, Int.reduceSub] at *)
         rw [zfm, show yr2 s y.cs = ile 0 (zht s y.cs) from rfl] at h
         exact hb _ h
       case g3 =>
         (subst hL; subst hQ; simp only [L2, L3, std] at *; try simp only [syS, reduceCtorEq, Int.reduceToNat, Int.reduceAdd, Int.reduceSub] at *)
         simp only [zn1] at *
         have h0 : 0 <= znb s y.ls := of_decide_eq_true ok1
         have h1 : znb s y.ls < y.ls.length := (zbd (zy1 s) y.ls).2
         have h2 : y.ls.length <= 1000000 := yf.1
         exact ⟨h0, by omega, by omega⟩
       case g4 =>
         (subst hL; subst hQ; simp only [L2, L3, std] at *; try simp only [syS, reduceCtorEq, Int.reduceToNat, Int.reduceAdd, Int.reduceSub] at *)
         simp only [zn1] at *
         have h0 : 0 <= znb s y.ls := of_decide_eq_true ok1
         have h1 : znb s y.ls < y.ls.length := (zbd (zy1 s) y.ls).2
         have h2 : y.ls.length <= 1000000 := yf.1
         exact (zmu (x := zym s y.ls) rfl (fun j hj => zts _ j hj)).1
       case g5 =>
         (subst hL; subst hQ; simp only [L2, L3, std] at *; try simp only [syS, reduceCtorEq, Int.reduceToNat, Int.reduceAdd, Int.reduceSub] at *)
         simp only [zn1] at *
         have h0 : 0 <= znb s y.ls := of_decide_eq_true ok1
         have h1 : znb s y.ls < y.ls.length := (zbd (zy1 s) y.ls).2
         have h2 : y.ls.length <= 1000000 := yf.1
         exact (zmu (x := zym s y.ls) (zjk h0 (by omega)) (fun j hj => by rw [ycy h0])).1
       case g6 =>
         (subst hL; subst hQ; simp only [L2, L3, std] at *; try simp only [syS, reduceCtorEq, Int.reduceToNat, Int.reduceAdd, Int.reduceSub] at *)
         simp only [zn1] at *
         have h0 : 0 <= znb s y.ls := of_decide_eq_true ok1
         have h1 : znb s y.ls < y.ls.length := (zbd (zy1 s) y.ls).2
         have h2 : y.ls.length <= 1000000 := yf.1
         exact zqs (x := zym s y.ls) rfl (fun j hj => zts _ j hj) (ycx yf)
       case g7 =>
         (subst hL; subst hQ; simp only [L2, L3, std] at *; try simp only [syS, reduceCtorEq, Int.reduceToNat, Int.reduceAdd, Int.reduceSub] at *)
         simp only [zn1] at *
         have h0 : 0 <= znb s y.ls := of_decide_eq_true ok1
         have h1 : znb s y.ls < y.ls.length := (zbd (zy1 s) y.ls).2
         have h2 : y.ls.length <= 1000000 := yf.1
         exact zqs (x := zym s y.ls) (zjk h0 (by omega)) (fun j hj => by rw [ycy h0]) (ycx yf)
       case g8 =>
         (subst hL; subst hQ; simp only [L2, L3, std] at *; try simp only [syS, reduceCtorEq, Int.reduceToNat, Int.reduceAdd, Int.reduceSub] at *)
         simp only [zn1] at *
         have h0 : 0 <= znb s y.ls := of_decide_eq_true ok1
         have h1 : znb s y.ls < y.ls.length := (zbd (zy1 s) y.ls).2
         have h2 : y.ls.length <= 1000000 := yf.1
         exact absurd (h.symm.trans (yhu (x := zym s y.ls) rfl (fun j hj => zts _ j hj) (zjk h0 (by omega)) (fun j hj => by rw [ycy h0]))) (by decide)
       case g9 =>
         (subst hL; subst hQ; simp only [L2, L3, std] at *; try simp only [syS, reduceCtorEq, Int.reduceToNat, Int.reduceAdd, Int.reduceSub] at *)
         simp only [zfm] at *
         have h0 : 0 <= zht s y.cs := of_decide_eq_true ok2
         have h1 : zht s y.cs < y.cs.length := (zbd (zpk s) y.cs).2
         have h2 : y.cs.length <= 1000000 := yf.2.1
         exact ⟨h0, by omega, by omega⟩
       case g10 =>
         (subst hL; subst hQ; simp only [L2, L3, std] at *; try simp only [syS, reduceCtorEq, Int.reduceToNat, Int.reduceAdd, Int.reduceSub] at *)
         simp only [zfm] at *
         have h0 : 0 <= zht s y.cs := of_decide_eq_true ok2
         have h1 : zht s y.cs < y.cs.length := (zbd (zpk s) y.cs).2
         have h2 : y.cs.length <= 1000000 := yf.2.1
         exact (zig (x := zqf s y.cs) rfl (fun j hj => zka _ j hj)).1
       case g11 =>
         (subst hL; subst hQ; simp only [L2, L3, std] at *; try simp only [syS, reduceCtorEq, Int.reduceToNat, Int.reduceAdd, Int.reduceSub] at *)
         simp only [zfm] at *
         have h0 : 0 <= zht s y.cs := of_decide_eq_true ok2
         have h1 : zht s y.cs < y.cs.length := (zbd (zpk s) y.cs).2
         have h2 : y.cs.length <= 1000000 := yf.2.1
         exact (zig (x := zqf s y.cs) (zjk h0 (by omega)) (fun j hj => by rw [zof h0])).1
       case g12 =>
         (subst hL; subst hQ; simp only [L2, L3, std] at *; try simp only [syS, reduceCtorEq, Int.reduceToNat, Int.reduceAdd, Int.reduceSub] at *)
         simp only [zfm] at *
         have h0 : 0 <= zht s y.cs := of_decide_eq_true ok2
         have h1 : zht s y.cs < y.cs.length := (zbd (zpk s) y.cs).2
         have h2 : y.cs.length <= 1000000 := yf.2.1
         exact zir (x := zqf s y.cs) rfl (fun j hj => zka _ j hj) (zq0 yf)
       case g13 =>
         (subst hL; subst hQ; simp only [L2, L3, std] at *; try simp only [syS, reduceCtorEq, Int.reduceToNat, Int.reduceAdd, Int.reduceSub] at *)
         simp only [zfm] at *
         have h0 : 0 <= zht s y.cs := of_decide_eq_true ok2
         have h1 : zht s y.cs < y.cs.length := (zbd (zpk s) y.cs).2
         have h2 : y.cs.length <= 1000000 := yf.2.1
         exact zir (x := zqf s y.cs) (zjk h0 (by omega)) (fun j hj => by rw [zof h0]) (zq0 yf)
       case g14 =>
         (subst hL; subst hQ; simp only [L2, L3, std] at *; try simp only [syS, reduceCtorEq, Int.reduceToNat, Int.reduceAdd, Int.reduceSub] at *)
         simp only [zfm] at *
         have h0 : 0 <= zht s y.cs := of_decide_eq_true ok2
         have h1 : zht s y.cs < y.cs.length := (zbd (zpk s) y.cs).2
         have h2 : y.cs.length <= 1000000 := yf.2.1
         exact absurd (h.symm.trans (zw8 (x := zqf s y.cs) rfl (fun j hj => zka _ j hj) (zjk h0 (by omega)) (fun j hj => by rw [zof h0]))) (by decide)
       case g15 =>
         (subst hL; subst hQ; simp only [L2, L3, std] at *; try simp only [syS, reduceCtorEq, Int.reduceToNat, Int.reduceAdd, Int.reduceSub] at *)
         simp only [zfm] at *
         have h0 : 0 <= zht s y.cs := of_decide_eq_true ok2
         have h1 : zht s y.cs < y.cs.length := (zbd (zpk s) y.cs).2
         have h2 : y.cs.length <= 1000000 := yf.2.1
         exact ⟨h0, by omega, by omega⟩
       case g16 =>
         (subst hL; subst hQ; simp only [L2, L3, std] at *; try simp only [syS, reduceCtorEq, Int.reduceToNat, Int.reduceAdd, Int.reduceSub] at *)
         simp only [zfm] at *
         have h0 : 0 <= zht s y.cs := of_decide_eq_true ok2
         have h1 : zht s y.cs < y.cs.length := (zbd (zpk s) y.cs).2
         have h2 : y.cs.length <= 1000000 := yf.2.1
         exact (zig (x := zqf s y.cs) rfl (fun j hj => zka _ j hj)).1
       case g17 =>
         (subst hL; subst hQ; simp only [L2, L3, std] at *; try simp only [syS, reduceCtorEq, Int.reduceToNat, Int.reduceAdd, Int.reduceSub] at *)
         simp only [zfm] at *
         have h0 : 0 <= zht s y.cs := of_decide_eq_true ok2
         have h1 : zht s y.cs < y.cs.length := (zbd (zpk s) y.cs).2
         have h2 : y.cs.length <= 1000000 := yf.2.1
         exact (zig (x := zqf s y.cs) (zjk h0 (by omega)) (fun j hj => by rw [zof h0])).1
       case g18 =>
         (subst hL; subst hQ; simp only [L2, L3, std] at *; try simp only [syS, reduceCtorEq, Int.reduceToNat, Int.reduceAdd, Int.reduceSub] at *)
         simp only [zfm] at *
         have h0 : 0 <= zht s y.cs := of_decide_eq_true ok2
         have h1 : zht s y.cs < y.cs.length := (zbd (zpk s) y.cs).2
         have h2 : y.cs.length <= 1000000 := yf.2.1
         exact zir (x := zqf s y.cs) rfl (fun j hj => zka _ j hj) (zq0 yf)
       case g19 =>
         (subst hL; subst hQ; simp only [L2, L3, std] at *; try simp only [syS, reduceCtorEq, Int.reduceToNat, Int.reduceAdd, Int.reduceSub] at *)
         simp only [zfm] at *
         have h0 : 0 <= zht s y.cs := of_decide_eq_true ok2
         have h1 : zht s y.cs < y.cs.length := (zbd (zpk s) y.cs).2
         have h2 : y.cs.length <= 1000000 := yf.2.1
         exact zir (x := zqf s y.cs) (zjk h0 (by omega)) (fun j hj => by rw [zof h0]) (zq0 yf)
       case g20 =>
         (subst hL; subst hQ; simp only [L2, L3, std] at *; try simp only [syS, reduceCtorEq, Int.reduceToNat, Int.reduceAdd, Int.reduceSub] at *)
         simp only [zfm] at *
         have h0 : 0 <= zht s y.cs := of_decide_eq_true ok2
         have h1 : zht s y.cs < y.cs.length := (zbd (zpk s) y.cs).2
         have h2 : y.cs.length <= 1000000 := yf.2.1
         exact absurd (h.symm.trans (zw8 (x := zqf s y.cs) rfl (fun j hj => zka _ j hj) (zjk h0 (by omega)) (fun j hj => by rw [zof h0]))) (by decide)
       all_goals
         refine ⟨Nat.zero_le _, Nat.zero_le _, ⟨fun _ _ => trivial, fun _ _ _ _ _ _ => trivial⟩, ⟨fun _ _ => trivial, fun _ _ _ _ _ _ => trivial⟩, fun _ _ _ _ => trivial, fun _ _ _ _ => trivial, ?_, ⟨?_, ?_, ?_⟩, fun h => ?_, fun _ => ⟨⟨?_, ?_⟩, ?_, ?_, ⟨?_, ?_⟩, fun h => ?_, fun _ => ⟨?_, ⟨0, ?_⟩, fun i hi => ?_⟩⟩⟩
         · (subst hL; subst hQ; simp only [L2, L3, std] at *; try simp only [syS, reduceCtorEq, Int.reduceToNat, Int.reduceAdd, Int.reduceSub] at *)
           exact yf
         · (subst hL; subst hQ; simp only [L2, L3, std] at *; try simp only [syS, reduceCtorEq, Int.reduceToNat, Int.reduceAdd, Int.reduceSub] at *)
           refine yq4 ?_ ?_ <;> rfl
         · (subst hL; subst hQ; simp only [L2, L3, std] at *; try simp only [syS, reduceCtorEq, Int.reduceToNat, Int.reduceAdd, Int.reduceSub] at *)
           refine yfk (zhm yl) ?_ ?_ <;> rfl
         · (subst hL; subst hQ; simp only [L2, L3, std] at *; try simp only [syS, reduceCtorEq, Int.reduceToNat, Int.reduceAdd, Int.reduceSub] at *)
           exact zhm yl
         · (subst hL; subst hQ; simp only [L2, L3, std] at *; try simp only [syS, reduceCtorEq, Int.reduceToNat, Int.reduceAdd, Int.reduceSub] at *)
           refine ymx h ?_ ?_ <;> rfl
         · (subst hL; subst hQ; simp only [L2, L3, std] at *; try simp only [syS, reduceCtorEq, Int.reduceToNat, Int.reduceAdd, Int.reduceSub] at *)
           exact zhm yl
         · (subst hL; subst hQ; simp only [L2, L3, std] at *; try simp only [syS, reduceCtorEq, Int.reduceToNat, Int.reduceAdd, Int.reduceSub] at *)
           exact zhm zl
         · (subst hL; subst hQ; simp only [L2, L3, std] at *; try simp only [syS, reduceCtorEq, Int.reduceToNat, Int.reduceAdd, Int.reduceSub] at *)
           exact yf
         · (subst hL; subst hQ; simp only [L2, L3, std] at *; try simp only [syS, reduceCtorEq, Int.reduceToNat, Int.reduceAdd, Int.reduceSub] at *)
           exact zf
         · (subst hL; subst hQ; simp only [L2, L3, std] at *; try simp only [syS, reduceCtorEq, Int.reduceToNat, Int.reduceAdd, Int.reduceSub] at *)
           exact ⟨yl, hy⟩
         · (subst hL; subst hQ; simp only [L2, L3, std] at *; try simp only [syS, reduceCtorEq, Int.reduceToNat, Int.reduceAdd, Int.reduceSub] at *)
           exact ⟨zl, hz⟩
         · (subst hL; subst hQ; simp only [L2, L3, std] at *; try simp only [syS, reduceCtorEq, Int.reduceToNat, Int.reduceAdd, Int.reduceSub] at *)
           exact hb _ h
         · (subst hL; subst hQ; simp only [L2, L3, std] at *; try simp only [syS, reduceCtorEq, Int.reduceToNat, Int.reduceAdd, Int.reduceSub] at *)
           exact yf
         · (cbv; try simp only [syT, true_and, and_true])
           (subst hL; subst hQ; simp only [L2, L3, std] at *; try simp only [syS, reduceCtorEq, Int.reduceToNat, Int.reduceAdd, Int.reduceSub] at *)
           exact ⟨Nat.le_refl _, Nat.le_refl _, Nat.zero_le _, Nat.zero_le _, fun k a j _ _ hj => yuu _ _ _ _ hj, fun k a j _ _ hj => ytp _ _ _ _ hj, Nat.zero_le _⟩
         · have hi2 : yjk y.ls i := by
             have h := hi
             rw [hL] at h
             exact h
           clear hi
           clear a1 a2
           (cbv; try simp only [syT, true_and, and_true])
           refine ⟨fun hlt => ⟨?_, ⟨0, ?_⟩, fun j hj => ?_⟩, fun hge => ?_⟩
           · (subst hL; subst hQ; simp only [L2, L3, std] at *; try simp only [syS, reduceCtorEq, Int.reduceToNat, Int.reduceAdd, Int.reduceSub] at *)
             omega
           · (cbv; try simp only [syT, true_and, and_true])
             (subst hL; subst hQ; simp only [L2, L3, std] at *; try simp only [syS, reduceCtorEq, Int.reduceToNat, Int.reduceAdd, Int.reduceSub] at *)
             exact ⟨Nat.le_refl _, Nat.le_refl _, Nat.zero_le _⟩
           · have hj2 : yqv (za6 y.ls i).rs j := by
               have h := hj
               rw [hL] at h
               have h : yqv (za6 y.ls (Nat.add 0 (Int.toNat (zbh i)))).rs j := h
               rw [ylm, ztm, Int.toNat_natCast] at h
               exact h
             clear hj
             (cbv; try simp only [syT, true_and, and_true])
             refine ⟨fun hlt2 => ⟨?_, ?_, ?_, ?_, ⟨j + 1, ?_⟩⟩, fun hge2 => ⟨i + 1, ?_⟩⟩
             · (subst hL; subst hQ; simp only [L2, L3, std] at *; try simp only [syS, reduceCtorEq, Int.reduceToNat, Int.reduceAdd, Int.reduceSub] at *)
               omega
             · (subst hL; subst hQ; simp only [L2, L3, std] at *; try simp only [syS, reduceCtorEq, Int.reduceToNat, Int.reduceAdd, Int.reduceSub] at *)
               omega
             · (subst hL; subst hQ; simp only [L2, L3, std] at *; try simp only [syS, reduceCtorEq, Int.reduceToNat, Int.reduceAdd, Int.reduceSub] at *)
               rw [zw3]
               have := zy8 yl (i := i) (j := j) (by omega) (by have e : zab (za6 y.ls i).rs = (za6 y.ls i).rs.length := rfl; omega)
               have e120 : ([120] : List UInt8).length = 1 := rfl
               omega
             · (subst hL; subst hQ; simp only [L2, L3, std] at *; try simp only [syS, reduceCtorEq, Int.reduceToNat, Int.reduceAdd, Int.reduceSub] at *)
               omega
             · (cbv; try simp only [syT, true_and, and_true])
               (subst hL; subst hQ; simp only [L2, L3, std] at *; try simp only [syS, reduceCtorEq, Int.reduceToNat, Int.reduceAdd, Int.reduceSub] at *)
               have er : zab (za6 y.ls i).rs = (za6 y.ls i).rs.length := rfl
               have hj3 : j <= (za6 y.ls i).rs.length := hj2
               refine ⟨Nat.le_refl _, Nat.le_refl _, Nat.le_refl _, fun k a c _ _ hc => yfx hc, ?_, ?_, ?_⟩
               · have := zi4 yf (i := i) (by omega)
                 omega
               · show j + 1 <= (za6 y.ls i).rs.length
                 omega
               · show (za6 y.ls i).rs.length - (j + 1) + 1 <= (za6 y.ls i).rs.length - j
                 omega
             · (cbv; try simp only [syT, true_and, and_true])
               (subst hL; subst hQ; simp only [L2, L3, std] at *; try simp only [syS, reduceCtorEq, Int.reduceToNat, Int.reduceAdd, Int.reduceSub] at *)
               have er : ∀ k, zab (za6 y.ls k).rs = (za6 y.ls k).rs.length := fun _ => rfl
               have := er i
               have z1 : y.ls.length <= 1000000 := yf.1
               refine ⟨Nat.le_refl _, Nat.le_refl _, fun k a c hk ha hc => zp4 hc (by simp only; constructor <;> intro h <;> (by_cases hki : k = i <;> (try subst hki) <;> omega)), ?_, ?_, ?_⟩
               · omega
               · show i + 1 <= y.ls.length
                 omega
               · show y.ls.length - (i + 1) + 1 <= y.ls.length - i
                 omega
           · refine ⟨⟨0, ?_⟩, fun k hk => ?_⟩
             · (cbv; try simp only [syT, true_and, and_true])
               (subst hL; subst hQ; simp only [L2, L3, std] at *; try simp only [syS, reduceCtorEq, Int.reduceToNat, Int.reduceAdd, Int.reduceSub] at *)
               exact ⟨Nat.le_refl _, Nat.le_refl _, fun k a c hk ha hc => zp4 hc (by simp only; omega), Nat.zero_le _⟩
             · have hk4 : yjl y.cs k := by
                 have h := hk
                 rw [hL] at h
                 exact h
               clear hk
               (cbv; try simp only [syT, true_and, and_true])
               refine ⟨fun hlt => ⟨?_, ⟨0, ?_⟩, fun j hj => ?_⟩, fun hge => ?_⟩
               · (subst hL; subst hQ; simp only [L2, L3, std] at *; try simp only [syS, reduceCtorEq, Int.reduceToNat, Int.reduceAdd, Int.reduceSub] at *)
                 omega
               · (cbv; try simp only [syT, true_and, and_true])
                 (subst hL; subst hQ; simp only [L2, L3, std] at *; try simp only [syS, reduceCtorEq, Int.reduceToNat, Int.reduceAdd, Int.reduceSub] at *)
                 exact ⟨Nat.le_refl _, Nat.le_refl _, Nat.zero_le _⟩
               · have hj2 : yqw (zac y.cs k).es j := by
                   have h := hj
                   rw [hL] at h
                   have h : yqw (zac y.cs (Nat.add 0 (Int.toNat (zbh k)))).es j := h
                   rw [ylm, ztm, Int.toNat_natCast] at h
                   exact h
                 clear hj
                 (cbv; try simp only [syT, true_and, and_true])
                 refine ⟨fun hlt2 => ⟨?_, ?_, ?_, ⟨j + 1, ?_⟩⟩, fun hge2 => ⟨k + 1, ?_⟩⟩
                 · (subst hL; subst hQ; simp only [L2, L3, std] at *; try simp only [syS, reduceCtorEq, Int.reduceToNat, Int.reduceAdd, Int.reduceSub] at *)
                   omega
                 · (subst hL; subst hQ; simp only [L2, L3, std] at *; try simp only [syS, reduceCtorEq, Int.reduceToNat, Int.reduceAdd, Int.reduceSub] at *)
                   omega
                 · (subst hL; subst hQ; simp only [L2, L3, std] at *; try simp only [syS, reduceCtorEq, Int.reduceToNat, Int.reduceAdd, Int.reduceSub] at *)
                   omega
                 · (cbv; try simp only [syT, true_and, and_true])
                   (subst hL; subst hQ; simp only [L2, L3, std] at *; try simp only [syS, reduceCtorEq, Int.reduceToNat, Int.reduceAdd, Int.reduceSub] at *)
                   have er : zab (zac y.cs k).es = (zac y.cs k).es.length := rfl
                   have hj3 : j <= (zac y.cs k).es.length := hj2
                   refine ⟨Nat.le_refl _, Nat.le_refl _, Nat.le_refl _, fun k a c _ _ hc => yfz hc, ?_, ?_, ?_⟩
                   · have := zi5 yf (i := k) (by omega)
                     omega
                   · show j + 1 <= (zac y.cs k).es.length
                     omega
                   · show (zac y.cs k).es.length - (j + 1) + 1 <= (zac y.cs k).es.length - j
                     omega
                 · (cbv; try simp only [syT, true_and, and_true])
                   (subst hL; subst hQ; simp only [L2, L3, std] at *; try simp only [syS, reduceCtorEq, Int.reduceToNat, Int.reduceAdd, Int.reduceSub] at *)
                   have er : ∀ k, zab (zac y.cs k).es = (zac y.cs k).es.length := fun _ => rfl
                   have := er k
                   have z1 : y.cs.length <= 1000000 := yf.2.1
                   refine ⟨Nat.le_refl _, Nat.le_refl _, fun q a c hq ha hc => zwc hc (by simp only; constructor <;> intro h <;> (by_cases hki : q = k <;> (try subst hki) <;> omega)), ?_, ?_, ?_⟩
                   · omega
                   · show k + 1 <= y.cs.length
                     omega
                   · show y.cs.length - (k + 1) + 1 <= y.cs.length - k
                     omega
               · simp only [hG, hO, true_and]
                 (subst hL; subst hQ; simp only [L2, L3, std] at *; try simp only [syS, reduceCtorEq, Int.reduceToNat, Int.reduceAdd, Int.reduceSub] at *)
                 exact ⟨yf, ⟨⟨yl, hy⟩, ⟨yl, hy⟩⟩, yht rfl⟩
theorem law_ConfigFinds (y : Cf) (hy : yer y) (z : Cf) (hz : yer z) (s : List UInt8) (hs : s.length <= maxLen) : za5 Tryz.prog 3 [.agg ((List.range 3).map (cfC std y)), .agg ((List.range 3).map (cfC std z)), .str s] (.bool true) := yhr y z hy hz s
end Sy
end Go.Proofs.YtfonekpmkdkgnaaGreatDoor
namespace Go.Proofs.YtfonekpmkdkgnaaGreatDoor
namespace Sy
open Go
set_option linter.unusedVariables false
theorem ztt {P : Program} {w : World} {n : String} {d : DataW Unit} : ∀ {l : List (String × DataW Unit)} {ps : List MemPlace}, DataW.LaidVars P w l ps -> (n, d) ∈ l ->
   ∃ g t cs fuel p, P.globalNamed n = some g /\ (P.globals[g]?).map (·.type) = some t /\ w.var? P n = some cs /\ DataW.trod (fun _ => ()) P w 0 (fun _ => true) false fuel t cs.toList = some (d, p)
 | x :: r, ps, h, hm => by
   obtain ⟨n', d'⟩ := x
   obtain ⟨g, t, cs, fuel, p, q, h1, h2, h3, h4, h5, _⟩ := h
   rcases List.mem_cons.1 hm with e | hm
   · cases e
     exact ⟨g, t, cs, fuel, p, h1, h2, h3, h4⟩
   · exact ztt h5 hm
theorem laid_tab {P : Program} {w : World} {name : String} {k : IntKind} {zs : List Int} {l : List (String × DataW Unit)} (h : laidMet P l w) (hm : (name, Lib.tabData k zs) ∈ l) {g : Nat} {t e : TypeId} {n : Nat}
   (hg : P.globalNamed name = some g) (hty : (P.globals[g]?).map (·.type) = some t) (ht : P.underlying t = some (.array n e)) (he : P.underlying e = some (.int k)) (hce : P.cellsOf e = 1) (hct : P.cellsOf t = n) : Lib.TabIs P w name k zs := by
 obtain ⟨ps, hv, _⟩ := h
 obtain ⟨g', t', cs, fuel, p, hg', ht', hvar, hd⟩ := ztt hv hm
 obtain rfl := Option.some.inj (hg.symm.trans hg')
 obtain rfl := Option.some.inj (hty.symm.trans ht')
 unfold Lib.TabIs
 rw [hvar, <- Lib.cells_of_tab ht he hce hct hd]
theorem laid_ifc {P : Program} {w : World} {name nm : String} {d : DataW Unit} {l : List (String × DataW Unit)} (h : laidMet P l w) (hm : (name, .iface nm d) ∈ l) {g : Nat} {t : TypeId} {ms : Array (String × TypeId)}
   (hg : P.globalNamed name = some g) (hty : (P.globals[g]?).map (·.type) = some t) (ht : P.underlying t = some (.interface ms)) : ∃ te pe, w.var? P name = some #[.iface te pe] := by
 obtain ⟨ps, hv, _⟩ := h
 obtain ⟨g', t', cs, fuel, p, hg', ht', hvar, hd⟩ := ztt hv hm
 obtain rfl := Option.some.inj (hg.symm.trans hg')
 obtain rfl := Option.some.inj (hty.symm.trans ht')
 obtain ⟨f2, u, v, e, _, _⟩ := iface_of_trod ht hd
 refine ⟨u, v, ?_⟩
 rw [hvar]
 obtain ⟨l0⟩ := cs
 have e : l0 = [.iface u v] := e
 rw [e]
theorem max_is {w : World} (h : w.ShapedOpen Tryz.prog) (hm : ∀ g, Tryz.prog.globalNamed "internal/bytealg.MaxLen" = some g -> ∃ zero t, g < Tryz.prog.globals.size /\ ((begin Tryz.prog (fun _ _ => 0) default).world.heap[g]?).bind Obj.row? = some (zero, t) /\ zero.size = 1 /\ Tryz.prog.buildable t = true /\ Tryz.prog.cellTypes Tryz.prog.depth t = some [t] /\ Tryz.prog.underlying t = some (.int .i64)) : yep w := by
 intro g hg
 obtain ⟨zero, t, h1, h2, h3, h4, h5, h6⟩ := hm g hg
 exact Go.Proofs.cell_of_shapedOpen_int h h1 h2 h3 h4 h5 h6
theorem returns_and_shaped {H : Type} {enc : TypeId × Value -> H} {a : Assume} {C : Checked} {os : Os} {f : FuncId} {fn : Func} {s : ChangeSpec} {conds : List PathCond} {apart fresh handsOn again : Bool} {X : World -> Array Value -> Prop}
   (hX : ∀ (w w' : World) (args : Array Value), w.heap = w'.heap -> X w args -> X w' args)
   (own : ownKnob C.prog.godebug = none) (started : os.Started) (noInit : C.prog.inits.idxOf? f = none) (hfn : C.prog.funcs[f]? = some fn)
   (witness : ∃ (w : World) (tape : Tape) (i : Input), w.os = os /\ (w.forCall tape i).Shaped C.prog /\ i.vars = [] /\ Input.okWide C.prog (w.forCall tape i) .any w.heap.size f i /\
     ((s.pre enc C.prog fn conds apart (w.forCall tape i).memory i.args /\ X (w.forCall tape i).memory i.args) /\ sizedMet enc C.prog fn (OpenSpec.ofChange s) apart (w.forCall tape i).memory i.args) /\ a.holds C.prog (lone (Frame.enter C.prog f i.args .normal) [] (w.forCall tape i)))
   (contract : ∀ (W : World) (base : Nat) (args : Array Value) (ds gs : List (DataW H)) (before : List MemPlace),
     (∀ (j : Nat) t v, fn.params[j]? = some t -> args[j]? = some v -> Value.okWide C.prog W .any base t v) ->
     DataW.Whole enc C.prog fn.params.toList s.vars apart W args.toList ds gs before ->
     conds.all (PathCond.test C.prog ⟨fn.params.toList, ds, s.plain.varTypes C.prog, gs⟩) = true ->
     (DataW.weightsEach C.prog (fn.params.toList ++ s.plain.varTypes C.prog) (ds ++ gs)).all (· <= reachBytes) = true -> X W args -> W.ShapedOpen C.prog ->
     a.holds C.prog (lone (Frame.enter C.prog f args .normal) [] W) ->
     Calls C.prog f args W fun e W' => ∃ v, e = .returned v /\ s.post enc C.prog fn apart fresh handsOn again W args v W') :
   ReturnsInHanded a C os f .any (fun w args => (s.pre enc C.prog fn conds apart w args /\ X w args) /\ sizedMet enc C.prog fn (OpenSpec.ofChange s) apart w args) (s.post enc C.prog fn apart fresh handsOn again) := by
 refine returnsInHanded_of_calls own started noInit witness ?_
 intro w tape i _ hsh _ hok hpre hholds
 obtain ⟨_, _, _, fn', hfn', _, _, _, _, hval⟩ := hok
 have e : fn' = fn := Option.some.inj (hfn'.symm.trans hfn)
 subst e
 obtain ⟨⟨⟨ds, gs, before, hw, hc⟩, hx⟩, hz⟩ := hpre
 have hw' := DataW.Whole.of_heap (w' := w.forCall tape i) (by rfl) hw
 refine (contract (w.forCall tape i) w.heap.size i.args ds gs before hval hw' hc (hz.weights hw) (hX _ _ _ (by rfl) hx) hsh hholds).mono fun e W' ⟨v, he, hp⟩ => ?_
 subst he
 exact ChangeSpec.post_blind hp
end Sy
end Go.Proofs.YtfonekpmkdkgnaaGreatDoor
