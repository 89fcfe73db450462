/-Chapter 9 (config): how many; weights. Chapter 9 (config), plain: how long the writing of a config may be; it says what the config was. Chapter 9 (config): a config's bytes; whether it is light; and what stands between these and the texts behind.-/
import Derived.Test.YthppjaoicibeiaaGreatDoorM4
import Derived.Lib.Overlaps
import Derived.Test.YthppjaoicibeiaaGreatDoorM1
import Derived.ProofKit
import Derived.OpenShut
import Derived.LaidMore
import Derived.Lay
import Derived.Stop.Joined
import Derived.Lib.LaidTab
import Derived.Handed
import Derived.Shelf.Vars
namespace Go.Proofs.YthppjaoicibeiaaGreatDoor
namespace Sy
open Go Go.RowKit
set_option maxRecDepth 100000
set_option linter.unusedSimpArgs false
set_option linter.unusedVariables false
def prS {α : Type} (f : Nat) (ok : AV -> Prop) (rd : AV -> α) (p : α -> Bool) (pre : α -> Prop) (L : za8) : zbv := (f, fun xs => match xs with
 | [x] => some (L ok x /\ L pre (L rd x), .bool (L p (L rd x)))
 | _ => none)
def zxh {α : Type} (f g : Nat) (ok : AV -> Prop) (rd : AV -> List α) (idx : List α -> Int) (pre : List α -> Prop) (L : za8) : zbv := (f, fun xs => match xs with
 | [x, .fn k [] []] => match zaj k g with
   | true => some (L ok x /\ L zh3 (L rd x) /\ L pre (L rd x), .int .i64 (L idx (L rd x)))
   | false => none
 | _ => none)
def zxl {α : Type} (f g : Nat) (ok : AV -> Prop) (rd : AV -> List α) (any : List α -> Bool) (pre : List α -> Prop) (L : za8) : zbv := (f, fun xs => match xs with
 | [x, .fn k [] []] => match zaj k g with
   | true => some (L ok x /\ L zh3 (L rd x) /\ L pre (L rd x), .bool (L any (L rd x)))
   | false => none
 | _ => none)
def ixA {α : Type} (L : za8) (none : List α -> Nat -> Prop) (l : List α) : Nat -> St -> Option Ann := fun id st => match id with
 | 0 => some ⟨Nat, fun i => [(8, .int .i64 (L zbd i))], fun i => [], [0, 1, 6, 7], [],
     fun i => L2 L none l i, fun i => L2 L (fun (l : List α) (i : Nat) => l.length - i) l i⟩
 | _ => Option.none
theorem zmm (a b : Int) : ile a b = decide (a <= b) := by simp [ile]
def zgt (x : Ls) : Bool := decide (8 < x.rs.length)
def zho (x : Cl) : Bool := decide (8 < x.es.length)
def zx0 (x : Ep) : Bool := decide (x.w < 0)
def zxk (x : Cl) : Bool := x.es.any zx0
def zvu (x : Ls) : Prop := True
def zvv (x : Cl) : Prop := True
def zvw (x : Ep) : Prop := True
def zr7 (x : Cl) : Prop := zh3 x.es
theorem yk5 : zb6 Tryz.prog (prS 117 zki zhh zgt zvu std) := by
 intro xs p r h hp
 dsimp only [prS] at h |-
 split at h <;> cases h
 try simp only [L2, L3, std] at hp |-
 rename_i x
 refine zmy zct hp.1 ?_
 have hp := hp.2
 show za7 _ _ _ (.bool (zgt (rdG lsV x)))
 have hp : zvu (rdG lsV x) := hp
 generalize rdG lsV x = y at hp |-
 refine za4 (T := tt) (S := noS) (lo := fun _ => noA std) (lb := noA) 5 (fn := Tryz.f117) (xs := fun L => [.agg [.str (L Ls.n y), .int .u8 (L Pl.a (L Ls.pl y)), .int .u8 (L Pl.b (L Ls.pl y)), .int .u8 (L Pl.c (L Ls.pl y)), .int .u8 (L Pl.d (L Ls.pl y)), .int .u16 (L Pl.p (L Ls.pl y)), znu L (L Ls.rs y)]]) rfl rfl (by kernel_rfl) (by kernel_rfl) rfl za9 (zbb _) (by kernel_rfl) ?_
 intro L P' Q' hL hP hQ
 (cbv; try simp only [syT, true_and, and_true])
 (subst hL; subst hQ; simp only [L2, L3, std] at *; try simp only [syS, reduceCtorEq, Int.reduceToNat, Int.reduceAdd, Int.reduceSub] at *)
 show ilt 8 ((y.rs.length : Nat) : Int) = _
 simp only [ilt, zgt]
 congr 1
 simp
 omega
theorem yk6 : zb6 Tryz.prog (prS 119 zgq zf7 zho zvv std) := by
 intro xs p r h hp
 dsimp only [prS] at h |-
 split at h <;> cases h
 try simp only [L2, L3, std] at hp |-
 rename_i x
 refine zmy zbu hp.1 ?_
 have hp := hp.2
 show za7 _ _ _ (.bool (zho (rdG clV x)))
 have hp : zvv (rdG clV x) := hp
 generalize rdG clV x = y at hp |-
 refine za4 (T := tt) (S := noS) (lo := fun _ => noA std) (lb := noA) 5 (fn := Tryz.f119) (xs := fun L => [.agg [.str (L Cl.n y), zgu L (L Cl.es y)]]) rfl rfl (by kernel_rfl) (by kernel_rfl) rfl za9 (zbb _) (by kernel_rfl) ?_
 intro L P' Q' hL hP hQ
 (cbv; try simp only [syT, true_and, and_true])
 (subst hL; subst hQ; simp only [L2, L3, std] at *; try simp only [syS, reduceCtorEq, Int.reduceToNat, Int.reduceAdd, Int.reduceSub] at *)
 show ilt 8 ((y.es.length : Nat) : Int) = _
 simp only [ilt, zho]
 congr 1
 simp
 omega
theorem ymk : zb6 Tryz.prog (prS 121 zkj zhi zx0 zvw std) := by
 intro xs p r h hp
 dsimp only [prS] at h |-
 split at h <;> cases h
 try simp only [L2, L3, std] at hp |-
 rename_i x
 refine zmy zcj hp.1 ?_
 have hp := hp.2
 show za7 _ _ _ (.bool (zx0 (rdG epV x)))
 have hp : zvw (rdG epV x) := hp
 generalize rdG epV x = y at hp |-
 refine za4 (T := tt) (S := noS) (lo := fun _ => noA std) (lb := noA) 5 (fn := Tryz.f121) (xs := fun L => [.agg [.int .u8 (L Pl.a (L Ep.pl y)), .int .u8 (L Pl.b (L Ep.pl y)), .int .u8 (L Pl.c (L Ep.pl y)), .int .u8 (L Pl.d (L Ep.pl y)), .int .u16 (L Pl.p (L Ep.pl y)), .int .i64 (L Ep.w y)]]) rfl rfl (by kernel_rfl) (by kernel_rfl) rfl za9 (zbb _) (by kernel_rfl) ?_
 intro L P' Q' hL hP hQ
 (cbv; try simp only [syT, true_and, and_true])
 (subst hL; subst hQ; simp only [L2, L3, std] at *; try simp only [syS, reduceCtorEq, Int.reduceToNat, Int.reduceAdd, Int.reduceSub] at *)
 simp [ilt, zx0]
def yph (l : List Ls) : Int := zlp zgt l
def ygb (l : List Ls) : Bool := l.any zgt
def yoo (l : List Ls) (i : Nat) : Prop := zkl zgt l i
def zm5 (l : List Ls) : Prop := zxm zvu l
theorem zwe (ih : zb6 Tryz.prog (prS 117 zki zhh zgt zvu std)) : zb6 Tryz.prog (zxh 165 117 znm zhg yph zm5 std) := by
 intro xs p r h hp
 unfold zxh at h
 simp only at h
 split at h
 rotate_left
 · cases h
 rename_i x k
 cases hk : zaj k 117 with
 | false => rw [hk] at h; cases h
 | true =>
 rw [hk] at h
 obtain rfl : k = 117 := of_decide_eq_true hk
 cases h
 obtain ⟨ho, hz, ha⟩ := hp
 refine zjh zct ho ?_
 have hz : zh3 (rdW lsV x) := hz
 have ha : zm5 (rdW lsV x) := ha
 show za7 _ _ _ (.int .i64 (zlp zgt (rdW lsV x)))
 generalize rdW lsV x = l at hz ha |-
 refine za4 (T := tt) (S := fun L => zat [prS 117 zki zhh zgt zvu L]) (lo := fun L => ixA L yoo l) (lb := noA) 5 (fn := Tryz.f165) (xs := fun L => [zem L l, .fn 117 [] []]) rfl rfl (by kernel_rfl) (by kernel_rfl) rfl za9
   (za3 ⟨ih, trivial⟩) (by kernel_rfl) ?_
 intro L P' Q' hL hP hQ
 (cbv; try simp only [syT, true_and, and_true])
 refine ⟨⟨0, ?_⟩, fun i hi => ?_⟩
 · (cbv; try simp only [syT, true_and, and_true])
   (subst hL; subst hQ; simp only [L2, L3, std] at *; try simp only [syS, reduceCtorEq, Int.reduceToNat, Int.reduceAdd, Int.reduceSub] at *)
   exact ziq _ _
 · cbv at hi
   have hG : ∀ y : Ls, L zhh (.agg [.str (L Ls.n y), .int .u8 (L Pl.a (L Ls.pl y)), .int .u8 (L Pl.b (L Ls.pl y)), .int .u8 (L Pl.c (L Ls.pl y)), .int .u8 (L Pl.d (L Ls.pl y)), .int .u16 (L Pl.p (L Ls.pl y)), .lst 4 (L zan (L Ls.rs y)) (fun i => rtC L (L (L zb3 (L Ls.rs y)) i))]) = y := by subst hL; exact fun y => (gK zct y _ rfl).2
   have hO : ∀ y : Ls, L zki (.agg [.str (L Ls.n y), .int .u8 (L Pl.a (L Ls.pl y)), .int .u8 (L Pl.b (L Ls.pl y)), .int .u8 (L Pl.c (L Ls.pl y)), .int .u8 (L Pl.d (L Ls.pl y)), .int .u16 (L Pl.p (L Ls.pl y)), .lst 4 (L zan (L Ls.rs y)) (fun i => rtC L (L (L zb3 (L Ls.rs y)) i))]) := by subst hL; exact fun y => (gK zct y _ rfl).1
   (cbv; try simp only [syT, true_and, and_true])
   simp only [hG, hO, true_and]
   have hw : zan l = l.length := rfl
   have hz : l.length <= 1000000 := hz
   refine ⟨fun hlt => ⟨?_, ?_, fun hb => ?_, fun hb => ⟨i + 1, ?_⟩⟩, fun hge => ?_⟩
   · (subst hL; subst hQ; simp only [L2, L3, std] at *; try simp only [syS, reduceCtorEq, Int.reduceToNat, Int.reduceAdd, Int.reduceSub] at *)
     omega
   · (subst hL; subst hQ; simp only [L2, L3, std] at *; try simp only [syS, reduceCtorEq, Int.reduceToNat, Int.reduceAdd, Int.reduceSub] at *)
     exact ha _ (by rw [za6, zab (V := lsV) (by omega)]; exact List.getElem_mem _)
   · (subst hL; subst hQ; simp only [L2, L3, std] at *; try simp only [syS, reduceCtorEq, Int.reduceToNat, Int.reduceAdd, Int.reduceSub] at *)
     exact (zev (V := lsV) hi (by omega) hb).symm
   · (cbv; try simp only [syT, true_and, and_true])
     try simp only [hG]
     (subst hL; subst hQ; simp only [L2, L3, std] at *; try simp only [syS, reduceCtorEq, Int.reduceToNat, Int.reduceAdd, Int.reduceSub] at *)
     exact ⟨by omega, zdp (V := lsV) hi (by omega) hb, by omega⟩
   · (subst hL; subst hQ; simp only [L2, L3, std] at *; try simp only [syS, reduceCtorEq, Int.reduceToNat, Int.reduceAdd, Int.reduceSub] at *)
     exact (zew hi (by omega)).symm
theorem zx9 (ih : zb6 Tryz.prog (prS 117 zki zhh zgt zvu std)) : zb6 Tryz.prog (zxl 116 117 znm zhg ygb zm5 std) := by
 intro xs p r h hp
 unfold zxl at h
 simp only at h
 split at h
 rotate_left
 · cases h
 rename_i x k
 cases hk : zaj k 117 with
 | false => rw [hk] at h; cases h
 | true =>
 rw [hk] at h
 obtain rfl : k = 117 := of_decide_eq_true hk
 cases h
 obtain ⟨ho, hz, ha⟩ := hp
 refine zjh zct ho ?_
 have hz : zh3 (rdW lsV x) := hz
 have ha : zm5 (rdW lsV x) := ha
 show za7 _ _ _ (.bool (ygb (rdW lsV x)))
 generalize rdW lsV x = l at hz ha |-
 refine za4 (T := tt) (S := fun L => zat [zxh 165 117 znm zhg yph zm5 L]) (lo := fun _ => noA std) (lb := noA) 5 (fn := Tryz.f116) (xs := fun L => [zem L l, .fn 117 [] []]) rfl rfl (by kernel_rfl) (by kernel_rfl) rfl za9
   (za3 ⟨zwe ih, trivial⟩) (by kernel_rfl) ?_
 intro L P' Q' hL hP hQ
 (cbv; try simp only [syT, true_and, and_true])
 (subst hL; subst hQ; simp only [L2, L3, std] at *; try simp only [syS, reduceCtorEq, Int.reduceToNat, Int.reduceAdd, Int.reduceSub] at *)
 simp only [yjc]
 refine ⟨⟨yju _, hz, ha⟩, ?_⟩
 have := zfd zgt l
 rw [zmm, show ygb l = l.any zgt from rfl, <- this]; rfl
def ypi (l : List Cl) : Int := zlp zho l
def ygc (l : List Cl) : Bool := l.any zho
def yop (l : List Cl) (i : Nat) : Prop := zkl zho l i
def zm6 (l : List Cl) : Prop := zxm zvv l
theorem zwf (ih : zb6 Tryz.prog (prS 119 zgq zf7 zho zvv std)) : zb6 Tryz.prog (zxh 166 119 zin zfn ypi zm6 std) := by
 intro xs p r h hp
 unfold zxh at h
 simp only at h
 split at h
 rotate_left
 · cases h
 rename_i x k
 cases hk : zaj k 119 with
 | false => rw [hk] at h; cases h
 | true =>
 rw [hk] at h
 obtain rfl : k = 119 := of_decide_eq_true hk
 cases h
 obtain ⟨ho, hz, ha⟩ := hp
 refine zjh zbu ho ?_
 have hz : zh3 (rdW clV x) := hz
 have ha : zm6 (rdW clV x) := ha
 show za7 _ _ _ (.int .i64 (zlp zho (rdW clV x)))
 generalize rdW clV x = l at hz ha |-
 refine za4 (T := tt) (S := fun L => zat [prS 119 zgq zf7 zho zvv L]) (lo := fun L => ixA L yop l) (lb := noA) 5 (fn := Tryz.f166) (xs := fun L => [ze0 L l, .fn 119 [] []]) rfl rfl (by kernel_rfl) (by kernel_rfl) rfl za9
   (za3 ⟨ih, trivial⟩) (by kernel_rfl) ?_
 intro L P' Q' hL hP hQ
 (cbv; try simp only [syT, true_and, and_true])
 refine ⟨⟨0, ?_⟩, fun i hi => ?_⟩
 · (cbv; try simp only [syT, true_and, and_true])
   (subst hL; subst hQ; simp only [L2, L3, std] at *; try simp only [syS, reduceCtorEq, Int.reduceToNat, Int.reduceAdd, Int.reduceSub] at *)
   exact ziq _ _
 · cbv at hi
   have hG : ∀ y : Cl, L zf7 (.agg [.str (L Cl.n y), .lst 6 (L zan (L Cl.es y)) (fun i => epC L (L (L zcs (L Cl.es y)) i))]) = y := by subst hL; exact fun y => (gK zbu y _ rfl).2
   have hO : ∀ y : Cl, L zgq (.agg [.str (L Cl.n y), .lst 6 (L zan (L Cl.es y)) (fun i => epC L (L (L zcs (L Cl.es y)) i))]) := by subst hL; exact fun y => (gK zbu y _ rfl).1
   (cbv; try simp only [syT, true_and, and_true])
   simp only [hG, hO, true_and]
   have hw : zan l = l.length := rfl
   have hz : l.length <= 1000000 := hz
   refine ⟨fun hlt => ⟨?_, ?_, fun hb => ?_, fun hb => ⟨i + 1, ?_⟩⟩, fun hge => ?_⟩
   · (subst hL; subst hQ; simp only [L2, L3, std] at *; try simp only [syS, reduceCtorEq, Int.reduceToNat, Int.reduceAdd, Int.reduceSub] at *)
     omega
   · (subst hL; subst hQ; simp only [L2, L3, std] at *; try simp only [syS, reduceCtorEq, Int.reduceToNat, Int.reduceAdd, Int.reduceSub] at *)
     exact ha _ (by rw [zaf, zab (V := clV) (by omega)]; exact List.getElem_mem _)
   · (subst hL; subst hQ; simp only [L2, L3, std] at *; try simp only [syS, reduceCtorEq, Int.reduceToNat, Int.reduceAdd, Int.reduceSub] at *)
     exact (zev (V := clV) hi (by omega) hb).symm
   · (cbv; try simp only [syT, true_and, and_true])
     try simp only [hG]
     (subst hL; subst hQ; simp only [L2, L3, std] at *; try simp only [syS, reduceCtorEq, Int.reduceToNat, Int.reduceAdd, Int.reduceSub] at *)
     exact ⟨by omega, zdp (V := clV) hi (by omega) hb, by omega⟩
   · (subst hL; subst hQ; simp only [L2, L3, std] at *; try simp only [syS, reduceCtorEq, Int.reduceToNat, Int.reduceAdd, Int.reduceSub] at *)
     exact (zew hi (by omega)).symm
theorem zxa (ih : zb6 Tryz.prog (prS 119 zgq zf7 zho zvv std)) : zb6 Tryz.prog (zxl 118 119 zin zfn ygc zm6 std) := by
 intro xs p r h hp
 unfold zxl at h
 simp only at h
 split at h
 rotate_left
 · cases h
 rename_i x k
 cases hk : zaj k 119 with
 | false => rw [hk] at h; cases h
 | true =>
 rw [hk] at h
 obtain rfl : k = 119 := of_decide_eq_true hk
 cases h
 obtain ⟨ho, hz, ha⟩ := hp
 refine zjh zbu ho ?_
 have hz : zh3 (rdW clV x) := hz
 have ha : zm6 (rdW clV x) := ha
 show za7 _ _ _ (.bool (ygc (rdW clV x)))
 generalize rdW clV x = l at hz ha |-
 refine za4 (T := tt) (S := fun L => zat [zxh 166 119 zin zfn ypi zm6 L]) (lo := fun _ => noA std) (lb := noA) 5 (fn := Tryz.f118) (xs := fun L => [ze0 L l, .fn 119 [] []]) rfl rfl (by kernel_rfl) (by kernel_rfl) rfl za9
   (za3 ⟨zwf ih, trivial⟩) (by kernel_rfl) ?_
 intro L P' Q' hL hP hQ
 (cbv; try simp only [syT, true_and, and_true])
 (subst hL; subst hQ; simp only [L2, L3, std] at *; try simp only [syS, reduceCtorEq, Int.reduceToNat, Int.reduceAdd, Int.reduceSub] at *)
 simp only [zz3]
 refine ⟨⟨zzj _, hz, ha⟩, ?_⟩
 have := zfd zho l
 rw [zmm, show ygc l = l.any zho from rfl, <- this]; rfl
def ypj (l : List Ep) : Int := zlp zx0 l
def ygd (l : List Ep) : Bool := l.any zx0
def yoq (l : List Ep) (i : Nat) : Prop := zkl zx0 l i
def zm7 (l : List Ep) : Prop := zxm zvw l
theorem zwg (ih : zb6 Tryz.prog (prS 121 zkj zhi zx0 zvw std)) : zb6 Tryz.prog (zxh 147 121 zje zgp ypj zm7 std) := by
 intro xs p r h hp
 unfold zxh at h
 simp only at h
 split at h
 rotate_left
 · cases h
 rename_i x k
 cases hk : zaj k 121 with
 | false => rw [hk] at h; cases h
 | true =>
 rw [hk] at h
 obtain rfl : k = 121 := of_decide_eq_true hk
 cases h
 obtain ⟨ho, hz, ha⟩ := hp
 refine zjh zcj ho ?_
 have hz : zh3 (rdW epV x) := hz
 have ha : zm7 (rdW epV x) := ha
 show za7 _ _ _ (.int .i64 (zlp zx0 (rdW epV x)))
 generalize rdW epV x = l at hz ha |-
 refine za4 (T := tt) (S := fun L => zat [prS 121 zkj zhi zx0 zvw L]) (lo := fun L => ixA L yoq l) (lb := noA) 5 (fn := Tryz.f147) (xs := fun L => [zgu L l, .fn 121 [] []]) rfl rfl (by kernel_rfl) (by kernel_rfl) rfl za9
   (za3 ⟨ih, trivial⟩) (by kernel_rfl) ?_
 intro L P' Q' hL hP hQ
 (cbv; try simp only [syT, true_and, and_true])
 refine ⟨⟨0, ?_⟩, fun i hi => ?_⟩
 · (cbv; try simp only [syT, true_and, and_true])
   (subst hL; subst hQ; simp only [L2, L3, std] at *; try simp only [syS, reduceCtorEq, Int.reduceToNat, Int.reduceAdd, Int.reduceSub] at *)
   exact ziq _ _
 · cbv at hi
   have hG : ∀ y : Ep, L zhi (.agg [.int .u8 (L Pl.a (L Ep.pl y)), .int .u8 (L Pl.b (L Ep.pl y)), .int .u8 (L Pl.c (L Ep.pl y)), .int .u8 (L Pl.d (L Ep.pl y)), .int .u16 (L Pl.p (L Ep.pl y)), .int .i64 (L Ep.w y)]) = y := by subst hL; exact fun y => (gK zcj y _ rfl).2
   have hO : ∀ y : Ep, L zkj (.agg [.int .u8 (L Pl.a (L Ep.pl y)), .int .u8 (L Pl.b (L Ep.pl y)), .int .u8 (L Pl.c (L Ep.pl y)), .int .u8 (L Pl.d (L Ep.pl y)), .int .u16 (L Pl.p (L Ep.pl y)), .int .i64 (L Ep.w y)]) := by subst hL; exact fun y => (gK zcj y _ rfl).1
   (cbv; try simp only [syT, true_and, and_true])
   simp only [hG, hO, true_and]
   have hw : zan l = l.length := rfl
   have hz : l.length <= 1000000 := hz
   refine ⟨fun hlt => ⟨?_, ?_, fun hb => ?_, fun hb => ⟨i + 1, ?_⟩⟩, fun hge => ?_⟩
   · (subst hL; subst hQ; simp only [L2, L3, std] at *; try simp only [syS, reduceCtorEq, Int.reduceToNat, Int.reduceAdd, Int.reduceSub] at *)
     omega
   · (subst hL; subst hQ; simp only [L2, L3, std] at *; try simp only [syS, reduceCtorEq, Int.reduceToNat, Int.reduceAdd, Int.reduceSub] at *)
     exact ha _ (by rw [zcs, zab (V := epV) (by omega)]; exact List.getElem_mem _)
   · (subst hL; subst hQ; simp only [L2, L3, std] at *; try simp only [syS, reduceCtorEq, Int.reduceToNat, Int.reduceAdd, Int.reduceSub] at *)
     exact (zev (V := epV) hi (by omega) hb).symm
   · (cbv; try simp only [syT, true_and, and_true])
     try simp only [hG]
     (subst hL; subst hQ; simp only [L2, L3, std] at *; try simp only [syS, reduceCtorEq, Int.reduceToNat, Int.reduceAdd, Int.reduceSub] at *)
     exact ⟨by omega, zdp (V := epV) hi (by omega) hb, by omega⟩
   · (subst hL; subst hQ; simp only [L2, L3, std] at *; try simp only [syS, reduceCtorEq, Int.reduceToNat, Int.reduceAdd, Int.reduceSub] at *)
     exact (zew hi (by omega)).symm
theorem zxb (ih : zb6 Tryz.prog (prS 121 zkj zhi zx0 zvw std)) : zb6 Tryz.prog (zxl 99 121 zje zgp ygd zm7 std) := by
 intro xs p r h hp
 unfold zxl at h
 simp only at h
 split at h
 rotate_left
 · cases h
 rename_i x k
 cases hk : zaj k 121 with
 | false => rw [hk] at h; cases h
 | true =>
 rw [hk] at h
 obtain rfl : k = 121 := of_decide_eq_true hk
 cases h
 obtain ⟨ho, hz, ha⟩ := hp
 refine zjh zcj ho ?_
 have hz : zh3 (rdW epV x) := hz
 have ha : zm7 (rdW epV x) := ha
 show za7 _ _ _ (.bool (ygd (rdW epV x)))
 generalize rdW epV x = l at hz ha |-
 refine za4 (T := tt) (S := fun L => zat [zxh 147 121 zje zgp ypj zm7 L]) (lo := fun _ => noA std) (lb := noA) 5 (fn := Tryz.f99) (xs := fun L => [zgu L l, .fn 121 [] []]) rfl rfl (by kernel_rfl) (by kernel_rfl) rfl za9
   (za3 ⟨zwg ih, trivial⟩) (by kernel_rfl) ?_
 intro L P' Q' hL hP hQ
 (cbv; try simp only [syT, true_and, and_true])
 (subst hL; subst hQ; simp only [L2, L3, std] at *; try simp only [syS, reduceCtorEq, Int.reduceToNat, Int.reduceAdd, Int.reduceSub] at *)
 simp only [zz2]
 refine ⟨⟨zzi _, hz, ha⟩, ?_⟩
 have := zfd zx0 l
 rw [zmm, show ygd l = l.any zx0 from rfl, <- this]; rfl
theorem yml : zb6 Tryz.prog (prS 120 zgq zf7 zxk zr7 std) := by
 intro xs p r h hp
 dsimp only [prS] at h |-
 split at h <;> cases h
 try simp only [L2, L3, std] at hp |-
 rename_i x
 refine zmy zbu hp.1 ?_
 have hp := hp.2
 show za7 _ _ _ (.bool (zxk (rdG clV x)))
 have hp : zr7 (rdG clV x) := hp
 generalize rdG clV x = y at hp |-
 refine za4 (T := tt) (S := fun L => zat [zxl 99 121 zje zgp ygd zm7 L]) (lo := fun _ => noA std) (lb := noA) 5 (fn := Tryz.f120) (xs := fun L => [.agg [.str (L Cl.n y), zgu L (L Cl.es y)]]) rfl rfl (by kernel_rfl) (by kernel_rfl) rfl za9 (za3 ⟨zxb ymk, trivial⟩) (by kernel_rfl) ?_
 intro L P' Q' hL hP hQ
 (cbv; try simp only [syT, true_and, and_true])
 (subst hL; subst hQ; simp only [L2, L3, std] at *; try simp only [syS, reduceCtorEq, Int.reduceToNat, Int.reduceAdd, Int.reduceSub] at *)
 simp only [zz2]
 exact ⟨⟨zzi _, hp, fun _ _ => trivial⟩, rfl⟩
def ypk (l : List Cl) : Int := zlp zxk l
def yge (l : List Cl) : Bool := l.any zxk
def yor (l : List Cl) (i : Nat) : Prop := zkl zxk l i
def zm8 (l : List Cl) : Prop := zxm zr7 l
theorem zwh (ih : zb6 Tryz.prog (prS 120 zgq zf7 zxk zr7 std)) : zb6 Tryz.prog (zxh 166 120 zin zfn ypk zm8 std) := by
 intro xs p r h hp
 unfold zxh at h
 simp only at h
 split at h
 rotate_left
 · cases h
 rename_i x k
 cases hk : zaj k 120 with
 | false => rw [hk] at h; cases h
 | true =>
 rw [hk] at h
 obtain rfl : k = 120 := of_decide_eq_true hk
 cases h
 obtain ⟨ho, hz, ha⟩ := hp
 refine zjh zbu ho ?_
 have hz : zh3 (rdW clV x) := hz
 have ha : zm8 (rdW clV x) := ha
 show za7 _ _ _ (.int .i64 (zlp zxk (rdW clV x)))
 generalize rdW clV x = l at hz ha |-
 refine za4 (T := tt) (S := fun L => zat [prS 120 zgq zf7 zxk zr7 L]) (lo := fun L => ixA L yor l) (lb := noA) 5 (fn := Tryz.f166) (xs := fun L => [ze0 L l, .fn 120 [] []]) rfl rfl (by kernel_rfl) (by kernel_rfl) rfl za9
   (za3 ⟨ih, trivial⟩) (by kernel_rfl) ?_
 intro L P' Q' hL hP hQ
 (cbv; try simp only [syT, true_and, and_true])
 refine ⟨⟨0, ?_⟩, fun i hi => ?_⟩
 · (cbv; try simp only [syT, true_and, and_true])
   (subst hL; subst hQ; simp only [L2, L3, std] at *; try simp only [syS, reduceCtorEq, Int.reduceToNat, Int.reduceAdd, Int.reduceSub] at *)
   exact ziq _ _
 · cbv at hi
   have hG : ∀ y : Cl, L zf7 (.agg [.str (L Cl.n y), .lst 6 (L zan (L Cl.es y)) (fun i => epC L (L (L zcs (L Cl.es y)) i))]) = y := by subst hL; exact fun y => (gK zbu y _ rfl).2
   have hO : ∀ y : Cl, L zgq (.agg [.str (L Cl.n y), .lst 6 (L zan (L Cl.es y)) (fun i => epC L (L (L zcs (L Cl.es y)) i))]) := by subst hL; exact fun y => (gK zbu y _ rfl).1
   (cbv; try simp only [syT, true_and, and_true])
   simp only [hG, hO, true_and]
   have hw : zan l = l.length := rfl
   have hz : l.length <= 1000000 := hz
   refine ⟨fun hlt => ⟨?_, ?_, fun hb => ?_, fun hb => ⟨i + 1, ?_⟩⟩, fun hge => ?_⟩
   · (subst hL; subst hQ; simp only [L2, L3, std] at *; try simp only [syS, reduceCtorEq, Int.reduceToNat, Int.reduceAdd, Int.reduceSub] at *)
     omega
   · (subst hL; subst hQ; simp only [L2, L3, std] at *; try simp only [syS, reduceCtorEq, Int.reduceToNat, Int.reduceAdd, Int.reduceSub] at *)
     exact ha _ (by rw [zaf, zab (V := clV) (by omega)]; exact List.getElem_mem _)
   · (subst hL; subst hQ; simp only [L2, L3, std] at *; try simp only [syS, reduceCtorEq, Int.reduceToNat, Int.reduceAdd, Int.reduceSub] at *)
     exact (zev (V := clV) hi (by omega) hb).symm
   · (cbv; try simp only [syT, true_and, and_true])
     try simp only [hG]
     (subst hL; subst hQ; simp only [L2, L3, std] at *; try simp only [syS, reduceCtorEq, Int.reduceToNat, Int.reduceAdd, Int.reduceSub] at *)
     exact ⟨by omega, zdp (V := clV) hi (by omega) hb, by omega⟩
   · (subst hL; subst hQ; simp only [L2, L3, std] at *; try simp only [syS, reduceCtorEq, Int.reduceToNat, Int.reduceAdd, Int.reduceSub] at *)
     exact (zew hi (by omega)).symm
theorem zxc (ih : zb6 Tryz.prog (prS 120 zgq zf7 zxk zr7 std)) : zb6 Tryz.prog (zxl 118 120 zin zfn yge zm8 std) := by
 intro xs p r h hp
 unfold zxl at h
 simp only at h
 split at h
 rotate_left
 · cases h
 rename_i x k
 cases hk : zaj k 120 with
 | false => rw [hk] at h; cases h
 | true =>
 rw [hk] at h
 obtain rfl : k = 120 := of_decide_eq_true hk
 cases h
 obtain ⟨ho, hz, ha⟩ := hp
 refine zjh zbu ho ?_
 have hz : zh3 (rdW clV x) := hz
 have ha : zm8 (rdW clV x) := ha
 show za7 _ _ _ (.bool (yge (rdW clV x)))
 generalize rdW clV x = l at hz ha |-
 refine za4 (T := tt) (S := fun L => zat [zxh 166 120 zin zfn ypk zm8 L]) (lo := fun _ => noA std) (lb := noA) 5 (fn := Tryz.f118) (xs := fun L => [ze0 L l, .fn 120 [] []]) rfl rfl (by kernel_rfl) (by kernel_rfl) rfl za9
   (za3 ⟨zwh ih, trivial⟩) (by kernel_rfl) ?_
 intro L P' Q' hL hP hQ
 (cbv; try simp only [syT, true_and, and_true])
 (subst hL; subst hQ; simp only [L2, L3, std] at *; try simp only [syS, reduceCtorEq, Int.reduceToNat, Int.reduceAdd, Int.reduceSub] at *)
 simp only [zz3]
 refine ⟨⟨zzj _, hz, ha⟩, ?_⟩
 have := zfd zxk l
 rw [zmm, show yge l = l.any zxk from rfl, <- this]; rfl
end Sy
end Go.Proofs.YthppjaoicibeiaaGreatDoor
namespace Go.Proofs.YthppjaoicibeiaaGreatDoor
namespace Sy
open Go Go.RowKit
set_option maxRecDepth 100000
set_option linter.unusedSimpArgs false
set_option linter.unusedVariables false
structure zsq (v : CV) (a b : Nat) : Prop where
 wf : wfV v
 sz : sizeC v <= a
 tx : (zbi v).length <= b
theorem zsq.up {v : CV} {a b a' b' : Nat} (h : zsq v a b) (ha : a <= a') (hb : b <= b') : zsq v a' b' := ⟨h.wf, by have := h.sz; omega, by have := h.tx; omega⟩
theorem zrx {n : Int} (h : zco n) : zsq (zfp n) 1 11 := by
 refine ⟨?_, ?_, ?_⟩
 · rw [zfp, wfV, zsr]; exact ⟨h, by decide, trivial⟩
 · rw [zfp, zcn, zcf]; omega
 · rw [zfp, zai, if_pos rfl, List.length_append]
   have := zig h
   have e : (zfo 1).length = 1 := rfl
   omega
theorem zh7 {s : List UInt8} {m : Nat} (h : s.length <= m) (hm : m <= 1000000) : zsq (zib s) 1 (11 + m) := by
 refine ⟨?_, ?_, ?_⟩
 · rw [zib, wfV, zsr]; exact ⟨⟨by decide, by decide⟩, by omega, trivial⟩
 · rw [zib, zcn, zcf]; omega
 · rw [zib, zai, if_neg (by decide), if_pos rfl, List.length_append, List.length_append]
   have := zig (n := (s.length : Int)) ⟨by omega, by omega⟩
   have e : (zfo 2).length = 1 := rfl
   omega
theorem yhg {a b : Nat} : ∀ {l : List CV}, (∀ v ∈ l, zsq v a b) -> zsr l /\ sizeCs l <= l.length * a /\ (zas l).length <= l.length * b
 | [], _ => by rw [zsr, zcf, zas]; exact ⟨trivial, by simp, by simp⟩
 | v :: l, h => by
   obtain ⟨i1, i2, i3⟩ := yhg (l := l) fun w hw => h w (by simp [hw])
   have hv := h v (by simp)
   have h2 := hv.sz
   have h3 := hv.tx
   rw [zsr, zbk, zas, List.length_append, List.length_cons, Nat.succ_mul, Nat.succ_mul]
   exact ⟨⟨hv.wf, i1⟩, by omega, by omega⟩
theorem ziy {l : List CV} {a b : Nat} (m : Nat) (h : ∀ v ∈ l, zsq v a b) (hl : l.length <= m) (hm : m <= 1000) : zsq (zc5 l) (m * a + 1) (11 + m * b) := by
 obtain ⟨i1, i2, i3⟩ := yhg h
 have e1 := Nat.mul_le_mul_right a hl
 have e2 := Nat.mul_le_mul_right b hl
 refine ⟨?_, ?_, ?_⟩
 · rw [zc5, wfV]; exact ⟨⟨by decide, by decide⟩, by decide, i1⟩
 · rw [zc5, zcn]; omega
 · rw [zc5, zai, if_neg (by decide), if_neg (by decide), List.length_append, List.length_append]
   have := zig (n := (l.length : Int)) ⟨by omega, by omega⟩
   have e : (zfo 3).length = 1 := rfl
   omega
def zeh (x : Rt) : Bool := decide (x.h.length <= 300) && decide (x.p.length <= 300) && decide (x.c.length <= 300)
def zd9 (x : Ls) : Bool := decide (x.n.length <= 300) && decide (x.rs.length <= 12) && x.rs.all zeh
def ze2 (x : Cl) : Bool := decide (x.n.length <= 300) && decide (x.es.length <= 12)
def zbc (x : Cf) : Bool := decide (x.ls.length <= 12) && decide (x.cs.length <= 12) && x.ls.all zd9 && x.cs.all ze2
def yrz (x : Rt) : Prop := zco x.i
def ys0 (x : Ep) : Prop := zvx x.pl /\ -9223372036854775808 <= x.w /\ x.w <= 9223372036854775807
def yi3 (x : Ls) : Prop := zvx x.pl /\ ∀ r ∈ x.rs, yrz r
def ys1 (x : Cl) : Prop := ∀ e ∈ x.es, ys0 e
def ynf (x : Cf) : Prop := zco x.v /\ (∀ l ∈ x.ls, yi3 l) /\ ∀ c ∈ x.cs, ys1 c
def zj2 (x : Cf) : CV := zc5 [zfp x.v, ya0 x.ls, ybp x.cs]
theorem zz8 (x : Pl) : (plB x).length = 6 := rfl
theorem ypp {x : Rt} (hl : zeh x = true) (hw : yrz x) : zsq (zhf x) 5 1255 := by
 simp only [zeh, Bool.and_eq_true, decide_eq_true_eq] at hl
 refine ziy (a := 1) (b := 311) 4 (fun v hv => ?_) (Nat.le_of_ble_eq_true rfl) (by decide)
 simp only [List.mem_cons, List.not_mem_nil, or_false] at hv
 rcases hv with rfl | rfl | rfl | rfl
 · exact zh7 hl.1.1 (by omega)
 · exact zh7 hl.1.2 (by omega)
 · exact zh7 hl.2 (by omega)
 · exact (zrx hw).up (by omega) (by omega)
theorem zjr {α : Type} {val : α -> CV} {l : List α} {a b : Nat} (m : Nat) (h : ∀ x ∈ l, zsq (val x) a b) (hl : l.length <= m) (hm : m <= 1000) : zsq (zob val l) (m * a + 1) (11 + m * b) :=
 ziy m (fun v hv => by obtain ⟨x, hx, rfl⟩ := List.mem_map.1 hv; exact h x hx) (by simpa using hl) hm
theorem ypq {x : Ep} (hw : ys0 x) : zsq (zhy x) 3 45 := by
 refine ziy (a := 1) (b := 17) 2 (fun v hv => ?_) (Nat.le_of_ble_eq_true rfl) (by decide)
 simp only [List.mem_cons, List.not_mem_nil, or_false] at hv
 rcases hv with rfl | rfl
 · exact zh7 (m := 6) (Nat.le_of_eq (zz8 _)) (by omega)
 · exact (zrx ⟨by omega, by omega⟩).up (by omega) (by omega)
theorem yl7 {x : Ls} (hl : zd9 x = true) (hw : yi3 x) : zsq (zhp x) 184 45224 := by
 simp only [zd9, Bool.and_eq_true, decide_eq_true_eq, List.all_eq_true] at hl
 refine ziy (a := 61) (b := 15071) 3 (fun v hv => ?_) (Nat.le_of_ble_eq_true rfl) (by decide)
 simp only [List.mem_cons, List.not_mem_nil, or_false] at hv
 rcases hv with rfl | rfl | rfl
 · exact (zh7 hl.1.1 (by omega)).up (by omega) (by omega)
 · exact (zh7 (m := 6) (Nat.le_of_eq (zz8 _)) (by omega)).up (by omega) (by omega)
 · exact (zjr (a := 5) (b := 1255) 12 (fun r hr => ypp (hl.2 r hr) (hw.2 r hr)) hl.1.2 (by omega)).up (by omega) (by omega)
theorem ypr {x : Cl} (hl : ze2 x = true) (hw : ys1 x) : zsq (zi2 x) 75 1113 := by
 simp only [ze2, Bool.and_eq_true, decide_eq_true_eq] at hl
 refine ziy (a := 37) (b := 551) 2 (fun v hv => ?_) (Nat.le_of_ble_eq_true rfl) (by decide)
 simp only [List.mem_cons, List.not_mem_nil, or_false] at hv
 rcases hv with rfl | rfl
 · exact (zh7 hl.1 (by omega)).up (by omega) (by omega)
 · exact (zjr (a := 3) (b := 45) 12 (fun e he => ypq (hw e he)) hl.2 (by omega)).up (by omega) (by omega)
theorem yps {x : Cf} (hl : zbc x = true) (hw : ynf x) : zsq (zj2 x) 7000 2000000 := by
 simp only [zbc, Bool.and_eq_true, decide_eq_true_eq, List.all_eq_true] at hl
 refine (ziy (a := 2209) (b := 542699) 3 (fun v hv => ?_) (Nat.le_of_ble_eq_true rfl) (by decide)).up (by decide) (by decide)
 simp only [List.mem_cons, List.not_mem_nil, or_false] at hv
 rcases hv with rfl | rfl | rfl
 · exact (zrx hw.1).up (by omega) (by omega)
 · exact (zjr (a := 184) (b := 45224) 12 (fun r hr => yl7 (hl.1.2 r hr) (hw.2.1 r hr)) hl.1.1.1 (by omega)).up (by omega) (by omega)
 · exact (zjr (a := 75) (b := 1113) 12 (fun r hr => ypr (hl.2 r hr) (hw.2.2 r hr)) hl.1.1.2 (by omega)).up (by omega) (by omega)
def zkq (x : Cf) : Bool := decide (8 < x.ls.length \/ 8 < x.cs.length) || x.ls.any zgt || x.cs.any zho
def ymi (x : Cf) : Bool := x.cs.any zxk
def cfE (x : Cf) : Int := if zkq x = true then 6 else if ymi x = true then 7 else zln (zj2 x)
def cfT (x : Cf) : List UInt8 := if cfE x = 0 then zvs (zj2 x) else []
end Sy
end Go.Proofs.YthppjaoicibeiaaGreatDoor
namespace Go.Proofs.YthppjaoicibeiaaGreatDoor
namespace Sy
open Go Go.RowKit
set_option maxRecDepth 100000
set_option linter.unusedSimpArgs false
set_option linter.unusedVariables false
theorem lit3 (a b c : CV) : rdL (.lst 4 3 fun i j => zbn .dead [.int .i64 a.kd, .int .u64 a.nn, .str a.tx, .lst 4 (zlo a) (zjw a), .int .i64 b.kd, .int .u64 b.nn, .str b.tx, .lst 4 (zlo b) (zjw b), .int .i64 c.kd, .int .u64 c.nn, .str c.tx, .lst 4 (zlo c) (zjw c)] (i * 4 + j)) = [a, b, c] := (zlc [a, b, c] (n := 3) rfl rfl).1
theorem yka (a b c : CV) : okL (.lst 4 3 fun i j => zbn .dead [.int .i64 a.kd, .int .u64 a.nn, .str a.tx, .lst 4 (zlo a) (zjw a), .int .i64 b.kd, .int .u64 b.nn, .str b.tx, .lst 4 (zlo b) (zjw b), .int .i64 c.kd, .int .u64 c.nn, .str c.tx, .lst 4 (zlo c) (zjw c)] (i * 4 + j)) := (zlc [a, b, c] (n := 3) rfl rfl).2
def yp3 (n : Nat) (x : Cf) : Prop := x.ls.length <= n /\ x.cs.length <= n
def yjm (x : Cf) : Prop := yp3 1000000 x
def yjo (x : Cf) : Prop := zh3 x.cs /\ ∀ c ∈ x.cs, zr7 c
theorem zw8 : zb6 Tryz.prog (prS 73 zcr zac zkq yjm std) := by
 intro xs p r h hp
 dsimp only [prS] at h |-
 split at h <;> cases h
 try simp only [L2, L3, std] at hp |-
 rename_i x
 refine zmy zc1 hp.1 ?_
 have hp := hp.2
 show za7 _ _ _ (.bool (zkq (rdG cfV x)))
 have hp : yjm (rdG cfV x) := hp
 generalize rdG cfV x = y at hp |-
 refine za4 (T := tt) (S := fun L => zat [zxl 116 117 znm zhg ygb zm5 L, zxl 118 119 zin zfn ygc zm6 L]) (lo := fun _ => noA std) (lb := noA) 5 (fn := Tryz.f73) (xs := fun L => [.agg [.int .u64 (L Cf.v y), zem L (L Cf.ls y), ze0 L (L Cf.cs y)]]) rfl rfl (by kernel_rfl) (by kernel_rfl) rfl za9 (za3 ⟨zx9 yk5, zxa yk6, trivial⟩) (by kernel_rfl) ?_
 intro L P' Q' hL hP hQ
 (cbv; try simp only [syT, true_and, and_true])
 (subst hL; subst hQ; simp only [L2, L3, std] at *; try simp only [syS, reduceCtorEq, Int.reduceToNat, Int.reduceAdd, Int.reduceSub] at *)
 simp only [yjc, zz3]
 have e1 : zan y.ls = y.ls.length := rfl
 have e2 : zan y.cs = y.cs.length := rfl
 refine ⟨fun h => ?_, fun h => ⟨⟨yju _, hp.1, fun _ _ => trivial⟩, fun h2 => ?_, fun h2 => ⟨⟨zzj _, hp.2, fun _ _ => trivial⟩, ?_⟩⟩⟩
 · unfold zkq; rw [decide_eq_true (by omega)]; rfl
 · unfold zkq; rw [show y.ls.any zgt = true from h2]; simp
 · unfold zkq; rw [show y.ls.any zgt = false from h2, decide_eq_false (by omega)]; simp; rfl
theorem yc9 : zb6 Tryz.prog (prS 74 zcr zac ymi yjo std) := by
 intro xs p r h hp
 dsimp only [prS] at h |-
 split at h <;> cases h
 try simp only [L2, L3, std] at hp |-
 rename_i x
 refine zmy zc1 hp.1 ?_
 have hp := hp.2
 show za7 _ _ _ (.bool (ymi (rdG cfV x)))
 have hp : yjo (rdG cfV x) := hp
 generalize rdG cfV x = y at hp |-
 refine za4 (T := tt) (S := fun L => zat [zxl 118 120 zin zfn yge zm8 L]) (lo := fun _ => noA std) (lb := noA) 5 (fn := Tryz.f74) (xs := fun L => [.agg [.int .u64 (L Cf.v y), zem L (L Cf.ls y), ze0 L (L Cf.cs y)]]) rfl rfl (by kernel_rfl) (by kernel_rfl) rfl za9 (za3 ⟨zxc yml, trivial⟩) (by kernel_rfl) ?_
 intro L P' Q' hL hP hQ
 (cbv; try simp only [syT, true_and, and_true])
 (subst hL; subst hQ; simp only [L2, L3, std] at *; try simp only [syS, reduceCtorEq, Int.reduceToNat, Int.reduceAdd, Int.reduceSub] at *)
 simp only [zz3]
 exact ⟨⟨zzj _, hp.1, hp.2⟩, rfl⟩
def zc9 (x : Cf) : Prop := zbc x = true /\ ynf x
def yg9 (L : za8) : zbv := (30, fun xs => match xs with
 | [x] => some (L zcr x /\ L zc9 (L zac x), .tup [.str (L cfT (L zac x)), .int .i64 (L cfE (L zac x))])
 | _ => none)
theorem zur : zb6 Tryz.prog (yg9 std) := by
 intro xs p r h hp
 dsimp only [yg9] at h |-
 split at h <;> cases h
 try simp only [L2, L3, std] at hp |-
 rename_i x
 refine zmy zc1 hp.1 ?_
 have hp := hp.2
 show za7 _ _ _ (.tup [.str (cfT (rdG cfV x)), .int .i64 (cfE (rdG cfV x))])
 have hp : zc9 (rdG cfV x) := hp
 generalize rdG cfV x = y at hp |-
 refine za4 (T := tt) (S := fun L => zat [prS 73 zcr zac zkq yjm L, prS 74 zcr zac ymi yjo L, zw1 L, zfj L, zul 7000 L, zjg 78 79 znm zhg yhd ya0 L, zjg 80 81 zin zfn yhs ybp L]) (lo := fun _ => noA std) (lb := noA) 5 (fn := Tryz.f30) (xs := fun L => [.agg [.int .u64 (L Cf.v y), zem L (L Cf.ls y), ze0 L (L Cf.cs y)]]) rfl rfl (by kernel_rfl) (by kernel_rfl) rfl za9 (za3 ⟨zw8, yc9, zjl, zc7, zmr 7000, zs4 znw, zs6 zq2, trivial⟩) (by kernel_rfl) ?_
 intro L P' Q' hL hP hQ
 have hG : L zac (.agg [.int .u64 (L Cf.v y), .lst 7 (L zan (L Cf.ls y)) (fun i => lsC L (L (L za6 (L Cf.ls y)) i)), .lst 2 (L zan (L Cf.cs y)) (fun i => clC L (L (L zaf (L Cf.cs y)) i))]) = y := by subst hL; exact (gK zc1 y _ rfl).2
 have hO : L zcr (.agg [.int .u64 (L Cf.v y), .lst 7 (L zan (L Cf.ls y)) (fun i => lsC L (L (L za6 (L Cf.ls y)) i)), .lst 2 (L zan (L Cf.cs y)) (fun i => clC L (L (L zaf (L Cf.cs y)) i))]) := by subst hL; exact (gK zc1 y _ rfl).1
 (cbv; try simp only [syT, true_and, and_true])
 simp only [hG, hO, true_and]
 (subst hL; subst hQ; simp only [L2, L3, std] at *; try simp only [syS, reduceCtorEq, Int.reduceToNat, Int.reduceAdd, Int.reduceSub] at *)
 simp only [yjc, zz3]
 simp only [lit3, zdi, zbx]
 obtain ⟨hl, hw⟩ := hp
 have hf := yps hl hw
 have hl' := hl
 simp only [zbc, Bool.and_eq_true, decide_eq_true_eq, List.all_eq_true, zd9, ze2] at hl'
 obtain ⟨⟨⟨l1, l2⟩, l3⟩, l4⟩ := hl'
 have sz1 : ∀ {α : Type} {l : List α} (n : Nat), n <= 12 -> l.length <= n -> zh3 l := fun n hn hl => by show _ <= 1000000; omega
 refine ⟨⟨by omega, by omega⟩, fun h => ?_, fun h => ⟨⟨sz1 12 (by omega) l2, fun c hc => sz1 12 (by omega) (l4 c hc).2⟩, fun h2 => ?_, fun h2 => ⟨⟨yju _, sz1 12 (by omega) l1, fun x hx => ⟨(hw.2.1 x hx).1, sz1 12 (by omega) (l3 x hx).1.2⟩⟩, ⟨zzj _, sz1 12 (by omega) l2, fun c hc => ⟨sz1 12 (by omega) (l4 c hc).2, fun e he => (hw.2.2 c hc e he).1⟩⟩, ⟨yka _ _ _, by show (3 : Nat) <= 1000000; omega⟩, ⟨(zke _).2, ⟨hf.sz, by omega⟩, hf.wf, ?_⟩, ?_⟩⟩⟩
 · have e : cfE y = 6 := by unfold cfE; rw [if_pos h]
   exact ⟨by rw [cfT, if_neg (by rw [e]; decide)], e.symm⟩
 · have e : cfE y = 7 := by unfold cfE; rw [if_neg (by rw [h]; decide), if_pos h2]
   exact ⟨by rw [cfT, if_neg (by rw [e]; decide)], e.symm⟩
 · have := hf.tx
   show (zbi (zj2 y)).length <= 90000000
   omega
 · have e : cfE y = zln (zj2 y) := by unfold cfE; rw [if_neg (by rw [h]; decide), if_neg (by rw [h2]; decide)]
   refine ⟨?_, e.symm⟩
   show zvs (zj2 y) = cfT y
   unfold cfT
   rw [e]
   split
   · rfl
   · rename_i h3
     unfold zvs; rw [if_neg h3]
def zsm {α : Type} (V : Vw α) (p : α -> Bool) (l : List α) (i : Nat) : Prop := i <= l.length /\ ∀ j, j < i -> p (zgr V l j) = true
theorem zsl {α : Type} (V : Vw α) (p : α -> Bool) (l : List α) : zsm V p l 0 := ⟨Nat.zero_le _, fun j hj => by omega⟩
theorem zj4 {α : Type} {V : Vw α} {p : α -> Bool} {l : List α} {i : Nat} (h : zsm V p l i) (hi : i < l.length) (hp : p (zgr V l i) = true) : zsm V p l (i + 1) :=
 ⟨hi, fun j hj => by by_cases e : j = i; · rw [e]; exact hp
                     · exact h.2 j (by omega)⟩
theorem zgo {α : Type} {V : Vw α} {p : α -> Bool} {l : List α} {i : Nat} (hi : i < l.length) (hp : p (zgr V l i) = false) : l.all p = false := by
 rw [List.all_eq_false]
 exact ⟨l[i], List.getElem_mem _, by rw [zab hi] at hp; rw [hp]; decide⟩
theorem zlj {α : Type} {V : Vw α} {p : α -> Bool} {l : List α} {i : Nat} (h : zsm V p l i) (hi : l.length <= i) : l.all p = true := by
 rw [List.all_eq_true]
 intro x hx
 obtain ⟨j, hj, rfl⟩ := List.getElem_of_mem hx
 have := h.2 j (by omega)
 rwa [zab hj] at this
def toLs (l : List Ls) (i : Nat) : Prop := zsm lsV zd9 l i
def toRt (l : List Rt) (i : Nat) : Prop := zsm rtV zeh l i
def toCl (l : List Cl) (i : Nat) : Prop := zsm clV ze2 l i
def yr5 {α : Type} (l : List α) (i : Nat) : Nat := l.length - i
def yrm (l : List Ls) (i : Nat) : Nat := yr5 l i
def goRt (l : List Rt) (i : Nat) : Nat := yr5 l i
def yn5 (l : List Cl) (i : Nat) : Nat := yr5 l i
def yp2 (L : za8) (y : Cf) : Nat -> St -> Option Ann := fun id st => match id with
 | 0 => some ⟨Nat, fun i => [(20, .int .i64 (L zbd i))], fun i => [], [1, 18, 19], [1], fun i => L2 L toLs (L Cf.ls y) i, fun i => L2 L yrm (L Cf.ls y) i⟩
 | 2 => zqo st 20 fun k => some ⟨Nat, fun j => [(37, .int .i64 (L zbd j))], fun j => [], [1, 18, 19, 20, 35, 36], [1], fun j => L2 L toRt (L Ls.rs (L2 L za6 (L Cf.ls y) (L Int.toNat k))) j, fun j => L2 L goRt (L Ls.rs (L2 L za6 (L Cf.ls y) (L Int.toNat k))) j⟩
 | 4 => some ⟨Nat, fun i => [(57, .int .i64 (L zbd i))], fun i => [], [55, 56], [], fun i => L2 L toCl (L Cf.cs y) i, fun i => L2 L yn5 (L Cf.cs y) i⟩
 | _ => none
theorem zkt {x : Cf} (h : x.ls.all zd9 = false) : zbc x = false := by unfold zbc; rw [h]; simp
theorem zpf {x : Cf} (h : x.cs.all ze2 = false) : zbc x = false := by unfold zbc; rw [h]; simp
theorem yev {x : Ls} (h : 300 < (x.n.length : Int)) : zd9 x = false := by unfold zd9; rw [decide_eq_false (p := x.n.length <= 300) (by omega)]; simp
theorem yeu {x : Ls} (h : 12 < (x.rs.length : Int)) : zd9 x = false := by unfold zd9; rw [decide_eq_false (p := x.rs.length <= 12) (by omega)]; simp
theorem yew {x : Ls} (h : x.rs.all zeh = false) : zd9 x = false := by unfold zd9; rw [h]; simp
theorem yet {x : Ls} (h1 : (x.n.length : Int) <= 300) (h2 : (x.rs.length : Int) <= 12) (h : x.rs.all zeh = true) : zd9 x = true := by unfold zd9; rw [h, decide_eq_true (p := x.n.length <= 300) (by omega), decide_eq_true (p := x.rs.length <= 12) (by omega)]; rfl
theorem yez {x : Cl} (h : 300 < (x.n.length : Int)) : ze2 x = false := by unfold ze2; rw [decide_eq_false (p := x.n.length <= 300) (by omega)]; simp
theorem yf0 {x : Cl} (h : 12 < (x.es.length : Int)) : ze2 x = false := by unfold ze2; rw [decide_eq_false (p := x.es.length <= 12) (by omega)]; simp
theorem yey {x : Cl} (h1 : (x.n.length : Int) <= 300) (h2 : (x.es.length : Int) <= 12) : ze2 x = true := by unfold ze2; rw [decide_eq_true (p := x.n.length <= 300) (by omega), decide_eq_true (p := x.es.length <= 12) (by omega)]; rfl
theorem yer {x : Rt} (h : 300 < (x.h.length : Int) \/ 300 < (x.p.length : Int) \/ 300 < (x.c.length : Int)) : zeh x = false := by
 unfold zeh
 rcases h with h | h | h
 · rw [decide_eq_false (p := x.h.length <= 300) (by omega)]; simp
 · rw [decide_eq_false (p := x.p.length <= 300) (by omega)]; simp
 · rw [decide_eq_false (p := x.c.length <= 300) (by omega)]; simp
theorem yeq {x : Rt} (h1 : (x.h.length : Int) <= 300) (h2 : (x.p.length : Int) <= 300) (h3 : (x.c.length : Int) <= 300) : zeh x = true := by
 unfold zeh; rw [decide_eq_true (p := x.h.length <= 300) (by omega), decide_eq_true (p := x.p.length <= 300) (by omega), decide_eq_true (p := x.c.length <= 300) (by omega)]; rfl
theorem yex {x : Cf} (h1 : (x.ls.length : Int) <= 12) (h2 : (x.cs.length : Int) <= 12) (h3 : x.ls.all zd9 = true) (h4 : x.cs.all ze2 = true) : zbc x = true := by
 unfold zbc; rw [h3, h4, decide_eq_true (p := x.ls.length <= 12) (by omega), decide_eq_true (p := x.cs.length <= 12) (by omega)]; rfl
def yjn (x : Cf) : Prop := True
theorem zwa : zb6 Tryz.prog (prS 9 zcr zac zbc yjn std) := by
 intro xs p r h hp
 dsimp only [prS] at h |-
 split at h <;> cases h
 try simp only [L2, L3, std] at hp |-
 rename_i x
 refine zmy zc1 hp.1 ?_
 have hp := hp.2
 show za7 _ _ _ (.bool (zbc (rdG cfV x)))
 have hp : yjn (rdG cfV x) := hp
 generalize rdG cfV x = y at hp |-
 refine za4 (T := tt) (S := noS) (lo := fun L => yp2 L y) (lb := noA) 5 (fn := Tryz.f9) (xs := fun L => [.agg [.int .u64 (L Cf.v y), zem L (L Cf.ls y), ze0 L (L Cf.cs y)]]) rfl rfl (by kernel_rfl) (by kernel_rfl) rfl za9 (zbb _) (by kernel_rfl) ?_
 intro L P' Q' hL hP hQ
 (cbv; try simp only [syT, true_and, and_true])
 refine ⟨fun h => ?_, fun h => ⟨⟨0, ?_⟩, fun i hi => ?_⟩⟩
 · (subst hL; subst hQ; simp only [L2, L3, std] at *; try simp only [syS, reduceCtorEq, Int.reduceToNat, Int.reduceAdd, Int.reduceSub] at *)
   simp only [zbc]
   have e1 : zan y.ls = y.ls.length := rfl
   have e2 : zan y.cs = y.cs.length := rfl
   by_cases h1 : y.ls.length <= 12
   · rw [decide_eq_false (p := y.cs.length <= 12) (by omega)]; simp
   · rw [decide_eq_false h1]; simp
 · (cbv; try simp only [syT, true_and, and_true])
   (subst hL; subst hQ; simp only [L2, L3, std] at *; try simp only [syS, reduceCtorEq, Int.reduceToNat, Int.reduceAdd, Int.reduceSub] at *)
   exact zsl _ _ _
 · cbv at hi
   (cbv; try simp only [syT, true_and, and_true])
   have e1 : zan y.ls = y.ls.length := rfl
   have e2 : zan y.cs = y.cs.length := rfl
   refine ⟨fun hlt => ⟨?_, fun h1 => ?_, fun h1 => ⟨fun h2 => ?_, fun h2 => ⟨⟨0, ?_⟩, fun j hj => ?_⟩⟩⟩, fun hge => ⟨⟨0, ?_⟩, fun k hk => ?_⟩⟩
   · (subst hL; subst hQ; simp only [L2, L3, std] at *; try simp only [syS, reduceCtorEq, Int.reduceToNat, Int.reduceAdd, Int.reduceSub] at *)
     omega
   · (subst hL; subst hQ; simp only [L2, L3, std] at *; try simp only [syS, reduceCtorEq, Int.reduceToNat, Int.reduceAdd, Int.reduceSub] at *)
     exact (zkt (zgo (V := lsV) (i := i) (by omega) (yev h1))).symm
   · (subst hL; subst hQ; simp only [L2, L3, std] at *; try simp only [syS, reduceCtorEq, Int.reduceToNat, Int.reduceAdd, Int.reduceSub] at *)
     exact (zkt (zgo (V := lsV) (i := i) (by omega) (yeu h2))).symm
   · (cbv; try simp only [syT, true_and, and_true])
     (subst hL; subst hQ; simp only [L2, L3, std] at *; try simp only [syS, reduceCtorEq, Int.reduceToNat, Int.reduceAdd, Int.reduceSub] at *)
     exact zsl _ _ _
   · cbv at hj
     (cbv; try simp only [syT, true_and, and_true])
     have e3 : ∀ z : Ls, zan z.rs = z.rs.length := fun _ => rfl
     refine ⟨fun hlt2 => ⟨?_, fun h3 => ?_, fun h3 => ⟨j + 1, ?_⟩⟩, fun hge2 => ⟨i + 1, ?_⟩⟩
     · (subst hL; subst hQ; simp only [L2, L3, std] at *; try simp only [syS, reduceCtorEq, Int.reduceToNat, Int.reduceAdd, Int.reduceSub] at *)
       omega
     · (subst hL; subst hQ; simp only [L2, L3, std] at *; try simp only [syS, reduceCtorEq, Int.reduceToNat, Int.reduceAdd, Int.reduceSub] at *)
       have e4 := e3 (za6 y.ls i)
       exact (zkt (zgo (V := lsV) (i := i) (by omega) (yew (zgo (V := rtV) (i := j) (by show j < (za6 y.ls i).rs.length; omega) (yer (by
         show 300 < ((zb3 (za6 y.ls i).rs j).h.length : Int) \/ 300 < ((zb3 (za6 y.ls i).rs j).p.length : Int) \/ 300 < ((zb3 (za6 y.ls i).rs j).c.length : Int)
         omega)))))).symm
     · (cbv; try simp only [syT, true_and, and_true])
       (subst hL; subst hQ; simp only [L2, L3, std] at *; try simp only [syS, reduceCtorEq, Int.reduceToNat, Int.reduceAdd, Int.reduceSub] at *)
       have e4 := e3 (za6 y.ls i)
       refine ⟨by omega, zj4 hj (by omega) (yeq ?_ ?_ ?_), ?_⟩
       · show ((zb3 (za6 y.ls i).rs j).h.length : Int) <= 300
         omega
       · show ((zb3 (za6 y.ls i).rs j).p.length : Int) <= 300
         omega
       · show ((zb3 (za6 y.ls i).rs j).c.length : Int) <= 300
         omega
       · show (za6 y.ls i).rs.length - (j + 1) < (za6 y.ls i).rs.length - j
         omega
     · (cbv; try simp only [syT, true_and, and_true])
       (subst hL; subst hQ; simp only [L2, L3, std] at *; try simp only [syS, reduceCtorEq, Int.reduceToNat, Int.reduceAdd, Int.reduceSub] at *)
       have e4 := e3 (za6 y.ls i)
       refine ⟨by omega, zj4 hi (by omega) (yet h1 (by show ((za6 y.ls i).rs.length : Int) <= 12; omega) (zlj hj (by show (za6 y.ls i).rs.length <= j; omega))), ?_⟩
       show y.ls.length - (i + 1) < y.ls.length - i
       omega
   · (cbv; try simp only [syT, true_and, and_true])
     (subst hL; subst hQ; simp only [L2, L3, std] at *; try simp only [syS, reduceCtorEq, Int.reduceToNat, Int.reduceAdd, Int.reduceSub] at *)
     exact zsl _ _ _
   · cbv at hk
     (cbv; try simp only [syT, true_and, and_true])
     have e3 : ∀ z : Cl, zan z.es = z.es.length := fun _ => rfl
     refine ⟨fun hlt2 => ⟨?_, fun h3 => ?_, fun h3 => ⟨fun h4 => ?_, fun h4 => ⟨k + 1, ?_⟩⟩⟩, fun hge2 => ?_⟩
     · (subst hL; subst hQ; simp only [L2, L3, std] at *; try simp only [syS, reduceCtorEq, Int.reduceToNat, Int.reduceAdd, Int.reduceSub] at *)
       omega
     · (subst hL; subst hQ; simp only [L2, L3, std] at *; try simp only [syS, reduceCtorEq, Int.reduceToNat, Int.reduceAdd, Int.reduceSub] at *)
       exact (zpf (zgo (V := clV) (i := k) (by omega) (yez h3))).symm
     · (subst hL; subst hQ; simp only [L2, L3, std] at *; try simp only [syS, reduceCtorEq, Int.reduceToNat, Int.reduceAdd, Int.reduceSub] at *)
       exact (zpf (zgo (V := clV) (i := k) (by omega) (yf0 h4))).symm
     · (cbv; try simp only [syT, true_and, and_true])
       (subst hL; subst hQ; simp only [L2, L3, std] at *; try simp only [syS, reduceCtorEq, Int.reduceToNat, Int.reduceAdd, Int.reduceSub] at *)
       refine ⟨by omega, zj4 hk (by omega) (yey h3 h4), ?_⟩
       show y.cs.length - (k + 1) < y.cs.length - k
       omega
     · (subst hL; subst hQ; simp only [L2, L3, std] at *; try simp only [syS, reduceCtorEq, Int.reduceToNat, Int.reduceAdd, Int.reduceSub] at *)
       exact (yex (by omega) (by omega) (zlj hi (by omega)) (zlj hk (by omega))).symm
end Sy
end Go.Proofs.YthppjaoicibeiaaGreatDoor
namespace Go.Proofs.YthppjaoicibeiaaGreatDoor
namespace Sy
open Go Go.RowKit
set_option maxRecDepth 100000
set_option linter.unusedSimpArgs false
set_option linter.unusedVariables false
theorem plEq (x y : Pl) : x = y ↔ x.a = y.a /\ x.b = y.b /\ x.c = y.c /\ x.d = y.d /\ x.p = y.p := by cases x; cases y; simp
def goEp (l : List Ep) (i : Nat) : Nat := yr5 l i
end Sy
end Go.Proofs.YthppjaoicibeiaaGreatDoor
namespace Go.Proofs.YthppjaoicibeiaaGreatDoor
namespace Sy
open Go Go.RowKit
set_option maxRecDepth 100000
set_option linter.unusedSimpArgs false
set_option linter.unusedVariables false
def soZ (b : Bool) (e : Int) : Int := if b = true then e else 0
def ymy (L : za8) : zbv := (92, fun xs => match xs with | [.bool b, .int .i64 e] => some (True, .int .i64 (L2 L soZ b e)) | _ => none)
theorem zn9 : zb6 Tryz.prog (ymy std) := by
 intro xs p r h hp
 dsimp only [ymy] at h |-
 split at h <;> cases h
 try simp only [L2, L3, std] at hp |-
 rename_i b e
 refine zae (T := tt) (S := noS) (lo := noA) (lb := noA) 5 (fn := Tryz.f92) rfl rfl (by kernel_rfl) (by kernel_rfl) rfl za9 (zbb _) (by kernel_rfl) ?_
 (intro L P1 Q1 hL hP hQ; cbv; subst hL; simp only [L2, L3, std, syT]; subst hQ)
 (simp only [syS, reduceCtorEq, Int.reduceToNat, Int.reduceAdd, Int.reduceSub])
 exact ⟨fun h => (if_pos h).symm, fun h => (if_neg (by rw [h]; decide)).symm⟩
def zwb (l : List Int) : Nat := l.length
def rdJ : AV -> List Int
 | .lst _ n get => (List.range n).map fun i => (get i 0).toI
 | _ => []
def okJ : AV -> Prop
 | .lst sz n get => sz = 1 /\ ∀ i, i < n -> ∃ x, get i 0 = .int .i64 x
 | .nils => True
 | _ => False
def yn1 (L : za8) (l : List Int) : AV := .lst 1 (L zwb l) (fun i _ => .int .i64 (L2 L zdc l i))
theorem ztn (n i : Nat) (f : Nat -> Int) (h : i < n) : zdc ((List.range n).map f) i = f i := by
 rw [zdc, List.getD_eq_getElem?_getD, List.getElem?_map, List.getElem?_range h]; rfl
theorem yof {h : Array Obj} {D : Nat -> Prop} {μ : Mu} {x : AV} {v : Value} (ho : okJ x) (r : R h D μ x v) : R h D μ (yn1 std (rdJ x)) v := by
 match x, ho with
 | .nils, _ => cases r; exact .lst0 _ _ none 0 (fun _ => rfl)
 | .lst sz n get, ho =>
   obtain ⟨rfl, ho⟩ := ho
   have e : yn1 std (rdJ (.lst 1 n get)) = .lst 1 n (fun i _ => .int .i64 (zdc (rdJ (.lst 1 n get)) i)) := by
     show AV.lst 1 (zwb (rdJ (.lst 1 n get))) _ = _
     rw [show zwb (rdJ (.lst 1 n get)) = n by simp [rdJ, zwb]]; rfl
   rw [e]
   refine znt r fun i j hi hj => ?_
   have : j = 0 := by omega
   subst this
   obtain ⟨x, hx⟩ := ho i hi
   rw [hx, rdJ, ztn _ _ _ hi, hx]; rfl
theorem yu9 {P : Program} {f : FuncId} {x r : AV} {q : List AV} (ho : okJ x) (h : za7 P f (yn1 std (rdJ x) :: q) r) : za7 P f (x :: q) r :=
 zdl (fun h D vs hr => yh2 (fun v => yof ho) hr) h
def zom : List Int -> Int
 | [] => 0
 | a :: l => if a ≠ 0 then a else zom l
def yti (l : List Int) (i : Nat) : Prop := i <= l.length /\ zom l = zom (l.drop i)
def ytj (l : List Int) (i : Nat) : Nat := l.length - i
theorem yhh {l : List Int} {i : Nat} (h : i < l.length) : zom (l.drop i) = if zdc l i ≠ 0 then zdc l i else zom (l.drop (i + 1)) := by
 rw [List.drop_eq_getElem_cons h, zom, zdc, List.getD_eq_getElem?_getD, List.getElem?_eq_getElem h]; rfl
def zwn (L : za8) : zbv := (90, fun xs => match xs with | [x] => some (L okJ x /\ L (fun l : List Int => l.length <= 1000000) (L rdJ x), .int .i64 (L zom (L rdJ x))) | _ => none)
def firA (L : za8) (l : List Int) : Nat -> St -> Option Ann := fun id st => match id with
 | 0 => some ⟨Nat, fun i => [(7, .int .i64 (L zbd i))], fun i => [], [5, 6], [], fun i => L2 L yti l i, fun i => L2 L ytj l i⟩
 | _ => none
theorem zjs : zb6 Tryz.prog (zwn std) := by
 intro xs p r h hp
 dsimp only [zwn] at h |-
 split at h <;> cases h
 try simp only [L2, L3, std] at hp |-
 rename_i x
 obtain ⟨ho, hp⟩ := hp
 refine yu9 ho ?_
 have hp : (rdJ x).length <= 1000000 := hp
 show za7 _ _ _ (.int .i64 (zom (rdJ x)))
 generalize rdJ x = l at hp |-
 refine za4 (T := tt) (S := noS) (lo := fun L => firA L l) (lb := noA) 5 (fn := Tryz.f90) (xs := fun L => [yn1 L l]) rfl rfl (by kernel_rfl) (by kernel_rfl) rfl za9 (zbb _) (by kernel_rfl) ?_
 intro L P' Q' hL hP hQ
 (cbv; try simp only [syT, true_and, and_true])
 refine ⟨⟨0, ?_⟩, fun i hi => ?_⟩
 · (cbv; try simp only [syT, true_and, and_true])
   (subst hL; subst hQ; simp only [L2, L3, std] at *; try simp only [syS, reduceCtorEq, Int.reduceToNat, Int.reduceAdd, Int.reduceSub] at *)
   exact ⟨Nat.zero_le _, rfl⟩
 · cbv at hi
   (cbv; try simp only [syT, true_and, and_true])
   have hl : zwb l = l.length := rfl
   repeat' first | refine And.intro ?_ ?_ | refine fun (hh : (_ : Bool) = _) => ?_
   all_goals try (refine ⟨i + 1, ?_⟩; (cbv; try simp only [syT, true_and, and_true]))
   all_goals (subst hL; subst hQ; simp only [L2, L3, std] at *; try simp only [syS, reduceCtorEq, Int.reduceToNat, Int.reduceAdd, Int.reduceSub] at *)
   all_goals first
     | exact ⟨by omega, by omega⟩
     | (have q := hi.2
        rw [yhh (by omega), if_pos (by assumption)] at q
        exact q.symm)
     | (have q := hi.2
        rw [yhh (by omega), if_neg (fun h => h (by assumption))] at q
        refine ⟨by omega, ⟨by omega, q⟩, ?_⟩
        show l.length - (i + 1) + 1 <= l.length - i
        omega)
     | (have q := hi.2
        rw [List.drop_eq_nil_of_le (by omega)] at q
        exact q.symm)
     | skip
end Sy
end Go.Proofs.YthppjaoicibeiaaGreatDoor
namespace Go.Proofs.YthppjaoicibeiaaGreatDoor
namespace Sy
open Go Go.RowKit
set_option maxRecDepth 100000
set_option linter.unusedSimpArgs false
set_option linter.unusedVariables false
def rdT : AV -> List (List UInt8)
 | .lst _ n get => (List.range n).map fun i => match get i 0 with | .str s => s | _ => []
 | _ => []
def okT : AV -> Prop
 | .lst sz n get => sz = 1 /\ ∀ i, i < n -> ∃ x, get i 0 = .str x
 | .nils => True
 | _ => False
theorem yod {h : Array Obj} {D : Nat -> Prop} {μ : Mu} {x : AV} {v : Value} (ho : okT x) (r : R h D μ x v) : R h D μ (yel std (rdT x)) v := by
 match x, ho with
 | .nils, _ => cases r; exact .lst0 _ _ none 0 (fun _ => rfl)
 | .lst sz n get, ho =>
   obtain ⟨rfl, ho⟩ := ho
   have e : yel std (rdT (.lst 1 n get)) = .lst 1 n (fun i _ => .str (ze8 (rdT (.lst 1 n get)) i)) := by
     show AV.lst 1 (zhr (rdT (.lst 1 n get))) _ = _
     rw [show zhr (rdT (.lst 1 n get)) = n by simp [rdT, zhr]]; rfl
   rw [e]
   refine znt r fun i j hi hj => ?_
   have : j = 0 := by omega
   subst this
   obtain ⟨x, hx⟩ := ho i hi
   rw [hx, rdT, ze8, List.getD_eq_getElem?_getD, List.getElem?_map, List.getElem?_range hi]
   simp only [Option.map_some, Option.getD_some, hx]
theorem yqw {P : Program} {f : FuncId} {x r : AV} {q : List AV} (ho : okT x) (h : za7 P f (yel std (rdT x) :: q) r) : za7 P f (x :: q) r :=
 zdl (fun h D vs hr => yh2 (fun v => yod ho) hr) h
def ixT : List (List UInt8) -> List UInt8 -> Nat -> Int
 | [], _, _ => -1
 | a :: l, s, i => if s = a then i else ixT l s (i + 1)
def yri (l : List (List UInt8)) (s : List UInt8) : Int := ixT l s 0
theorem yaa : ∀ (l : List (List UInt8)) (s : List UInt8) (i : Nat), 0 <= ixT l s i ↔ s ∈ l
 | [], s, i => by simp [ixT]
 | a :: l, s, i => by
   unfold ixT
   split
   · rename_i h
     exact ⟨fun _ => by simp [h], fun _ => Int.natCast_nonneg _⟩
   · rename_i h
     rw [yaa l s (i + 1)]
     simp [h]
def ixTo (l : List (List UInt8)) (s : List UInt8) (i : Nat) : Prop := i <= l.length /\ yri l s = ixT (l.drop i) s i
def ixMu (l : List (List UInt8)) (i : Nat) : Nat := l.length - i
theorem yp9 {l : List (List UInt8)} {s : List UInt8} {i : Nat} (h : i < l.length) : ixT (l.drop i) s i = if s = ze8 l i then (i : Int) else ixT (l.drop (i + 1)) s (i + 1) := by
 rw [List.drop_eq_getElem_cons h, ixT, ze8, List.getD_eq_getElem?_getD, List.getElem?_eq_getElem h]; rfl
def yp4 (l : List (List UInt8)) : Prop := l.length <= 1000000
def yhb (l : List (List UInt8)) (s : List UInt8) : Bool := decide (0 <= yri l s)
theorem ztt (l : List (List UInt8)) (s : List UInt8) : yhb l s = true ↔ s ∈ l := decide_eq_true_iff.trans (yaa l s 0)
def yiv (L : za8) : zbv := (181, fun xs => match xs with | [x, .str s] => some (L okT x /\ L yp4 (L rdT x), .int .i64 (L2 L yri (L rdT x) s)) | _ => none)
def yj0 (L : za8) : zbv := (141, fun xs => match xs with | [x, .str s] => some (L okT x /\ L yp4 (L rdT x), .bool (L2 L yhb (L rdT x) s)) | _ => none)
def sixA (L : za8) (l : List (List UInt8)) (s : List UInt8) : Nat -> St -> Option Ann := fun id st => match id with
 | 0 => some ⟨Nat, fun i => [(8, .int .i64 (L zbd i))], fun i => [], [0, 1, 6, 7], [], fun i => L3 L ixTo l s i, fun i => L2 L ixMu l i⟩
 | _ => none
theorem znf (l : List (List UInt8)) : rdT (.lst 1 (zhr l) fun i _ => .str (ze8 l i)) = l /\ okT (.lst 1 (zhr l) fun i _ => .str (ze8 l i)) := by
 refine ⟨?_, rfl, fun i _ => ⟨_, rfl⟩⟩
 unfold rdT
 apply List.ext_getElem
 · simp [zhr]
 · intro i h1 h2
   simp only [List.getElem_map, List.getElem_range]
   rw [ze8, List.getD_eq_getElem?_getD, List.getElem?_eq_getElem h2]; rfl
theorem yda : zb6 Tryz.prog (yiv std) := by
 intro xs p r h hp
 dsimp only [yiv] at h |-
 split at h <;> cases h
 try simp only [L2, L3, std] at hp |-
 rename_i x s
 obtain ⟨ho, hp⟩ := hp
 refine yqw ho ?_
 have hp : (rdT x).length <= 1000000 := hp
 show za7 _ _ _ (.int .i64 (yri (rdT x) s))
 generalize rdT x = l at hp |-
 refine za4 (T := tt) (S := noS) (lo := fun L => sixA L l s) (lb := noA) 5 (fn := Tryz.f181) (xs := fun L => [yel L l, .str s]) rfl rfl (by kernel_rfl) (by kernel_rfl) rfl za9 (zbb _) (by kernel_rfl) ?_
 intro L P' Q' hL hP hQ
 (cbv; try simp only [syT, true_and, and_true])
 refine ⟨⟨0, ?_⟩, fun i hi => ?_⟩
 · (cbv; try simp only [syT, true_and, and_true])
   (subst hL; subst hQ; simp only [L2, L3, std] at *; try simp only [syS, reduceCtorEq, Int.reduceToNat, Int.reduceAdd, Int.reduceSub] at *)
   exact ⟨Nat.zero_le _, rfl⟩
 · cbv at hi
   (cbv; try simp only [syT, true_and, and_true])
   have hl : zhr l = l.length := rfl
   repeat' first | refine And.intro ?_ ?_ | refine fun (hh : (_ : Bool) = _) => ?_
   all_goals try (refine ⟨i + 1, ?_⟩; (cbv; try simp only [syT, true_and, and_true]))
   all_goals (subst hL; subst hQ; simp only [L2, L3, std] at *; try simp only [syS, reduceCtorEq, Int.reduceToNat, Int.reduceAdd, Int.reduceSub] at *)
   all_goals first
     | exact ⟨by omega, by omega⟩
     | (have q := hi.2
        rw [yp9 (by omega), if_pos (by assumption)] at q
        exact q.symm)
     | (have q := hi.2
        rw [yp9 (by omega), if_neg (by assumption)] at q
        refine ⟨by omega, ⟨by omega, q⟩, ?_⟩
        show l.length - (i + 1) + 1 <= l.length - i
        omega)
     | (have q := hi.2
        rw [List.drop_eq_nil_of_le (by omega)] at q
        exact q.symm)
theorem ydd : zb6 Tryz.prog (yj0 std) := by
 intro xs p r h hp
 dsimp only [yj0] at h |-
 split at h <;> cases h
 try simp only [L2, L3, std] at hp |-
 rename_i x s
 obtain ⟨ho, hp⟩ := hp
 refine yqw ho ?_
 have hp : yp4 (rdT x) := hp
 show za7 _ _ _ (.bool (yhb (rdT x) s))
 generalize rdT x = l at hp |-
 refine za4 (T := tt) (S := fun L => zat [yiv L]) (lo := fun _ => noA std) (lb := noA) 5 (fn := Tryz.f141) (xs := fun L => [yel L l, .str s]) rfl rfl (by kernel_rfl) (by kernel_rfl) rfl za9 (za3 ⟨yda, trivial⟩) (by kernel_rfl) ?_
 intro L P' Q' hL hP hQ
 (cbv; try simp only [syT, true_and, and_true])
 (subst hL; subst hQ; simp only [L2, L3, std] at *; try simp only [syS, reduceCtorEq, Int.reduceToNat, Int.reduceAdd, Int.reduceSub] at *)
 rw [(znf l).1]
 refine ⟨⟨(znf l).2, hp⟩, ?_⟩
 rfl
def yjz (s : List UInt8) (l : List (List UInt8)) : Int := if zgs s = false then 4 else if yhb l s = true then 11 else 0
def ye9 (L : za8) : zbv := (91, fun xs => match xs with | [.str s, x] => some (L okT x /\ L yp4 (L rdT x), .int .i64 (L2 L yjz s (L rdT x))) | _ => none)
theorem ztq : zb6 Tryz.prog (ye9 std) := by
 intro xs p r h hp
 dsimp only [ye9] at h |-
 split at h <;> cases h
 try simp only [L2, L3, std] at hp |-
 rename_i s x
 obtain ⟨ho, hp⟩ := hp
 refine zdl (fun h D vs hr => yo6 (fun v => yod ho) hr) ?_
 have hp : yp4 (rdT x) := hp
 show za7 _ _ [.str s, yel std (rdT x)] (.int .i64 (yjz s (rdT x)))
 generalize rdT x = l at hp |-
 refine za4 (T := tt) (S := fun L => zat [ztr L, yj0 L]) (lo := fun _ => noA std) (lb := noA) 5 (fn := Tryz.f91) (xs := fun L => [.str s, yel L l]) rfl rfl (by kernel_rfl) (by kernel_rfl) rfl za9 (za3 ⟨zpb, ydd, trivial⟩) (by kernel_rfl) ?_
 intro L P' Q' hL hP hQ
 (cbv; try simp only [syT, true_and, and_true])
 (subst hL; subst hQ; simp only [L2, L3, std] at *; try simp only [syS, reduceCtorEq, Int.reduceToNat, Int.reduceAdd, Int.reduceSub] at *)
 rw [(znf l).1]
 refine ⟨fun h => (if_pos h).symm, fun h => ⟨⟨(znf l).2, hp⟩, fun k => ?_, fun k => ?_⟩⟩
 · exact ((if_neg (by rw [h]; decide)).trans (if_pos k)).symm
 · exact ((if_neg (by rw [h]; decide)).trans (if_neg (by rw [k]; decide))).symm
end Sy
end Go.Proofs.YthppjaoicibeiaaGreatDoor
namespace Go.Proofs.YthppjaoicibeiaaGreatDoor
namespace Sy
open Go Go.RowKit
set_option maxRecDepth 100000
set_option linter.unusedSimpArgs false
set_option linter.unusedVariables false
def dgI (n : Int) : List UInt8 := zcw (n % 18446744073709551616)
theorem zs7 (n : Int) : (dgI n).length <= 20 := by
 unfold dgI zcw
 rw [Lib.decDigits_length]
 generalize hN : (n % 18446744073709551616).toNat = N
 have hN2 : N < 18446744073709551616 := by omega
 by_cases h0 : N = 0
 · subst h0; rw [Lib.nDigits_small (by decide)]; decide
 · have := Lib.numDigits_eq N (by omega) hN2
   split at this <;> omega
def whZ (w : List UInt8) (l : List Int) : List UInt8 := Lib.join (w :: l.map dgI) [32]
def yi2 (w : List UInt8) (l : List Int) : Prop := w.length <= 100 /\ l.length <= 2
theorem yne (w : List UInt8) (i : Int) : whZ w [i] = w ++ ([32] ++ dgI i) := by
 unfold whZ
 rw [Lib.join_cons]
 simp [Lib.joinTail]
theorem yry (w : List UInt8) (i k : Int) : whZ w [i, k] = w ++ ([32] ++ (dgI i ++ ([32] ++ dgI k))) := by
 unfold whZ
 rw [Lib.join_cons]
 simp [Lib.joinTail]
theorem yi1 {w : List UInt8} {l : List Int} (h : yi2 w l) : (whZ w l).length <= 200 := by
 obtain ⟨h1, h2⟩ := h
 match l, h2 with
 | [], _ =>
   rw [whZ, List.map_nil, Lib.join_one]; omega
 | [i], _ =>
   have := zs7 i
   rw [yne]
   simp only [List.length_append, List.length_cons, List.length_nil]
   omega
 | [i, k], _ =>
   have := zs7 i
   have := zs7 k
   rw [yry]
   simp only [List.length_append, List.length_cons, List.length_nil]
   omega
def ycp (i : Nat) : Nat := i + 1
def wps (w : List UInt8) (l : List Int) (i : Nat) : List (List UInt8) := w :: (l.take i).map dgI
def leJ (l : List Int) (i : Nat) : Prop := i <= l.length
def goJ (l : List Int) (i : Nat) : Nat := l.length - i
theorem ynd {w : List UInt8} {l : List Int} {i : Nat} (h : i < l.length) (q : Nat) : ze8 (wps w l (i + 1)) q = if q = i + 1 then dgI (zdc l i) else ze8 (wps w l i) q := by
 have e : wps w l (i + 1) = wps w l i ++ [dgI (zdc l i)] := by
   rw [wps, wps, List.take_succ_eq_append_getElem h, List.map_append, zdc, List.getD_eq_getElem?_getD, List.getElem?_eq_getElem h]; rfl
 have hl : (wps w l i).length = i + 1 := by simp [wps]; omega
 rw [e, ze8, ze8, List.getD_eq_getElem?_getD, List.getD_eq_getElem?_getD]
 by_cases hq : q < i + 1
 · rw [if_neg (by omega), List.getElem?_append_left (by omega)]
 · rw [List.getElem?_append_right (by omega)]
   by_cases hq2 : q = i + 1
   · rw [if_pos hq2, hl, hq2, Nat.sub_self]; rfl
   · rw [if_neg hq2, hl, List.getElem?_eq_none (by simp; omega), List.getElem?_eq_none (by omega)]
theorem zzc (l : List (List UInt8)) {n : Nat} (h : n = l.length) : zcd n (fun q _ => .str (ze8 l q)) = l := by
 subst h
 unfold zcd
 apply List.ext_getElem
 · simp
 · intro i h1 h2
   simp only [List.getElem_map, List.getElem_range]
   show ze8 l i = _
   rw [ze8, List.getD_eq_getElem?_getD, List.getElem?_eq_getElem h2]; rfl
theorem zxp {w : List UInt8} {l : List Int} {i : Nat} (h : i = l.length) (ho : yi2 w l) : yrh [32] (.lst 1 (ycp i) (fun q _ => .str (ze8 (wps w l i) q))) /\ jnZ [32] (.lst 1 (ycp i) (fun q _ => .str (ze8 (wps w l i) q))) = whZ w l := by
 subst h
 have e : zcd (ycp l.length) (fun q _ => .str (ze8 (wps w l l.length) q)) = w :: l.map dgI := by
   rw [zzc (wps w l l.length) (by simp [wps, ycp]), wps, List.take_length]
 have hl := yi1 ho
 have h2 := ho.2
 refine ⟨⟨fun i _ => ⟨_, rfl⟩, by show l.length + 1 <= 1000000; omega, ?_⟩, ?_⟩
 · rw [e]
   show (whZ w l).length <= _
   omega
 · show Lib.join (zcd _ _) _ = _
   rw [e]; rfl
def yi0 (L : za8) : zbv := (48, fun xs => match xs with | [.str w, x] => some (L okJ x /\ L2 L yi2 w (L rdJ x), .str (L2 L whZ w (L rdJ x))) | _ => none)
def wheA (L : za8) (w : List UInt8) (l : List Int) : Nat -> St -> Option Ann := fun id st => match id with
 | 0 => some ⟨Nat, fun i => [(12, .int .i64 (L zbd i)), (5, .sl 900 1 0 (L ycp i))], fun i => [(900, .row 9 1 (L ycp i) (fun q _ => .str (L2 L ze8 (L3 L wps w l i) q)))], [10, 11], [], fun i => L2 L leJ l i, fun i => L2 L goJ l i⟩
 | _ => none
theorem yd0 : zb6 Tryz.prog (yi0 std) := by
 intro xs p r h hp
 dsimp only [yi0] at h |-
 split at h <;> cases h
 try simp only [L2, L3, std] at hp |-
 rename_i w x
 obtain ⟨ho, hp⟩ := hp
 refine zdl (fun h D vs hr => yo6 (fun v => yof ho) hr) ?_
 have hp : yi2 w (rdJ x) := hp
 show za7 _ _ [.str w, yn1 std (rdJ x)] (.str (whZ w (rdJ x)))
 generalize rdJ x = l at hp |-
 refine za4 (T := tt) (S := fun L => zat [yfu L, yrg L]) (lo := fun L => wheA L w l) (lb := noA) 5 (fn := Tryz.f48) (xs := fun L => [.str w, yn1 L l]) rfl rfl (by kernel_rfl) (by kernel_rfl) rfl za9 (za3 ⟨zui, ya9, trivial⟩) (by kernel_rfl) ?_
 intro L P' Q' hL hP hQ
 (cbv; try simp only [syT, true_and, and_true])
 refine ⟨⟨0, ?_⟩, fun i hi => ?_⟩
 · (cbv; try simp only [syT, true_and, and_true])
   (subst hL; subst hQ; simp only [L2, L3, std] at *; try simp only [syS, reduceCtorEq, Int.reduceToNat, Int.reduceAdd, Int.reduceSub] at *)
   exact ⟨⟨rfl, fun _ _ _ _ => rfl⟩, rfl, Nat.zero_le _⟩
 · cbv at hi
   (cbv; try simp only [syT, true_and, and_true])
   have hl : zwb l = l.length := rfl
   repeat' first | refine And.intro ?_ ?_ | refine fun (hh : (_ : Bool) = _) => ?_
   all_goals try (refine ⟨i + 1, ?_⟩; (cbv; try simp only [syT, true_and, and_true]))
   all_goals (subst hL; subst hQ; simp only [L2, L3, std] at *; try simp only [syS, reduceCtorEq, Int.reduceToNat, Int.reduceAdd, Int.reduceSub] at *)
   all_goals have hi : i <= l.length := hi
   all_goals have hp2 : l.length <= 2 := hp.2
   · omega
   · exact ⟨by omega, by omega⟩
   · have : ycp i = i + 1 := rfl
     omega
   · refine ⟨⟨rfl, fun a b ha hb => ?_⟩, rfl, by omega, by show i + 1 <= l.length; omega, by show l.length - (i + 1) + 1 <= l.length - i; omega⟩
     have ha : a < i + 1 + 1 := ha
     rw [ynd (by omega)]
     by_cases h : a < i + 1
     · rw [zlf (show a < ycp i from h), if_neg (by omega)]; rfl
     · obtain rfl : a = i + 1 := by omega
       rw [zoh (show ¬ i + 1 < ycp i from h), if_pos rfl, show i + 1 - ycp i = 0 from Nat.sub_self _]; rfl
   · exact (zxp (by omega) hp).1
   · exact (zxp (by omega) hp).2
end Sy
end Go.Proofs.YthppjaoicibeiaaGreatDoor
namespace Go.Proofs.YthppjaoicibeiaaGreatDoor
namespace Sy
open Go Go.RowKit
set_option maxRecDepth 100000
set_option linter.unusedSimpArgs false
set_option linter.unusedVariables false
def zph (x : Cf) : Prop := zh3 x.ls /\ zh3 x.cs /\ (∀ l ∈ x.ls, zh3 l.rs) /\ ∀ c ∈ x.cs, zh3 c.es
theorem yic {y : Cf} (hp : zph y) {i : Nat} (hi : i < y.ls.length) : (za6 y.ls i).rs.length <= 1000000 := hp.2.2.1 _ (by rw [za6, zab (V := lsV) hi]; exact List.getElem_mem _)
theorem yid {y : Cf} (hp : zph y) {i : Nat} (hi : i < y.cs.length) : (zaf y.cs i).es.length <= 1000000 := hp.2.2.2 _ (by rw [zaf, zab (V := clV) hi]; exact List.getElem_mem _)
end Sy
end Go.Proofs.YthppjaoicibeiaaGreatDoor
namespace Go.Proofs.YthppjaoicibeiaaGreatDoor
namespace Sy
open Go Go.RowKit
set_option maxRecDepth 100000
set_option linter.unusedSimpArgs false
set_option linter.unusedVariables false
end Sy
end Go.Proofs.YthppjaoicibeiaaGreatDoor
namespace Go.Proofs.YthppjaoicibeiaaGreatDoor
namespace Sy
open Go Go.RowKit
set_option maxRecDepth 100000
set_option linter.unusedSimpArgs false
set_option linter.unusedVariables false
end Sy
end Go.Proofs.YthppjaoicibeiaaGreatDoor
namespace Go.Proofs.YthppjaoicibeiaaGreatDoor
namespace Sy
open Go Go.RowKit
set_option maxRecDepth 100000
set_option linter.unusedSimpArgs false
set_option linter.unusedVariables false
def ycw {α : Type} (d : α) (nm : α -> List UInt8) (s : List UInt8) : List α -> α × Bool
 | [] => (d, false)
 | a :: l => if nm a = s then (a, true) else ycw d nm s l
theorem zub {α : Type} {d : α} {nm : α -> List UInt8} {s : List UInt8} : ∀ l : List α, (ycw d nm s l).2 = l.any (fun a => decide (nm a = s))
 | [] => rfl
 | a :: l => by
   rw [ycw, List.any_cons]
   split
   · rename_i h; simp [h]
   · rename_i h; rw [zub l]; simp [h]
def yn6 (l : List Cl) (s : List UInt8) : Cl := (ycw ⟨[], []⟩ Cl.n s l).1
def zl5 (l : List Cl) (s : List UInt8) : Bool := (ycw ⟨[], []⟩ Cl.n s l).2
def ypl (l : List Cl) (s : List UInt8) (i : Nat) : Prop := i <= l.length /\ ycw ⟨[], []⟩ Cl.n s l = ycw ⟨[], []⟩ Cl.n s (l.drop i)
theorem yav {l : List Cl} {s : List UInt8} {i : Nat} (h : i < l.length) : ycw ⟨[], []⟩ Cl.n s (l.drop i) = if (zaf l i).n = s then (zaf l i, true) else ycw ⟨[], []⟩ Cl.n s (l.drop (i + 1)) := by
 rw [List.drop_eq_getElem_cons h, ycw, zaf, zab (V := clV) h]
def cluA (L : za8) (y : Cf) (s : List UInt8) : Nat -> St -> Option Ann := fun id st => match id with
 | 0 => some ⟨Nat, fun i => [(11, .int .i64 (L zbd i))], fun i => [], [1, 4, 5, 9, 10], [4], fun i => L3 L ypl (L Cf.cs y) s i, fun i => L2 L yn5 (L Cf.cs y) i⟩
 | _ => none
def ylt (L : za8) : zbv := (11, fun xs => match xs with
 | [x, .str s] => some (L zcr x /\ L zph (L zac x), .tup [.agg [.str (L Cl.n (L2 L yn6 (L Cf.cs (L zac x)) s)), zgu L (L Cl.es (L2 L yn6 (L Cf.cs (L zac x)) s))], .bool (L2 L zl5 (L Cf.cs (L zac x)) s)])
 | _ => none)
theorem yg4 : zb6 Tryz.prog (ylt std) := by
 intro xs p r h hp
 dsimp only [ylt] at h |-
 split at h <;> cases h
 try simp only [L2, L3, std] at hp |-
 rename_i x s
 obtain ⟨ho, hp⟩ := hp
 refine zmy zc1 ho ?_
 have hp : zph (zac x) := hp
 show za7 _ _ [.agg [.int .u64 (zac x).v, zem std (zac x).ls, ze0 std (zac x).cs], .str s] (.tup [.agg [.str (yn6 (zac x).cs s).n, zgu std (yn6 (zac x).cs s).es], .bool (zl5 (zac x).cs s)])
 generalize zac x = y at hp |-
 have hz : y.cs.length <= 1000000 := hp.2.1
 refine za4 (T := tt) (S := noS) (lo := fun L => cluA L y s) (lb := noA) 5 (fn := Tryz.f11) (xs := fun L => [.agg [.int .u64 (L Cf.v y), zem L (L Cf.ls y), ze0 L (L Cf.cs y)], .str s]) rfl rfl (by kernel_rfl) (by kernel_rfl) rfl za9 (zbb _) (by kernel_rfl) ?_
 intro L P' Q' hL hP hQ
 (cbv; try simp only [syT, true_and, and_true])
 have e2 : zan y.cs = y.cs.length := rfl
 refine ⟨⟨0, ?_⟩, fun i hi => ?_⟩
 · (cbv; try simp only [syT, true_and, and_true])
   (subst hL; subst hQ; simp only [L2, L3, std] at *; try simp only [syS, reduceCtorEq, Int.reduceToNat, Int.reduceAdd, Int.reduceSub] at *)
   exact ⟨Nat.zero_le _, rfl⟩
 · cbv at hi
   (cbv; try simp only [syT, true_and, and_true])
   repeat' first | refine And.intro ?_ ?_ | refine fun (hh : (_ : Bool) = _) => ?_
   all_goals try (refine ⟨i + 1, ?_⟩; (cbv; try simp only [syT, true_and, and_true]))
   all_goals (subst hL; subst hQ; simp only [L2, L3, std] at *; try simp only [syS, reduceCtorEq, Int.reduceToNat, Int.reduceAdd, Int.reduceSub] at *)
   · exact ⟨by omega, by omega⟩
   · have q := hi.2
     rw [yav (by omega), if_pos (by assumption)] at q
     rw [show yn6 y.cs s = zaf y.cs i from congrArg Prod.fst q, show zl5 y.cs s = true from congrArg Prod.snd q]
     unfold zgu
     rw [zgk, zci]
     exact ⟨⟨rfl, ⟨rfl, fun _ _ _ _ => rfl⟩, trivial⟩, rfl⟩
   · have q := hi.2
     rw [yav (by omega), if_neg (by assumption)] at q
     refine ⟨by omega, ⟨by omega, q⟩, ?_⟩
     show y.cs.length - (i + 1) + 1 <= y.cs.length - i
     omega
   · have q := hi.2
     rw [List.drop_eq_nil_of_le (by omega)] at q
     rw [show yn6 y.cs s = ⟨[], []⟩ from congrArg Prod.fst q, show zl5 y.cs s = false from congrArg Prod.snd q]
     unfold zgu
     rw [zgj, zci]
     exact ⟨⟨rfl, rfl, trivial⟩, rfl⟩
end Sy
end Go.Proofs.YthppjaoicibeiaaGreatDoor
namespace Go.Proofs.YthppjaoicibeiaaGreatDoor
namespace Sy
open Go Go.RowKit
set_option maxRecDepth 100000
set_option linter.unusedSimpArgs false
set_option linter.unusedVariables false
def upM (n : Nat) : Prop := n <= 1000000
def toM {α : Type} (l : List α) (i : Nat) : Nat := l.length - i
def mkRt (L : za8) (h p c : List UInt8) (i : Int) : Rt := L (L (L (L Rt.mk h) p) c) i
def mkEp (L : za8) (a b c d q w : Int) : Ep := L (L Ep.mk (zw4 L a b c d q)) w
def rtP (r x : Rt) : Bool := decide (zit x.h = zit r.h) && decide (x.p = r.p)
def rt2 (r x : Rt) : Prop := r.h.length <= 1000000 /\ x.h.length <= 1000000
def epP (r x : Ep) : Bool := decide (x.pl = r.pl)
def ep2 (r x : Ep) : Prop := True
def yo1 (r : Rt) (l : List Rt) : Int := zlp (rtP r) l
def yq2 (r : Ep) (l : List Ep) : Int := zlp (epP r) l
def zqz (r : Rt) (l : List Rt) : Bool := l.any (rtP r)
def zs2 (r : Ep) (l : List Ep) : Bool := l.any (epP r)
def rt2L (r : Rt) (l : List Rt) : Prop := ∀ x ∈ l, rt2 r x
def ytl (r : Ep) (l : List Ep) : Prop := ∀ x ∈ l, ep2 r x
def rtNo (r : Rt) (l : List Rt) (i : Nat) : Prop := zkl (rtP r) l i
def epNo (r : Ep) (l : List Ep) (i : Nat) : Prop := zkl (epP r) l i
def yrr {α : Type} (f ty : Nat) (mk : List AV -> Option α) (p : α -> α -> Bool) (pre : α -> α -> Prop) (L : za8) : zk0 := (f, fun raw ob => match raw with
 | [.agg xs, .ref k 0] => match mk xs, ob k with
   | some x, some (.box _ ys) => match mk ys with
     | some r => some ⟨[.agg xs, .ref 500000 0], [(500000, .box ty ys)], L2 L pre r x, .bool (L2 L p r x), [(500000, .box ty ys)]⟩
     | none => none
   | _, _ => none
 | _ => none)
def yrl {α : Type} (f g ty sz : Nat) (mk : List AV -> Option α) (ok : AV -> Prop) (rd : AV -> List α) (p : α -> List α -> Int) (pre : α -> List α -> Prop) (L : za8) : zk0 := (f, fun raw ob => match raw with
 | [.lst s n get, .fn k [] [.ref q 0]] => match zaj k g, zaj s sz, ob q with
   | true, true, some (.box _ ys) => match mk ys with
     | some r => some ⟨[.lst sz n get, .fn g [] [.ref 500000 0]], [(500000, .box ty ys)], L ok (.lst sz n get) /\ L upM n /\ L2 L pre r (L rd (.lst sz n get)), .int .i64 (L2 L p r (L rd (.lst sz n get))), [(500000, .box ty ys)]⟩
     | none => none
   | _, _, _ => none
 | _ => none)
def yrt {α : Type} (f g ty sz : Nat) (mk : List AV -> Option α) (ok : AV -> Prop) (rd : AV -> List α) (p : α -> List α -> Bool) (pre : α -> List α -> Prop) (L : za8) : zk0 := (f, fun raw ob => match raw with
 | [.lst s n get, .fn k [] [.ref q 0]] => match zaj k g, zaj s sz, ob q with
   | true, true, some (.box _ ys) => match mk ys with
     | some r => some ⟨[.lst sz n get, .fn g [] [.ref 500000 0]], [(500000, .box ty ys)], L ok (.lst sz n get) /\ L upM n /\ L2 L pre r (L rd (.lst sz n get)), .bool (L2 L p r (L rd (.lst sz n get))), [(500000, .box ty ys)]⟩
     | none => none
   | _, _, _ => none
 | _ => none)
def ynz (L : za8) : List AV -> Option Rt
 | [.str h, .str p, .str c, .int .u64 d] => some (mkRt L h p c d)
 | _ => none
def zyt (L : za8) (y : Rt) : List AV := [.str (L Rt.h y), .str (L Rt.p y), .str (L Rt.c y), .int .u64 (L Rt.i y)]
def yq0 (L : za8) : List AV -> Option Ep
 | [.int .u8 a, .int .u8 b, .int .u8 c, .int .u8 d, .int .u16 q, .int .i64 w] => some (mkEp L a b c d q w)
 | _ => none
def ybd (L : za8) (y : Ep) : List AV := [.int .u8 (L Pl.a (L Ep.pl y)), .int .u8 (L Pl.b (L Ep.pl y)), .int .u8 (L Pl.c (L Ep.pl y)), .int .u8 (L Pl.d (L Ep.pl y)), .int .u16 (L Pl.p (L Ep.pl y)), .int .i64 (L Ep.w y)]
theorem zqy {xs : List AV} {y : Rt} (h : ynz std xs = some y) : xs = zyt std y := by
 unfold ynz at h
 split at h <;> cases h
 rfl
theorem zs1 {xs : List AV} {y : Ep} (h : yq0 std xs = some y) : xs = ybd std y := by
 unfold yq0 at h
 split at h <;> cases h
 rfl
theorem ybr {α : Type} {f ty : Nat} {mk : List AV -> Option α} {cs : α -> List AV} {p : α -> α -> Bool} {pre : α -> α -> Prop} {P : Program} (hm : ∀ xs y, mk xs = some y -> xs = cs y)
   (h : ∀ r x, pre r x -> zbh P f [.agg (cs x), .ref 500000 0] [(500000, .box ty (cs r))] (.bool (p r x)) [(500000, .box ty (cs r))]) : zdd P (yrr f ty mk p pre std) := by
 intro raw ob T hT hp
 unfold yrr at hT
 simp only at hT
 split at hT
 rotate_left
 · cases hT
 split at hT
 rotate_left
 · cases hT
 rename_i h1 h2
 split at hT
 rotate_left
 · cases hT
 rename_i h3
 cases hT
 obtain rfl := hm _ _ h1
 obtain rfl := hm _ _ h3
 exact h _ _ hp
theorem yam {α : Type} {V : Vw α} (K : zmz V) {f g ty : Nat} {mk : List AV -> Option α} {cs : α -> List AV} {ok : AV -> Prop} {rd : AV -> List α} {p : α -> List α -> Int} {pre : α -> List α -> Prop} {P : Program} (e1 : ok = okW V) (e2 : rd = rdW V) (hm : ∀ xs y, mk xs = some y -> xs = cs y)
   (h : ∀ r l, l.length <= 1000000 -> pre r l -> zbh P f [zu1 std V l, .fn g [] [.ref 500000 0]] [(500000, .box ty (cs r))] (.int .i64 (p r l)) [(500000, .box ty (cs r))]) : zdd P (yrl f g ty V.sz mk ok rd p pre std) := by
 intro raw ob T hT hp
 unfold yrl at hT
 simp only at hT
 split at hT
 rotate_left
 · cases hT
 rename_i s n get k q
 split at hT
 rotate_left
 · cases hT
 split at hT
 rotate_left
 · cases hT
 rename_i r hr
 cases hT
 obtain rfl := hm _ _ hr
 subst e1; subst e2
 obtain ⟨ho, hn, hq⟩ := hp
 have ho : okW V (.lst V.sz n get) := ho
 refine zkp (fun h D μ vs hr => yh2 (fun v => znl K ho) hr) ?_
 have hl : (rdW V (.lst V.sz n get)).length = n := zik _ _ _ _
 exact h r _ (by rw [hl]; exact hn) hq
theorem ycd {α : Type} {V : Vw α} (K : zmz V) {f g ty : Nat} {mk : List AV -> Option α} {cs : α -> List AV} {ok : AV -> Prop} {rd : AV -> List α} {p : α -> List α -> Bool} {pre : α -> List α -> Prop} {P : Program} (e1 : ok = okW V) (e2 : rd = rdW V) (hm : ∀ xs y, mk xs = some y -> xs = cs y)
   (h : ∀ r l, l.length <= 1000000 -> pre r l -> zbh P f [zu1 std V l, .fn g [] [.ref 500000 0]] [(500000, .box ty (cs r))] (.bool (p r l)) [(500000, .box ty (cs r))]) : zdd P (yrt f g ty V.sz mk ok rd p pre std) := by
 intro raw ob T hT hp
 unfold yrt at hT
 simp only at hT
 split at hT
 rotate_left
 · cases hT
 rename_i s n get k q
 split at hT
 rotate_left
 · cases hT
 split at hT
 rotate_left
 · cases hT
 rename_i r hr
 cases hT
 obtain rfl := hm _ _ hr
 subst e1; subst e2
 obtain ⟨ho, hn, hq⟩ := hp
 have ho : okW V (.lst V.sz n get) := ho
 refine zkp (fun h D μ vs hr => yh2 (fun v => znl K ho) hr) ?_
 have hl : (rdW V (.lst V.sz n get)).length = n := zik _ _ _ _
 exact h r _ (by rw [hl]; exact hn) hq
def yo2 (L : za8) : zk0 := yrr 94 52 (ynz L) rtP rt2 L
def yq3 (L : za8) : zk0 := yrr 100 54 (yq0 L) epP ep2 L
def yo0 (L : za8) : zk0 := yrl 142 94 52 4 (ynz L) zre zjd yo1 rt2L L
def yq1 (L : za8) : zk0 := yrl 147 100 54 6 (yq0 L) zje zgp yq2 ytl L
def yo3 (L : za8) : zk0 := yrt 93 94 52 4 (ynz L) zre zjd zqz rt2L L
def yq4 (L : za8) : zk0 := yrt 99 100 54 6 (yq0 L) zje zgp zs2 ytl L
def ixfA {α : Type} (L : za8) (no : α -> List α -> Nat -> Prop) (r : α) (l : List α) : Nat -> St -> Option Ann := fun id st => match id with
 | 0 => some ⟨Nat, fun i => [(8, .int .i64 (L zbd i))], fun i => [], [0, 1, 6, 7], [500000], fun i => L (L (L no r) l) i, fun i => L2 L toM l i⟩
 | _ => none
theorem yny {r x : Rt} (hp : rt2 r x) : upto 1000000000 x.h /\ upto 1000000000 r.h /\ (zit x.h = zit r.h -> seq x.p r.p = rtP r x) /\ (¬zit x.h = zit r.h -> false = rtP r x) := by
 refine ⟨?_, ?_, fun h => ?_, fun h => ?_⟩
 · have := hp.2
   show _ <= 1000000000
   omega
 · have := hp.1
   show _ <= 1000000000
   omega
 · rw [rtP, decide_eq_true h, Bool.true_and, Bool.eq_iff_iff]; simp [seq]
 · rw [rtP, decide_eq_false h]; rfl
theorem ypz (r x : Ep) : (ieq x.pl.a r.pl.a && (ieq x.pl.b r.pl.b && (ieq x.pl.c r.pl.c && (ieq x.pl.d r.pl.d && true))) && (ieq x.pl.p r.pl.p && true)) = epP r x := by
 rw [Bool.eq_iff_iff]
 simp only [ieq, epP, Bool.and_eq_true, decide_eq_true_eq, beq_iff_eq, plEq, and_true]
 simp [and_assoc]
theorem zvk : zdd Tryz.prog (yo2 std) := by
 refine ybr (cs := zyt std) (fun _ _ => zqy) fun r x hp => ?_
 refine zal (T := tt) (S := fun L => zbw [znv L] []) (lo := noA) (lb := noA) 5 (fn := Tryz.f94) (xs := fun L => [.agg (zyt L x), .ref 500000 0]) (rts := fun L => [.bool (L2 L rtP r x)]) (O := fun L => [(500000, .box 52 (zyt L r))]) (O1 := fun L => [(500000, .box 52 (zyt L r))]) rfl rfl (by kernel_rfl) (by kernel_rfl) (by kernel_rfl) za9 (zap ⟨zmh, trivial⟩ trivial) (by kernel_rfl) ?_
 intro L P' Q' hL hP hQ
 (cbv; try simp only [syT, true_and, and_true])
 (subst hL; subst hQ; simp only [L2, L3, std] at *; try simp only [syS, reduceCtorEq, Int.reduceToNat, Int.reduceAdd, Int.reduceSub] at *)
 exact yny hp
theorem zws : zdd Tryz.prog (yq3 std) := by
 refine ybr (cs := ybd std) (fun _ _ => zs1) fun r x hp => ?_
 refine zal (T := tt) (S := fun L => zbw [] []) (lo := noA) (lb := noA) 5 (fn := Tryz.f100) (xs := fun L => [.agg (ybd L x), .ref 500000 0]) (rts := fun L => [.bool (L2 L epP r x)]) (O := fun L => [(500000, .box 54 (ybd L r))]) (O1 := fun L => [(500000, .box 54 (ybd L r))]) rfl rfl (by kernel_rfl) (by kernel_rfl) (by kernel_rfl) za9 (zap trivial trivial) (by kernel_rfl) ?_
 intro L P' Q' hL hP hQ
 (cbv; try simp only [syT, true_and, and_true])
 (subst hL; subst hQ; simp only [L2, L3, std] at *; try simp only [syS, reduceCtorEq, Int.reduceToNat, Int.reduceAdd, Int.reduceSub] at *)
 exact ypz r x
theorem zvj : zdd Tryz.prog (yo0 std) := by
 refine yam zdw rfl rfl (cs := zyt std) (fun _ _ => zqy) fun r l hz hp => ?_
 refine zal (T := tt) (S := fun L => zbw [] [yo2 L]) (lo := fun L => ixfA L rtNo r l) (lb := noA) 5 (fn := Tryz.f142) (xs := fun L => [znu L l, .fn 94 [] [.ref 500000 0]]) (rts := fun L => [.int .i64 (L2 L yo1 r l)]) (O := fun L => [(500000, .box 52 (zyt L r))]) (O1 := fun L => [(500000, .box 52 (zyt L r))]) rfl rfl (by kernel_rfl) (by kernel_rfl) (by kernel_rfl) za9 (zap trivial ⟨zvk, trivial⟩) (by kernel_rfl) ?_
 intro L P' Q' hL hP hQ
 have hE : ∀ y : Rt, L (L (L (L Rt.mk (L Rt.h y)) (L Rt.p y)) (L Rt.c y)) (L Rt.i y) = y := by subst hL; intro y; rfl
 (cbv; try simp only [syT, true_and, and_true])
 refine ⟨⟨0, ?_⟩, fun i hi => ?_⟩
 · (cbv; try simp only [syT, true_and, and_true])
   (subst hL; subst hQ; simp only [L2, L3, std] at *; try simp only [syS, reduceCtorEq, Int.reduceToNat, Int.reduceAdd, Int.reduceSub] at *)
   exact ziq _ _
 · have hi2 : rtNo r l i := by
     have h := hi
     rw [hL] at h
     exact h
   clear hi
   (cbv; try simp only [syT, true_and, and_true])
   simp only [hE]
   have hl : zan l = l.length := rfl
   refine ⟨fun hlt => ⟨?_, ?_, fun hb => ?_, fun hb => ⟨i + 1, ?_⟩⟩, fun hge => ?_⟩
   · (subst hL; subst hQ; simp only [L2, L3, std] at *; try simp only [syS, reduceCtorEq, Int.reduceToNat, Int.reduceAdd, Int.reduceSub] at *)
     omega
   · (subst hL; subst hQ; simp only [L2, L3, std] at *; try simp only [syS, reduceCtorEq, Int.reduceToNat, Int.reduceAdd, Int.reduceSub] at *)
     exact hp _ (by rw [zb3, zab (V := rtV) (by omega)]; exact List.getElem_mem _)
   · (subst hL; subst hQ; simp only [L2, L3, std] at *; try simp only [syS, reduceCtorEq, Int.reduceToNat, Int.reduceAdd, Int.reduceSub] at *)
     exact (zev (V := rtV) hi2 (by omega) hb).symm
   · (cbv; try simp only [syT, true_and, and_true])
     try simp only [hE]
     (subst hL; subst hQ; simp only [L2, L3, std] at *; try simp only [syS, reduceCtorEq, Int.reduceToNat, Int.reduceAdd, Int.reduceSub] at *)
     exact ⟨by omega, zdp (V := rtV) hi2 (by omega) hb, by show l.length - (i + 1) + 1 <= l.length - i; omega⟩
   · (subst hL; subst hQ; simp only [L2, L3, std] at *; try simp only [syS, reduceCtorEq, Int.reduceToNat, Int.reduceAdd, Int.reduceSub] at *)
     exact (zew hi2 (by omega)).symm
theorem zwr : zdd Tryz.prog (yq1 std) := by
 refine yam zcj rfl rfl (cs := ybd std) (fun _ _ => zs1) fun r l hz hp => ?_
 refine zal (T := tt) (S := fun L => zbw [] [yq3 L]) (lo := fun L => ixfA L epNo r l) (lb := noA) 5 (fn := Tryz.f147) (xs := fun L => [zgu L l, .fn 100 [] [.ref 500000 0]]) (rts := fun L => [.int .i64 (L2 L yq2 r l)]) (O := fun L => [(500000, .box 54 (ybd L r))]) (O1 := fun L => [(500000, .box 54 (ybd L r))]) rfl rfl (by kernel_rfl) (by kernel_rfl) (by kernel_rfl) za9 (zap trivial ⟨zws, trivial⟩) (by kernel_rfl) ?_
 intro L P' Q' hL hP hQ
 have hE : ∀ y : Ep, L (L Ep.mk (zw4 L (L Pl.a (L Ep.pl y)) (L Pl.b (L Ep.pl y)) (L Pl.c (L Ep.pl y)) (L Pl.d (L Ep.pl y)) (L Pl.p (L Ep.pl y)))) (L Ep.w y) = y := by subst hL; intro y; rfl
 (cbv; try simp only [syT, true_and, and_true])
 refine ⟨⟨0, ?_⟩, fun i hi => ?_⟩
 · (cbv; try simp only [syT, true_and, and_true])
   (subst hL; subst hQ; simp only [L2, L3, std] at *; try simp only [syS, reduceCtorEq, Int.reduceToNat, Int.reduceAdd, Int.reduceSub] at *)
   exact ziq _ _
 · have hi2 : epNo r l i := by
     have h := hi
     rw [hL] at h
     exact h
   clear hi
   (cbv; try simp only [syT, true_and, and_true])
   simp only [hE]
   have hl : zan l = l.length := rfl
   refine ⟨fun hlt => ⟨?_, ?_, fun hb => ?_, fun hb => ⟨i + 1, ?_⟩⟩, fun hge => ?_⟩
   · (subst hL; subst hQ; simp only [L2, L3, std] at *; try simp only [syS, reduceCtorEq, Int.reduceToNat, Int.reduceAdd, Int.reduceSub] at *)
     omega
   · (subst hL; subst hQ; simp only [L2, L3, std] at *; try simp only [syS, reduceCtorEq, Int.reduceToNat, Int.reduceAdd, Int.reduceSub] at *)
     exact hp _ (by rw [zcs, zab (V := epV) (by omega)]; exact List.getElem_mem _)
   · (subst hL; subst hQ; simp only [L2, L3, std] at *; try simp only [syS, reduceCtorEq, Int.reduceToNat, Int.reduceAdd, Int.reduceSub] at *)
     exact (zev (V := epV) hi2 (by omega) hb).symm
   · (cbv; try simp only [syT, true_and, and_true])
     try simp only [hE]
     (subst hL; subst hQ; simp only [L2, L3, std] at *; try simp only [syS, reduceCtorEq, Int.reduceToNat, Int.reduceAdd, Int.reduceSub] at *)
     exact ⟨by omega, zdp (V := epV) hi2 (by omega) hb, by show l.length - (i + 1) + 1 <= l.length - i; omega⟩
   · (subst hL; subst hQ; simp only [L2, L3, std] at *; try simp only [syS, reduceCtorEq, Int.reduceToNat, Int.reduceAdd, Int.reduceSub] at *)
     exact (zew hi2 (by omega)).symm
theorem zvl : zdd Tryz.prog (yo3 std) := by
 refine ycd zdw rfl rfl (cs := zyt std) (fun _ _ => zqy) fun r l hz hp => ?_
 refine zal (T := tt) (S := fun L => zbw [] [yo0 L]) (lo := fun L => noA L) (lb := noA) 5 (fn := Tryz.f93) (xs := fun L => [znu L l, .fn 94 [] [.ref 500000 0]]) (rts := fun L => [.bool (L2 L zqz r l)]) (O := fun L => [(500000, .box 52 (zyt L r))]) (O1 := fun L => [(500000, .box 52 (zyt L r))]) rfl rfl (by kernel_rfl) (by kernel_rfl) (by kernel_rfl) za9 (zap trivial ⟨zvj, trivial⟩) (by kernel_rfl) ?_
 intro L P' Q' hL hP hQ
 have hE : ∀ y : Rt, L (L (L (L Rt.mk (L Rt.h y)) (L Rt.p y)) (L Rt.c y)) (L Rt.i y) = y := by subst hL; intro y; rfl
 (cbv; try simp only [syT, true_and, and_true])
 simp only [hE]
 (subst hL; subst hQ; simp only [L2, L3, std] at *; try simp only [syS, reduceCtorEq, Int.reduceToNat, Int.reduceAdd, Int.reduceSub] at *)
 simp only [yjb]
 refine ⟨⟨yjt _, hz, hp⟩, ?_⟩
 have := zfd (rtP r) l
 rw [zmm, show zqz r l = l.any (rtP r) from rfl, <- this]; rfl
theorem zwt : zdd Tryz.prog (yq4 std) := by
 refine ycd zcj rfl rfl (cs := ybd std) (fun _ _ => zs1) fun r l hz hp => ?_
 refine zal (T := tt) (S := fun L => zbw [] [yq1 L]) (lo := fun L => noA L) (lb := noA) 5 (fn := Tryz.f99) (xs := fun L => [zgu L l, .fn 100 [] [.ref 500000 0]]) (rts := fun L => [.bool (L2 L zs2 r l)]) (O := fun L => [(500000, .box 54 (ybd L r))]) (O1 := fun L => [(500000, .box 54 (ybd L r))]) rfl rfl (by kernel_rfl) (by kernel_rfl) (by kernel_rfl) za9 (zap trivial ⟨zwr, trivial⟩) (by kernel_rfl) ?_
 intro L P' Q' hL hP hQ
 have hE : ∀ y : Ep, L (L Ep.mk (zw4 L (L Pl.a (L Ep.pl y)) (L Pl.b (L Ep.pl y)) (L Pl.c (L Ep.pl y)) (L Pl.d (L Ep.pl y)) (L Pl.p (L Ep.pl y)))) (L Ep.w y) = y := by subst hL; intro y; rfl
 (cbv; try simp only [syT, true_and, and_true])
 simp only [hE]
 (subst hL; subst hQ; simp only [L2, L3, std] at *; try simp only [syS, reduceCtorEq, Int.reduceToNat, Int.reduceAdd, Int.reduceSub] at *)
 simp only [zz2]
 refine ⟨⟨zzi _, hz, hp⟩, ?_⟩
 have := zfd (epP r) l
 rw [zmm, show zs2 r l = l.any (epP r) from rfl, <- this]; rfl
end Sy
end Go.Proofs.YthppjaoicibeiaaGreatDoor
namespace Go.Proofs.YthppjaoicibeiaaGreatDoor
namespace Sy
open Go Go.RowKit
set_option maxRecDepth 100000
set_option linter.unusedSimpArgs false
set_option linter.unusedVariables false
def zu2 (x : Ls) (a : List Ls) : Int := zom [yjz x.n (a.map Ls.n), soZ (decide (x.pl.p = 0)) 7, soZ (a.any fun y => zma y.pl x.pl) 13, soZ (decide (x.rs.length = 0)) 12]
def yg6 (x : Cl) (a : List Cl) : Int := zom [yjz x.n (a.map Cl.n), soZ (decide (x.es.length = 0)) 12]
def yn0 (x : Ep) : Bool := decide (x.pl.p = 0) || (zft x.pl || (decide (x.w < 1) || decide (100 < x.w)))
def yfr (x : Ep) (a : List Ep) : Int := zom [soZ (yn0 x) 7, soZ (zs2 x a) 11]
noncomputable def zp0 (c : Cf) (x : Rt) (a : List Rt) : Int := zom [zl0 x.h, zvy x.p, soZ (!zl5 c.cs x.c) 12, soZ (zqz x a) 11]
def zzs (x : Ls) (l : List Ls) (i : Nat) : Bool := (l.take i).any fun y => zma y.pl x.pl
def leM {α : Type} (l : List α) (i : Nat) : Prop := i <= l.length
def ya4 (l : List Ls) (i : Nat) : Prop := leM l i
def ya5 (l : List Cl) (i : Nat) : Prop := leM l i
def lsnA (L : za8) (x : Ls) (l : List Ls) : Nat -> St -> Option Ann := fun id st => match id with
 | 0 => some ⟨Nat, fun i => [(11, .int .i64 (L zbd i)), (5, .sl 900 1 0 i), (6, .bool (L3 L zzs x l i))], fun i => [(900, .row 9 1 i (fun q _ => .str (L Ls.n (L2 L za6 l q))))], [2, 9, 10], [2], fun i => L2 L ya4 l i, fun i => L2 L yrm l i⟩
 | _ => none
theorem ype (a b : Int) : ieq a b = decide (a = b) := by simp [ieq, Bool.beq_eq_decide_eq]
theorem yf9 (n : Nat) : ieq (n : Int) 0 = decide (n = 0) := by
 rw [ype, decide_eq_decide]; omega
theorem zmf {x : Ls} {l : List Ls} {i : Nat} (h : i < l.length) : zzs x l (i + 1) = (zzs x l i || zma (za6 l i).pl x.pl) := by
 unfold zzs
 rw [List.take_succ_eq_append_getElem h, List.any_append, za6, zab (V := lsV) h]; simp
theorem zzo {α : Type} (f : Nat -> List UInt8) (g : α -> List UInt8) (l : List α) {n : Nat} (hn : n = l.length) (h : ∀ i (hi : i < l.length), f i = g l[i]) : okT (.lst 1 n fun q _ => .str (f q)) /\ rdT (.lst 1 n fun q _ => .str (f q)) = l.map g := by
 subst hn
 refine ⟨⟨rfl, fun i _ => ⟨_, rfl⟩⟩, ?_⟩
 unfold rdT
 apply List.ext_getElem
 · simp
 · intro i h1 h2
   simp only [List.getElem_map, List.getElem_range]
   exact h i (by simpa using h1)
theorem zgi (l : List Int) {n : Nat} (hn : n = l.length) : okJ (.lst 1 n fun q _ => .int .i64 (zdc l q)) /\ rdJ (.lst 1 n fun q _ => .int .i64 (zdc l q)) = l := by
 subst hn
 refine ⟨⟨rfl, fun i _ => ⟨_, rfl⟩⟩, ?_⟩
 unfold rdJ
 apply List.ext_getElem
 · simp
 · intro i h1 h2
   simp only [List.getElem_map, List.getElem_range]
   show zdc l i = _
   rw [zdc, List.getD_eq_getElem?_getD, List.getElem?_eq_getElem h2]; rfl
theorem zr4 (f : Nat -> List UInt8) (i q : Nat) (hq : q < i + 1) : zgx std (zbm q i) (AV.str (f q)) (AV.str (ze8 [f i] (q - i))) = AV.str (f q) := by
 by_cases h : q < i
 · rw [zlf h]; rfl
 · obtain rfl : q = i := by omega
   rw [zoh (by omega), Nat.sub_self]; rfl
theorem zo6 {l m : List Int} {n : Nat} (hn : n = l.length) (h : l = m) (h2 : n <= 100) : (okJ (.lst 1 n fun q _ => .int .i64 (zdc l q)) /\ (rdJ (.lst 1 n fun q _ => .int .i64 (zdc l q))).length <= 1000000) /\ zom (rdJ (.lst 1 n fun q _ => .int .i64 (zdc l q))) = zom m := by
 obtain ⟨h3, h4⟩ := zgi l hn
 refine ⟨⟨h3, ?_⟩, ?_⟩
 · rw [h4]; omega
 · rw [h4, h]
def yk7 (L : za8) : zbv := (49, fun xs => match xs with
 | [x, y] => some (L zki x /\ L znm y /\ L zh3 (L zhg y), .int .i64 (L2 L zu2 (L zhh x) (L zhg y)))
 | _ => none)
theorem yen : zb6 Tryz.prog (yk7 std) := by
 intro xs p r h hp
 dsimp only [yk7] at h |-
 split at h <;> cases h
 try simp only [L2, L3, std] at hp |-
 rename_i x y
 obtain ⟨ho, ho2, hz⟩ := hp
 refine zmy zct ho (ymn zct ho2 ?_)
 have hz : zh3 (zhg y) := hz
 show za7 _ _ [.agg ((List.range 7).map (lsC std (zhh x))), zem std (zhg y)] (.int .i64 (zu2 (zhh x) (zhg y)))
 generalize zhh x = z at hz |-
 generalize zhg y = l at hz |-
 have hz : l.length <= 1000000 := hz
 refine za4 (T := tt) (S := fun L => zat [ymy L, zwn L, ye9 L, zzv L]) (lo := fun L => lsnA L z l) (lb := noA) 5 (fn := Tryz.f49) (xs := fun L => [.agg [.str (L Ls.n z), .int .u8 (L Pl.a (L Ls.pl z)), .int .u8 (L Pl.b (L Ls.pl z)), .int .u8 (L Pl.c (L Ls.pl z)), .int .u8 (L Pl.d (L Ls.pl z)), .int .u16 (L Pl.p (L Ls.pl z)), znu L (L Ls.rs z)], zem L l]) rfl rfl (by kernel_rfl) (by kernel_rfl) rfl za9 (za3 ⟨zn9, zjs, ztq, zzw, trivial⟩) (by kernel_rfl) ?_
 intro L P' Q' hL hP hQ
 have hE2 : ∀ y : Pl, zw4 L (L Pl.a y) (L Pl.b y) (L Pl.c y) (L Pl.d y) (L Pl.p y) = y := by subst hL; intro y; rfl
 (cbv; try simp only [syT, true_and, and_true])
 have hl : zan l = l.length := rfl
 refine ⟨⟨0, ?_⟩, fun i hi => ?_⟩
 · (cbv; try simp only [syT, true_and, and_true])
   (subst hL; subst hQ; simp only [L2, L3, std] at *; try simp only [syS, reduceCtorEq, Int.reduceToNat, Int.reduceAdd, Int.reduceSub] at *)
   exact ⟨rfl, Nat.zero_le _⟩
 · cbv at hi
   (cbv; try simp only [syT, true_and, and_true])
   refine ⟨fun hlt => ⟨?_, ?_, fun hb => ⟨i + 1, ?_⟩, fun hb => ⟨i + 1, ?_⟩⟩, fun hge => ?_⟩
   · (subst hL; subst hQ; simp only [L2, L3, std] at *; try simp only [syS, reduceCtorEq, Int.reduceToNat, Int.reduceAdd, Int.reduceSub] at *)
     exact ⟨by omega, by omega⟩
   · (subst hL; subst hQ; simp only [L2, L3, std] at *; try simp only [syS, reduceCtorEq, Int.reduceToNat, Int.reduceAdd, Int.reduceSub] at *)
     exact ⟨by omega, by omega⟩
   · (cbv; try simp only [syT, true_and, and_true])
     (subst hL; subst hQ; simp only [L2, L3, std] at *; try simp only [syS, reduceCtorEq, Int.reduceToNat, Int.reduceAdd, Int.reduceSub] at *)
     refine ⟨fun a b ha hb => zr4 (fun q => (za6 l q).n) i a ha, ?_, by omega, by show i + 1 <= l.length; omega, by show l.length - (i + 1) + 1 <= l.length - i; omega⟩
     rw [zmf (by omega), hb]; rfl
   · (cbv; try simp only [syT, true_and, and_true])
     (subst hL; subst hQ; simp only [L2, L3, std] at *; try simp only [syS, reduceCtorEq, Int.reduceToNat, Int.reduceAdd, Int.reduceSub] at *)
     refine ⟨fun a b ha hb => zr4 (fun q => (za6 l q).n) i a ha, ?_, by omega, by show i + 1 <= l.length; omega, by show l.length - (i + 1) + 1 <= l.length - i; omega⟩
     rw [zmf (by omega), hb]; rfl
   · (subst hL; subst hQ; simp only [L2, L3, std] at *; try simp only [syS, reduceCtorEq, Int.reduceToNat, Int.reduceAdd, Int.reduceSub] at *)
     have hi : i <= l.length := hi
     obtain rfl : i = l.length := by omega
     obtain ⟨h1, h2⟩ := zzo (fun q => (za6 l q).n) Ls.n l rfl (fun i hi => by rw [za6, zab (V := lsV) hi])
     refine ⟨⟨h1, ?_⟩, zo6 (n := 4) rfl ?_ (by decide)⟩
     · show List.length _ <= _
       rw [h2, List.length_map]; exact hz
     · rw [h2, yf9, ype, zzs, List.take_length]; rfl
def clsA (L : za8) (x : Cl) (l : List Cl) : Nat -> St -> Option Ann := fun id st => match id with
 | 0 => some ⟨Nat, fun i => [(10, .int .i64 (L zbd i)), (5, .sl 900 1 0 i)], fun i => [(900, .row 9 1 i (fun q _ => .str (L Cl.n (L2 L zaf l q))))], [2, 8, 9], [2], fun i => L2 L ya5 l i, fun i => L2 L yn5 l i⟩
 | _ => none
def ylu (L : za8) : zbv := (51, fun xs => match xs with
 | [x, y] => some (L zgq x /\ L zin y /\ L zh3 (L zfn y), .int .i64 (L2 L yg6 (L zf7 x) (L zfn y)))
 | _ => none)
theorem yg5 : zb6 Tryz.prog (ylu std) := by
 intro xs p r h hp
 dsimp only [ylu] at h |-
 split at h <;> cases h
 try simp only [L2, L3, std] at hp |-
 rename_i x y
 obtain ⟨ho, ho2, hz⟩ := hp
 refine zmy zbu ho (ymn zbu ho2 ?_)
 have hz : zh3 (zfn y) := hz
 show za7 _ _ [.agg ((List.range 2).map (clC std (zf7 x))), ze0 std (zfn y)] (.int .i64 (yg6 (zf7 x) (zfn y)))
 generalize zf7 x = z at hz |-
 generalize zfn y = l at hz |-
 have hz : l.length <= 1000000 := hz
 refine za4 (T := tt) (S := fun L => zat [ymy L, zwn L, ye9 L]) (lo := fun L => clsA L z l) (lb := noA) 5 (fn := Tryz.f51) (xs := fun L => [.agg [.str (L Cl.n z), zgu L (L Cl.es z)], ze0 L l]) rfl rfl (by kernel_rfl) (by kernel_rfl) rfl za9 (za3 ⟨zn9, zjs, ztq, trivial⟩) (by kernel_rfl) ?_
 intro L P' Q' hL hP hQ
 (cbv; try simp only [syT, true_and, and_true])
 have hl : zan l = l.length := rfl
 refine ⟨⟨0, ?_⟩, fun i hi => ?_⟩
 · (cbv; try simp only [syT, true_and, and_true])
   (subst hL; subst hQ; simp only [L2, L3, std] at *; try simp only [syS, reduceCtorEq, Int.reduceToNat, Int.reduceAdd, Int.reduceSub] at *)
   exact Nat.zero_le _
 · cbv at hi
   (cbv; try simp only [syT, true_and, and_true])
   refine ⟨fun hlt => ⟨?_, ?_, ⟨i + 1, ?_⟩⟩, fun hge => ?_⟩
   · (subst hL; subst hQ; simp only [L2, L3, std] at *; try simp only [syS, reduceCtorEq, Int.reduceToNat, Int.reduceAdd, Int.reduceSub] at *)
     exact ⟨by omega, by omega⟩
   · (subst hL; subst hQ; simp only [L2, L3, std] at *; try simp only [syS, reduceCtorEq, Int.reduceToNat, Int.reduceAdd, Int.reduceSub] at *)
     exact ⟨by omega, by omega⟩
   · (cbv; try simp only [syT, true_and, and_true])
     (subst hL; subst hQ; simp only [L2, L3, std] at *; try simp only [syS, reduceCtorEq, Int.reduceToNat, Int.reduceAdd, Int.reduceSub] at *)
     exact ⟨fun a b ha hb => zr4 (fun q => (zaf l q).n) i a ha, by omega, by show i + 1 <= l.length; omega, by show l.length - (i + 1) + 1 <= l.length - i; omega⟩
   · (subst hL; subst hQ; simp only [L2, L3, std] at *; try simp only [syS, reduceCtorEq, Int.reduceToNat, Int.reduceAdd, Int.reduceSub] at *)
     have hi : i <= l.length := hi
     obtain rfl : i = l.length := by omega
     obtain ⟨h1, h2⟩ := zzo (fun q => (zaf l q).n) Cl.n l rfl (fun i hi => by rw [zaf, zab (V := clV) hi])
     refine ⟨⟨h1, ?_⟩, zo6 (n := 2) rfl ?_ (by decide)⟩
     · show List.length _ <= _
       rw [h2, List.length_map]; exact hz
     · rw [h2, yf9]; rfl
def ylg (L : za8) : zbv := (52, fun xs => match xs with
 | [x, y] => some (L zkj x /\ L zje y /\ L zh3 (L zgp y), .int .i64 (L2 L yfr (L zhi x) (L zgp y)))
 | _ => none)
theorem yfq : zb6 Tryz.prog (ylg std) := by
 intro xs p r h hp
 dsimp only [ylg] at h |-
 split at h <;> cases h
 try simp only [L2, L3, std] at hp |-
 rename_i x y
 obtain ⟨ho, ho2, hz⟩ := hp
 refine zmy zcj ho (ymn zcj ho2 ?_)
 have hz : zh3 (zgp y) := hz
 show za7 _ _ [.agg ((List.range 6).map (epC std (zhi x))), zgu std (zgp y)] (.int .i64 (yfr (zhi x) (zgp y)))
 generalize zhi x = z at hz |-
 generalize zgp y = l at hz |-
 have hz : l.length <= 1000000 := hz
 refine za4 (T := tt) (S := fun L => zbw [ymy L, zwn L, yga L] [yq4 L]) (lo := noA) (lb := noA) 5 (fn := Tryz.f52) (xs := fun L => [.agg [.int .u8 (L Pl.a (L Ep.pl z)), .int .u8 (L Pl.b (L Ep.pl z)), .int .u8 (L Pl.c (L Ep.pl z)), .int .u8 (L Pl.d (L Ep.pl z)), .int .u16 (L Pl.p (L Ep.pl z)), .int .i64 (L Ep.w z)], zgu L l]) rfl rfl (by kernel_rfl) (by kernel_rfl) rfl za9 (zap ⟨zn9, zjs, zut, trivial⟩ ⟨zwt, trivial⟩) (by kernel_rfl) ?_
 intro L P' Q' hL hP hQ
 have hE : ∀ y : Ep, L (L Ep.mk (zw4 L (L Pl.a (L Ep.pl y)) (L Pl.b (L Ep.pl y)) (L Pl.c (L Ep.pl y)) (L Pl.d (L Ep.pl y)) (L Pl.p (L Ep.pl y)))) (L Ep.w y) = y := by subst hL; intro y; rfl
 (cbv; try simp only [syT, true_and, and_true])
 simp only [hE]
 (subst hL; subst hQ; simp only [L2, L3, std] at *; try simp only [syS, reduceCtorEq, Int.reduceToNat, Int.reduceAdd, Int.reduceSub] at *)
 simp only [zz2]
 have hw : zje (AV.lst 6 (zan l) fun i => epC (@std) (zcs l i)) /\ upM (zan l) /\ ytl z l := ⟨zzi _, hz, fun _ _ => trivial⟩
 have key : ∀ b, b = yn0 z -> (okJ (AV.lst 1 2 fun i x => AV.int .i64 (zdc [soZ b 7, soZ (zs2 z l) 11] i)) /\ (rdJ (AV.lst 1 2 fun i x => AV.int .i64 (zdc [soZ b 7, soZ (zs2 z l) 11] i))).length <= 1000000) /\ zom (rdJ (AV.lst 1 2 fun i x => AV.int .i64 (zdc [soZ b 7, soZ (zs2 z l) 11] i))) = yfr z l := by
   rintro b rfl
   exact zo6 (n := 2) rfl rfl (by decide)
 have e1 : zft (zw4 (@std) z.pl.a z.pl.b z.pl.c z.pl.d z.pl.p) = zft z.pl := rfl
 rw [e1]
 refine ⟨fun h1 => ⟨hw, key _ ?_⟩, fun h1 => ⟨fun h2 => ⟨hw, key _ ?_⟩, fun h2 => ⟨fun h3 => ⟨hw, key _ ?_⟩, fun h3 => ⟨hw, key _ ?_⟩⟩⟩⟩
 · rw [yn0, decide_eq_true h1]; rfl
 · rw [yn0, h2]; simp
 · rw [yn0, decide_eq_true h3]; simp
 · rw [yn0, decide_eq_false h1, h2, decide_eq_false (show ¬ z.w < 1 by omega)]; simp [ilt]
theorem zpr (l : List Cl) (s : List UInt8) : zl5 l s = l.any (fun a => decide (a.n = s)) := zub l
def lgtR (l : List Rt) : Prop := ∀ x ∈ l, zeh x = true
def ynx (c : Cf) (x : Rt) (l : List Rt) : Prop := zph c /\ zeh x = true /\ lgtR l /\ zh3 l
noncomputable def yj9 (L : za8) : zbv := (50, fun xs => match xs with
 | [x, y, z] => some (L zcr x /\ L zvz y /\ L zre z /\ L3 L ynx (L zac x) (L zkf y) (L zjd z), .int .i64 (L3 L zp0 (L zac x) (L zkf y) (L zjd z)))
 | _ => none)
theorem yqx {α : Type} {V : Vw α} (K : zmz V) {P : Program} {f : FuncId} {a x r : AV} {q : List AV} (ho : okG V x) (h : za7 P f (a :: .agg ((List.range V.sz).map (V.cell std (rdG V x))) :: q) r) : za7 P f (a :: x :: q) r :=
 zdl (fun h D vs hr => yo6 (fun v => G_R K ho) hr) h
theorem rl_3 {h : Array Obj} {D : Nat -> Prop} {μ : Mu} {a b x y : AV} {r : List AV} {vs : Array Value} (e : ∀ v, R h D μ x v -> R h D μ y v) (hr : RL h D μ (a :: b :: x :: r) vs) : RL h D μ (a :: b :: y :: r) vs := by
 refine ⟨by rw [<- hr.1]; rfl, fun i z v hz hv => ?_⟩
 match i, hz with
 | 0, hz => exact hr.2 0 z v hz hv
 | 1, hz => exact hr.2 1 z v hz hv
 | 2, hz => cases hz; exact e v (hr.2 2 x v rfl hv)
 | i + 3, hz => exact hr.2 (i + 3) z v hz hv
theorem yu8 {α : Type} {V : Vw α} (K : zmz V) {P : Program} {f : FuncId} {a b x r : AV} {q : List AV} (ho : okW V x) (h : za7 P f (a :: b :: zu1 std V (rdW V x) :: q) r) : za7 P f (a :: b :: x :: q) r :=
 zdl (fun h D vs hr => rl_3 (fun v => znl K ho) hr) h
theorem ydr : zb6 Tryz.prog (yj9 std) := by
 intro xs p r h hp
 dsimp only [yj9] at h |-
 split at h <;> cases h
 try simp only [L2, L3, std] at hp |-
 rename_i x y z
 obtain ⟨ho, ho2, ho3, hz⟩ := hp
 refine zmy zc1 ho (yqx zdw ho2 (yu8 zdw ho3 ?_))
 have hz : ynx (zac x) (zkf y) (zjd z) := hz
 show za7 _ _ [.agg ((List.range 3).map (cfC std (zac x))), .agg ((List.range 4).map (rtC std (zkf y))), znu std (zjd z)] (.int .i64 (zp0 (zac x) (zkf y) (zjd z)))
 generalize zac x = c at hz |-
 generalize zkf y = r at hz |-
 generalize zjd z = l at hz |-
 obtain ⟨h1, h2, h3, h4⟩ := hz
 refine za4 (T := tt) (S := fun L => zbw [ymy L, zwn L, ylt L, yan L, zz9 L] [yo3 L]) (lo := noA) (lb := noA) 5 (fn := Tryz.f50) (xs := fun L => [.agg [.int .u64 (L Cf.v c), zem L (L Cf.ls c), ze0 L (L Cf.cs c)], .agg [.str (L Rt.h r), .str (L Rt.p r), .str (L Rt.c r), .int .u64 (L Rt.i r)], znu L l]) rfl rfl (by kernel_rfl) (by kernel_rfl) rfl za9 (zap ⟨zn9, zjs, yg4, yao, zza, trivial⟩ ⟨zvl, trivial⟩) (by kernel_rfl) ?_
 intro L P' Q' hL hP hQ
 have hE : ∀ y : Rt, L (L (L (L Rt.mk (L Rt.h y)) (L Rt.p y)) (L Rt.c y)) (L Rt.i y) = y := by subst hL; intro y; rfl
 have hG : ∀ y : Cf, L zac (.agg [.int .u64 (L Cf.v y), .lst 7 (L zan (L Cf.ls y)) (fun i => lsC L (L (L za6 (L Cf.ls y)) i)), .lst 2 (L zan (L Cf.cs y)) (fun i => clC L (L (L zaf (L Cf.cs y)) i))]) = y := by subst hL; exact fun y => (gK zc1 y _ rfl).2
 have hO : ∀ y : Cf, L zcr (.agg [.int .u64 (L Cf.v y), .lst 7 (L zan (L Cf.ls y)) (fun i => lsC L (L (L za6 (L Cf.ls y)) i)), .lst 2 (L zan (L Cf.cs y)) (fun i => clC L (L (L zaf (L Cf.cs y)) i))]) := by subst hL; exact fun y => (gK zc1 y _ rfl).1
 (cbv; try simp only [syT, true_and, and_true])
 simp only [hE, hG, hO, true_and]
 (subst hL; subst hQ; simp only [L2, L3, std] at *; try simp only [syS, reduceCtorEq, Int.reduceToNat, Int.reduceAdd, Int.reduceSub] at *)
 clear hG hO
 simp only [yjb]
 simp only [zeh, Bool.and_eq_true, decide_eq_true_eq] at h2
 refine ⟨h1, ⟨yjt _, h4, fun x hx => ?_⟩, ?_, ?_, zo6 (n := 4) rfl rfl (by decide)⟩
 · have q := h3 x hx
   simp only [zeh, Bool.and_eq_true, decide_eq_true_eq] at q
   exact ⟨by omega, by omega⟩
 · show _ <= 1000000000
   omega
 · show _ <= 1000000000
   omega
end Sy
end Go.Proofs.YthppjaoicibeiaaGreatDoor
namespace Go.Proofs.YthppjaoicibeiaaGreatDoor
namespace Sy
open Go Go.RowKit
set_option maxRecDepth 100000
set_option linter.unusedSimpArgs false
set_option linter.unusedVariables false
structure Ft where
 c : Int
 w : List UInt8
 deriving DecidableEq
def ftC (L : za8) (x : Ft) : Nat -> AV
 | 0 => .int .i64 (L Ft.c x)
 | _ => .str (L Ft.w x)
def ftV : Vw Ft := ⟨2, ftC, fun c => ⟨(c 0).toI, zvr (c 1)⟩, fun c => isI .i64 (c 0) /\ isS (c 1), ⟨0, []⟩⟩
def zh0 (l : List Ft) (i : Nat) : Ft := zgr ftV l i
def yem (L : za8) (l : List Ft) : AV := .lst 2 (L zan l) (fun i => ftC L (L (L zh0 l) i))
def yjv (x : AV) : Prop := okW ftV x
def zvq (x : AV) : List Ft := rdW ftV x
theorem yat : zmz ftV := by
 refine ⟨fun c hc j hj h D μ v r => ?_, fun c x hx => ?_⟩
 · obtain ⟨h0, h1⟩ := hc
   match j, hj with
   | 0, _ => exact zo1 h0 r
   | 1, _ => exact zwc h1 r
 · have e0 := hx 0 (by decide)
   have e1 := hx 1 (by decide)
   refine ⟨⟨⟨_, e0⟩, ⟨_, e1⟩⟩, ?_⟩
   show Ft.mk (c 0).toI (zvr (c 1)) = x
   rw [e0, e1]; rfl
theorem ysl (l : List Ft) : zvq (.lst 2 (zan l) fun i => ftC std (zh0 l i)) = l := (zcq yat l).2
theorem ysu (l : List Ft) : yjv (.lst 2 (zan l) fun i => ftC std (zh0 l i)) := (zcq yat l).1
def ymq (o o' : Ob) : Prop := ∀ h D μ x, zhb h D μ o x -> zhb h D μ o' x
theorem ymq.refl (o : Ob) : ymq o o := fun _ _ _ _ h => h
inductive ycl : List (Nat × Ob) -> List (Nat × Ob) -> Prop
 | nil : ycl [] []
 | cons (n : Nat) {o o' : Ob} {r r' : List (Nat × Ob)} (h : ymq o o') (hr : ycl r r') : ycl ((n, o) :: r) ((n, o') :: r')
theorem ycl.none {O O' : List (Nat × Ob)} (h : ycl O O') (i : Nat) : za1 O' i = Option.none ↔ za1 O i = Option.none := by
 induction h with
 | nil => exact Iff.rfl
 | cons n h hr ih =>
   simp only [za1]
   cases zaj n i <;> simp [ih]
theorem ycl.get {O O' : List (Nat × Ob)} (h : ycl O O') {i : Nat} {o' : Ob} (e : za1 O' i = some o') : ∃ o, za1 O i = some o /\ ymq o o' := by
 induction h with
 | nil => cases e
 | cons n h hr ih =>
   simp only [za1] at e |-
   cases hb : zaj n i with
   | true => rw [hb] at e; cases e; exact ⟨_, rfl, h⟩
   | false => rw [hb] at e; exact ih e
theorem yt0 {P : Program} {f : FuncId} {xs : List AV} {O O' : List (Nat × Ob)} {r : AV} {O1 : List (Nat × Ob)} (hO : ycl O O') (h : zbh P f xs O' r O1) : zbh P f xs O r O1 := by
 intro D w μ vs hD hxs hdom hobs hinj hown hg hgb
 have hcall := h D w μ vs hD hxs (fun i => (hdom i).trans (hO.none i).symm) (fun i o x ho1 hx => by
   obtain ⟨o0, h1, h2⟩ := hO.get ho1
   exact h2 _ _ _ _ (hobs i o0 x h1 hx)) hinj hown hg hgb
 unfold zfm at hcall |-
 have key : ∀ e w', (∃ v D' μ', ymt D w μ O' O1 r e v w' D' μ') -> ∃ v D' μ', ymt D w μ O O1 r e v w' D' μ' := by
   rintro e w' ⟨v, D', μ', m⟩
   exact ⟨v, D', μ', { m with keep := fun i h1 h2 => m.keep i (fun h3 => h1 ((hO.none i).1 h3)) h2 }⟩
 split at hcall
 · exact hcall.mono fun e w' h => key e w' h
 · exact key _ _ hcall
 · exact hcall.elim
theorem yp5 {α : Type} {V : Vw α} (K : zmz V) {ty n : Nat} {get : Nat -> Nat -> AV} (ho : okW V (.lst V.sz n get)) : ymq (.row ty V.sz n get) (.row ty V.sz n (yth std V (rdW V (.lst V.sz n get)))) := by
 intro h D μ x hx
 match x, hx with
 | some (b, z, m), ⟨r0, c, t, fr, e, r1, r2, r3, r4⟩ =>
   refine ⟨r0, c, t, fr, e, r1, r2, r3, fun i j hi hj => ?_⟩
   obtain ⟨v, v1, v2, v3⟩ := r4 i j hi hj
   refine ⟨v, v1, v2, ?_⟩
   show R h D zar (V.cell std (zgr V (rdW V (.lst V.sz n get)) i) j) v
   rw [zz5 hi]
   exact K.turn _ (ho.2 i hi) j hj _ _ _ _ v3
 | none, h0 => exact h0
theorem ykd {ty n : Nat} {get : Nat -> Nat -> AV} (ho : okJ (.lst 1 n get)) : ymq (.row ty 1 n get) (.row ty 1 n (fun i _ => .int .i64 (zdc (rdJ (.lst 1 n get)) i))) := by
 intro h D μ x hx
 match x, hx with
 | some (b, z, m), ⟨r0, c, t, fr, e, r1, r2, r3, r4⟩ =>
   refine ⟨r0, c, t, fr, e, r1, r2, r3, fun i j hi hj => ?_⟩
   obtain ⟨v, v1, v2, v3⟩ := r4 i j hi hj
   refine ⟨v, v1, v2, ?_⟩
   have : j = 0 := by omega
   subst this
   obtain ⟨y, hy⟩ := ho.2 i hi
   rw [hy] at v3
   show R h D zar (.int .i64 (zdc (rdJ (.lst 1 n get)) i)) v
   rw [rdJ, ztn _ _ _ hi, hy]
   exact v3
 | none, h0 => exact h0
def ftI (e : Int) (w : List UInt8) : List Ft := if e ≠ 0 then [⟨e, w⟩] else []
def tlZ (e : Int) (w : List UInt8) (i : List Int) (o : List Ft) : List Ft := o ++ ftI e (whZ w i)
def L4 {α β γ δ ε : Type} (L : za8) (f : α -> β -> γ -> δ -> ε) (a : α) (b : β) (c : γ) (d : δ) : ε := L (L (L (L f a) b) c) d
def zpo (L : za8) (l : List Ft) : Ob := .row 62 2 (L zan l) (fun q => ftC L (L (L zh0 l) q))
def tlO (L : za8) (i : List Int) (o : List Ft) : List (Nat × Ob) := [(500000, .box 56 [.sl 500002 2 0 (L zan o)]), (500001, .row 3 1 (L zwb i) (fun q _ => .int .i64 (L2 L zdc i q))), (500002, zpo L o)]
def ysb (L : za8) (e : Int) (w : List UInt8) (i : List Int) (o : List Ft) : List (Nat × Ob) := [(500000, .box 56 [.sl 900 2 0 (L zan (L4 L tlZ e w i o))]), (900, zpo L (L4 L tlZ e w i o))]
def tlA (L : za8) (e : Int) (w : List UInt8) (i : List Int) (o : List Ft) : Nat -> St -> Option Ann := fun id st => match id with
 | 1000008 => some ⟨Nat, fun _ => [], fun _ => [(500000, .box 56 [.sl 900 2 0 (L zan (L4 L tlZ e w i o))]), (900, zpo L (L4 L tlZ e w i o))], [3], [], fun _ => True, fun _ => 0⟩
 | _ => none
theorem zzl {l : List Ft} {y : Ft} {q : Nat} (hq : q < l.length + 1) : zh0 (l ++ [y]) q = if q < l.length then zh0 l q else y := by
 unfold zh0
 rw [zab (V := ftV) (by simpa using hq)]
 split
 · rename_i h
   rw [List.getElem_append_left h, zab (V := ftV) h]
 · rename_i h
   obtain rfl : q = l.length := by omega
   rw [List.getElem_append_right (Nat.le_refl _)]; simp
theorem yl3 {l : List Ft} {c : Int} {w : List UInt8} {q j : Nat} (hq : q < l.length + 1) (hj : j < 2) : zgx std (zbm q l.length) (ftC std (zh0 l q) j) (zbn AV.dead [AV.int .i64 c, AV.str w] ((q - l.length) * 2 + j)) = ftC std (zh0 (l ++ [⟨c, w⟩]) q) j := by
 rw [zzl hq]
 by_cases h : q < l.length
 · rw [zlf h, if_pos h, show q - l.length = 0 by omega]
   match j, hj with
   | 0, _ => rfl
   | 1, _ => rfl
 · rw [zoh h, if_neg h, show q - l.length = 0 by omega]
   match j, hj with
   | 0, _ => rfl
   | 1, _ => rfl
theorem ygs {e : Int} {w : List UInt8} {i : List Int} {o : List Ft} (h : ¬ e = 0) : tlZ e w i o = o ++ [⟨e, whZ w i⟩] := by rw [tlZ, ftI, if_pos h]
theorem ynq {w : List UInt8} {i : List Int} {o : List Ft} : tlZ 0 w i o = o := by rw [tlZ, ftI, if_neg (fun h => h rfl), List.append_nil]
theorem ys9 {e : Int} {w : List UInt8} {i : List Int} {o : List Ft} (hw : yi2 w i) (ho : o.length <= 1000000) : zbh Tryz.prog 47 [.int .i64 e, .str w, .sl 500001 1 0 (zwb i), .ref 500000 0] (tlO std i o) (.tup []) (ysb std e w i o) := by
 refine zal (T := tt) (S := fun L => zbw [yi0 L] []) (lo := fun L => tlA L e w i o) (lb := noA) 5 (fn := Tryz.f47) (xs := fun L => [.int .i64 e, .str w, .sl 500001 1 0 (L zwb i), .ref 500000 0]) (rts := fun L => []) (O := fun L => tlO L i o) (O1 := fun L => ysb L e w i o) rfl rfl (by kernel_rfl) (by kernel_rfl) (by kernel_rfl) za9 (zap ⟨yd0, trivial⟩ trivial) (by kernel_rfl) ?_
 intro L P' Q' hL hP hQ
 (cbv; try simp only [syT, true_and, and_true])
 refine ⟨⟨fun h1 => ⟨⟨?_, ?_⟩, ?_, ⟨0, ?_⟩⟩, fun h1 => ⟨0, ?_⟩⟩, fun x hx => ?_⟩
 all_goals try (cbv; try simp only [syT, true_and, and_true])
 all_goals (subst hL; subst hQ; simp only [L2, L3, std] at *; try simp only [syS, reduceCtorEq, Int.reduceToNat, Int.reduceAdd, Int.reduceSub] at *)
 · exact (zgi i rfl).1
 · rw [show rdJ (AV.lst 1 (zwb i) fun k x => AV.int .i64 (zdc i k)) = i from (zgi i rfl).2]; exact hw
 · have : zan o = o.length := rfl
   omega
 · rw [show rdJ (AV.lst 1 (zwb i) fun k x => AV.int .i64 (zdc i k)) = i from (zgi i rfl).2]
   have e1 : o.length + 1 = (tlZ e w i o).length := by rw [ygs h1, List.length_append]; rfl
   refine ⟨⟨e1, fun a b ha hb => ?_⟩, e1⟩
   have ha : a < (tlZ e w i o).length := ha
   rw [ygs h1]
   exact yl3 (by omega) hb
 · subst h1
   rw [show L4 std tlZ 0 w i o = o from ynq, ynq]
   exact ⟨⟨rfl, fun _ _ _ _ => rfl⟩, rfl⟩
def ysa (L : za8) : zk0 := (47, fun raw ob => match raw with
 | [.int .i64 e, .str w, .sl a 1 0 n, .ref k 0] => match ob a, ob k with
   | some (.row _ _ m get), some (.box _ [.sl b 2 0 q]) => match ob b with
     | some (.row _ _ m2 gf) => some ⟨[.int .i64 e, .str w, .sl 500001 1 0 n, .ref 500000 0], [(500000, .box 56 [.sl 500002 2 0 q]), (500001, .row 3 1 n get), (500002, .row 62 2 q gf)], L okJ (.lst 1 n get) /\ L2 L yi2 w (L rdJ (.lst 1 n get)) /\ L yjv (.lst 2 q gf) /\ L upM q, .tup [], ysb L e w (L rdJ (.lst 1 n get)) (L zvq (.lst 2 q gf))⟩
     | _ => none
   | _, _ => none
 | _ => none)
theorem yie : zdd Tryz.prog (ysa std) := by
 intro raw ob T h hp
 unfold ysa at h
 simp only at h
 split at h
 rotate_left
 · cases h
 rename_i e w a n k
 split at h
 rotate_left
 · cases h
 rename_i t1 s1 m get t2 b q _ _
 split at h
 rotate_left
 · cases h
 rename_i t3 s3 m2 gf _
 cases h
 obtain ⟨h1, h2, h3, h4⟩ := hp
 have h1 : okJ (.lst 1 n get) := h1
 have h3 : okW ftV (.lst ftV.sz q gf) := h3
 have h4 : q <= 1000000 := h4
 have e1 : zwb (rdJ (.lst 1 n get)) = n := by simp [rdJ, zwb]
 have e2 : zan (zvq (.lst 2 q gf)) = q := zik _ _ _ _
 refine yt0 (ycl.cons _ (ymq.refl _) (ycl.cons _ (ykd h1) (ycl.cons _ (yp5 yat h3) .nil))) ?_
 have := ys9 (e := e) (o := zvq (.lst 2 q gf)) h2 (by show zan _ <= _; rw [e2]; exact h4)
 unfold tlO zpo at this
 simp only [std, L2] at this
 rw [e1, e2] at this
 exact this
end Sy
end Go.Proofs.YthppjaoicibeiaaGreatDoor
namespace Go.Proofs.YthppjaoicibeiaaGreatDoor
namespace Sy
open Go Go.RowKit
set_option maxRecDepth 100000
set_option linter.unusedSimpArgs false
set_option linter.unusedVariables false
def ymu : List UInt8 := [108, 105, 115, 116, 101, 110, 101, 114]
def yr2 : List UInt8 := [114, 111, 117, 116, 101]
def yr3 : List UInt8 := [99, 108, 117, 115, 116, 101, 114]
def ys6 : List UInt8 := [101, 110, 100, 112, 111, 105, 110, 116]
def wCfg : List UInt8 := [99, 111, 110, 102, 105, 103]
noncomputable def yni (c : Cf) (i : Nat) (k : Nat) : List Ft := ftI (zp0 c (zb3 (za6 c.ls i).rs k) ((za6 c.ls i).rs.take k)) (whZ yr2 [(i : Int), (k : Int)])
noncomputable def vfR (c : Cf) (i : Nat) : Nat -> List Ft
 | 0 => []
 | j + 1 => vfR c i j ++ yni c i j
noncomputable def yd3 (c : Cf) (i : Nat) : List Ft := ftI (zu2 (za6 c.ls i) (c.ls.take i)) (whZ ymu [(i : Int)])
noncomputable def vfL (c : Cf) : Nat -> List Ft
 | 0 => []
 | i + 1 => (vfL c i ++ yd3 c i) ++ vfR c i (za6 c.ls i).rs.length
noncomputable def vgL (c : Cf) (i j : Nat) : List Ft := (vfL c i ++ yd3 c i) ++ vfR c i j
noncomputable def yr4 (c : Cf) (i : Nat) (k : Nat) : List Ft := ftI (yfr (zcs (zaf c.cs i).es k) ((zaf c.cs i).es.take k)) (whZ ys6 [(i : Int), (k : Int)])
noncomputable def vfE (c : Cf) (i : Nat) : Nat -> List Ft
 | 0 => []
 | j + 1 => vfE c i j ++ yr4 c i j
noncomputable def yi9 (c : Cf) (i : Nat) : List Ft := ftI (yg6 (zaf c.cs i) (c.cs.take i)) (whZ yr3 [(i : Int)])
noncomputable def vfC (c : Cf) : Nat -> List Ft
 | 0 => vfL c c.ls.length
 | i + 1 => (vfC c i ++ yi9 c i) ++ vfE c i (zaf c.cs i).es.length
noncomputable def vgC (c : Cf) (i j : Nat) : List Ft := (vfC c i ++ yi9 c i) ++ vfE c i j
noncomputable def zon (c : Cf) : List Ft := if cfE c ≠ 0 then [⟨cfE c, wCfg⟩] else vfC c c.cs.length
theorem ziw (e : Int) (w : List UInt8) : (ftI e w).length <= 1 := by
 unfold ftI
 split <;> simp
theorem zqp (c : Cf) (i : Nat) : ∀ j, (vfR c i j).length <= j
 | 0 => Nat.zero_le _
 | j + 1 => by
   have := zqp c i j
   have := ziw (zp0 c (zb3 (za6 c.ls i).rs j) ((za6 c.ls i).rs.take j)) (whZ yr2 [(i : Int), (j : Int)])
   rw [vfR, List.length_append, yni]; omega
theorem zqq (c : Cf) (i : Nat) : ∀ j, (vfE c i j).length <= j
 | 0 => Nat.zero_le _
 | j + 1 => by
   have := zqq c i j
   have := ziw (yfr (zcs (zaf c.cs i).es j) ((zaf c.cs i).es.take j)) (whZ ys6 [(i : Int), (j : Int)])
   rw [vfE, List.length_append, yr4]; omega
theorem yej {c : Cf} (h : zbc c = true) {i : Nat} (hi : i < c.ls.length) : (za6 c.ls i).rs.length <= 12 /\ lgtR (za6 c.ls i).rs /\ (za6 c.ls i).n.length <= 300 := by
 simp only [zbc, Bool.and_eq_true, decide_eq_true_eq, List.all_eq_true] at h
 have := h.1.2 (za6 c.ls i) (by rw [za6, zab (V := lsV) hi]; exact List.getElem_mem _)
 simp only [zd9, Bool.and_eq_true, decide_eq_true_eq, List.all_eq_true] at this
 exact ⟨this.1.2, this.2, this.1.1⟩
theorem yek {c : Cf} (h : zbc c = true) {i : Nat} (hi : i < c.cs.length) : (zaf c.cs i).es.length <= 12 /\ (zaf c.cs i).n.length <= 300 := by
 simp only [zbc, Bool.and_eq_true, decide_eq_true_eq, List.all_eq_true] at h
 have := h.2 (zaf c.cs i) (by rw [zaf, zab (V := clV) hi]; exact List.getElem_mem _)
 simp only [ze2, Bool.and_eq_true, decide_eq_true_eq] at this
 exact ⟨this.2, this.1⟩
theorem yct {c : Cf} (h : zbc c = true) : c.ls.length <= 12 /\ c.cs.length <= 12 := by
 simp only [zbc, Bool.and_eq_true, decide_eq_true_eq] at h
 exact ⟨h.1.1.1, h.1.1.2⟩
theorem zns {c : Cf} (h : zbc c = true) : zph c := by
 have hn := yct h
 simp only [zbc, Bool.and_eq_true, decide_eq_true_eq, List.all_eq_true, zd9, ze2] at h
 refine ⟨by show _ <= 1000000; omega, by show _ <= 1000000; omega, fun l hl => ?_, fun k hk => ?_⟩
 · have := (h.1.2 l hl).1.2
   show _ <= 1000000
   omega
 · have := (h.2 k hk).2
   show _ <= 1000000
   omega
theorem zn5 {c : Cf} (h : zbc c = true) : ∀ i, i <= c.ls.length -> (vfL c i).length <= i * 13
 | 0, _ => Nat.zero_le _
 | i + 1, hi => by
   have h1 := zn5 h i (by omega)
   have h2 := ziw (zu2 (za6 c.ls i) (c.ls.take i)) (whZ ymu [(i : Int)])
   have h3 := zqp c i (za6 c.ls i).rs.length
   have h4 := (yej h (show i < c.ls.length by omega)).1
   rw [vfL, List.length_append, List.length_append, yd3]; omega
theorem yi4 {c : Cf} (h : zbc c = true) {i j : Nat} (hi : i < c.ls.length) (hj : j <= (za6 c.ls i).rs.length) : (vgL c i j).length <= 1000 := by
 have h1 := zn5 h i (by omega)
 have h2 := ziw (zu2 (za6 c.ls i) (c.ls.take i)) (whZ ymu [(i : Int)])
 have h3 := zqp c i j
 have h4 := (yej h hi).1
 have h5 := (yct h).1
 rw [vgL, List.length_append, List.length_append, yd3]; omega
theorem zqr {c : Cf} (h : zbc c = true) : ∀ i, i <= c.cs.length -> (vfC c i).length <= 200 + i * 13
 | 0, _ => by
   have h1 := zn5 h c.ls.length (Nat.le_refl _)
   have h5 := (yct h).1
   rw [vfC]; omega
 | i + 1, hi => by
   have h1 := zqr h i (by omega)
   have h2 := ziw (yg6 (zaf c.cs i) (c.cs.take i)) (whZ yr3 [(i : Int)])
   have h3 := zqq c i (zaf c.cs i).es.length
   have h4 := (yek h (show i < c.cs.length by omega)).1
   rw [vfC, List.length_append, List.length_append, yi9]; omega
theorem yi6 {c : Cf} (h : zbc c = true) {i j : Nat} (hi : i < c.cs.length) (hj : j <= (zaf c.cs i).es.length) : (vgC c i j).length <= 1000 := by
 have h1 := zqr h i (by omega)
 have h2 := ziw (yg6 (zaf c.cs i) (c.cs.take i)) (whZ yr3 [(i : Int)])
 have h3 := zqq c i j
 have h4 := (yek h hi).1
 have h5 := (yct h).2
 rw [vgC, List.length_append, List.length_append, yi9]; omega
theorem ys7 (c : Cf) (i : Nat) : vgL c i 0 = vfL c i ++ yd3 c i := by rw [vgL, vfR, List.append_nil]
theorem yi5 (c : Cf) {i j : Nat} (h : j = (za6 c.ls i).rs.length) : vfL c (i + 1) = vgL c i j := by subst h; rw [vfL, vgL]
theorem yd1 (c : Cf) (i j : Nat) : vgL c i (j + 1) = vgL c i j ++ yni c i j := by rw [vgL, vgL, vfR]; simp only [List.append_assoc]
theorem ys8 (c : Cf) (i : Nat) : vgC c i 0 = vfC c i ++ yi9 c i := by rw [vgC, vfE, List.append_nil]
theorem yi7 (c : Cf) {i j : Nat} (h : j = (zaf c.cs i).es.length) : vfC c (i + 1) = vgC c i j := by subst h; rw [vfC, vgC]
theorem yd2 (c : Cf) (i j : Nat) : vgC c i (j + 1) = vgC c i j ++ yr4 c i j := by rw [vgC, vgC, vfE]; simp only [List.append_assoc]
theorem zsx {α : Type} {V : Vw α} (K : zmz V) (l : List α) {n : Nat} {get : Nat -> Nat -> AV} (h : n <= l.length) (hg : ∀ i j, i < n -> j < V.sz -> get i j = V.cell std (zgr V l i) j) : okW V (.lst V.sz n get) /\ rdW V (.lst V.sz n get) = l.take n := by
 have hb : ∀ i, i < n -> V.ok (get i) /\ V.rd (get i) = zgr V l i := fun i hi => K.back _ _ fun j hj => hg i j hi hj
 refine ⟨⟨rfl, fun i hi => (hb i hi).1⟩, ?_⟩
 unfold rdW
 apply List.ext_getElem
 · simp; omega
 · intro i h1 h2
   have hi : i < n := by simpa using h1
   simp only [List.getElem_map, List.getElem_range, List.getElem_take]
   rw [(hb i hi).2, zab (by omega)]
end Sy
end Go.Proofs.YthppjaoicibeiaaGreatDoor
namespace Go.Proofs.YthppjaoicibeiaaGreatDoor
namespace Sy
open Go Go.RowKit
set_option maxRecDepth 100000
set_option linter.unusedSimpArgs false
set_option linter.unusedVariables false
end Sy
end Go.Proofs.YthppjaoicibeiaaGreatDoor
namespace Go.Proofs.YthppjaoicibeiaaGreatDoor
namespace Sy
open Go Go.RowKit
set_option maxRecDepth 100000
set_option linter.unusedSimpArgs false
set_option linter.unusedVariables false
theorem yk2 (l : List Ls) (s : List UInt8) : yhb (l.map Ls.n) s = l.any fun y => decide (y.n = s) := by
 rw [Bool.eq_iff_iff, ztt, List.any_eq_true, List.mem_map]
 simp
theorem yed (l : List Cl) (s : List UInt8) : yhb (l.map Cl.n) s = l.any fun y => decide (y.n = s) := by
 rw [Bool.eq_iff_iff, ztt, List.any_eq_true, List.mem_map]
 simp
end Sy
end Go.Proofs.YthppjaoicibeiaaGreatDoor
namespace Go.Proofs.YthppjaoicibeiaaGreatDoor
namespace Sy
open Go Go.RowKit
set_option maxRecDepth 100000
set_option linter.unusedSimpArgs false
set_option linter.unusedVariables false
def leR2 (l : List Rt) (i : Nat) : Prop := leM l i
def leE2 (l : List Ep) (i : Nat) : Prop := leM l i
noncomputable def allA (L : za8) (c : Cf) : Nat -> St -> Option Ann := fun id st => match id with
 | 0 => some ⟨Nat, fun i => [(29, .int .i64 (L zbd i)), (3, .ref 3 0)], fun i => [(3, .box 56 [.sl 901 2 0 (L zan (L2 L vfL c i))]), (901, zpo L (L2 L vfL c i))], [1, 4, 27, 28], [1], fun i => L2 L ya4 (L Cf.ls c) i, fun i => L2 L yrm (L Cf.ls c) i⟩
 | 2 => zqo st 29 fun k => some ⟨Nat, fun j => [(47, .int .i64 (L zbd j)), (3, .ref 3 0)], fun j => [(3, .box 56 [.sl 902 2 0 (L zan (L3 L vgL c (L Int.toNat k) j))]), (902, zpo L (L3 L vgL c (L Int.toNat k) j))], [1, 4, 7, 8, 27, 28, 29, 45, 46], [1, 8], fun j => L2 L leR2 (L Ls.rs (L2 L za6 (L Cf.ls c) (L Int.toNat k))) j, fun j => L2 L goRt (L Ls.rs (L2 L za6 (L Cf.ls c) (L Int.toNat k))) j⟩
 | 4 => some ⟨Nat, fun i => [(69, .int .i64 (L zbd i)), (3, .ref 3 0)], fun i => [(3, .box 56 [.sl 903 2 0 (L zan (L2 L vfC c i))]), (903, zpo L (L2 L vfC c i))], [1, 4, 67, 68], [1], fun i => L2 L ya5 (L Cf.cs c) i, fun i => L2 L yn5 (L Cf.cs c) i⟩
 | 6 => zqo st 69 fun k => some ⟨Nat, fun j => [(87, .int .i64 (L zbd j)), (3, .ref 3 0)], fun j => [(3, .box 56 [.sl 904 2 0 (L zan (L3 L vgC c (L Int.toNat k) j))]), (904, zpo L (L3 L vgC c (L Int.toNat k) j))], [1, 4, 11, 12, 67, 68, 69, 85, 86], [1, 12], fun j => L2 L leE2 (L Cl.es (L2 L zaf (L Cf.cs c) (L Int.toNat k))) j, fun j => L2 L goEp (L Cl.es (L2 L zaf (L Cf.cs c) (L Int.toNat k))) j⟩
 | _ => none
noncomputable def ygf (L : za8) : zbv := (17, fun xs => match xs with
 | [x] => some (L zcr x /\ L zc9 (L zac x), yem L (L zon (L zac x)))
 | _ => none)
theorem yig {l : List Ls} {i : Nat} (h : i <= l.length) : znm (.lst 7 i fun q => lsC std (za6 l q)) /\ zhg (.lst 7 i fun q => lsC std (za6 l q)) = l.take i := zsx zct l h fun _ _ _ _ => rfl
theorem yif {l : List Rt} {i : Nat} (h : i <= l.length) : zre (.lst 4 i fun q => rtC std (zb3 l q)) /\ zjd (.lst 4 i fun q => rtC std (zb3 l q)) = l.take i := zsx zdw l h fun _ _ _ _ => rfl
theorem yii {l : List Cl} {i : Nat} (h : i <= l.length) : zin (.lst 2 i fun q => clC std (zaf l q)) /\ zfn (.lst 2 i fun q => clC std (zaf l q)) = l.take i := zsx zbu l h fun _ _ _ _ => rfl
theorem yih {l : List Ep} {i : Nat} (h : i <= l.length) : zje (.lst 6 i fun q => epC std (zcs l q)) /\ zgp (.lst 6 i fun q => epC std (zcs l q)) = l.take i := zsx zcj l h fun _ _ _ _ => rfl
theorem zn7 {w : List UInt8} {n : Nat} {i : List Int} {o : List Ft} (hn : n = i.length) (hw : w.length <= 100) (hi : i.length <= 2) (ho : o.length <= 1000) : okJ (.lst 1 n fun k x => .int .i64 (zdc i k)) /\ yi2 w (rdJ (.lst 1 n fun k x => .int .i64 (zdc i k))) /\ yjv (.lst 2 (zan o) fun q => ftC std (zh0 o q)) /\ upM (zan o) := by
 obtain ⟨h1, h2⟩ := zgi i hn
 rw [h2]
 refine ⟨h1, ⟨hw, hi⟩, ysu _, ?_⟩
 show o.length <= 1000000
 omega
theorem zsv {e : Int} {w : List UInt8} {n : Nat} {i : List Int} {o o' : List Ft} (hn : n = i.length) (h : tlZ e w i o = o') : (zan (tlZ e w (rdJ (.lst 1 n fun k x => .int .i64 (zdc i k))) (zvq (.lst 2 (zan o) fun q => ftC std (zh0 o q)))) = zan o' /\ ∀ q j, q < zan o' -> j < 2 -> ftC std (zh0 (tlZ e w (rdJ (.lst 1 n fun k x => .int .i64 (zdc i k))) (zvq (.lst 2 (zan o) fun q => ftC std (zh0 o q)))) q) j = ftC std (zh0 o' q) j) := by
 rw [(zgi i hn).2, ysl, h]
 exact ⟨rfl, fun _ _ _ _ => rfl⟩
theorem zux : zb6 Tryz.prog (ygf std) := by
 intro xs p r h hp
 dsimp only [ygf] at h |-
 split at h <;> cases h
 try simp only [L2, L3, std] at hp |-
 rename_i x
 refine zmy zc1 hp.1 ?_
 have hp := hp.2
 show za7 _ _ [.agg [.int .u64 (zac x).v, zem std (zac x).ls, ze0 std (zac x).cs]] (yem std (zon (zac x)))
 have hp : zc9 (zac x) := hp
 generalize zac x = c at hp |-
 have hlt := hp.1
 refine za4 (T := tt) (S := fun L => zbw [yg9 L, yk7 L, ylu L, ylg L, yj9 L] [ysa L]) (lo := fun L => allA L c) (lb := noA) 5 (fn := Tryz.f17) (xs := fun L => [.agg [.int .u64 (L Cf.v c), zem L (L Cf.ls c), ze0 L (L Cf.cs c)]]) rfl rfl (by kernel_rfl) (by kernel_rfl) rfl za9 (zap ⟨zur, yen, yg5, yfq, ydr, trivial⟩ ⟨yie, trivial⟩) (by kernel_rfl) ?_
 intro L P' Q' hL hP hQ
 have hG : ∀ y : Cf, L zac (.agg [.int .u64 (L Cf.v y), .lst 7 (L zan (L Cf.ls y)) (fun i => lsC L (L (L za6 (L Cf.ls y)) i)), .lst 2 (L zan (L Cf.cs y)) (fun i => clC L (L (L zaf (L Cf.cs y)) i))]) = y := by subst hL; exact fun y => (gK zc1 y _ rfl).2
 have hO : ∀ y : Cf, L zcr (.agg [.int .u64 (L Cf.v y), .lst 7 (L zan (L Cf.ls y)) (fun i => lsC L (L (L za6 (L Cf.ls y)) i)), .lst 2 (L zan (L Cf.cs y)) (fun i => clC L (L (L zaf (L Cf.cs y)) i))]) := by subst hL; exact fun y => (gK zc1 y _ rfl).1
 (cbv; try simp only [syT, true_and, and_true])
 simp only [hG, hO, true_and]
 have e1 : zan c.ls = c.ls.length := rfl
 have e2 : zan c.cs = c.cs.length := rfl
 refine ⟨?_, fun h1 => ?_, fun h1 => ⟨⟨0, ?_⟩, fun i hi => ?_⟩⟩
 · (subst hL; subst hQ; simp only [L2, L3, std] at *; try simp only [syS, reduceCtorEq, Int.reduceToNat, Int.reduceAdd, Int.reduceSub] at *)
   exact hp
 · (subst hL; subst hQ; simp only [L2, L3, std] at *; try simp only [syS, reduceCtorEq, Int.reduceToNat, Int.reduceAdd, Int.reduceSub] at *)
   clear hG hO
   rw [zon, if_pos h1]
   unfold yem
   rw [zhw]
   refine ⟨rfl, fun q j hq hj => ?_⟩
   obtain rfl : q = 0 := by have : q < 1 := hq; omega
   match j, hj with
   | 0, _ => rfl
   | 1, _ => rfl
 · (cbv; try simp only [syT, true_and, and_true])
   (subst hL; subst hQ; simp only [L2, L3, std] at *; try simp only [syS, reduceCtorEq, Int.reduceToNat, Int.reduceAdd, Int.reduceSub] at *)
   exact ⟨rfl, rfl, Nat.zero_le _⟩
 · have hi2 : ya4 c.ls i := by
     have h := hi
     rw [hL] at h
     exact h
   clear hi
   (cbv; try simp only [syT, true_and, and_true])
   have hE1 : ∀ y : Ls, L zhh (.agg [.str (L Ls.n y), .int .u8 (L Pl.a (L Ls.pl y)), .int .u8 (L Pl.b (L Ls.pl y)), .int .u8 (L Pl.c (L Ls.pl y)), .int .u8 (L Pl.d (L Ls.pl y)), .int .u16 (L Pl.p (L Ls.pl y)), .lst 4 (L zan (L Ls.rs y)) (fun i => rtC L (L (L zb3 (L Ls.rs y)) i))]) = y := by subst hL; exact fun y => (gK zct y _ rfl).2
   have hE2 : ∀ y : Ls, L zki (.agg [.str (L Ls.n y), .int .u8 (L Pl.a (L Ls.pl y)), .int .u8 (L Pl.b (L Ls.pl y)), .int .u8 (L Pl.c (L Ls.pl y)), .int .u8 (L Pl.d (L Ls.pl y)), .int .u16 (L Pl.p (L Ls.pl y)), .lst 4 (L zan (L Ls.rs y)) (fun i => rtC L (L (L zb3 (L Ls.rs y)) i))]) := by subst hL; exact fun y => (gK zct y _ rfl).1
   have hRa : ∀ y : Rt, L zkf (.agg [.str (L Rt.h y), .str (L Rt.p y), .str (L Rt.c y), .int .u64 (L Rt.i y)]) = y := by subst hL; exact fun y => (gK zdw y _ rfl).2
   have hRb : ∀ y : Rt, L zvz (.agg [.str (L Rt.h y), .str (L Rt.p y), .str (L Rt.c y), .int .u64 (L Rt.i y)]) := by subst hL; exact fun y => (gK zdw y _ rfl).1
   have hCa : ∀ y : Cl, L zf7 (.agg [.str (L Cl.n y), .lst 6 (L zan (L Cl.es y)) (fun i => epC L (L (L zcs (L Cl.es y)) i))]) = y := by subst hL; exact fun y => (gK zbu y _ rfl).2
   have hCb : ∀ y : Cl, L zgq (.agg [.str (L Cl.n y), .lst 6 (L zan (L Cl.es y)) (fun i => epC L (L (L zcs (L Cl.es y)) i))]) := by subst hL; exact fun y => (gK zbu y _ rfl).1
   have hXa : ∀ y : Ep, L zhi (.agg [.int .u8 (L Pl.a (L Ep.pl y)), .int .u8 (L Pl.b (L Ep.pl y)), .int .u8 (L Pl.c (L Ep.pl y)), .int .u8 (L Pl.d (L Ep.pl y)), .int .u16 (L Pl.p (L Ep.pl y)), .int .i64 (L Ep.w y)]) = y := by subst hL; exact fun y => (gK zcj y _ rfl).2
   have hXb : ∀ y : Ep, L zkj (.agg [.int .u8 (L Pl.a (L Ep.pl y)), .int .u8 (L Pl.b (L Ep.pl y)), .int .u8 (L Pl.c (L Ep.pl y)), .int .u8 (L Pl.d (L Ep.pl y)), .int .u16 (L Pl.p (L Ep.pl y)), .int .i64 (L Ep.w y)]) := by subst hL; exact fun y => (gK zcj y _ rfl).1
   simp only [hG, hO, hE1, hE2, true_and]
   refine ⟨fun hlt1 => ⟨?_, ?_, ?_, ?_, ?_, ?_, ⟨0, ?_⟩, fun j hj => ?_⟩, fun hge => ⟨⟨0, ?_⟩, fun k hk => ?_⟩⟩
   · (subst hL; subst hQ; simp only [L2, L3, std] at *; try simp only [syS, reduceCtorEq, Int.reduceToNat, Int.reduceAdd, Int.reduceSub] at *)
     omega
   · (subst hL; subst hQ; simp only [L2, L3, std] at *; try simp only [syS, reduceCtorEq, Int.reduceToNat, Int.reduceAdd, Int.reduceSub] at *)
     omega
   · (subst hL; subst hQ; simp only [L2, L3, std] at *; try simp only [syS, reduceCtorEq, Int.reduceToNat, Int.reduceAdd, Int.reduceSub] at *)
     clear hG hO hE1 hE2 hRa hRb hCa hCb hXa hXb
     have hi2 : i <= c.ls.length := hi2
     rw [(yig hi2).2]
     refine ⟨(yig hi2).1, ?_⟩
     have := (yct hlt).1
     show (c.ls.take i).length <= 1000000
     rw [List.length_take]; omega
   · exact ⟨rfl, fun _ _ _ _ => trivial⟩
   · exact fun _ _ _ _ => trivial
   · (subst hL; subst hQ; simp only [L2, L3, std] at *; try simp only [syS, reduceCtorEq, Int.reduceToNat, Int.reduceAdd, Int.reduceSub] at *)
     clear hG hO hE1 hE2 hRa hRb hCa hCb hXa hXb
     have hi2 : i <= c.ls.length := hi2
     have := zn5 hlt i hi2
     have := (yct hlt).1
     exact zn7 rfl (by decide) (Nat.le_succ 1) (by omega)
   · (cbv; try simp only [syT, true_and, and_true])
     try simp only [hE1]
     (subst hL; subst hQ; simp only [L2, L3, std] at *; try simp only [syS, reduceCtorEq, Int.reduceToNat, Int.reduceAdd, Int.reduceSub] at *)
     clear hG hO hE1 hE2 hRa hRb hCa hCb hXa hXb
     have hi2 : i <= c.ls.length := hi2
     rw [(yig hi2).2]
     have h := zsv (e := zu2 (za6 c.ls i) (c.ls.take i)) (w := ymu) (n := 1) (i := [(i : Int)]) (o := vfL c i) (o' := vgL c i 0) rfl (ys7 c i).symm
     exact ⟨h, h.1, Nat.zero_le _⟩
   · have hj2 : leR2 (za6 c.ls i).rs j := by
       have h := hj
       rw [hL] at h
       exact h
     clear hj
     (cbv; try simp only [syT, true_and, and_true])
     simp only [hG, hO, hE1, hE2, hRa, hRb, true_and]
     refine ⟨fun hlt2 => ⟨?_, ?_, ?_, ?_, ?_, ?_, ⟨j + 1, ?_⟩⟩, fun hge => ⟨i + 1, ?_⟩⟩
     · (subst hL; subst hQ; simp only [L2, L3, std] at *; try simp only [syS, reduceCtorEq, Int.reduceToNat, Int.reduceAdd, Int.reduceSub] at *)
       omega
     · (subst hL; subst hQ; simp only [L2, L3, std] at *; try simp only [syS, reduceCtorEq, Int.reduceToNat, Int.reduceAdd, Int.reduceSub] at *)
       omega
     · (subst hL; subst hQ; simp only [L2, L3, std] at *; try simp only [syS, reduceCtorEq, Int.reduceToNat, Int.reduceAdd, Int.reduceSub] at *)
       clear hG hO hE1 hE2 hRa hRb hCa hCb hXa hXb
       have hj2 : j <= (za6 c.ls i).rs.length := hj2
       have hj3 : j < (za6 c.ls i).rs.length := by have : zan (za6 c.ls i).rs = (za6 c.ls i).rs.length := rfl; omega
       obtain ⟨g1, g2, g3⟩ := yej hlt (show i < c.ls.length by omega)
       rw [(yif hj2).2]
       refine ⟨(yif hj2).1, zns hlt, g2 _ (by rw [zb3, zab (V := rtV) hj3]; exact List.getElem_mem _), fun x hx => g2 x (List.mem_of_mem_take hx), ?_⟩
       show (List.take j _).length <= 1000000
       rw [List.length_take]; omega
     · exact ⟨rfl, fun _ _ _ _ => trivial⟩
     · exact fun _ _ _ _ => trivial
     · (subst hL; subst hQ; simp only [L2, L3, std] at *; try simp only [syS, reduceCtorEq, Int.reduceToNat, Int.reduceAdd, Int.reduceSub] at *)
       clear hG hO hE1 hE2 hRa hRb hCa hCb hXa hXb
       have hi2 : i < c.ls.length := by omega
       exact zn7 rfl (by decide) (Nat.le_refl 2) (yi4 hlt hi2 hj2)
     · (cbv; try simp only [syT, true_and, and_true])
       try simp only [hRa]
       (subst hL; subst hQ; simp only [L2, L3, std] at *; try simp only [syS, reduceCtorEq, Int.reduceToNat, Int.reduceAdd, Int.reduceSub] at *)
       clear hG hO hE1 hE2 hRa hRb hCa hCb hXa hXb
       have hj2 : j <= (za6 c.ls i).rs.length := hj2
       have hj3 : j < (za6 c.ls i).rs.length := by have : zan (za6 c.ls i).rs = (za6 c.ls i).rs.length := rfl; omega
       have h12 := (yej hlt (show i < c.ls.length by omega)).1
       rw [(yif hj2).2]
       have h := zsv (e := zp0 c (zb3 (za6 c.ls i).rs j) ((za6 c.ls i).rs.take j)) (w := yr2) (n := 2) (i := [(i : Int), (j : Int)]) (o := vgL c i j) (o' := vgL c i (j + 1)) rfl (yd1 c i j).symm
       exact ⟨h, h.1, by omega, by show j + 1 <= (za6 c.ls i).rs.length; omega, by show (za6 c.ls i).rs.length - (j + 1) + 1 <= (za6 c.ls i).rs.length - j; omega⟩
     · (cbv; try simp only [syT, true_and, and_true])
       (subst hL; subst hQ; simp only [L2, L3, std] at *; try simp only [syS, reduceCtorEq, Int.reduceToNat, Int.reduceAdd, Int.reduceSub] at *)
       clear hG hO hE1 hE2 hRa hRb hCa hCb hXa hXb
       have hj2 : j <= (za6 c.ls i).rs.length := hj2
       have hj3 : j = (za6 c.ls i).rs.length := by have : zan (za6 c.ls i).rs = (za6 c.ls i).rs.length := rfl; omega
       have h12 := (yct hlt).1
       rw [yi5 c hj3]
       exact ⟨⟨rfl, fun _ _ _ _ => rfl⟩, rfl, by omega, by show i + 1 <= c.ls.length; omega, by show c.ls.length - (i + 1) + 1 <= c.ls.length - i; omega⟩
   · (cbv; try simp only [syT, true_and, and_true])
     (subst hL; subst hQ; simp only [L2, L3, std] at *; try simp only [syS, reduceCtorEq, Int.reduceToNat, Int.reduceAdd, Int.reduceSub] at *)
     clear hG hO hE1 hE2 hRa hRb hCa hCb hXa hXb
     have hi2 : i <= c.ls.length := hi2
     obtain rfl : i = c.ls.length := by omega
     exact ⟨⟨rfl, fun _ _ _ _ => rfl⟩, rfl, Nat.zero_le _⟩
   · have hk2 : ya5 c.cs k := by
       have h := hk
       rw [hL] at h
       exact h
     clear hk
     (cbv; try simp only [syT, true_and, and_true])
     simp only [hG, hO, hCa, hCb, true_and]
     refine ⟨fun hlt3 => ⟨?_, ?_, ?_, ?_, ?_, ?_, ⟨0, ?_⟩, fun j hj => ?_⟩, fun hge => ?_⟩
     · (subst hL; subst hQ; simp only [L2, L3, std] at *; try simp only [syS, reduceCtorEq, Int.reduceToNat, Int.reduceAdd, Int.reduceSub] at *)
       omega
     · (subst hL; subst hQ; simp only [L2, L3, std] at *; try simp only [syS, reduceCtorEq, Int.reduceToNat, Int.reduceAdd, Int.reduceSub] at *)
       omega
     · (subst hL; subst hQ; simp only [L2, L3, std] at *; try simp only [syS, reduceCtorEq, Int.reduceToNat, Int.reduceAdd, Int.reduceSub] at *)
       clear hG hO hE1 hE2 hRa hRb hCa hCb hXa hXb
       have hk2 : k <= c.cs.length := hk2
       rw [(yii hk2).2]
       refine ⟨(yii hk2).1, ?_⟩
       have := (yct hlt).2
       show (c.cs.take k).length <= 1000000
       rw [List.length_take]; omega
     · exact ⟨rfl, fun _ _ _ _ => trivial⟩
     · exact fun _ _ _ _ => trivial
     · (subst hL; subst hQ; simp only [L2, L3, std] at *; try simp only [syS, reduceCtorEq, Int.reduceToNat, Int.reduceAdd, Int.reduceSub] at *)
       clear hG hO hE1 hE2 hRa hRb hCa hCb hXa hXb
       have hk2 : k <= c.cs.length := hk2
       have := zqr hlt k hk2
       have := (yct hlt).2
       exact zn7 rfl (by decide) (Nat.le_succ 1) (by omega)
     · (cbv; try simp only [syT, true_and, and_true])
       try simp only [hCa]
       (subst hL; subst hQ; simp only [L2, L3, std] at *; try simp only [syS, reduceCtorEq, Int.reduceToNat, Int.reduceAdd, Int.reduceSub] at *)
       clear hG hO hE1 hE2 hRa hRb hCa hCb hXa hXb
       have hk2 : k <= c.cs.length := hk2
       rw [(yii hk2).2]
       have h := zsv (e := yg6 (zaf c.cs k) (c.cs.take k)) (w := yr3) (n := 1) (i := [(k : Int)]) (o := vfC c k) (o' := vgC c k 0) rfl (ys8 c k).symm
       exact ⟨h, h.1, Nat.zero_le _⟩
     · have hj2 : leE2 (zaf c.cs k).es j := by
         have h := hj
         rw [hL] at h
         exact h
       clear hj
       (cbv; try simp only [syT, true_and, and_true])
       simp only [hG, hO, hXa, hXb, true_and]
       refine ⟨fun hlt2 => ⟨?_, ?_, ?_, ?_, ?_, ?_, ⟨j + 1, ?_⟩⟩, fun hge => ⟨k + 1, ?_⟩⟩
       · (subst hL; subst hQ; simp only [L2, L3, std] at *; try simp only [syS, reduceCtorEq, Int.reduceToNat, Int.reduceAdd, Int.reduceSub] at *)
         omega
       · (subst hL; subst hQ; simp only [L2, L3, std] at *; try simp only [syS, reduceCtorEq, Int.reduceToNat, Int.reduceAdd, Int.reduceSub] at *)
         omega
       · (subst hL; subst hQ; simp only [L2, L3, std] at *; try simp only [syS, reduceCtorEq, Int.reduceToNat, Int.reduceAdd, Int.reduceSub] at *)
         clear hG hO hE1 hE2 hRa hRb hCa hCb hXa hXb
         have hj2 : j <= (zaf c.cs k).es.length := hj2
         obtain ⟨g1, g2⟩ := yek hlt (show k < c.cs.length by omega)
         rw [(yih hj2).2]
         refine ⟨(yih hj2).1, ?_⟩
         show (List.take j _).length <= 1000000
         rw [List.length_take]; omega
       · exact ⟨rfl, fun _ _ _ _ => trivial⟩
       · exact fun _ _ _ _ => trivial
       · (subst hL; subst hQ; simp only [L2, L3, std] at *; try simp only [syS, reduceCtorEq, Int.reduceToNat, Int.reduceAdd, Int.reduceSub] at *)
         clear hG hO hE1 hE2 hRa hRb hCa hCb hXa hXb
         have hk2 : k < c.cs.length := by omega
         exact zn7 rfl (by decide) (Nat.le_refl 2) (yi6 hlt hk2 hj2)
       · (cbv; try simp only [syT, true_and, and_true])
         try simp only [hXa]
         (subst hL; subst hQ; simp only [L2, L3, std] at *; try simp only [syS, reduceCtorEq, Int.reduceToNat, Int.reduceAdd, Int.reduceSub] at *)
         clear hG hO hE1 hE2 hRa hRb hCa hCb hXa hXb
         have hj2 : j <= (zaf c.cs k).es.length := hj2
         have hj3 : j < (zaf c.cs k).es.length := by have : zan (zaf c.cs k).es = (zaf c.cs k).es.length := rfl; omega
         have h12 := (yek hlt (show k < c.cs.length by omega)).1
         rw [(yih hj2).2]
         have h := zsv (e := yfr (zcs (zaf c.cs k).es j) ((zaf c.cs k).es.take j)) (w := ys6) (n := 2) (i := [(k : Int), (j : Int)]) (o := vgC c k j) (o' := vgC c k (j + 1)) rfl (yd2 c k j).symm
         exact ⟨h, h.1, by omega, by show j + 1 <= (zaf c.cs k).es.length; omega, by show (zaf c.cs k).es.length - (j + 1) + 1 <= (zaf c.cs k).es.length - j; omega⟩
       · (cbv; try simp only [syT, true_and, and_true])
         (subst hL; subst hQ; simp only [L2, L3, std] at *; try simp only [syS, reduceCtorEq, Int.reduceToNat, Int.reduceAdd, Int.reduceSub] at *)
         clear hG hO hE1 hE2 hRa hRb hCa hCb hXa hXb
         have hj2 : j <= (zaf c.cs k).es.length := hj2
         have hj3 : j = (zaf c.cs k).es.length := by have : zan (zaf c.cs k).es = (zaf c.cs k).es.length := rfl; omega
         have h12 := (yct hlt).2
         rw [yi7 c hj3]
         exact ⟨⟨rfl, fun _ _ _ _ => rfl⟩, rfl, by omega, by show k + 1 <= c.cs.length; omega, by show c.cs.length - (k + 1) + 1 <= c.cs.length - k; omega⟩
     · (subst hL; subst hQ; simp only [L2, L3, std] at *; try simp only [syS, reduceCtorEq, Int.reduceToNat, Int.reduceAdd, Int.reduceSub] at *)
       clear hG hO hE1 hE2 hRa hRb hCa hCb hXa hXb
       have hk2 : k <= c.cs.length := hk2
       obtain rfl : k = c.cs.length := by omega
       rw [zon, if_neg (by rw [h1]; decide)]
       unfold yem
       rw [zhw]
       exact ⟨rfl, fun _ _ _ _ => rfl⟩
end Sy
end Go.Proofs.YthppjaoicibeiaaGreatDoor
namespace Go.Proofs.YthppjaoicibeiaaGreatDoor
namespace Sy
open Go Go.RowKit
set_option maxRecDepth 100000
set_option maxHeartbeats 4000000
set_option linter.unusedSimpArgs false
set_option linter.unusedVariables false
theorem wh1 (w : List UInt8) (i : Int) : (w ++ [32]) ++ dgI i = whZ w [i] := by rw [yne]; simp
end Sy
end Go.Proofs.YthppjaoicibeiaaGreatDoor
namespace Go.Proofs.YthppjaoicibeiaaGreatDoor
namespace Sy
open Go Go.RowKit
set_option maxRecDepth 100000
set_option linter.unusedSimpArgs false
set_option linter.unusedVariables false
theorem awT : plT ⟨127, 0, 0, 1, 80⟩ = [49, 50, 55, 46, 48, 46, 48, 46, 49, 58, 56, 48] := by
 have d1 := (zgl (s := [49, 50, 55]) (by decide)).1
 have d2 := (zgl (s := [48]) (by decide)).1
 have d3 := (zgl (s := [49]) (by decide)).1
 have d4 := (zgl (s := [56, 48]) (by decide)).1
 rw [show wnV [49, 50, 55] = 127 by decide] at d1
 rw [show wnV [48] = 0 by decide] at d2
 rw [show wnV [49] = 1 by decide] at d3
 rw [show wnV [56, 48] = 80 by decide] at d4
 rw [plT, d1, d2, d3, d4]; rfl
theorem awO : zvx ⟨127, 0, 0, 1, 80⟩ := ⟨⟨by decide, by decide⟩, ⟨by decide, by decide⟩, ⟨by decide, by decide⟩, ⟨by decide, by decide⟩, by decide, by decide⟩
theorem zx4 : za7 Tryz.prog 82 [] (.bool true) := by
 refine zae (T := tt) (S := fun L => zat [tru 134, yjp L, zr5 L]) (lo := noA) (lb := noA) 5 (fn := Tryz.f82) rfl rfl (by kernel_rfl) (by kernel_rfl) rfl za9 (za3 ⟨zca zn1, ydz, zvt, trivial⟩) (by kernel_rfl) ?_
 have e := (yiq awO).1 (by decide)
 rw [awT] at e
 (intro L P1 Q1 hL hP hQ; cbv; subst hL; simp only [L2, L3, std, syT]; subst hQ)
 (simp only [syS, reduceCtorEq, Int.reduceToNat, Int.reduceAdd, Int.reduceSub])
 simp only [e.1, e.2]
 exact ⟨(by decide : (12 : Nat) <= 1000000), fun _ => ⟨fun _ => ⟨by omega, fun _ => ⟨awO, awT⟩, rfl⟩, trivial⟩, trivial⟩
theorem zxe : za7 Tryz.prog 31 [] (.bool true) := by
 refine zae (T := tt) (S := fun L => zat [tru 82]) (lo := noA) (lb := noA) 5 (fn := Tryz.f31) rfl rfl (by kernel_rfl) (by kernel_rfl) rfl za9 (za3 ⟨zca zx4, trivial⟩) (by kernel_rfl) ?_
 (intro L P1 Q1 hL hP hQ; cbv; subst hL; simp only [L2, L3, std, syT]; subst hQ)
 (simp only [syS, reduceCtorEq, Int.reduceToNat, Int.reduceAdd, Int.reduceSub])
def plAt (L : za8) (x : Pl) : Nat -> AV
 | 0 => .int .u8 (L Pl.a x)
 | 1 => .int .u8 (L Pl.b x)
 | 2 => .int .u8 (L Pl.c x)
 | 3 => .int .u8 (L Pl.d x)
 | _ => .int .u16 (L Pl.p x)
def plOf (y : List Int × Int × Unit) : Pl := ⟨zdc y.1 0, zdc y.1 1, zdc y.1 2, zdc y.1 3, y.2.1⟩
theorem zth {H : Type} {enc : TypeId × Value -> H} {W : World} : zdm enc Tryz.prog W 32 Pl 5 (plAt std) zvx := by
 have O := (zcg (P := Tryz.prog) (enc := enc) (W := W) Tryz.underlying32 (by kernel_rfl) (zaq rfl (zzf Tryz.underlying29 (by kernel_rfl) (opens_int Tryz.underlying5 (by kernel_rfl)) (by omega)) (zaq rfl (opens_int Tryz.underlying30 (by kernel_rfl)) (zdo _))))
 refine ⟨O.size, fun fuel cs x h => ?_⟩
 obtain ⟨y, ⟨⟨hl, hall⟩, hp, _⟩, hlen, hy⟩ := O.go fuel cs x h
 have hb : ∀ j, j < 4 -> 0 <= zdc y.1 j /\ zdc y.1 j <= 255 := fun j hj => by
   have hlt : j < y.1.length := by omega
   have := bounds_u8 (hall _ (List.getElem_mem hlt))
   rw [zdc, List.getD_eq_getElem?_getD, List.getElem?_eq_getElem hlt]
   exact this
 refine ⟨plOf y, ⟨hb 0 (by omega), hb 1 (by omega), hb 2 (by omega), hb 3 (by omega), bounds_u16 hp⟩, hlen, fun j hj => ?_⟩
 obtain ⟨v, v1, v2, v3⟩ := hy j hj
 refine ⟨v, v1, v2, ?_⟩
 have cell : ∀ k, k < 4 -> avL (fun n (_ : Nat) => AV.int .u8 n) y.1 (k / 1) (k % 1) = .int .u8 (zdc y.1 k) := fun k hk => by
   rw [Nat.div_one, avL, zdc, List.getD_eq_getElem?_getD, List.getElem?_eq_getElem (by omega : k < y.1.length)]; rfl
 match j, hj with
 | 0, _ => simp only [Nat.mul_one, Nat.lt_add_one, show (0 : Nat) < 4 by omega, if_true, cell] at v3; exact v3
 | 1, _ => simp only [Nat.mul_one, show (1 : Nat) < 4 by omega, if_true, cell] at v3; exact v3
 | 2, _ => simp only [Nat.mul_one, show (2 : Nat) < 4 by omega, if_true, cell] at v3; exact v3
 | 3, _ => simp only [Nat.mul_one, show (3 : Nat) < 4 by omega, if_true, cell] at v3; exact v3
 | 4, _ => exact v3
end Sy
end Go.Proofs.YthppjaoicibeiaaGreatDoor
namespace Go.Proofs.YthppjaoicibeiaaGreatDoor
namespace Sy
open Go Go.RowKit
set_option maxRecDepth 100000
set_option linter.unusedSimpArgs false
set_option linter.unusedVariables false
theorem zdm.turn {H : Type} {enc : TypeId × Value -> H} {P : Program} {W : World} {t : TypeId} {α β : Type} {sz : Nat} {av : α -> Nat -> AV} {av' : β -> Nat -> AV} {ok : α -> Prop} {ok' : β -> Prop} (O : zdm enc P W t α sz av ok) (f : α -> β) (h2 : ∀ y, ok y -> ok' (f y))
   (h1 : ∀ y, ok y -> ∀ j, j < sz -> ∀ v, R W.heap (DW W) zar (av y j) v -> R W.heap (DW W) zar (av' (f y) j) v) : zdm enc P W t β sz av' ok' := by
 refine ⟨O.size, fun fuel cs x h => ?_⟩
 obtain ⟨y, y1, y2, y3⟩ := O.go fuel cs x h
 refine ⟨f y, h2 y y1, y2, fun j hj => ?_⟩
 obtain ⟨v, v1, v2, v3⟩ := y3 j hj
 exact ⟨v, v1, v2, h1 y y1 j hj v v3⟩
theorem yox {h : Array Obj} {D : Nat -> Prop} {μ : Mu} {sz n : Nat} {get get' : Nat -> Nat -> AV} {v : Value} (e : ∀ i j, i < n -> j < sz -> get i j = get' i j) (r : R h D μ (.lst sz n get) v) : R h D μ (.lst sz n get') v := by
 cases r with
 | lst0 _ _ a cap hn => exact .lst0 _ _ a cap hn
 | lst _ _ _ b o cap vs hD hc hv h1 hr => exact .lst _ _ _ b o cap vs hD hc hv h1 (fun i j hi hj => by rw [<- e i j hi hj]; exact hr i j hi hj)
theorem zgd {H : Type} {enc : TypeId × Value -> H} {P : Program} {W : World} {t e : TypeId} {α : Type} {V : Vw α} {ok : α -> Prop} (ht : P.underlying t = some (.slice e)) (hc : P.cellsOf t = 1) (he : zdm enc P W e α V.sz (V.cell std) ok) (hs : 0 < V.sz) :
   zdm enc P W t (List α) 1 (fun l _ => zu1 std V l) (fun l => l.length <= maxLen /\ ∀ y ∈ l, ok y) :=
 (zrb ht hc he hs).turn id (fun y h => h) (fun y h j hj v r => yox (fun i q hi hq => by
   show avL (V.cell std) y i q = V.cell std (zgr V y i) q
   have hi : i < y.length := hi
   rw [avL, List.getElem?_eq_getElem hi, zab hi]) r)
end Sy
end Go.Proofs.YthppjaoicibeiaaGreatDoor
namespace Go.Proofs.YthppjaoicibeiaaGreatDoor
namespace Sy
open Go Go.RowKit
set_option maxRecDepth 100000
set_option linter.unusedSimpArgs false
set_option linter.unusedVariables false
theorem ye1 {H : Type} {enc : TypeId × Value -> H} {W : World} : zdm enc Tryz.prog W 52 Rt 4 (rtC std) yrz :=
 (zcg Tryz.underlying52 (by kernel_rfl) (zaq rfl (zfw Tryz.underlying9 (by kernel_rfl)) (zaq rfl (zfw Tryz.underlying9 (by kernel_rfl)) (zaq rfl (zfw Tryz.underlying9 (by kernel_rfl)) (zaq rfl (opens_int Tryz.underlying22 (by kernel_rfl)) (zdo _)))))).turn
   (fun y => Rt.mk y.1 y.2.1 y.2.2.1 y.2.2.2.1) (fun y h => by have := bounds_u64 h.2.2.2.1; exact ⟨this.1, by show y.2.2.2.1 < _; omega⟩)
   (fun y h j hj v r => by match j, hj with | 0, _ => exact r | 1, _ => exact r | 2, _ => exact r | 3, _ => exact r)
theorem ye3 {H : Type} {enc : TypeId × Value -> H} {W : World} : zdm enc Tryz.prog W 54 Ep 6 (epC std) ys0 :=
 (zcg Tryz.underlying54 (by kernel_rfl) (zaq rfl zth (zaq rfl (opens_int Tryz.underlying3 (by kernel_rfl)) (zdo _)))).turn
   (fun y => Ep.mk y.1 y.2.1) (fun y h => by have := bounds_i64 h.2.1; exact ⟨h.1, this.1, this.2⟩)
   (fun y h j hj v r => by match j, hj with | 0, _ => exact r | 1, _ => exact r | 2, _ => exact r | 3, _ => exact r | 4, _ => exact r | 5, _ => exact r)
theorem ye2 {H : Type} {enc : TypeId × Value -> H} {W : World} : zdm enc Tryz.prog W 35 Ls 7 (lsC std) yi3 :=
 (zcg Tryz.underlying35 (by kernel_rfl) (zaq rfl (zfw Tryz.underlying9 (by kernel_rfl)) (zaq rfl zth (zaq rfl (zgd (V := rtV) Tryz.underlying33 (by kernel_rfl) ye1 (by decide)) (zdo _))))).turn
   (fun y => Ls.mk y.1 y.2.1 y.2.2.1) (fun y h => ⟨h.2.1, h.2.2.1.2⟩)
   (fun y h j hj v r => by match j, hj with | 0, _ => exact r | 1, _ => exact r | 2, _ => exact r | 3, _ => exact r | 4, _ => exact r | 5, _ => exact r | 6, _ => exact r)
theorem ye4 {H : Type} {enc : TypeId × Value -> H} {W : World} : zdm enc Tryz.prog W 40 Cl 2 (clC std) ys1 :=
 (zcg Tryz.underlying40 (by kernel_rfl) (zaq rfl (zfw Tryz.underlying9 (by kernel_rfl)) (zaq rfl (zgd (V := epV) Tryz.underlying38 (by kernel_rfl) ye3 (by decide)) (zdo _)))).turn
   (fun y => Cl.mk y.1 y.2.1) (fun y h => h.2.1.2)
   (fun y h j hj v r => by match j, hj with | 0, _ => exact r | 1, _ => exact r)
theorem opens_Cf {H : Type} {enc : TypeId × Value -> H} {W : World} : zdm enc Tryz.prog W 26 Cf 3 (cfC std) ynf :=
 (zcg Tryz.underlying26 (by kernel_rfl) (zaq rfl (opens_int Tryz.underlying22 (by kernel_rfl)) (zaq rfl (zgd (V := lsV) Tryz.underlying23 (by kernel_rfl) ye2 (by decide)) (zaq rfl (zgd (V := clV) Tryz.underlying24 (by kernel_rfl) ye4 (by decide)) (zdo _))))).turn
   (fun y => Cf.mk y.1 y.2.1 y.2.2.1) (fun y h => by have := bounds_u64 h.1; exact ⟨⟨this.1, by show y.1 < _; omega⟩, h.2.1.2, h.2.2.1.2⟩)
   (fun y h j hj v r => by match j, hj with | 0, _ => exact r | 1, _ => exact r | 2, _ => exact r)
theorem ygt : zaw 3 = [3] := by rw [zaw, show (3 : Int).toNat = 3 from rfl, zb2 (by decide)]; rfl
theorem zou : zaw 0 = [0] := by rw [zaw, show (0 : Int).toNat = 0 from rfl, zb2 (by decide)]; rfl
theorem yhm : zbi (zc5 []) = [3, 0] := by
 rw [zc5, zai, if_neg (by decide), if_neg (by decide), zas]
 show _ ++ (zaw 0 ++ _) = _
 rw [zou]; rfl
theorem ybe {n : Int} {b : UInt8} (h : zaw n = [b]) : zbi (zc5 [zfp n, zc5 [], zc5 []]) = [3, 3, 1, b, 3, 0, 3, 0] := by
 rw [zc5, zai, if_neg (by decide), if_neg (by decide), zas, zas, zas, zas]
 show _ ++ (zaw 3 ++ (_ ++ (_ ++ (_ ++ _)))) = _
 have e : zbi (zfp n) = [1, b] := by rw [zfp, zai, if_pos rfl, h]; rfl
 have e' : zbi (.mk 3 0 [] []) = [3, 0] := yhm
 rw [ygt, e, show zbi (zc5 []) = [3, 0] from yhm]; rfl
theorem ylj (n : Int) : ze6 (zc5 [zfp n, zc5 [], zc5 []]) = true := by simp [zc5, zfp, ze6, zc2]
theorem yli (n : Int) : zcx (zc5 [zfp n, zc5 [], zc5 []]) <= 6 := by
 simp only [zc5, zfp, zcx, zau]
 split <;> decide
theorem ybf {n : Int} {b : UInt8} (h : zaw n = [b]) : cfE ⟨n, [], []⟩ = 0 /\ cfT ⟨n, [], []⟩ = [3, 3, 1, b, 3, 0, 3, 0] := by
 have h1 : zln (zj2 ⟨n, [], []⟩) = 0 := by
   show zln (zc5 [zfp n, zc5 [], zc5 []]) = 0
   have := yli n
   rw [zln, if_pos (ylj n), if_neg (by omega), ybe h]; rfl
 have h2 : cfE ⟨n, [], []⟩ = 0 := h1
 refine ⟨h2, ?_⟩
 rw [cfT, if_pos h2, (yoa h1).2.2.2]
 exact ybe h
theorem yh3 (n : Int) : zac (.agg [.int .u64 n, .nils, .nils]) = ⟨n, [], []⟩ := rfl
theorem zzk (n : Int) : zcr (.agg [.int .u64 n, .nils, .nils]) := ⟨rfl, ⟨_, rfl⟩, trivial, trivial⟩
theorem zr6 {n : Int} (h : zco n) : zc9 ⟨n, [], []⟩ := ⟨rfl, h, (fun l hl => nomatch hl), (fun l hl => nomatch hl)⟩
theorem zx2 : za7 Tryz.prog 8 [] (.bool true) := by
 refine zae (T := tt) (S := fun L => zat [yg9 L, tru 31, tru 32]) (lo := noA) (lb := noA) 5 (fn := Tryz.f8) rfl rfl (by kernel_rfl) (by kernel_rfl) rfl za9 (za3 ⟨zur, zca zxe, zca zxd, trivial⟩) (by kernel_rfl) ?_
 intro L P' Q' hL hP hQ
 (cbv; try simp only [syT, true_and, and_true])
 (subst hL; subst hQ; simp only [L2, L3, std] at *; try simp only [syS, reduceCtorEq, Int.reduceToNat, Int.reduceAdd, Int.reduceSub] at *)
 simp only [yh3, (ybf zya).1, (ybf zya).2, (ybf zou).1, (ybf zou).2]
 exact ⟨⟨zzk 1, zr6 ⟨by decide, by decide⟩⟩, ⟨zzk 0, zr6 ⟨by decide, by decide⟩⟩, fun _ => ⟨fun _ => ⟨fun _ => trivial, trivial⟩, trivial⟩, trivial⟩
end Sy
end Go.Proofs.YthppjaoicibeiaaGreatDoor
namespace Go.Proofs.YthppjaoicibeiaaGreatDoor
namespace Sy
open Go Go.RowKit
set_option maxRecDepth 100000
set_option linter.unusedSimpArgs false
set_option linter.unusedVariables false
noncomputable def zj1 (c : Cf) : Bool := decide ((zon c).length = 0)
noncomputable def ycy (c : Cf) : Ft := zh0 (zon c) 0
noncomputable def yfp (L : za8) : zbv := (19, fun xs => match xs with
 | [x] => some (L zcr x /\ L zc9 (L zac x), .bool (L zj1 (L zac x)))
 | _ => none)
noncomputable def yg7 (L : za8) : zbv := (20, fun xs => match xs with
 | [x] => some (L zcr x /\ L zc9 (L zac x), .agg [.int .i64 (L Ft.c (L ycy (L zac x))), .str (L Ft.w (L ycy (L zac x)))])
 | _ => none)
theorem zuc : zb6 Tryz.prog (yfp std) := by
 intro xs p r h hp
 dsimp only [yfp] at h |-
 split at h <;> cases h
 try simp only [L2, L3, std] at hp |-
 rename_i x
 refine zmy zc1 hp.1 ?_
 have hp := hp.2
 show za7 _ _ [.agg [.int .u64 (zac x).v, zem std (zac x).ls, ze0 std (zac x).cs]] (.bool (zj1 (zac x)))
 have hp : zc9 (zac x) := hp
 generalize zac x = c at hp |-
 refine za4 (T := tt) (S := fun L => zat [ygf L]) (lo := fun _ => noA std) (lb := noA) 5 (fn := Tryz.f19) (xs := fun L => [.agg [.int .u64 (L Cf.v c), zem L (L Cf.ls c), ze0 L (L Cf.cs c)]]) rfl rfl (by kernel_rfl) (by kernel_rfl) rfl za9 (za3 ⟨zux, trivial⟩) (by kernel_rfl) ?_
 intro L P' Q' hL hP hQ
 have hG : ∀ y : Cf, L zac (.agg [.int .u64 (L Cf.v y), .lst 7 (L zan (L Cf.ls y)) (fun i => lsC L (L (L za6 (L Cf.ls y)) i)), .lst 2 (L zan (L Cf.cs y)) (fun i => clC L (L (L zaf (L Cf.cs y)) i))]) = y := by subst hL; exact fun y => (gK zc1 y _ rfl).2
 have hO : ∀ y : Cf, L zcr (.agg [.int .u64 (L Cf.v y), .lst 7 (L zan (L Cf.ls y)) (fun i => lsC L (L (L za6 (L Cf.ls y)) i)), .lst 2 (L zan (L Cf.cs y)) (fun i => clC L (L (L zaf (L Cf.cs y)) i))]) := by subst hL; exact fun y => (gK zc1 y _ rfl).1
 (cbv; try simp only [syT, true_and, and_true])
 simp only [hG, hO, true_and]
 (subst hL; subst hQ; simp only [L2, L3, std] at *; try simp only [syS, reduceCtorEq, Int.reduceToNat, Int.reduceAdd, Int.reduceSub] at *)
 clear hG hO
 refine ⟨hp, ?_⟩
 show ieq ((zon c).length : Int) 0 = _
 rw [yf9]; rfl
theorem zum : zb6 Tryz.prog (yg7 std) := by
 intro xs p r h hp
 dsimp only [yg7] at h |-
 split at h <;> cases h
 try simp only [L2, L3, std] at hp |-
 rename_i x
 refine zmy zc1 hp.1 ?_
 have hp := hp.2
 show za7 _ _ [.agg [.int .u64 (zac x).v, zem std (zac x).ls, ze0 std (zac x).cs]] (.agg [.int .i64 (ycy (zac x)).c, .str (ycy (zac x)).w])
 have hp : zc9 (zac x) := hp
 generalize zac x = c at hp |-
 refine za4 (T := tt) (S := fun L => zat [ygf L]) (lo := fun _ => noA std) (lb := noA) 5 (fn := Tryz.f20) (xs := fun L => [.agg [.int .u64 (L Cf.v c), zem L (L Cf.ls c), ze0 L (L Cf.cs c)]]) rfl rfl (by kernel_rfl) (by kernel_rfl) rfl za9 (za3 ⟨zux, trivial⟩) (by kernel_rfl) ?_
 intro L P' Q' hL hP hQ
 have hG : ∀ y : Cf, L zac (.agg [.int .u64 (L Cf.v y), .lst 7 (L zan (L Cf.ls y)) (fun i => lsC L (L (L za6 (L Cf.ls y)) i)), .lst 2 (L zan (L Cf.cs y)) (fun i => clC L (L (L zaf (L Cf.cs y)) i))]) = y := by subst hL; exact fun y => (gK zc1 y _ rfl).2
 have hO : ∀ y : Cf, L zcr (.agg [.int .u64 (L Cf.v y), .lst 7 (L zan (L Cf.ls y)) (fun i => lsC L (L (L za6 (L Cf.ls y)) i)), .lst 2 (L zan (L Cf.cs y)) (fun i => clC L (L (L zaf (L Cf.cs y)) i))]) := by subst hL; exact fun y => (gK zc1 y _ rfl).1
 (cbv; try simp only [syT, true_and, and_true])
 simp only [hG, hO, true_and]
 (subst hL; subst hQ; simp only [L2, L3, std] at *; try simp only [syS, reduceCtorEq, Int.reduceToNat, Int.reduceAdd, Int.reduceSub] at *)
 clear hG hO
 refine ⟨hp, fun h => ?_, fun h => ⟨?_, rfl, rfl⟩⟩
 · have h0 : (zon c).length = 0 := by have : zan (zon c) = (zon c).length := rfl; omega
   have : zon c = [] := List.length_eq_zero_iff.1 h0
   unfold ycy
   rw [this]
   exact ⟨rfl, rfl⟩
 · omega
def c10 : Cf := ⟨0, [⟨[], ⟨0, 0, 0, 0, 0⟩, []⟩], []⟩
def c0 : Cf := ⟨0, [], []⟩
theorem zy8 {n : Int} {b : Nat} (h : n.toNat = b) (hb : b < 128) : zaw n = [UInt8.ofNat b] := by rw [zaw, h, zb2 hb]
theorem ymb : zj2 c10 = zc5 [zfp 0, zc5 [zc5 [zib [], zib [0, 0, 0, 0, 0, 0], zc5 []]], zc5 []] := by rfl
theorem ymd : (zbi (zj2 c10)).length <= 8192 := by
 rw [ymb]
 have s1 : zaw 1 = [1] := zy8 rfl (by decide)
 have s6 : zaw 6 = [6] := zy8 rfl (by decide)
 simp [zc5, zfp, zib, zai, zas, zfo, zou, ygt, s1, s6]
theorem ytz : cfE c10 = 0 := by
 have h : zln (zj2 c10) = 0 := by
   have h1 : ze6 (zj2 c10) = true := by decide +kernel
   have h2 : ¬ zcx (zj2 c10) > 6 := by decide +kernel
   have h3 := ymd
   rw [zln, if_pos h1, if_neg h2, if_neg (by omega)]
 rw [cfE, if_neg (by decide), if_neg (by decide), h]
theorem yg8 : zgs [] = false := by decide +kernel
theorem yql : dgI 0 = [48] := by decide +kernel
theorem yme : ycy c10 = ⟨4, [108, 105, 115, 116, 101, 110, 101, 114, 32, 48]⟩ := by
 have h1 : zu2 ⟨[], ⟨0, 0, 0, 0, 0⟩, []⟩ [] = 4 := by
   unfold zu2 yjz
   rw [yg8]; rfl
 have h2 : yd3 c10 0 = [⟨4, whZ ymu [0]⟩] := by
   unfold yd3
   show ftI (zu2 ⟨[], ⟨0, 0, 0, 0, 0⟩, []⟩ []) _ = _
   rw [h1]; rfl
 have h3 : zon c10 = [⟨4, whZ ymu [0]⟩] := by
   rw [zon, if_neg (by rw [ytz]; decide)]
   show vfC c10 0 = _
   rw [vfC]
   show vfL c10 1 = _
   rw [vfL, vfL, h2]; rfl
 rw [ycy, h3, <- wh1, yql]; rfl
theorem yqm : zj1 c0 = true := by
 have h3 : zon c0 = [] := by
   rw [zon, if_neg (by rw [show cfE c0 = 0 from (ybf zou).1]; decide)]; rfl
 rw [zj1, h3]; rfl
theorem ygn : za7 Tryz.prog 45 [] (.bool true) := by
 refine zae (T := tt) (S := fun L => zat [tru 86]) (lo := noA) (lb := noA) 5 (fn := Tryz.f45) rfl rfl (by kernel_rfl) (by kernel_rfl) rfl za9 (za3 ⟨zca zx5, trivial⟩) (by kernel_rfl) ?_
 (intro L P1 Q1 hL hP hQ; cbv; subst hL; simp only [L2, L3, std, syT]; subst hQ)
 (simp only [syS, reduceCtorEq, Int.reduceToNat, Int.reduceAdd, Int.reduceSub])
theorem ygm : za7 Tryz.prog 46 [] (.bool true) := by
 refine zae (T := tt) (S := fun L => zat [tru 8]) (lo := noA) (lb := noA) 5 (fn := Tryz.f46) rfl rfl (by kernel_rfl) (by kernel_rfl) rfl za9 (za3 ⟨zca zx2, trivial⟩) (by kernel_rfl) ?_
 (intro L P1 Q1 hL hP hQ; cbv; subst hL; simp only [L2, L3, std, syT]; subst hQ)
 (simp only [syS, reduceCtorEq, Int.reduceToNat, Int.reduceAdd, Int.reduceSub])
theorem yqj : zac (.agg [.int .u64 0, .lst 7 1 (fun i j => zbn .dead [.str [], .int .u8 0, .int .u8 0, .int .u8 0, .int .u8 0, .int .u16 0, .nils] (i * 7 + j)), .nils]) = c10 := by rfl
theorem yqk : zcr (.agg [.int .u64 0, .lst 7 1 (fun i j => zbn .dead [.str [], .int .u8 0, .int .u8 0, .int .u8 0, .int .u8 0, .int .u16 0, .nils] (i * 7 + j)), .nils]) := by
 refine ⟨rfl, ⟨_, rfl⟩, ⟨rfl, fun i hi => ?_⟩, trivial⟩
 obtain rfl : i = 0 := by omega
 exact ⟨⟨_, rfl⟩, ⟨⟨_, rfl⟩, ⟨_, rfl⟩, ⟨_, rfl⟩, ⟨_, rfl⟩, ⟨_, rfl⟩⟩, trivial⟩
theorem ymc : zc9 c10 := by
 refine ⟨by decide, ⟨by decide, by decide⟩, fun l hl => ?_, fun l hl => nomatch hl⟩
 obtain rfl : l = ⟨[], ⟨0, 0, 0, 0, 0⟩, []⟩ := by simpa [c10] using hl
 exact ⟨by unfold zvx; decide, fun x hx => nomatch hx⟩
theorem zx1 : za7 Tryz.prog 16 [] (.bool true) := by
 refine zae (T := tt) (S := fun L => zat [yg7 L, yfp L, tru 45, tru 46]) (lo := noA) (lb := noA) 5 (fn := Tryz.f16) rfl rfl (by kernel_rfl) (by kernel_rfl) rfl za9 (za3 ⟨zum, zuc, zca ygn, zca ygm, trivial⟩) (by kernel_rfl) ?_
 intro L P' Q' hL hP hQ
 (cbv; try simp only [syT, true_and, and_true])
 (subst hL; subst hQ; simp only [L2, L3, std] at *; try simp only [syS, reduceCtorEq, Int.reduceToNat, Int.reduceAdd, Int.reduceSub] at *)
 rw [yqj, yh3, yme]
 exact ⟨⟨yqk, ymc⟩, ⟨zzk 0, zr6 ⟨by decide, by decide⟩⟩, fun _ => ⟨rfl, rfl⟩, by rw [show (⟨0, [], []⟩ : Cf) = c0 from rfl, yqm]; decide⟩
end Sy
end Go.Proofs.YthppjaoicibeiaaGreatDoor
namespace Go.Proofs.YthppjaoicibeiaaGreatDoor
namespace Sy
open Go Go.RowKit
set_option maxRecDepth 100000
set_option linter.unusedSimpArgs false
set_option linter.unusedVariables false
theorem zty {P : Program} {f : FuncId} {sz n : Nat} {get : Nat -> Nat -> AV} {xs : List AV} {O : List (Nat × Ob)} {r : AV} {O1 : List (Nat × Ob)} (h1 : 0 < n -> zbh P f (.lst sz n get :: xs) O r O1) (h2 : n = 0 -> zbh P f (.nils :: xs) O r O1) (h3 : n = 0 -> zbh P f (.emp :: xs) O r O1) : zbh P f (.lst sz n get :: xs) O r O1 := by
 by_cases h0 : 0 < n
 · exact h1 h0
 obtain rfl : n = 0 := by omega
 intro D w μ vs hD hxs
 obtain ⟨v, hv⟩ : ∃ v, vs[0]? = some v := by
   have := hxs.1
   simp at this
   exact ⟨vs[0], by simp⟩
 have hr := hxs.2 0 _ v rfl hv
 have other : ∀ y, R w.heap D μ y v -> RL w.heap D μ (y :: xs) vs := fun y hy => ⟨hxs.1, fun i z u hz hu => by
   cases i with
   | zero => cases hz; rw [hv] at hu; cases hu; exact hy
   | succ i => exact hxs.2 (i + 1) z u hz hu⟩
 cases hr with
 | lst0 _ _ a cap hn =>
   cases a with
   | none =>
     have := hn rfl
     subst this
     exact h2 rfl D w μ vs hD (other _ .nils)
   | some a => exact h3 rfl D w μ vs hD (other _ (.emp a cap))
 | lst _ _ _ b o cap ws hD' hc hv' h1' hr' => exact h3 rfl D w μ vs hD (other _ (.emp _ cap))
def upN (n : Nat) : Prop := n <= 1000000
def zfk (f ty sz : Nat) (L : za8) : zk0 := (f, fun raw ob => match raw with
 | [.lst s n get] => match zaj s sz with
   | true => some ⟨[.lst sz n get], [], L upN n, .sl 900 sz 0 n, [(900, .row ty sz n get)]⟩
   | false => none
 | _ => none)
theorem zrn (i j k n : Int) : (yae i j k n = true) = (0 <= i /\ i <= j /\ j <= k /\ k <= n) := by simp [yae, and_assoc]
end Sy
end Go.Proofs.YthppjaoicibeiaaGreatDoor
namespace Go.Proofs.YthppjaoicibeiaaGreatDoor
namespace Sy
open Go Go.RowKit
set_option maxRecDepth 100000
set_option linter.unusedSimpArgs false
set_option linter.unusedVariables false
theorem zq4 : zdd Tryz.prog (zfk 39 35 7 std) := by
 intro raw ob T h hp
 unfold zfk at h
 simp only at h
 split at h
 rotate_left
 · cases h
 rename_i s n get
 cases hs : zaj s 7 with
 | false => rw [hs] at h; cases h
 | true =>
 rw [hs] at h
 cases h
 have hp : n <= 1000000 := hp
 refine zty (fun h0 => ?_) (fun h0 => ?_) (fun h0 => ?_)
 · refine zal (T := tt) (S := noS) (lo := noA) (lb := noA) 5 (fn := Tryz.f39) (xs := fun L => [.lst 7 n get]) (rts := fun _ => [.sl 900 7 0 n]) (O := fun L => []) (O1 := fun L => [(900, .row 35 7 n get)]) rfl rfl (by kernel_rfl) (by kernel_rfl) (by kernel_rfl) za9 (zbb _) (by kernel_rfl) ?_
   intro L P' Q' hL hP hQ
   (cbv; try simp only [syT, true_and, and_true])
   (subst hL; subst hQ; simp only [L2, L3, std] at *; try simp only [syS, reduceCtorEq, Int.reduceToNat, Int.reduceAdd, Int.reduceSub] at *)
   simp only [zbl] at *
   exact ⟨h0, Nat.le_trans (Nat.mul_le_mul_right _ (show 0 + n <= 1000000 by omega)) (by decide), by omega⟩
 · refine zal (T := tt) (S := noS) (lo := noA) (lb := noA) 5 (fn := Tryz.f39) (xs := fun L => [.nils]) (rts := fun _ => [.sl 900 7 0 n]) (O := fun L => []) (O1 := fun L => [(900, .row 35 7 n get)]) rfl rfl (by kernel_rfl) (by kernel_rfl) (by kernel_rfl) za9 (zbb _) (by kernel_rfl) ?_
   intro L P' Q' hL hP hQ
   (cbv; try simp only [syT, true_and, and_true])
   (subst hL; subst hQ; simp only [L2, L3, std] at *; try simp only [syS, reduceCtorEq, Int.reduceToNat, Int.reduceAdd, Int.reduceSub] at *)
   exact ⟨by omega, by omega⟩
 · refine zal (T := tt) (S := noS) (lo := noA) (lb := noA) 5 (fn := Tryz.f39) (xs := fun L => [.emp]) (rts := fun _ => [.sl 900 7 0 n]) (O := fun L => []) (O1 := fun L => [(900, .row 35 7 n get)]) rfl rfl (by kernel_rfl) (by kernel_rfl) (by kernel_rfl) za9 (zbb _) (by kernel_rfl) ?_
   intro L P' Q' hL hP hQ
   (cbv; try simp only [syT, true_and, and_true])
   (subst hL; subst hQ; simp only [L2, L3, std] at *; try simp only [syS, reduceCtorEq, Int.reduceToNat, Int.reduceAdd, Int.reduceSub] at *)
   exact ⟨⟨by omega, by omega⟩, ⟨by omega, fun i j hi hj => by omega⟩, by omega⟩
theorem zq6 : zdd Tryz.prog (zfk 40 40 2 std) := by
 intro raw ob T h hp
 unfold zfk at h
 simp only at h
 split at h
 rotate_left
 · cases h
 rename_i s n get
 cases hs : zaj s 2 with
 | false => rw [hs] at h; cases h
 | true =>
 rw [hs] at h
 cases h
 have hp : n <= 1000000 := hp
 refine zty (fun h0 => ?_) (fun h0 => ?_) (fun h0 => ?_)
 · refine zal (T := tt) (S := noS) (lo := noA) (lb := noA) 5 (fn := Tryz.f40) (xs := fun L => [.lst 2 n get]) (rts := fun _ => [.sl 900 2 0 n]) (O := fun L => []) (O1 := fun L => [(900, .row 40 2 n get)]) rfl rfl (by kernel_rfl) (by kernel_rfl) (by kernel_rfl) za9 (zbb _) (by kernel_rfl) ?_
   intro L P' Q' hL hP hQ
   (cbv; try simp only [syT, true_and, and_true])
   (subst hL; subst hQ; simp only [L2, L3, std] at *; try simp only [syS, reduceCtorEq, Int.reduceToNat, Int.reduceAdd, Int.reduceSub] at *)
   simp only [zbl] at *
   exact ⟨h0, Nat.le_trans (Nat.mul_le_mul_right _ (show 0 + n <= 1000000 by omega)) (by decide), by omega⟩
 · refine zal (T := tt) (S := noS) (lo := noA) (lb := noA) 5 (fn := Tryz.f40) (xs := fun L => [.nils]) (rts := fun _ => [.sl 900 2 0 n]) (O := fun L => []) (O1 := fun L => [(900, .row 40 2 n get)]) rfl rfl (by kernel_rfl) (by kernel_rfl) (by kernel_rfl) za9 (zbb _) (by kernel_rfl) ?_
   intro L P' Q' hL hP hQ
   (cbv; try simp only [syT, true_and, and_true])
   (subst hL; subst hQ; simp only [L2, L3, std] at *; try simp only [syS, reduceCtorEq, Int.reduceToNat, Int.reduceAdd, Int.reduceSub] at *)
   exact ⟨by omega, by omega⟩
 · refine zal (T := tt) (S := noS) (lo := noA) (lb := noA) 5 (fn := Tryz.f40) (xs := fun L => [.emp]) (rts := fun _ => [.sl 900 2 0 n]) (O := fun L => []) (O1 := fun L => [(900, .row 40 2 n get)]) rfl rfl (by kernel_rfl) (by kernel_rfl) (by kernel_rfl) za9 (zbb _) (by kernel_rfl) ?_
   intro L P' Q' hL hP hQ
   (cbv; try simp only [syT, true_and, and_true])
   (subst hL; subst hQ; simp only [L2, L3, std] at *; try simp only [syS, reduceCtorEq, Int.reduceToNat, Int.reduceAdd, Int.reduceSub] at *)
   exact ⟨⟨by omega, by omega⟩, ⟨by omega, fun i j hi hj => by omega⟩, by omega⟩
theorem zq3 : zdd Tryz.prog (zfk 41 52 4 std) := by
 intro raw ob T h hp
 unfold zfk at h
 simp only at h
 split at h
 rotate_left
 · cases h
 rename_i s n get
 cases hs : zaj s 4 with
 | false => rw [hs] at h; cases h
 | true =>
 rw [hs] at h
 cases h
 have hp : n <= 1000000 := hp
 refine zty (fun h0 => ?_) (fun h0 => ?_) (fun h0 => ?_)
 · refine zal (T := tt) (S := noS) (lo := noA) (lb := noA) 5 (fn := Tryz.f41) (xs := fun L => [.lst 4 n get]) (rts := fun _ => [.sl 900 4 0 n]) (O := fun L => []) (O1 := fun L => [(900, .row 52 4 n get)]) rfl rfl (by kernel_rfl) (by kernel_rfl) (by kernel_rfl) za9 (zbb _) (by kernel_rfl) ?_
   intro L P' Q' hL hP hQ
   (cbv; try simp only [syT, true_and, and_true])
   (subst hL; subst hQ; simp only [L2, L3, std] at *; try simp only [syS, reduceCtorEq, Int.reduceToNat, Int.reduceAdd, Int.reduceSub] at *)
   simp only [zbl] at *
   exact ⟨h0, Nat.le_trans (Nat.mul_le_mul_right _ (show 0 + n <= 1000000 by omega)) (by decide), by omega⟩
 · refine zal (T := tt) (S := noS) (lo := noA) (lb := noA) 5 (fn := Tryz.f41) (xs := fun L => [.nils]) (rts := fun _ => [.sl 900 4 0 n]) (O := fun L => []) (O1 := fun L => [(900, .row 52 4 n get)]) rfl rfl (by kernel_rfl) (by kernel_rfl) (by kernel_rfl) za9 (zbb _) (by kernel_rfl) ?_
   intro L P' Q' hL hP hQ
   (cbv; try simp only [syT, true_and, and_true])
   (subst hL; subst hQ; simp only [L2, L3, std] at *; try simp only [syS, reduceCtorEq, Int.reduceToNat, Int.reduceAdd, Int.reduceSub] at *)
   exact ⟨by omega, by omega⟩
 · refine zal (T := tt) (S := noS) (lo := noA) (lb := noA) 5 (fn := Tryz.f41) (xs := fun L => [.emp]) (rts := fun _ => [.sl 900 4 0 n]) (O := fun L => []) (O1 := fun L => [(900, .row 52 4 n get)]) rfl rfl (by kernel_rfl) (by kernel_rfl) (by kernel_rfl) za9 (zbb _) (by kernel_rfl) ?_
   intro L P' Q' hL hP hQ
   (cbv; try simp only [syT, true_and, and_true])
   (subst hL; subst hQ; simp only [L2, L3, std] at *; try simp only [syS, reduceCtorEq, Int.reduceToNat, Int.reduceAdd, Int.reduceSub] at *)
   exact ⟨⟨by omega, by omega⟩, ⟨by omega, fun i j hi hj => by omega⟩, by omega⟩
theorem zq5 : zdd Tryz.prog (zfk 42 54 6 std) := by
 intro raw ob T h hp
 unfold zfk at h
 simp only at h
 split at h
 rotate_left
 · cases h
 rename_i s n get
 cases hs : zaj s 6 with
 | false => rw [hs] at h; cases h
 | true =>
 rw [hs] at h
 cases h
 have hp : n <= 1000000 := hp
 refine zty (fun h0 => ?_) (fun h0 => ?_) (fun h0 => ?_)
 · refine zal (T := tt) (S := noS) (lo := noA) (lb := noA) 5 (fn := Tryz.f42) (xs := fun L => [.lst 6 n get]) (rts := fun _ => [.sl 900 6 0 n]) (O := fun L => []) (O1 := fun L => [(900, .row 54 6 n get)]) rfl rfl (by kernel_rfl) (by kernel_rfl) (by kernel_rfl) za9 (zbb _) (by kernel_rfl) ?_
   intro L P' Q' hL hP hQ
   (cbv; try simp only [syT, true_and, and_true])
   (subst hL; subst hQ; simp only [L2, L3, std] at *; try simp only [syS, reduceCtorEq, Int.reduceToNat, Int.reduceAdd, Int.reduceSub] at *)
   simp only [zbl] at *
   exact ⟨h0, Nat.le_trans (Nat.mul_le_mul_right _ (show 0 + n <= 1000000 by omega)) (by decide), by omega⟩
 · refine zal (T := tt) (S := noS) (lo := noA) (lb := noA) 5 (fn := Tryz.f42) (xs := fun L => [.nils]) (rts := fun _ => [.sl 900 6 0 n]) (O := fun L => []) (O1 := fun L => [(900, .row 54 6 n get)]) rfl rfl (by kernel_rfl) (by kernel_rfl) (by kernel_rfl) za9 (zbb _) (by kernel_rfl) ?_
   intro L P' Q' hL hP hQ
   (cbv; try simp only [syT, true_and, and_true])
   (subst hL; subst hQ; simp only [L2, L3, std] at *; try simp only [syS, reduceCtorEq, Int.reduceToNat, Int.reduceAdd, Int.reduceSub] at *)
   exact ⟨by omega, by omega⟩
 · refine zal (T := tt) (S := noS) (lo := noA) (lb := noA) 5 (fn := Tryz.f42) (xs := fun L => [.emp]) (rts := fun _ => [.sl 900 6 0 n]) (O := fun L => []) (O1 := fun L => [(900, .row 54 6 n get)]) rfl rfl (by kernel_rfl) (by kernel_rfl) (by kernel_rfl) za9 (zbb _) (by kernel_rfl) ?_
   intro L P' Q' hL hP hQ
   (cbv; try simp only [syT, true_and, and_true])
   (subst hL; subst hQ; simp only [L2, L3, std] at *; try simp only [syS, reduceCtorEq, Int.reduceToNat, Int.reduceAdd, Int.reduceSub] at *)
   exact ⟨⟨by omega, by omega⟩, ⟨by omega, fun i j hi hj => by omega⟩, by omega⟩
def zyu (L : za8) (l : List Ls) : Ob := .row 35 7 (L zan l) (fun q => lsC L (L (L za6 l) q))
def zyv (L : za8) (l : List Cl) : Ob := .row 40 2 (L zan l) (fun q => clC L (L (L zaf l) q))
def ylw (L : za8) : zk0 := (13, fun raw ob => match raw with
 | [.agg cs] => some ⟨[.agg cs], [], L zcr (.agg cs) /\ L zph (L zac (.agg cs)), .agg [.int .u64 (L Cf.v (L zac (.agg cs))), .sl 900 7 0 (L zan (L Cf.ls (L zac (.agg cs)))), .sl 901 2 0 (L zan (L Cf.cs (L zac (.agg cs))))], [(900, zyu L (L Cf.ls (L zac (.agg cs)))), (901, zyv L (L Cf.cs (L zac (.agg cs))))]⟩
 | _ => none)
def cloA (L : za8) (y : Cf) : Nat -> St -> Option Ann := fun id st => match id with
 | 0 => some ⟨Nat, fun i => [(16, .int .i64 (L zbd i)), (1, .ref 1 0)], fun i => [(1, .box 26 [.int .u64 (L Cf.v y), .sl 910 7 0 (L zan (L Cf.ls y)), .sl 911 2 0 (L zan (L Cf.cs y))]), (910, zyu L (L Cf.ls y)), (911, zyv L (L Cf.cs y))], [2, 15], [2], fun i => L2 L ya4 (L Cf.ls y) i, fun i => L2 L yrm (L Cf.ls y) i⟩
 | 2 => some ⟨Nat, fun i => [(35, .int .i64 (L zbd i)), (1, .ref 1 0)], fun i => [(1, .box 26 [.int .u64 (L Cf.v y), .sl 912 7 0 (L zan (L Cf.ls y)), .sl 913 2 0 (L zan (L Cf.cs y))]), (912, zyu L (L Cf.ls y)), (913, zyv L (L Cf.cs y))], [2, 34], [2], fun i => L2 L ya5 (L Cf.cs y) i, fun i => L2 L yn5 (L Cf.cs y) i⟩
 | _ => none
theorem yjq (l : List Ls) (i q j : Nat) (hj : j < 7) : over std i 6 1 [AV.lst 4 (zan (za6 l i).rs) fun a => rtC std (zb3 (za6 l i).rs a)] (fun q => lsC std (za6 l q)) q j = lsC std (za6 l q) j := by
 match j, hj with
 | 0, _ => rfl
 | 1, _ => rfl
 | 2, _ => rfl
 | 3, _ => rfl
 | 4, _ => rfl
 | 5, _ => rfl
 | 6, _ =>
   show zgx std (zaj q i) (AV.lst 4 (zan (za6 l i).rs) fun a => rtC std (zb3 (za6 l i).rs a)) (AV.lst 4 (zan (za6 l q).rs) fun a => rtC std (zb3 (za6 l q).rs a)) = _
   by_cases h : q = i
   · subst h
     rw [za5]; rfl
   · rw [zam h]; rfl
theorem yjr (l : List Cl) (i q j : Nat) (hj : j < 2) : over std i 1 1 [AV.lst 6 (zan (zaf l i).es) fun a => epC std (zcs (zaf l i).es a)] (fun q => clC std (zaf l q)) q j = clC std (zaf l q) j := by
 match j, hj with
 | 0, _ => rfl
 | 1, _ =>
   show zgx std (zaj q i) (AV.lst 6 (zan (zaf l i).es) fun a => epC std (zcs (zaf l i).es a)) (AV.lst 6 (zan (zaf l q).es) fun a => epC std (zcs (zaf l q).es a)) = _
   by_cases h : q = i
   · subst h
     rw [za5]; rfl
   · rw [zam h]; rfl
theorem ybq : zdd Tryz.prog (ylw std) := by
 intro raw ob T h hp
 unfold ylw at h
 simp only at h
 split at h
 rotate_left
 · cases h
 rename_i cs
 cases h
 obtain ⟨ho, hp⟩ := hp
 have ho : okG cfV (.agg cs) := ho
 refine zkp (fun h D μ vs hr => yh2 (fun v => G_R zc1 ho) hr) ?_
 have hp : zph (zac (.agg cs)) := hp
 show zbh Tryz.prog 13 [.agg [.int .u64 (zac (.agg cs)).v, zem std (zac (.agg cs)).ls, ze0 std (zac (.agg cs)).cs]] [] (.agg [.int .u64 (zac (.agg cs)).v, .sl 900 7 0 (zan (zac (.agg cs)).ls), .sl 901 2 0 (zan (zac (.agg cs)).cs)]) [(900, zyu std (zac (.agg cs)).ls), (901, zyv std (zac (.agg cs)).cs)]
 generalize zac (.agg cs) = y at hp |-
 refine zal (T := tt) (S := fun L => zbw [] [zfk 39 35 7 L, zfk 40 40 2 L, zfk 41 52 4 L, zfk 42 54 6 L]) (lo := fun L => cloA L y) (lb := noA) 5 (fn := Tryz.f13) (xs := fun L => [.agg [.int .u64 (L Cf.v y), zem L (L Cf.ls y), ze0 L (L Cf.cs y)]]) (rts := fun L => [.agg [.int .u64 (L Cf.v y), .sl 900 7 0 (L zan (L Cf.ls y)), .sl 901 2 0 (L zan (L Cf.cs y))]]) (O := fun L => []) (O1 := fun L => [(900, zyu L (L Cf.ls y)), (901, zyv L (L Cf.cs y))]) rfl rfl (by kernel_rfl) (by kernel_rfl) (by kernel_rfl) za9 (zap trivial ⟨zq4, zq6, zq3, zq5, trivial⟩) (by kernel_rfl) ?_
 intro L P' Q' hL hP hQ
 have e1 : zan y.ls = y.ls.length := rfl
 have e2 : zan y.cs = y.cs.length := rfl
 have z1 : y.ls.length <= 1000000 := hp.1
 have z2 : y.cs.length <= 1000000 := hp.2.1
 (cbv; try simp only [syT, true_and, and_true])
 refine ⟨?_, ?_, ?_, ?_, ⟨0, ?_⟩, fun i hi => ?_⟩
 · exact fun _ _ _ _ => trivial
 · subst hL
   exact z1
 · exact fun _ _ _ _ => trivial
 · subst hL
   exact z2
 · (cbv; try simp only [syT, true_and, and_true])
   (subst hL; subst hQ; simp only [L2, L3, std] at *; try simp only [syS, reduceCtorEq, Int.reduceToNat, Int.reduceAdd, Int.reduceSub] at *)
   exact Nat.zero_le _
 · have hi2 : ya4 y.ls i := by
     have h := hi
     rw [hL] at h
     exact h
   clear hi
   (cbv; try simp only [syT, true_and, and_true])
   refine ⟨fun hlt => ⟨?_, ?_, ?_, ?_, ⟨i + 1, ?_⟩⟩, fun hge => ⟨⟨0, ?_⟩, fun k hk => ?_⟩⟩
   all_goals try (cbv; try simp only [syT, true_and, and_true])
   · (subst hL; subst hQ; simp only [L2, L3, std] at *; try simp only [syS, reduceCtorEq, Int.reduceToNat, Int.reduceAdd, Int.reduceSub] at *)
     omega
   · exact fun _ _ _ _ => trivial
   · (subst hL; subst hQ; simp only [L2, L3, std] at *; try simp only [syS, reduceCtorEq, Int.reduceToNat, Int.reduceAdd, Int.reduceSub] at *)
     exact yic hp (by omega)
   · (subst hL; subst hQ; simp only [L2, L3, std] at *; try simp only [syS, reduceCtorEq, Int.reduceToNat, Int.reduceAdd, Int.reduceSub] at *)
     omega
   · (subst hL; subst hQ; simp only [L2, L3, std] at *; try simp only [syS, reduceCtorEq, Int.reduceToNat, Int.reduceAdd, Int.reduceSub] at *)
     have hi3 : i <= y.ls.length := hi2
     exact ⟨fun q j hq hj => yjq _ _ _ _ hj, by omega, by show i + 1 <= y.ls.length; omega, by show y.ls.length - (i + 1) + 1 <= y.ls.length - i; omega⟩
   · (subst hL; subst hQ; simp only [L2, L3, std] at *; try simp only [syS, reduceCtorEq, Int.reduceToNat, Int.reduceAdd, Int.reduceSub] at *)
     exact Nat.zero_le _
   · have hk2 : ya5 y.cs k := by
       have h := hk
       rw [hL] at h
       exact h
     clear hk
     refine ⟨fun hlt => ⟨?_, ?_, ?_, ?_, ⟨k + 1, ?_⟩⟩, fun hge => ⟨fun _ _ _ _ => trivial, fun _ _ _ _ => trivial⟩⟩
     all_goals try (cbv; try simp only [syT, true_and, and_true])
     · (subst hL; subst hQ; simp only [L2, L3, std] at *; try simp only [syS, reduceCtorEq, Int.reduceToNat, Int.reduceAdd, Int.reduceSub] at *)
       omega
     · exact fun _ _ _ _ => trivial
     · (subst hL; subst hQ; simp only [L2, L3, std] at *; try simp only [syS, reduceCtorEq, Int.reduceToNat, Int.reduceAdd, Int.reduceSub] at *)
       exact yid hp (by omega)
     · (subst hL; subst hQ; simp only [L2, L3, std] at *; try simp only [syS, reduceCtorEq, Int.reduceToNat, Int.reduceAdd, Int.reduceSub] at *)
       omega
     · (subst hL; subst hQ; simp only [L2, L3, std] at *; try simp only [syS, reduceCtorEq, Int.reduceToNat, Int.reduceAdd, Int.reduceSub] at *)
       have hk3 : k <= y.cs.length := hk2
       exact ⟨fun q j hq hj => yjr _ _ _ _ hj, by omega, by show k + 1 <= y.cs.length; omega, by show y.cs.length - (k + 1) + 1 <= y.cs.length - k; omega⟩
end Sy
end Go.Proofs.YthppjaoicibeiaaGreatDoor
namespace Go.Proofs.YthppjaoicibeiaaGreatDoor
namespace Sy
open Go Go.RowKit
set_option maxRecDepth 100000
set_option linter.unusedSimpArgs false
set_option linter.unusedVariables false
theorem yau {e : Int} {w : List UInt8} : ftI e w = [] ↔ e = 0 := by
 unfold ftI
 split <;> simp_all
theorem ynj {c : Cf} {i : Nat} : ∀ {n}, vfR c i n = [] ↔ ∀ j, j < n -> zp0 c (zb3 (za6 c.ls i).rs j) ((za6 c.ls i).rs.take j) = 0
 | 0 => by simp [vfR]
 | n + 1 => by
   rw [vfR, List.append_eq_nil_iff, ynj (n := n), yni, yau]
   constructor
   · rintro ⟨h1, h2⟩ j hj
     by_cases h : j = n
     · subst h; exact h2
     · exact h1 j (by omega)
   · exact fun h => ⟨fun j hj => h j (by omega), h n (by omega)⟩
theorem ynk {c : Cf} {i : Nat} : ∀ {n}, vfE c i n = [] ↔ ∀ j, j < n -> yfr (zcs (zaf c.cs i).es j) ((zaf c.cs i).es.take j) = 0
 | 0 => by simp [vfE]
 | n + 1 => by
   rw [vfE, List.append_eq_nil_iff, ynk (n := n), yr4, yau]
   constructor
   · rintro ⟨h1, h2⟩ j hj
     by_cases h : j = n
     · subst h; exact h2
     · exact h1 j (by omega)
   · exact fun h => ⟨fun j hj => h j (by omega), h n (by omega)⟩
def fnL (c : Cf) (i : Nat) : Prop := zu2 (za6 c.ls i) (c.ls.take i) = 0 /\ ∀ j, j < (za6 c.ls i).rs.length -> zp0 c (zb3 (za6 c.ls i).rs j) ((za6 c.ls i).rs.take j) = 0
def fnC (c : Cf) (i : Nat) : Prop := yg6 (zaf c.cs i) (c.cs.take i) = 0 /\ ∀ j, j < (zaf c.cs i).es.length -> yfr (zcs (zaf c.cs i).es j) ((zaf c.cs i).es.take j) = 0
theorem yi8 {c : Cf} : ∀ {n}, vfL c n = [] ↔ ∀ i, i < n -> fnL c i
 | 0 => by simp [vfL]
 | n + 1 => by
   rw [vfL, List.append_eq_nil_iff, List.append_eq_nil_iff, yi8 (n := n), yd3, yau, ynj]
   constructor
   · rintro ⟨⟨h1, h2⟩, h3⟩ j hj
     by_cases h : j = n
     · subst h; exact ⟨h2, h3⟩
     · exact h1 j (by omega)
   · exact fun h => ⟨⟨fun j hj => h j (by omega), (h n (by omega)).1⟩, (h n (by omega)).2⟩
theorem ynl {c : Cf} : ∀ {n}, vfC c n = [] ↔ (∀ i, i < c.ls.length -> fnL c i) /\ ∀ i, i < n -> fnC c i
 | 0 => by rw [vfC, yi8]; simp
 | n + 1 => by
   rw [vfC, List.append_eq_nil_iff, List.append_eq_nil_iff, ynl (n := n), yi9, yau, ynk]
   constructor
   · rintro ⟨⟨⟨h0, h1⟩, h2⟩, h3⟩
     refine ⟨h0, fun j hj => ?_⟩
     by_cases h : j = n
     · subst h; exact ⟨h2, h3⟩
     · exact h1 j (by omega)
   · exact fun h => ⟨⟨⟨h.1, fun j hj => h.2 j (by omega)⟩, (h.2 n (by omega)).1⟩, (h.2 n (by omega)).2⟩
theorem yu5 {c : Cf} : zj1 c = true ↔ cfE c = 0 /\ (∀ i, i < c.ls.length -> fnL c i) /\ ∀ i, i < c.cs.length -> fnC c i := by
 unfold zj1
 rw [decide_eq_true_eq, List.length_eq_zero_iff, zon]
 by_cases h : cfE c = 0
 · rw [if_neg (fun k => k h), ynl]
   exact ⟨fun k => ⟨h, k⟩, fun k => k.2⟩
 · rw [if_pos h]
   exact ⟨fun k => (by cases k), fun k => absurd k.1 h⟩
theorem yl8 {l : List Int} : zom l = 0 ↔ ∀ x ∈ l, x = 0 := by
 induction l with
 | nil => simp [zom]
 | cons a l ih =>
   rw [zom]
   split
   · rename_i h
     exact ⟨fun k => absurd k h, fun k => k a (by simp)⟩
   · rename_i h
     have h : a = 0 := by omega
     rw [ih]
     constructor
     · intro k x hx
       rcases List.mem_cons.1 hx with rfl | hx
       · exact h
       · exact k x hx
     · exact fun k x hx => k x (by simp [hx])
theorem ymz {b : Bool} {e : Int} (he : ¬ e = 0) : soZ b e = 0 ↔ b = false := by
 unfold soZ
 cases b <;> simp [he]
theorem yos {s : List UInt8} {l : List (List UInt8)} : yjz s l = 0 ↔ zgs s = true /\ yhb l s = false := by
 unfold yjz
 cases zgs s <;> cases yhb l s <;> simp
theorem yk8 {x : Ls} {a : List Ls} : zu2 x a = 0 ↔ zgs x.n = true /\ (∀ y ∈ a, ¬ y.n = x.n) /\ ¬ x.pl.p = 0 /\ (∀ y ∈ a, zma y.pl x.pl = false) /\ ¬ x.rs.length = 0 := by
 unfold zu2
 rw [yl8]
 simp only [List.mem_cons, List.not_mem_nil, or_false, forall_eq_or_imp, forall_eq]
 rw [yos, ymz (by decide), ymz (by decide), ymz (by decide), yk2]
 simp [List.any_eq_false]
 constructor
 · rintro ⟨⟨h1, h2⟩, h3, h4, h5⟩
   exact ⟨h1, h2, h3, h4, h5⟩
 · rintro ⟨h1, h2, h3, h4, h5⟩
   exact ⟨⟨h1, h2⟩, h3, h4, h5⟩
theorem ylv {x : Cl} {a : List Cl} : yg6 x a = 0 ↔ zgs x.n = true /\ (∀ y ∈ a, ¬ y.n = x.n) /\ ¬ x.es.length = 0 := by
 unfold yg6
 rw [yl8]
 simp only [List.mem_cons, List.not_mem_nil, or_false, forall_eq_or_imp, forall_eq]
 rw [yos, ymz (by decide), yed]
 simp [List.any_eq_false, and_assoc]
theorem yds {c : Cf} {x : Rt} {a : List Rt} : zp0 c x a = 0 ↔ zl0 x.h = 0 /\ zvy x.p = 0 /\ zl5 c.cs x.c = true /\ zqz x a = false := by
 unfold zp0
 rw [yl8]
 simp only [List.mem_cons, List.not_mem_nil, or_false, forall_eq_or_imp, forall_eq]
 rw [ymz (by decide), ymz (by decide)]
 simp
theorem zsy {a b : List CV} (h : a.Sublist b) : (zas a).length <= (zas b).length := by
 induction h with
 | slnil => exact Nat.le_refl _
 | cons x _ ih => rw [zas, List.length_append]; omega
 | cons_cons x _ ih => rw [zas, zas, List.length_append, List.length_append]; omega
theorem zsz {a b : List CV} (h : a.Sublist b) : zau a <= zau b := by
 induction h with
 | slnil => exact Int.le_refl _
 | cons x _ ih => rw [zau]; omega
 | cons_cons x _ ih => rw [zau, zau]; omega
theorem zt0 {a b : List CV} (h : a.Sublist b) (hb : zc2 b = true) : zc2 a = true := by
 induction h with
 | slnil => exact hb
 | cons x _ ih =>
   rw [zc2, Bool.and_eq_true] at hb
   exact ih hb.2
 | cons_cons x _ ih =>
   rw [zc2, Bool.and_eq_true] at hb |-
   exact ⟨hb.1, ih hb.2⟩
theorem yix {n : Nat} (h : n < 128) : (zaw (n : Int)).length = 1 := by
 rw [zaw, Int.toNat_natCast, zb2 h]; rfl
theorem zgb (l : List CV) (h : l.length < 128) : (zbi (zc5 l)).length = 2 + (zas l).length := by
 rw [zc5, zai, if_neg (by decide), if_neg (by decide), List.length_append, List.length_append, yix h]
 show 1 + (1 + _) = _
 omega
theorem zt6 (l : List CV) : zcx (zc5 l) = zau l + 1 := by rw [zc5, zcx, if_pos rfl]
theorem zt7 (l : List CV) : ze6 (zc5 l) = zc2 l := by
 rw [zc5, ze6, if_neg (by decide), if_neg (by decide), if_pos rfl]; simp
theorem ysn {v : CV} : zln v = 0 ↔ ze6 v = true /\ zcx v <= 6 /\ (zbi v).length <= 8192 := by
 unfold zln
 constructor
 · intro h
   split at h
   · rename_i h1
     split at h
     · cases h
     · split at h
       · cases h
       · exact ⟨h1, by omega, by omega⟩
   · cases h
 · rintro ⟨h1, h2, h3⟩
   rw [if_pos h1, if_neg (by omega), if_neg (by omega)]
theorem yil {v : CV} {a a' b b' : List CV} (ha : a'.Sublist a) (hb : b'.Sublist b) (la : a.length < 128) (lb : b.length < 128) (h : zln (zc5 [v, zc5 a, zc5 b]) = 0) : zln (zc5 [v, zc5 a', zc5 b']) = 0 := by
 rw [ysn] at h |-
 obtain ⟨h1, h2, h3⟩ := h
 have la' := ha.length_le
 have lb' := hb.length_le
 rw [zt7] at h1 |-
 rw [zt6] at h2 |-
 rw [zgb _ (Nat.lt_of_lt_of_le (Nat.lt_succ_self 3) (by decide))] at h3
 rw [zgb _ (Nat.lt_of_lt_of_le (Nat.lt_succ_self 3) (by decide))]
 simp only [zc2, zau, zas, List.length_append, zt7, zt6, Bool.and_eq_true] at h1 h2 h3 |-
 rw [zgb _ la, zgb _ lb] at h3
 rw [zgb _ (by omega), zgb _ (by omega)]
 have t1 := zsy ha
 have t2 := zsy hb
 have d1 := zsz ha
 have d2 := zsz hb
 exact ⟨⟨h1.1, zt0 ha h1.2.1, zt0 hb h1.2.2.1, h1.2.2.2⟩, by omega, by omega⟩
theorem yqe {c : Cf} : cfE c = 0 ↔ zkq c = false /\ ymi c = false /\ zln (zj2 c) = 0 := by
 unfold cfE
 cases zkq c <;> cases ymi c <;> simp
theorem yhc {c : Cf} : zkq c = false ↔ c.ls.length <= 8 /\ c.cs.length <= 8 /\ (∀ x ∈ c.ls, zgt x = false) /\ ∀ x ∈ c.cs, zho x = false := by
 unfold zkq
 simp only [Bool.or_eq_false_iff, decide_eq_false_iff_not, List.any_eq_false, Bool.not_eq_true]
 constructor
 · rintro ⟨⟨h1, h2⟩, h3⟩
   exact ⟨by omega, by omega, h2, h3⟩
 · rintro ⟨h1, h2, h3, h4⟩
   exact ⟨⟨by omega, h3⟩, h4⟩
theorem ybu {v : Int} {a a' : List Ls} {b b' : List Cl} (ha : a'.Sublist a) (hb : b'.Sublist b) (h : cfE ⟨v, a, b⟩ = 0) : cfE ⟨v, a', b'⟩ = 0 := by
 rw [yqe, yhc] at h |-
 obtain ⟨⟨h1, h2, h3, h4⟩, h5, h6⟩ := h
 have la := ha.length_le
 have lb := hb.length_le
 have h1 : a.length <= 8 := h1
 have h2 : b.length <= 8 := h2
 refine ⟨⟨by show a'.length <= 8; omega, by show b'.length <= 8; omega, fun x hx => h3 x (ha.subset hx), fun x hx => h4 x (hb.subset hx)⟩, ?_, ?_⟩
 · unfold ymi at h5 |-
   rw [List.any_eq_false] at h5 |-
   exact fun x hx => h5 x (hb.subset hx)
 · exact yil (v := zfp v) (ha.map zhp) (hb.map zi2) (by rw [List.length_map]; omega) (by rw [List.length_map]; omega) h6
def lOk (x : Ls) : Prop := zgs x.n = true /\ ¬ x.pl.p = 0 /\ ¬ x.rs.length = 0
def rOk (cs : List Cl) (x : Ls) : Prop := ∀ j, j < x.rs.length -> zl0 (zb3 x.rs j).h = 0 /\ zvy (zb3 x.rs j).p = 0 /\ zl5 cs (zb3 x.rs j).c = true /\ zqz (zb3 x.rs j) (x.rs.take j) = false
def ycb (y x : Ls) : Prop := ¬ y.n = x.n /\ zma y.pl x.pl = false
def clOk (x : Cl) : Prop := zgs x.n = true /\ ¬ x.es.length = 0 /\ ∀ j, j < x.es.length -> yfr (zcs x.es j) (x.es.take j) = 0
theorem zoq {α : Type} {V : Vw α} {l : List α} {p : α -> α -> Prop} : (∀ i, i < l.length -> ∀ y ∈ l.take i, p y (zgr V l i)) ↔ l.Pairwise p := by
 rw [List.pairwise_iff_getElem]
 constructor
 · intro h i j hi hj hij
   have := h j hj l[i] (List.mem_take_iff_getElem.2 ⟨i, by omega, rfl⟩)
   rwa [zab hj] at this
 · intro h i hi y hy
   obtain ⟨q, hq, rfl⟩ := List.mem_take_iff_getElem.1 hy
   rw [zab hi]
   exact h q i (by omega) hi (by omega)
theorem yce {α : Type} {V : Vw α} {l : List α} {p : α -> Prop} : (∀ i, i < l.length -> p (zgr V l i)) ↔ ∀ x ∈ l, p x := by
 constructor
 · intro h x hx
   obtain ⟨i, hi, rfl⟩ := List.getElem_of_mem hx
   have := h i hi
   rwa [zab hi] at this
 · intro h i hi
   rw [zab hi]
   exact h _ (List.getElem_mem _)
theorem yhe {c : Cf} : (∀ i, i < c.ls.length -> fnL c i) ↔ (∀ x ∈ c.ls, lOk x /\ rOk c.cs x) /\ c.ls.Pairwise ycb := by
 rw [<- zoq (V := lsV), <- yce (V := lsV)]
 constructor
 · intro h
   refine ⟨fun i hi => ?_, fun i hi y hy => ?_⟩
   · obtain ⟨h1, h2⟩ := h i hi
     rw [yk8] at h1
     exact ⟨⟨h1.1, h1.2.2.1, h1.2.2.2.2⟩, fun j hj => yds.1 (h2 j hj)⟩
   · obtain ⟨h1, h2⟩ := h i hi
     rw [yk8] at h1
     exact ⟨h1.2.1 y hy, h1.2.2.2.1 y hy⟩
 · rintro ⟨h1, h2⟩ i hi
   obtain ⟨⟨a1, a2, a3⟩, a4⟩ := h1 i hi
   refine ⟨yk8.2 ⟨a1, fun y hy => (h2 i hi y hy).1, a2, fun y hy => (h2 i hi y hy).2, a3⟩, fun j hj => yds.2 (a4 j hj)⟩
theorem ypm {c : Cf} : (∀ i, i < c.cs.length -> fnC c i) ↔ (∀ x ∈ c.cs, clOk x) /\ c.cs.Pairwise fun y x => ¬ y.n = x.n := by
 rw [<- zoq (V := clV), <- yce (V := clV)]
 constructor
 · intro h
   refine ⟨fun i hi => ?_, fun i hi y hy => ?_⟩
   · obtain ⟨h1, h2⟩ := h i hi
     rw [ylv] at h1
     exact ⟨h1.1, h1.2.2, h2⟩
   · obtain ⟨h1, h2⟩ := h i hi
     rw [ylv] at h1
     exact h1.2.1 y hy
 · rintro ⟨h1, h2⟩ i hi
   obtain ⟨a1, a2, a3⟩ := h1 i hi
   exact ⟨ylv.2 ⟨a1, fun y hy => h2 i hi y hy, a2⟩, a3⟩
theorem ziz {c : Cf} : zj1 c = true ↔ cfE c = 0 /\ ((∀ x ∈ c.ls, lOk x /\ rOk c.cs x) /\ c.ls.Pairwise ycb) /\ (∀ x ∈ c.cs, clOk x) /\ c.cs.Pairwise fun y x => ¬ y.n = x.n := by
 rw [yu5, yhe, ypm]
theorem yb6 {v : Int} {l l' : List Ls} {cs : List Cl} (hs : l'.Sublist l) (h : zj1 ⟨v, l, cs⟩ = true) : zj1 ⟨v, l', cs⟩ = true := by
 rw [ziz] at h |-
 obtain ⟨h1, ⟨h2, h3⟩, h4⟩ := h
 exact ⟨ybu hs (List.Sublist.refl _) h1, ⟨fun x hx => h2 x (hs.subset hx), List.Pairwise.sublist hs h3⟩, h4⟩
theorem zwo {v : Int} {l : List Ls} {cs : List Cl} {x : Ls} (hx : x ∈ l) : zj1 ⟨v, l ++ [x], cs⟩ = false := by
 cases h : zj1 ⟨v, l ++ [x], cs⟩ with
 | false => rfl
 | true =>
   rw [ziz] at h
   have h3 : (l ++ [x]).Pairwise ycb := h.2.1.2
   rw [List.pairwise_append] at h3
   exact absurd rfl (h3.2.2 x hx x (by simp)).1
theorem zxz (c : Cf) : ∀ n, ∃ t, vfC c n = vfL c c.ls.length ++ t
 | 0 => ⟨[], by rw [vfC, List.append_nil]⟩
 | n + 1 => by
   obtain ⟨t, ht⟩ := zxz c n
   exact ⟨t ++ yi9 c n ++ vfE c n (zaf c.cs n).es.length, by rw [vfC, ht]; simp [List.append_assoc]⟩
theorem ygp {c : Cf} {i : Nat} (h : ∀ j, j < (za6 c.ls i).rs.length -> zp0 c (zb3 (za6 c.ls i).rs j) ((za6 c.ls i).rs.take j) = 0 \/ zp0 c (zb3 (za6 c.ls i).rs j) ((za6 c.ls i).rs.take j) = 12) : ∀ n, n <= (za6 c.ls i).rs.length -> ∀ x ∈ vfR c i n, x.c = 12
 | 0, _, x, hx => by simp [vfR] at hx
 | n + 1, hn, x, hx => by
   rw [vfR, List.mem_append] at hx
   rcases hx with hx | hx
   · exact ygp h n (by omega) x hx
   · rw [yni, ftI] at hx
     split at hx
     · rename_i hne
       rcases h n (by omega) with h0 | h0
       · exact absurd h0 hne
       · have : x = ⟨zp0 c (zb3 (za6 c.ls i).rs n) ((za6 c.ls i).rs.take n), whZ yr2 [(i : Int), (n : Int)]⟩ := by simpa using hx
         rw [this]; exact h0
     · cases hx
theorem ygq {c : Cf} (h : ∀ i, i < c.ls.length -> zu2 (za6 c.ls i) (c.ls.take i) = 0 /\ ∀ j, j < (za6 c.ls i).rs.length -> zp0 c (zb3 (za6 c.ls i).rs j) ((za6 c.ls i).rs.take j) = 0 \/ zp0 c (zb3 (za6 c.ls i).rs j) ((za6 c.ls i).rs.take j) = 12) : ∀ n, n <= c.ls.length -> ∀ x ∈ vfL c n, x.c = 12
 | 0, _, x, hx => by simp [vfL] at hx
 | n + 1, hn, x, hx => by
   obtain ⟨h1, h2⟩ := h n (by omega)
   rw [vfL, yd3, yau.2 h1, List.append_nil, List.mem_append] at hx
   rcases hx with hx | hx
   · exact ygq h n (by omega) x hx
   · exact ygp h2 _ (Nat.le_refl _) x hx
theorem yb5 {v : Int} {l : List Ls} {cs : List Cl} {k i : Nat} (h : zj1 ⟨v, l, cs⟩ = true) (hk : k < cs.length) (hi : i < l.length) (hn : (zb3 (za6 l i).rs 0).c = (zaf cs k).n) : zj1 ⟨v, l, cs.eraseIdx k⟩ = false /\ (ycy ⟨v, l, cs.eraseIdx k⟩).c = 12 := by
 have hf := ziz.1 h
 obtain ⟨h1, ⟨h2, h3⟩, h4, h5⟩ := hf
 have hE : cfE ⟨v, l, cs.eraseIdx k⟩ = 0 := ybu (List.Sublist.refl _) (List.eraseIdx_sublist ..) h1
 have hgone : zl5 (cs.eraseIdx k) (zaf cs k).n = false := by
   rw [zpr, List.any_eq_false]
   intro y hy
   have h5' : cs.Pairwise fun y x => ¬ y.n = x.n := h5
   rw [List.pairwise_iff_getElem] at h5'
   obtain ⟨q, hq, hqk, rfl⟩ : ∃ q, ∃ hq : q < cs.length, q ≠ k /\ cs[q] = y := by
     obtain ⟨q, hq1, hq2, hq3⟩ := List.mem_eraseIdx_iff_getElem.1 hy
     exact ⟨q, hq1, hq2, hq3⟩
   rw [zaf, zab (V := clV) hk]
   simp only [decide_eq_true_eq]
   rcases Nat.lt_or_gt_of_ne hqk with hlt | hlt
   · exact h5' q k hq hk hlt
   · exact fun e => h5' k q hk hq hlt e.symm
 have hall : ∀ i, i < l.length -> zu2 (za6 l i) (l.take i) = 0 /\ ∀ j, j < (za6 l i).rs.length -> zp0 ⟨v, l, cs.eraseIdx k⟩ (zb3 (za6 l i).rs j) ((za6 l i).rs.take j) = 0 \/ zp0 ⟨v, l, cs.eraseIdx k⟩ (zb3 (za6 l i).rs j) ((za6 l i).rs.take j) = 12 := by
   intro i hi
   obtain ⟨a1, a2⟩ := yhe.2 ⟨h2, h3⟩ i hi
   refine ⟨a1, fun j hj => ?_⟩
   obtain ⟨b1, b2, b3, b4⟩ := yds.1 (a2 j hj)
   unfold zp0
   rw [show zl0 (zb3 (za6 l i).rs j).h = 0 from b1, show zvy (zb3 (za6 l i).rs j).p = 0 from b2, show zqz (zb3 (za6 l i).rs j) ((za6 l i).rs.take j) = false from b4]
   cases zl5 (cs.eraseIdx k) (zb3 (za6 l i).rs j).c with
   | true => exact .inl rfl
   | false => exact .inr rfl
 have h12 : ∀ x ∈ vfL ⟨v, l, cs.eraseIdx k⟩ l.length, x.c = 12 := ygq (c := ⟨v, l, cs.eraseIdx k⟩) hall _ (Nat.le_refl _)
 have hne : vfL ⟨v, l, cs.eraseIdx k⟩ l.length ≠ [] := by
   intro h0
   have h6 := yi8.1 h0 i hi
   have hx := (h2 (za6 l i) (by rw [za6, zab (V := lsV) hi]; exact List.getElem_mem _)).1
   have h7 := (yds.1 (h6.2 0 (by have := hx.2.2; show 0 < (za6 l i).rs.length; omega))).2.2.1
   have h8 : zl5 (cs.eraseIdx k) (zb3 (za6 l i).rs 0).c = true := h7
   rw [hn, hgone] at h8
   cases h8
 obtain ⟨t, ht⟩ := zxz ⟨v, l, cs.eraseIdx k⟩ (cs.eraseIdx k).length
 have hz : zon ⟨v, l, cs.eraseIdx k⟩ = vfL ⟨v, l, cs.eraseIdx k⟩ l.length ++ t := by
   rw [zon, if_neg (fun g => g hE)]; exact ht
 match hv : vfL ⟨v, l, cs.eraseIdx k⟩ l.length, hne with
 | x :: r, _ =>
   rw [hv] at hz h12
   refine ⟨by rw [zj1, hz]; rfl, ?_⟩
   rw [ycy, hz]
   exact h12 x (by simp)
theorem yhi {c : Cf} (h : zj1 c = true) : c.ls.length <= 8 /\ c.cs.length <= 8 := by
 have := yhc.1 (yqe.1 (ziz.1 h).1).1
 exact ⟨this.1, this.2.1⟩
theorem zz6 {v : Int} {l l' : List Ls} {cs cs' : List Cl} (h : zc9 ⟨v, l, cs⟩) (hl : ∀ x ∈ l', x ∈ l) (hc : ∀ x ∈ cs', x ∈ cs) (h1 : l'.length <= 12) (h2 : cs'.length <= 12) : zc9 ⟨v, l', cs'⟩ := by
 obtain ⟨a, b1, b2, b3⟩ := h
 simp only [zbc, Bool.and_eq_true, decide_eq_true_eq, List.all_eq_true] at a
 refine ⟨?_, b1, fun x hx => b2 x (hl x hx), fun x hx => b3 x (hc x hx)⟩
 simp only [zbc, Bool.and_eq_true, decide_eq_true_eq, List.all_eq_true]
 exact ⟨⟨⟨h1, h2⟩, fun x hx => a.1.2 x (hl x hx)⟩, fun x hx => a.2 x (hc x hx)⟩
end Sy
end Go.Proofs.YthppjaoicibeiaaGreatDoor
namespace Go.Proofs.YthppjaoicibeiaaGreatDoor
namespace Sy
open Go Go.RowKit
set_option maxRecDepth 100000
set_option maxHeartbeats 4000000
set_option linter.unusedSimpArgs false
set_option linter.unusedVariables false
def yrd (cs : List Cl) (s : List UInt8) (k : Nat) : Prop := k <= cs.length /\ ∀ q, q < k -> ¬ (zaf cs q).n = s
def drA (L : za8) (y : Cf) : Nat -> St -> Option Ann := fun id st => match id with
 | 0 => yhz st 9 fun s => some ⟨Nat, fun k => [(64, .int .i64 (L zbd k))], fun _ => [], [2, 5, 6, 7, 8, 9, 62, 63], zu6 st.objs, fun k => L3 L yrd (L Cf.cs y) s k, fun k => L2 L yn5 (L Cf.cs y) k⟩
 | _ => none
theorem ztl {α : Type} {V : Vw α} {l : List α} {i q : Nat} (hq : q < l.length - 1) (hi : i < l.length) : zgr V (l.eraseIdx i) q = zgr V l (if q < i then q else q + 1) := by
 have h1 : q < (l.eraseIdx i).length := by rw [List.length_eraseIdx_of_lt hi]; exact hq
 rw [zab h1, List.getElem_eraseIdx]
 split
 · rw [zab (by omega)]
 · rw [zab (by omega)]
theorem zuh {α : Type} {V : Vw α} {l : List α} {i q j : Nat} (hi : i < l.length) (hq : q < i + (l.length - (i + 1))) : zok (zd3 i (l.length - (i + 1)) q) (V.cell std (zgr V l (i + 1 + (q - i))) j) (V.cell std (zgr V l q) j) = V.cell std (zgr V (l.eraseIdx i) q) j := by
 rw [ztl (by omega) hi]
 by_cases h : q < i
 · rw [show zd3 i (l.length - (i + 1)) q = false by unfold zd3 zbp; rw [decide_eq_false (by omega), Bool.false_and], if_pos h]; rfl
 · rw [show zd3 i (l.length - (i + 1)) q = true by simp [zd3, zbp, zbm]; omega, if_neg h, show i + 1 + (q - i) = q + 1 by omega]; rfl
theorem zug {α : Type} {V : Vw α} {l : List α} {i q j : Nat} (hi : i < l.length) (hq : q < i + (l.length - (i + 1))) : zok (zbm q i) (V.cell std (zgr V l q) j) (V.cell std (zgr V l (i + 1 + (q - i))) j) = V.cell std (zgr V (l.eraseIdx i) q) j := by
 rw [ztl (by omega) hi]
 by_cases h : q < i
 · rw [zlf h, if_pos h]; rfl
 · rw [zoh h, if_neg h, show i + 1 + (q - i) = q + 1 by omega]; rfl
theorem zus {l : List Ls} {x : Ls} {q j : Nat} (hq : q < l.length + 1) (hj : j < 7) : zgx std (zbm q l.length) (lsC std (za6 l q) j) (zbn .dead [.str x.n, .int .u8 x.pl.a, .int .u8 x.pl.b, .int .u8 x.pl.c, .int .u8 x.pl.d, .int .u16 x.pl.p, .lst 4 (zan x.rs) fun a => rtC std (zb3 x.rs a)] ((q - l.length) * 7 + j)) = lsC std (za6 (l ++ [x]) q) j := by
 have e : za6 (l ++ [x]) q = if q < l.length then za6 l q else x := by
   unfold za6
   rw [zab (V := lsV) (by simpa using hq)]
   split
   · rename_i h
     rw [List.getElem_append_left h, zab (V := lsV) h]
   · rename_i h
     obtain rfl : q = l.length := by omega
     rw [List.getElem_append_right (Nat.le_refl _)]; simp
 rw [e, show q - l.length = 0 by omega, Nat.zero_mul, Nat.zero_add]
 by_cases h : q < l.length
 · rw [zlf h, if_pos h]
   match j, hj with
   | 0, _ => rfl
   | 1, _ => rfl
   | 2, _ => rfl
   | 3, _ => rfl
   | 4, _ => rfl
   | 5, _ => rfl
   | 6, _ => rfl
 · rw [zoh h, if_neg h]
   match j, hj with
   | 0, _ => rfl
   | 1, _ => rfl
   | 2, _ => rfl
   | 3, _ => rfl
   | 4, _ => rfl
   | 5, _ => rfl
   | 6, _ => rfl
theorem cfb {v : Int} {n m : Nat} {g h : Nat -> Nat -> AV} {l : List Ls} {cs : List Cl} (hn : n = l.length) (hm : m = cs.length) (hg : ∀ q j, q < n -> j < 7 -> g q j = lsC std (za6 l q) j) (hh : ∀ q j, q < m -> j < 2 -> h q j = clC std (zaf cs q) j) : zcr (.agg [.int .u64 v, .lst 7 n g, .lst 2 m h]) /\ zac (.agg [.int .u64 v, .lst 7 n g, .lst 2 m h]) = ⟨v, l, cs⟩ := by
 have h1 := zne zct hn hg
 have h2 := zne zbu hm hh
 refine ⟨⟨rfl, ⟨_, rfl⟩, h1.1, h2.1⟩, ?_⟩
 show Cf.mk v (rdW lsV (.lst 7 n g)) (rdW clV (.lst 2 m h)) = _
 rw [show rdW lsV (.lst 7 n g) = l from h1.2, show rdW clV (.lst 2 m h) = cs from h2.2]
theorem zss {y : Cf} {i k : Nat} (hp : zc9 y) (hf : zj1 y = true) (hi : i < y.ls.length) (hk : k < y.cs.length) (hn : (zb3 (za6 y.ls i).rs 0).c = (zaf y.cs k).n) {xA xB xD : AV}
   (hA : zcr xA /\ zac xA = ⟨y.v, y.ls.eraseIdx i, y.cs⟩) (hB : zcr xB /\ zac xB = ⟨y.v, y.ls, y.cs.eraseIdx k⟩) (hD : zcr xD /\ zac xD = ⟨y.v, y.ls ++ [za6 y.ls i], y.cs⟩) :
   (zcr xA /\ zc9 (zac xA)) /\ (zj1 (zac xA) = true -> (zcr xB /\ zc9 (zac xB)) /\ (zj1 (zac xB) = false -> (zcr xD /\ zc9 (zac xD)) /\ (zj1 (zac xD) = false -> (zcr xB /\ zc9 (zac xB)) /\ (ycy (zac xB)).c = 12) /\ ¬zj1 (zac xD) = true) /\ ¬zj1 (zac xB) = true) /\ ¬zj1 (zac xA) = false := by
 rw [hA.2, hB.2, hD.2]
 have h8 := yhi hf
 have hm : za6 y.ls i ∈ y.ls := by rw [za6, zab (V := lsV) hi]; exact List.getElem_mem _
 have fA : zj1 ⟨y.v, y.ls.eraseIdx i, y.cs⟩ = true := yb6 (List.eraseIdx_sublist ..) hf
 have fB := yb5 (v := y.v) (l := y.ls) (cs := y.cs) hf hk hi hn
 have fD : zj1 ⟨y.v, y.ls ++ [za6 y.ls i], y.cs⟩ = false := zwo hm
 have pA : zc9 ⟨y.v, y.ls.eraseIdx i, y.cs⟩ := zz6 (v := y.v) (l := y.ls) (cs := y.cs) hp (fun x hx => (List.eraseIdx_sublist ..).subset hx) (fun x hx => hx) (by rw [List.length_eraseIdx_of_lt hi]; omega) (by omega)
 have pB : zc9 ⟨y.v, y.ls, y.cs.eraseIdx k⟩ := zz6 (v := y.v) (l := y.ls) (cs := y.cs) hp (fun x hx => hx) (fun x hx => (List.eraseIdx_sublist ..).subset hx) (by omega) (by rw [List.length_eraseIdx_of_lt hk]; omega)
 have pD : zc9 ⟨y.v, y.ls ++ [za6 y.ls i], y.cs⟩ := zz6 (v := y.v) (l := y.ls) (cs := y.cs) hp (fun x hx => by
   rcases List.mem_append.1 hx with h | h
   · exact h
   · rw [List.mem_singleton.1 h]; exact hm) (fun x hx => hx) (by rw [List.length_append]; show _ + 1 <= 12; omega) (by omega)
 rw [fA, fB.1, fB.2, fD]
 exact ⟨⟨hA.1, pA⟩, fun _ => ⟨⟨hB.1, pB⟩, fun _ => ⟨⟨hD.1, pD⟩, fun _ => ⟨⟨hB.1, pB⟩, rfl⟩, by decide⟩, by decide⟩, by decide⟩
theorem yh9 {y : Cf} {i : Nat} (hf : zj1 y = true) (hi : i < y.ls.length) (h : yrd y.cs (zb3 (za6 y.ls i).rs 0).c y.cs.length) : False := by
 obtain ⟨_, ⟨h2, _⟩, _⟩ := ziz.1 hf
 obtain ⟨⟨_, _, hr⟩, h3⟩ := h2 (za6 y.ls i) (by rw [za6, zab (V := lsV) hi]; exact List.getElem_mem _)
 have h4 := (h3 0 (by omega)).2.2.1
 rw [zpr, List.any_eq_true] at h4
 obtain ⟨x, hx, hn⟩ := h4
 obtain ⟨q, hq, rfl⟩ := List.getElem_of_mem hx
 have h5 := h.2 q hq
 rw [zaf, zab (V := clV) hq] at h5
 exact h5 (of_decide_eq_true hn)
theorem yft (y : Cf) (hy : ynf y) (at_ : Int) (ha : (Lit.int .u8 at_).wf = true) : za7 Tryz.prog 5 [.agg ((List.range 3).map (cfC std y)), .int .u8 at_] (.bool true) := by
 refine za4 (T := tt) (S := fun L => zbw [tru 16, prS 9 zcr zac zbc yjn L, yfp L, yg7 L] [ylw L]) (lo := fun L => drA L y) (lb := noA) 5 (fn := Tryz.f5) (xs := fun L => [.agg [.int .u64 (L Cf.v y), .lst 7 (L zan (L Cf.ls y)) (fun i => lsC L (L (L za6 (L Cf.ls y)) i)), .lst 2 (L zan (L Cf.cs y)) (fun i => clC L (L (L zaf (L Cf.cs y)) i))], .int .u8 at_]) rfl rfl (by kernel_rfl) (by kernel_rfl) rfl za9 (zap ⟨zca zx1, zwa, zuc, zum, trivial⟩ ⟨ybq, trivial⟩) (by kernel_rfl) ?_
 intro L P' Q' hL hP hQ
 have hG : ∀ y : Cf, L zac (.agg [.int .u64 (L Cf.v y), .lst 7 (L zan (L Cf.ls y)) (fun i => lsC L (L (L za6 (L Cf.ls y)) i)), .lst 2 (L zan (L Cf.cs y)) (fun i => clC L (L (L zaf (L Cf.cs y)) i))]) = y := by subst hL; exact fun y => (gK zc1 y _ rfl).2
 have hO : ∀ y : Cf, L zcr (.agg [.int .u64 (L Cf.v y), .lst 7 (L zan (L Cf.ls y)) (fun i => lsC L (L (L za6 (L Cf.ls y)) i)), .lst 2 (L zan (L Cf.cs y)) (fun i => clC L (L (L zaf (L Cf.cs y)) i))]) := by subst hL; exact fun y => (gK zc1 y _ rfl).1
 (cbv; try simp only [syT, true_and, and_true])
 simp only [hG, hO, true_and]
 have e1 : zan y.ls = y.ls.length := rfl
 have e2 : zan y.cs = y.cs.length := rfl
 refine ⟨fun h => ?_, fun _ => ⟨?_, fun h => ?_, fun l1 => ⟨?_, fun h => ?_, fun f1 => ⟨fun h => ?_, fun n0 => ?_⟩⟩⟩⟩
 · subst hL
   exact absurd h (by decide)
 · subst hL
   exact trivial
 · (subst hL; subst hQ; simp only [L2, L3, std] at *; try simp only [syS, reduceCtorEq, Int.reduceToNat, Int.reduceAdd, Int.reduceSub] at *)
 · (subst hL; subst hQ; simp only [L2, L3, std] at *; try simp only [syS, reduceCtorEq, Int.reduceToNat, Int.reduceAdd, Int.reduceSub] at *)
   exact ⟨l1, hy⟩
 · (subst hL; subst hQ; simp only [L2, L3, std] at *; try simp only [syS, reduceCtorEq, Int.reduceToNat, Int.reduceAdd, Int.reduceSub] at *)
 · (subst hL; subst hQ; simp only [L2, L3, std] at *; try simp only [syS, reduceCtorEq, Int.reduceToNat, Int.reduceAdd, Int.reduceSub] at *)
 generalize hI : L (L Int.tmod (L IntKind.i64.wrap at_)) (L zbd (L zan (L Cf.ls y))) = I
 have hl1 : zbc y = true := by
   subst hL
   have h : (!zbc y) = false := l1
   simpa using h
 have hf1 : zj1 y = true := by
   subst hL
   have h : (!zj1 y) = false := f1
   simpa using h
 have hpre : zc9 y := ⟨hl1, hy⟩
 have h8 := yhi hf1
 have hn0 : ¬ y.ls.length = 0 := by
   subst hL
   have h : ieq (y.ls.length : Int) 0 = false := n0
   rw [yf9] at h
   exact of_decide_eq_false h
 obtain ⟨i, rfl, hi⟩ : ∃ i : Nat, I = L zbd i /\ i < y.ls.length := by
   subst hL
   have hb := bounds_u8 ha
   have h : (IntKind.i64.wrap at_).tmod (y.ls.length : Int) = I := hI
   have hw : IntKind.i64.wrap at_ = at_ := by
     rw [zxy]
     omega
   rw [hw, Int.tmod_eq_emod_of_nonneg hb.1] at h
   have p1 := Int.emod_nonneg at_ (show (y.ls.length : Int) ≠ 0 by omega)
   have p2 := Int.emod_lt_of_pos at_ (show (0 : Int) < (y.ls.length : Int) by omega)
   exact ⟨(at_ % (y.ls.length : Int)).toNat, by show I = ((at_ % (y.ls.length : Int)).toNat : Int); rw [Int.toNat_of_nonneg p1]; exact h.symm, by omega⟩
 have hfine := ziz.1 hf1
 have hrs : ¬ (za6 y.ls i).rs.length = 0 := (hfine.2.1.1 _ (by rw [za6, zab (V := lsV) hi]; exact List.getElem_mem _)).1.2.2
 clear hI l1 f1 n0
 refine ⟨?_, fun _ _ _ _ => trivial, fun _ _ _ _ => trivial, ?_, fun _ _ _ _ => trivial, fun _ _ _ _ => trivial, ?_, fun _ _ _ _ => trivial, fun _ _ _ _ => trivial, ?_, ?_, ?_, fun g => ?_, fun g => ?_⟩
 · (subst hL; subst hQ; simp only [L2, L3, std] at *; try simp only [syS, reduceCtorEq, Int.reduceToNat, Int.reduceAdd, Int.reduceSub] at *)
   omega
 · subst hL
   exact zns hl1
 · subst hL
   exact zns hl1
 · subst hL
   exact zns hl1
 · subst hL
   show yae 0 (i : Int) (i : Int) (y.ls.length : Int) = true
   rw [zrn]
   omega
 · (subst hL; subst hQ; simp only [L2, L3, std] at *; try simp only [syS, reduceCtorEq, Int.reduceToNat, Int.reduceAdd, Int.reduceSub] at *)
   omega
 · (cbv; try simp only [syT, true_and, and_true])
   refine ⟨?_, ?_, ⟨0, ?_⟩, fun k hk => ?_⟩
   · (subst hL; subst hQ; simp only [L2, L3, std] at *; try simp only [syS, reduceCtorEq, Int.reduceToNat, Int.reduceAdd, Int.reduceSub] at *)
     omega
   · (subst hL; subst hQ; simp only [L2, L3, std] at *; try simp only [syS, reduceCtorEq, Int.reduceToNat, Int.reduceAdd, Int.reduceSub] at *)
     have : zan (za6 y.ls i).rs = (za6 y.ls i).rs.length := rfl
     omega
   · (cbv; try simp only [syT, true_and, and_true])
     (subst hL; subst hQ; simp only [L2, L3, std] at *; try simp only [syS, reduceCtorEq, Int.reduceToNat, Int.reduceAdd, Int.reduceSub] at *)
     exact ⟨Nat.zero_le _, fun q hq => absurd hq (Nat.not_lt_zero _)⟩
   · have hk2 : yrd y.cs (zb3 (za6 y.ls i).rs 0).c k := by
       have h := hk
       rw [hL] at h
       exact h
     clear hk
     (cbv; try simp only [syT, true_and, and_true])
     refine ⟨fun hlt => ⟨?_, fun hs => ⟨?_, ?_, fun alt => ?_, fun alt => ?_⟩, fun hs => ⟨k + 1, ?_⟩⟩, fun hge => ?_⟩
     · (subst hL; subst hQ; simp only [L2, L3, std] at *; try simp only [syS, reduceCtorEq, Int.reduceToNat, Int.reduceAdd, Int.reduceSub] at *)
       omega
     · subst hL
       show yae 0 (k : Int) (k : Int) (y.cs.length : Int) = true
       rw [zrn]
       have h : ilt (k : Int) (y.cs.length : Int) = true := hlt
       have h := of_decide_eq_true h
       omega
     · (subst hL; subst hQ; simp only [L2, L3, std] at *; try simp only [syS, reduceCtorEq, Int.reduceToNat, Int.reduceAdd, Int.reduceSub] at *)
       omega
     · (subst hL; subst hQ; simp only [L2, L3, std] at *; try simp only [syS, reduceCtorEq, Int.reduceToNat, Int.reduceAdd, Int.reduceSub] at *)
       clear hG hO
       have hk3 : k < y.cs.length := by omega
       have hwi : (((i : Int) + 1 + 9223372036854775808) % 18446744073709551616 - 9223372036854775808).toNat = i + 1 := by omega
       have hwk : (((k : Int) + 1 + 9223372036854775808) % 18446744073709551616 - 9223372036854775808).toNat = k + 1 := by omega
       exact ⟨by omega, by omega, zss hpre hf1 hi hk3 hs.symm
         (cfb (by rw [hwi, List.length_eraseIdx_of_lt hi]; show i + (y.ls.length - (i + 1)) = _; omega) e2 (fun q j hq hj => by rw [hwi] at hq |-; exact zuh (V := lsV) hi hq) (fun _ _ _ _ => rfl))
         (cfb e1 (by rw [hwk, List.length_eraseIdx_of_lt hk3]; show k + (y.cs.length - (k + 1)) = _; omega) (fun _ _ _ _ => rfl) (fun q j hq hj => by rw [hwk] at hq |-; exact zuh (V := clV) hk3 hq))
         (cfb (by rw [List.length_append]; rfl) e2 (fun q j hq hj => zus hq hj) (fun _ _ _ _ => rfl))⟩
     · (cbv; try simp only [syT, true_and, and_true])
       (subst hL; subst hQ; simp only [L2, L3, std] at *; try simp only [syS, reduceCtorEq, Int.reduceToNat, Int.reduceAdd, Int.reduceSub] at *)
       clear hG hO
       have hk3 : k < y.cs.length := by omega
       have hwi : (((i : Int) + 1 + 9223372036854775808) % 18446744073709551616 - 9223372036854775808).toNat = i + 1 := by omega
       have hwk : (((k : Int) + 1 + 9223372036854775808) % 18446744073709551616 - 9223372036854775808).toNat = k + 1 := by omega
       exact ⟨by omega, by omega, by omega, zss hpre hf1 hi hk3 hs.symm
         (cfb (by rw [hwi, List.length_eraseIdx_of_lt hi]; show i + (y.ls.length - (i + 1)) = _; omega) e2 (fun q j hq hj => by rw [hwi] at hq |-; exact zuh (V := lsV) hi hq) (fun _ _ _ _ => rfl))
         (cfb e1 (by rw [hwk, List.length_eraseIdx_of_lt hk3]; show k + (y.cs.length - (k + 1)) = _; omega) (fun _ _ _ _ => rfl) (fun q j hq hj => by rw [hwk] at hq |-; exact zug (V := clV) hk3 hq))
         (cfb (by rw [List.length_append]; rfl) e2 (fun q j hq hj => zus hq hj) (fun _ _ _ _ => rfl))⟩
     · (cbv; try simp only [syT, true_and, and_true])
       (subst hL; subst hQ; simp only [L2, L3, std] at *; try simp only [syS, reduceCtorEq, Int.reduceToNat, Int.reduceAdd, Int.reduceSub] at *)
       have hk3 : k <= y.cs.length := hk2.1
       refine ⟨by omega, ⟨by omega, fun q hq => ?_⟩, by show y.cs.length - (k + 1) + 1 <= y.cs.length - k; omega⟩
       by_cases h : q < k
       · exact hk2.2 q h
       · obtain rfl : q = k := by omega
         exact hs
     · (subst hL; subst hQ; simp only [L2, L3, std] at *; try simp only [syS, reduceCtorEq, Int.reduceToNat, Int.reduceAdd, Int.reduceSub] at *)
       clear hG hO
       have hk3 : k <= y.cs.length := hk2.1
       obtain rfl : k = y.cs.length := by omega
       exact (yh9 hf1 hi hk2).elim
 · (cbv; try simp only [syT, true_and, and_true])
   refine ⟨?_, ?_, ?_, ⟨0, ?_⟩, fun k hk => ?_⟩
   · (subst hL; subst hQ; simp only [L2, L3, std] at *; try simp only [syS, reduceCtorEq, Int.reduceToNat, Int.reduceAdd, Int.reduceSub] at *)
     omega
   · (subst hL; subst hQ; simp only [L2, L3, std] at *; try simp only [syS, reduceCtorEq, Int.reduceToNat, Int.reduceAdd, Int.reduceSub] at *)
     omega
   · (subst hL; subst hQ; simp only [L2, L3, std] at *; try simp only [syS, reduceCtorEq, Int.reduceToNat, Int.reduceAdd, Int.reduceSub] at *)
     have : zan (za6 y.ls i).rs = (za6 y.ls i).rs.length := rfl
     omega
   · (cbv; try simp only [syT, true_and, and_true])
     (subst hL; subst hQ; simp only [L2, L3, std] at *; try simp only [syS, reduceCtorEq, Int.reduceToNat, Int.reduceAdd, Int.reduceSub] at *)
     exact ⟨Nat.zero_le _, fun q hq => absurd hq (Nat.not_lt_zero _)⟩
   · have hk2 : yrd y.cs (zb3 (za6 y.ls i).rs 0).c k := by
       have h := hk
       rw [hL] at h
       exact h
     clear hk
     (cbv; try simp only [syT, true_and, and_true])
     refine ⟨fun hlt => ⟨?_, fun hs => ⟨?_, ?_, fun alt => ?_, fun alt => ?_⟩, fun hs => ⟨k + 1, ?_⟩⟩, fun hge => ?_⟩
     · (subst hL; subst hQ; simp only [L2, L3, std] at *; try simp only [syS, reduceCtorEq, Int.reduceToNat, Int.reduceAdd, Int.reduceSub] at *)
       omega
     · subst hL
       show yae 0 (k : Int) (k : Int) (y.cs.length : Int) = true
       rw [zrn]
       have h : ilt (k : Int) (y.cs.length : Int) = true := hlt
       have h := of_decide_eq_true h
       omega
     · (subst hL; subst hQ; simp only [L2, L3, std] at *; try simp only [syS, reduceCtorEq, Int.reduceToNat, Int.reduceAdd, Int.reduceSub] at *)
       omega
     · (subst hL; subst hQ; simp only [L2, L3, std] at *; try simp only [syS, reduceCtorEq, Int.reduceToNat, Int.reduceAdd, Int.reduceSub] at *)
       clear hG hO
       have hk3 : k < y.cs.length := by omega
       have hwi : (((i : Int) + 1 + 9223372036854775808) % 18446744073709551616 - 9223372036854775808).toNat = i + 1 := by omega
       have hwk : (((k : Int) + 1 + 9223372036854775808) % 18446744073709551616 - 9223372036854775808).toNat = k + 1 := by omega
       exact ⟨by omega, by omega, zss hpre hf1 hi hk3 hs.symm
         (cfb (by rw [hwi, List.length_eraseIdx_of_lt hi]; show i + (y.ls.length - (i + 1)) = _; omega) e2 (fun q j hq hj => by rw [hwi] at hq |-; exact zug (V := lsV) hi hq) (fun _ _ _ _ => rfl))
         (cfb e1 (by rw [hwk, List.length_eraseIdx_of_lt hk3]; show k + (y.cs.length - (k + 1)) = _; omega) (fun _ _ _ _ => rfl) (fun q j hq hj => by rw [hwk] at hq |-; exact zuh (V := clV) hk3 hq))
         (cfb (by rw [List.length_append]; rfl) e2 (fun q j hq hj => zus hq hj) (fun _ _ _ _ => rfl))⟩
     · (cbv; try simp only [syT, true_and, and_true])
       (subst hL; subst hQ; simp only [L2, L3, std] at *; try simp only [syS, reduceCtorEq, Int.reduceToNat, Int.reduceAdd, Int.reduceSub] at *)
       clear hG hO
       have hk3 : k < y.cs.length := by omega
       have hwi : (((i : Int) + 1 + 9223372036854775808) % 18446744073709551616 - 9223372036854775808).toNat = i + 1 := by omega
       have hwk : (((k : Int) + 1 + 9223372036854775808) % 18446744073709551616 - 9223372036854775808).toNat = k + 1 := by omega
       exact ⟨by omega, by omega, by omega, zss hpre hf1 hi hk3 hs.symm
         (cfb (by rw [hwi, List.length_eraseIdx_of_lt hi]; show i + (y.ls.length - (i + 1)) = _; omega) e2 (fun q j hq hj => by rw [hwi] at hq |-; exact zug (V := lsV) hi hq) (fun _ _ _ _ => rfl))
         (cfb e1 (by rw [hwk, List.length_eraseIdx_of_lt hk3]; show k + (y.cs.length - (k + 1)) = _; omega) (fun _ _ _ _ => rfl) (fun q j hq hj => by rw [hwk] at hq |-; exact zug (V := clV) hk3 hq))
         (cfb (by rw [List.length_append]; rfl) e2 (fun q j hq hj => zus hq hj) (fun _ _ _ _ => rfl))⟩
     · (cbv; try simp only [syT, true_and, and_true])
       (subst hL; subst hQ; simp only [L2, L3, std] at *; try simp only [syS, reduceCtorEq, Int.reduceToNat, Int.reduceAdd, Int.reduceSub] at *)
       have hk3 : k <= y.cs.length := hk2.1
       refine ⟨by omega, ⟨by omega, fun q hq => ?_⟩, by show y.cs.length - (k + 1) + 1 <= y.cs.length - k; omega⟩
       by_cases h : q < k
       · exact hk2.2 q h
       · obtain rfl : q = k := by omega
         exact hs
     · (subst hL; subst hQ; simp only [L2, L3, std] at *; try simp only [syS, reduceCtorEq, Int.reduceToNat, Int.reduceAdd, Int.reduceSub] at *)
       clear hG hO
       have hk3 : k <= y.cs.length := hk2.1
       obtain rfl : k = y.cs.length := by omega
       exact (yh9 hf1 hi hk2).elim
theorem law_ValidDrops (y : Cf) (hy : ynf y) (a : Int) (ha : (Lit.int .u8 a).wf = true) : za7 Tryz.prog 5 [.agg ((List.range 3).map (cfC std y)), .int .u8 a] (.bool true) := yft y hy a ha
end Sy
end Go.Proofs.YthppjaoicibeiaaGreatDoor
namespace Go.Proofs.YthppjaoicibeiaaGreatDoor
namespace Sy
open Go
set_option linter.unusedVariables false
theorem zrk {P : Program} {w : World} {n : String} {d : DataW Unit} : ∀ {l : List (String × DataW Unit)} {ps : List MemPlace}, DataW.LaidVars P w l ps -> (n, d) ∈ l ->
   ∃ g t cs fuel p, P.globalNamed n = some g /\ (P.globals[g]?).map (·.type) = some t /\ w.var? P n = some cs /\ DataW.trod (fun _ => ()) P w 0 (fun _ => true) false fuel t cs.toList = some (d, p)
 | x :: r, ps, h, hm => by
   obtain ⟨n', d'⟩ := x
   obtain ⟨g, t, cs, fuel, p, q, h1, h2, h3, h4, h5, _⟩ := h
   rcases List.mem_cons.1 hm with e | hm
   · cases e
     exact ⟨g, t, cs, fuel, p, h1, h2, h3, h4⟩
   · exact zrk h5 hm
theorem laid_tab {P : Program} {w : World} {name : String} {k : IntKind} {zs : List Int} {l : List (String × DataW Unit)} (h : laidMet P l w) (hm : (name, Lib.tabData k zs) ∈ l) {g : Nat} {t e : TypeId} {n : Nat}
   (hg : P.globalNamed name = some g) (hty : (P.globals[g]?).map (·.type) = some t) (ht : P.underlying t = some (.array n e)) (he : P.underlying e = some (.int k)) (hce : P.cellsOf e = 1) (hct : P.cellsOf t = n) : Lib.TabIs P w name k zs := by
 obtain ⟨ps, hv, _⟩ := h
 obtain ⟨g', t', cs, fuel, p, hg', ht', hvar, hd⟩ := zrk hv hm
 obtain rfl := Option.some.inj (hg.symm.trans hg')
 obtain rfl := Option.some.inj (hty.symm.trans ht')
 unfold Lib.TabIs
 rw [hvar, <- Lib.cells_of_tab ht he hce hct hd]
theorem laid_ifc {P : Program} {w : World} {name nm : String} {d : DataW Unit} {l : List (String × DataW Unit)} (h : laidMet P l w) (hm : (name, .iface nm d) ∈ l) {g : Nat} {t : TypeId} {ms : Array (String × TypeId)}
   (hg : P.globalNamed name = some g) (hty : (P.globals[g]?).map (·.type) = some t) (ht : P.underlying t = some (.interface ms)) : ∃ te pe, w.var? P name = some #[.iface te pe] := by
 obtain ⟨ps, hv, _⟩ := h
 obtain ⟨g', t', cs, fuel, p, hg', ht', hvar, hd⟩ := zrk hv hm
 obtain rfl := Option.some.inj (hg.symm.trans hg')
 obtain rfl := Option.some.inj (hty.symm.trans ht')
 obtain ⟨f2, u, v, e, _, _⟩ := iface_of_trod ht hd
 refine ⟨u, v, ?_⟩
 rw [hvar]
 obtain ⟨l0⟩ := cs
 have e : l0 = [.iface u v] := e
 rw [e]
theorem max_is {w : World} (h : w.ShapedOpen Tryz.prog) (hm : ∀ g, Tryz.prog.globalNamed "internal/bytealg.MaxLen" = some g -> ∃ zero t, g < Tryz.prog.globals.size /\ ((begin Tryz.prog (fun _ _ => 0) default).world.heap[g]?).bind Obj.row? = some (zero, t) /\ zero.size = 1 /\ Tryz.prog.buildable t = true /\ Tryz.prog.cellTypes Tryz.prog.depth t = some [t] /\ Tryz.prog.underlying t = some (.int .i64)) : ycn w := by
 intro g hg
 obtain ⟨zero, t, h1, h2, h3, h4, h5, h6⟩ := hm g hg
 exact Go.Proofs.cell_of_shapedOpen_int h h1 h2 h3 h4 h5 h6
theorem returns_and_shaped {H : Type} {enc : TypeId × Value -> H} {a : Assume} {C : Checked} {os : Os} {f : FuncId} {fn : Func} {s : ChangeSpec} {conds : List PathCond} {apart fresh handsOn again : Bool} {X : World -> Array Value -> Prop}
   (hX : ∀ (w w' : World) (args : Array Value), w.heap = w'.heap -> X w args -> X w' args)
   (own : ownKnob C.prog.godebug = none) (started : os.Started) (noInit : C.prog.inits.idxOf? f = none) (hfn : C.prog.funcs[f]? = some fn)
   (witness : ∃ (w : World) (tape : Tape) (i : Input), w.os = os /\ (w.forCall tape i).Shaped C.prog /\ i.vars = [] /\ Input.okWide C.prog (w.forCall tape i) .any w.heap.size f i /\
     ((s.pre enc C.prog fn conds apart (w.forCall tape i).memory i.args /\ X (w.forCall tape i).memory i.args) /\ sizedMet enc C.prog fn (OpenSpec.ofChange s) apart (w.forCall tape i).memory i.args) /\ a.holds C.prog (lone (Frame.enter C.prog f i.args .normal) [] (w.forCall tape i)))
   (contract : ∀ (W : World) (base : Nat) (args : Array Value) (ds gs : List (DataW H)) (before : List MemPlace),
     (∀ (j : Nat) t v, fn.params[j]? = some t -> args[j]? = some v -> Value.okWide C.prog W .any base t v) ->
     DataW.Whole enc C.prog fn.params.toList s.vars apart W args.toList ds gs before ->
     conds.all (PathCond.test C.prog ⟨fn.params.toList, ds, s.plain.varTypes C.prog, gs⟩) = true ->
     (DataW.weightsEach C.prog (fn.params.toList ++ s.plain.varTypes C.prog) (ds ++ gs)).all (· <= reachBytes) = true -> X W args -> W.ShapedOpen C.prog ->
     a.holds C.prog (lone (Frame.enter C.prog f args .normal) [] W) ->
     Calls C.prog f args W fun e W' => ∃ v, e = .returned v /\ s.post enc C.prog fn apart fresh handsOn again W args v W') :
   ReturnsInHanded a C os f .any (fun w args => (s.pre enc C.prog fn conds apart w args /\ X w args) /\ sizedMet enc C.prog fn (OpenSpec.ofChange s) apart w args) (s.post enc C.prog fn apart fresh handsOn again) := by
 refine returnsInHanded_of_calls own started noInit witness ?_
 intro w tape i _ hsh _ hok hpre hholds
 obtain ⟨_, _, _, fn', hfn', _, _, _, _, hval⟩ := hok
 have e : fn' = fn := Option.some.inj (hfn'.symm.trans hfn)
 subst e
 obtain ⟨⟨⟨ds, gs, before, hw, hc⟩, hx⟩, hz⟩ := hpre
 have hw' := DataW.Whole.of_heap (w' := w.forCall tape i) (by rfl) hw
 refine (contract (w.forCall tape i) w.heap.size i.args ds gs before hval hw' hc (hz.weights hw) (hX _ _ _ (by rfl) hx) hsh hholds).mono fun e W' ⟨v, he, hp⟩ => ?_
 subst he
 exact ChangeSpec.post_blind hp
end Sy
end Go.Proofs.YthppjaoicibeiaaGreatDoor
