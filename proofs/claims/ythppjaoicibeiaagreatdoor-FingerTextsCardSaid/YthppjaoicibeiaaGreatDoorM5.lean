/-Chapter 9 (config): routes, endpoints, listeners, clusters as values. Chapter 9 (config): how many; weights; and what stands between these and the texts behind.-/
import Derived.Test.YthppjaoicibeiaaGreatDoorM4
import Derived.Test.YthppjaoicibeiaaGreatDoorShelf
namespace Go.Proofs.YthppjaoicibeiaaGreatDoor
namespace Sy
open Go Go.RowKit
set_option maxRecDepth 100000
set_option linter.unusedSimpArgs false
set_option linter.unusedVariables false
def zrx {α : Type} (f : Nat) (ok : AV -> Prop) (rd : AV -> α) (pre : α -> Prop) (val : α -> CV) (L : zaa) : zb4 := (f, fun xs => match xs with
 | [x] => some (L ok x /\ L pre (L rd x), cvA L (L val (L rd x)))
 | _ => none)
def zh6 {α : Type} (l : List α) : Prop := l.length <= 1000000
def zz7 {α : Type} (p : α -> Prop) (l : List α) : Prop := ∀ x ∈ l, p x
def zpe {α : Type} (val : α -> CV) (l : List α) : CV := zd3 (l.map val)
def zjr {α : Type} (f g : Nat) (ok : AV -> Prop) (rd : AV -> List α) (pre : List α -> Prop) (val : List α -> CV) (L : zaa) : zb4 := (f, fun xs => match xs with
 | [x, .fn k [] []] => match zak k g with
   | true => some (L ok x /\ L zh6 (L rd x) /\ L pre (L rd x), cvA L (L val (L rd x)))
   | false => none
 | _ => none)
def yie {α : Type} (L : zaa) (nth : List α -> Nat -> α) (val : α -> CV) (l : List α) : Nat -> St -> Option Ann := fun id st => match id with
 | 0 => some ⟨Nat, fun i => [(10, .int .i64 (L zan i)), (4, .ref 4 0), (5, .sl 900 4 0 i)], fun i => [(900, .row 136 4 i (fun q j => cv1 L (L val (L (L nth l) q)) j)), (4, .box 136 [.dead, .dead, .dead, .dead])], [0, 1, 8, 9], [],
     fun i => L2 L (fun (l : List α) i => i <= l.length) l i, fun i => L2 L (fun (l : List α) (i : Nat) => l.length - i) l i⟩
 | _ => none
theorem ygo {α : Type} {V : Vw α} (val : α -> CV) {l : List α} {i : Nat} (h : i < l.length) : zdi (l.map val) i = val (zok V l i) := by
 rw [zb2 h, zdi, List.getD_eq_getElem?_getD, List.getElem?_eq_getElem (by simpa using h)]; simp
theorem zkb {α : Type} {V : Vw α} {val : α -> CV} {l : List α} {n : Nat} (h : n = l.length) :
   rdL (.lst 4 n fun q j => cv1 std (val (zok V l q)) j) = l.map val /\ okL (.lst 4 n fun q j => cv1 std (val (zok V l q)) j) :=
 zuq (by simpa using h) fun i j hi hj => by rw [ztn _ _ hj, ygo (V := V) val (by omega)]
def zhk (x : Rt) : CV := zd3 [zif x.h, zif x.p, zif x.c, zfw x.i]
def zi2 (x : Ep) : CV := zd3 [zif (plB x.pl), zfw (x.w % 18446744073709551616)]
def zwy (x : Rt) : Prop := True
def zy8 (x : Ep) : Prop := zz0 x.pl
def zum (l : List Rt) : CV := zpe zhk l
def zvy (l : List Ep) : CV := zpe zi2 l
def yjs (l : List Rt) : Prop := zz7 zwy l
def ydc (l : List Ep) : Prop := zz7 zy8 l
def zw4 : List CV -> List AV
 | [] => []
 | v :: l => .int .i64 v.kd :: .int .u64 v.nn :: .str v.tx :: .lst 4 (zm8 v) (zkd v) :: zw4 l
theorem zrh : ∀ (l : List CV) (i j : Nat), i < l.length -> j < 4 -> zbm .dead (zw4 l) (i * 4 + j) = ze1 (zdi l i) j
 | [], i, j, hi, _ => by simp at hi
 | v :: l, 0, j, _, hj => by
   match j, hj with
   | 0, _ => exact (zfi v).symm
   | 1, _ => exact (zfh v).symm
   | 2, _ => exact (zfg v).symm
   | 3, _ => exact (zff v).symm
 | v :: l, i + 1, j, hi, hj => by
   rw [show (i + 1) * 4 + j = i * 4 + j + 4 by omega]
   exact zrh l i j (by simpa using hi) hj
theorem zlx (l : List CV) {n : Nat} {cs : List AV} (hn : n = l.length) (h : cs = zw4 l) : rdL (.lst 4 n fun i j => zbm .dead cs (i * 4 + j)) = l /\ okL (.lst 4 n fun i j => zbm .dead cs (i * 4 + j)) :=
 zuq hn fun i j hi hj => by rw [h]; exact zrh l i j (by omega) hj
theorem zrf {v w : CV} (h : v = w) : zgw (cvA std v) (.agg [.int .i64 w.kd, .int .u64 w.nn, .str w.tx, .lst 4 (zm8 w) (zkd w)]) := by
 subst h
 show zgw (.agg [.int .i64 v.kd, .int .u64 v.nn, .str v.tx, .lst 4 (zm8 v) (zkd v)]) _
 simp [zg7, zch, zdp, zgm, zc1]
theorem zil (l : List CV) {v : CV} {n : Nat} {cs : List AV} (hv : v = zd3 l) (hn : n = l.length) (hl : l.length <= 4) (h : cs = zw4 l) :
   (okL (.lst 4 n fun i j => zbm .dead cs (i * 4 + j)) /\ yc2 (rdL (.lst 4 n fun i j => zbm .dead cs (i * 4 + j)))) /\
   ∀ {w : CV}, w = zd3 (rdL (.lst 4 n fun i j => zbm .dead cs (i * 4 + j))) -> zgw (cvA std v) (.agg [.int .i64 w.kd, .int .u64 w.nn, .str w.tx, .lst 4 (zm8 w) (zkd w)]) := by
 obtain ⟨k1, k2⟩ := zlx l hn h
 refine ⟨⟨k2, ?_⟩, fun {w} hw => zrf ?_⟩
 · rw [k1]
   show l.length <= 1000000
   omega
 · rw [hw, k1, hv]
theorem zx2 : zao Tryz.prog (zrx 130 zxh zkz zwy zhk std) := by
 intro xs p r h hp
 dsimp only [zrx] at h |-
 split at h <;> cases h
 try simp only [L2, L3, std] at hp |-
 rename_i x
 refine zpq zdu hp.1 ?_
 have hp := hp.2
 show za9 _ _ _ (cvA std (zhk (rdG rtV x)))
 have hp : zwy (rdG rtV x) := hp
 generalize rdG rtV x = y at hp |-
 refine za8 (T := tt) (S := fun L => zad [zwe L, zxj L, zfk L]) (lo := fun _ => noA std) (lb := noA) 5 (fn := Tryz.f130) (xs := fun L => [.agg [.str (L Rt.h y), .str (L Rt.p y), .str (L Rt.c y), .int .u64 (L Rt.i y)]]) rfl rfl (by kernel_rfl) (by kernel_rfl) rfl zab (za1 ⟨zjv, zk0, zc8, trivial⟩) (by kernel_rfl) ?_
 intro L P' Q' hL hP hQ
 (cbv; try simp only [syT, true_and, and_true])
 (subst hL; subst hQ; simp only [L2, L3, std] at *; try simp only [syS, reduceCtorEq, Int.reduceToNat, Int.reduceAdd, Int.reduceSub] at *)
 exact ⟨(zil [zif y.h, zif y.p, zif y.c, zfw y.i] (v := zhk y) (n := 4) rfl rfl (Nat.le_of_ble_eq_true rfl) rfl).1, (zil [zif y.h, zif y.p, zif y.c, zfw y.i] (v := zhk y) (n := 4) rfl rfl (Nat.le_of_ble_eq_true rfl) rfl).2 rfl⟩
theorem zpc : zao Tryz.prog (zrx 132 zl5 zhn zy8 zi2 std) := by
 intro xs p r h hp
 dsimp only [zrx] at h |-
 split at h <;> cases h
 try simp only [L2, L3, std] at hp |-
 rename_i x
 refine zpq zci hp.1 ?_
 have hp := hp.2
 show za9 _ _ _ (cvA std (zi2 (rdG epV x)))
 have hp : zy8 (rdG epV x) := hp
 generalize rdG epV x = y at hp |-
 refine za8 (T := tt) (S := fun L => zad [zwe L, zxj L, zfk L, zpi L]) (lo := fun _ => noA std) (lb := noA) 5 (fn := Tryz.f132) (xs := fun L => [.agg [.int .u8 (L Pl.a (L Ep.pl y)), .int .u8 (L Pl.b (L Ep.pl y)), .int .u8 (L Pl.c (L Ep.pl y)), .int .u8 (L Pl.d (L Ep.pl y)), .int .u16 (L Pl.p (L Ep.pl y)), .int .i64 (L Ep.w y)]]) rfl rfl (by kernel_rfl) (by kernel_rfl) rfl zab (za1 ⟨zjv, zk0, zc8, znk, trivial⟩) (by kernel_rfl) ?_
 intro L P' Q' hL hP hQ
 (cbv; try simp only [syT, true_and, and_true])
 (subst hL; subst hQ; simp only [L2, L3, std] at *; try simp only [syS, reduceCtorEq, Int.reduceToNat, Int.reduceAdd, Int.reduceSub] at *)
 refine ⟨hp, (zil [zif (plB y.pl), zfw (y.w % 18446744073709551616)] (v := zi2 y) (n := 2) rfl rfl (Nat.le_of_ble_eq_true rfl) rfl).1, (zil [zif (plB y.pl), zfw (y.w % 18446744073709551616)] (v := zi2 y) (n := 2) rfl rfl (Nat.le_of_ble_eq_true rfl) rfl).2 rfl⟩
theorem ztg (ih : zao Tryz.prog (zrx 130 zxh zkz zwy zhk std)) : zao Tryz.prog (zjr 129 130 zsq zjn yjs zum std) := by
 intro xs p r h hp
 unfold zjr at h
 simp only at h
 split at h
 rotate_left
 · cases h
 rename_i x k
 cases hk : zak k 130 with
 | false => rw [hk] at h; cases h
 | true =>
 rw [hk] at h
 obtain rfl : k = 130 := of_decide_eq_true hk
 cases h
 obtain ⟨ho, hz, ha⟩ := hp
 refine zju zdu ho ?_
 have hz : zh6 (rdW rtV x) := hz
 have ha : zz7 zwy (rdW rtV x) := ha
 show za9 _ _ _ (cvA std (zpe zhk (rdW rtV x)))
 generalize rdW rtV x = l at hz ha |-
 refine za8 (T := tt) (S := fun L => zad [zrx 130 zxh zkz zwy zhk L, zfk L]) (lo := fun L => yie L zen zhk l) (lb := noA) 5 (fn := Tryz.f129) (xs := fun L => [zor L l, .fn 130 [] []]) rfl rfl (by kernel_rfl) (by kernel_rfl) rfl zab
   (za1 ⟨ih, zc8, trivial⟩) (by kernel_rfl) ?_
 intro L P' Q' hL hP hQ
 (cbv; try simp only [syT, true_and, and_true])
 refine ⟨⟨0, ?_⟩, fun i hi => ?_⟩
 · (cbv; try simp only [syT, true_and, and_true])
   (subst hL; subst hQ; simp only [L2, L3, std] at *; try simp only [syS, reduceCtorEq, Int.reduceToNat, Int.reduceAdd, Int.reduceSub] at *)
   exact Nat.zero_le _
 · cbv at hi
   have hG : ∀ y : Rt, L zkz (.agg [.str (L Rt.h y), .str (L Rt.p y), .str (L Rt.c y), .int .u64 (L Rt.i y)]) = y := by subst hL; exact fun y => (gK zdu y _ rfl).2
   have hO : ∀ y : Rt, L zxh (.agg [.str (L Rt.h y), .str (L Rt.p y), .str (L Rt.c y), .int .u64 (L Rt.i y)]) := by subst hL; exact fun y => (gK zdu y _ rfl).1
   (cbv; try simp only [syT, true_and, and_true])
   simp only [hG, hO, true_and]
   refine ⟨fun hlt => ⟨?_, ?_, ?_, ⟨i + 1, ?_⟩⟩, fun hge => ?_⟩
   · (subst hL; subst hQ; simp only [L2, L3, std] at *; try simp only [syS, reduceCtorEq, Int.reduceToNat, Int.reduceAdd, Int.reduceSub] at *)
     omega
   · (subst hL; subst hQ; simp only [L2, L3, std] at *; try simp only [syS, reduceCtorEq, Int.reduceToNat, Int.reduceAdd, Int.reduceSub] at *)
     exact ha _ (by rw [zen, zb2 (V := rtV) (by have : zb3 l = l.length := rfl; omega)]; exact List.getElem_mem _)
   · (subst hL; subst hQ; simp only [L2, L3, std] at *; try simp only [syS, reduceCtorEq, Int.reduceToNat, Int.reduceAdd, Int.reduceSub] at *)
     have : zb3 l = l.length := rfl
     have : l.length <= 1000000 := hz
     omega
   · (cbv; try simp only [syT, true_and, and_true])
     try simp only [hG]
     (subst hL; subst hQ; simp only [L2, L3, std] at *; try simp only [syS, reduceCtorEq, Int.reduceToNat, Int.reduceAdd, Int.reduceSub] at *)
     have : zb3 l = l.length := rfl
     have : l.length <= 1000000 := hz
     exact ⟨fun q j hq hj => zpf (fun q => zhk (zen l q)) hq hj, by omega, by omega, by omega⟩
   · (subst hL; subst hQ; simp only [L2, L3, std] at *; try simp only [syS, reduceCtorEq, Int.reduceToNat, Int.reduceAdd, Int.reduceSub] at *)
     have : zb3 l = l.length := rfl
     obtain ⟨k1, k2⟩ := zkb (V := rtV) (val := zhk) (l := l) (n := i) (by omega)
     refine ⟨⟨k2, ?_⟩, zrf ?_⟩
     · show List.length _ <= 1000000
       have k1 : rdL (.lst 4 i fun q j => cv1 std (zhk (zen l q)) j) = l.map zhk := k1
       rw [k1, List.length_map]; exact hz
     · exact (congrArg zd3 k1).symm
theorem zti (ih : zao Tryz.prog (zrx 132 zl5 zhn zy8 zi2 std)) : zao Tryz.prog (zjr 131 132 zjo zgp ydc zvy std) := by
 intro xs p r h hp
 unfold zjr at h
 simp only at h
 split at h
 rotate_left
 · cases h
 rename_i x k
 cases hk : zak k 132 with
 | false => rw [hk] at h; cases h
 | true =>
 rw [hk] at h
 obtain rfl : k = 132 := of_decide_eq_true hk
 cases h
 obtain ⟨ho, hz, ha⟩ := hp
 refine zju zci ho ?_
 have hz : zh6 (rdW epV x) := hz
 have ha : zz7 zy8 (rdW epV x) := ha
 show za9 _ _ _ (cvA std (zpe zi2 (rdW epV x)))
 generalize rdW epV x = l at hz ha |-
 refine za8 (T := tt) (S := fun L => zad [zrx 132 zl5 zhn zy8 zi2 L, zfk L]) (lo := fun L => yie L zdw zi2 l) (lb := noA) 5 (fn := Tryz.f131) (xs := fun L => [zgr L l, .fn 132 [] []]) rfl rfl (by kernel_rfl) (by kernel_rfl) rfl zab
   (za1 ⟨ih, zc8, trivial⟩) (by kernel_rfl) ?_
 intro L P' Q' hL hP hQ
 (cbv; try simp only [syT, true_and, and_true])
 refine ⟨⟨0, ?_⟩, fun i hi => ?_⟩
 · (cbv; try simp only [syT, true_and, and_true])
   (subst hL; subst hQ; simp only [L2, L3, std] at *; try simp only [syS, reduceCtorEq, Int.reduceToNat, Int.reduceAdd, Int.reduceSub] at *)
   exact Nat.zero_le _
 · cbv at hi
   have hG : ∀ y : Ep, L zhn (.agg [.int .u8 (L Pl.a (L Ep.pl y)), .int .u8 (L Pl.b (L Ep.pl y)), .int .u8 (L Pl.c (L Ep.pl y)), .int .u8 (L Pl.d (L Ep.pl y)), .int .u16 (L Pl.p (L Ep.pl y)), .int .i64 (L Ep.w y)]) = y := by subst hL; exact fun y => (gK zci y _ rfl).2
   have hO : ∀ y : Ep, L zl5 (.agg [.int .u8 (L Pl.a (L Ep.pl y)), .int .u8 (L Pl.b (L Ep.pl y)), .int .u8 (L Pl.c (L Ep.pl y)), .int .u8 (L Pl.d (L Ep.pl y)), .int .u16 (L Pl.p (L Ep.pl y)), .int .i64 (L Ep.w y)]) := by subst hL; exact fun y => (gK zci y _ rfl).1
   (cbv; try simp only [syT, true_and, and_true])
   simp only [hG, hO, true_and]
   refine ⟨fun hlt => ⟨?_, ?_, ?_, ⟨i + 1, ?_⟩⟩, fun hge => ?_⟩
   · (subst hL; subst hQ; simp only [L2, L3, std] at *; try simp only [syS, reduceCtorEq, Int.reduceToNat, Int.reduceAdd, Int.reduceSub] at *)
     omega
   · (subst hL; subst hQ; simp only [L2, L3, std] at *; try simp only [syS, reduceCtorEq, Int.reduceToNat, Int.reduceAdd, Int.reduceSub] at *)
     exact ha _ (by rw [zdw, zb2 (V := epV) (by have : zb3 l = l.length := rfl; omega)]; exact List.getElem_mem _)
   · (subst hL; subst hQ; simp only [L2, L3, std] at *; try simp only [syS, reduceCtorEq, Int.reduceToNat, Int.reduceAdd, Int.reduceSub] at *)
     have : zb3 l = l.length := rfl
     have : l.length <= 1000000 := hz
     omega
   · (cbv; try simp only [syT, true_and, and_true])
     try simp only [hG]
     (subst hL; subst hQ; simp only [L2, L3, std] at *; try simp only [syS, reduceCtorEq, Int.reduceToNat, Int.reduceAdd, Int.reduceSub] at *)
     have : zb3 l = l.length := rfl
     have : l.length <= 1000000 := hz
     exact ⟨fun q j hq hj => zpf (fun q => zi2 (zdw l q)) hq hj, by omega, by omega, by omega⟩
   · (subst hL; subst hQ; simp only [L2, L3, std] at *; try simp only [syS, reduceCtorEq, Int.reduceToNat, Int.reduceAdd, Int.reduceSub] at *)
     have : zb3 l = l.length := rfl
     obtain ⟨k1, k2⟩ := zkb (V := epV) (val := zi2) (l := l) (n := i) (by omega)
     refine ⟨⟨k2, ?_⟩, zrf ?_⟩
     · show List.length _ <= 1000000
       have k1 : rdL (.lst 4 i fun q j => cv1 std (zi2 (zdw l q)) j) = l.map zi2 := k1
       rw [k1, List.length_map]; exact hz
     · exact (congrArg zd3 k1).symm
def ziy (x : Ls) : CV := zd3 [zif x.n, zif (plB x.pl), zum x.rs]
def zj7 (x : Cl) : CV := zd3 [zif x.n, zvy x.es]
def zxs (x : Ls) : Prop := zz0 x.pl /\ zh6 x.rs
def zyf (x : Cl) : Prop := zh6 x.es /\ ydc x.es
def yby (l : List Ls) : CV := zpe ziy l
def ydp (l : List Cl) : CV := zpe zj7 l
def yk3 (l : List Ls) : Prop := zz7 zxs l
def ykk (l : List Cl) : Prop := zz7 zyf l
theorem ymf (l : List Rt) : zjn (.lst 4 (zb3 l) fun i => rtC std (zen l i)) = l := (zcn zdu l).2
theorem ymx (l : List Rt) : zsq (.lst 4 (zb3 l) fun i => rtC std (zen l i)) := (zcn zdu l).1
theorem yas (l : List Ep) : zgp (.lst 6 (zb3 l) fun i => epC std (zdw l i)) = l := (zcn zci l).2
theorem ybe (l : List Ep) : zjo (.lst 6 (zb3 l) fun i => epC std (zdw l i)) := (zcn zci l).1
theorem ymg (l : List Ls) : zhl (.lst 7 (zb3 l) fun i => lsC std (zap l i)) = l := (zcn zcw l).2
theorem ymy (l : List Ls) : zoh (.lst 7 (zb3 l) fun i => lsC std (zap l i)) := (zcn zcw l).1
theorem yat (l : List Cl) : zfm (.lst 2 (zb3 l) fun i => clC std (zar l i)) = l := (zcn zbw l).2
theorem ybf (l : List Cl) : zir (.lst 2 (zb3 l) fun i => clC std (zar l i)) := (zcn zbw l).1
theorem zot : zao Tryz.prog (zrx 79 zl4 zhm zxs ziy std) := by
 intro xs p r h hp
 dsimp only [zrx] at h |-
 split at h <;> cases h
 try simp only [L2, L3, std] at hp |-
 rename_i x
 refine zpq zcw hp.1 ?_
 have hp := hp.2
 show za9 _ _ _ (cvA std (ziy (rdG lsV x)))
 have hp : zxs (rdG lsV x) := hp
 generalize rdG lsV x = y at hp |-
 refine za8 (T := tt) (S := fun L => zad [zwe L, zfk L, zpi L, zjr 129 130 zsq zjn yjs zum L]) (lo := fun _ => noA std) (lb := noA) 5 (fn := Tryz.f79) (xs := fun L => [.agg [.str (L Ls.n y), .int .u8 (L Pl.a (L Ls.pl y)), .int .u8 (L Pl.b (L Ls.pl y)), .int .u8 (L Pl.c (L Ls.pl y)), .int .u8 (L Pl.d (L Ls.pl y)), .int .u16 (L Pl.p (L Ls.pl y)), zor L (L Ls.rs y)]]) rfl rfl (by kernel_rfl) (by kernel_rfl) rfl zab (za1 ⟨zjv, zc8, znk, ztg zx2, trivial⟩) (by kernel_rfl) ?_
 intro L P' Q' hL hP hQ
 (cbv; try simp only [syT, true_and, and_true])
 (subst hL; subst hQ; simp only [L2, L3, std] at *; try simp only [syS, reduceCtorEq, Int.reduceToNat, Int.reduceAdd, Int.reduceSub] at *)
 simp only [ymf]
 obtain ⟨k1, k2⟩ := zil [zif y.n, zif (plB y.pl), zum y.rs] (v := ziy y) (n := 3) rfl rfl (Nat.le_of_ble_eq_true rfl) rfl
 exact ⟨hp.1, ⟨ymx _, hp.2, fun _ _ => trivial⟩, k1, k2 rfl⟩
theorem zrg : zao Tryz.prog (zrx 81 zgq zf6 zyf zj7 std) := by
 intro xs p r h hp
 dsimp only [zrx] at h |-
 split at h <;> cases h
 try simp only [L2, L3, std] at hp |-
 rename_i x
 refine zpq zbw hp.1 ?_
 have hp := hp.2
 show za9 _ _ _ (cvA std (zj7 (rdG clV x)))
 have hp : zyf (rdG clV x) := hp
 generalize rdG clV x = y at hp |-
 refine za8 (T := tt) (S := fun L => zad [zwe L, zfk L, zjr 131 132 zjo zgp ydc zvy L]) (lo := fun _ => noA std) (lb := noA) 5 (fn := Tryz.f81) (xs := fun L => [.agg [.str (L Cl.n y), zgr L (L Cl.es y)]]) rfl rfl (by kernel_rfl) (by kernel_rfl) rfl zab (za1 ⟨zjv, zc8, zti zpc, trivial⟩) (by kernel_rfl) ?_
 intro L P' Q' hL hP hQ
 (cbv; try simp only [syT, true_and, and_true])
 (subst hL; subst hQ; simp only [L2, L3, std] at *; try simp only [syS, reduceCtorEq, Int.reduceToNat, Int.reduceAdd, Int.reduceSub] at *)
 simp only [yas]
 obtain ⟨k1, k2⟩ := zil [zif y.n, zvy y.es] (v := zj7 y) (n := 2) rfl rfl (Nat.le_of_ble_eq_true rfl) rfl
 exact ⟨⟨ybe _, hp.1, hp.2⟩, k1, k2 rfl⟩
theorem zth (ih : zao Tryz.prog (zrx 79 zl4 zhm zxs ziy std)) : zao Tryz.prog (zjr 78 79 zoh zhl yk3 yby std) := by
 intro xs p r h hp
 unfold zjr at h
 simp only at h
 split at h
 rotate_left
 · cases h
 rename_i x k
 cases hk : zak k 79 with
 | false => rw [hk] at h; cases h
 | true =>
 rw [hk] at h
 obtain rfl : k = 79 := of_decide_eq_true hk
 cases h
 obtain ⟨ho, hz, ha⟩ := hp
 refine zju zcw ho ?_
 have hz : zh6 (rdW lsV x) := hz
 have ha : zz7 zxs (rdW lsV x) := ha
 show za9 _ _ _ (cvA std (zpe ziy (rdW lsV x)))
 generalize rdW lsV x = l at hz ha |-
 refine za8 (T := tt) (S := fun L => zad [zrx 79 zl4 zhm zxs ziy L, zfk L]) (lo := fun L => yie L zap ziy l) (lb := noA) 5 (fn := Tryz.f78) (xs := fun L => [zfn L l, .fn 79 [] []]) rfl rfl (by kernel_rfl) (by kernel_rfl) rfl zab
   (za1 ⟨ih, zc8, trivial⟩) (by kernel_rfl) ?_
 intro L P' Q' hL hP hQ
 (cbv; try simp only [syT, true_and, and_true])
 refine ⟨⟨0, ?_⟩, fun i hi => ?_⟩
 · (cbv; try simp only [syT, true_and, and_true])
   (subst hL; subst hQ; simp only [L2, L3, std] at *; try simp only [syS, reduceCtorEq, Int.reduceToNat, Int.reduceAdd, Int.reduceSub] at *)
   exact Nat.zero_le _
 · cbv at hi
   have hG : ∀ y : Ls, L zhm (.agg [.str (L Ls.n y), .int .u8 (L Pl.a (L Ls.pl y)), .int .u8 (L Pl.b (L Ls.pl y)), .int .u8 (L Pl.c (L Ls.pl y)), .int .u8 (L Pl.d (L Ls.pl y)), .int .u16 (L Pl.p (L Ls.pl y)), .lst 4 (L zb3 (L Ls.rs y)) (fun i => rtC L (L (L zen (L Ls.rs y)) i))]) = y := by subst hL; exact fun y => (gK zcw y _ rfl).2
   have hO : ∀ y : Ls, L zl4 (.agg [.str (L Ls.n y), .int .u8 (L Pl.a (L Ls.pl y)), .int .u8 (L Pl.b (L Ls.pl y)), .int .u8 (L Pl.c (L Ls.pl y)), .int .u8 (L Pl.d (L Ls.pl y)), .int .u16 (L Pl.p (L Ls.pl y)), .lst 4 (L zb3 (L Ls.rs y)) (fun i => rtC L (L (L zen (L Ls.rs y)) i))]) := by subst hL; exact fun y => (gK zcw y _ rfl).1
   (cbv; try simp only [syT, true_and, and_true])
   simp only [hG, hO, true_and]
   refine ⟨fun hlt => ⟨?_, ?_, ?_, ⟨i + 1, ?_⟩⟩, fun hge => ?_⟩
   · (subst hL; subst hQ; simp only [L2, L3, std] at *; try simp only [syS, reduceCtorEq, Int.reduceToNat, Int.reduceAdd, Int.reduceSub] at *)
     omega
   · (subst hL; subst hQ; simp only [L2, L3, std] at *; try simp only [syS, reduceCtorEq, Int.reduceToNat, Int.reduceAdd, Int.reduceSub] at *)
     exact ha _ (by rw [zap, zb2 (V := lsV) (by have : zb3 l = l.length := rfl; omega)]; exact List.getElem_mem _)
   · (subst hL; subst hQ; simp only [L2, L3, std] at *; try simp only [syS, reduceCtorEq, Int.reduceToNat, Int.reduceAdd, Int.reduceSub] at *)
     have : zb3 l = l.length := rfl
     have : l.length <= 1000000 := hz
     omega
   · (cbv; try simp only [syT, true_and, and_true])
     try simp only [hG]
     (subst hL; subst hQ; simp only [L2, L3, std] at *; try simp only [syS, reduceCtorEq, Int.reduceToNat, Int.reduceAdd, Int.reduceSub] at *)
     have : zb3 l = l.length := rfl
     have : l.length <= 1000000 := hz
     exact ⟨fun q j hq hj => zpf (fun q => ziy (zap l q)) hq hj, by omega, by omega, by omega⟩
   · (subst hL; subst hQ; simp only [L2, L3, std] at *; try simp only [syS, reduceCtorEq, Int.reduceToNat, Int.reduceAdd, Int.reduceSub] at *)
     have : zb3 l = l.length := rfl
     obtain ⟨k1, k2⟩ := zkb (V := lsV) (val := ziy) (l := l) (n := i) (by omega)
     refine ⟨⟨k2, ?_⟩, zrf ?_⟩
     · show List.length _ <= 1000000
       have k1 : rdL (.lst 4 i fun q j => cv1 std (ziy (zap l q)) j) = l.map ziy := k1
       rw [k1, List.length_map]; exact hz
     · exact (congrArg zd3 k1).symm
theorem ztj (ih : zao Tryz.prog (zrx 81 zgq zf6 zyf zj7 std)) : zao Tryz.prog (zjr 80 81 zir zfm ykk ydp std) := by
 intro xs p r h hp
 unfold zjr at h
 simp only at h
 split at h
 rotate_left
 · cases h
 rename_i x k
 cases hk : zak k 81 with
 | false => rw [hk] at h; cases h
 | true =>
 rw [hk] at h
 obtain rfl : k = 81 := of_decide_eq_true hk
 cases h
 obtain ⟨ho, hz, ha⟩ := hp
 refine zju zbw ho ?_
 have hz : zh6 (rdW clV x) := hz
 have ha : zz7 zyf (rdW clV x) := ha
 show za9 _ _ _ (cvA std (zpe zj7 (rdW clV x)))
 generalize rdW clV x = l at hz ha |-
 refine za8 (T := tt) (S := fun L => zad [zrx 81 zgq zf6 zyf zj7 L, zfk L]) (lo := fun L => yie L zar zj7 l) (lb := noA) 5 (fn := Tryz.f80) (xs := fun L => [zes L l, .fn 81 [] []]) rfl rfl (by kernel_rfl) (by kernel_rfl) rfl zab
   (za1 ⟨ih, zc8, trivial⟩) (by kernel_rfl) ?_
 intro L P' Q' hL hP hQ
 (cbv; try simp only [syT, true_and, and_true])
 refine ⟨⟨0, ?_⟩, fun i hi => ?_⟩
 · (cbv; try simp only [syT, true_and, and_true])
   (subst hL; subst hQ; simp only [L2, L3, std] at *; try simp only [syS, reduceCtorEq, Int.reduceToNat, Int.reduceAdd, Int.reduceSub] at *)
   exact Nat.zero_le _
 · cbv at hi
   have hG : ∀ y : Cl, L zf6 (.agg [.str (L Cl.n y), .lst 6 (L zb3 (L Cl.es y)) (fun i => epC L (L (L zdw (L Cl.es y)) i))]) = y := by subst hL; exact fun y => (gK zbw y _ rfl).2
   have hO : ∀ y : Cl, L zgq (.agg [.str (L Cl.n y), .lst 6 (L zb3 (L Cl.es y)) (fun i => epC L (L (L zdw (L Cl.es y)) i))]) := by subst hL; exact fun y => (gK zbw y _ rfl).1
   (cbv; try simp only [syT, true_and, and_true])
   simp only [hG, hO, true_and]
   refine ⟨fun hlt => ⟨?_, ?_, ?_, ⟨i + 1, ?_⟩⟩, fun hge => ?_⟩
   · (subst hL; subst hQ; simp only [L2, L3, std] at *; try simp only [syS, reduceCtorEq, Int.reduceToNat, Int.reduceAdd, Int.reduceSub] at *)
     omega
   · (subst hL; subst hQ; simp only [L2, L3, std] at *; try simp only [syS, reduceCtorEq, Int.reduceToNat, Int.reduceAdd, Int.reduceSub] at *)
     exact ha _ (by rw [zar, zb2 (V := clV) (by have : zb3 l = l.length := rfl; omega)]; exact List.getElem_mem _)
   · (subst hL; subst hQ; simp only [L2, L3, std] at *; try simp only [syS, reduceCtorEq, Int.reduceToNat, Int.reduceAdd, Int.reduceSub] at *)
     have : zb3 l = l.length := rfl
     have : l.length <= 1000000 := hz
     omega
   · (cbv; try simp only [syT, true_and, and_true])
     try simp only [hG]
     (subst hL; subst hQ; simp only [L2, L3, std] at *; try simp only [syS, reduceCtorEq, Int.reduceToNat, Int.reduceAdd, Int.reduceSub] at *)
     have : zb3 l = l.length := rfl
     have : l.length <= 1000000 := hz
     exact ⟨fun q j hq hj => zpf (fun q => zj7 (zar l q)) hq hj, by omega, by omega, by omega⟩
   · (subst hL; subst hQ; simp only [L2, L3, std] at *; try simp only [syS, reduceCtorEq, Int.reduceToNat, Int.reduceAdd, Int.reduceSub] at *)
     have : zb3 l = l.length := rfl
     obtain ⟨k1, k2⟩ := zkb (V := clV) (val := zj7) (l := l) (n := i) (by omega)
     refine ⟨⟨k2, ?_⟩, zrf ?_⟩
     · show List.length _ <= 1000000
       have k1 : rdL (.lst 4 i fun q j => cv1 std (zj7 (zar l q)) j) = l.map zj7 := k1
       rw [k1, List.length_map]; exact hz
     · exact (congrArg zd3 k1).symm
end Sy
end Go.Proofs.YthppjaoicibeiaaGreatDoor
namespace Go.Proofs.YthppjaoicibeiaaGreatDoor
namespace Sy
open Go Go.RowKit
set_option maxRecDepth 100000
set_option linter.unusedSimpArgs false
set_option linter.unusedVariables false
def prS {α : Type} (f : Nat) (ok : AV -> Prop) (rd : AV -> α) (p : α -> Bool) (pre : α -> Prop) (L : zaa) : zb4 := (f, fun xs => match xs with
 | [x] => some (L ok x /\ L pre (L rd x), .bool (L p (L rd x)))
 | _ => none)
def zz1 {α : Type} (f g : Nat) (ok : AV -> Prop) (rd : AV -> List α) (idx : List α -> Int) (pre : List α -> Prop) (L : zaa) : zb4 := (f, fun xs => match xs with
 | [x, .fn k [] []] => match zak k g with
   | true => some (L ok x /\ L zh6 (L rd x) /\ L pre (L rd x), .int .i64 (L idx (L rd x)))
   | false => none
 | _ => none)
def zz6 {α : Type} (f g : Nat) (ok : AV -> Prop) (rd : AV -> List α) (any : List α -> Bool) (pre : List α -> Prop) (L : zaa) : zb4 := (f, fun xs => match xs with
 | [x, .fn k [] []] => match zak k g with
   | true => some (L ok x /\ L zh6 (L rd x) /\ L pre (L rd x), .bool (L any (L rd x)))
   | false => none
 | _ => none)
def ixA {α : Type} (L : zaa) (none : List α -> Nat -> Prop) (l : List α) : Nat -> St -> Option Ann := fun id st => match id with
 | 0 => some ⟨Nat, fun i => [(8, .int .i64 (L zan i))], fun i => [], [0, 1, 6, 7], [],
     fun i => L2 L none l i, fun i => L2 L (fun (l : List α) (i : Nat) => l.length - i) l i⟩
 | _ => Option.none
theorem znb (a b : Int) : ile a b = decide (a <= b) := by simp [ile]
def zh4 (x : Ls) : Bool := decide (8 < x.rs.length)
def ziw (x : Cl) : Bool := decide (8 < x.es.length)
def zyi (x : Ep) : Bool := decide (x.w < 0)
def zz5 (x : Cl) : Bool := x.es.any zyi
def zxd (x : Ls) : Prop := True
def zxe (x : Cl) : Prop := True
def zxf (x : Ep) : Prop := True
def zsk (x : Cl) : Prop := zh6 x.es
theorem yna : zao Tryz.prog (prS 117 zl4 zhm zh4 zxd std) := by
 intro xs p r h hp
 dsimp only [prS] at h |-
 split at h <;> cases h
 try simp only [L2, L3, std] at hp |-
 rename_i x
 refine zpq zcw hp.1 ?_
 have hp := hp.2
 show za9 _ _ _ (.bool (zh4 (rdG lsV x)))
 have hp : zxd (rdG lsV x) := hp
 generalize rdG lsV x = y at hp |-
 refine za8 (T := tt) (S := noS) (lo := fun _ => noA std) (lb := noA) 5 (fn := Tryz.f117) (xs := fun L => [.agg [.str (L Ls.n y), .int .u8 (L Pl.a (L Ls.pl y)), .int .u8 (L Pl.b (L Ls.pl y)), .int .u8 (L Pl.c (L Ls.pl y)), .int .u8 (L Pl.d (L Ls.pl y)), .int .u16 (L Pl.p (L Ls.pl y)), zor L (L Ls.rs y)]]) rfl rfl (by kernel_rfl) (by kernel_rfl) rfl zab (zbh _) (by kernel_rfl) ?_
 intro L P' Q' hL hP hQ
 (cbv; try simp only [syT, true_and, and_true])
 (subst hL; subst hQ; simp only [L2, L3, std] at *; try simp only [syS, reduceCtorEq, Int.reduceToNat, Int.reduceAdd, Int.reduceSub] at *)
 show ilt 8 ((y.rs.length : Nat) : Int) = _
 simp only [ilt, zh4]
 congr 1
 simp
 omega
theorem ynb : zao Tryz.prog (prS 119 zgq zf6 ziw zxe std) := by
 intro xs p r h hp
 dsimp only [prS] at h |-
 split at h <;> cases h
 try simp only [L2, L3, std] at hp |-
 rename_i x
 refine zpq zbw hp.1 ?_
 have hp := hp.2
 show za9 _ _ _ (.bool (ziw (rdG clV x)))
 have hp : zxe (rdG clV x) := hp
 generalize rdG clV x = y at hp |-
 refine za8 (T := tt) (S := noS) (lo := fun _ => noA std) (lb := noA) 5 (fn := Tryz.f119) (xs := fun L => [.agg [.str (L Cl.n y), zgr L (L Cl.es y)]]) rfl rfl (by kernel_rfl) (by kernel_rfl) rfl zab (zbh _) (by kernel_rfl) ?_
 intro L P' Q' hL hP hQ
 (cbv; try simp only [syT, true_and, and_true])
 (subst hL; subst hQ; simp only [L2, L3, std] at *; try simp only [syS, reduceCtorEq, Int.reduceToNat, Int.reduceAdd, Int.reduceSub] at *)
 show ilt 8 ((y.es.length : Nat) : Int) = _
 simp only [ilt, ziw]
 congr 1
 simp
 omega
theorem yq6 : zao Tryz.prog (prS 121 zl5 zhn zyi zxf std) := by
 intro xs p r h hp
 dsimp only [prS] at h |-
 split at h <;> cases h
 try simp only [L2, L3, std] at hp |-
 rename_i x
 refine zpq zci hp.1 ?_
 have hp := hp.2
 show za9 _ _ _ (.bool (zyi (rdG epV x)))
 have hp : zxf (rdG epV x) := hp
 generalize rdG epV x = y at hp |-
 refine za8 (T := tt) (S := noS) (lo := fun _ => noA std) (lb := noA) 5 (fn := Tryz.f121) (xs := fun L => [.agg [.int .u8 (L Pl.a (L Ep.pl y)), .int .u8 (L Pl.b (L Ep.pl y)), .int .u8 (L Pl.c (L Ep.pl y)), .int .u8 (L Pl.d (L Ep.pl y)), .int .u16 (L Pl.p (L Ep.pl y)), .int .i64 (L Ep.w y)]]) rfl rfl (by kernel_rfl) (by kernel_rfl) rfl zab (zbh _) (by kernel_rfl) ?_
 intro L P' Q' hL hP hQ
 (cbv; try simp only [syT, true_and, and_true])
 (subst hL; subst hQ; simp only [L2, L3, std] at *; try simp only [syS, reduceCtorEq, Int.reduceToNat, Int.reduceAdd, Int.reduceSub] at *)
 simp [ilt, zyi]
def ytg (l : List Ls) : Int := zm9 zh4 l
def yiy (l : List Ls) : Bool := l.any zh4
def ysn (l : List Ls) (i : Nat) : Prop := zl7 zh4 l i
def zms (l : List Ls) : Prop := zz7 zxd l
theorem zxx (ih : zao Tryz.prog (prS 117 zl4 zhm zh4 zxd std)) : zao Tryz.prog (zz1 165 117 zoh zhl ytg zms std) := by
 intro xs p r h hp
 unfold zz1 at h
 simp only at h
 split at h
 rotate_left
 · cases h
 rename_i x k
 cases hk : zak k 117 with
 | false => rw [hk] at h; cases h
 | true =>
 rw [hk] at h
 obtain rfl : k = 117 := of_decide_eq_true hk
 cases h
 obtain ⟨ho, hz, ha⟩ := hp
 refine zju zcw ho ?_
 have hz : zh6 (rdW lsV x) := hz
 have ha : zms (rdW lsV x) := ha
 show za9 _ _ _ (.int .i64 (zm9 zh4 (rdW lsV x)))
 generalize rdW lsV x = l at hz ha |-
 refine za8 (T := tt) (S := fun L => zad [prS 117 zl4 zhm zh4 zxd L]) (lo := fun L => ixA L ysn l) (lb := noA) 5 (fn := Tryz.f165) (xs := fun L => [zfn L l, .fn 117 [] []]) rfl rfl (by kernel_rfl) (by kernel_rfl) rfl zab
   (za1 ⟨ih, trivial⟩) (by kernel_rfl) ?_
 intro L P' Q' hL hP hQ
 (cbv; try simp only [syT, true_and, and_true])
 refine ⟨⟨0, ?_⟩, fun i hi => ?_⟩
 · (cbv; try simp only [syT, true_and, and_true])
   (subst hL; subst hQ; simp only [L2, L3, std] at *; try simp only [syS, reduceCtorEq, Int.reduceToNat, Int.reduceAdd, Int.reduceSub] at *)
   exact zit _ _
 · cbv at hi
   have hG : ∀ y : Ls, L zhm (.agg [.str (L Ls.n y), .int .u8 (L Pl.a (L Ls.pl y)), .int .u8 (L Pl.b (L Ls.pl y)), .int .u8 (L Pl.c (L Ls.pl y)), .int .u8 (L Pl.d (L Ls.pl y)), .int .u16 (L Pl.p (L Ls.pl y)), .lst 4 (L zb3 (L Ls.rs y)) (fun i => rtC L (L (L zen (L Ls.rs y)) i))]) = y := by subst hL; exact fun y => (gK zcw y _ rfl).2
   have hO : ∀ y : Ls, L zl4 (.agg [.str (L Ls.n y), .int .u8 (L Pl.a (L Ls.pl y)), .int .u8 (L Pl.b (L Ls.pl y)), .int .u8 (L Pl.c (L Ls.pl y)), .int .u8 (L Pl.d (L Ls.pl y)), .int .u16 (L Pl.p (L Ls.pl y)), .lst 4 (L zb3 (L Ls.rs y)) (fun i => rtC L (L (L zen (L Ls.rs y)) i))]) := by subst hL; exact fun y => (gK zcw y _ rfl).1
   (cbv; try simp only [syT, true_and, and_true])
   simp only [hG, hO, true_and]
   have hw : zb3 l = l.length := rfl
   have hz : l.length <= 1000000 := hz
   refine ⟨fun hlt => ⟨?_, ?_, fun hb => ?_, fun hb => ⟨i + 1, ?_⟩⟩, fun hge => ?_⟩
   · (subst hL; subst hQ; simp only [L2, L3, std] at *; try simp only [syS, reduceCtorEq, Int.reduceToNat, Int.reduceAdd, Int.reduceSub] at *)
     omega
   · (subst hL; subst hQ; simp only [L2, L3, std] at *; try simp only [syS, reduceCtorEq, Int.reduceToNat, Int.reduceAdd, Int.reduceSub] at *)
     exact ha _ (by rw [zap, zb2 (V := lsV) (by omega)]; exact List.getElem_mem _)
   · (subst hL; subst hQ; simp only [L2, L3, std] at *; try simp only [syS, reduceCtorEq, Int.reduceToNat, Int.reduceAdd, Int.reduceSub] at *)
     exact (zeo (V := lsV) hi (by omega) hb).symm
   · (cbv; try simp only [syT, true_and, and_true])
     try simp only [hG]
     (subst hL; subst hQ; simp only [L2, L3, std] at *; try simp only [syS, reduceCtorEq, Int.reduceToNat, Int.reduceAdd, Int.reduceSub] at *)
     exact ⟨by omega, zdo (V := lsV) hi (by omega) hb, by omega⟩
   · (subst hL; subst hQ; simp only [L2, L3, std] at *; try simp only [syS, reduceCtorEq, Int.reduceToNat, Int.reduceAdd, Int.reduceSub] at *)
     exact (zep hi (by omega)).symm
theorem zys (ih : zao Tryz.prog (prS 117 zl4 zhm zh4 zxd std)) : zao Tryz.prog (zz6 116 117 zoh zhl yiy zms std) := by
 intro xs p r h hp
 unfold zz6 at h
 simp only at h
 split at h
 rotate_left
 · cases h
 rename_i x k
 cases hk : zak k 117 with
 | false => rw [hk] at h; cases h
 | true =>
 rw [hk] at h
 obtain rfl : k = 117 := of_decide_eq_true hk
 cases h
 obtain ⟨ho, hz, ha⟩ := hp
 refine zju zcw ho ?_
 have hz : zh6 (rdW lsV x) := hz
 have ha : zms (rdW lsV x) := ha
 show za9 _ _ _ (.bool (yiy (rdW lsV x)))
 generalize rdW lsV x = l at hz ha |-
 refine za8 (T := tt) (S := fun L => zad [zz1 165 117 zoh zhl ytg zms L]) (lo := fun _ => noA std) (lb := noA) 5 (fn := Tryz.f116) (xs := fun L => [zfn L l, .fn 117 [] []]) rfl rfl (by kernel_rfl) (by kernel_rfl) rfl zab
   (za1 ⟨zxx ih, trivial⟩) (by kernel_rfl) ?_
 intro L P' Q' hL hP hQ
 (cbv; try simp only [syT, true_and, and_true])
 (subst hL; subst hQ; simp only [L2, L3, std] at *; try simp only [syS, reduceCtorEq, Int.reduceToNat, Int.reduceAdd, Int.reduceSub] at *)
 simp only [ymg]
 refine ⟨⟨ymy _, hz, ha⟩, ?_⟩
 have := zfd zh4 l
 rw [znb, show yiy l = l.any zh4 from rfl, <- this]; rfl
def yth (l : List Cl) : Int := zm9 ziw l
def yiz (l : List Cl) : Bool := l.any ziw
def yso (l : List Cl) (i : Nat) : Prop := zl7 ziw l i
def zmt (l : List Cl) : Prop := zz7 zxe l
theorem zxy (ih : zao Tryz.prog (prS 119 zgq zf6 ziw zxe std)) : zao Tryz.prog (zz1 166 119 zir zfm yth zmt std) := by
 intro xs p r h hp
 unfold zz1 at h
 simp only at h
 split at h
 rotate_left
 · cases h
 rename_i x k
 cases hk : zak k 119 with
 | false => rw [hk] at h; cases h
 | true =>
 rw [hk] at h
 obtain rfl : k = 119 := of_decide_eq_true hk
 cases h
 obtain ⟨ho, hz, ha⟩ := hp
 refine zju zbw ho ?_
 have hz : zh6 (rdW clV x) := hz
 have ha : zmt (rdW clV x) := ha
 show za9 _ _ _ (.int .i64 (zm9 ziw (rdW clV x)))
 generalize rdW clV x = l at hz ha |-
 refine za8 (T := tt) (S := fun L => zad [prS 119 zgq zf6 ziw zxe L]) (lo := fun L => ixA L yso l) (lb := noA) 5 (fn := Tryz.f166) (xs := fun L => [zes L l, .fn 119 [] []]) rfl rfl (by kernel_rfl) (by kernel_rfl) rfl zab
   (za1 ⟨ih, trivial⟩) (by kernel_rfl) ?_
 intro L P' Q' hL hP hQ
 (cbv; try simp only [syT, true_and, and_true])
 refine ⟨⟨0, ?_⟩, fun i hi => ?_⟩
 · (cbv; try simp only [syT, true_and, and_true])
   (subst hL; subst hQ; simp only [L2, L3, std] at *; try simp only [syS, reduceCtorEq, Int.reduceToNat, Int.reduceAdd, Int.reduceSub] at *)
   exact zit _ _
 · cbv at hi
   have hG : ∀ y : Cl, L zf6 (.agg [.str (L Cl.n y), .lst 6 (L zb3 (L Cl.es y)) (fun i => epC L (L (L zdw (L Cl.es y)) i))]) = y := by subst hL; exact fun y => (gK zbw y _ rfl).2
   have hO : ∀ y : Cl, L zgq (.agg [.str (L Cl.n y), .lst 6 (L zb3 (L Cl.es y)) (fun i => epC L (L (L zdw (L Cl.es y)) i))]) := by subst hL; exact fun y => (gK zbw y _ rfl).1
   (cbv; try simp only [syT, true_and, and_true])
   simp only [hG, hO, true_and]
   have hw : zb3 l = l.length := rfl
   have hz : l.length <= 1000000 := hz
   refine ⟨fun hlt => ⟨?_, ?_, fun hb => ?_, fun hb => ⟨i + 1, ?_⟩⟩, fun hge => ?_⟩
   · (subst hL; subst hQ; simp only [L2, L3, std] at *; try simp only [syS, reduceCtorEq, Int.reduceToNat, Int.reduceAdd, Int.reduceSub] at *)
     omega
   · (subst hL; subst hQ; simp only [L2, L3, std] at *; try simp only [syS, reduceCtorEq, Int.reduceToNat, Int.reduceAdd, Int.reduceSub] at *)
     exact ha _ (by rw [zar, zb2 (V := clV) (by omega)]; exact List.getElem_mem _)
   · (subst hL; subst hQ; simp only [L2, L3, std] at *; try simp only [syS, reduceCtorEq, Int.reduceToNat, Int.reduceAdd, Int.reduceSub] at *)
     exact (zeo (V := clV) hi (by omega) hb).symm
   · (cbv; try simp only [syT, true_and, and_true])
     try simp only [hG]
     (subst hL; subst hQ; simp only [L2, L3, std] at *; try simp only [syS, reduceCtorEq, Int.reduceToNat, Int.reduceAdd, Int.reduceSub] at *)
     exact ⟨by omega, zdo (V := clV) hi (by omega) hb, by omega⟩
   · (subst hL; subst hQ; simp only [L2, L3, std] at *; try simp only [syS, reduceCtorEq, Int.reduceToNat, Int.reduceAdd, Int.reduceSub] at *)
     exact (zep hi (by omega)).symm
theorem zyt (ih : zao Tryz.prog (prS 119 zgq zf6 ziw zxe std)) : zao Tryz.prog (zz6 118 119 zir zfm yiz zmt std) := by
 intro xs p r h hp
 unfold zz6 at h
 simp only at h
 split at h
 rotate_left
 · cases h
 rename_i x k
 cases hk : zak k 119 with
 | false => rw [hk] at h; cases h
 | true =>
 rw [hk] at h
 obtain rfl : k = 119 := of_decide_eq_true hk
 cases h
 obtain ⟨ho, hz, ha⟩ := hp
 refine zju zbw ho ?_
 have hz : zh6 (rdW clV x) := hz
 have ha : zmt (rdW clV x) := ha
 show za9 _ _ _ (.bool (yiz (rdW clV x)))
 generalize rdW clV x = l at hz ha |-
 refine za8 (T := tt) (S := fun L => zad [zz1 166 119 zir zfm yth zmt L]) (lo := fun _ => noA std) (lb := noA) 5 (fn := Tryz.f118) (xs := fun L => [zes L l, .fn 119 [] []]) rfl rfl (by kernel_rfl) (by kernel_rfl) rfl zab
   (za1 ⟨zxy ih, trivial⟩) (by kernel_rfl) ?_
 intro L P' Q' hL hP hQ
 (cbv; try simp only [syT, true_and, and_true])
 (subst hL; subst hQ; simp only [L2, L3, std] at *; try simp only [syS, reduceCtorEq, Int.reduceToNat, Int.reduceAdd, Int.reduceSub] at *)
 simp only [yat]
 refine ⟨⟨ybf _, hz, ha⟩, ?_⟩
 have := zfd ziw l
 rw [znb, show yiz l = l.any ziw from rfl, <- this]; rfl
def yti (l : List Ep) : Int := zm9 zyi l
def yj0 (l : List Ep) : Bool := l.any zyi
def ysp (l : List Ep) (i : Nat) : Prop := zl7 zyi l i
def zmu (l : List Ep) : Prop := zz7 zxf l
theorem zxz (ih : zao Tryz.prog (prS 121 zl5 zhn zyi zxf std)) : zao Tryz.prog (zz1 147 121 zjo zgp yti zmu std) := by
 intro xs p r h hp
 unfold zz1 at h
 simp only at h
 split at h
 rotate_left
 · cases h
 rename_i x k
 cases hk : zak k 121 with
 | false => rw [hk] at h; cases h
 | true =>
 rw [hk] at h
 obtain rfl : k = 121 := of_decide_eq_true hk
 cases h
 obtain ⟨ho, hz, ha⟩ := hp
 refine zju zci ho ?_
 have hz : zh6 (rdW epV x) := hz
 have ha : zmu (rdW epV x) := ha
 show za9 _ _ _ (.int .i64 (zm9 zyi (rdW epV x)))
 generalize rdW epV x = l at hz ha |-
 refine za8 (T := tt) (S := fun L => zad [prS 121 zl5 zhn zyi zxf L]) (lo := fun L => ixA L ysp l) (lb := noA) 5 (fn := Tryz.f147) (xs := fun L => [zgr L l, .fn 121 [] []]) rfl rfl (by kernel_rfl) (by kernel_rfl) rfl zab
   (za1 ⟨ih, trivial⟩) (by kernel_rfl) ?_
 intro L P' Q' hL hP hQ
 (cbv; try simp only [syT, true_and, and_true])
 refine ⟨⟨0, ?_⟩, fun i hi => ?_⟩
 · (cbv; try simp only [syT, true_and, and_true])
   (subst hL; subst hQ; simp only [L2, L3, std] at *; try simp only [syS, reduceCtorEq, Int.reduceToNat, Int.reduceAdd, Int.reduceSub] at *)
   exact zit _ _
 · cbv at hi
   have hG : ∀ y : Ep, L zhn (.agg [.int .u8 (L Pl.a (L Ep.pl y)), .int .u8 (L Pl.b (L Ep.pl y)), .int .u8 (L Pl.c (L Ep.pl y)), .int .u8 (L Pl.d (L Ep.pl y)), .int .u16 (L Pl.p (L Ep.pl y)), .int .i64 (L Ep.w y)]) = y := by subst hL; exact fun y => (gK zci y _ rfl).2
   have hO : ∀ y : Ep, L zl5 (.agg [.int .u8 (L Pl.a (L Ep.pl y)), .int .u8 (L Pl.b (L Ep.pl y)), .int .u8 (L Pl.c (L Ep.pl y)), .int .u8 (L Pl.d (L Ep.pl y)), .int .u16 (L Pl.p (L Ep.pl y)), .int .i64 (L Ep.w y)]) := by subst hL; exact fun y => (gK zci y _ rfl).1
   (cbv; try simp only [syT, true_and, and_true])
   simp only [hG, hO, true_and]
   have hw : zb3 l = l.length := rfl
   have hz : l.length <= 1000000 := hz
   refine ⟨fun hlt => ⟨?_, ?_, fun hb => ?_, fun hb => ⟨i + 1, ?_⟩⟩, fun hge => ?_⟩
   · (subst hL; subst hQ; simp only [L2, L3, std] at *; try simp only [syS, reduceCtorEq, Int.reduceToNat, Int.reduceAdd, Int.reduceSub] at *)
     omega
   · (subst hL; subst hQ; simp only [L2, L3, std] at *; try simp only [syS, reduceCtorEq, Int.reduceToNat, Int.reduceAdd, Int.reduceSub] at *)
     exact ha _ (by rw [zdw, zb2 (V := epV) (by omega)]; exact List.getElem_mem _)
   · (subst hL; subst hQ; simp only [L2, L3, std] at *; try simp only [syS, reduceCtorEq, Int.reduceToNat, Int.reduceAdd, Int.reduceSub] at *)
     exact (zeo (V := epV) hi (by omega) hb).symm
   · (cbv; try simp only [syT, true_and, and_true])
     try simp only [hG]
     (subst hL; subst hQ; simp only [L2, L3, std] at *; try simp only [syS, reduceCtorEq, Int.reduceToNat, Int.reduceAdd, Int.reduceSub] at *)
     exact ⟨by omega, zdo (V := epV) hi (by omega) hb, by omega⟩
   · (subst hL; subst hQ; simp only [L2, L3, std] at *; try simp only [syS, reduceCtorEq, Int.reduceToNat, Int.reduceAdd, Int.reduceSub] at *)
     exact (zep hi (by omega)).symm
theorem zyu (ih : zao Tryz.prog (prS 121 zl5 zhn zyi zxf std)) : zao Tryz.prog (zz6 99 121 zjo zgp yj0 zmu std) := by
 intro xs p r h hp
 unfold zz6 at h
 simp only at h
 split at h
 rotate_left
 · cases h
 rename_i x k
 cases hk : zak k 121 with
 | false => rw [hk] at h; cases h
 | true =>
 rw [hk] at h
 obtain rfl : k = 121 := of_decide_eq_true hk
 cases h
 obtain ⟨ho, hz, ha⟩ := hp
 refine zju zci ho ?_
 have hz : zh6 (rdW epV x) := hz
 have ha : zmu (rdW epV x) := ha
 show za9 _ _ _ (.bool (yj0 (rdW epV x)))
 generalize rdW epV x = l at hz ha |-
 refine za8 (T := tt) (S := fun L => zad [zz1 147 121 zjo zgp yti zmu L]) (lo := fun _ => noA std) (lb := noA) 5 (fn := Tryz.f99) (xs := fun L => [zgr L l, .fn 121 [] []]) rfl rfl (by kernel_rfl) (by kernel_rfl) rfl zab
   (za1 ⟨zxz ih, trivial⟩) (by kernel_rfl) ?_
 intro L P' Q' hL hP hQ
 (cbv; try simp only [syT, true_and, and_true])
 (subst hL; subst hQ; simp only [L2, L3, std] at *; try simp only [syS, reduceCtorEq, Int.reduceToNat, Int.reduceAdd, Int.reduceSub] at *)
 simp only [yas]
 refine ⟨⟨ybe _, hz, ha⟩, ?_⟩
 have := zfd zyi l
 rw [znb, show yj0 l = l.any zyi from rfl, <- this]; rfl
theorem yq7 : zao Tryz.prog (prS 120 zgq zf6 zz5 zsk std) := by
 intro xs p r h hp
 dsimp only [prS] at h |-
 split at h <;> cases h
 try simp only [L2, L3, std] at hp |-
 rename_i x
 refine zpq zbw hp.1 ?_
 have hp := hp.2
 show za9 _ _ _ (.bool (zz5 (rdG clV x)))
 have hp : zsk (rdG clV x) := hp
 generalize rdG clV x = y at hp |-
 refine za8 (T := tt) (S := fun L => zad [zz6 99 121 zjo zgp yj0 zmu L]) (lo := fun _ => noA std) (lb := noA) 5 (fn := Tryz.f120) (xs := fun L => [.agg [.str (L Cl.n y), zgr L (L Cl.es y)]]) rfl rfl (by kernel_rfl) (by kernel_rfl) rfl zab (za1 ⟨zyu yq6, trivial⟩) (by kernel_rfl) ?_
 intro L P' Q' hL hP hQ
 (cbv; try simp only [syT, true_and, and_true])
 (subst hL; subst hQ; simp only [L2, L3, std] at *; try simp only [syS, reduceCtorEq, Int.reduceToNat, Int.reduceAdd, Int.reduceSub] at *)
 simp only [yas]
 exact ⟨⟨ybe _, hp, fun _ _ => trivial⟩, rfl⟩
def ytj (l : List Cl) : Int := zm9 zz5 l
def yj1 (l : List Cl) : Bool := l.any zz5
def ysq (l : List Cl) (i : Nat) : Prop := zl7 zz5 l i
def zmv (l : List Cl) : Prop := zz7 zsk l
theorem zy0 (ih : zao Tryz.prog (prS 120 zgq zf6 zz5 zsk std)) : zao Tryz.prog (zz1 166 120 zir zfm ytj zmv std) := by
 intro xs p r h hp
 unfold zz1 at h
 simp only at h
 split at h
 rotate_left
 · cases h
 rename_i x k
 cases hk : zak k 120 with
 | false => rw [hk] at h; cases h
 | true =>
 rw [hk] at h
 obtain rfl : k = 120 := of_decide_eq_true hk
 cases h
 obtain ⟨ho, hz, ha⟩ := hp
 refine zju zbw ho ?_
 have hz : zh6 (rdW clV x) := hz
 have ha : zmv (rdW clV x) := ha
 show za9 _ _ _ (.int .i64 (zm9 zz5 (rdW clV x)))
 generalize rdW clV x = l at hz ha |-
 refine za8 (T := tt) (S := fun L => zad [prS 120 zgq zf6 zz5 zsk L]) (lo := fun L => ixA L ysq l) (lb := noA) 5 (fn := Tryz.f166) (xs := fun L => [zes L l, .fn 120 [] []]) rfl rfl (by kernel_rfl) (by kernel_rfl) rfl zab
   (za1 ⟨ih, trivial⟩) (by kernel_rfl) ?_
 intro L P' Q' hL hP hQ
 (cbv; try simp only [syT, true_and, and_true])
 refine ⟨⟨0, ?_⟩, fun i hi => ?_⟩
 · (cbv; try simp only [syT, true_and, and_true])
   (subst hL; subst hQ; simp only [L2, L3, std] at *; try simp only [syS, reduceCtorEq, Int.reduceToNat, Int.reduceAdd, Int.reduceSub] at *)
   exact zit _ _
 · cbv at hi
   have hG : ∀ y : Cl, L zf6 (.agg [.str (L Cl.n y), .lst 6 (L zb3 (L Cl.es y)) (fun i => epC L (L (L zdw (L Cl.es y)) i))]) = y := by subst hL; exact fun y => (gK zbw y _ rfl).2
   have hO : ∀ y : Cl, L zgq (.agg [.str (L Cl.n y), .lst 6 (L zb3 (L Cl.es y)) (fun i => epC L (L (L zdw (L Cl.es y)) i))]) := by subst hL; exact fun y => (gK zbw y _ rfl).1
   (cbv; try simp only [syT, true_and, and_true])
   simp only [hG, hO, true_and]
   have hw : zb3 l = l.length := rfl
   have hz : l.length <= 1000000 := hz
   refine ⟨fun hlt => ⟨?_, ?_, fun hb => ?_, fun hb => ⟨i + 1, ?_⟩⟩, fun hge => ?_⟩
   · (subst hL; subst hQ; simp only [L2, L3, std] at *; try simp only [syS, reduceCtorEq, Int.reduceToNat, Int.reduceAdd, Int.reduceSub] at *)
     omega
   · (subst hL; subst hQ; simp only [L2, L3, std] at *; try simp only [syS, reduceCtorEq, Int.reduceToNat, Int.reduceAdd, Int.reduceSub] at *)
     exact ha _ (by rw [zar, zb2 (V := clV) (by omega)]; exact List.getElem_mem _)
   · (subst hL; subst hQ; simp only [L2, L3, std] at *; try simp only [syS, reduceCtorEq, Int.reduceToNat, Int.reduceAdd, Int.reduceSub] at *)
     exact (zeo (V := clV) hi (by omega) hb).symm
   · (cbv; try simp only [syT, true_and, and_true])
     try simp only [hG]
     (subst hL; subst hQ; simp only [L2, L3, std] at *; try simp only [syS, reduceCtorEq, Int.reduceToNat, Int.reduceAdd, Int.reduceSub] at *)
     exact ⟨by omega, zdo (V := clV) hi (by omega) hb, by omega⟩
   · (subst hL; subst hQ; simp only [L2, L3, std] at *; try simp only [syS, reduceCtorEq, Int.reduceToNat, Int.reduceAdd, Int.reduceSub] at *)
     exact (zep hi (by omega)).symm
theorem zyv (ih : zao Tryz.prog (prS 120 zgq zf6 zz5 zsk std)) : zao Tryz.prog (zz6 118 120 zir zfm yj1 zmv std) := by
 intro xs p r h hp
 unfold zz6 at h
 simp only at h
 split at h
 rotate_left
 · cases h
 rename_i x k
 cases hk : zak k 120 with
 | false => rw [hk] at h; cases h
 | true =>
 rw [hk] at h
 obtain rfl : k = 120 := of_decide_eq_true hk
 cases h
 obtain ⟨ho, hz, ha⟩ := hp
 refine zju zbw ho ?_
 have hz : zh6 (rdW clV x) := hz
 have ha : zmv (rdW clV x) := ha
 show za9 _ _ _ (.bool (yj1 (rdW clV x)))
 generalize rdW clV x = l at hz ha |-
 refine za8 (T := tt) (S := fun L => zad [zz1 166 120 zir zfm ytj zmv L]) (lo := fun _ => noA std) (lb := noA) 5 (fn := Tryz.f118) (xs := fun L => [zes L l, .fn 120 [] []]) rfl rfl (by kernel_rfl) (by kernel_rfl) rfl zab
   (za1 ⟨zy0 ih, trivial⟩) (by kernel_rfl) ?_
 intro L P' Q' hL hP hQ
 (cbv; try simp only [syT, true_and, and_true])
 (subst hL; subst hQ; simp only [L2, L3, std] at *; try simp only [syS, reduceCtorEq, Int.reduceToNat, Int.reduceAdd, Int.reduceSub] at *)
 simp only [yat]
 refine ⟨⟨ybf _, hz, ha⟩, ?_⟩
 have := zfd zz5 l
 rw [znb, show yj1 l = l.any zz5 from rfl, <- this]; rfl
end Sy
end Go.Proofs.YthppjaoicibeiaaGreatDoor
namespace Go.Proofs.YthppjaoicibeiaaGreatDoor
namespace Sy
open Go Go.RowKit
set_option maxRecDepth 100000
set_option linter.unusedSimpArgs false
set_option linter.unusedVariables false
structure zu4 (v : CV) (a b : Nat) : Prop where
 wf : wfV v
 sz : sizeC v <= a
 tx : (zbn v).length <= b
theorem zu4.up {v : CV} {a b a' b' : Nat} (h : zu4 v a b) (ha : a <= a') (hb : b <= b') : zu4 v a' b' := ⟨h.wf, by have := h.sz; omega, by have := h.tx; omega⟩
theorem zt8 {n : Int} (h : zcl n) : zu4 (zfw n) 1 11 := by
 refine ⟨?_, ?_, ?_⟩
 · rw [zfw, wfV, zu7]; exact ⟨h, by decide, trivial⟩
 · rw [zfw, zck, zcf]; omega
 · rw [zfw, zai, if_pos rfl, List.length_append]
   have := zij h
   have e : (zfo 1).length = 1 := rfl
   omega
theorem zha {s : List UInt8} {m : Nat} (h : s.length <= m) (hm : m <= 1000000) : zu4 (zif s) 1 (11 + m) := by
 refine ⟨?_, ?_, ?_⟩
 · rw [zif, wfV, zu7]; exact ⟨⟨by decide, by decide⟩, by omega, trivial⟩
 · rw [zif, zck, zcf]; omega
 · rw [zif, zai, if_neg (by decide), if_pos rfl, List.length_append, List.length_append]
   have := zij (n := (s.length : Int)) ⟨by omega, by omega⟩
   have e : (zfo 2).length = 1 := rfl
   omega
theorem yk8 {a b : Nat} : ∀ {l : List CV}, (∀ v ∈ l, zu4 v a b) -> zu7 l /\ sizeCs l <= l.length * a /\ (zav l).length <= l.length * b
 | [], _ => by rw [zu7, zcf, zav]; exact ⟨trivial, by simp, by simp⟩
 | v :: l, h => by
   obtain ⟨i1, i2, i3⟩ := yk8 (l := l) fun w hw => h w (by simp [hw])
   have hv := h v (by simp)
   have h2 := hv.sz
   have h3 := hv.tx
   rw [zu7, zbk, zav, List.length_append, List.length_cons, Nat.succ_mul, Nat.succ_mul]
   exact ⟨⟨hv.wf, i1⟩, by omega, by omega⟩
theorem zj4 {l : List CV} {a b : Nat} (m : Nat) (h : ∀ v ∈ l, zu4 v a b) (hl : l.length <= m) (hm : m <= 1000) : zu4 (zd3 l) (m * a + 1) (11 + m * b) := by
 obtain ⟨i1, i2, i3⟩ := yk8 h
 have e1 := Nat.mul_le_mul_right a hl
 have e2 := Nat.mul_le_mul_right b hl
 refine ⟨?_, ?_, ?_⟩
 · rw [zd3, wfV]; exact ⟨⟨by decide, by decide⟩, by decide, i1⟩
 · rw [zd3, zck]; omega
 · rw [zd3, zai, if_neg (by decide), if_neg (by decide), List.length_append, List.length_append]
   have := zij (n := (l.length : Int)) ⟨by omega, by omega⟩
   have e : (zfo 3).length = 1 := rfl
   omega
def zle (x : Rt) : Bool := decide (x.h.length <= 300) && decide (x.p.length <= 300) && decide (x.c.length <= 300)
def zn3 (x : Ls) : Bool := decide (x.n.length <= 300) && decide (x.rs.length <= 12) && x.rs.all zle
def zn4 (x : Cl) : Bool := decide (x.n.length <= 300) && decide (x.es.length <= 12)
def zde (x : Cf) : Bool := decide (x.ls.length <= 12) && decide (x.cs.length <= 12) && x.ls.all zn3 && x.cs.all zn4
def wfRt (x : Rt) : Prop := zcl x.i
def wfEp (x : Ep) : Prop := zz0 x.pl /\ -9223372036854775808 <= x.w /\ x.w <= 9223372036854775807
def yr5 (x : Ls) : Prop := zz0 x.pl /\ ∀ r ∈ x.rs, wfRt r
def wfCl (x : Cl) : Prop := ∀ e ∈ x.es, wfEp e
def wfCf (x : Cf) : Prop := zcl x.v /\ (∀ l ∈ x.ls, yr5 l) /\ ∀ c ∈ x.cs, wfCl c
def zjt (x : Cf) : CV := zd3 [zfw x.v, yby x.ls, ydp x.cs]
theorem yaz (x : Pl) : (plB x).length = 6 := rfl
theorem ytp {x : Rt} (hl : zle x = true) (hw : wfRt x) : zu4 (zhk x) 5 1255 := by
 simp only [zle, Bool.and_eq_true, decide_eq_true_eq] at hl
 refine zj4 (a := 1) (b := 311) 4 (fun v hv => ?_) (Nat.le_of_ble_eq_true rfl) (by decide)
 simp only [List.mem_cons, List.not_mem_nil, or_false] at hv
 rcases hv with rfl | rfl | rfl | rfl
 · exact zha hl.1.1 (by omega)
 · exact zha hl.1.2 (by omega)
 · exact zha hl.2 (by omega)
 · exact (zt8 hw).up (by omega) (by omega)
theorem zk8 {α : Type} {val : α -> CV} {l : List α} {a b : Nat} (m : Nat) (h : ∀ x ∈ l, zu4 (val x) a b) (hl : l.length <= m) (hm : m <= 1000) : zu4 (zpe val l) (m * a + 1) (11 + m * b) :=
 zj4 m (fun v hv => by obtain ⟨x, hx, rfl⟩ := List.mem_map.1 hv; exact h x hx) (by simpa using hl) hm
theorem ytq {x : Ep} (hw : wfEp x) : zu4 (zi2 x) 3 45 := by
 refine zj4 (a := 1) (b := 17) 2 (fun v hv => ?_) (Nat.le_of_ble_eq_true rfl) (by decide)
 simp only [List.mem_cons, List.not_mem_nil, or_false] at hv
 rcases hv with rfl | rfl
 · exact zha (m := 6) (Nat.le_of_eq (yaz _)) (by omega)
 · exact (zt8 ⟨by omega, by omega⟩).up (by omega) (by omega)
theorem yoo {x : Ls} (hl : zn3 x = true) (hw : yr5 x) : zu4 (ziy x) 184 45224 := by
 simp only [zn3, Bool.and_eq_true, decide_eq_true_eq, List.all_eq_true] at hl
 refine zj4 (a := 61) (b := 15071) 3 (fun v hv => ?_) (Nat.le_of_ble_eq_true rfl) (by decide)
 simp only [List.mem_cons, List.not_mem_nil, or_false] at hv
 rcases hv with rfl | rfl | rfl
 · exact (zha hl.1.1 (by omega)).up (by omega) (by omega)
 · exact (zha (m := 6) (Nat.le_of_eq (yaz _)) (by omega)).up (by omega) (by omega)
 · exact (zk8 (a := 5) (b := 1255) 12 (fun r hr => ytp (hl.2 r hr) (hw.2 r hr)) hl.1.2 (by omega)).up (by omega) (by omega)
theorem ytr {x : Cl} (hl : zn4 x = true) (hw : wfCl x) : zu4 (zj7 x) 75 1113 := by
 simp only [zn4, Bool.and_eq_true, decide_eq_true_eq] at hl
 refine zj4 (a := 37) (b := 551) 2 (fun v hv => ?_) (Nat.le_of_ble_eq_true rfl) (by decide)
 simp only [List.mem_cons, List.not_mem_nil, or_false] at hv
 rcases hv with rfl | rfl
 · exact (zha hl.1 (by omega)).up (by omega) (by omega)
 · exact (zk8 (a := 3) (b := 45) 12 (fun e he => ytq (hw e he)) hl.2 (by omega)).up (by omega) (by omega)
theorem yts {x : Cf} (hl : zde x = true) (hw : wfCf x) : zu4 (zjt x) 7000 2000000 := by
 simp only [zde, Bool.and_eq_true, decide_eq_true_eq, List.all_eq_true] at hl
 refine (zj4 (a := 2209) (b := 542699) 3 (fun v hv => ?_) (Nat.le_of_ble_eq_true rfl) (by decide)).up (by decide) (by decide)
 simp only [List.mem_cons, List.not_mem_nil, or_false] at hv
 rcases hv with rfl | rfl | rfl
 · exact (zt8 hw.1).up (by omega) (by omega)
 · exact (zk8 (a := 184) (b := 45224) 12 (fun r hr => yoo (hl.1.2 r hr) (hw.2.1 r hr)) hl.1.1.1 (by omega)).up (by omega) (by omega)
 · exact (zk8 (a := 75) (b := 1113) 12 (fun r hr => ytr (hl.2 r hr) (hw.2.2 r hr)) hl.1.1.2 (by omega)).up (by omega) (by omega)
def zsu (x : Cf) : Bool := decide (8 < x.ls.length \/ 8 < x.cs.length) || x.ls.any zh4 || x.cs.any ziw
def yvv (x : Cf) : Bool := x.cs.any zz5
def cfE (x : Cf) : Int := if zsu x = true then 6 else if yvv x = true then 7 else zqb (zjt x)
def cfT (x : Cf) : List UInt8 := if cfE x = 0 then zx9 (zjt x) else []
end Sy
end Go.Proofs.YthppjaoicibeiaaGreatDoor
namespace Go.Proofs.YthppjaoicibeiaaGreatDoor
namespace Sy
open Go Go.RowKit
set_option maxRecDepth 100000
set_option linter.unusedSimpArgs false
set_option linter.unusedVariables false
theorem lit3 (a b c : CV) : rdL (.lst 4 3 fun i j => zbm .dead [.int .i64 a.kd, .int .u64 a.nn, .str a.tx, .lst 4 (zm8 a) (zkd a), .int .i64 b.kd, .int .u64 b.nn, .str b.tx, .lst 4 (zm8 b) (zkd b), .int .i64 c.kd, .int .u64 c.nn, .str c.tx, .lst 4 (zm8 c) (zkd c)] (i * 4 + j)) = [a, b, c] := (zlx [a, b, c] (n := 3) rfl rfl).1
theorem ynf (a b c : CV) : okL (.lst 4 3 fun i j => zbm .dead [.int .i64 a.kd, .int .u64 a.nn, .str a.tx, .lst 4 (zm8 a) (zkd a), .int .i64 b.kd, .int .u64 b.nn, .str b.tx, .lst 4 (zm8 b) (zkd b), .int .i64 c.kd, .int .u64 c.nn, .str c.tx, .lst 4 (zm8 c) (zkd c)] (i * 4 + j)) := (zlx [a, b, c] (n := 3) rfl rfl).2
def ysz (n : Nat) (x : Cf) : Prop := x.ls.length <= n /\ x.cs.length <= n
def ymp (x : Cf) : Prop := ysz 1000000 x
def ymq (x : Cf) : Prop := zh6 x.cs /\ ∀ c ∈ x.cs, zsk c
theorem zxq : zao Tryz.prog (prS 73 zfv zat zsu ymp std) := by
 intro xs p r h hp
 dsimp only [prS] at h |-
 split at h <;> cases h
 try simp only [L2, L3, std] at hp |-
 rename_i x
 refine zpq zcx hp.1 ?_
 have hp := hp.2
 show za9 _ _ _ (.bool (zsu (rdG cfV x)))
 have hp : ymp (rdG cfV x) := hp
 generalize rdG cfV x = y at hp |-
 refine za8 (T := tt) (S := fun L => zad [zz6 116 117 zoh zhl yiy zms L, zz6 118 119 zir zfm yiz zmt L]) (lo := fun _ => noA std) (lb := noA) 5 (fn := Tryz.f73) (xs := fun L => [.agg [.int .u64 (L Cf.v y), zfn L (L Cf.ls y), zes L (L Cf.cs y)]]) rfl rfl (by kernel_rfl) (by kernel_rfl) rfl zab (za1 ⟨zys yna, zyt ynb, trivial⟩) (by kernel_rfl) ?_
 intro L P' Q' hL hP hQ
 (cbv; try simp only [syT, true_and, and_true])
 (subst hL; subst hQ; simp only [L2, L3, std] at *; try simp only [syS, reduceCtorEq, Int.reduceToNat, Int.reduceAdd, Int.reduceSub] at *)
 simp only [ymg, yat]
 have e1 : zb3 y.ls = y.ls.length := rfl
 have e2 : zb3 y.cs = y.cs.length := rfl
 refine ⟨fun h => ?_, fun h => ⟨⟨ymy _, hp.1, fun _ _ => trivial⟩, fun h2 => ?_, fun h2 => ⟨⟨ybf _, hp.2, fun _ _ => trivial⟩, ?_⟩⟩⟩
 · unfold zsu; rw [decide_eq_true (by omega)]; rfl
 · unfold zsu; rw [show y.ls.any zh4 = true from h2]; simp
 · unfold zsu; rw [show y.ls.any zh4 = false from h2, decide_eq_false (by omega)]; simp; rfl
theorem yee : zao Tryz.prog (prS 74 zfv zat yvv ymq std) := by
 intro xs p r h hp
 dsimp only [prS] at h |-
 split at h <;> cases h
 try simp only [L2, L3, std] at hp |-
 rename_i x
 refine zpq zcx hp.1 ?_
 have hp := hp.2
 show za9 _ _ _ (.bool (yvv (rdG cfV x)))
 have hp : ymq (rdG cfV x) := hp
 generalize rdG cfV x = y at hp |-
 refine za8 (T := tt) (S := fun L => zad [zz6 118 120 zir zfm yj1 zmv L]) (lo := fun _ => noA std) (lb := noA) 5 (fn := Tryz.f74) (xs := fun L => [.agg [.int .u64 (L Cf.v y), zfn L (L Cf.ls y), zes L (L Cf.cs y)]]) rfl rfl (by kernel_rfl) (by kernel_rfl) rfl zab (za1 ⟨zyv yq7, trivial⟩) (by kernel_rfl) ?_
 intro L P' Q' hL hP hQ
 (cbv; try simp only [syT, true_and, and_true])
 (subst hL; subst hQ; simp only [L2, L3, std] at *; try simp only [syS, reduceCtorEq, Int.reduceToNat, Int.reduceAdd, Int.reduceSub] at *)
 simp only [yat]
 exact ⟨⟨ybf _, hp.1, hp.2⟩, rfl⟩
def zgy (x : Cf) : Prop := zde x = true /\ wfCf x
def ye9 (L : zaa) : zb4 := (30, fun xs => match xs with
 | [x] => some (L zfv x /\ L zgy (L zat x), .tup [.str (L cfT (L zat x)), .int .i64 (L cfE (L zat x))])
 | _ => none)
theorem zpm : zao Tryz.prog (ye9 std) := by
 intro xs p r h hp
 dsimp only [ye9] at h |-
 split at h <;> cases h
 try simp only [L2, L3, std] at hp |-
 rename_i x
 refine zpq zcx hp.1 ?_
 have hp := hp.2
 show za9 _ _ _ (.tup [.str (cfT (rdG cfV x)), .int .i64 (cfE (rdG cfV x))])
 have hp : zgy (rdG cfV x) := hp
 generalize rdG cfV x = y at hp |-
 refine za8 (T := tt) (S := fun L => zad [prS 73 zfv zat zsu ymp L, prS 74 zfv zat yvv ymq L, zxj L, zfk L, zw3 7000 L, zjr 78 79 zoh zhl yk3 yby L, zjr 80 81 zir zfm ykk ydp L]) (lo := fun _ => noA std) (lb := noA) 5 (fn := Tryz.f30) (xs := fun L => [.agg [.int .u64 (L Cf.v y), zfn L (L Cf.ls y), zes L (L Cf.cs y)]]) rfl rfl (by kernel_rfl) (by kernel_rfl) rfl zab (za1 ⟨zxq, yee, zk0, zc8, znj 7000, zth zot, ztj zrg, trivial⟩) (by kernel_rfl) ?_
 intro L P' Q' hL hP hQ
 have hG : L zat (.agg [.int .u64 (L Cf.v y), .lst 7 (L zb3 (L Cf.ls y)) (fun i => lsC L (L (L zap (L Cf.ls y)) i)), .lst 2 (L zb3 (L Cf.cs y)) (fun i => clC L (L (L zar (L Cf.cs y)) i))]) = y := by subst hL; exact (gK zcx y _ rfl).2
 have hO : L zfv (.agg [.int .u64 (L Cf.v y), .lst 7 (L zb3 (L Cf.ls y)) (fun i => lsC L (L (L zap (L Cf.ls y)) i)), .lst 2 (L zb3 (L Cf.cs y)) (fun i => clC L (L (L zar (L Cf.cs y)) i))]) := by subst hL; exact (gK zcx y _ rfl).1
 (cbv; try simp only [syT, true_and, and_true])
 simp only [hG, hO, true_and]
 (subst hL; subst hQ; simp only [L2, L3, std] at *; try simp only [syS, reduceCtorEq, Int.reduceToNat, Int.reduceAdd, Int.reduceSub] at *)
 simp only [ymg, yat]
 simp only [lit3, zdj, zbv]
 obtain ⟨hl, hw⟩ := hp
 have hf := yts hl hw
 have hl' := hl
 simp only [zde, Bool.and_eq_true, decide_eq_true_eq, List.all_eq_true, zn3, zn4] at hl'
 obtain ⟨⟨⟨l1, l2⟩, l3⟩, l4⟩ := hl'
 have sz1 : ∀ {α : Type} {l : List α} (n : Nat), n <= 12 -> l.length <= n -> zh6 l := fun n hn hl => by show _ <= 1000000; omega
 refine ⟨⟨by omega, by omega⟩, fun h => ?_, fun h => ⟨⟨sz1 12 (by omega) l2, fun c hc => sz1 12 (by omega) (l4 c hc).2⟩, fun h2 => ?_, fun h2 => ⟨⟨ymy _, sz1 12 (by omega) l1, fun x hx => ⟨(hw.2.1 x hx).1, sz1 12 (by omega) (l3 x hx).1.2⟩⟩, ⟨ybf _, sz1 12 (by omega) l2, fun c hc => ⟨sz1 12 (by omega) (l4 c hc).2, fun e he => (hw.2.2 c hc e he).1⟩⟩, ⟨ynf _ _ _, by show (3 : Nat) <= 1000000; omega⟩, ⟨(zky _).2, ⟨hf.sz, by omega⟩, hf.wf, ?_⟩, ?_⟩⟩⟩
 · have e : cfE y = 6 := by unfold cfE; rw [if_pos h]
   exact ⟨by rw [cfT, if_neg (by rw [e]; decide)], e.symm⟩
 · have e : cfE y = 7 := by unfold cfE; rw [if_neg (by rw [h]; decide), if_pos h2]
   exact ⟨by rw [cfT, if_neg (by rw [e]; decide)], e.symm⟩
 · have := hf.tx
   show (zbn (zjt y)).length <= 90000000
   omega
 · have e : cfE y = zqb (zjt y) := by unfold cfE; rw [if_neg (by rw [h]; decide), if_neg (by rw [h2]; decide)]
   refine ⟨?_, e.symm⟩
   show zx9 (zjt y) = cfT y
   unfold cfT
   rw [e]
   split
   · rfl
   · rename_i h3
     unfold zx9; rw [if_neg h3]
def yv5 {α : Type} (l : List α) (i : Nat) : Nat := l.length - i
def goLs (l : List Ls) (i : Nat) : Nat := yv5 l i
def goRt (l : List Rt) (i : Nat) : Nat := yv5 l i
def yxx (l : List Cl) (i : Nat) : Nat := yv5 l i
end Sy
end Go.Proofs.YthppjaoicibeiaaGreatDoor
namespace Go.Proofs.YthppjaoicibeiaaGreatDoor
namespace Sy
open Go Go.RowKit
set_option maxRecDepth 100000
set_option linter.unusedSimpArgs false
set_option linter.unusedVariables false
theorem plEq (x y : Pl) : x = y ↔ x.a = y.a /\ x.b = y.b /\ x.c = y.c /\ x.d = y.d /\ x.p = y.p := by cases x; cases y; simp
def goEp (l : List Ep) (i : Nat) : Nat := yv5 l i
end Sy
end Go.Proofs.YthppjaoicibeiaaGreatDoor
namespace Go.Proofs.YthppjaoicibeiaaGreatDoor
namespace Sy
open Go Go.RowKit
set_option maxRecDepth 100000
set_option linter.unusedSimpArgs false
set_option linter.unusedVariables false
def soZ (b : Bool) (e : Int) : Int := if b = true then e else 0
def yql (L : zaa) : zb4 := (92, fun xs => match xs with | [.bool b, .int .i64 e] => some (True, .int .i64 (L2 L soZ b e)) | _ => none)
theorem zo2 : zao Tryz.prog (yql std) := by
 intro xs p r h hp
 dsimp only [yql] at h |-
 split at h <;> cases h
 try simp only [L2, L3, std] at hp |-
 rename_i b e
 refine za6 (T := tt) (S := noS) (lo := noA) (lb := noA) 5 (fn := Tryz.f92) rfl rfl (by kernel_rfl) (by kernel_rfl) rfl zab (zbh _) (by kernel_rfl) ?_
 (intro L P1 Q1 hL hP hQ; cbv; subst hL; simp only [L2, L3, std, syT]; subst hQ)
 (simp only [syS, reduceCtorEq, Int.reduceToNat, Int.reduceAdd, Int.reduceSub])
 exact ⟨fun h => (if_pos h).symm, fun h => (if_neg (by rw [h]; decide)).symm⟩
def zxt (l : List Int) : Nat := l.length
def rdJ : AV -> List Int
 | .lst _ n get => (List.range n).map fun i => (get i 0).toI
 | _ => []
def okJ : AV -> Prop
 | .lst sz n get => sz = 1 /\ ∀ i, i < n -> ∃ x, get i 0 = .int .i64 x
 | .nils => True
 | _ => False
def yqn (L : zaa) (l : List Int) : AV := .lst 1 (L zxt l) (fun i _ => .int .i64 (L2 L za2 l i))
theorem zv6 (n i : Nat) (f : Nat -> Int) (h : i < n) : za2 ((List.range n).map f) i = f i := by
 rw [za2, List.getD_eq_getElem?_getD, List.getElem?_map, List.getElem?_range h]; rfl
theorem yse {h : Array Obj} {D : Nat -> Prop} {μ : Mu} {x : AV} {v : Value} (ho : okJ x) (r : R h D μ x v) : R h D μ (yqn std (rdJ x)) v := by
 match x, ho with
 | .nils, _ => cases r; exact .lst0 _ _ none 0 (fun _ => rfl)
 | .lst sz n get, ho =>
   obtain ⟨rfl, ho⟩ := ho
   have e : yqn std (rdJ (.lst 1 n get)) = .lst 1 n (fun i _ => .int .i64 (za2 (rdJ (.lst 1 n get)) i)) := by
     show AV.lst 1 (zxt (rdJ (.lst 1 n get))) _ = _
     rw [show zxt (rdJ (.lst 1 n get)) = n by simp [rdJ, zxt]]; rfl
   rw [e]
   refine zoq r fun i j hi hj => ?_
   have : j = 0 := by omega
   subst this
   obtain ⟨x, hx⟩ := ho i hi
   rw [hx, rdJ, zv6 _ _ _ hi, hx]; rfl
theorem ac_lj {P : Program} {f : FuncId} {x r : AV} {q : List AV} (ho : okJ x) (h : za9 P f (yqn std (rdJ x) :: q) r) : za9 P f (x :: q) r :=
 zdm (fun h D vs hr => ym9 (fun v => yse ho) hr) h
def zt9 : List Int -> Int
 | [] => 0
 | a :: l => if a ≠ 0 then a else zt9 l
def yxz (l : List Int) (i : Nat) : Prop := i <= l.length /\ zt9 l = zt9 (l.drop i)
def yy0 (l : List Int) (i : Nat) : Nat := l.length - i
theorem yk9 {l : List Int} {i : Nat} (h : i < l.length) : zt9 (l.drop i) = if za2 l i ≠ 0 then za2 l i else zt9 (l.drop (i + 1)) := by
 rw [List.drop_eq_getElem_cons h, zt9, za2, List.getD_eq_getElem?_getD, List.getElem?_eq_getElem h]; rfl
def zy6 (L : zaa) : zb4 := (90, fun xs => match xs with | [x] => some (L okJ x /\ L (fun l : List Int => l.length <= 1000000) (L rdJ x), .int .i64 (L zt9 (L rdJ x))) | _ => none)
def firA (L : zaa) (l : List Int) : Nat -> St -> Option Ann := fun id st => match id with
 | 0 => some ⟨Nat, fun i => [(7, .int .i64 (L zan i))], fun i => [], [5, 6], [], fun i => L2 L yxz l i, fun i => L2 L yy0 l i⟩
 | _ => none
theorem zk9 : zao Tryz.prog (zy6 std) := by
 intro xs p r h hp
 dsimp only [zy6] at h |-
 split at h <;> cases h
 try simp only [L2, L3, std] at hp |-
 rename_i x
 obtain ⟨ho, hp⟩ := hp
 refine ac_lj ho ?_
 have hp : (rdJ x).length <= 1000000 := hp
 show za9 _ _ _ (.int .i64 (zt9 (rdJ x)))
 generalize rdJ x = l at hp |-
 refine za8 (T := tt) (S := noS) (lo := fun L => firA L l) (lb := noA) 5 (fn := Tryz.f90) (xs := fun L => [yqn L l]) rfl rfl (by kernel_rfl) (by kernel_rfl) rfl zab (zbh _) (by kernel_rfl) ?_
 intro L P' Q' hL hP hQ
 (cbv; try simp only [syT, true_and, and_true])
 refine ⟨⟨0, ?_⟩, fun i hi => ?_⟩
 · (cbv; try simp only [syT, true_and, and_true])
   (subst hL; subst hQ; simp only [L2, L3, std] at *; try simp only [syS, reduceCtorEq, Int.reduceToNat, Int.reduceAdd, Int.reduceSub] at *)
   exact ⟨Nat.zero_le _, rfl⟩
 · cbv at hi
   (cbv; try simp only [syT, true_and, and_true])
   have hl : zxt l = l.length := rfl
   repeat' first | refine And.intro ?_ ?_ | refine fun (hh : (_ : Bool) = _) => ?_
   all_goals try (refine ⟨i + 1, ?_⟩; (cbv; try simp only [syT, true_and, and_true]))
   all_goals (subst hL; subst hQ; simp only [L2, L3, std] at *; try simp only [syS, reduceCtorEq, Int.reduceToNat, Int.reduceAdd, Int.reduceSub] at *)
   all_goals first
     | exact ⟨by omega, by omega⟩
     | (have q := hi.2
        rw [yk9 (by omega), if_pos (by assumption)] at q
        exact q.symm)
     | (have q := hi.2
        rw [yk9 (by omega), if_neg (fun h => h (by assumption))] at q
        refine ⟨by omega, ⟨by omega, q⟩, ?_⟩
        show l.length - (i + 1) + 1 <= l.length - i
        omega)
     | (have q := hi.2
        rw [List.drop_eq_nil_of_le (by omega)] at q
        exact q.symm)
     | skip
end Sy
end Go.Proofs.YthppjaoicibeiaaGreatDoor
namespace Go.Proofs.YthppjaoicibeiaaGreatDoor
namespace Sy
open Go Go.RowKit
set_option maxRecDepth 100000
set_option linter.unusedSimpArgs false
set_option linter.unusedVariables false
def rdT : AV -> List (List UInt8)
 | .lst _ n get => (List.range n).map fun i => match get i 0 with | .str s => s | _ => []
 | _ => []
def okT : AV -> Prop
 | .lst sz n get => sz = 1 /\ ∀ i, i < n -> ∃ x, get i 0 = .str x
 | .nils => True
 | _ => False
theorem ysc {h : Array Obj} {D : Nat -> Prop} {μ : Mu} {x : AV} {v : Value} (ho : okT x) (r : R h D μ x v) : R h D μ (yh8 std (rdT x)) v := by
 match x, ho with
 | .nils, _ => cases r; exact .lst0 _ _ none 0 (fun _ => rfl)
 | .lst sz n get, ho =>
   obtain ⟨rfl, ho⟩ := ho
   have e : yh8 std (rdT (.lst 1 n get)) = .lst 1 n (fun i _ => .str (zdd (rdT (.lst 1 n get)) i)) := by
     show AV.lst 1 (zhv (rdT (.lst 1 n get))) _ = _
     rw [show zhv (rdT (.lst 1 n get)) = n by simp [rdT, zhv]]; rfl
   rw [e]
   refine zoq r fun i j hi hj => ?_
   have : j = 0 := by omega
   subst this
   obtain ⟨x, hx⟩ := ho i hi
   rw [hx, rdT, zdd, List.getD_eq_getElem?_getD, List.getElem?_map, List.getElem?_range hi]
   simp only [Option.map_some, Option.getD_some, hx]
theorem yux {P : Program} {f : FuncId} {x r : AV} {q : List AV} (ho : okT x) (h : za9 P f (yh8 std (rdT x) :: q) r) : za9 P f (x :: q) r :=
 zdm (fun h D vs hr => ym9 (fun v => ysc ho) hr) h
def ixT : List (List UInt8) -> List UInt8 -> Nat -> Int
 | [], _, _ => -1
 | a :: l, s, i => if s = a then i else ixT l s (i + 1)
def yvk (l : List (List UInt8)) (s : List UInt8) : Int := ixT l s 0
def ixTo (l : List (List UInt8)) (s : List UInt8) (i : Nat) : Prop := i <= l.length /\ yvk l s = ixT (l.drop i) s i
def ixMu (l : List (List UInt8)) (i : Nat) : Nat := l.length - i
theorem yt8 {l : List (List UInt8)} {s : List UInt8} {i : Nat} (h : i < l.length) : ixT (l.drop i) s i = if s = zdd l i then (i : Int) else ixT (l.drop (i + 1)) s (i + 1) := by
 rw [List.drop_eq_getElem_cons h, ixT, zdd, List.getD_eq_getElem?_getD, List.getElem?_eq_getElem h]; rfl
def yt0 (l : List (List UInt8)) : Prop := l.length <= 1000000
def yxd (l : List (List UInt8)) (s : List UInt8) : Bool := decide (0 <= yvk l s)
def ylk (L : zaa) : zb4 := (181, fun xs => match xs with | [x, .str s] => some (L okT x /\ L yt0 (L rdT x), .int .i64 (L2 L yvk (L rdT x) s)) | _ => none)
def ylp (L : zaa) : zb4 := (141, fun xs => match xs with | [x, .str s] => some (L okT x /\ L yt0 (L rdT x), .bool (L2 L yxd (L rdT x) s)) | _ => none)
def sixA (L : zaa) (l : List (List UInt8)) (s : List UInt8) : Nat -> St -> Option Ann := fun id st => match id with
 | 0 => some ⟨Nat, fun i => [(8, .int .i64 (L zan i))], fun i => [], [0, 1, 6, 7], [], fun i => L3 L ixTo l s i, fun i => L2 L ixMu l i⟩
 | _ => none
theorem zo7 (l : List (List UInt8)) : rdT (.lst 1 (zhv l) fun i _ => .str (zdd l i)) = l /\ okT (.lst 1 (zhv l) fun i _ => .str (zdd l i)) := by
 refine ⟨?_, rfl, fun i _ => ⟨_, rfl⟩⟩
 unfold rdT
 apply List.ext_getElem
 · simp [zhv]
 · intro i h1 h2
   simp only [List.getElem_map, List.getElem_range]
   rw [zdd, List.getD_eq_getElem?_getD, List.getElem?_eq_getElem h2]; rfl
theorem yfi : zao Tryz.prog (ylk std) := by
 intro xs p r h hp
 dsimp only [ylk] at h |-
 split at h <;> cases h
 try simp only [L2, L3, std] at hp |-
 rename_i x s
 obtain ⟨ho, hp⟩ := hp
 refine yux ho ?_
 have hp : (rdT x).length <= 1000000 := hp
 show za9 _ _ _ (.int .i64 (yvk (rdT x) s))
 generalize rdT x = l at hp |-
 refine za8 (T := tt) (S := noS) (lo := fun L => sixA L l s) (lb := noA) 5 (fn := Tryz.f181) (xs := fun L => [yh8 L l, .str s]) rfl rfl (by kernel_rfl) (by kernel_rfl) rfl zab (zbh _) (by kernel_rfl) ?_
 intro L P' Q' hL hP hQ
 (cbv; try simp only [syT, true_and, and_true])
 refine ⟨⟨0, ?_⟩, fun i hi => ?_⟩
 · (cbv; try simp only [syT, true_and, and_true])
   (subst hL; subst hQ; simp only [L2, L3, std] at *; try simp only [syS, reduceCtorEq, Int.reduceToNat, Int.reduceAdd, Int.reduceSub] at *)
   exact ⟨Nat.zero_le _, rfl⟩
 · cbv at hi
   (cbv; try simp only [syT, true_and, and_true])
   have hl : zhv l = l.length := rfl
   repeat' first | refine And.intro ?_ ?_ | refine fun (hh : (_ : Bool) = _) => ?_
   all_goals try (refine ⟨i + 1, ?_⟩; (cbv; try simp only [syT, true_and, and_true]))
   all_goals (subst hL; subst hQ; simp only [L2, L3, std] at *; try simp only [syS, reduceCtorEq, Int.reduceToNat, Int.reduceAdd, Int.reduceSub] at *)
   all_goals first
     | exact ⟨by omega, by omega⟩
     | (have q := hi.2
        rw [yt8 (by omega), if_pos (by assumption)] at q
        exact q.symm)
     | (have q := hi.2
        rw [yt8 (by omega), if_neg (by assumption)] at q
        refine ⟨by omega, ⟨by omega, q⟩, ?_⟩
        show l.length - (i + 1) + 1 <= l.length - i
        omega)
     | (have q := hi.2
        rw [List.drop_eq_nil_of_le (by omega)] at q
        exact q.symm)
theorem yfl : zao Tryz.prog (ylp std) := by
 intro xs p r h hp
 dsimp only [ylp] at h |-
 split at h <;> cases h
 try simp only [L2, L3, std] at hp |-
 rename_i x s
 obtain ⟨ho, hp⟩ := hp
 refine yux ho ?_
 have hp : yt0 (rdT x) := hp
 show za9 _ _ _ (.bool (yxd (rdT x) s))
 generalize rdT x = l at hp |-
 refine za8 (T := tt) (S := fun L => zad [ylk L]) (lo := fun _ => noA std) (lb := noA) 5 (fn := Tryz.f141) (xs := fun L => [yh8 L l, .str s]) rfl rfl (by kernel_rfl) (by kernel_rfl) rfl zab (za1 ⟨yfi, trivial⟩) (by kernel_rfl) ?_
 intro L P' Q' hL hP hQ
 (cbv; try simp only [syT, true_and, and_true])
 (subst hL; subst hQ; simp only [L2, L3, std] at *; try simp only [syS, reduceCtorEq, Int.reduceToNat, Int.reduceAdd, Int.reduceSub] at *)
 rw [(zo7 l).1]
 refine ⟨⟨(zo7 l).2, hp⟩, ?_⟩
 rfl
def ysr (s : List UInt8) (l : List (List UInt8)) : Int := if zme s = false then 4 else if yxd l s = true then 11 else 0
def ygs (L : zaa) : zb4 := (91, fun xs => match xs with | [.str s, x] => some (L okT x /\ L yt0 (L rdT x), .int .i64 (L2 L ysr s (L rdT x))) | _ => none)
theorem zv9 : zao Tryz.prog (ygs std) := by
 intro xs p r h hp
 dsimp only [ygs] at h |-
 split at h <;> cases h
 try simp only [L2, L3, std] at hp |-
 rename_i s x
 obtain ⟨ho, hp⟩ := hp
 refine zdm (fun h D vs hr => yrz (fun v => ysc ho) hr) ?_
 have hp : yt0 (rdT x) := hp
 show za9 _ _ [.str s, yh8 std (rdT x)] (.int .i64 (ysr s (rdT x)))
 generalize rdT x = l at hp |-
 refine za8 (T := tt) (S := fun L => zad [zva L, ylp L]) (lo := fun _ => noA std) (lb := noA) 5 (fn := Tryz.f91) (xs := fun L => [.str s, yh8 L l]) rfl rfl (by kernel_rfl) (by kernel_rfl) rfl zab (za1 ⟨zqk, yfl, trivial⟩) (by kernel_rfl) ?_
 intro L P' Q' hL hP hQ
 (cbv; try simp only [syT, true_and, and_true])
 (subst hL; subst hQ; simp only [L2, L3, std] at *; try simp only [syS, reduceCtorEq, Int.reduceToNat, Int.reduceAdd, Int.reduceSub] at *)
 rw [(zo7 l).1]
 refine ⟨fun h => (if_pos h).symm, fun h => ⟨⟨(zo7 l).2, hp⟩, fun k => ?_, fun k => ?_⟩⟩
 · exact ((if_neg (by rw [h]; decide)).trans (if_pos k)).symm
 · exact ((if_neg (by rw [h]; decide)).trans (if_neg (by rw [k]; decide))).symm
end Sy
end Go.Proofs.YthppjaoicibeiaaGreatDoor
namespace Go.Proofs.YthppjaoicibeiaaGreatDoor
namespace Sy
open Go Go.RowKit
set_option maxRecDepth 100000
set_option linter.unusedSimpArgs false
set_option linter.unusedVariables false
def dgI (n : Int) : List UInt8 := zcq (n % 18446744073709551616)
theorem ztk (n : Int) : (dgI n).length <= 20 := by
 unfold dgI zcq
 rw [Lib.decDigits_length]
 generalize hN : (n % 18446744073709551616).toNat = N
 have hN2 : N < 18446744073709551616 := by omega
 by_cases h0 : N = 0
 · subst h0; rw [Lib.nDigits_small (by decide)]; decide
 · have := Lib.numDigits_eq N (by omega) hN2
   split at this <;> omega
def whZ (w : List UInt8) (l : List Int) : List UInt8 := Lib.join (w :: l.map dgI) [32]
def yku (w : List UInt8) (l : List Int) : Prop := w.length <= 100 /\ l.length <= 2
theorem yr4 (w : List UInt8) (i : Int) : whZ w [i] = w ++ ([32] ++ dgI i) := by
 unfold whZ
 rw [Lib.join_cons]
 simp [Lib.joinTail]
theorem yw3 (w : List UInt8) (i k : Int) : whZ w [i, k] = w ++ ([32] ++ (dgI i ++ ([32] ++ dgI k))) := by
 unfold whZ
 rw [Lib.join_cons]
 simp [Lib.joinTail]
theorem ykt {w : List UInt8} {l : List Int} (h : yku w l) : (whZ w l).length <= 200 := by
 obtain ⟨h1, h2⟩ := h
 match l, h2 with
 | [], _ =>
   rw [whZ, List.map_nil, Lib.join_one]; omega
 | [i], _ =>
   have := ztk i
   rw [yr4]
   simp only [List.length_append, List.length_cons, List.length_nil]
   omega
 | [i, k], _ =>
   have := ztk i
   have := ztk k
   rw [yw3]
   simp only [List.length_append, List.length_cons, List.length_nil]
   omega
def yeu (i : Nat) : Nat := i + 1
def wps (w : List UInt8) (l : List Int) (i : Nat) : List (List UInt8) := w :: (l.take i).map dgI
def leJ (l : List Int) (i : Nat) : Prop := i <= l.length
def goJ (l : List Int) (i : Nat) : Nat := l.length - i
theorem yr3 {w : List UInt8} {l : List Int} {i : Nat} (h : i < l.length) (q : Nat) : zdd (wps w l (i + 1)) q = if q = i + 1 then dgI (za2 l i) else zdd (wps w l i) q := by
 have e : wps w l (i + 1) = wps w l i ++ [dgI (za2 l i)] := by
   rw [wps, wps, List.take_succ_eq_append_getElem h, List.map_append, za2, List.getD_eq_getElem?_getD, List.getElem?_eq_getElem h]; rfl
 have hl : (wps w l i).length = i + 1 := by simp [wps]; omega
 rw [e, zdd, zdd, List.getD_eq_getElem?_getD, List.getD_eq_getElem?_getD]
 by_cases hq : q < i + 1
 · rw [if_neg (by omega), List.getElem?_append_left (by omega)]
 · rw [List.getElem?_append_right (by omega)]
   by_cases hq2 : q = i + 1
   · rw [if_pos hq2, hl, hq2, Nat.sub_self]; rfl
   · rw [if_neg hq2, hl, List.getElem?_eq_none (by simp; omega), List.getElem?_eq_none (by omega)]
theorem yb3 (l : List (List UInt8)) {n : Nat} (h : n = l.length) : zb7 n (fun q _ => .str (zdd l q)) = l := by
 subst h
 unfold zb7
 apply List.ext_getElem
 · simp
 · intro i h1 h2
   simp only [List.getElem_map, List.getElem_range]
   show zdd l i = _
   rw [zdd, List.getD_eq_getElem?_getD, List.getElem?_eq_getElem h2]; rfl
theorem zzb {w : List UInt8} {l : List Int} {i : Nat} (h : i = l.length) (ho : yku w l) : yvj [32] (.lst 1 (yeu i) (fun q _ => .str (zdd (wps w l i) q))) /\ jnZ [32] (.lst 1 (yeu i) (fun q _ => .str (zdd (wps w l i) q))) = whZ w l := by
 subst h
 have e : zb7 (yeu l.length) (fun q _ => .str (zdd (wps w l l.length) q)) = w :: l.map dgI := by
   rw [yb3 (wps w l l.length) (by simp [wps, yeu]), wps, List.take_length]
 have hl := ykt ho
 have h2 := ho.2
 refine ⟨⟨fun i _ => ⟨_, rfl⟩, by show l.length + 1 <= 1000000; omega, ?_⟩, ?_⟩
 · rw [e]
   show (whZ w l).length <= _
   omega
 · show Lib.join (zb7 _ _) _ = _
   rw [e]; rfl
def yks (L : zaa) : zb4 := (48, fun xs => match xs with | [.str w, x] => some (L okJ x /\ L2 L yku w (L rdJ x), .str (L2 L whZ w (L rdJ x))) | _ => none)
def wheA (L : zaa) (w : List UInt8) (l : List Int) : Nat -> St -> Option Ann := fun id st => match id with
 | 0 => some ⟨Nat, fun i => [(12, .int .i64 (L zan i)), (5, .sl 900 1 0 (L yeu i))], fun i => [(900, .row 9 1 (L yeu i) (fun q _ => .str (L2 L zdd (L3 L wps w l i) q)))], [10, 11], [], fun i => L2 L leJ l i, fun i => L2 L goJ l i⟩
 | _ => none
theorem yf6 : zao Tryz.prog (yks std) := by
 intro xs p r h hp
 dsimp only [yks] at h |-
 split at h <;> cases h
 try simp only [L2, L3, std] at hp |-
 rename_i w x
 obtain ⟨ho, hp⟩ := hp
 refine zdm (fun h D vs hr => yrz (fun v => yse ho) hr) ?_
 have hp : yku w (rdJ x) := hp
 show za9 _ _ [.str w, yqn std (rdJ x)] (.str (whZ w (rdJ x)))
 generalize rdJ x = l at hp |-
 refine za8 (T := tt) (S := fun L => zad [yif L, yvi L]) (lo := fun L => wheA L w l) (lb := noA) 5 (fn := Tryz.f48) (xs := fun L => [.str w, yqn L l]) rfl rfl (by kernel_rfl) (by kernel_rfl) rfl zab (za1 ⟨zvz, yc6, trivial⟩) (by kernel_rfl) ?_
 intro L P' Q' hL hP hQ
 (cbv; try simp only [syT, true_and, and_true])
 refine ⟨⟨0, ?_⟩, fun i hi => ?_⟩
 · (cbv; try simp only [syT, true_and, and_true])
   (subst hL; subst hQ; simp only [L2, L3, std] at *; try simp only [syS, reduceCtorEq, Int.reduceToNat, Int.reduceAdd, Int.reduceSub] at *)
   exact ⟨⟨rfl, fun _ _ _ _ => rfl⟩, rfl, Nat.zero_le _⟩
 · cbv at hi
   (cbv; try simp only [syT, true_and, and_true])
   have hl : zxt l = l.length := rfl
   repeat' first | refine And.intro ?_ ?_ | refine fun (hh : (_ : Bool) = _) => ?_
   all_goals try (refine ⟨i + 1, ?_⟩; (cbv; try simp only [syT, true_and, and_true]))
   all_goals (subst hL; subst hQ; simp only [L2, L3, std] at *; try simp only [syS, reduceCtorEq, Int.reduceToNat, Int.reduceAdd, Int.reduceSub] at *)
   all_goals have hi : i <= l.length := hi
   all_goals have hp2 : l.length <= 2 := hp.2
   · omega
   · exact ⟨by omega, by omega⟩
   · have : yeu i = i + 1 := rfl
     omega
   · refine ⟨⟨rfl, fun a b ha hb => ?_⟩, rfl, by omega, by show i + 1 <= l.length; omega, by show l.length - (i + 1) + 1 <= l.length - i; omega⟩
     have ha : a < i + 1 + 1 := ha
     rw [yr3 (by omega)]
     by_cases h : a < i + 1
     · rw [zm0 (show a < yeu i from h), if_neg (by omega)]; rfl
     · obtain rfl : a = i + 1 := by omega
       rw [zpn (show ¬ i + 1 < yeu i from h), if_pos rfl, show i + 1 - yeu i = 0 from Nat.sub_self _]; rfl
   · exact (zzb (by omega) hp).1
   · exact (zzb (by omega) hp).2
end Sy
end Go.Proofs.YthppjaoicibeiaaGreatDoor
namespace Go.Proofs.YthppjaoicibeiaaGreatDoor
namespace Sy
open Go Go.RowKit
set_option maxRecDepth 100000
set_option linter.unusedSimpArgs false
set_option linter.unusedVariables false
def yhg (x : Cf) : Prop := zh6 x.ls /\ zh6 x.cs /\ (∀ l ∈ x.ls, zh6 l.rs) /\ ∀ c ∈ x.cs, zh6 c.es
end Sy
end Go.Proofs.YthppjaoicibeiaaGreatDoor
namespace Go.Proofs.YthppjaoicibeiaaGreatDoor
namespace Sy
open Go Go.RowKit
set_option maxRecDepth 100000
set_option linter.unusedSimpArgs false
set_option linter.unusedVariables false
end Sy
end Go.Proofs.YthppjaoicibeiaaGreatDoor
namespace Go.Proofs.YthppjaoicibeiaaGreatDoor
namespace Sy
open Go Go.RowKit
set_option maxRecDepth 100000
set_option linter.unusedSimpArgs false
set_option linter.unusedVariables false
end Sy
end Go.Proofs.YthppjaoicibeiaaGreatDoor
namespace Go.Proofs.YthppjaoicibeiaaGreatDoor
namespace Sy
open Go Go.RowKit
set_option maxRecDepth 100000
set_option linter.unusedSimpArgs false
set_option linter.unusedVariables false
def yk6 {α : Type} (d : α) (nm : α -> List UInt8) (s : List UInt8) : List α -> α × Bool
 | [] => (d, false)
 | a :: l => if nm a = s then (a, true) else yk6 d nm s l
def yqu (l : List Cl) (s : List UInt8) : Cl := (yk6 ⟨[], []⟩ Cl.n s l).1
def ycv (l : List Cl) (s : List UInt8) : Bool := (yk6 ⟨[], []⟩ Cl.n s l).2
def ytl (l : List Cl) (s : List UInt8) (i : Nat) : Prop := i <= l.length /\ yk6 ⟨[], []⟩ Cl.n s l = yk6 ⟨[], []⟩ Cl.n s (l.drop i)
theorem ycu {l : List Cl} {s : List UInt8} {i : Nat} (h : i < l.length) : yk6 ⟨[], []⟩ Cl.n s (l.drop i) = if (zar l i).n = s then (zar l i, true) else yk6 ⟨[], []⟩ Cl.n s (l.drop (i + 1)) := by
 rw [List.drop_eq_getElem_cons h, yk6, zar, zb2 (V := clV) h]
def cluA (L : zaa) (y : Cf) (s : List UInt8) : Nat -> St -> Option Ann := fun id st => match id with
 | 0 => some ⟨Nat, fun i => [(11, .int .i64 (L zan i))], fun i => [], [1, 4, 5, 9, 10], [4], fun i => L3 L ytl (L Cf.cs y) s i, fun i => L2 L yxx (L Cf.cs y) i⟩
 | _ => none
def ypd (L : zaa) : zb4 := (11, fun xs => match xs with
 | [x, .str s] => some (L zfv x /\ L yhg (L zat x), .tup [.agg [.str (L Cl.n (L2 L yqu (L Cf.cs (L zat x)) s)), zgr L (L Cl.es (L2 L yqu (L Cf.cs (L zat x)) s))], .bool (L2 L ycv (L Cf.cs (L zat x)) s)])
 | _ => none)
theorem yir : zao Tryz.prog (ypd std) := by
 intro xs p r h hp
 dsimp only [ypd] at h |-
 split at h <;> cases h
 try simp only [L2, L3, std] at hp |-
 rename_i x s
 obtain ⟨ho, hp⟩ := hp
 refine zpq zcx ho ?_
 have hp : yhg (zat x) := hp
 show za9 _ _ [.agg [.int .u64 (zat x).v, zfn std (zat x).ls, zes std (zat x).cs], .str s] (.tup [.agg [.str (yqu (zat x).cs s).n, zgr std (yqu (zat x).cs s).es], .bool (ycv (zat x).cs s)])
 generalize zat x = y at hp |-
 have hz : y.cs.length <= 1000000 := hp.2.1
 refine za8 (T := tt) (S := noS) (lo := fun L => cluA L y s) (lb := noA) 5 (fn := Tryz.f11) (xs := fun L => [.agg [.int .u64 (L Cf.v y), zfn L (L Cf.ls y), zes L (L Cf.cs y)], .str s]) rfl rfl (by kernel_rfl) (by kernel_rfl) rfl zab (zbh _) (by kernel_rfl) ?_
 intro L P' Q' hL hP hQ
 (cbv; try simp only [syT, true_and, and_true])
 have e2 : zb3 y.cs = y.cs.length := rfl
 refine ⟨⟨0, ?_⟩, fun i hi => ?_⟩
 · (cbv; try simp only [syT, true_and, and_true])
   (subst hL; subst hQ; simp only [L2, L3, std] at *; try simp only [syS, reduceCtorEq, Int.reduceToNat, Int.reduceAdd, Int.reduceSub] at *)
   exact ⟨Nat.zero_le _, rfl⟩
 · cbv at hi
   (cbv; try simp only [syT, true_and, and_true])
   repeat' first | refine And.intro ?_ ?_ | refine fun (hh : (_ : Bool) = _) => ?_
   all_goals try (refine ⟨i + 1, ?_⟩; (cbv; try simp only [syT, true_and, and_true]))
   all_goals (subst hL; subst hQ; simp only [L2, L3, std] at *; try simp only [syS, reduceCtorEq, Int.reduceToNat, Int.reduceAdd, Int.reduceSub] at *)
   · exact ⟨by omega, by omega⟩
   · have q := hi.2
     rw [ycu (by omega), if_pos (by assumption)] at q
     rw [show yqu y.cs s = zar y.cs i from congrArg Prod.fst q, show ycv y.cs s = true from congrArg Prod.snd q]
     unfold zgr
     rw [zgm, zc1]
     exact ⟨⟨rfl, ⟨rfl, fun _ _ _ _ => rfl⟩, trivial⟩, rfl⟩
   · have q := hi.2
     rw [ycu (by omega), if_neg (by assumption)] at q
     refine ⟨by omega, ⟨by omega, q⟩, ?_⟩
     show y.cs.length - (i + 1) + 1 <= y.cs.length - i
     omega
   · have q := hi.2
     rw [List.drop_eq_nil_of_le (by omega)] at q
     rw [show yqu y.cs s = ⟨[], []⟩ from congrArg Prod.fst q, show ycv y.cs s = false from congrArg Prod.snd q]
     unfold zgr
     rw [zgl, zc1]
     exact ⟨⟨rfl, rfl, trivial⟩, rfl⟩
end Sy
end Go.Proofs.YthppjaoicibeiaaGreatDoor
namespace Go.Proofs.YthppjaoicibeiaaGreatDoor
namespace Sy
open Go Go.RowKit
set_option maxRecDepth 100000
set_option linter.unusedSimpArgs false
set_option linter.unusedVariables false
def upM (n : Nat) : Prop := n <= 1000000
def toM {α : Type} (l : List α) (i : Nat) : Nat := l.length - i
def mkRt (L : zaa) (h p c : List UInt8) (i : Int) : Rt := L (L (L (L Rt.mk h) p) c) i
def mkEp (L : zaa) (a b c d q w : Int) : Ep := L (L Ep.mk (zxm L a b c d q)) w
def rtP (r x : Rt) : Bool := decide (ziz x.h = ziz r.h) && decide (x.p = r.p)
def rt2 (r x : Rt) : Prop := r.h.length <= 1000000 /\ x.h.length <= 1000000
def epP (r x : Ep) : Bool := decide (x.pl = r.pl)
def ep2 (r x : Ep) : Prop := True
def yru (r : Rt) (l : List Rt) : Int := zm9 (rtP r) l
def yu2 (r : Ep) (l : List Ep) : Int := zm9 (epP r) l
def yg8 (r : Rt) (l : List Rt) : Bool := l.any (rtP r)
def zte (r : Ep) (l : List Ep) : Bool := l.any (epP r)
def rt2L (r : Rt) (l : List Rt) : Prop := ∀ x ∈ l, rt2 r x
def yy2 (r : Ep) (l : List Ep) : Prop := ∀ x ∈ l, ep2 r x
def rtNo (r : Rt) (l : List Rt) (i : Nat) : Prop := zl7 (rtP r) l i
def epNo (r : Ep) (l : List Ep) (i : Nat) : Prop := zl7 (epP r) l i
def yvt {α : Type} (f ty : Nat) (mk : List AV -> Option α) (p : α -> α -> Bool) (pre : α -> α -> Prop) (L : zaa) : zma := (f, fun raw ob => match raw with
 | [.agg xs, .ref k 0] => match mk xs, ob k with
   | some x, some (.box _ ys) => match mk ys with
     | some r => some ⟨[.agg xs, .ref 500000 0], [(500000, .box ty ys)], L2 L pre r x, .bool (L2 L p r x), [(500000, .box ty ys)]⟩
     | none => none
   | _, _ => none
 | _ => none)
def yvn {α : Type} (f g ty sz : Nat) (mk : List AV -> Option α) (ok : AV -> Prop) (rd : AV -> List α) (p : α -> List α -> Int) (pre : α -> List α -> Prop) (L : zaa) : zma := (f, fun raw ob => match raw with
 | [.lst s n get, .fn k [] [.ref q 0]] => match zak k g, zak s sz, ob q with
   | true, true, some (.box _ ys) => match mk ys with
     | some r => some ⟨[.lst sz n get, .fn g [] [.ref 500000 0]], [(500000, .box ty ys)], L ok (.lst sz n get) /\ L upM n /\ L2 L pre r (L rd (.lst sz n get)), .int .i64 (L2 L p r (L rd (.lst sz n get))), [(500000, .box ty ys)]⟩
     | none => none
   | _, _, _ => none
 | _ => none)
def yvx {α : Type} (f g ty sz : Nat) (mk : List AV -> Option α) (ok : AV -> Prop) (rd : AV -> List α) (p : α -> List α -> Bool) (pre : α -> List α -> Prop) (L : zaa) : zma := (f, fun raw ob => match raw with
 | [.lst s n get, .fn k [] [.ref q 0]] => match zak k g, zak s sz, ob q with
   | true, true, some (.box _ ys) => match mk ys with
     | some r => some ⟨[.lst sz n get, .fn g [] [.ref 500000 0]], [(500000, .box ty ys)], L ok (.lst sz n get) /\ L upM n /\ L2 L pre r (L rd (.lst sz n get)), .bool (L2 L p r (L rd (.lst sz n get))), [(500000, .box ty ys)]⟩
     | none => none
   | _, _, _ => none
 | _ => none)
def yrs (L : zaa) : List AV -> Option Rt
 | [.str h, .str p, .str c, .int .u64 d] => some (mkRt L h p c d)
 | _ => none
def yai (L : zaa) (y : Rt) : List AV := [.str (L Rt.h y), .str (L Rt.p y), .str (L Rt.c y), .int .u64 (L Rt.i y)]
def yu0 (L : zaa) : List AV -> Option Ep
 | [.int .u8 a, .int .u8 b, .int .u8 c, .int .u8 d, .int .u16 q, .int .i64 w] => some (mkEp L a b c d q w)
 | _ => none
def ydd (L : zaa) (y : Ep) : List AV := [.int .u8 (L Pl.a (L Ep.pl y)), .int .u8 (L Pl.b (L Ep.pl y)), .int .u8 (L Pl.c (L Ep.pl y)), .int .u8 (L Pl.d (L Ep.pl y)), .int .u16 (L Pl.p (L Ep.pl y)), .int .i64 (L Ep.w y)]
theorem zsb {xs : List AV} {y : Rt} (h : yrs std xs = some y) : xs = yai std y := by
 unfold yrs at h
 split at h <;> cases h
 rfl
theorem ztd {xs : List AV} {y : Ep} (h : yu0 std xs = some y) : xs = ydd std y := by
 unfold yu0 at h
 split at h <;> cases h
 rfl
theorem ydq {α : Type} {f ty : Nat} {mk : List AV -> Option α} {cs : α -> List AV} {p : α -> α -> Bool} {pre : α -> α -> Prop} {P : Program} (hm : ∀ xs y, mk xs = some y -> xs = cs y)
   (h : ∀ r x, pre r x -> zbz P f [.agg (cs x), .ref 500000 0] [(500000, .box ty (cs r))] (.bool (p r x)) [(500000, .box ty (cs r))]) : zf0 P (yvt f ty mk p pre std) := by
 intro raw ob T hT hp
 unfold yvt at hT
 simp only at hT
 split at hT
 rotate_left
 · cases hT
 split at hT
 rotate_left
 · cases hT
 rename_i h1 h2
 split at hT
 rotate_left
 · cases hT
 rename_i h3
 cases hT
 obtain rfl := hm _ _ h1
 obtain rfl := hm _ _ h3
 exact h _ _ hp
theorem ycj {α : Type} {V : Vw α} (K : znq V) {f g ty : Nat} {mk : List AV -> Option α} {cs : α -> List AV} {ok : AV -> Prop} {rd : AV -> List α} {p : α -> List α -> Int} {pre : α -> List α -> Prop} {P : Program} (e1 : ok = okW V) (e2 : rd = rdW V) (hm : ∀ xs y, mk xs = some y -> xs = cs y)
   (h : ∀ r l, l.length <= 1000000 -> pre r l -> zbz P f [zxr std V l, .fn g [] [.ref 500000 0]] [(500000, .box ty (cs r))] (.int .i64 (p r l)) [(500000, .box ty (cs r))]) : zf0 P (yvn f g ty V.sz mk ok rd p pre std) := by
 intro raw ob T hT hp
 unfold yvn at hT
 simp only at hT
 split at hT
 rotate_left
 · cases hT
 rename_i s n get k q
 split at hT
 rotate_left
 · cases hT
 split at hT
 rotate_left
 · cases hT
 rename_i r hr
 cases hT
 obtain rfl := hm _ _ hr
 subst e1; subst e2
 obtain ⟨ho, hn, hq⟩ := hp
 have ho : okW V (.lst V.sz n get) := ho
 refine zop (fun h D μ vs hr => ym9 (fun v => zog K ho) hr) ?_
 have hl : (rdW V (.lst V.sz n get)).length = n := zin _ _ _ _
 exact h r _ (by rw [hl]; exact hn) hq
theorem yei {α : Type} {V : Vw α} (K : znq V) {f g ty : Nat} {mk : List AV -> Option α} {cs : α -> List AV} {ok : AV -> Prop} {rd : AV -> List α} {p : α -> List α -> Bool} {pre : α -> List α -> Prop} {P : Program} (e1 : ok = okW V) (e2 : rd = rdW V) (hm : ∀ xs y, mk xs = some y -> xs = cs y)
   (h : ∀ r l, l.length <= 1000000 -> pre r l -> zbz P f [zxr std V l, .fn g [] [.ref 500000 0]] [(500000, .box ty (cs r))] (.bool (p r l)) [(500000, .box ty (cs r))]) : zf0 P (yvx f g ty V.sz mk ok rd p pre std) := by
 intro raw ob T hT hp
 unfold yvx at hT
 simp only at hT
 split at hT
 rotate_left
 · cases hT
 rename_i s n get k q
 split at hT
 rotate_left
 · cases hT
 split at hT
 rotate_left
 · cases hT
 rename_i r hr
 cases hT
 obtain rfl := hm _ _ hr
 subst e1; subst e2
 obtain ⟨ho, hn, hq⟩ := hp
 have ho : okW V (.lst V.sz n get) := ho
 refine zop (fun h D μ vs hr => ym9 (fun v => zog K ho) hr) ?_
 have hl : (rdW V (.lst V.sz n get)).length = n := zin _ _ _ _
 exact h r _ (by rw [hl]; exact hn) hq
def yrv (L : zaa) : zma := yvt 94 52 (yrs L) rtP rt2 L
def yu3 (L : zaa) : zma := yvt 100 54 (yu0 L) epP ep2 L
def yrt (L : zaa) : zma := yvn 142 94 52 4 (yrs L) zsq zjn yru rt2L L
def yu1 (L : zaa) : zma := yvn 147 100 54 6 (yu0 L) zjo zgp yu2 yy2 L
def yrw (L : zaa) : zma := yvx 93 94 52 4 (yrs L) zsq zjn yg8 rt2L L
def yu4 (L : zaa) : zma := yvx 99 100 54 6 (yu0 L) zjo zgp zte yy2 L
def ixfA {α : Type} (L : zaa) (no : α -> List α -> Nat -> Prop) (r : α) (l : List α) : Nat -> St -> Option Ann := fun id st => match id with
 | 0 => some ⟨Nat, fun i => [(8, .int .i64 (L zan i))], fun i => [], [0, 1, 6, 7], [500000], fun i => L (L (L no r) l) i, fun i => L2 L toM l i⟩
 | _ => none
theorem yrr {r x : Rt} (hp : rt2 r x) : upto 1000000000 x.h /\ upto 1000000000 r.h /\ (ziz x.h = ziz r.h -> seq x.p r.p = rtP r x) /\ (¬ziz x.h = ziz r.h -> false = rtP r x) := by
 refine ⟨?_, ?_, fun h => ?_, fun h => ?_⟩
 · have := hp.2
   show _ <= 1000000000
   omega
 · have := hp.1
   show _ <= 1000000000
   omega
 · rw [rtP, decide_eq_true h, Bool.true_and, Bool.eq_iff_iff]; simp [seq]
 · rw [rtP, decide_eq_false h]; rfl
theorem ytz (r x : Ep) : (ieq x.pl.a r.pl.a && (ieq x.pl.b r.pl.b && (ieq x.pl.c r.pl.c && (ieq x.pl.d r.pl.d && true))) && (ieq x.pl.p r.pl.p && true)) = epP r x := by
 rw [Bool.eq_iff_iff]
 simp only [ieq, epP, Bool.and_eq_true, decide_eq_true_eq, beq_iff_eq, plEq, and_true]
 simp [and_assoc]
theorem zx0 : zf0 Tryz.prog (yrv std) := by
 refine ydq (cs := yai std) (fun _ _ => zsb) fun r x hp => ?_
 refine zbi (T := tt) (S := fun L => zc6 [zos L] []) (lo := noA) (lb := noA) 5 (fn := Tryz.f94) (xs := fun L => [.agg (yai L x), .ref 500000 0]) (rts := fun L => [.bool (L2 L rtP r x)]) (O := fun L => [(500000, .box 52 (yai L r))]) (O1 := fun L => [(500000, .box 52 (yai L r))]) rfl rfl (by kernel_rfl) (by kernel_rfl) (by kernel_rfl) zab (zaq ⟨zn2, trivial⟩ trivial) (by kernel_rfl) ?_
 intro L P' Q' hL hP hQ
 (cbv; try simp only [syT, true_and, and_true])
 (subst hL; subst hQ; simp only [L2, L3, std] at *; try simp only [syS, reduceCtorEq, Int.reduceToNat, Int.reduceAdd, Int.reduceSub] at *)
 exact yrr hp
theorem zya : zf0 Tryz.prog (yu3 std) := by
 refine ydq (cs := ydd std) (fun _ _ => ztd) fun r x hp => ?_
 refine zbi (T := tt) (S := fun L => zc6 [] []) (lo := noA) (lb := noA) 5 (fn := Tryz.f100) (xs := fun L => [.agg (ydd L x), .ref 500000 0]) (rts := fun L => [.bool (L2 L epP r x)]) (O := fun L => [(500000, .box 54 (ydd L r))]) (O1 := fun L => [(500000, .box 54 (ydd L r))]) rfl rfl (by kernel_rfl) (by kernel_rfl) (by kernel_rfl) zab (zaq trivial trivial) (by kernel_rfl) ?_
 intro L P' Q' hL hP hQ
 (cbv; try simp only [syT, true_and, and_true])
 (subst hL; subst hQ; simp only [L2, L3, std] at *; try simp only [syS, reduceCtorEq, Int.reduceToNat, Int.reduceAdd, Int.reduceSub] at *)
 exact ytz r x
theorem zwz : zf0 Tryz.prog (yrt std) := by
 refine ycj zdu rfl rfl (cs := yai std) (fun _ _ => zsb) fun r l hz hp => ?_
 refine zbi (T := tt) (S := fun L => zc6 [] [yrv L]) (lo := fun L => ixfA L rtNo r l) (lb := noA) 5 (fn := Tryz.f142) (xs := fun L => [zor L l, .fn 94 [] [.ref 500000 0]]) (rts := fun L => [.int .i64 (L2 L yru r l)]) (O := fun L => [(500000, .box 52 (yai L r))]) (O1 := fun L => [(500000, .box 52 (yai L r))]) rfl rfl (by kernel_rfl) (by kernel_rfl) (by kernel_rfl) zab (zaq trivial ⟨zx0, trivial⟩) (by kernel_rfl) ?_
 intro L P' Q' hL hP hQ
 have hE : ∀ y : Rt, L (L (L (L Rt.mk (L Rt.h y)) (L Rt.p y)) (L Rt.c y)) (L Rt.i y) = y := by subst hL; intro y; rfl
 (cbv; try simp only [syT, true_and, and_true])
 refine ⟨⟨0, ?_⟩, fun i hi => ?_⟩
 · (cbv; try simp only [syT, true_and, and_true])
   (subst hL; subst hQ; simp only [L2, L3, std] at *; try simp only [syS, reduceCtorEq, Int.reduceToNat, Int.reduceAdd, Int.reduceSub] at *)
   exact zit _ _
 · have hi2 : rtNo r l i := by
     have h := hi
     rw [hL] at h
     exact h
   clear hi
   (cbv; try simp only [syT, true_and, and_true])
   simp only [hE]
   have hl : zb3 l = l.length := rfl
   refine ⟨fun hlt => ⟨?_, ?_, fun hb => ?_, fun hb => ⟨i + 1, ?_⟩⟩, fun hge => ?_⟩
   · (subst hL; subst hQ; simp only [L2, L3, std] at *; try simp only [syS, reduceCtorEq, Int.reduceToNat, Int.reduceAdd, Int.reduceSub] at *)
     omega
   · (subst hL; subst hQ; simp only [L2, L3, std] at *; try simp only [syS, reduceCtorEq, Int.reduceToNat, Int.reduceAdd, Int.reduceSub] at *)
     exact hp _ (by rw [zen, zb2 (V := rtV) (by omega)]; exact List.getElem_mem _)
   · (subst hL; subst hQ; simp only [L2, L3, std] at *; try simp only [syS, reduceCtorEq, Int.reduceToNat, Int.reduceAdd, Int.reduceSub] at *)
     exact (zeo (V := rtV) hi2 (by omega) hb).symm
   · (cbv; try simp only [syT, true_and, and_true])
     try simp only [hE]
     (subst hL; subst hQ; simp only [L2, L3, std] at *; try simp only [syS, reduceCtorEq, Int.reduceToNat, Int.reduceAdd, Int.reduceSub] at *)
     exact ⟨by omega, zdo (V := rtV) hi2 (by omega) hb, by show l.length - (i + 1) + 1 <= l.length - i; omega⟩
   · (subst hL; subst hQ; simp only [L2, L3, std] at *; try simp only [syS, reduceCtorEq, Int.reduceToNat, Int.reduceAdd, Int.reduceSub] at *)
     exact (zep hi2 (by omega)).symm
theorem zy9 : zf0 Tryz.prog (yu1 std) := by
 refine ycj zci rfl rfl (cs := ydd std) (fun _ _ => ztd) fun r l hz hp => ?_
 refine zbi (T := tt) (S := fun L => zc6 [] [yu3 L]) (lo := fun L => ixfA L epNo r l) (lb := noA) 5 (fn := Tryz.f147) (xs := fun L => [zgr L l, .fn 100 [] [.ref 500000 0]]) (rts := fun L => [.int .i64 (L2 L yu2 r l)]) (O := fun L => [(500000, .box 54 (ydd L r))]) (O1 := fun L => [(500000, .box 54 (ydd L r))]) rfl rfl (by kernel_rfl) (by kernel_rfl) (by kernel_rfl) zab (zaq trivial ⟨zya, trivial⟩) (by kernel_rfl) ?_
 intro L P' Q' hL hP hQ
 have hE : ∀ y : Ep, L (L Ep.mk (zxm L (L Pl.a (L Ep.pl y)) (L Pl.b (L Ep.pl y)) (L Pl.c (L Ep.pl y)) (L Pl.d (L Ep.pl y)) (L Pl.p (L Ep.pl y)))) (L Ep.w y) = y := by subst hL; intro y; rfl
 (cbv; try simp only [syT, true_and, and_true])
 refine ⟨⟨0, ?_⟩, fun i hi => ?_⟩
 · (cbv; try simp only [syT, true_and, and_true])
   (subst hL; subst hQ; simp only [L2, L3, std] at *; try simp only [syS, reduceCtorEq, Int.reduceToNat, Int.reduceAdd, Int.reduceSub] at *)
   exact zit _ _
 · have hi2 : epNo r l i := by
     have h := hi
     rw [hL] at h
     exact h
   clear hi
   (cbv; try simp only [syT, true_and, and_true])
   simp only [hE]
   have hl : zb3 l = l.length := rfl
   refine ⟨fun hlt => ⟨?_, ?_, fun hb => ?_, fun hb => ⟨i + 1, ?_⟩⟩, fun hge => ?_⟩
   · (subst hL; subst hQ; simp only [L2, L3, std] at *; try simp only [syS, reduceCtorEq, Int.reduceToNat, Int.reduceAdd, Int.reduceSub] at *)
     omega
   · (subst hL; subst hQ; simp only [L2, L3, std] at *; try simp only [syS, reduceCtorEq, Int.reduceToNat, Int.reduceAdd, Int.reduceSub] at *)
     exact hp _ (by rw [zdw, zb2 (V := epV) (by omega)]; exact List.getElem_mem _)
   · (subst hL; subst hQ; simp only [L2, L3, std] at *; try simp only [syS, reduceCtorEq, Int.reduceToNat, Int.reduceAdd, Int.reduceSub] at *)
     exact (zeo (V := epV) hi2 (by omega) hb).symm
   · (cbv; try simp only [syT, true_and, and_true])
     try simp only [hE]
     (subst hL; subst hQ; simp only [L2, L3, std] at *; try simp only [syS, reduceCtorEq, Int.reduceToNat, Int.reduceAdd, Int.reduceSub] at *)
     exact ⟨by omega, zdo (V := epV) hi2 (by omega) hb, by show l.length - (i + 1) + 1 <= l.length - i; omega⟩
   · (subst hL; subst hQ; simp only [L2, L3, std] at *; try simp only [syS, reduceCtorEq, Int.reduceToNat, Int.reduceAdd, Int.reduceSub] at *)
     exact (zep hi2 (by omega)).symm
theorem zx1 : zf0 Tryz.prog (yrw std) := by
 refine yei zdu rfl rfl (cs := yai std) (fun _ _ => zsb) fun r l hz hp => ?_
 refine zbi (T := tt) (S := fun L => zc6 [] [yrt L]) (lo := fun L => noA L) (lb := noA) 5 (fn := Tryz.f93) (xs := fun L => [zor L l, .fn 94 [] [.ref 500000 0]]) (rts := fun L => [.bool (L2 L yg8 r l)]) (O := fun L => [(500000, .box 52 (yai L r))]) (O1 := fun L => [(500000, .box 52 (yai L r))]) rfl rfl (by kernel_rfl) (by kernel_rfl) (by kernel_rfl) zab (zaq trivial ⟨zwz, trivial⟩) (by kernel_rfl) ?_
 intro L P' Q' hL hP hQ
 have hE : ∀ y : Rt, L (L (L (L Rt.mk (L Rt.h y)) (L Rt.p y)) (L Rt.c y)) (L Rt.i y) = y := by subst hL; intro y; rfl
 (cbv; try simp only [syT, true_and, and_true])
 simp only [hE]
 (subst hL; subst hQ; simp only [L2, L3, std] at *; try simp only [syS, reduceCtorEq, Int.reduceToNat, Int.reduceAdd, Int.reduceSub] at *)
 simp only [ymf]
 refine ⟨⟨ymx _, hz, hp⟩, ?_⟩
 have := zfd (rtP r) l
 rw [znb, show yg8 r l = l.any (rtP r) from rfl, <- this]; rfl
theorem zyb : zf0 Tryz.prog (yu4 std) := by
 refine yei zci rfl rfl (cs := ydd std) (fun _ _ => ztd) fun r l hz hp => ?_
 refine zbi (T := tt) (S := fun L => zc6 [] [yu1 L]) (lo := fun L => noA L) (lb := noA) 5 (fn := Tryz.f99) (xs := fun L => [zgr L l, .fn 100 [] [.ref 500000 0]]) (rts := fun L => [.bool (L2 L zte r l)]) (O := fun L => [(500000, .box 54 (ydd L r))]) (O1 := fun L => [(500000, .box 54 (ydd L r))]) rfl rfl (by kernel_rfl) (by kernel_rfl) (by kernel_rfl) zab (zaq trivial ⟨zy9, trivial⟩) (by kernel_rfl) ?_
 intro L P' Q' hL hP hQ
 have hE : ∀ y : Ep, L (L Ep.mk (zxm L (L Pl.a (L Ep.pl y)) (L Pl.b (L Ep.pl y)) (L Pl.c (L Ep.pl y)) (L Pl.d (L Ep.pl y)) (L Pl.p (L Ep.pl y)))) (L Ep.w y) = y := by subst hL; intro y; rfl
 (cbv; try simp only [syT, true_and, and_true])
 simp only [hE]
 (subst hL; subst hQ; simp only [L2, L3, std] at *; try simp only [syS, reduceCtorEq, Int.reduceToNat, Int.reduceAdd, Int.reduceSub] at *)
 simp only [yas]
 refine ⟨⟨ybe _, hz, hp⟩, ?_⟩
 have := zfd (epP r) l
 rw [znb, show zte r l = l.any (epP r) from rfl, <- this]; rfl
end Sy
end Go.Proofs.YthppjaoicibeiaaGreatDoor
namespace Go.Proofs.YthppjaoicibeiaaGreatDoor
namespace Sy
open Go Go.RowKit
set_option maxRecDepth 100000
set_option linter.unusedSimpArgs false
set_option linter.unusedVariables false
def yhb (x : Ls) (a : List Ls) : Int := zt9 [ysr x.n (a.map Ls.n), soZ (decide (x.pl.p = 0)) 7, soZ (a.any fun y => zuv y.pl x.pl) 13, soZ (decide (x.rs.length = 0)) 12]
def yqx (x : Cl) (a : List Cl) : Int := zt9 [ysr x.n (a.map Cl.n), soZ (decide (x.es.length = 0)) 12]
def yqm (x : Ep) : Bool := decide (x.pl.p = 0) || (zfs x.pl || (decide (x.w < 1) || decide (100 < x.w)))
def yqv (x : Ep) (a : List Ep) : Int := zt9 [soZ (yqm x) 7, soZ (zte x a) 11]
noncomputable def yrp (c : Cf) (x : Rt) (a : List Rt) : Int := zt9 [zqy x.h, ymr x.p, soZ (!ycv c.cs x.c) 12, soZ (yg8 x a) 11]
def ybp (x : Ls) (l : List Ls) (i : Nat) : Bool := (l.take i).any fun y => zuv y.pl x.pl
def leM {α : Type} (l : List α) (i : Nat) : Prop := i <= l.length
def ynj (l : List Ls) (i : Nat) : Prop := leM l i
def ynk (l : List Cl) (i : Nat) : Prop := leM l i
def lsnA (L : zaa) (x : Ls) (l : List Ls) : Nat -> St -> Option Ann := fun id st => match id with
 | 0 => some ⟨Nat, fun i => [(11, .int .i64 (L zan i)), (5, .sl 900 1 0 i), (6, .bool (L3 L ybp x l i))], fun i => [(900, .row 9 1 i (fun q _ => .str (L Ls.n (L2 L zap l q))))], [2, 9, 10], [2], fun i => L2 L ynj l i, fun i => L2 L goLs l i⟩
 | _ => none
theorem yo0 (a b : Int) : ieq a b = decide (a = b) := by simp [ieq, Bool.beq_eq_decide_eq]
theorem yny (n : Nat) : ieq (n : Int) 0 = decide (n = 0) := by
 rw [yo0, decide_eq_decide]; omega
theorem zn0 {x : Ls} {l : List Ls} {i : Nat} (h : i < l.length) : ybp x l (i + 1) = (ybp x l i || zuv (zap l i).pl x.pl) := by
 unfold ybp
 rw [List.take_succ_eq_append_getElem h, List.any_append, zap, zb2 (V := lsV) h]; simp
theorem ybl {α : Type} (f : Nat -> List UInt8) (g : α -> List UInt8) (l : List α) {n : Nat} (hn : n = l.length) (h : ∀ i (hi : i < l.length), f i = g l[i]) : okT (.lst 1 n fun q _ => .str (f q)) /\ rdT (.lst 1 n fun q _ => .str (f q)) = l.map g := by
 subst hn
 refine ⟨⟨rfl, fun i _ => ⟨_, rfl⟩⟩, ?_⟩
 unfold rdT
 apply List.ext_getElem
 · simp
 · intro i h1 h2
   simp only [List.getElem_map, List.getElem_range]
   exact h i (by simpa using h1)
theorem zgj (l : List Int) {n : Nat} (hn : n = l.length) : okJ (.lst 1 n fun q _ => .int .i64 (za2 l q)) /\ rdJ (.lst 1 n fun q _ => .int .i64 (za2 l q)) = l := by
 subst hn
 refine ⟨⟨rfl, fun i _ => ⟨_, rfl⟩⟩, ?_⟩
 unfold rdJ
 apply List.ext_getElem
 · simp
 · intro i h1 h2
   simp only [List.getElem_map, List.getElem_range]
   show za2 l i = _
   rw [za2, List.getD_eq_getElem?_getD, List.getElem?_eq_getElem h2]; rfl
theorem zsg (f : Nat -> List UInt8) (i q : Nat) (hq : q < i + 1) : zgv std (zbo q i) (AV.str (f q)) (AV.str (zdd [f i] (q - i))) = AV.str (f q) := by
 by_cases h : q < i
 · rw [zm0 h]; rfl
 · obtain rfl : q = i := by omega
   rw [zpn (by omega), Nat.sub_self]; rfl
theorem zp9 {l m : List Int} {n : Nat} (hn : n = l.length) (h : l = m) (h2 : n <= 100) : (okJ (.lst 1 n fun q _ => .int .i64 (za2 l q)) /\ (rdJ (.lst 1 n fun q _ => .int .i64 (za2 l q))).length <= 1000000) /\ zt9 (rdJ (.lst 1 n fun q _ => .int .i64 (za2 l q))) = zt9 m := by
 obtain ⟨h3, h4⟩ := zgj l hn
 refine ⟨⟨h3, ?_⟩, ?_⟩
 · rw [h4]; omega
 · rw [h4, h]
def ynd (L : zaa) : zb4 := (49, fun xs => match xs with
 | [x, y] => some (L zl4 x /\ L zoh y /\ L zh6 (L zhl y), .int .i64 (L2 L yhb (L zhm x) (L zhl y)))
 | _ => none)
theorem yha : zao Tryz.prog (ynd std) := by
 intro xs p r h hp
 dsimp only [ynd] at h |-
 split at h <;> cases h
 try simp only [L2, L3, std] at hp |-
 rename_i x y
 obtain ⟨ho, ho2, hz⟩ := hp
 refine zpq zcw ho (yq9 zcw ho2 ?_)
 have hz : zh6 (zhl y) := hz
 show za9 _ _ [.agg ((List.range 7).map (lsC std (zhm x))), zfn std (zhl y)] (.int .i64 (yhb (zhm x) (zhl y)))
 generalize zhm x = z at hz |-
 generalize zhl y = l at hz |-
 have hz : l.length <= 1000000 := hz
 refine za8 (T := tt) (S := fun L => zad [yql L, zy6 L, ygs L, ybs L]) (lo := fun L => lsnA L z l) (lb := noA) 5 (fn := Tryz.f49) (xs := fun L => [.agg [.str (L Ls.n z), .int .u8 (L Pl.a (L Ls.pl z)), .int .u8 (L Pl.b (L Ls.pl z)), .int .u8 (L Pl.c (L Ls.pl z)), .int .u8 (L Pl.d (L Ls.pl z)), .int .u16 (L Pl.p (L Ls.pl z)), zor L (L Ls.rs z)], zfn L l]) rfl rfl (by kernel_rfl) (by kernel_rfl) rfl zab (za1 ⟨zo2, zk9, zv9, ybt, trivial⟩) (by kernel_rfl) ?_
 intro L P' Q' hL hP hQ
 have hE2 : ∀ y : Pl, zxm L (L Pl.a y) (L Pl.b y) (L Pl.c y) (L Pl.d y) (L Pl.p y) = y := by subst hL; intro y; rfl
 (cbv; try simp only [syT, true_and, and_true])
 have hl : zb3 l = l.length := rfl
 refine ⟨⟨0, ?_⟩, fun i hi => ?_⟩
 · (cbv; try simp only [syT, true_and, and_true])
   (subst hL; subst hQ; simp only [L2, L3, std] at *; try simp only [syS, reduceCtorEq, Int.reduceToNat, Int.reduceAdd, Int.reduceSub] at *)
   exact ⟨rfl, Nat.zero_le _⟩
 · cbv at hi
   (cbv; try simp only [syT, true_and, and_true])
   refine ⟨fun hlt => ⟨?_, ?_, fun hb => ⟨i + 1, ?_⟩, fun hb => ⟨i + 1, ?_⟩⟩, fun hge => ?_⟩
   · (subst hL; subst hQ; simp only [L2, L3, std] at *; try simp only [syS, reduceCtorEq, Int.reduceToNat, Int.reduceAdd, Int.reduceSub] at *)
     exact ⟨by omega, by omega⟩
   · (subst hL; subst hQ; simp only [L2, L3, std] at *; try simp only [syS, reduceCtorEq, Int.reduceToNat, Int.reduceAdd, Int.reduceSub] at *)
     exact ⟨by omega, by omega⟩
   · (cbv; try simp only [syT, true_and, and_true])
     (subst hL; subst hQ; simp only [L2, L3, std] at *; try simp only [syS, reduceCtorEq, Int.reduceToNat, Int.reduceAdd, Int.reduceSub] at *)
     refine ⟨fun a b ha hb => zsg (fun q => (zap l q).n) i a ha, ?_, by omega, by show i + 1 <= l.length; omega, by show l.length - (i + 1) + 1 <= l.length - i; omega⟩
     rw [zn0 (by omega), hb]; rfl
   · (cbv; try simp only [syT, true_and, and_true])
     (subst hL; subst hQ; simp only [L2, L3, std] at *; try simp only [syS, reduceCtorEq, Int.reduceToNat, Int.reduceAdd, Int.reduceSub] at *)
     refine ⟨fun a b ha hb => zsg (fun q => (zap l q).n) i a ha, ?_, by omega, by show i + 1 <= l.length; omega, by show l.length - (i + 1) + 1 <= l.length - i; omega⟩
     rw [zn0 (by omega), hb]; rfl
   · (subst hL; subst hQ; simp only [L2, L3, std] at *; try simp only [syS, reduceCtorEq, Int.reduceToNat, Int.reduceAdd, Int.reduceSub] at *)
     have hi : i <= l.length := hi
     obtain rfl : i = l.length := by omega
     obtain ⟨h1, h2⟩ := ybl (fun q => (zap l q).n) Ls.n l rfl (fun i hi => by rw [zap, zb2 (V := lsV) hi])
     refine ⟨⟨h1, ?_⟩, zp9 (n := 4) rfl ?_ (by decide)⟩
     · show List.length _ <= _
       rw [h2, List.length_map]; exact hz
     · rw [h2, yny, yo0, ybp, List.take_length]; rfl
def clsA (L : zaa) (x : Cl) (l : List Cl) : Nat -> St -> Option Ann := fun id st => match id with
 | 0 => some ⟨Nat, fun i => [(10, .int .i64 (L zan i)), (5, .sl 900 1 0 i)], fun i => [(900, .row 9 1 i (fun q _ => .str (L Cl.n (L2 L zar l q))))], [2, 8, 9], [2], fun i => L2 L ynk l i, fun i => L2 L yxx l i⟩
 | _ => none
def ype (L : zaa) : zb4 := (51, fun xs => match xs with
 | [x, y] => some (L zgq x /\ L zir y /\ L zh6 (L zfm y), .int .i64 (L2 L yqx (L zf6 x) (L zfm y)))
 | _ => none)
theorem yis : zao Tryz.prog (ype std) := by
 intro xs p r h hp
 dsimp only [ype] at h |-
 split at h <;> cases h
 try simp only [L2, L3, std] at hp |-
 rename_i x y
 obtain ⟨ho, ho2, hz⟩ := hp
 refine zpq zbw ho (yq9 zbw ho2 ?_)
 have hz : zh6 (zfm y) := hz
 show za9 _ _ [.agg ((List.range 2).map (clC std (zf6 x))), zes std (zfm y)] (.int .i64 (yqx (zf6 x) (zfm y)))
 generalize zf6 x = z at hz |-
 generalize zfm y = l at hz |-
 have hz : l.length <= 1000000 := hz
 refine za8 (T := tt) (S := fun L => zad [yql L, zy6 L, ygs L]) (lo := fun L => clsA L z l) (lb := noA) 5 (fn := Tryz.f51) (xs := fun L => [.agg [.str (L Cl.n z), zgr L (L Cl.es z)], zes L l]) rfl rfl (by kernel_rfl) (by kernel_rfl) rfl zab (za1 ⟨zo2, zk9, zv9, trivial⟩) (by kernel_rfl) ?_
 intro L P' Q' hL hP hQ
 (cbv; try simp only [syT, true_and, and_true])
 have hl : zb3 l = l.length := rfl
 refine ⟨⟨0, ?_⟩, fun i hi => ?_⟩
 · (cbv; try simp only [syT, true_and, and_true])
   (subst hL; subst hQ; simp only [L2, L3, std] at *; try simp only [syS, reduceCtorEq, Int.reduceToNat, Int.reduceAdd, Int.reduceSub] at *)
   exact Nat.zero_le _
 · cbv at hi
   (cbv; try simp only [syT, true_and, and_true])
   refine ⟨fun hlt => ⟨?_, ?_, ⟨i + 1, ?_⟩⟩, fun hge => ?_⟩
   · (subst hL; subst hQ; simp only [L2, L3, std] at *; try simp only [syS, reduceCtorEq, Int.reduceToNat, Int.reduceAdd, Int.reduceSub] at *)
     exact ⟨by omega, by omega⟩
   · (subst hL; subst hQ; simp only [L2, L3, std] at *; try simp only [syS, reduceCtorEq, Int.reduceToNat, Int.reduceAdd, Int.reduceSub] at *)
     exact ⟨by omega, by omega⟩
   · (cbv; try simp only [syT, true_and, and_true])
     (subst hL; subst hQ; simp only [L2, L3, std] at *; try simp only [syS, reduceCtorEq, Int.reduceToNat, Int.reduceAdd, Int.reduceSub] at *)
     exact ⟨fun a b ha hb => zsg (fun q => (zar l q).n) i a ha, by omega, by show i + 1 <= l.length; omega, by show l.length - (i + 1) + 1 <= l.length - i; omega⟩
   · (subst hL; subst hQ; simp only [L2, L3, std] at *; try simp only [syS, reduceCtorEq, Int.reduceToNat, Int.reduceAdd, Int.reduceSub] at *)
     have hi : i <= l.length := hi
     obtain rfl : i = l.length := by omega
     obtain ⟨h1, h2⟩ := ybl (fun q => (zar l q).n) Cl.n l rfl (fun i hi => by rw [zar, zb2 (V := clV) hi])
     refine ⟨⟨h1, ?_⟩, zp9 (n := 2) rfl ?_ (by decide)⟩
     · show List.length _ <= _
       rw [h2, List.length_map]; exact hz
     · rw [h2, yny]; rfl
def yoz (L : zaa) : zb4 := (52, fun xs => match xs with
 | [x, y] => some (L zl5 x /\ L zjo y /\ L zh6 (L zgp y), .int .i64 (L2 L yqv (L zhn x) (L zgp y)))
 | _ => none)
theorem yid : zao Tryz.prog (yoz std) := by
 intro xs p r h hp
 dsimp only [yoz] at h |-
 split at h <;> cases h
 try simp only [L2, L3, std] at hp |-
 rename_i x y
 obtain ⟨ho, ho2, hz⟩ := hp
 refine zpq zci ho (yq9 zci ho2 ?_)
 have hz : zh6 (zgp y) := hz
 show za9 _ _ [.agg ((List.range 6).map (epC std (zhn x))), zgr std (zgp y)] (.int .i64 (yqv (zhn x) (zgp y)))
 generalize zhn x = z at hz |-
 generalize zgp y = l at hz |-
 have hz : l.length <= 1000000 := hz
 refine za8 (T := tt) (S := fun L => zc6 [yql L, zy6 L, yix L] [yu4 L]) (lo := noA) (lb := noA) 5 (fn := Tryz.f52) (xs := fun L => [.agg [.int .u8 (L Pl.a (L Ep.pl z)), .int .u8 (L Pl.b (L Ep.pl z)), .int .u8 (L Pl.c (L Ep.pl z)), .int .u8 (L Pl.d (L Ep.pl z)), .int .u16 (L Pl.p (L Ep.pl z)), .int .i64 (L Ep.w z)], zgr L l]) rfl rfl (by kernel_rfl) (by kernel_rfl) rfl zab (zaq ⟨zo2, zk9, zw7, trivial⟩ ⟨zyb, trivial⟩) (by kernel_rfl) ?_
 intro L P' Q' hL hP hQ
 have hE : ∀ y : Ep, L (L Ep.mk (zxm L (L Pl.a (L Ep.pl y)) (L Pl.b (L Ep.pl y)) (L Pl.c (L Ep.pl y)) (L Pl.d (L Ep.pl y)) (L Pl.p (L Ep.pl y)))) (L Ep.w y) = y := by subst hL; intro y; rfl
 (cbv; try simp only [syT, true_and, and_true])
 simp only [hE]
 (subst hL; subst hQ; simp only [L2, L3, std] at *; try simp only [syS, reduceCtorEq, Int.reduceToNat, Int.reduceAdd, Int.reduceSub] at *)
 simp only [yas]
 have hw : zjo (AV.lst 6 (zb3 l) fun i => epC (@std) (zdw l i)) /\ upM (zb3 l) /\ yy2 z l := ⟨ybe _, hz, fun _ _ => trivial⟩
 have key : ∀ b, b = yqm z -> (okJ (AV.lst 1 2 fun i x => AV.int .i64 (za2 [soZ b 7, soZ (zte z l) 11] i)) /\ (rdJ (AV.lst 1 2 fun i x => AV.int .i64 (za2 [soZ b 7, soZ (zte z l) 11] i))).length <= 1000000) /\ zt9 (rdJ (AV.lst 1 2 fun i x => AV.int .i64 (za2 [soZ b 7, soZ (zte z l) 11] i))) = yqv z l := by
   rintro b rfl
   exact zp9 (n := 2) rfl rfl (by decide)
 have e1 : zfs (zxm (@std) z.pl.a z.pl.b z.pl.c z.pl.d z.pl.p) = zfs z.pl := rfl
 rw [e1]
 refine ⟨fun h1 => ⟨hw, key _ ?_⟩, fun h1 => ⟨fun h2 => ⟨hw, key _ ?_⟩, fun h2 => ⟨fun h3 => ⟨hw, key _ ?_⟩, fun h3 => ⟨hw, key _ ?_⟩⟩⟩⟩
 · rw [yqm, decide_eq_true h1]; rfl
 · rw [yqm, h2]; simp
 · rw [yqm, decide_eq_true h3]; simp
 · rw [yqm, decide_eq_false h1, h2, decide_eq_false (show ¬ z.w < 1 by omega)]; simp [ilt]
def lgtR (l : List Rt) : Prop := ∀ x ∈ l, zle x = true
def yrq (c : Cf) (x : Rt) (l : List Rt) : Prop := yhg c /\ zle x = true /\ lgtR l /\ zh6 l
noncomputable def ym6 (L : zaa) : zb4 := (50, fun xs => match xs with
 | [x, y, z] => some (L zfv x /\ L zxh y /\ L zsq z /\ L3 L yrq (L zat x) (L zkz y) (L zjn z), .int .i64 (L3 L yrp (L zat x) (L zkz y) (L zjn z)))
 | _ => none)
theorem yuy {α : Type} {V : Vw α} (K : znq V) {P : Program} {f : FuncId} {a x r : AV} {q : List AV} (ho : okG V x) (h : za9 P f (a :: .agg ((List.range V.sz).map (V.cell std (rdG V x))) :: q) r) : za9 P f (a :: x :: q) r :=
 zdm (fun h D vs hr => yrz (fun v => G_R K ho) hr) h
theorem rl_3 {h : Array Obj} {D : Nat -> Prop} {μ : Mu} {a b x y : AV} {r : List AV} {vs : Array Value} (e : ∀ v, R h D μ x v -> R h D μ y v) (hr : RL h D μ (a :: b :: x :: r) vs) : RL h D μ (a :: b :: y :: r) vs := by
 refine ⟨by rw [<- hr.1]; rfl, fun i z v hz hv => ?_⟩
 match i, hz with
 | 0, hz => exact hr.2 0 z v hz hv
 | 1, hz => exact hr.2 1 z v hz hv
 | 2, hz => cases hz; exact e v (hr.2 2 x v rfl hv)
 | i + 3, hz => exact hr.2 (i + 3) z v hz hv
theorem ac_w3 {α : Type} {V : Vw α} (K : znq V) {P : Program} {f : FuncId} {a b x r : AV} {q : List AV} (ho : okW V x) (h : za9 P f (a :: b :: zxr std V (rdW V x) :: q) r) : za9 P f (a :: b :: x :: q) r :=
 zdm (fun h D vs hr => rl_3 (fun v => zog K ho) hr) h
theorem yg7 : zao Tryz.prog (ym6 std) := by
 intro xs p r h hp
 dsimp only [ym6] at h |-
 split at h <;> cases h
 try simp only [L2, L3, std] at hp |-
 rename_i x y z
 obtain ⟨ho, ho2, ho3, hz⟩ := hp
 refine zpq zcx ho (yuy zdu ho2 (ac_w3 zdu ho3 ?_))
 have hz : yrq (zat x) (zkz y) (zjn z) := hz
 show za9 _ _ [.agg ((List.range 3).map (cfC std (zat x))), .agg ((List.range 4).map (rtC std (zkz y))), zor std (zjn z)] (.int .i64 (yrp (zat x) (zkz y) (zjn z)))
 generalize zat x = c at hz |-
 generalize zkz y = r at hz |-
 generalize zjn z = l at hz |-
 obtain ⟨h1, h2, h3, h4⟩ := hz
 refine za8 (T := tt) (S := fun L => zc6 [yql L, zy6 L, ypd L, yck L, yb0 L] [yrw L]) (lo := noA) (lb := noA) 5 (fn := Tryz.f50) (xs := fun L => [.agg [.int .u64 (L Cf.v c), zfn L (L Cf.ls c), zes L (L Cf.cs c)], .agg [.str (L Rt.h r), .str (L Rt.p r), .str (L Rt.c r), .int .u64 (L Rt.i r)], zor L l]) rfl rfl (by kernel_rfl) (by kernel_rfl) rfl zab (zaq ⟨zo2, zk9, yir, ycl, yb1, trivial⟩ ⟨zx1, trivial⟩) (by kernel_rfl) ?_
 intro L P' Q' hL hP hQ
 have hE : ∀ y : Rt, L (L (L (L Rt.mk (L Rt.h y)) (L Rt.p y)) (L Rt.c y)) (L Rt.i y) = y := by subst hL; intro y; rfl
 have hG : ∀ y : Cf, L zat (.agg [.int .u64 (L Cf.v y), .lst 7 (L zb3 (L Cf.ls y)) (fun i => lsC L (L (L zap (L Cf.ls y)) i)), .lst 2 (L zb3 (L Cf.cs y)) (fun i => clC L (L (L zar (L Cf.cs y)) i))]) = y := by subst hL; exact fun y => (gK zcx y _ rfl).2
 have hO : ∀ y : Cf, L zfv (.agg [.int .u64 (L Cf.v y), .lst 7 (L zb3 (L Cf.ls y)) (fun i => lsC L (L (L zap (L Cf.ls y)) i)), .lst 2 (L zb3 (L Cf.cs y)) (fun i => clC L (L (L zar (L Cf.cs y)) i))]) := by subst hL; exact fun y => (gK zcx y _ rfl).1
 (cbv; try simp only [syT, true_and, and_true])
 simp only [hE, hG, hO, true_and]
 (subst hL; subst hQ; simp only [L2, L3, std] at *; try simp only [syS, reduceCtorEq, Int.reduceToNat, Int.reduceAdd, Int.reduceSub] at *)
 clear hG hO
 simp only [ymf]
 simp only [zle, Bool.and_eq_true, decide_eq_true_eq] at h2
 refine ⟨h1, ⟨ymx _, h4, fun x hx => ?_⟩, ?_, ?_, zp9 (n := 4) rfl rfl (by decide)⟩
 · have q := h3 x hx
   simp only [zle, Bool.and_eq_true, decide_eq_true_eq] at q
   exact ⟨by omega, by omega⟩
 · show _ <= 1000000000
   omega
 · show _ <= 1000000000
   omega
end Sy
end Go.Proofs.YthppjaoicibeiaaGreatDoor
namespace Go.Proofs.YthppjaoicibeiaaGreatDoor
namespace Sy
open Go Go.RowKit
set_option maxRecDepth 100000
set_option linter.unusedSimpArgs false
set_option linter.unusedVariables false
structure Ft where
 c : Int
 w : List UInt8
 deriving DecidableEq
def ftC (L : zaa) (x : Ft) : Nat -> AV
 | 0 => .int .i64 (L Ft.c x)
 | _ => .str (L Ft.w x)
def ftV : Vw Ft := ⟨2, ftC, fun c => ⟨(c 0).toI, zx8 (c 1)⟩, fun c => isI .i64 (c 0) /\ isS (c 1), ⟨0, []⟩⟩
def zh2 (l : List Ft) (i : Nat) : Ft := zok ftV l i
def yh9 (L : zaa) (l : List Ft) : AV := .lst 2 (L zb3 l) (fun i => ftC L (L (L zh2 l) i))
def ymz (x : AV) : Prop := okW ftV x
def zx7 (x : AV) : List Ft := rdW ftV x
theorem yct : znq ftV := by
 refine ⟨fun c hc j hj h D μ v r => ?_, fun c x hx => ?_⟩
 · obtain ⟨h0, h1⟩ := hc
   match j, hj with
   | 0, _ => exact zp0 h0 r
   | 1, _ => exact zxv h1 r
 · have e0 := hx 0 (by decide)
   have e1 := hx 1 (by decide)
   refine ⟨⟨⟨_, e0⟩, ⟨_, e1⟩⟩, ?_⟩
   show Ft.mk (c 0).toI (zx8 (c 1)) = x
   rw [e0, e1]; rfl
theorem yww (l : List Ft) : zx7 (.lst 2 (zb3 l) fun i => ftC std (zh2 l i)) = l := (zcn yct l).2
theorem yx6 (l : List Ft) : ymz (.lst 2 (zb3 l) fun i => ftC std (zh2 l i)) := (zcn yct l).1
def yqd (o o' : Ob) : Prop := ∀ h D μ x, zhg h D μ o x -> zhg h D μ o' x
theorem yqd.refl (o : Ob) : yqd o o := fun _ _ _ _ h => h
inductive yep : List (Nat × Ob) -> List (Nat × Ob) -> Prop
 | nil : yep [] []
 | cons (n : Nat) {o o' : Ob} {r r' : List (Nat × Ob)} (h : yqd o o') (hr : yep r r') : yep ((n, o) :: r) ((n, o') :: r')
theorem yep.none {O O' : List (Nat × Ob)} (h : yep O O') (i : Nat) : za3 O' i = Option.none ↔ za3 O i = Option.none := by
 induction h with
 | nil => exact Iff.rfl
 | cons n h hr ih =>
   simp only [za3]
   cases zak n i <;> simp [ih]
theorem yep.get {O O' : List (Nat × Ob)} (h : yep O O') {i : Nat} {o' : Ob} (e : za3 O' i = some o') : ∃ o, za3 O i = some o /\ yqd o o' := by
 induction h with
 | nil => cases e
 | cons n h hr ih =>
   simp only [za3] at e |-
   cases hb : zak n i with
   | true => rw [hb] at e; cases e; exact ⟨_, rfl, h⟩
   | false => rw [hb] at e; exact ih e
theorem yxe {P : Program} {f : FuncId} {xs : List AV} {O O' : List (Nat × Ob)} {r : AV} {O1 : List (Nat × Ob)} (hO : yep O O') (h : zbz P f xs O' r O1) : zbz P f xs O r O1 := by
 intro D w μ vs hD hxs hdom hobs hinj hown hg hgb
 have hcall := h D w μ vs hD hxs (fun i => (hdom i).trans (hO.none i).symm) (fun i o x ho1 hx => by
   obtain ⟨o0, h1, h2⟩ := hO.get ho1
   exact h2 _ _ _ _ (hobs i o0 x h1 hx)) hinj hown hg hgb
 unfold zf1 at hcall |-
 have key : ∀ e w', (∃ v D' μ', yqg D w μ O' O1 r e v w' D' μ') -> ∃ v D' μ', yqg D w μ O O1 r e v w' D' μ' := by
   rintro e w' ⟨v, D', μ', m⟩
   exact ⟨v, D', μ', { m with keep := fun i h1 h2 => m.keep i (fun h3 => h1 ((hO.none i).1 h3)) h2 }⟩
 split at hcall
 · exact hcall.mono fun e w' h => key e w' h
 · exact key _ _ hcall
 · exact hcall.elim
theorem yt1 {α : Type} {V : Vw α} (K : znq V) {ty n : Nat} {get : Nat -> Nat -> AV} (ho : okW V (.lst V.sz n get)) : yqd (.row ty V.sz n get) (.row ty V.sz n (yxy std V (rdW V (.lst V.sz n get)))) := by
 intro h D μ x hx
 match x, hx with
 | some (b, z, m), ⟨r0, c, t, fr, e, r1, r2, r3, r4⟩ =>
   refine ⟨r0, c, t, fr, e, r1, r2, r3, fun i j hi hj => ?_⟩
   obtain ⟨v, v1, v2, v3⟩ := r4 i j hi hj
   refine ⟨v, v1, v2, ?_⟩
   show R h D zam (V.cell std (zok V (rdW V (.lst V.sz n get)) i) j) v
   rw [yav hi]
   exact K.turn _ (ho.2 i hi) j hj _ _ _ _ v3
 | none, h0 => exact h0
theorem yni {ty n : Nat} {get : Nat -> Nat -> AV} (ho : okJ (.lst 1 n get)) : yqd (.row ty 1 n get) (.row ty 1 n (fun i _ => .int .i64 (za2 (rdJ (.lst 1 n get)) i))) := by
 intro h D μ x hx
 match x, hx with
 | some (b, z, m), ⟨r0, c, t, fr, e, r1, r2, r3, r4⟩ =>
   refine ⟨r0, c, t, fr, e, r1, r2, r3, fun i j hi hj => ?_⟩
   obtain ⟨v, v1, v2, v3⟩ := r4 i j hi hj
   refine ⟨v, v1, v2, ?_⟩
   have : j = 0 := by omega
   subst this
   obtain ⟨y, hy⟩ := ho.2 i hi
   rw [hy] at v3
   show R h D zam (.int .i64 (za2 (rdJ (.lst 1 n get)) i)) v
   rw [rdJ, zv6 _ _ _ hi, hy]
   exact v3
 | none, h0 => exact h0
def ftI (e : Int) (w : List UInt8) : List Ft := if e ≠ 0 then [⟨e, w⟩] else []
def tlZ (e : Int) (w : List UInt8) (i : List Int) (o : List Ft) : List Ft := o ++ ftI e (whZ w i)
def L4 {α β γ δ ε : Type} (L : zaa) (f : α -> β -> γ -> δ -> ε) (a : α) (b : β) (c : γ) (d : δ) : ε := L (L (L (L f a) b) c) d
def zr2 (L : zaa) (l : List Ft) : Ob := .row 62 2 (L zb3 l) (fun q => ftC L (L (L zh2 l) q))
def tlO (L : zaa) (i : List Int) (o : List Ft) : List (Nat × Ob) := [(500000, .box 56 [.sl 500002 2 0 (L zb3 o)]), (500001, .row 3 1 (L zxt i) (fun q _ => .int .i64 (L2 L za2 i q))), (500002, zr2 L o)]
def ywj (L : zaa) (e : Int) (w : List UInt8) (i : List Int) (o : List Ft) : List (Nat × Ob) := [(500000, .box 56 [.sl 900 2 0 (L zb3 (L4 L tlZ e w i o))]), (900, zr2 L (L4 L tlZ e w i o))]
def tlA (L : zaa) (e : Int) (w : List UInt8) (i : List Int) (o : List Ft) : Nat -> St -> Option Ann := fun id st => match id with
 | 1000008 => some ⟨Nat, fun _ => [], fun _ => [(500000, .box 56 [.sl 900 2 0 (L zb3 (L4 L tlZ e w i o))]), (900, zr2 L (L4 L tlZ e w i o))], [3], [], fun _ => True, fun _ => 0⟩
 | _ => none
theorem ybi {l : List Ft} {y : Ft} {q : Nat} (hq : q < l.length + 1) : zh2 (l ++ [y]) q = if q < l.length then zh2 l q else y := by
 unfold zh2
 rw [zb2 (V := ftV) (by simpa using hq)]
 split
 · rename_i h
   rw [List.getElem_append_left h, zb2 (V := ftV) h]
 · rename_i h
   obtain rfl : q = l.length := by omega
   rw [List.getElem_append_right (Nat.le_refl _)]; simp
theorem yoj {l : List Ft} {c : Int} {w : List UInt8} {q j : Nat} (hq : q < l.length + 1) (hj : j < 2) : zgv std (zbo q l.length) (ftC std (zh2 l q) j) (zbm AV.dead [AV.int .i64 c, AV.str w] ((q - l.length) * 2 + j)) = ftC std (zh2 (l ++ [⟨c, w⟩]) q) j := by
 rw [ybi hq]
 by_cases h : q < l.length
 · rw [zm0 h, if_pos h, show q - l.length = 0 by omega]
   match j, hj with
   | 0, _ => rfl
   | 1, _ => rfl
 · rw [zpn h, if_neg h, show q - l.length = 0 by omega]
   match j, hj with
   | 0, _ => rfl
   | 1, _ => rfl
theorem yji {e : Int} {w : List UInt8} {i : List Int} {o : List Ft} (h : ¬ e = 0) : tlZ e w i o = o ++ [⟨e, whZ w i⟩] := by rw [tlZ, ftI, if_pos h]
theorem yrg {w : List UInt8} {i : List Int} {o : List Ft} : tlZ 0 w i o = o := by rw [tlZ, ftI, if_neg (fun h => h rfl), List.append_nil]
theorem ywh {e : Int} {w : List UInt8} {i : List Int} {o : List Ft} (hw : yku w i) (ho : o.length <= 1000000) : zbz Tryz.prog 47 [.int .i64 e, .str w, .sl 500001 1 0 (zxt i), .ref 500000 0] (tlO std i o) (.tup []) (ywj std e w i o) := by
 refine zbi (T := tt) (S := fun L => zc6 [yks L] []) (lo := fun L => tlA L e w i o) (lb := noA) 5 (fn := Tryz.f47) (xs := fun L => [.int .i64 e, .str w, .sl 500001 1 0 (L zxt i), .ref 500000 0]) (rts := fun L => []) (O := fun L => tlO L i o) (O1 := fun L => ywj L e w i o) rfl rfl (by kernel_rfl) (by kernel_rfl) (by kernel_rfl) zab (zaq ⟨yf6, trivial⟩ trivial) (by kernel_rfl) ?_
 intro L P' Q' hL hP hQ
 (cbv; try simp only [syT, true_and, and_true])
 refine ⟨⟨fun h1 => ⟨⟨?_, ?_⟩, ?_, ⟨0, ?_⟩⟩, fun h1 => ⟨0, ?_⟩⟩, fun x hx => ?_⟩
 all_goals try (cbv; try simp only [syT, true_and, and_true])
 all_goals (subst hL; subst hQ; simp only [L2, L3, std] at *; try simp only [syS, reduceCtorEq, Int.reduceToNat, Int.reduceAdd, Int.reduceSub] at *)
 · exact (zgj i rfl).1
 · rw [show rdJ (AV.lst 1 (zxt i) fun k x => AV.int .i64 (za2 i k)) = i from (zgj i rfl).2]; exact hw
 · have : zb3 o = o.length := rfl
   omega
 · rw [show rdJ (AV.lst 1 (zxt i) fun k x => AV.int .i64 (za2 i k)) = i from (zgj i rfl).2]
   have e1 : o.length + 1 = (tlZ e w i o).length := by rw [yji h1, List.length_append]; rfl
   refine ⟨⟨e1, fun a b ha hb => ?_⟩, e1⟩
   have ha : a < (tlZ e w i o).length := ha
   rw [yji h1]
   exact yoj (by omega) hb
 · subst h1
   rw [show L4 std tlZ 0 w i o = o from yrg, yrg]
   exact ⟨⟨rfl, fun _ _ _ _ => rfl⟩, rfl⟩
def ywi (L : zaa) : zma := (47, fun raw ob => match raw with
 | [.int .i64 e, .str w, .sl a 1 0 n, .ref k 0] => match ob a, ob k with
   | some (.row _ _ m get), some (.box _ [.sl b 2 0 q]) => match ob b with
     | some (.row _ _ m2 gf) => some ⟨[.int .i64 e, .str w, .sl 500001 1 0 n, .ref 500000 0], [(500000, .box 56 [.sl 500002 2 0 q]), (500001, .row 3 1 n get), (500002, .row 62 2 q gf)], L okJ (.lst 1 n get) /\ L2 L yku w (L rdJ (.lst 1 n get)) /\ L ymz (.lst 2 q gf) /\ L upM q, .tup [], ywj L e w (L rdJ (.lst 1 n get)) (L zx7 (.lst 2 q gf))⟩
     | _ => none
   | _, _ => none
 | _ => none)
theorem yl2 : zf0 Tryz.prog (ywi std) := by
 intro raw ob T h hp
 unfold ywi at h
 simp only at h
 split at h
 rotate_left
 · cases h
 rename_i e w a n k
 split at h
 rotate_left
 · cases h
 rename_i t1 s1 m get t2 b q _ _
 split at h
 rotate_left
 · cases h
 rename_i t3 s3 m2 gf _
 cases h
 obtain ⟨h1, h2, h3, h4⟩ := hp
 have h1 : okJ (.lst 1 n get) := h1
 have h3 : okW ftV (.lst ftV.sz q gf) := h3
 have h4 : q <= 1000000 := h4
 have e1 : zxt (rdJ (.lst 1 n get)) = n := by simp [rdJ, zxt]
 have e2 : zb3 (zx7 (.lst 2 q gf)) = q := zin _ _ _ _
 refine yxe (yep.cons _ (yqd.refl _) (yep.cons _ (yni h1) (yep.cons _ (yt1 yct h3) .nil))) ?_
 have := ywh (e := e) (o := zx7 (.lst 2 q gf)) h2 (by show zb3 _ <= _; rw [e2]; exact h4)
 unfold tlO zr2 at this
 simp only [std, L2] at this
 rw [e1, e2] at this
 exact this
end Sy
end Go.Proofs.YthppjaoicibeiaaGreatDoor
namespace Go.Proofs.YthppjaoicibeiaaGreatDoor
namespace Sy
open Go Go.RowKit
set_option maxRecDepth 100000
set_option linter.unusedSimpArgs false
set_option linter.unusedVariables false
def yqh : List UInt8 := [108, 105, 115, 116, 101, 110, 101, 114]
def yw8 : List UInt8 := [114, 111, 117, 116, 101]
def yv4 : List UInt8 := [99, 108, 117, 115, 116, 101, 114]
def ywb : List UInt8 := [101, 110, 100, 112, 111, 105, 110, 116]
def wCfg : List UInt8 := [99, 111, 110, 102, 105, 103]
noncomputable def ywe (c : Cf) (i : Nat) (k : Nat) : List Ft := ftI (yrp c (zen (zap c.ls i).rs k) ((zap c.ls i).rs.take k)) (whZ yw8 [(i : Int), (k : Int)])
noncomputable def vfR (c : Cf) (i : Nat) : Nat -> List Ft
 | 0 => []
 | j + 1 => vfR c i j ++ ywe c i j
noncomputable def ykz (c : Cf) (i : Nat) : List Ft := ftI (yhb (zap c.ls i) (c.ls.take i)) (whZ yqh [(i : Int)])
noncomputable def vfL (c : Cf) : Nat -> List Ft
 | 0 => []
 | i + 1 => (vfL c i ++ ykz c i) ++ vfR c i (zap c.ls i).rs.length
noncomputable def vgL (c : Cf) (i j : Nat) : List Ft := (vfL c i ++ ykz c i) ++ vfR c i j
noncomputable def ywf (c : Cf) (i : Nat) (k : Nat) : List Ft := ftI (yqv (zdw (zar c.cs i).es k) ((zar c.cs i).es.take k)) (whZ ywb [(i : Int), (k : Int)])
noncomputable def vfE (c : Cf) (i : Nat) : Nat -> List Ft
 | 0 => []
 | j + 1 => vfE c i j ++ ywf c i j
noncomputable def yra (c : Cf) (i : Nat) : List Ft := ftI (yqx (zar c.cs i) (c.cs.take i)) (whZ yv4 [(i : Int)])
noncomputable def vfC (c : Cf) : Nat -> List Ft
 | 0 => vfL c c.ls.length
 | i + 1 => (vfC c i ++ yra c i) ++ vfE c i (zar c.cs i).es.length
noncomputable def vgC (c : Cf) (i j : Nat) : List Ft := (vfC c i ++ yra c i) ++ vfE c i j
noncomputable def zu0 (c : Cf) : List Ft := if cfE c ≠ 0 then [⟨cfE c, wCfg⟩] else vfC c c.cs.length
theorem zj2 (e : Int) (w : List UInt8) : (ftI e w).length <= 1 := by
 unfold ftI
 split <;> simp
theorem zs2 (c : Cf) (i : Nat) : ∀ j, (vfR c i j).length <= j
 | 0 => Nat.zero_le _
 | j + 1 => by
   have := zs2 c i j
   have := zj2 (yrp c (zen (zap c.ls i).rs j) ((zap c.ls i).rs.take j)) (whZ yw8 [(i : Int), (j : Int)])
   rw [vfR, List.length_append, ywe]; omega
theorem zs3 (c : Cf) (i : Nat) : ∀ j, (vfE c i j).length <= j
 | 0 => Nat.zero_le _
 | j + 1 => by
   have := zs3 c i j
   have := zj2 (yqv (zdw (zar c.cs i).es j) ((zar c.cs i).es.take j)) (whZ ywb [(i : Int), (j : Int)])
   rw [vfE, List.length_append, ywf]; omega
theorem yh6 {c : Cf} (h : zde c = true) {i : Nat} (hi : i < c.ls.length) : (zap c.ls i).rs.length <= 12 /\ lgtR (zap c.ls i).rs /\ (zap c.ls i).n.length <= 300 := by
 simp only [zde, Bool.and_eq_true, decide_eq_true_eq, List.all_eq_true] at h
 have := h.1.2 (zap c.ls i) (by rw [zap, zb2 (V := lsV) hi]; exact List.getElem_mem _)
 simp only [zn3, Bool.and_eq_true, decide_eq_true_eq, List.all_eq_true] at this
 exact ⟨this.1.2, this.2, this.1.1⟩
theorem yh7 {c : Cf} (h : zde c = true) {i : Nat} (hi : i < c.cs.length) : (zar c.cs i).es.length <= 12 /\ (zar c.cs i).n.length <= 300 := by
 simp only [zde, Bool.and_eq_true, decide_eq_true_eq, List.all_eq_true] at h
 have := h.2 (zar c.cs i) (by rw [zar, zb2 (V := clV) hi]; exact List.getElem_mem _)
 simp only [zn4, Bool.and_eq_true, decide_eq_true_eq] at this
 exact ⟨this.2, this.1⟩
theorem yez {c : Cf} (h : zde c = true) : c.ls.length <= 12 /\ c.cs.length <= 12 := by
 simp only [zde, Bool.and_eq_true, decide_eq_true_eq] at h
 exact ⟨h.1.1.1, h.1.1.2⟩
theorem ync {c : Cf} (h : zde c = true) : yhg c := by
 have hn := yez h
 simp only [zde, Bool.and_eq_true, decide_eq_true_eq, List.all_eq_true, zn3, zn4] at h
 refine ⟨by show _ <= 1000000; omega, by show _ <= 1000000; omega, fun l hl => ?_, fun k hk => ?_⟩
 · have := (h.1.2 l hl).1.2
   show _ <= 1000000
   omega
 · have := (h.2 k hk).2
   show _ <= 1000000
   omega
theorem znx {c : Cf} (h : zde c = true) : ∀ i, i <= c.ls.length -> (vfL c i).length <= i * 13
 | 0, _ => Nat.zero_le _
 | i + 1, hi => by
   have h1 := znx h i (by omega)
   have h2 := zj2 (yhb (zap c.ls i) (c.ls.take i)) (whZ yqh [(i : Int)])
   have h3 := zs2 c i (zap c.ls i).rs.length
   have h4 := (yh6 h (show i < c.ls.length by omega)).1
   rw [vfL, List.length_append, List.length_append, ykz]; omega
theorem ykv {c : Cf} (h : zde c = true) {i j : Nat} (hi : i < c.ls.length) (hj : j <= (zap c.ls i).rs.length) : (vgL c i j).length <= 1000 := by
 have h1 := znx h i (by omega)
 have h2 := zj2 (yhb (zap c.ls i) (c.ls.take i)) (whZ yqh [(i : Int)])
 have h3 := zs2 c i j
 have h4 := (yh6 h hi).1
 have h5 := (yez h).1
 rw [vgL, List.length_append, List.length_append, ykz]; omega
theorem zs4 {c : Cf} (h : zde c = true) : ∀ i, i <= c.cs.length -> (vfC c i).length <= 200 + i * 13
 | 0, _ => by
   have h1 := znx h c.ls.length (Nat.le_refl _)
   have h5 := (yez h).1
   rw [vfC]; omega
 | i + 1, hi => by
   have h1 := zs4 h i (by omega)
   have h2 := zj2 (yqx (zar c.cs i) (c.cs.take i)) (whZ yv4 [(i : Int)])
   have h3 := zs3 c i (zar c.cs i).es.length
   have h4 := (yh7 h (show i < c.cs.length by omega)).1
   rw [vfC, List.length_append, List.length_append, yra]; omega
theorem ykx {c : Cf} (h : zde c = true) {i j : Nat} (hi : i < c.cs.length) (hj : j <= (zar c.cs i).es.length) : (vgC c i j).length <= 1000 := by
 have h1 := zs4 h i (by omega)
 have h2 := zj2 (yqx (zar c.cs i) (c.cs.take i)) (whZ yv4 [(i : Int)])
 have h3 := zs3 c i j
 have h4 := (yh7 h hi).1
 have h5 := (yez h).2
 rw [vgC, List.length_append, List.length_append, yra]; omega
theorem ywc (c : Cf) (i : Nat) : vgL c i 0 = vfL c i ++ ykz c i := by rw [vgL, vfR, List.append_nil]
theorem ykw (c : Cf) {i j : Nat} (h : j = (zap c.ls i).rs.length) : vfL c (i + 1) = vgL c i j := by subst h; rw [vfL, vgL]
theorem yf7 (c : Cf) (i j : Nat) : vgL c i (j + 1) = vgL c i j ++ ywe c i j := by rw [vgL, vgL, vfR]; simp only [List.append_assoc]
theorem ywd (c : Cf) (i : Nat) : vgC c i 0 = vfC c i ++ yra c i := by rw [vgC, vfE, List.append_nil]
theorem yky (c : Cf) {i j : Nat} (h : j = (zar c.cs i).es.length) : vfC c (i + 1) = vgC c i j := by subst h; rw [vfC, vgC]
theorem yf8 (c : Cf) (i j : Nat) : vgC c i (j + 1) = vgC c i j ++ ywf c i j := by rw [vgC, vgC, vfE]; simp only [List.append_assoc]
theorem zue {α : Type} {V : Vw α} (K : znq V) (l : List α) {n : Nat} {get : Nat -> Nat -> AV} (h : n <= l.length) (hg : ∀ i j, i < n -> j < V.sz -> get i j = V.cell std (zok V l i) j) : okW V (.lst V.sz n get) /\ rdW V (.lst V.sz n get) = l.take n := by
 have hb : ∀ i, i < n -> V.ok (get i) /\ V.rd (get i) = zok V l i := fun i hi => K.back _ _ fun j hj => hg i j hi hj
 refine ⟨⟨rfl, fun i hi => (hb i hi).1⟩, ?_⟩
 unfold rdW
 apply List.ext_getElem
 · simp; omega
 · intro i h1 h2
   have hi : i < n := by simpa using h1
   simp only [List.getElem_map, List.getElem_range, List.getElem_take]
   rw [(hb i hi).2, zb2 (by omega)]
end Sy
end Go.Proofs.YthppjaoicibeiaaGreatDoor
namespace Go.Proofs.YthppjaoicibeiaaGreatDoor
namespace Sy
open Go Go.RowKit
set_option maxRecDepth 100000
set_option linter.unusedSimpArgs false
set_option linter.unusedVariables false
end Sy
end Go.Proofs.YthppjaoicibeiaaGreatDoor
namespace Go.Proofs.YthppjaoicibeiaaGreatDoor
namespace Sy
open Go Go.RowKit
set_option maxRecDepth 100000
set_option linter.unusedSimpArgs false
set_option linter.unusedVariables false
end Sy
end Go.Proofs.YthppjaoicibeiaaGreatDoor
namespace Go.Proofs.YthppjaoicibeiaaGreatDoor
namespace Sy
open Go Go.RowKit
set_option maxRecDepth 100000
set_option linter.unusedSimpArgs false
set_option linter.unusedVariables false
def leR2 (l : List Rt) (i : Nat) : Prop := leM l i
def leE2 (l : List Ep) (i : Nat) : Prop := leM l i
noncomputable def allA (L : zaa) (c : Cf) : Nat -> St -> Option Ann := fun id st => match id with
 | 0 => some ⟨Nat, fun i => [(29, .int .i64 (L zan i)), (3, .ref 3 0)], fun i => [(3, .box 56 [.sl 901 2 0 (L zb3 (L2 L vfL c i))]), (901, zr2 L (L2 L vfL c i))], [1, 4, 27, 28], [1], fun i => L2 L ynj (L Cf.ls c) i, fun i => L2 L goLs (L Cf.ls c) i⟩
 | 2 => zzh st 29 fun k => some ⟨Nat, fun j => [(47, .int .i64 (L zan j)), (3, .ref 3 0)], fun j => [(3, .box 56 [.sl 902 2 0 (L zb3 (L3 L vgL c (L Int.toNat k) j))]), (902, zr2 L (L3 L vgL c (L Int.toNat k) j))], [1, 4, 7, 8, 27, 28, 29, 45, 46], [1, 8], fun j => L2 L leR2 (L Ls.rs (L2 L zap (L Cf.ls c) (L Int.toNat k))) j, fun j => L2 L goRt (L Ls.rs (L2 L zap (L Cf.ls c) (L Int.toNat k))) j⟩
 | 4 => some ⟨Nat, fun i => [(69, .int .i64 (L zan i)), (3, .ref 3 0)], fun i => [(3, .box 56 [.sl 903 2 0 (L zb3 (L2 L vfC c i))]), (903, zr2 L (L2 L vfC c i))], [1, 4, 67, 68], [1], fun i => L2 L ynk (L Cf.cs c) i, fun i => L2 L yxx (L Cf.cs c) i⟩
 | 6 => zzh st 69 fun k => some ⟨Nat, fun j => [(87, .int .i64 (L zan j)), (3, .ref 3 0)], fun j => [(3, .box 56 [.sl 904 2 0 (L zb3 (L3 L vgC c (L Int.toNat k) j))]), (904, zr2 L (L3 L vgC c (L Int.toNat k) j))], [1, 4, 11, 12, 67, 68, 69, 85, 86], [1, 12], fun j => L2 L leE2 (L Cl.es (L2 L zar (L Cf.cs c) (L Int.toNat k))) j, fun j => L2 L goEp (L Cl.es (L2 L zar (L Cf.cs c) (L Int.toNat k))) j⟩
 | _ => none
noncomputable def yj2 (L : zaa) : zb4 := (17, fun xs => match xs with
 | [x] => some (L zfv x /\ L zgy (L zat x), yh9 L (L zu0 (L zat x)))
 | _ => none)
theorem yl4 {l : List Ls} {i : Nat} (h : i <= l.length) : zoh (.lst 7 i fun q => lsC std (zap l q)) /\ zhl (.lst 7 i fun q => lsC std (zap l q)) = l.take i := zue zcw l h fun _ _ _ _ => rfl
theorem yl3 {l : List Rt} {i : Nat} (h : i <= l.length) : zsq (.lst 4 i fun q => rtC std (zen l q)) /\ zjn (.lst 4 i fun q => rtC std (zen l q)) = l.take i := zue zdu l h fun _ _ _ _ => rfl
theorem yl6 {l : List Cl} {i : Nat} (h : i <= l.length) : zir (.lst 2 i fun q => clC std (zar l q)) /\ zfm (.lst 2 i fun q => clC std (zar l q)) = l.take i := zue zbw l h fun _ _ _ _ => rfl
theorem yl5 {l : List Ep} {i : Nat} (h : i <= l.length) : zjo (.lst 6 i fun q => epC std (zdw l q)) /\ zgp (.lst 6 i fun q => epC std (zdw l q)) = l.take i := zue zci l h fun _ _ _ _ => rfl
theorem zo0 {w : List UInt8} {n : Nat} {i : List Int} {o : List Ft} (hn : n = i.length) (hw : w.length <= 100) (hi : i.length <= 2) (ho : o.length <= 1000) : okJ (.lst 1 n fun k x => .int .i64 (za2 i k)) /\ yku w (rdJ (.lst 1 n fun k x => .int .i64 (za2 i k))) /\ ymz (.lst 2 (zb3 o) fun q => ftC std (zh2 o q)) /\ upM (zb3 o) := by
 obtain ⟨h1, h2⟩ := zgj i hn
 rw [h2]
 refine ⟨h1, ⟨hw, hi⟩, yx6 _, ?_⟩
 show o.length <= 1000000
 omega
theorem zua {e : Int} {w : List UInt8} {n : Nat} {i : List Int} {o o' : List Ft} (hn : n = i.length) (h : tlZ e w i o = o') : (zb3 (tlZ e w (rdJ (.lst 1 n fun k x => .int .i64 (za2 i k))) (zx7 (.lst 2 (zb3 o) fun q => ftC std (zh2 o q)))) = zb3 o' /\ ∀ q j, q < zb3 o' -> j < 2 -> ftC std (zh2 (tlZ e w (rdJ (.lst 1 n fun k x => .int .i64 (za2 i k))) (zx7 (.lst 2 (zb3 o) fun q => ftC std (zh2 o q)))) q) j = ftC std (zh2 o' q) j) := by
 rw [(zgj i hn).2, yww, h]
 exact ⟨rfl, fun _ _ _ _ => rfl⟩
theorem zwb : zao Tryz.prog (yj2 std) := by
 intro xs p r h hp
 dsimp only [yj2] at h |-
 split at h <;> cases h
 try simp only [L2, L3, std] at hp |-
 rename_i x
 refine zpq zcx hp.1 ?_
 have hp := hp.2
 show za9 _ _ [.agg [.int .u64 (zat x).v, zfn std (zat x).ls, zes std (zat x).cs]] (yh9 std (zu0 (zat x)))
 have hp : zgy (zat x) := hp
 generalize zat x = c at hp |-
 have hlt := hp.1
 refine za8 (T := tt) (S := fun L => zc6 [ye9 L, ynd L, ype L, yoz L, ym6 L] [ywi L]) (lo := fun L => allA L c) (lb := noA) 5 (fn := Tryz.f17) (xs := fun L => [.agg [.int .u64 (L Cf.v c), zfn L (L Cf.ls c), zes L (L Cf.cs c)]]) rfl rfl (by kernel_rfl) (by kernel_rfl) rfl zab (zaq ⟨zpm, yha, yis, yid, yg7, trivial⟩ ⟨yl2, trivial⟩) (by kernel_rfl) ?_
 intro L P' Q' hL hP hQ
 have hG : ∀ y : Cf, L zat (.agg [.int .u64 (L Cf.v y), .lst 7 (L zb3 (L Cf.ls y)) (fun i => lsC L (L (L zap (L Cf.ls y)) i)), .lst 2 (L zb3 (L Cf.cs y)) (fun i => clC L (L (L zar (L Cf.cs y)) i))]) = y := by subst hL; exact fun y => (gK zcx y _ rfl).2
 have hO : ∀ y : Cf, L zfv (.agg [.int .u64 (L Cf.v y), .lst 7 (L zb3 (L Cf.ls y)) (fun i => lsC L (L (L zap (L Cf.ls y)) i)), .lst 2 (L zb3 (L Cf.cs y)) (fun i => clC L (L (L zar (L Cf.cs y)) i))]) := by subst hL; exact fun y => (gK zcx y _ rfl).1
 (cbv; try simp only [syT, true_and, and_true])
 simp only [hG, hO, true_and]
 have e1 : zb3 c.ls = c.ls.length := rfl
 have e2 : zb3 c.cs = c.cs.length := rfl
 refine ⟨?_, fun h1 => ?_, fun h1 => ⟨⟨0, ?_⟩, fun i hi => ?_⟩⟩
 · (subst hL; subst hQ; simp only [L2, L3, std] at *; try simp only [syS, reduceCtorEq, Int.reduceToNat, Int.reduceAdd, Int.reduceSub] at *)
   exact hp
 · (subst hL; subst hQ; simp only [L2, L3, std] at *; try simp only [syS, reduceCtorEq, Int.reduceToNat, Int.reduceAdd, Int.reduceSub] at *)
   clear hG hO
   rw [zu0, if_pos h1]
   unfold yh9
   rw [zi1]
   refine ⟨rfl, fun q j hq hj => ?_⟩
   obtain rfl : q = 0 := by have : q < 1 := hq; omega
   match j, hj with
   | 0, _ => rfl
   | 1, _ => rfl
 · (cbv; try simp only [syT, true_and, and_true])
   (subst hL; subst hQ; simp only [L2, L3, std] at *; try simp only [syS, reduceCtorEq, Int.reduceToNat, Int.reduceAdd, Int.reduceSub] at *)
   exact ⟨rfl, rfl, Nat.zero_le _⟩
 · have hi2 : ynj c.ls i := by
     have h := hi
     rw [hL] at h
     exact h
   clear hi
   (cbv; try simp only [syT, true_and, and_true])
   have hE1 : ∀ y : Ls, L zhm (.agg [.str (L Ls.n y), .int .u8 (L Pl.a (L Ls.pl y)), .int .u8 (L Pl.b (L Ls.pl y)), .int .u8 (L Pl.c (L Ls.pl y)), .int .u8 (L Pl.d (L Ls.pl y)), .int .u16 (L Pl.p (L Ls.pl y)), .lst 4 (L zb3 (L Ls.rs y)) (fun i => rtC L (L (L zen (L Ls.rs y)) i))]) = y := by subst hL; exact fun y => (gK zcw y _ rfl).2
   have hE2 : ∀ y : Ls, L zl4 (.agg [.str (L Ls.n y), .int .u8 (L Pl.a (L Ls.pl y)), .int .u8 (L Pl.b (L Ls.pl y)), .int .u8 (L Pl.c (L Ls.pl y)), .int .u8 (L Pl.d (L Ls.pl y)), .int .u16 (L Pl.p (L Ls.pl y)), .lst 4 (L zb3 (L Ls.rs y)) (fun i => rtC L (L (L zen (L Ls.rs y)) i))]) := by subst hL; exact fun y => (gK zcw y _ rfl).1
   have hRa : ∀ y : Rt, L zkz (.agg [.str (L Rt.h y), .str (L Rt.p y), .str (L Rt.c y), .int .u64 (L Rt.i y)]) = y := by subst hL; exact fun y => (gK zdu y _ rfl).2
   have hRb : ∀ y : Rt, L zxh (.agg [.str (L Rt.h y), .str (L Rt.p y), .str (L Rt.c y), .int .u64 (L Rt.i y)]) := by subst hL; exact fun y => (gK zdu y _ rfl).1
   have hCa : ∀ y : Cl, L zf6 (.agg [.str (L Cl.n y), .lst 6 (L zb3 (L Cl.es y)) (fun i => epC L (L (L zdw (L Cl.es y)) i))]) = y := by subst hL; exact fun y => (gK zbw y _ rfl).2
   have hCb : ∀ y : Cl, L zgq (.agg [.str (L Cl.n y), .lst 6 (L zb3 (L Cl.es y)) (fun i => epC L (L (L zdw (L Cl.es y)) i))]) := by subst hL; exact fun y => (gK zbw y _ rfl).1
   have hXa : ∀ y : Ep, L zhn (.agg [.int .u8 (L Pl.a (L Ep.pl y)), .int .u8 (L Pl.b (L Ep.pl y)), .int .u8 (L Pl.c (L Ep.pl y)), .int .u8 (L Pl.d (L Ep.pl y)), .int .u16 (L Pl.p (L Ep.pl y)), .int .i64 (L Ep.w y)]) = y := by subst hL; exact fun y => (gK zci y _ rfl).2
   have hXb : ∀ y : Ep, L zl5 (.agg [.int .u8 (L Pl.a (L Ep.pl y)), .int .u8 (L Pl.b (L Ep.pl y)), .int .u8 (L Pl.c (L Ep.pl y)), .int .u8 (L Pl.d (L Ep.pl y)), .int .u16 (L Pl.p (L Ep.pl y)), .int .i64 (L Ep.w y)]) := by subst hL; exact fun y => (gK zci y _ rfl).1
   simp only [hG, hO, hE1, hE2, true_and]
   refine ⟨fun hlt1 => ⟨?_, ?_, ?_, ?_, ?_, ?_, ⟨0, ?_⟩, fun j hj => ?_⟩, fun hge => ⟨⟨0, ?_⟩, fun k hk => ?_⟩⟩
   · (subst hL; subst hQ; simp only [L2, L3, std] at *; try simp only [syS, reduceCtorEq, Int.reduceToNat, Int.reduceAdd, Int.reduceSub] at *)
     omega
   · (subst hL; subst hQ; simp only [L2, L3, std] at *; try simp only [syS, reduceCtorEq, Int.reduceToNat, Int.reduceAdd, Int.reduceSub] at *)
     omega
   · (subst hL; subst hQ; simp only [L2, L3, std] at *; try simp only [syS, reduceCtorEq, Int.reduceToNat, Int.reduceAdd, Int.reduceSub] at *)
     clear hG hO hE1 hE2 hRa hRb hCa hCb hXa hXb
     have hi2 : i <= c.ls.length := hi2
     rw [(yl4 hi2).2]
     refine ⟨(yl4 hi2).1, ?_⟩
     have := (yez hlt).1
     show (c.ls.take i).length <= 1000000
     rw [List.length_take]; omega
   · exact ⟨rfl, fun _ _ _ _ => trivial⟩
   · exact fun _ _ _ _ => trivial
   · (subst hL; subst hQ; simp only [L2, L3, std] at *; try simp only [syS, reduceCtorEq, Int.reduceToNat, Int.reduceAdd, Int.reduceSub] at *)
     clear hG hO hE1 hE2 hRa hRb hCa hCb hXa hXb
     have hi2 : i <= c.ls.length := hi2
     have := znx hlt i hi2
     have := (yez hlt).1
     exact zo0 rfl (by decide) (Nat.le_succ 1) (by omega)
   · (cbv; try simp only [syT, true_and, and_true])
     try simp only [hE1]
     (subst hL; subst hQ; simp only [L2, L3, std] at *; try simp only [syS, reduceCtorEq, Int.reduceToNat, Int.reduceAdd, Int.reduceSub] at *)
     clear hG hO hE1 hE2 hRa hRb hCa hCb hXa hXb
     have hi2 : i <= c.ls.length := hi2
     rw [(yl4 hi2).2]
     have h := zua (e := yhb (zap c.ls i) (c.ls.take i)) (w := yqh) (n := 1) (i := [(i : Int)]) (o := vfL c i) (o' := vgL c i 0) rfl (ywc c i).symm
     exact ⟨h, h.1, Nat.zero_le _⟩
   · have hj2 : leR2 (zap c.ls i).rs j := by
       have h := hj
       rw [hL] at h
       exact h
     clear hj
     (cbv; try simp only [syT, true_and, and_true])
     simp only [hG, hO, hE1, hE2, hRa, hRb, true_and]
     refine ⟨fun hlt2 => ⟨?_, ?_, ?_, ?_, ?_, ?_, ⟨j + 1, ?_⟩⟩, fun hge => ⟨i + 1, ?_⟩⟩
     · (subst hL; subst hQ; simp only [L2, L3, std] at *; try simp only [syS, reduceCtorEq, Int.reduceToNat, Int.reduceAdd, Int.reduceSub] at *)
       omega
     · (subst hL; subst hQ; simp only [L2, L3, std] at *; try simp only [syS, reduceCtorEq, Int.reduceToNat, Int.reduceAdd, Int.reduceSub] at *)
       omega
     · (subst hL; subst hQ; simp only [L2, L3, std] at *; try simp only [syS, reduceCtorEq, Int.reduceToNat, Int.reduceAdd, Int.reduceSub] at *)
       clear hG hO hE1 hE2 hRa hRb hCa hCb hXa hXb
       have hj2 : j <= (zap c.ls i).rs.length := hj2
       have hj3 : j < (zap c.ls i).rs.length := by have : zb3 (zap c.ls i).rs = (zap c.ls i).rs.length := rfl; omega
       obtain ⟨g1, g2, g3⟩ := yh6 hlt (show i < c.ls.length by omega)
       rw [(yl3 hj2).2]
       refine ⟨(yl3 hj2).1, ync hlt, g2 _ (by rw [zen, zb2 (V := rtV) hj3]; exact List.getElem_mem _), fun x hx => g2 x (List.mem_of_mem_take hx), ?_⟩
       show (List.take j _).length <= 1000000
       rw [List.length_take]; omega
     · exact ⟨rfl, fun _ _ _ _ => trivial⟩
     · exact fun _ _ _ _ => trivial
     · (subst hL; subst hQ; simp only [L2, L3, std] at *; try simp only [syS, reduceCtorEq, Int.reduceToNat, Int.reduceAdd, Int.reduceSub] at *)
       clear hG hO hE1 hE2 hRa hRb hCa hCb hXa hXb
       have hi2 : i < c.ls.length := by omega
       exact zo0 rfl (by decide) (Nat.le_refl 2) (ykv hlt hi2 hj2)
     · (cbv; try simp only [syT, true_and, and_true])
       try simp only [hRa]
       (subst hL; subst hQ; simp only [L2, L3, std] at *; try simp only [syS, reduceCtorEq, Int.reduceToNat, Int.reduceAdd, Int.reduceSub] at *)
       clear hG hO hE1 hE2 hRa hRb hCa hCb hXa hXb
       have hj2 : j <= (zap c.ls i).rs.length := hj2
       have hj3 : j < (zap c.ls i).rs.length := by have : zb3 (zap c.ls i).rs = (zap c.ls i).rs.length := rfl; omega
       have h12 := (yh6 hlt (show i < c.ls.length by omega)).1
       rw [(yl3 hj2).2]
       have h := zua (e := yrp c (zen (zap c.ls i).rs j) ((zap c.ls i).rs.take j)) (w := yw8) (n := 2) (i := [(i : Int), (j : Int)]) (o := vgL c i j) (o' := vgL c i (j + 1)) rfl (yf7 c i j).symm
       exact ⟨h, h.1, by omega, by show j + 1 <= (zap c.ls i).rs.length; omega, by show (zap c.ls i).rs.length - (j + 1) + 1 <= (zap c.ls i).rs.length - j; omega⟩
     · (cbv; try simp only [syT, true_and, and_true])
       (subst hL; subst hQ; simp only [L2, L3, std] at *; try simp only [syS, reduceCtorEq, Int.reduceToNat, Int.reduceAdd, Int.reduceSub] at *)
       clear hG hO hE1 hE2 hRa hRb hCa hCb hXa hXb
       have hj2 : j <= (zap c.ls i).rs.length := hj2
       have hj3 : j = (zap c.ls i).rs.length := by have : zb3 (zap c.ls i).rs = (zap c.ls i).rs.length := rfl; omega
       have h12 := (yez hlt).1
       rw [ykw c hj3]
       exact ⟨⟨rfl, fun _ _ _ _ => rfl⟩, rfl, by omega, by show i + 1 <= c.ls.length; omega, by show c.ls.length - (i + 1) + 1 <= c.ls.length - i; omega⟩
   · (cbv; try simp only [syT, true_and, and_true])
     (subst hL; subst hQ; simp only [L2, L3, std] at *; try simp only [syS, reduceCtorEq, Int.reduceToNat, Int.reduceAdd, Int.reduceSub] at *)
     clear hG hO hE1 hE2 hRa hRb hCa hCb hXa hXb
     have hi2 : i <= c.ls.length := hi2
     obtain rfl : i = c.ls.length := by omega
     exact ⟨⟨rfl, fun _ _ _ _ => rfl⟩, rfl, Nat.zero_le _⟩
   · have hk2 : ynk c.cs k := by
       have h := hk
       rw [hL] at h
       exact h
     clear hk
     (cbv; try simp only [syT, true_and, and_true])
     simp only [hG, hO, hCa, hCb, true_and]
     refine ⟨fun hlt3 => ⟨?_, ?_, ?_, ?_, ?_, ?_, ⟨0, ?_⟩, fun j hj => ?_⟩, fun hge => ?_⟩
     · (subst hL; subst hQ; simp only [L2, L3, std] at *; try simp only [syS, reduceCtorEq, Int.reduceToNat, Int.reduceAdd, Int.reduceSub] at *)
       omega
     · (subst hL; subst hQ; simp only [L2, L3, std] at *; try simp only [syS, reduceCtorEq, Int.reduceToNat, Int.reduceAdd, Int.reduceSub] at *)
       omega
     · (subst hL; subst hQ; simp only [L2, L3, std] at *; try simp only [syS, reduceCtorEq, Int.reduceToNat, Int.reduceAdd, Int.reduceSub] at *)
       clear hG hO hE1 hE2 hRa hRb hCa hCb hXa hXb
       have hk2 : k <= c.cs.length := hk2
       rw [(yl6 hk2).2]
       refine ⟨(yl6 hk2).1, ?_⟩
       have := (yez hlt).2
       show (c.cs.take k).length <= 1000000
       rw [List.length_take]; omega
     · exact ⟨rfl, fun _ _ _ _ => trivial⟩
     · exact fun _ _ _ _ => trivial
     · (subst hL; subst hQ; simp only [L2, L3, std] at *; try simp only [syS, reduceCtorEq, Int.reduceToNat, Int.reduceAdd, Int.reduceSub] at *)
       clear hG hO hE1 hE2 hRa hRb hCa hCb hXa hXb
       have hk2 : k <= c.cs.length := hk2
       have := zs4 hlt k hk2
       have := (yez hlt).2
       exact zo0 rfl (by decide) (Nat.le_succ 1) (by omega)
     · (cbv; try simp only [syT, true_and, and_true])
       try simp only [hCa]
       (subst hL; subst hQ; simp only [L2, L3, std] at *; try simp only [syS, reduceCtorEq, Int.reduceToNat, Int.reduceAdd, Int.reduceSub] at *)
       clear hG hO hE1 hE2 hRa hRb hCa hCb hXa hXb
       have hk2 : k <= c.cs.length := hk2
       rw [(yl6 hk2).2]
       have h := zua (e := yqx (zar c.cs k) (c.cs.take k)) (w := yv4) (n := 1) (i := [(k : Int)]) (o := vfC c k) (o' := vgC c k 0) rfl (ywd c k).symm
       exact ⟨h, h.1, Nat.zero_le _⟩
     · have hj2 : leE2 (zar c.cs k).es j := by
         have h := hj
         rw [hL] at h
         exact h
       clear hj
       (cbv; try simp only [syT, true_and, and_true])
       simp only [hG, hO, hXa, hXb, true_and]
       refine ⟨fun hlt2 => ⟨?_, ?_, ?_, ?_, ?_, ?_, ⟨j + 1, ?_⟩⟩, fun hge => ⟨k + 1, ?_⟩⟩
       · (subst hL; subst hQ; simp only [L2, L3, std] at *; try simp only [syS, reduceCtorEq, Int.reduceToNat, Int.reduceAdd, Int.reduceSub] at *)
         omega
       · (subst hL; subst hQ; simp only [L2, L3, std] at *; try simp only [syS, reduceCtorEq, Int.reduceToNat, Int.reduceAdd, Int.reduceSub] at *)
         omega
       · (subst hL; subst hQ; simp only [L2, L3, std] at *; try simp only [syS, reduceCtorEq, Int.reduceToNat, Int.reduceAdd, Int.reduceSub] at *)
         clear hG hO hE1 hE2 hRa hRb hCa hCb hXa hXb
         have hj2 : j <= (zar c.cs k).es.length := hj2
         obtain ⟨g1, g2⟩ := yh7 hlt (show k < c.cs.length by omega)
         rw [(yl5 hj2).2]
         refine ⟨(yl5 hj2).1, ?_⟩
         show (List.take j _).length <= 1000000
         rw [List.length_take]; omega
       · exact ⟨rfl, fun _ _ _ _ => trivial⟩
       · exact fun _ _ _ _ => trivial
       · (subst hL; subst hQ; simp only [L2, L3, std] at *; try simp only [syS, reduceCtorEq, Int.reduceToNat, Int.reduceAdd, Int.reduceSub] at *)
         clear hG hO hE1 hE2 hRa hRb hCa hCb hXa hXb
         have hk2 : k < c.cs.length := by omega
         exact zo0 rfl (by decide) (Nat.le_refl 2) (ykx hlt hk2 hj2)
       · (cbv; try simp only [syT, true_and, and_true])
         try simp only [hXa]
         (subst hL; subst hQ; simp only [L2, L3, std] at *; try simp only [syS, reduceCtorEq, Int.reduceToNat, Int.reduceAdd, Int.reduceSub] at *)
         clear hG hO hE1 hE2 hRa hRb hCa hCb hXa hXb
         have hj2 : j <= (zar c.cs k).es.length := hj2
         have hj3 : j < (zar c.cs k).es.length := by have : zb3 (zar c.cs k).es = (zar c.cs k).es.length := rfl; omega
         have h12 := (yh7 hlt (show k < c.cs.length by omega)).1
         rw [(yl5 hj2).2]
         have h := zua (e := yqv (zdw (zar c.cs k).es j) ((zar c.cs k).es.take j)) (w := ywb) (n := 2) (i := [(k : Int), (j : Int)]) (o := vgC c k j) (o' := vgC c k (j + 1)) rfl (yf8 c k j).symm
         exact ⟨h, h.1, by omega, by show j + 1 <= (zar c.cs k).es.length; omega, by show (zar c.cs k).es.length - (j + 1) + 1 <= (zar c.cs k).es.length - j; omega⟩
       · (cbv; try simp only [syT, true_and, and_true])
         (subst hL; subst hQ; simp only [L2, L3, std] at *; try simp only [syS, reduceCtorEq, Int.reduceToNat, Int.reduceAdd, Int.reduceSub] at *)
         clear hG hO hE1 hE2 hRa hRb hCa hCb hXa hXb
         have hj2 : j <= (zar c.cs k).es.length := hj2
         have hj3 : j = (zar c.cs k).es.length := by have : zb3 (zar c.cs k).es = (zar c.cs k).es.length := rfl; omega
         have h12 := (yez hlt).2
         rw [yky c hj3]
         exact ⟨⟨rfl, fun _ _ _ _ => rfl⟩, rfl, by omega, by show k + 1 <= c.cs.length; omega, by show c.cs.length - (k + 1) + 1 <= c.cs.length - k; omega⟩
     · (subst hL; subst hQ; simp only [L2, L3, std] at *; try simp only [syS, reduceCtorEq, Int.reduceToNat, Int.reduceAdd, Int.reduceSub] at *)
       clear hG hO hE1 hE2 hRa hRb hCa hCb hXa hXb
       have hk2 : k <= c.cs.length := hk2
       obtain rfl : k = c.cs.length := by omega
       rw [zu0, if_neg (by rw [h1]; decide)]
       unfold yh9
       rw [zi1]
       exact ⟨rfl, fun _ _ _ _ => rfl⟩
end Sy
end Go.Proofs.YthppjaoicibeiaaGreatDoor
namespace Go.Proofs.YthppjaoicibeiaaGreatDoor
namespace Sy
open Go Go.RowKit
set_option maxRecDepth 100000
set_option maxHeartbeats 4000000
set_option linter.unusedSimpArgs false
set_option linter.unusedVariables false
theorem wh1 (w : List UInt8) (i : Int) : (w ++ [32]) ++ dgI i = whZ w [i] := by rw [yr4]; simp
end Sy
end Go.Proofs.YthppjaoicibeiaaGreatDoor
namespace Go.Proofs.YthppjaoicibeiaaGreatDoor
namespace Sy
open Go Go.RowKit
set_option maxRecDepth 100000
set_option linter.unusedSimpArgs false
set_option linter.unusedVariables false
theorem awT : plT ⟨127, 0, 0, 1, 80⟩ = [49, 50, 55, 46, 48, 46, 48, 46, 49, 58, 56, 48] := by
 have d1 := (zgn (s := [49, 50, 55]) (by decide)).1
 have d2 := (zgn (s := [48]) (by decide)).1
 have d3 := (zgn (s := [49]) (by decide)).1
 have d4 := (zgn (s := [56, 48]) (by decide)).1
 rw [show wnV [49, 50, 55] = 127 by decide] at d1
 rw [show wnV [48] = 0 by decide] at d2
 rw [show wnV [49] = 1 by decide] at d3
 rw [show wnV [56, 48] = 80 by decide] at d4
 rw [plT, d1, d2, d3, d4]; rfl
theorem awO : zz0 ⟨127, 0, 0, 1, 80⟩ := ⟨⟨by decide, by decide⟩, ⟨by decide, by decide⟩, ⟨by decide, by decide⟩, ⟨by decide, by decide⟩, by decide, by decide⟩
theorem zyo : za9 Tryz.prog 82 [] (.bool true) := by
 refine za6 (T := tt) (S := fun L => zad [tru 134, yms L, zsh L]) (lo := noA) (lb := noA) 5 (fn := Tryz.f82) rfl rfl (by kernel_rfl) (by kernel_rfl) rfl zab (za1 ⟨zbe zjb, ygk, zxa, trivial⟩) (by kernel_rfl) ?_
 have e := (ylf awO).1 (by decide)
 rw [awT] at e
 (intro L P1 Q1 hL hP hQ; cbv; subst hL; simp only [L2, L3, std, syT]; subst hQ)
 (simp only [syS, reduceCtorEq, Int.reduceToNat, Int.reduceAdd, Int.reduceSub])
 simp only [e.1, e.2]
 exact ⟨(by decide : (12 : Nat) <= 1000000), fun _ => ⟨fun _ => ⟨by omega, fun _ => ⟨awO, awT⟩, rfl⟩, trivial⟩, trivial⟩
theorem zyx : za9 Tryz.prog 31 [] (.bool true) := by
 refine za6 (T := tt) (S := fun L => zad [tru 82]) (lo := noA) (lb := noA) 5 (fn := Tryz.f31) rfl rfl (by kernel_rfl) (by kernel_rfl) rfl zab (za1 ⟨zbe zyo, trivial⟩) (by kernel_rfl) ?_
 (intro L P1 Q1 hL hP hQ; cbv; subst hL; simp only [L2, L3, std, syT]; subst hQ)
 (simp only [syS, reduceCtorEq, Int.reduceToNat, Int.reduceAdd, Int.reduceSub])
end Sy
end Go.Proofs.YthppjaoicibeiaaGreatDoor
namespace Go.Proofs.YthppjaoicibeiaaGreatDoor
namespace Sy
open Go Go.RowKit
set_option maxRecDepth 100000
set_option linter.unusedSimpArgs false
set_option linter.unusedVariables false
theorem zja.turn {H : Type} {enc : TypeId × Value -> H} {P : Program} {W : World} {t : TypeId} {α β : Type} {sz : Nat} {av : α -> Nat -> AV} {av' : β -> Nat -> AV} {ok : α -> Prop} {ok' : β -> Prop} (O : zja enc P W t α sz av ok) (f : α -> β) (h2 : ∀ y, ok y -> ok' (f y))
   (h1 : ∀ y, ok y -> ∀ j, j < sz -> ∀ v, R W.heap (DW W) zam (av y j) v -> R W.heap (DW W) zam (av' (f y) j) v) : zja enc P W t β sz av' ok' := by
 refine ⟨O.size, fun fuel cs x h => ?_⟩
 obtain ⟨y, y1, y2, y3⟩ := O.go fuel cs x h
 refine ⟨f y, h2 y y1, y2, fun j hj => ?_⟩
 obtain ⟨v, v1, v2, v3⟩ := y3 j hj
 exact ⟨v, v1, v2, h1 y y1 j hj v v3⟩
end Sy
end Go.Proofs.YthppjaoicibeiaaGreatDoor
namespace Go.Proofs.YthppjaoicibeiaaGreatDoor
namespace Sy
open Go Go.RowKit
set_option maxRecDepth 100000
set_option linter.unusedSimpArgs false
set_option linter.unusedVariables false
theorem yjk : zaw 3 = [3] := by rw [zaw, show (3 : Int).toNat = 3 from rfl, zb9 (by decide)]; rfl
theorem zjc : zaw 0 = [0] := by rw [zaw, show (0 : Int).toNat = 0 from rfl, zb9 (by decide)]; rfl
theorem ykd : zbn (zd3 []) = [3, 0] := by
 rw [zd3, zai, if_neg (by decide), if_neg (by decide), zav]
 show _ ++ (zaw 0 ++ _) = _
 rw [zjc]; rfl
theorem yde {n : Int} {b : UInt8} (h : zaw n = [b]) : zbn (zd3 [zfw n, zd3 [], zd3 []]) = [3, 3, 1, b, 3, 0, 3, 0] := by
 rw [zd3, zai, if_neg (by decide), if_neg (by decide), zav, zav, zav, zav]
 show _ ++ (zaw 3 ++ (_ ++ (_ ++ (_ ++ _)))) = _
 have e : zbn (zfw n) = [1, b] := by rw [zfw, zai, if_pos rfl, h]; rfl
 have e' : zbn (.mk 3 0 [] []) = [3, 0] := ykd
 rw [yjk, e, show zbn (zd3 []) = [3, 0] from ykd]; rfl
theorem yp2 (n : Int) : zew (zd3 [zfw n, zd3 [], zd3 []]) = true := by simp [zd3, zfw, zew, zdf]
theorem yp1 (n : Int) : zd7 (zd3 [zfw n, zd3 [], zd3 []]) <= 6 := by
 simp only [zd3, zfw, zd7, zaz]
 split <;> decide
theorem zrb {n : Int} {b : UInt8} (h : zaw n = [b]) : cfE ⟨n, [], []⟩ = 0 /\ cfT ⟨n, [], []⟩ = [3, 3, 1, b, 3, 0, 3, 0] := by
 have h1 : zqb (zjt ⟨n, [], []⟩) = 0 := by
   show zqb (zd3 [zfw n, zd3 [], zd3 []]) = 0
   have := yp1 n
   rw [zqb, if_pos (yp2 n), if_neg (by omega), yde h]; rfl
 have h2 : cfE ⟨n, [], []⟩ = 0 := h1
 refine ⟨h2, ?_⟩
 rw [cfT, if_pos h2, (ys5 h1).2.2.2]
 exact yde h
theorem zq9 (n : Int) : zat (.agg [.int .u64 n, .nils, .nils]) = ⟨n, [], []⟩ := rfl
theorem zv1 (n : Int) : zfv (.agg [.int .u64 n, .nils, .nils]) := ⟨rfl, ⟨_, rfl⟩, trivial, trivial⟩
theorem zoa {n : Int} (h : zcl n) : zgy ⟨n, [], []⟩ := ⟨rfl, h, (fun l hl => nomatch hl), (fun l hl => nomatch hl)⟩
theorem zyl : za9 Tryz.prog 8 [] (.bool true) := by
 refine za6 (T := tt) (S := fun L => zad [ye9 L, tru 31, tru 32]) (lo := noA) (lb := noA) 5 (fn := Tryz.f8) rfl rfl (by kernel_rfl) (by kernel_rfl) rfl zab (za1 ⟨zpm, zbe zyx, zbe zyw, trivial⟩) (by kernel_rfl) ?_
 intro L P' Q' hL hP hQ
 (cbv; try simp only [syT, true_and, and_true])
 (subst hL; subst hQ; simp only [L2, L3, std] at *; try simp only [syS, reduceCtorEq, Int.reduceToNat, Int.reduceAdd, Int.reduceSub] at *)
 simp only [zq9, (zrb zzy).1, (zrb zzy).2, (zrb zjc).1, (zrb zjc).2]
 exact ⟨⟨zv1 1, zoa ⟨by decide, by decide⟩⟩, ⟨zv1 0, zoa ⟨by decide, by decide⟩⟩, fun _ => ⟨fun _ => ⟨fun _ => trivial, trivial⟩, trivial⟩, trivial⟩
end Sy
end Go.Proofs.YthppjaoicibeiaaGreatDoor
namespace Go.Proofs.YthppjaoicibeiaaGreatDoor
namespace Sy
open Go Go.RowKit
set_option maxRecDepth 100000
set_option linter.unusedSimpArgs false
set_option linter.unusedVariables false
noncomputable def yvp (c : Cf) : Bool := decide ((zu0 c).length = 0)
noncomputable def ypj (c : Cf) : Ft := zh2 (zu0 c) 0
noncomputable def yoq (L : zaa) : zb4 := (19, fun xs => match xs with
 | [x] => some (L zfv x /\ L zgy (L zat x), .bool (L yvp (L zat x)))
 | _ => none)
noncomputable def ypi (L : zaa) : zb4 := (20, fun xs => match xs with
 | [x] => some (L zfv x /\ L zgy (L zat x), .agg [.int .i64 (L Ft.c (L ypj (L zat x))), .str (L Ft.w (L ypj (L zat x)))])
 | _ => none)
theorem yic : zao Tryz.prog (yoq std) := by
 intro xs p r h hp
 dsimp only [yoq] at h |-
 split at h <;> cases h
 try simp only [L2, L3, std] at hp |-
 rename_i x
 refine zpq zcx hp.1 ?_
 have hp := hp.2
 show za9 _ _ [.agg [.int .u64 (zat x).v, zfn std (zat x).ls, zes std (zat x).cs]] (.bool (yvp (zat x)))
 have hp : zgy (zat x) := hp
 generalize zat x = c at hp |-
 refine za8 (T := tt) (S := fun L => zad [yj2 L]) (lo := fun _ => noA std) (lb := noA) 5 (fn := Tryz.f19) (xs := fun L => [.agg [.int .u64 (L Cf.v c), zfn L (L Cf.ls c), zes L (L Cf.cs c)]]) rfl rfl (by kernel_rfl) (by kernel_rfl) rfl zab (za1 ⟨zwb, trivial⟩) (by kernel_rfl) ?_
 intro L P' Q' hL hP hQ
 have hG : ∀ y : Cf, L zat (.agg [.int .u64 (L Cf.v y), .lst 7 (L zb3 (L Cf.ls y)) (fun i => lsC L (L (L zap (L Cf.ls y)) i)), .lst 2 (L zb3 (L Cf.cs y)) (fun i => clC L (L (L zar (L Cf.cs y)) i))]) = y := by subst hL; exact fun y => (gK zcx y _ rfl).2
 have hO : ∀ y : Cf, L zfv (.agg [.int .u64 (L Cf.v y), .lst 7 (L zb3 (L Cf.ls y)) (fun i => lsC L (L (L zap (L Cf.ls y)) i)), .lst 2 (L zb3 (L Cf.cs y)) (fun i => clC L (L (L zar (L Cf.cs y)) i))]) := by subst hL; exact fun y => (gK zcx y _ rfl).1
 (cbv; try simp only [syT, true_and, and_true])
 simp only [hG, hO, true_and]
 (subst hL; subst hQ; simp only [L2, L3, std] at *; try simp only [syS, reduceCtorEq, Int.reduceToNat, Int.reduceAdd, Int.reduceSub] at *)
 clear hG hO
 refine ⟨hp, ?_⟩
 show ieq ((zu0 c).length : Int) 0 = _
 rw [yny]; rfl
theorem yiu : zao Tryz.prog (ypi std) := by
 intro xs p r h hp
 dsimp only [ypi] at h |-
 split at h <;> cases h
 try simp only [L2, L3, std] at hp |-
 rename_i x
 refine zpq zcx hp.1 ?_
 have hp := hp.2
 show za9 _ _ [.agg [.int .u64 (zat x).v, zfn std (zat x).ls, zes std (zat x).cs]] (.agg [.int .i64 (ypj (zat x)).c, .str (ypj (zat x)).w])
 have hp : zgy (zat x) := hp
 generalize zat x = c at hp |-
 refine za8 (T := tt) (S := fun L => zad [yj2 L]) (lo := fun _ => noA std) (lb := noA) 5 (fn := Tryz.f20) (xs := fun L => [.agg [.int .u64 (L Cf.v c), zfn L (L Cf.ls c), zes L (L Cf.cs c)]]) rfl rfl (by kernel_rfl) (by kernel_rfl) rfl zab (za1 ⟨zwb, trivial⟩) (by kernel_rfl) ?_
 intro L P' Q' hL hP hQ
 have hG : ∀ y : Cf, L zat (.agg [.int .u64 (L Cf.v y), .lst 7 (L zb3 (L Cf.ls y)) (fun i => lsC L (L (L zap (L Cf.ls y)) i)), .lst 2 (L zb3 (L Cf.cs y)) (fun i => clC L (L (L zar (L Cf.cs y)) i))]) = y := by subst hL; exact fun y => (gK zcx y _ rfl).2
 have hO : ∀ y : Cf, L zfv (.agg [.int .u64 (L Cf.v y), .lst 7 (L zb3 (L Cf.ls y)) (fun i => lsC L (L (L zap (L Cf.ls y)) i)), .lst 2 (L zb3 (L Cf.cs y)) (fun i => clC L (L (L zar (L Cf.cs y)) i))]) := by subst hL; exact fun y => (gK zcx y _ rfl).1
 (cbv; try simp only [syT, true_and, and_true])
 simp only [hG, hO, true_and]
 (subst hL; subst hQ; simp only [L2, L3, std] at *; try simp only [syS, reduceCtorEq, Int.reduceToNat, Int.reduceAdd, Int.reduceSub] at *)
 clear hG hO
 refine ⟨hp, fun h => ?_, fun h => ⟨?_, rfl, rfl⟩⟩
 · have h0 : (zu0 c).length = 0 := by have : zb3 (zu0 c) = (zu0 c).length := rfl; omega
   have : zu0 c = [] := List.length_eq_zero_iff.1 h0
   unfold ypj
   rw [this]
   exact ⟨rfl, rfl⟩
 · omega
def c10 : Cf := ⟨0, [⟨[], ⟨0, 0, 0, 0, 0⟩, []⟩], []⟩
def c0 : Cf := ⟨0, [], []⟩
theorem zzw {n : Int} {b : Nat} (h : n.toNat = b) (hb : b < 128) : zaw n = [UInt8.ofNat b] := by rw [zaw, h, zb9 hb]
theorem ypw : zjt c10 = zd3 [zfw 0, zd3 [zd3 [zif [], zif [0, 0, 0, 0, 0, 0], zd3 []]], zd3 []] := by rfl
theorem ypy : (zbn (zjt c10)).length <= 8192 := by
 rw [ypw]
 have s1 : zaw 1 = [1] := zzw rfl (by decide)
 have s6 : zaw 6 = [6] := zzw rfl (by decide)
 simp [zd3, zfw, zif, zai, zav, zfo, zjc, yjk, s1, s6]
theorem c10_E : cfE c10 = 0 := by
 have h : zqb (zjt c10) = 0 := by
   have h1 : zew (zjt c10) = true := by decide +kernel
   have h2 : ¬ zd7 (zjt c10) > 6 := by decide +kernel
   have h3 := ypy
   rw [zqb, if_pos h1, if_neg h2, if_neg (by omega)]
 rw [cfE, if_neg (by decide), if_neg (by decide), h]
theorem yiv : zme [] = false := by decide +kernel
theorem yul : dgI 0 = [48] := by decide +kernel
theorem ypz : ypj c10 = ⟨4, [108, 105, 115, 116, 101, 110, 101, 114, 32, 48]⟩ := by
 have h1 : yhb ⟨[], ⟨0, 0, 0, 0, 0⟩, []⟩ [] = 4 := by
   unfold yhb ysr
   rw [yiv]; rfl
 have h2 : ykz c10 0 = [⟨4, whZ yqh [0]⟩] := by
   unfold ykz
   show ftI (yhb ⟨[], ⟨0, 0, 0, 0, 0⟩, []⟩ []) _ = _
   rw [h1]; rfl
 have h3 : zu0 c10 = [⟨4, whZ yqh [0]⟩] := by
   rw [zu0, if_neg (by rw [c10_E]; decide)]
   show vfC c10 0 = _
   rw [vfC]
   show vfL c10 1 = _
   rw [vfL, vfL, h2]; rfl
 rw [ypj, h3, <- wh1, yul]; rfl
theorem yum : yvp c0 = true := by
 have h3 : zu0 c0 = [] := by
   rw [zu0, if_neg (by rw [show cfE c0 = 0 from (zrb zjc).1]; decide)]; rfl
 rw [yvp, h3]; rfl
theorem yje : za9 Tryz.prog 45 [] (.bool true) := by
 refine za6 (T := tt) (S := fun L => zad [tru 86]) (lo := noA) (lb := noA) 5 (fn := Tryz.f45) rfl rfl (by kernel_rfl) (by kernel_rfl) rfl zab (za1 ⟨zbe zyp, trivial⟩) (by kernel_rfl) ?_
 (intro L P1 Q1 hL hP hQ; cbv; subst hL; simp only [L2, L3, std, syT]; subst hQ)
 (simp only [syS, reduceCtorEq, Int.reduceToNat, Int.reduceAdd, Int.reduceSub])
theorem yjc : za9 Tryz.prog 46 [] (.bool true) := by
 refine za6 (T := tt) (S := fun L => zad [tru 8]) (lo := noA) (lb := noA) 5 (fn := Tryz.f46) rfl rfl (by kernel_rfl) (by kernel_rfl) rfl zab (za1 ⟨zbe zyl, trivial⟩) (by kernel_rfl) ?_
 (intro L P1 Q1 hL hP hQ; cbv; subst hL; simp only [L2, L3, std, syT]; subst hQ)
 (simp only [syS, reduceCtorEq, Int.reduceToNat, Int.reduceAdd, Int.reduceSub])
theorem yuj : zat (.agg [.int .u64 0, .lst 7 1 (fun i j => zbm .dead [.str [], .int .u8 0, .int .u8 0, .int .u8 0, .int .u8 0, .int .u16 0, .nils] (i * 7 + j)), .nils]) = c10 := by rfl
theorem yuk : zfv (.agg [.int .u64 0, .lst 7 1 (fun i j => zbm .dead [.str [], .int .u8 0, .int .u8 0, .int .u8 0, .int .u8 0, .int .u16 0, .nils] (i * 7 + j)), .nils]) := by
 refine ⟨rfl, ⟨_, rfl⟩, ⟨rfl, fun i hi => ?_⟩, trivial⟩
 obtain rfl : i = 0 := by omega
 exact ⟨⟨_, rfl⟩, ⟨⟨_, rfl⟩, ⟨_, rfl⟩, ⟨_, rfl⟩, ⟨_, rfl⟩, ⟨_, rfl⟩⟩, trivial⟩
theorem ypx : zgy c10 := by
 refine ⟨by decide, ⟨by decide, by decide⟩, fun l hl => ?_, fun l hl => nomatch hl⟩
 obtain rfl : l = ⟨[], ⟨0, 0, 0, 0, 0⟩, []⟩ := by simpa [c10] using hl
 exact ⟨by unfold zz0; decide, fun x hx => nomatch hx⟩
theorem zyk : za9 Tryz.prog 16 [] (.bool true) := by
 refine za6 (T := tt) (S := fun L => zad [ypi L, yoq L, tru 45, tru 46]) (lo := noA) (lb := noA) 5 (fn := Tryz.f16) rfl rfl (by kernel_rfl) (by kernel_rfl) rfl zab (za1 ⟨yiu, yic, zbe yje, zbe yjc, trivial⟩) (by kernel_rfl) ?_
 intro L P' Q' hL hP hQ
 (cbv; try simp only [syT, true_and, and_true])
 (subst hL; subst hQ; simp only [L2, L3, std] at *; try simp only [syS, reduceCtorEq, Int.reduceToNat, Int.reduceAdd, Int.reduceSub] at *)
 rw [yuj, zq9, ypz]
 exact ⟨⟨yuk, ypx⟩, ⟨zv1 0, zoa ⟨by decide, by decide⟩⟩, fun _ => ⟨rfl, rfl⟩, by rw [show (⟨0, [], []⟩ : Cf) = c0 from rfl, yum]; decide⟩
theorem yjb : za9 Tryz.prog 60 [] (.bool true) := by
 refine za6 (T := tt) (S := fun L => zad [tru 16]) (lo := noA) (lb := noA) 5 (fn := Tryz.f60) rfl rfl (by kernel_rfl) (by kernel_rfl) rfl zab (za1 ⟨zbe zyk, trivial⟩) (by kernel_rfl) ?_
 (intro L P1 Q1 hL hP hQ; cbv; subst hL; simp only [L2, L3, std, syT]; subst hQ)
 (simp only [syS, reduceCtorEq, Int.reduceToNat, Int.reduceAdd, Int.reduceSub])
end Sy
end Go.Proofs.YthppjaoicibeiaaGreatDoor
namespace Go.Proofs.YthppjaoicibeiaaGreatDoor
namespace Sy
open Go Go.RowKit
set_option maxRecDepth 100000
set_option linter.unusedSimpArgs false
set_option linter.unusedVariables false
def m32 : Int := 4294967295
def mulW (x y : Int) : Int := zkk .u64 (zty .u64 x m32) (zty .u64 y m32)
def mulT (x y : Int) : Int := zgt .u64 (zkk .u64 (zrw .u64 x 32) (zty .u64 y m32)) (zrw .u64 (mulW x y) 32)
def mulU (x y : Int) : Int := zgt .u64 (zty .u64 (mulT x y) m32) (zkk .u64 (zty .u64 x m32) (zrw .u64 y 32))
def ygy (x y : Int) : Int := zgt .u64 (zgt .u64 (zkk .u64 (zrw .u64 x 32) (zrw .u64 y 32)) (zrw .u64 (mulT x y) 32)) (zrw .u64 (mulU x y) 32)
def yk1 (x y : Int) : Int := zkk .u64 x y
def yn5 (L : zaa) : zb4 := (245, fun xs => match xs with | [.int .u64 x, .int .u64 y] => some (True, .tup [.int .u64 (L2 L ygy x y), .int .u64 (L2 L yk1 x y)]) | _ => none)
theorem ygx : zao Tryz.prog (yn5 std) := by
 intro xs p r h hp
 dsimp only [yn5] at h |-
 split at h <;> cases h
 try simp only [L2, L3, std] at hp |-
 rename_i x y
 refine za6 (T := tt) (S := noS) (lo := noA) (lb := noA) 5 (fn := Tryz.f245) rfl rfl (by kernel_rfl) (by kernel_rfl) rfl zab (zbh _) (by kernel_rfl) ?_
 intro L P' Q' hL hP hQ
 (cbv; try simp only [syT, true_and, and_true])
 subst hL; subst hQ
 refine ⟨rfl, rfl, rfl, rfl, rfl, ?_⟩
 show zgw (.tup [.int .u64 (ygy x y), .int .u64 (yk1 x y)]) (.tup [.int .u64 (ygy x y), .int .u64 (yk1 x y)])
 simp only [sySet]
 trivial
def yqz (y p : Int) (three : Bool) : Bool := match three with
 | false => decide (p < ygy y y) || (decide (ygy y y = p) && decide (0 < yk1 y y))
 | true => decide (yjf .u64 p 32 < zgt .u64 (zkk .u64 (ygy y y) y) (ygy (yk1 y y) y)) || (decide (zgt .u64 (zkk .u64 (ygy y y) y) (ygy (yk1 y y) y) = yjf .u64 p 32) && decide (0 < yk1 (yk1 y y) y))
def yqa (L : zaa) : zb4 := (231, fun xs => match xs with | [.int .u64 y, .int .u64 p, .bool t] => some (True, .bool (L3 L yqz y p t)) | _ => none)
theorem yj6 : zao Tryz.prog (yqa std) := by
 intro xs p r h hp
 dsimp only [yqa] at h |-
 split at h <;> cases h
 try simp only [L2, L3, std] at hp |-
 rename_i y p t
 refine za6 (T := tt) (S := fun L => zad [yn5 L]) (lo := noA) (lb := noA) 5 (fn := Tryz.f231) rfl rfl (by kernel_rfl) (by kernel_rfl) rfl zab (za1 ⟨ygx, trivial⟩) (by kernel_rfl) ?_
 (intro L P1 Q1 hL hP hQ; cbv; subst hL; simp only [L2, L3, std, syT]; subst hQ)
 cases t
 · refine ⟨trivial, fun _ => ⟨fun h => ?_, fun h => ⟨fun h2 => ?_, fun h2 => ?_⟩⟩, fun h => by cases h⟩
   all_goals simp only [zg6]
   all_goals simp_all [yqz, ilt, ieq]
 · refine ⟨trivial, fun h => (by cases h), fun _ => ⟨trivial, rfl, fun h => ?_, fun h => ⟨rfl, fun h2 => ?_, fun h2 => ?_⟩⟩⟩
   all_goals simp only [zg6]
   all_goals simp_all [yqz, ilt, ieq]
def yk2 (p : Int) (three : Bool) : Nat -> Int -> Int
 | 0, x => x
 | f + 1, x => yk2 p three f (if yqz (bor .u64 x (2 ^ f)) p three = true then x else bor .u64 x (2 ^ f))
def yhj (k n : Nat) : Nat := k + 0 * n
theorem zvm (k n : Nat) : yhj k n = k := by rw [yhj, Nat.zero_mul]; rfl
def zg1 (p : Int) (three : Bool) : Int := yk2 p three (yhj 37 p.toNat) 0 % 4294967296
theorem zqp (p : Int) (three : Bool) : zg1 p three = yk2 p three 37 0 % 4294967296 := by rw [zg1, zvm]
def zvk (p : Int) (three : Bool) (x : Int × Nat) : Prop := x.2 <= 36 /\ yk2 p three (x.2 + 1) x.1 = yk2 p three 37 0
def zuu (f : Nat) : Int := 2 ^ f
def lstA (L : zaa) (p : Int) (t : Bool) : Nat -> St -> Option Ann := fun id st => match id with
 | 0 => some ⟨Int × Nat, fun x => [(5, .int .u64 (L Prod.fst x)), (6, .int .u64 (L zuu (L Prod.snd x)))], fun _ => [], [0, 1], [], fun x => L3 L zvk p t x, fun x => L Prod.snd x⟩
 | _ => none
theorem yax : ∀ f : _root_.Fin 37, zrw .u64 (zuu f.val) 1 = if f.val = 0 then 0 else zuu (f.val - 1) := by decide +kernel
theorem zut (f : Nat) : 0 < zuu f := by unfold zuu; exact Int.pow_pos (by decide)
theorem zk2 {f : Nat} (h : f <= 36) : zrw .u64 (zuu f) 1 = if f = 0 then 0 else zuu (f - 1) := yax ⟨f, by omega⟩
theorem zvj {p : Int} {t : Bool} {x : Int} {f : Nat} (h : zvk p t (x, f)) (h0 : ¬ f = 0) : zvk p t ((if yqz (bor .u64 x (zuu f)) p t = true then x else bor .u64 x (zuu f)), f - 1) := by
 obtain ⟨h1, h2⟩ := h
 refine ⟨by show f - 1 <= 36; have : f <= 36 := h1; omega, ?_⟩
 rw [<- h2]
 show yk2 p t (f - 1 + 1) _ = yk2 p t (f + 1) x
 rw [show f - 1 + 1 = f by omega]
 rfl
theorem ybx {p : Int} {t : Bool} {x : Int} {f : Nat} (h : zvk p t (x, f)) (h0 : f = 0) : (if yqz (bor .u64 x (zuu f)) p t = true then x else bor .u64 x (zuu f)) = yk2 p t 37 0 := by
 obtain ⟨h1, h2⟩ := h
 subst h0
 rw [<- h2]; rfl
def zou (L : zaa) : zb4 := (209, fun xs => match xs with | [.int .u64 p, .bool t] => some (True, .int .u32 (L2 L zg1 p t)) | _ => none)
theorem zn6 : zao Tryz.prog (zou std) := by
 intro xs p r h hp
 dsimp only [zou] at h |-
 split at h <;> cases h
 try simp only [L2, L3, std] at hp |-
 rename_i p t
 refine za6 (T := tt) (S := fun L => zad [yqa L]) (lo := noA) (lb := fun L => lstA L p t) 5 (fn := Tryz.f209) rfl rfl (by kernel_rfl) (by kernel_rfl) rfl zab (za1 ⟨yj6, trivial⟩) (by kernel_rfl) ?_
 intro L P' Q' hL hP hQ
 (cbv; try simp only [syT, true_and, and_true])
 refine ⟨fun x hx => ?_, ⟨(0, 36), ?_⟩⟩
 · cbv at hx
   obtain ⟨y1, hy1⟩ : ∃ y : Int × Nat, y = (bor .u64 x.1 (zuu x.2), x.2 - 1) := ⟨_, rfl⟩
   obtain ⟨y2, hy2⟩ : ∃ y : Int × Nat, y = (x.1, x.2 - 1) := ⟨_, rfl⟩
   (cbv; try simp only [syT, true_and, and_true])
   refine ⟨fun h1 => ⟨?_, fun h2 => ⟨y1, ?_⟩, fun h2 => ?_⟩, fun h1 => ⟨?_, fun h2 => ⟨y2, ?_⟩, fun h2 => ?_⟩⟩
   all_goals (try (cbv; try simp only [syT, true_and, and_true]))
   all_goals (obtain ⟨x, f⟩ := x; (subst hL; subst hQ; simp only [L2, L3, std] at *; try simp only [syS, reduceCtorEq, Int.reduceToNat, Int.reduceAdd, Int.reduceSub] at *))
   · decide
   · rw [zk2 hx.1] at h2 |-
     have h0 : ¬ f = 0 := by intro h0; rw [if_pos h0] at h2; omega
     have := zvj hx h0
     rw [if_neg (by simpa using h1)] at this
     rw [if_neg h0, hy1]
     have hf : f <= 36 := hx.1
     exact ⟨rfl, rfl, this, by show f - 1 + 1 <= f; omega⟩
   · rw [zk2 hx.1] at h2
     have h0 : f = 0 := by
       by_cases h0 : f = 0
       · exact h0
       · rw [if_neg h0] at h2
         exact absurd h2 (by
           have := zut (f - 1)
           show ¬ zuu (f - 1) <= 0
           omega)
     have := ybx hx h0
     rw [if_neg (by simpa using h1)] at this
     rw [this, zqp]
   · decide
   · rw [zk2 hx.1] at h2 |-
     have h0 : ¬ f = 0 := by intro h0; rw [if_pos h0] at h2; omega
     have := zvj hx h0
     rw [if_pos (by simpa using h1)] at this
     rw [if_neg h0, hy2]
     exact ⟨rfl, rfl, this, by show f - 1 + 1 <= f; omega⟩
   · rw [zk2 hx.1] at h2
     have h0 : f = 0 := by
       by_cases h0 : f = 0
       · exact h0
       · rw [if_neg h0] at h2
         exact absurd h2 (by
           have := zut (f - 1)
           show ¬ zuu (f - 1) <= 0
           omega)
     have := ybx hx h0
     rw [if_pos (by simpa using h1)] at this
     rw [this, zqp]
 · (cbv; try simp only [syT, true_and, and_true])
   (subst hL; subst hQ; simp only [L2, L3, std] at *; try simp only [syS, reduceCtorEq, Int.reduceToNat, Int.reduceAdd, Int.reduceSub] at *)
   exact ⟨by decide, by decide, rfl⟩
def prF (n : Int) : Nat -> Int -> Bool
 | 0, _ => false
 | f + 1, d => if d * d <= n then (if n % d = 0 then false else prF n f (d + 1)) else decide (1 < n)
def zfj (n : Int) : Bool := prF n (yhj 38 n.toNat) 2
theorem yaw (n : Int) : prF n 38 2 = zfj n := by rw [zfj, zvm]
def ywy (n : Int) (d : Nat) : Prop := 2 <= d /\ d <= 33 /\ prF n (40 - d) d = zfj n
def prA (L : zaa) (n : Int) : Nat -> St -> Option Ann := fun id st => match id with
 | 0 => some ⟨Nat, fun d => [(3, .int .u64 (L zan d))], fun _ => [], [0], [], fun d => L2 L ywy n d, fun d => L (fun d : Nat => 40 - d) d⟩
 | _ => none
def zsj (L : zaa) : zb4 := (210, fun xs => match xs with | [.int .u64 n] => some (L (fun n : Int => 0 <= n /\ n <= 1000) n, .bool (L zfj n)) | _ => none)
theorem zxc : zao Tryz.prog (zsj std) := by
 intro xs p r h hp
 dsimp only [zsj] at h |-
 split at h <;> cases h
 try simp only [L2, L3, std] at hp |-
 rename_i n
 have hn : 0 <= n /\ n <= 1000 := hp
 refine za6 (T := tt) (S := noS) (lo := fun L => prA L n) (lb := noA) 5 (fn := Tryz.f210) rfl rfl (by kernel_rfl) (by kernel_rfl) rfl zab (zbh _) (by kernel_rfl) ?_
 intro L P' Q' hL hP hQ
 (cbv; try simp only [syT, true_and, and_true])
 refine ⟨⟨2, ?_⟩, fun d hd => ?_⟩
 · (cbv; try simp only [syT, true_and, and_true])
   (subst hL; subst hQ; simp only [L2, L3, std] at *; try simp only [syS, reduceCtorEq, Int.reduceToNat, Int.reduceAdd, Int.reduceSub] at *)
   exact ⟨by decide, by decide, yaw n⟩
 · cbv at hd
   (cbv; try simp only [syT, true_and, and_true])
   refine ⟨fun h1 => ⟨?_, fun h2 => ?_, fun h2 => ⟨d + 1, ?_⟩⟩, fun h1 => ?_⟩
   all_goals (try (cbv; try simp only [syT, true_and, and_true]))
   all_goals (subst hL; subst hQ; simp only [L2, L3, std] at *; try simp only [syS, reduceCtorEq, Int.reduceToNat, Int.reduceAdd, Int.reduceSub] at *)
   all_goals (obtain ⟨i1, i2, i3⟩ := hd)
   all_goals (have hdd : d * d <= 33 * 33 := Nat.mul_le_mul i2 i2)
   all_goals (have hd2 : ((d : Nat) : Int) * ((d : Nat) : Int) = ((d * d : Nat) : Int) := by simp)
   all_goals (rw [show 40 - d = (39 - d) + 1 by omega, prF, hd2] at i3)
   all_goals (try rw [hd2] at h1)
   · omega
   · rw [if_pos (by omega)] at i3
     rw [Int.tmod_eq_emod_of_nonneg hn.1] at h2
     rw [if_pos h2] at i3
     exact i3
   · rw [if_pos (by omega)] at i3
     rw [Int.tmod_eq_emod_of_nonneg hn.1] at h2
     rw [if_neg h2] at i3
     have h31 : d <= 31 := by
       apply Nat.le_of_not_lt
       intro h
       have : 32 * 32 <= d * d := Nat.mul_le_mul h h
       omega
     refine ⟨by omega, ⟨by omega, by omega, ?_⟩, by omega⟩
     rw [show 40 - (d + 1) = 39 - d by omega, <- i3]
     congr 1
   · rw [if_neg (by omega)] at i3
     rw [<- i3]; rfl
end Sy
end Go.Proofs.YthppjaoicibeiaaGreatDoor
namespace Go.Proofs.YthppjaoicibeiaaGreatDoor
namespace Sy
open Go Go.RowKit
set_option maxRecDepth 100000
set_option linter.unusedSimpArgs false
set_option linter.unusedVariables false
def zqs : List Int := [0x428a2f98, 0x71374491, 0xb5c0fbcf, 0xe9b5dba5, 0x3956c25b, 0x59f111f1, 0x923f82a4, 0xab1c5ed5,
 0xd807aa98, 0x12835b01, 0x243185be, 0x550c7dc3, 0x72be5d74, 0x80deb1fe, 0x9bdc06a7, 0xc19bf174,
 0xe49b69c1, 0xefbe4786, 0x0fc19dc6, 0x240ca1cc, 0x2de92c6f, 0x4a7484aa, 0x5cb0a9dc, 0x76f988da,
 0x983e5152, 0xa831c66d, 0xb00327c8, 0xbf597fc7, 0xc6e00bf3, 0xd5a79147, 0x06ca6351, 0x14292967,
 0x27b70a85, 0x2e1b2138, 0x4d2c6dfc, 0x53380d13, 0x650a7354, 0x766a0abb, 0x81c2c92e, 0x92722c85,
 0xa2bfe8a1, 0xa81a664b, 0xc24b8b70, 0xc76c51a3, 0xd192e819, 0xd6990624, 0xf40e3585, 0x106aa070,
 0x19a4c116, 0x1e376c08, 0x2748774c, 0x34b0bcb5, 0x391c0cb3, 0x4ed8aa4a, 0x5b9cca4f, 0x682e6ff3,
 0x748f82ee, 0x78a5636f, 0x84c87814, 0x8cc70208, 0x90befffa, 0xa4506ceb, 0xbef9a3f7, 0xc67178f2]
def znh : List Int := [0x6a09e667, 0xbb67ae85, 0x3c6ef372, 0xa54ff53a, 0x510e527f, 0x9b05688c, 0x1f83d9ab, 0x5be0cd19]
def zjk : Nat -> Nat
 | 0 => 0
 | n + 1 => if zfj n = true then zjk n + 1 else zjk n
def zdb : Nat -> List Int
 | 0 => List.replicate 64 0
 | n + 1 => if zfj n = true then (zdb n).set (zjk n) (zg1 n true) else zdb n
theorem zli : ∀ n, (zdb n).length = 64
 | 0 => by rw [zdb, List.length_replicate]
 | n + 1 => by
   rw [zdb]
   split
   · rw [List.length_set, zli n]
   · exact zli n
theorem yhl : zdb 312 = zqs := by decide +kernel
theorem cnt_311 : zjk 311 = 63 /\ zjk 312 = 64 := by decide +kernel
theorem yip : ∀ {m n : Nat}, m <= n -> zjk m <= zjk n := by
 intro m n h
 induction h with
 | refl => exact Nat.le_refl _
 | step h ih =>
   rename_i k
   rw [zjk]
   split <;> omega
def yk5 (n : Nat) : Prop := 2 <= n /\ n <= 311 /\ zjk n <= 63
def zjs (n : Nat) : Int := zjk n
def keyA (L : zaa) : Nat -> St -> Option Ann := fun id st => match id with
 | 0 => some ⟨Nat, fun n => [(2, .int .u64 (L zan n)), (3, .int .i64 (L zjs n)), (1, .ref 1 0)], fun n => [(1, .row 230 1 64 (fun i _ => .int .u32 (L2 L za2 (L zdb n) i)))], [0], [0], fun n => L yk5 n, fun n => L (fun n : Nat => 312 - n) n⟩
 | _ => none
def zvp (L : zaa) : zb4 := (188, fun xs => match xs with | [] => some (True, .arr 64 (fun j => .int .u32 (L2 L za2 zqs j))) | _ => none)
theorem ybh {l : List Int} {k : Nat} {v : Int} (h : k < l.length) : za2 (l.set k v) k = v := by
 rw [za2, List.getD_eq_getElem?_getD, List.getElem?_set_self h]; rfl
theorem yn3 {l : List Int} {k i : Nat} {v : Int} (h : k ≠ i) : za2 (l.set k v) i = za2 l i := by
 rw [za2, za2, List.getD_eq_getElem?_getD, List.getD_eq_getElem?_getD, List.getElem?_set_ne h]
theorem ynp : zdb 2 = List.replicate 64 0 /\ 0 = zjs 2 /\ zjk 2 <= 63 := by decide +kernel
theorem yk4 {n : Nat} (h : n <= 311) (hc : zjk (n + 1) < 64) : n + 1 <= 311 := by
 rcases Nat.lt_or_eq_of_le h with h | h
 · exact h
 · rw [h] at hc
   exact absurd (cnt_311.2 ▸ hc : (64 : Nat) < 64) (by decide)
theorem yt5 {n : Nat} (h : n <= 311) (hc : 64 <= zjk (n + 1)) : zdb (n + 1) = zqs := by
 rcases Nat.lt_or_eq_of_le h with h | h
 · have h2 := Nat.le_trans hc (yip h)
   rw [cnt_311.1] at h2
   exact absurd h2 (by decide)
 · rw [h]; exact yhl
theorem yno {n : Nat} (h : zfj n = true) : zjk (n + 1) = zjk n + 1 /\ zdb (n + 1) = (zdb n).set (zjk n) (zg1 n true) := by
 rw [zjk, zdb, if_pos h, if_pos h]; exact ⟨rfl, rfl⟩
theorem k_no {n : Nat} (h : zfj n = false) : zjk (n + 1) = zjk n /\ zdb (n + 1) = zdb n := by
 rw [zjk, zdb, if_neg (by rw [h]; decide), if_neg (by rw [h]; decide)]; exact ⟨rfl, rfl⟩
theorem ylo {l : List Int} {k i : Nat} (v : Int) (hk : k < l.length) : over std k 0 1 [.int .u32 v] (fun i x => .int .u32 (za2 l i)) i 0 = .int .u32 (za2 (l.set k v) i) := by
 rw [zf8, if_pos ⟨Nat.le_refl _, by omega⟩]
 by_cases hi2 : i = k
 · subst hi2
   rw [za7, ybh hk]; rfl
 · rw [zah hi2, yn3 (fun h => hi2 h.symm)]; rfl
theorem yt4 {n i : Nat} (h : zfj n = true) (hc : zjk n < 64) : over std (zjs n).toNat 0 1 [.int .u32 (zg1 n true)] (fun i x => .int .u32 (za2 (zdb n) i)) i 0 = .int .u32 (za2 (zdb (n + 1)) i) := by
 rw [(yno h).2]
 have e : (zjs n).toNat = zjk n := Int.toNat_natCast _
 rw [e]
 have hl : zjk n < (zdb n).length := by rw [zli]; exact hc
 generalize zg1 n true = v
 generalize zdb n = l at hl |-
 generalize zjk n = k at hl |-
 exact ylo v hl
theorem k_go {n n' : Nat} (hn : n' = n + 1) (hi : yk5 n) (h1 : zfj n = true) (h2 : zjs n + 1 < 64) : (∀ i, over std (zjs n).toNat 0 1 [.int .u32 (zg1 n true)] (fun i x => .int .u32 (za2 (zdb n) i)) i 0 = .int .u32 (za2 (zdb n') i)) /\ zjs n + 1 = zjs n' /\ yk5 n' /\ 312 - n' < 312 - n := by
 subst hn
 obtain ⟨i1, i2, i3⟩ := hi
 obtain ⟨h3, -⟩ := yno h1
 have h2' : zjk n + 1 < 64 := by unfold zjs at h2; omega
 have h5 := yk4 i2 (by rw [h3]; omega)
 refine ⟨fun i => yt4 h1 (by omega), ?_, ⟨by omega, h5, by rw [h3]; omega⟩, by omega⟩
 unfold zjs
 rw [h3]; rfl
theorem yxk {n : Nat} (hi : yk5 n) (h1 : zfj n = true) (h2 : ¬ zjs n + 1 < 64) (j : Nat) : over std (zjs n).toNat 0 1 [.int .u32 (zg1 n true)] (fun i x => .int .u32 (za2 (zdb n) i)) j 0 = .int .u32 (za2 zqs j) := by
 obtain ⟨i1, i2, i3⟩ := hi
 obtain ⟨h3, -⟩ := yno h1
 have h2' : 64 <= zjk n + 1 := by unfold zjs at h2; omega
 rw [yt4 h1 (by omega), yt5 i2 (by rw [h3]; omega)]
theorem yxj {n n' : Nat} (hn : n' = n + 1) (hi : yk5 n) (h1 : zfj n = false) (h2 : zjs n < 64) : zdb n = zdb n' /\ zjs n = zjs n' /\ yk5 n' /\ 312 - n' < 312 - n := by
 subst hn
 obtain ⟨i1, i2, i3⟩ := hi
 obtain ⟨h3, h4⟩ := k_no h1
 have h5 := yk4 i2 (by rw [h3]; omega)
 refine ⟨h4.symm, ?_, ⟨by omega, h5, by rw [h3]; omega⟩, by omega⟩
 unfold zjs
 rw [h3]
theorem yxi {n : Nat} (hi : yk5 n) : 2 <= n /\ n <= 311 /\ 0 <= zjs n /\ zjs n <= 63 := by
 obtain ⟨i1, i2, i3⟩ := hi
 refine ⟨i1, i2, Int.natCast_nonneg _, ?_⟩
 unfold zjs; omega
theorem yxl {n : Nat} (hn : n = 2) : (∀ i, i < 64 -> za2 (zdb n) i = 0) /\ zjs n = 0 /\ yk5 n /\ (n : Int) = 2 := by
 subst hn
 refine ⟨fun i hi => ?_, ynp.2.1.symm, ⟨by decide, by decide, ynp.2.2⟩, rfl⟩
 rw [ynp.1, za2, List.getD_eq_getElem?_getD, List.getElem?_replicate, if_pos hi]; rfl
theorem zqr : zao Tryz.prog (zvp std) := by
 intro xs p r h hp
 dsimp only [zvp] at h |-
 split at h <;> cases h
 try simp only [L2, L3, std] at hp |-
 refine za6 (T := tt) (S := fun L => zad [zsj L, zou L]) (lo := noA) (lb := keyA) 5 (fn := Tryz.f188) rfl rfl (by kernel_rfl) (by kernel_rfl) rfl zab (za1 ⟨zxc, zn6, trivial⟩) (by kernel_rfl) ?_
 intro L P' Q' hL hP hQ
 obtain ⟨n0, hn0⟩ : ∃ n0 : Nat, n0 = 2 := ⟨_, rfl⟩
 (cbv; try simp only [syT, true_and, and_true])
 refine ⟨fun n hn => ?_, ⟨n0, ?_⟩⟩
 · obtain ⟨n', hn'⟩ : ∃ n' : Nat, n' = n + 1 := ⟨_, rfl⟩
   (cbv; try simp only [syT, true_and, and_true])
   refine ⟨?_, fun h1 => ⟨?_, fun h2 => ⟨n', ?_⟩, fun h2 => ?_⟩, fun h1 => ⟨fun h2 => ⟨n', ?_⟩, fun h2 => ?_⟩⟩
   all_goals (try (cbv; try simp only [syT, true_and, and_true]))
   all_goals (subst hL; subst hQ; simp only [L2, L3, std] at *; try simp only [syS, reduceCtorEq, Int.reduceToNat, Int.reduceAdd, Int.reduceSub] at *)
   all_goals (obtain ⟨r1, r2, r3, r4⟩ := yxi hn)
   · omega
   · omega
   · rw [show (zjs n + 1 + 9223372036854775808) % 18446744073709551616 - 9223372036854775808 = zjs n + 1 by omega] at h2 |-
     obtain ⟨e1, e2, e3, e4⟩ := k_go hn' hn h1 h2
     refine ⟨fun i j hi hj => ?_, e2, by omega, e3, by omega⟩
     have : j = 0 := by omega
     subst this
     exact e1 i
   · rw [show (zjs n + 1 + 9223372036854775808) % 18446744073709551616 - 9223372036854775808 = zjs n + 1 by omega] at h2
     intro j hj
     exact yxk hn h1 (by omega) j
   · obtain ⟨e1, e2, e3, e4⟩ := yxj hn' hn h1 h2
     exact ⟨fun i j hi hj => by rw [e1], e2, by omega, e3, by omega⟩
   · exfalso; omega
 · (cbv; try simp only [syT, true_and, and_true])
   (subst hL; subst hQ; simp only [L2, L3, std] at *; try simp only [syS, reduceCtorEq, Int.reduceToNat, Int.reduceAdd, Int.reduceSub] at *)
   obtain ⟨e1, e2, e3, e4⟩ := yxl hn0
   refine ⟨fun i j hi hj => ?_, e2.symm, e4.symm, e3⟩
   have : j = 0 := by omega
   subst this
   rw [e1 i hi]; rfl
end Sy
end Go.Proofs.YthppjaoicibeiaaGreatDoor
namespace Go.Proofs.YthppjaoicibeiaaGreatDoor
namespace Sy
open Go Go.RowKit
set_option maxRecDepth 100000
set_option linter.unusedSimpArgs false
set_option linter.unusedVariables false
def zoz (x : AV) : List UInt8 := match x with
 | .lst _ n get => (zb7 n get).flatten
 | _ => []
def zg2 (x : AV) : Prop := match x with
 | .lst 1 n get => (∀ i, i < n -> ∃ s, get i 0 = .str s) /\ n <= 1000000 /\ (zb7 n get).flatten.length <= 1000000
 | .nils => True
 | _ => False
theorem zqu (l : List (List UInt8)) : Lib.join l [] = l.flatten := by
 unfold Lib.join
 induction l with
 | nil => rfl
 | cons x l ih =>
   cases l with
   | nil => simp
   | cons y l => rw [List.intercalate_cons_cons, ih]; simp
def zvq (L : zaa) : zb4 := (88, fun xs => match xs with | [x, .str []] => some (L zg2 x, .str (L zoz x)) | _ => none)
theorem zqt : zao Tryz.prog (zvq std) := by
 intro xs p r h hp
 dsimp only [zvq] at h |-
 split at h <;> cases h
 try simp only [L2, L3, std] at hp |-
 rename_i x
 have hp : zg2 x := hp
 intro D w vs hD hxs hg
 obtain ⟨a, b, rfl, rx, ry⟩ := ykm hxs
 obtain rfl := zq0 ry
 unfold zf1
 rw [zbx (fn := Tryz.f88) rfl (by kernel_rfl) rfl]
 have fin : ∀ (l : List UInt8), l = zoz x -> (∀ w', Below w.heap.size w w' -> ∃ v D', Ending.returned (.string ⟨l.toArray⟩) = .returned v /\ Below w.heap.size w w' /\ (∀ b, D b -> D' b) /\ (∀ b, D' b -> D b \/ (w.heap.size <= b /\ b < w'.heap.size)) /\ R w'.heap D' zam (.str (zoz x)) v) := by
   rintro l rfl w' hw
   exact ⟨_, D, rfl, hw, fun _ h => h, fun b hb => .inl hb, zwh _ _ _ _⟩
 have none_ : zoz x = [] -> ∀ (a : Option Addr) (c : Nat), Calls Tryz.prog 88 #[.slice a 0 c, .string ⟨#[]⟩] w fun e w' => ∃ v D', e = .returned v /\ Below w.heap.size w w' /\ (∀ b, D b -> D' b) /\ (∀ b, D' b -> D b \/ (w.heap.size <= b /\ b < w'.heap.size)) /\ R w'.heap D' zam (.str (zoz x)) v := by
   intro h0 a c
   refine (Tryz.strings_Join_none a c ⟨#[]⟩ w).mono ?_
   rintro e w' ⟨rfl, rfl⟩
   exact fin [] h0.symm _ (Below.refl _ _)
 unfold zg2 at hp
 split at hp
 · rename_i n get _
   obtain ⟨h1, h2, h3⟩ := hp
   cases rx with
   | lst0 => exact none_ rfl _ _
   | lst _ _ _ b o cap us hD0 hc hv h1' hr =>
     have hl : (zb7 n get).length = n := by rw [zb7, List.length_map, List.length_range]
     have hq : ∀ j x, ((zb7 n get).map (fun s : List UInt8 => (⟨s.toArray⟩ : ByteArray)))[j]? = some x -> w.cell? ⟨b, o + j, none⟩ = some (.string x) := by
       intro j x hj
       have hjn : j < n := by
         have := (List.getElem?_eq_some_iff.1 hj).1
         rw [List.length_map, hl] at this
         exact this
       obtain ⟨s, hs⟩ := h1 j hjn
       have r := hr j 0 hjn (by omega)
       rw [hs] at r
       have hv := hv j 0 hjn (by omega)
       rw [zq0 r, Nat.mul_one, Nat.add_zero] at hv
       rw [zly, hv]
       have e2 : (zb7 n get)[j]? = some s := by rw [zb7, List.getElem?_map, List.getElem?_range hjn, Option.map_some, hs]; rfl
       rw [List.getElem?_map, e2] at hj
       cases hj
       rfl
     have hm : ((zb7 n get).map (fun s : List UInt8 => (⟨s.toArray⟩ : ByteArray))).map (·.data.toList) = zb7 n get := by
       rw [List.map_map]
       exact List.map_id' _
     have := Tryz.strings_Join b o cap ((zb7 n get).map (fun s : List UInt8 => (⟨s.toArray⟩ : ByteArray))) ⟨#[]⟩ w hq (hD b hD0) (by rw [List.length_map, hl]; omega) (by rw [List.length_map, hl]; exact hc) (by rw [hm]; show (Lib.join _ []).length <= _; rw [zqu]; omega)
     rw [hm, List.length_map, hl] at this
     refine this.mono ?_
     rintro e w' ⟨rfl, hw⟩
     exact fin _ (by show Lib.join _ [] = _; rw [zqu]; rfl) _ hw
 · cases rx
   exact none_ rfl _ _
 · exact hp.elim
def ywv (s : List UInt8) (c : Int) : List UInt8 := (List.replicate c.toNat s).flatten
theorem yap (s : List UInt8) : ∀ c : Nat, Lib.repeatL s c = (List.replicate c s).flatten
 | 0 => rfl
 | c + 1 => by rw [Lib.repeatL, yap s c, List.replicate_succ, List.flatten_cons]
def ymd (s : List UInt8) (c : Int) : Prop := 0 <= c /\ c <= 1000000 /\ s.length <= 1000000
def ymb (L : zaa) : zb4 := (208, fun xs => match xs with | [.str s, .int .i64 c] => some (L2 L ymd s c, .str (L2 L ywv s c)) | _ => none)
theorem ygb : zao Tryz.prog (ymb std) := by
 intro xs p r h hp
 dsimp only [ymb] at h |-
 split at h <;> cases h
 try simp only [L2, L3, std] at hp |-
 rename_i s c
 obtain ⟨h0, h1, h2⟩ : ymd s c := hp
 obtain ⟨k, rfl⟩ := zla h0
 refine zce (fn := Tryz.f208) rfl rfl (by kernel_rfl) (ztz (zbu _) (zd6 _ _)) (fun h D => zwh h D _ _) (fun w => ?_)
 have hs : (⟨s.toArray⟩ : ByteArray).size = s.length := by show s.toArray.size = s.length; simp
 have := Tryz.strings_Repeat ⟨s.toArray⟩ k w (by omega) (by
   rw [hs]
   have : s.length * k <= 1000000 * 1000000 := Nat.mul_le_mul h2 (by omega)
   omega)
 refine this.mono ?_
 rintro e w' ⟨rfl, hw⟩
 refine ⟨?_, hw⟩
 show Ending.returned (.string ⟨(Lib.repeatL s k).toArray⟩) = _
 rw [yap]; rfl
def yb7 (s : List UInt8) : List UInt8 := s ++ [128] ++ List.replicate ((64 - (s.length + 9) % 64) % 64) 0 ++ zyz (s.length * 8) 8
theorem yao (n : Nat) : (List.replicate n [(0 : UInt8)]).flatten = List.replicate n 0 := by
 induction n with
 | zero => rfl
 | succ n ih => rw [List.replicate_succ, List.flatten_cons, ih, List.replicate_succ]; rfl
theorem zl0 (e n : Int) (h0 : 0 <= n) (h8 : n <= 8) : (zyz e n).length = n.toNat := by
 rw [zyz, zl1]
 unfold cl8
 omega
theorem yx2 (n : Nat) (h : n <= 1000000) : ((64 - ((((n : Int) + 1 + 9223372036854775808) % 18446744073709551616 - 9223372036854775808 + 8 + 9223372036854775808) % 18446744073709551616 - 9223372036854775808).tmod 64 + 9223372036854775808) % 18446744073709551616 - 9223372036854775808).tmod 64 = (((64 - (n + 9) % 64) % 64 : Nat) : Int) := by
 have h1 : ((((n : Int) + 1 + 9223372036854775808) % 18446744073709551616 - 9223372036854775808 + 8 + 9223372036854775808) % 18446744073709551616 - 9223372036854775808) = ((n + 9 : Nat) : Int) := by omega
 rw [h1, Int.tmod_eq_emod_of_nonneg (a := ((n + 9 : Nat) : Int)) (by omega)]
 have h2 : (64 - ((n + 9 : Nat) : Int) % 64 + 9223372036854775808) % 18446744073709551616 - 9223372036854775808 = ((64 - (n + 9) % 64 : Nat) : Int) := by omega
 rw [h2, Int.tmod_eq_emod_of_nonneg (by omega)]
 omega
theorem ymc {k : Nat} (h : k < 64) : ymd [0] (k : Int) := ⟨Int.natCast_nonneg _, by omega, by decide⟩
theorem len8 (n : Nat) (h : n <= 1000000) : (n : Int) % 18446744073709551616 * 8 % 18446744073709551616 = (n : Int) * 8 := by omega
def znv (L : zaa) : zb4 := (186, fun xs => match xs with | [.str s] => some (L2 L upto 1000000 s, .str (L yb7 s)) | _ => none)
theorem zmo : zao Tryz.prog (znv std) := by
 intro xs p r h hp
 dsimp only [znv] at h |-
 split at h <;> cases h
 try simp only [L2, L3, std] at hp |-
 rename_i s
 refine za6 (T := tt) (S := fun L => zad [ymb L, zse L]) (lo := noA) (lb := noA) 5 (fn := Tryz.f186) rfl rfl (by kernel_rfl) (by kernel_rfl) rfl zab (za1 ⟨ygb, zho, trivial⟩) (by kernel_rfl) ?_
 have hl : s.length <= 1000000 := hp
 have hpn := yx2 s.length hl
 have hl8 := len8 s.length hl
 (intro L P1 Q1 hL hP hQ; cbv; subst hL; simp only [L2, L3, std, syT]; subst hQ)
 (simp only [syS, reduceCtorEq, Int.reduceToNat, Int.reduceAdd, Int.reduceSub])
 rw [hpn, hl8]
 have hz : yb7 s = s ++ [128] ++ List.replicate ((64 - (s.length + 9) % 64) % 64) 0 ++ zyz (s.length * 8) 8 := rfl
 rw [hz]
 have hk : (64 - (s.length + 9) % 64) % 64 < 64 := Nat.mod_lt _ (by decide)
 generalize (64 - (s.length + 9) % 64) % 64 = k at hk |-
 have hr : ywv [0] (k : Int) = List.replicate k 0 := by
   rw [ywv, Int.toNat_natCast, yao]
 rw [hr]
 have hput := zl0 ((s.length : Int) * 8) 8 (by decide) (by decide)
 simp only [List.length_append, List.length_replicate, List.length_cons, List.length_nil, hput]
 refine ⟨by omega, by decide, by decide, ymc hk, by omega, ⟨by omega, by omega, by decide, by decide⟩, by omega, trivial⟩
def yvb (s : List UInt8) : Nat := (64 - (s.length + 9) % 64) % 64
def zji (n : Nat) : List Int := znh.take n
def frA (L : zaa) : Nat -> St -> Option Ann := fun id st => match id with
 | 0 => some ⟨Nat, fun n => [(5, .int .i64 (L zan n))], fun n => [(1, .row 228 1 8 (fun i _ => .int .u32 (L2 L za2 (L zji n) i)))], [0, 1, 4], [0], fun n => L (fun n : Nat => n <= 8) n, fun n => L (fun n : Nat => 8 - n) n⟩
 | _ => none
def w8 (g : Nat -> AV) : AV := .agg [g 0, g 1, g 2, g 3, g 4, g 5, g 6, g 7]
theorem yia : ∀ n : _root_.Fin 8, zg1 (za2 [2, 3, 5, 7, 11, 13, 17, 19] n.val) false = za2 znh n.val := by decide +kernel
theorem yd6 {n n' i : Nat} (hn : n' = n + 1) (h : n < 8) (hi : i < 8) : over std n 0 1 [.int .u32 (zg1 (za2 [2, 3, 5, 7, 11, 13, 17, 19] n) false)] (fun i x => .int .u32 (za2 (zji n) i)) i 0 = .int .u32 (za2 (zji n') i) := by
 rw [zf8, if_pos ⟨Nat.le_refl _, by omega⟩, yia ⟨n, h⟩]
 subst hn
 have hl : znh.length = 8 := rfl
 by_cases hi2 : i = n
 · subst hi2
   rw [za7]
   show AV.int .u32 (za2 znh i) = _
   rw [zji, za2, za2, List.getD_eq_getElem?_getD, List.getD_eq_getElem?_getD, List.getElem?_take_of_lt (by omega)]
 · rw [zah hi2]
   show AV.int .u32 (za2 (zji n) i) = _
   congr 1
   rw [zji, zji, za2, za2, List.getD_eq_getElem?_getD, List.getD_eq_getElem?_getD]
   by_cases hlt : i < n
   · rw [List.getElem?_take_of_lt hlt, List.getElem?_take_of_lt (by omega)]
   · rw [List.getElem?_eq_none (by rw [List.length_take]; omega), List.getElem?_eq_none (by rw [List.length_take]; omega)]
def zp8 (L : zaa) : zb4 := (187, fun xs => match xs with | [] => some (True, w8 fun i => .int .u32 (L2 L za2 znh i)) | _ => none)
theorem zng : zao Tryz.prog (zp8 std) := by
 intro xs p r h hp
 dsimp only [zp8] at h |-
 split at h <;> cases h
 try simp only [L2, L3, std] at hp |-
 refine za6 (T := tt) (S := fun L => zad [zou L]) (lo := frA) (lb := noA) 5 (fn := Tryz.f187) rfl rfl (by kernel_rfl) (by kernel_rfl) rfl zab (za1 ⟨zn6, trivial⟩) (by kernel_rfl) ?_
 intro L P' Q' hL hP hQ
 (cbv; try simp only [syT, true_and, and_true])
 refine ⟨⟨0, ?_⟩, fun n hn => ?_⟩
 · (cbv; try simp only [syT, true_and, and_true])
   (subst hL; subst hQ; simp only [L2, L3, std] at *; try simp only [syS, reduceCtorEq, Int.reduceToNat, Int.reduceAdd, Int.reduceSub] at *)
   exact ⟨fun i j hi hj => by
     have : j = 0 := by omega
     subst this
     simp [zji, za2]; rfl, by omega⟩
 · obtain ⟨n', hn'⟩ : ∃ n' : Nat, n' = n + 1 := ⟨_, rfl⟩
   (cbv; try simp only [syT, true_and, and_true])
   refine ⟨fun h1 => ⟨?_, ?_, n', ?_⟩, fun h1 => ?_⟩
   · (subst hL; subst hQ; simp only [L2, L3, std] at *; try simp only [syS, reduceCtorEq, Int.reduceToNat, Int.reduceAdd, Int.reduceSub] at *)
     omega
   · (subst hL; subst hQ; simp only [L2, L3, std] at *; try simp only [syS, reduceCtorEq, Int.reduceToNat, Int.reduceAdd, Int.reduceSub] at *)
     omega
   · (cbv; try simp only [syT, true_and, and_true])
     (subst hL; subst hQ; simp only [L2, L3, std] at *; try simp only [syS, reduceCtorEq, Int.reduceToNat, Int.reduceAdd, Int.reduceSub] at *)
     have h1 : n < 8 := by omega
     refine ⟨fun i j hi hj => ?_, by omega, by omega, by omega⟩
     have : j = 0 := by omega
     subst this
     exact yd6 hn' h1 hi
   · unfold w8 at hQ
     (subst hL; subst hQ; simp only [L2, L3, std] at *; try simp only [syS, reduceCtorEq, Int.reduceToNat, Int.reduceAdd, Int.reduceSub] at *)
     have : n = 8 := by omega
     subst this
     exact ⟨rfl, rfl, rfl, rfl, rfl, rfl, rfl, rfl⟩
def rlS (k : Int) : Int := zty .u64 (IntKind.u64.wrap k) 31
def rlZ (x k : Int) : Int := bor .u32 (yjf .u32 x (rlS k)) (zrw .u32 x (zrv .u64 32 (rlS k)))
def ywt (L : zaa) : zb4 := (232, fun xs => match xs with | [.int .u32 x, .int .i64 k] => some (True, .int .u32 (L2 L rlZ x k)) | _ => none)
theorem zgz (a : Int) : 0 <= IntKind.u64.wrap a := Int.emod_nonneg _ (by decide)
theorem zx3 (k : Int) : 0 <= rlS k := zgz _
theorem ym8 : zao Tryz.prog (ywt std) := by
 intro xs p r h hp
 dsimp only [ywt] at h |-
 split at h <;> cases h
 try simp only [L2, L3, std] at hp |-
 rename_i x k
 refine za6 (T := tt) (S := noS) (lo := noA) (lb := noA) 5 (fn := Tryz.f232) rfl rfl (by kernel_rfl) (by kernel_rfl) rfl zab (zbh _) (by kernel_rfl) ?_
 (intro L P1 Q1 hL hP hQ; cbv; subst hL; simp only [L2, L3, std, syT]; subst hQ)
 refine ⟨decide_eq_true (zx3 k), decide_eq_true (zgz _), ?_⟩
 rw [zk7]
 rfl
def rotZ (x a b c : Int) (sh : Bool) : Int := yiw .u32 (yiw .u32 (rlZ x (zrv .i64 0 a)) (rlZ x (zrv .i64 0 b))) (if sh then zrw .u32 x c else rlZ x (zrv .i64 0 c))
def yrx (t : Int × Int × Int × Int × Bool) : Int := rotZ t.1 t.2.1 t.2.2.1 t.2.2.2.1 t.2.2.2.2
def ym7 (L : zaa) : zb4 := (212, fun xs => match xs with | [.int .u32 x, .int .i64 a, .int .i64 b, .int .i64 c, .bool sh] => some (L (fun c : Int => 0 <= c) c, .int .u32 (L yrx (x, a, b, c, sh))) | _ => none)
theorem yg9 : zao Tryz.prog (ym7 std) := by
 intro xs p r h hp
 dsimp only [ym7] at h |-
 split at h <;> cases h
 try simp only [L2, L3, std] at hp |-
 rename_i x a b c sh
 have hc : 0 <= c := hp
 refine za6 (T := tt) (S := fun L => zad [ywt L]) (lo := noA) (lb := noA) 5 (fn := Tryz.f212) rfl rfl (by kernel_rfl) (by kernel_rfl) rfl zab (za1 ⟨ym8, trivial⟩) (by kernel_rfl) ?_
 (intro L P1 Q1 hL hP hQ; cbv; subst hL; simp only [L2, L3, std, syT]; subst hQ)
 refine ⟨trivial, fun h => ⟨decide_eq_true hc, trivial, trivial, ?_⟩, fun h => ⟨trivial, trivial, ?_⟩⟩
 · rw [zk7]
   subst h; rfl
 · rw [zk7]
   subst h; rfl
end Sy
end Go.Proofs.YthppjaoicibeiaaGreatDoor
namespace Go.Proofs.YthppjaoicibeiaaGreatDoor
namespace Sy
open Go Go.RowKit
set_option maxRecDepth 100000
set_option linter.unusedSimpArgs false
set_option linter.unusedVariables false
def zze (s : List UInt8) (n : Int) : Int := IntKind.u32.wrap (getZ (yqk s (zkk .i64 4 n) (zgt .i64 (zkk .i64 4 n) 4)))
def ygt (l : List Int) (n : Nat) : Int := zgt .u32 (zgt .u32 (zgt .u32 (za2 l (n - 16)) (yrx (za2 l (n - 15), 7, 18, 3, true))) (za2 l (n - 7))) (yrx (za2 l (n - 2), 17, 19, 10, true))
def wN (s : List UInt8) : Nat -> List Int
 | 0 => []
 | n + 1 => wN s n ++ [if n < 16 then zze s n else ygt (wN s n) n]
def zzu (v : List Int) (k w : Int) : Int := zgt .u32 (zgt .u32 (zgt .u32 (zgt .u32 (za2 v 7) (yrx (za2 v 4, 6, 11, 25, false))) (bor .u32 (zty .u32 (za2 v 4) (za2 v 5)) (zty .u32 (yiw .u32 4294967295 (za2 v 4)) (za2 v 6)))) k) w
def ylb (v : List Int) : Int := zgt .u32 (yrx (za2 v 0, 2, 13, 22, false)) (bor .u32 (zty .u32 (za2 v 0) (za2 v 1)) (zty .u32 (za2 v 2) (bor .u32 (za2 v 0) (za2 v 1))))
def yfg (v : List Int) (k w : Int) : List Int :=
 [zgt .u32 (zzu v k w) (ylb v), za2 v 0, za2 v 1, za2 v 2, zgt .u32 (za2 v 3) (zzu v k w), za2 v 4, za2 v 5, za2 v 6]
def vN (w h : List Int) : Nat -> List Int
 | 0 => h
 | n + 1 => yfg (vN w h n) (za2 zqs n) (za2 w n)
def vS (s : List UInt8) (h : List Int) (n : Nat) : List Int := vN (wN s 64) h n
def hN (h v : List Int) (n : Nat) : List Int := (List.range 8).map fun i => if i < n then zgt .u32 (za2 h i) (za2 v i) else za2 h i
def hS (s : List UInt8) (h : List Int) (n : Nat) : List Int := hN h (vS s h 64) n
def yvf (h : List Int) (s : List UInt8) : List Int := hS s h 8
theorem zzm (s : List UInt8) : ∀ n, (wN s n).length = n
 | 0 => rfl
 | n + 1 => by rw [wN, List.length_append, zzm s n]; rfl
theorem ygp {l : List Int} {v : Int} (i : Nat) : za2 (l ++ [v]) i = if i = l.length then v else za2 l i := by
 rw [za2, za2, List.getD_eq_getElem?_getD, List.getD_eq_getElem?_getD]
 by_cases h : i < l.length
 · rw [List.getElem?_append_left h, if_neg (by omega)]
 · rw [List.getElem?_append_right (by omega)]
   by_cases h2 : i = l.length
   · rw [if_pos h2, h2, Nat.sub_self]; rfl
   · rw [if_neg h2, List.getElem?_eq_none (by simp; omega), List.getElem?_eq_none (by omega)]
theorem yeg {l : List Int} {n : Nat} (v : Int) (hl : l.length = n) (i : Nat) : over std n 0 1 [.int .u32 v] (fun i _ => .int .u32 (za2 l i)) i 0 = .int .u32 (za2 (l ++ [v]) i) := by
 rw [zf8, if_pos ⟨Nat.le_refl _, by omega⟩, ygp, hl]
 by_cases hi2 : i = n
 · rw [if_pos hi2, hi2, za7]; rfl
 · rw [if_neg hi2, zah hi2]; rfl
theorem yw9 {s : List UInt8} {n n' : Nat} (h : n' = n + 1) (h2 : n < 16) : wN s n' = wN s n ++ [zze s n] := by
 subst h; rw [wN, if_pos h2]
theorem ywa {s : List UInt8} {n n' : Nat} (h : n' = n + 1) (h2 : ¬ n < 16) : wN s n' = wN s n ++ [ygt (wN s n) n] := by
 subst h; rw [wN, if_neg h2]
def mixA (L : zaa) (h : List Int) (s : List UInt8) : Nat -> St -> Option Ann := fun id st => match id with
 | 0 => some ⟨Nat, fun n => [(17, .int .i64 (L zan n))], fun n => [(7, .row 230 1 64 (fun i _ => .int .u32 (L2 L za2 (L2 L wN s n) i)))], [1, 2, 3, 6, 7], [3, 6], fun n => L (fun n : Nat => n <= 16) n, fun n => L (fun n : Nat => 16 - n) n⟩
 | 2 => some ⟨Nat, fun n => [(11, .int .i64 (L zan n))], fun n => [(7, .row 230 1 64 (fun i _ => .int .u32 (L2 L za2 (L2 L wN s n) i)))], [1, 2, 3, 6, 7], [3, 6], fun n => L (fun n : Nat => 16 <= n /\ n <= 64) n, fun n => L (fun n : Nat => 64 - n) n⟩
 | 4 => some ⟨Nat, fun n => [(64, .int .i64 (L zan n))], fun n => [(12, .row 228 1 8 (fun i _ => .int .u32 (L2 L za2 (L3 L vS s h n) i)))], [1, 2, 3, 6, 7, 12], [3, 6, 7], fun n => L (fun n : Nat => n <= 64) n, fun n => L (fun n : Nat => 64 - n) n⟩
 | 6 => some ⟨Nat, fun n => [(127, .int .i64 (L zan n))], fun n => [(3, .row 228 1 8 (fun i _ => .int .u32 (L2 L za2 (L3 L hS s h n) i)))], [3, 6, 12], [6, 12], fun n => L (fun n : Nat => n <= 8) n, fun n => L (fun n : Nat => 8 - n) n⟩
 | _ => none
def yt6 (n : Nat) (g : Nat -> AV) : Prop := n = 64 /\ ∀ j, j < 64 -> g j = .int .u32 (za2 zqs j)
def yxc (x : List Int × List UInt8) : List Int := yvf x.1 x.2
def w8L (L : zaa) (l : List Int) : AV := .agg [.int .u32 (L2 L za2 l 0), .int .u32 (L2 L za2 l 1), .int .u32 (L2 L za2 l 2), .int .u32 (L2 L za2 l 3), .int .u32 (L2 L za2 l 4), .int .u32 (L2 L za2 l 5), .int .u32 (L2 L za2 l 6), .int .u32 (L2 L za2 l 7)]
def ygz (L : zaa) : zb4 := (189, fun xs => match xs with
 | [.agg [.int .u32 a0, .int .u32 a1, .int .u32 a2, .int .u32 a3, .int .u32 a4, .int .u32 a5, .int .u32 a6, .int .u32 a7], .iptr n g, .str s] => some (L2 L yt6 n g /\ L (fun s : List UInt8 => s.length = 64) s, w8L L (L yxc ([a0, a1, a2, a3, a4, a5, a6, a7], s)))
 | _ => none)
theorem ywu {h : Array Obj} {D : Nat -> Prop} {μ : Mu} {a x y : AV} {r : List AV} {vs : Array Value} (e : ∀ v, R h D μ x v -> R h D μ y v) (hr : RL h D μ (a :: x :: r) vs) : RL h D μ (a :: y :: r) vs := by
 refine ⟨by rw [<- hr.1]; rfl, fun i z v hz hv => ?_⟩
 match i, hz with
 | 0, hz => exact hr.2 0 z v hz hv
 | 1, hz => cases hz; exact e v (hr.2 1 x v rfl hv)
 | i + 2, hz => exact hr.2 (i + 2) z v hz hv
theorem yj5 {P : Program} {f : FuncId} {xs ys : List AV} {r : AV} (h : ∀ h D vs, RL h D zam xs vs -> RL h D zam ys vs) (ha : za9 P f ys r) : za9 P f xs r := fun D w vs hD hx => ha D w vs hD (h _ _ _ hx)
theorem yc9 {h : Array Obj} {D : Nat -> Prop} {μ : Mu} {n : Nat} {g g' : Nat -> AV} {v : Value} (r : R h D μ (.iptr n g) v) (e : ∀ j, j < n -> g j = g' j) : R h D μ (.iptr n g') v := by
 cases r with
 | iptr _ _ b o vs hD hv h1 hr => exact .iptr n g' b o vs hD hv h1 (fun j hj => by rw [<- e j hj]; exact hr j hj)
theorem ziu {n n' : Nat} (h : n' = n + 1) (h2 : n < 1000) : zgt .i64 (zan n) 1 = zan n' := by
 subst h; unfold zan; rw [zgt, znw]; omega
theorem zom {n k : Nat} {c : Int} (hc : c = (k : Int)) (h : k <= n) (h2 : n < 1000) : (zrv .i64 (zan n) c).toNat = n - k := by
 subst hc; unfold zan; rw [zrv, znw]; omega
theorem zae {n k : Nat} (h : ilt (zan n) (zan k) = true) : n < k := by
 have := of_decide_eq_true h
 unfold zan at this; omega
theorem zd1 {n k : Nat} (h : ilt (zan n) (zan k) = false) : ¬ n < k := by
 have := of_decide_eq_false h
 unfold zan at this; omega
theorem zd5 {n k : Nat} (h : n < k) : inR (zan n) (zan k) = true := by rw [yhp]; exact ⟨Int.natCast_nonneg _, by unfold zan; omega⟩
theorem zr4 {n : Nat} (h : n < 1000) : zkk .i64 4 (zan n) = ((4 * n : Nat) : Int) /\ zgt .i64 (zkk .i64 4 (zan n)) 4 = ((4 * n + 4 : Nat) : Int) := by
 have e : zkk .i64 4 (zan n) = ((4 * n : Nat) : Int) := by rw [zkk, znw, zan]; omega
 rw [e]
 refine ⟨rfl, ?_⟩
 rw [zgt, znw]; omega
theorem w_in {s : List UInt8} {n : Nat} (h : n < 16) (hs : s.length = 64) : inS (zkk .i64 4 (zan n)) (zgt .i64 (zkk .i64 4 (zan n)) 4) (slen s) = true := by
 obtain ⟨e1, e2⟩ := zr4 (n := n) (by omega)
 rw [e2, e1, slen, hs, ytb]
 exact ⟨by omega, by omega, by omega⟩
theorem yw7 {s : List UInt8} {n : Nat} (h : n < 16) (hs : s.length = 64) : yi1 (yqk s (zkk .i64 4 (zan n)) (zgt .i64 (zkk .i64 4 (zan n)) 4)) := by
 obtain ⟨e1, e2⟩ := zr4 (n := n) (by omega)
 rw [e2, e1, yqk, yi1, List.length_drop, List.length_take, hs, Int.toNat_natCast, Int.toNat_natCast]
 omega
theorem zp2 {n k : Nat} {c : Int} (hc : c = (k : Int)) (h : k <= n) (h2 : n < 64) : inR (zrv .i64 (zan n) c) (zan 64) = true := by
 subst hc
 have e : zrv .i64 (zan n) (k : Int) = zan (n - k) := by unfold zan; rw [zrv, znw]; omega
 rw [e]
 exact zd5 (by omega)
theorem yws {a0 a1 a2 a3 a4 a5 a6 a7 : Int} {i : Nat} {s : List UInt8} (hi : i < 8) : AV.int .u32 (za2 [za2 [a0, a1, a2, a3, a4, a5, a6, a7] 0, za2 [a0, a1, a2, a3, a4, a5, a6, a7] 1, za2 [a0, a1, a2, a3, a4, a5, a6, a7] 2, za2 [a0, a1, a2, a3, a4, a5, a6, a7] 3, za2 [a0, a1, a2, a3, a4, a5, a6, a7] 4, za2 [a0, a1, a2, a3, a4, a5, a6, a7] 5, za2 [a0, a1, a2, a3, a4, a5, a6, a7] 6, za2 [a0, a1, a2, a3, a4, a5, a6, a7] 7] i) = .int .u32 (za2 (vS s [a0, a1, a2, a3, a4, a5, a6, a7] 0) i) := rfl
theorem yff {v : List Int} {k w : Int} {i : Nat} (hi : i < 8) : over std 0 0 1 [.int .u32 (zgt .u32 (zzu v k w) (ylb v))] (over std 4 0 1 [.int .u32 (zgt .u32 (za2 v 3) (zzu v k w))] (fun i _ => zgv std (zda 1 7 i) (.int .u32 (za2 v (0 + (i - 1)))) (.int .u32 (za2 v i)))) i 0 = .int .u32 (za2 (yfg v k w) i) := by
 unfold yfg
 generalize zzu v k w = x
 generalize ylb v = y
 match i, hi with
 | 0, _ => rfl
 | 1, _ => rfl
 | 2, _ => rfl
 | 3, _ => rfl
 | 4, _ => rfl
 | 5, _ => rfl
 | 6, _ => rfl
 | 7, _ => rfl
theorem yhy {h v : List Int} {n i : Nat} (hi : i < 8) : za2 (hN h v n) i = if i < n then zgt .u32 (za2 h i) (za2 v i) else za2 h i := by
 rw [hN, za2, List.getD_eq_getElem?_getD, List.getElem?_map, List.getElem?_range hi]; rfl
theorem ytk {h v : List Int} {n n' i : Nat} (hn : n' = n + 1) (h8 : n < 8) (hi : i < 8) : over std n 0 1 [.int .u32 (zgt .u32 (za2 (hN h v n) n) (za2 v n))] (fun i _ => .int .u32 (za2 (hN h v n) i)) i 0 = .int .u32 (za2 (hN h v n') i) := by
 subst hn
 rw [zf8, if_pos ⟨Nat.le_refl _, by omega⟩, yhy hi, yhy h8, yhy hi, if_neg (Nat.lt_irrefl n)]
 by_cases hi2 : i = n
 · rw [hi2, za7, if_neg (Nat.lt_irrefl n), if_pos (Nat.lt_succ_self n)]; rfl
 · rw [zah hi2]
   by_cases hlt : i < n
   · rw [if_pos hlt, if_pos (by omega)]; rfl
   · rw [if_neg hlt, if_neg (by omega)]; rfl
theorem hN_0 {h v : List Int} {n i : Nat} (hn : n = 0) (hi : i < 8) : AV.int .u32 (za2 h i) = .int .u32 (za2 (hN h v n) i) := by
 rw [yhy hi, hn, if_neg (Nat.not_lt_zero i)]
theorem ytn (m : List Int) : zgw (w8L std m) (.agg [.int .u32 (za2 [za2 m 0, za2 m 1, za2 m 2, za2 m 3, za2 m 4, za2 m 5, za2 m 6, za2 m 7] 0), .int .u32 (za2 [za2 m 0, za2 m 1, za2 m 2, za2 m 3, za2 m 4, za2 m 5, za2 m 6, za2 m 7] 1),
   .int .u32 (za2 [za2 m 0, za2 m 1, za2 m 2, za2 m 3, za2 m 4, za2 m 5, za2 m 6, za2 m 7] 2), .int .u32 (za2 [za2 m 0, za2 m 1, za2 m 2, za2 m 3, za2 m 4, za2 m 5, za2 m 6, za2 m 7] 3), .int .u32 (za2 [za2 m 0, za2 m 1, za2 m 2, za2 m 3, za2 m 4, za2 m 5, za2 m 6, za2 m 7] 4),
   .int .u32 (za2 [za2 m 0, za2 m 1, za2 m 2, za2 m 3, za2 m 4, za2 m 5, za2 m 6, za2 m 7] 5), .int .u32 (za2 [za2 m 0, za2 m 1, za2 m 2, za2 m 3, za2 m 4, za2 m 5, za2 m 6, za2 m 7] 6), .int .u32 (za2 [za2 m 0, za2 m 1, za2 m 2, za2 m 3, za2 m 4, za2 m 5, za2 m 6, za2 m 7] 7)]) := by
 unfold w8L
 simp only [sySet, L2, std]
 exact ⟨rfl, rfl, rfl, rfl, rfl, rfl, rfl, rfl, trivial⟩
theorem zvc : zao Tryz.prog (ygz std) := by
 intro xs p r h hp
 dsimp only [ygz] at h |-
 split at h <;> cases h
 try simp only [L2, L3, std] at hp |-
 rename_i a0 a1 a2 a3 a4 a5 a6 a7 n g s
 obtain ⟨⟨hn, hg⟩, hs⟩ : yt6 n g /\ s.length = 64 := hp
 subst hn
 obtain ⟨kf, hkf⟩ : ∃ kf : Nat -> Int, kf = za2 zqs := ⟨_, rfl⟩
 obtain ⟨hl, hhl⟩ : ∃ l : List Int, l = [a0, a1, a2, a3, a4, a5, a6, a7] := ⟨_, rfl⟩
 rw [<- hkf] at hg
 refine yj5 (fun h D vs hr => ywu (fun v r => yc9 r hg) hr) ?_
 rw [<- hhl]
 clear hg g
 refine za6 (T := tt) (S := fun L => zad [yof L, ym7 L]) (lo := fun L => mixA L hl s) (lb := noA) 5 (fn := Tryz.f189) rfl rfl (by kernel_rfl) (by kernel_rfl) rfl zab (za1 ⟨yi0, yg9, trivial⟩) (by kernel_rfl) ?_
 obtain ⟨n0, hn0⟩ : ∃ n : Nat, n = 0 := ⟨_, rfl⟩
 obtain ⟨n1, hn1⟩ : ∃ n : Nat, n = 16 := ⟨_, rfl⟩
 intro L P' Q' hL hP hQ
 (cbv; try simp only [syT, true_and, and_true])
 refine ⟨⟨n0, ?_⟩, fun n hn => ?_⟩
 · (cbv; try simp only [syT, true_and, and_true])
   subst hL; subst hQ
   refine ⟨fun _ _ _ _ => trivial, fun _ _ _ _ => trivial, fun i j hi hj => ?_, fun _ _ => trivial, ?_, ?_⟩
   · have : j = 0 := by omega
     subst this; subst hn0; rfl
   · subst hn0; rfl
   · subst hn0; exact Nat.zero_le _
 obtain ⟨n', hn'⟩ : ∃ n' : Nat, n' = n + 1 := ⟨_, rfl⟩
 (cbv; try simp only [syT, true_and, and_true])
 refine ⟨fun h1 => ⟨?_, ?_, ?_, n', ?_⟩, fun h1 => ⟨⟨n1, ?_⟩, fun m hm => ?_⟩⟩
 · subst hL
   exact w_in (zae h1) hs
 · subst hL
   exact yw7 (zae h1) hs
 · subst hL
   have h16 : n < 16 := zae h1
   exact zd5 (by omega)
 · (cbv; try simp only [syT, true_and, and_true])
   subst hL; subst hQ
   have h16 : n < 16 := zae h1
   refine ⟨fun _ _ _ _ => trivial, fun _ _ _ _ => trivial, fun i j hi hj => ?_, fun _ _ => trivial, ?_, ?_, ?_⟩
   · have : j = 0 := by omega
     subst this
     rw [show L2 std wN s n' = wN s n ++ [zze s n] from yw9 hn' h16]
     exact yeg _ (zzm s n) i
   · exact ziu hn' (by omega)
   · show n' <= 16
     omega
   · show 16 - n' + 1 <= 16 - n
     omega
 · (cbv; try simp only [syT, true_and, and_true])
   subst hL; subst hQ
   have h16 : n = n1 := by
     have hn : n <= 16 := hn
     have h2 : ¬ n < 16 := zd1 h1
     omega
   subst h16
   refine ⟨fun _ _ _ _ => trivial, fun _ _ _ _ => trivial, fun _ _ _ _ => rfl, fun _ _ => trivial, ?_, ?_⟩
   · subst hn1; rfl
   · subst hn1; exact ⟨Nat.le_refl _, by decide⟩
 clear h1 hn hn' n' hn0 n0
 obtain ⟨m', hm'⟩ : ∃ m' : Nat, m' = m + 1 := ⟨_, rfl⟩
 obtain ⟨k0, hk0⟩ : ∃ k : Nat, k = 0 := ⟨_, rfl⟩
 (cbv; try simp only [syT, true_and, and_true])
 refine ⟨fun h1 => ⟨?_, ?_, ?_, ?_, ?_, ?_, ?_, m', ?_⟩, fun h1 => ⟨⟨k0, ?_⟩, fun k hk => ?_⟩⟩
 · subst hL; exact zp2 (k := 16) rfl (Nat.le_trans (by decide) hm.1) (zae h1)
 · subst hL; exact zp2 (k := 15) rfl (Nat.le_trans (by decide) hm.1) (zae h1)
 · subst hL; show (0 : Int) <= 3; decide
 · subst hL; exact zp2 (k := 7) rfl (Nat.le_trans (by decide) hm.1) (zae h1)
 · subst hL; exact zp2 (k := 2) rfl (Nat.le_trans (by decide) hm.1) (zae h1)
 · subst hL; show (0 : Int) <= 10; decide
 · subst hL; exact zd5 (zae h1)
 · (cbv; try simp only [syT, true_and, and_true])
   subst hL; subst hQ
   have h64 : m < 64 := zae h1
   have h16 : 16 <= m := hm.1
   refine ⟨fun _ _ _ _ => trivial, fun _ _ _ _ => trivial, fun i j hi hj => ?_, fun _ _ => trivial, ?_, ?_, ?_⟩
   · have : j = 0 := by omega
     subst this
     rw [show L2 std wN s m' = wN s m ++ [ygt (wN s m) m] from ywa hm' (by omega)]
     rw [ygt, <- zom (n := m) (k := 16) (c := 16) rfl h16 (by omega), <- zom (n := m) (k := 15) (c := 15) rfl (by omega) (by omega), <- zom (n := m) (k := 7) (c := 7) rfl (by omega) (by omega), <- zom (n := m) (k := 2) (c := 2) rfl (by omega) (by omega)]
     exact yeg _ (zzm s m) i
   · exact ziu hm' (by omega)
   · exact ⟨by omega, by omega⟩
   · show 64 - m' + 1 <= 64 - m
     omega
 · (cbv; try simp only [syT, true_and, and_true])
   subst hL; subst hQ
   refine ⟨fun _ _ _ _ => trivial, fun _ _ _ _ => trivial, fun _ _ _ _ => trivial, fun i j hi hj => ?_, fun _ _ => trivial, ?_, ?_⟩
   · subst hk0; subst hhl
     exact yws (s := s) hi
   · subst hk0; rfl
   · subst hk0; exact Nat.zero_le _
 have hm64 : m = 64 := by
   subst hL
   have : ¬ m < 64 := zd1 h1
   have : m <= 64 := hm.2
   omega
 subst hm64
 clear h1 hm hm' m' hk0 k0
 obtain ⟨k', hk'⟩ : ∃ k' : Nat, k' = k + 1 := ⟨_, rfl⟩
 obtain ⟨q0, hq0⟩ : ∃ q : Nat, q = 0 := ⟨_, rfl⟩
 (cbv; try simp only [syT, true_and, and_true])
 refine ⟨fun h1 => ⟨?_, ?_, ?_, ?_, ?_, ?_, ?_, ?_, ?_, ?_, ?_, ?_, ?_, ?_, ?_, ?_, ?_, ?_, ?_, ?_, ?_, ?_, k', ?_⟩, fun h1 => ⟨⟨q0, ?_⟩, fun q hq => ?_⟩⟩
 · subst hL; rfl
 · subst hL; rfl
 · subst hL; show (0 : Int) <= 25; decide
 · subst hL; rfl
 · subst hL; rfl
 · subst hL; rfl
 · subst hL; rfl
 · subst hL; exact zd5 (zae h1)
 · subst hL; exact zd5 (zae h1)
 · subst hL; rfl
 · subst hL; show (0 : Int) <= 22; decide
 · subst hL; rfl
 · subst hL; rfl
 · subst hL; rfl
 · subst hL; rfl
 · subst hL; rfl
 · subst hL; rfl
 · subst hL; rfl
 · subst hL; rfl
 · subst hL; rfl
 · subst hL; rfl
 · subst hL; rfl
 · (cbv; try simp only [syT, true_and, and_true])
   subst hL; subst hQ
   have h64 : k < 64 := zae h1
   refine ⟨fun _ _ _ _ => trivial, fun _ _ _ _ => trivial, fun _ _ _ _ => trivial, fun i j hi hj => ?_, fun _ _ => trivial, ?_, ?_, ?_⟩
   · have : j = 0 := by omega
     subst this
     have e : vS s hl k' = yfg (vS s hl k) (kf k) (za2 (wN s 64) k) := by subst hk'; subst hkf; rfl
     have ek : (zan k).toNat = k := Int.toNat_natCast k
     simp only [L2, L3, std, ek, e]
     clear e
     generalize vS s hl k = v
     generalize wN s 64 = w
     exact yff hi
   · exact ziu hk' (by omega)
   · show k' <= 64
     omega
   · show 64 - k' + 1 <= 64 - k
     omega
 · (cbv; try simp only [syT, true_and, and_true])
   subst hL; subst hQ
   have hk64 : k = 64 := by
     have : ¬ k < 64 := zd1 h1
     have : k <= 64 := hk
     omega
   subst hk64
   refine ⟨fun _ _ _ _ => trivial, fun _ _ _ _ => trivial, fun i j hi hj => ?_, ?_, ?_⟩
   · exact hhl ▸ hN_0 hq0 hi
   · subst hq0; rfl
   · subst hq0; exact Nat.zero_le _
 have hk64 : k = 64 := by
   subst hL
   have : ¬ k < 64 := zd1 h1
   have : k <= 64 := hk
   omega
 subst hk64
 clear h1 hk hk' k' hq0 q0
 obtain ⟨q', hq'⟩ : ∃ q' : Nat, q' = q + 1 := ⟨_, rfl⟩
 (cbv; try simp only [syT, true_and, and_true])
 refine ⟨fun h1 => ⟨?_, ?_, ?_, q', ?_⟩, fun h1 => ?_⟩
 · subst hL; exact zd5 (zae h1)
 · subst hL; exact zd5 (zae h1)
 · subst hL; exact zd5 (zae h1)
 · (cbv; try simp only [syT, true_and, and_true])
   subst hL; subst hQ
   have h8 : q < 8 := zae h1
   refine ⟨fun _ _ _ _ => trivial, fun _ _ _ _ => trivial, fun i j hi hj => ?_, ?_, ?_, ?_⟩
   · have : j = 0 := by omega
     subst this
     have ek : (zan q).toNat = q := Int.toNat_natCast q
     simp only [L2, L3, std, ek, hS]
     exact ytk hq' h8 hi
   · exact ziu hq' (by omega)
   · show q' <= 8
     omega
   · show 8 - q' + 1 <= 8 - q
     omega
 · subst hL; subst hQ
   have hq8 : q = 8 := by
     have : ¬ q < 8 := zd1 h1
     have : q <= 8 := hq
     omega
   subst hq8
   rw [show yxc (hl, s) = hS s hl 8 from rfl]
   simp only [std]
   generalize hS s hl 8 = m
   exact ytn m
end Sy
end Go.Proofs.YthppjaoicibeiaaGreatDoor
namespace Go.Proofs.YthppjaoicibeiaaGreatDoor
namespace Sy
open Go Go.RowKit
set_option maxRecDepth 100000
set_option linter.unusedSimpArgs false
set_option linter.unusedVariables false
def yup (p : List UInt8) (n : Nat) : List UInt8 := (p.drop (64 * n)).take 64
def zps (p : List UInt8) : Nat -> List Int
 | 0 => znh
 | n + 1 => yvf (zps p n) (yup p n)
def yex (m : List Int) : Nat -> List UInt8
 | 0 => []
 | n + 1 => yex m n ++ zyz (IntKind.u64.wrap (za2 m n)) 4
def yri (p : List UInt8) : List UInt8 := yex (zps p (p.length / 64)) 8
def zi3 (p : List UInt8) (n : Nat) : List UInt8 := p.drop (64 * n)
def yec (p : List UInt8) (n : Nat) : Prop := 64 * (n + 1) <= p.length
theorem zoe (m : List Int) : ∀ n, (yex m n).length = 4 * n
 | 0 => rfl
 | n + 1 => by rw [yex, List.length_append, zoe m n, zl0 _ _ (by decide) (by decide)]; show 4 * n + 4 = _; omega
theorem zug (p : List UInt8) : (yri p).length = 32 := zoe _ 8
theorem zjz (s : List UInt8) : (yb7 s).length % 64 = 0 /\ 64 <= (yb7 s).length /\ (yb7 s).length = s.length + 9 + yvb s := by
 have : (yb7 s).length = s.length + 9 + yvb s := by
   rw [yb7, List.length_append, List.length_append, List.length_append, List.length_replicate, zl0 _ _ (by decide) (by decide)]
   show s.length + 1 + yvb s + 8 = _
   omega
 rw [this]
 unfold yvb
 omega
def zwg (x : AV) : List UInt8 := yri (yb7 (zoz x))
def smB (L : zaa) (p : List UInt8) : Nat -> St -> Option Ann := fun id st => match id with
 | 0 => some ⟨Nat, fun n => [(3, .str (L2 L zi3 p n)), (4, .ref 4 0), (5, .ref 5 0)], fun n => [(5, .row 230 1 64 (fun i _ => .int .u32 (L2 L za2 zqs i))), (4, .row 228 1 8 (fun i _ => .int .u32 (L2 L za2 (L2 L zps p n) i)))], [2, 700005], [2], fun n => L2 L yec p n, fun n => L2 L (fun (p : List UInt8) (n : Nat) => p.length - n) p n⟩
 | _ => none
def smA (L : zaa) (m : List Int) : Nat -> St -> Option Ann := fun id st => match id with
 | 0 => some ⟨Nat, fun n => [(23, .int .i64 (L zan n)), (22, w8L L m)], fun n => [(6, .row 202 1 32 (fun i _ => .int .u8 (L2 L za4 (L2 L yex m n) i)))], [2, 6], [2], fun n => L (fun n : Nat => n <= 8) n, fun n => L (fun n : Nat => 8 - n) n⟩
 | _ => none
def yfd (L : zaa) : zb4 := (153, fun xs => match xs with | [x] => some (L zg2 x, .arr 32 (fun j => .int .u8 (L2 L za4 (L zwg x) j))) | _ => none)
theorem zkf {p : List UInt8} {k : Nat} (h : yec p k) : inC 64 (slen (zi3 p k)) = true := by
 have h : 64 * (k + 1) <= p.length := h
 rw [inC, slen, zi3, List.length_drop, Bool.and_eq_true, decide_eq_true_eq, decide_eq_true_eq]
 omega
theorem yea {p : List UInt8} {k : Nat} (h : yec p k) : ((zi3 p k).take (64 : Int).toNat).length = 64 := by
 have h : 64 * (k + 1) <= p.length := h
 rw [zi3, List.length_take, List.length_drop]
 show min 64 _ = _
 omega
theorem zkg {p : List UInt8} {k k' : Nat} (h : k' = k + 1) : (zi3 p k).drop (64 : Int).toNat = zi3 p k' := by
 subst h
 rw [zi3, zi3, List.drop_drop]; rfl
theorem zw6 {p : List UInt8} {k k' : Nat} (hp : p.length % 64 = 0) (h : k' = k + 1) (hn : ¬ (zi3 p k').length = 0) : yec p k' := by
 rw [zi3, List.length_drop] at hn
 show 64 * (k' + 1) <= p.length
 omega
theorem yeb {p : List UInt8} {k k' : Nat} (hk : yec p k) (h : k' = k + 1) (hn : (zi3 p k').length = 0) : k' = p.length / 64 := by
 have hk : 64 * (k + 1) <= p.length := hk
 rw [zi3, List.length_drop] at hn
 omega
theorem ztf {l : List Int} (h : l.length = 8) : [za2 l 0, za2 l 1, za2 l 2, za2 l 3, za2 l 4, za2 l 5, za2 l 6, za2 l 7] = l := by
 match l, h with
 | [a, b, c, d, e, f, g, h], _ => rfl
theorem yh0 (h : List Int) (s : List UInt8) : (yvf h s).length = 8 := by
 rw [yvf, hS, hN, List.length_map, List.length_range]
theorem zf4 (p : List UInt8) : ∀ k, (zps p k).length = 8
 | 0 => rfl
 | k + 1 => yh0 _ _
theorem zjw {p : List UInt8} {k k' : Nat} (h : k' = k + 1) : yxc ([za2 (zps p k) 0, za2 (zps p k) 1, za2 (zps p k) 2, za2 (zps p k) 3, za2 (zps p k) 4, za2 (zps p k) 5, za2 (zps p k) 6, za2 (zps p k) 7], (zi3 p k).take (64 : Int).toNat) = zps p k' := by
 rw [ztf (zf4 p k)]
 subst h
 rfl
theorem yjm {l : List UInt8} (h : (!seq l []) = true) : ¬ l.length = 0 := by
 intro hl
 rw [List.eq_nil_of_length_eq_zero hl] at h
 exact absurd h (by decide)
theorem zzz {l : List UInt8} (h : (!seq l []) = false) : l.length = 0 := by
 have : l = [] := by
   have h2 : seq l [] = true := by simpa using h
   simpa [seq] using h2
 rw [this]; rfl
theorem yjx {q : Nat} (h : q < 8) : inC (zkk .i64 4 (zan q)) (zan 32) = true := by
 rw [(zr4 (n := q) (by omega)).1, ynt]
 unfold zan
 omega
theorem yb9 (x : Int) : yge (IntKind.u64.wrap x) 4 := by
 refine ⟨zgz _, ?_, by decide, by decide⟩
 rw [yr8]; omega
theorem zux {q : Nat} {x : Int} (h : q < 8) : yaj (List.length (zyz x 4)) (Nat.sub 32 (Int.toNat (zkk .i64 4 (zan q)))) = true := by
 rw [(zr4 (n := q) (by omega)).1, Int.toNat_natCast, zl0 _ _ (by decide) (by decide), yaj, Bool.and_eq_true, zc4, zcc]
 show 0 < 32 - 4 * q /\ 4 <= 32 - 4 * q
 omega
theorem yb8 {m : List Int} {q q' : Nat} (hq : q' = q + 1) (h8 : q < 8) (i : Nat) : zgv std (zda (Nat.add 0 (Int.toNat (zkk .i64 4 (zan q)))) (List.length (zyz (IntKind.u64.wrap (za2 m q)) 4)) i)
   (.int .u8 (ze2 (zyz (IntKind.u64.wrap (za2 m q)) 4) (zan (Nat.sub i (Nat.add 0 (Int.toNat (zkk .i64 4 (zan q)))))))) (.int .u8 (za4 (yex m q) i)) = .int .u8 (za4 (yex m q') i) := by
 subst hq
 rw [(zr4 (n := q) (by omega)).1, Int.toNat_natCast, show Nat.add 0 (4 * q) = 4 * q from Nat.zero_add _, show yex m (q + 1) = yex m q ++ zyz (IntKind.u64.wrap (za2 m q)) 4 from rfl]
 have hl := zoe m q
 have hp := zl0 (IntKind.u64.wrap (za2 m q)) 4 (by decide) (by decide)
 generalize yex m q = l at hl |-
 generalize zyz (IntKind.u64.wrap (za2 m q)) 4 = b at hp |-
 have hp : b.length = 4 := hp
 rw [hp, zda]
 by_cases h1 : i < 4 * q
 · rw [show zbp (4 * q) i = false by rw [Bool.eq_false_iff, ne_eq, zcc]; omega, zpl (by omega)]; rfl
 · rw [show zbp (4 * q) i = true by rw [zcc]; omega, zpk (by omega), hl]
   by_cases h2 : i < 4 * q + 4
   · rw [zm0 h2]
     show AV.int .u8 (ze2 b (zan (i - 4 * q))) = _
     rw [ze2, zan, Int.toNat_natCast]; rfl
   · rw [zpn h2]
     show AV.int .u8 (za4 l i) = _
     rw [za4, za4, List.getD_eq_getElem?_getD, List.getD_eq_getElem?_getD, List.getElem?_eq_none (by omega), List.getElem?_eq_none (by omega)]
theorem yl9 {n : Nat} {get : Nat -> Nat -> AV} (hp : zg2 (.lst 1 n get)) : za9 Tryz.prog 153 [.lst 1 n get] (.arr 32 (fun j => .int .u8 (L2 std za4 (std zwg (.lst 1 n get)) j))) := by
 obtain ⟨p, hpp⟩ : ∃ p, p = yb7 (zoz (.lst 1 n get)) := ⟨_, rfl⟩
 obtain ⟨m, hm⟩ : ∃ m, m = zps p (p.length / 64) := ⟨_, rfl⟩
 have hlen : p.length % 64 = 0 /\ 64 <= p.length := by rw [hpp]; exact ⟨(zjz _).1, (zjz _).2.1⟩
 refine za6 (T := tt) (S := fun L => zad [zvq L, znv L, zp8 L, zvp L, ygz L, zse L]) (lo := fun L => smA L m) (lb := fun L => smB L p) 5 (fn := Tryz.f153) rfl rfl (by kernel_rfl) (by kernel_rfl) rfl zab (za1 ⟨zqt, zmo, zng, zqr, zvc, zho, trivial⟩) (by kernel_rfl) ?_
 obtain ⟨n0, hn0⟩ : ∃ n : Nat, n = 0 := ⟨_, rfl⟩
 intro L P' Q' hL hP hQ
 obtain ⟨q0, hq0⟩ : ∃ n : Nat, n = 0 := ⟨_, rfl⟩
 (cbv; try simp only [syT, true_and, and_true])
 refine ⟨fun k hk => ?_, ?_⟩
 · obtain ⟨k', hk'⟩ : ∃ k' : Nat, k' = k + 1 := ⟨_, rfl⟩
   (cbv; try simp only [syT, true_and, and_true])
   refine ⟨?_, ⟨⟨?_, ?_⟩, ?_, fun h1 => ⟨k', ?_⟩, fun h1 => ⟨⟨q0, ?_⟩, fun q hq => ?_⟩⟩⟩
   · subst hL; exact zkf hk
   · subst hL; exact ⟨rfl, fun j hj => rfl⟩
   · subst hL; exact yea hk
   · subst hL; exact zkf hk
   · (cbv; try simp only [syT, true_and, and_true])
     subst hL; subst hQ
     simp only [L2, std] at h1 |-
     rw [zkg hk'] at h1 |-
     rw [zjw hk', ztf (zf4 _ _)]
     refine ⟨fun _ _ _ _ => trivial, fun _ _ _ _ => rfl, fun _ _ _ _ => trivial, rfl, zw6 hlen.1 hk' (yjm h1), ?_⟩
     have hk : 64 * (k + 1) <= p.length := hk
     show p.length - k' + 1 <= p.length - k
     omega
   · (cbv; try simp only [syT, true_and, and_true])
     subst hL; subst hQ
     simp only [L2, std] at h1 |-
     rw [zkg hk'] at h1
     rw [zjw hk', ztf (zf4 _ _)]
     have hm : m = zps p k' := by rw [hm, <- yeb hk hk' (zzz h1)]
     rw [<- hm]
     subst hq0
     refine ⟨fun _ _ _ _ => trivial, fun i j hi hj => ?_, rfl, rfl, rfl, rfl, rfl, rfl, rfl, rfl, rfl, by decide⟩
     have : j = 0 := by omega
     subst this; rfl
   · obtain ⟨q', hq'⟩ : ∃ q' : Nat, q' = q + 1 := ⟨_, rfl⟩
     have hm8 : m.length = 8 := by rw [hm]; exact zf4 _ _
     (cbv; try simp only [syT, true_and, and_true])
     refine ⟨fun h2 => ⟨?_, ?_, ?_, ?_, q', ?_⟩, fun h2 => ?_⟩
     · subst hL; exact zd5 (zae h2)
     · subst hL; exact yjx (zae h2)
     · subst hL; exact yb9 _
     · subst hL; exact zux (zae h2)
     · (cbv; try simp only [syT, true_and, and_true])
       subst hL; subst hQ
       have h8 : q < 8 := zae h2
       have ek : (zan q).toNat = q := Int.toNat_natCast q
       simp only [L2, L3, std, ek]
       rw [ztf hm8]
       refine ⟨fun _ _ _ _ => trivial, fun i j hi hj => yb8 hq' h8 i, ?_, ?_, ?_⟩
       · exact ziu hq' (by omega)
       · show q' <= 8
         omega
       · show 8 - q' + 1 <= 8 - q
         omega
     · subst hL; subst hQ
       have hq8 : q = 8 := by
         have : ¬ q < 8 := zd1 h2
         have : q <= 8 := hq
         omega
       subst hq8
       rw [zp7]
       intro j hj
       simp only [L2, std, zwg, yri]
       rw [<- hpp, <- hm]
 · (cbv; try simp only [syT, true_and, and_true])
   refine ⟨?_, ?_, n0, ?_⟩
   · subst hL; exact hp
   · subst hL; exact hp.2.2
   · (cbv; try simp only [syT, true_and, and_true])
     subst hL; subst hQ
     refine ⟨fun _ _ _ _ => trivial, fun i j hi hj => ?_, fun _ _ _ _ => trivial, ?_, ?_⟩
     · subst hn0; rfl
     · subst hn0; exact hpp.symm
     · subst hn0
       show 64 * (0 + 1) <= p.length
       omega
theorem yl8 (hp : zg2 .nils) : za9 Tryz.prog 153 [.nils] (.arr 32 (fun j => .int .u8 (L2 std za4 (std zwg .nils) j))) := by
 obtain ⟨p, hpp⟩ : ∃ p, p = yb7 (zoz .nils) := ⟨_, rfl⟩
 obtain ⟨m, hm⟩ : ∃ m, m = zps p (p.length / 64) := ⟨_, rfl⟩
 have hlen : p.length % 64 = 0 /\ 64 <= p.length := by rw [hpp]; exact ⟨(zjz _).1, (zjz _).2.1⟩
 refine za6 (T := tt) (S := fun L => zad [zvq L, znv L, zp8 L, zvp L, ygz L, zse L]) (lo := fun L => smA L m) (lb := fun L => smB L p) 5 (fn := Tryz.f153) rfl rfl (by kernel_rfl) (by kernel_rfl) rfl zab (za1 ⟨zqt, zmo, zng, zqr, zvc, zho, trivial⟩) (by kernel_rfl) ?_
 obtain ⟨n0, hn0⟩ : ∃ n : Nat, n = 0 := ⟨_, rfl⟩
 intro L P' Q' hL hP hQ
 obtain ⟨q0, hq0⟩ : ∃ n : Nat, n = 0 := ⟨_, rfl⟩
 (cbv; try simp only [syT, true_and, and_true])
 refine ⟨fun k hk => ?_, ?_⟩
 · obtain ⟨k', hk'⟩ : ∃ k' : Nat, k' = k + 1 := ⟨_, rfl⟩
   (cbv; try simp only [syT, true_and, and_true])
   refine ⟨?_, ⟨⟨?_, ?_⟩, ?_, fun h1 => ⟨k', ?_⟩, fun h1 => ⟨⟨q0, ?_⟩, fun q hq => ?_⟩⟩⟩
   · subst hL; exact zkf hk
   · subst hL; exact ⟨rfl, fun j hj => rfl⟩
   · subst hL; exact yea hk
   · subst hL; exact zkf hk
   · (cbv; try simp only [syT, true_and, and_true])
     subst hL; subst hQ
     simp only [L2, std] at h1 |-
     rw [zkg hk'] at h1 |-
     rw [zjw hk', ztf (zf4 _ _)]
     refine ⟨fun _ _ _ _ => trivial, fun _ _ _ _ => rfl, fun _ _ _ _ => trivial, rfl, zw6 hlen.1 hk' (yjm h1), ?_⟩
     have hk : 64 * (k + 1) <= p.length := hk
     show p.length - k' + 1 <= p.length - k
     omega
   · (cbv; try simp only [syT, true_and, and_true])
     subst hL; subst hQ
     simp only [L2, std] at h1 |-
     rw [zkg hk'] at h1
     rw [zjw hk', ztf (zf4 _ _)]
     have hm : m = zps p k' := by rw [hm, <- yeb hk hk' (zzz h1)]
     rw [<- hm]
     subst hq0
     refine ⟨fun _ _ _ _ => trivial, fun i j hi hj => ?_, rfl, rfl, rfl, rfl, rfl, rfl, rfl, rfl, rfl, by decide⟩
     have : j = 0 := by omega
     subst this; rfl
   · obtain ⟨q', hq'⟩ : ∃ q' : Nat, q' = q + 1 := ⟨_, rfl⟩
     have hm8 : m.length = 8 := by rw [hm]; exact zf4 _ _
     (cbv; try simp only [syT, true_and, and_true])
     refine ⟨fun h2 => ⟨?_, ?_, ?_, ?_, q', ?_⟩, fun h2 => ?_⟩
     · subst hL; exact zd5 (zae h2)
     · subst hL; exact yjx (zae h2)
     · subst hL; exact yb9 _
     · subst hL; exact zux (zae h2)
     · (cbv; try simp only [syT, true_and, and_true])
       subst hL; subst hQ
       have h8 : q < 8 := zae h2
       have ek : (zan q).toNat = q := Int.toNat_natCast q
       simp only [L2, L3, std, ek]
       rw [ztf hm8]
       refine ⟨fun _ _ _ _ => trivial, fun i j hi hj => yb8 hq' h8 i, ?_, ?_, ?_⟩
       · exact ziu hq' (by omega)
       · show q' <= 8
         omega
       · show 8 - q' + 1 <= 8 - q
         omega
     · subst hL; subst hQ
       have hq8 : q = 8 := by
         have : ¬ q < 8 := zd1 h2
         have : q <= 8 := hq
         omega
       subst hq8
       rw [zp7]
       intro j hj
       simp only [L2, std, zwg, yri]
       rw [<- hpp, <- hm]
 · (cbv; try simp only [syT, true_and, and_true])
   refine ⟨?_, ?_, n0, ?_⟩
   · subst hL; exact hp
   · subst hL; exact Nat.zero_le _
   · (cbv; try simp only [syT, true_and, and_true])
     subst hL; subst hQ
     refine ⟨fun _ _ _ _ => trivial, fun i j hi hj => ?_, fun _ _ _ _ => trivial, ?_, ?_⟩
     · subst hn0; rfl
     · subst hn0; exact hpp.symm
     · subst hn0
       show 64 * (0 + 1) <= p.length
       omega
theorem zn8 {x : AV} (hp : zg2 x) : x = .nils \/ ∃ n get, x = .lst 1 n get := by
 unfold zg2 at hp
 split at hp
 · exact .inr ⟨_, _, rfl⟩
 · exact .inl rfl
 · exact hp.elim
theorem zuf : zao Tryz.prog (yfd std) := by
 intro xs p r h hp
 dsimp only [yfd] at h |-
 split at h <;> cases h
 try simp only [L2, L3, std] at hp |-
 rename_i x
 rcases zn8 hp with rfl | ⟨n, get, rfl⟩
 · exact yl8 hp
 · exact yl9 hp
def zuc (L : zaa) : zb4 := (108, fun xs => match xs with | [x] => some (L zg2 x, .str (L zwg x)) | _ => none)
theorem zuh (x : AV) : (zwg x).length = 32 := zug _
theorem zub (x : AV) : zb8 32 (fun i => (AV.int .u8 (za4 (zwg x) (0 + i))).toI) = zwg x := by
 have := zev (zwg x)
 rw [zuh] at this
 simp only [Nat.zero_add]
 exact this
theorem zpy : zao Tryz.prog (zuc std) := by
 intro xs p r h hp
 dsimp only [zuc] at h |-
 split at h <;> cases h
 try simp only [L2, L3, std] at hp |-
 rename_i x
 have hp : zg2 x := hp
 rcases zn8 hp with rfl | ⟨n, get, rfl⟩
 · refine za6 (T := tt) (S := fun L => zad [yfd L]) (lo := noA) (lb := noA) 5 (fn := Tryz.f108) rfl rfl (by kernel_rfl) (by kernel_rfl) rfl zab (za1 ⟨zuf, trivial⟩) (by kernel_rfl) ?_
   (intro L P1 Q1 hL hP hQ; cbv; subst hL; simp only [L2, L3, std, syT]; subst hQ)
   refine ⟨hp, trivial, ⟨show 0 + 32 <= 32 by decide, fun i _ => ⟨_, rfl⟩⟩, ?_⟩
   rw [zub, zi0]
 · refine za6 (T := tt) (S := fun L => zad [yfd L]) (lo := noA) (lb := noA) 5 (fn := Tryz.f108) rfl rfl (by kernel_rfl) (by kernel_rfl) rfl zab (za1 ⟨zuf, trivial⟩) (by kernel_rfl) ?_
   (intro L P1 Q1 hL hP hQ; cbv; subst hL; simp only [L2, L3, std, syT]; subst hQ)
   refine ⟨hp, trivial, ⟨show 0 + 32 <= 32 by decide, fun i _ => ⟨_, rfl⟩⟩, ?_⟩
   rw [zub, zi0]
def zhd (s : List UInt8) : List UInt8 := yri (yb7 s)
def p16 (L : zaa) (l : List UInt8) : AV := .agg [.int .u8 (L2 L za4 l 0), .int .u8 (L2 L za4 l 1), .int .u8 (L2 L za4 l 2), .int .u8 (L2 L za4 l 3), .int .u8 (L2 L za4 l 4), .int .u8 (L2 L za4 l 5), .int .u8 (L2 L za4 l 6), .int .u8 (L2 L za4 l 7), .int .u8 (L2 L za4 l 8), .int .u8 (L2 L za4 l 9), .int .u8 (L2 L za4 l 10), .int .u8 (L2 L za4 l 11), .int .u8 (L2 L za4 l 12), .int .u8 (L2 L za4 l 13), .int .u8 (L2 L za4 l 14), .int .u8 (L2 L za4 l 15)]
def zsi (L : zaa) : zb4 := (61, fun xs => match xs with | [.str s] => some (L2 L upto 1000000 s, p16 L (L zhd s)) | _ => none)
theorem yd0 (f : Nat -> Int) (l : List UInt8) (h : ∀ j, j < 16 -> f j = za4 l j) : zgw (p16 std l) (.agg [.int .u8 (za2 [f 0, f 1, f 2, f 3, f 4, f 5, f 6, f 7, f 8, f 9, f 10, f 11, f 12, f 13, f 14, f 15] 0),
   .int .u8 (za2 [f 0, f 1, f 2, f 3, f 4, f 5, f 6, f 7, f 8, f 9, f 10, f 11, f 12, f 13, f 14, f 15] 1),
   .int .u8 (za2 [f 0, f 1, f 2, f 3, f 4, f 5, f 6, f 7, f 8, f 9, f 10, f 11, f 12, f 13, f 14, f 15] 2),
   .int .u8 (za2 [f 0, f 1, f 2, f 3, f 4, f 5, f 6, f 7, f 8, f 9, f 10, f 11, f 12, f 13, f 14, f 15] 3),
   .int .u8 (za2 [f 0, f 1, f 2, f 3, f 4, f 5, f 6, f 7, f 8, f 9, f 10, f 11, f 12, f 13, f 14, f 15] 4),
   .int .u8 (za2 [f 0, f 1, f 2, f 3, f 4, f 5, f 6, f 7, f 8, f 9, f 10, f 11, f 12, f 13, f 14, f 15] 5),
   .int .u8 (za2 [f 0, f 1, f 2, f 3, f 4, f 5, f 6, f 7, f 8, f 9, f 10, f 11, f 12, f 13, f 14, f 15] 6),
   .int .u8 (za2 [f 0, f 1, f 2, f 3, f 4, f 5, f 6, f 7, f 8, f 9, f 10, f 11, f 12, f 13, f 14, f 15] 7),
   .int .u8 (za2 [f 0, f 1, f 2, f 3, f 4, f 5, f 6, f 7, f 8, f 9, f 10, f 11, f 12, f 13, f 14, f 15] 8),
   .int .u8 (za2 [f 0, f 1, f 2, f 3, f 4, f 5, f 6, f 7, f 8, f 9, f 10, f 11, f 12, f 13, f 14, f 15] 9),
   .int .u8 (za2 [f 0, f 1, f 2, f 3, f 4, f 5, f 6, f 7, f 8, f 9, f 10, f 11, f 12, f 13, f 14, f 15] 10),
   .int .u8 (za2 [f 0, f 1, f 2, f 3, f 4, f 5, f 6, f 7, f 8, f 9, f 10, f 11, f 12, f 13, f 14, f 15] 11),
   .int .u8 (za2 [f 0, f 1, f 2, f 3, f 4, f 5, f 6, f 7, f 8, f 9, f 10, f 11, f 12, f 13, f 14, f 15] 12),
   .int .u8 (za2 [f 0, f 1, f 2, f 3, f 4, f 5, f 6, f 7, f 8, f 9, f 10, f 11, f 12, f 13, f 14, f 15] 13),
   .int .u8 (za2 [f 0, f 1, f 2, f 3, f 4, f 5, f 6, f 7, f 8, f 9, f 10, f 11, f 12, f 13, f 14, f 15] 14),
   .int .u8 (za2 [f 0, f 1, f 2, f 3, f 4, f 5, f 6, f 7, f 8, f 9, f 10, f 11, f 12, f 13, f 14, f 15] 15)]) := by
 unfold p16
 simp only [sySet, L2, std]
 exact ⟨h 0 (by decide), h 1 (by decide), h 2 (by decide), h 3 (by decide), h 4 (by decide), h 5 (by decide), h 6 (by decide), h 7 (by decide), h 8 (by decide), h 9 (by decide), h 10 (by decide), h 11 (by decide), h 12 (by decide), h 13 (by decide), h 14 (by decide), h 15 (by decide), trivial⟩
theorem yfe (s : List UInt8) : zwg (.lst 1 1 fun i _ => .str (zdd [s] (Nat.add 0 i))) = zhd s := by
 have e : zoz (.lst 1 1 fun i _ => .str (zdd [s] (Nat.add 0 i))) = s := by
   show s ++ [] = s
   exact List.append_nil s
 rw [zwg, e, zhd]
theorem join_one (s : List UInt8) (h : s.length <= 1000000) : zg2 (.lst 1 1 fun i _ => .str (zdd [s] (Nat.add 0 i))) := by
 refine ⟨fun i _ => ⟨_, rfl⟩, by decide, ?_⟩
 show (s ++ []).length <= 1000000
 rw [List.append_nil]; exact h
theorem zo9 (s : List UInt8) : (zhd s).length = 32 := zug _
theorem ygg (s : List UInt8) : ∀ j, j < 16 -> za4 (List.take (Int.toNat 16) (zhd s)) (Nat.add 0 j) = za4 (zhd s) j := by
 intro j hj
 rw [show Nat.add 0 j = j from Nat.zero_add j, za4, za4, List.getD_eq_getElem?_getD, List.getD_eq_getElem?_getD, List.getElem?_take_of_lt (by show j < 16; omega)]
theorem zxb : zao Tryz.prog (zsi std) := by
 intro xs p r h hp
 dsimp only [zsi] at h |-
 split at h <;> cases h
 try simp only [L2, L3, std] at hp |-
 rename_i s
 have hl : s.length <= 1000000 := hp
 refine za6 (T := tt) (S := fun L => zad [zuc L]) (lo := noA) (lb := noA) 5 (fn := Tryz.f61) rfl rfl (by kernel_rfl) (by kernel_rfl) rfl zab (za1 ⟨zpy, trivial⟩) (by kernel_rfl) ?_
 (intro L P1 Q1 hL hP hQ; cbv; subst hL; simp only [L2, L3, std, syT]; subst hQ)
 rw [yfe]
 refine ⟨join_one s hl, ?_, ?_, yd0 (fun j => za4 (List.take (Int.toNat 16) (zhd s)) (Nat.add 0 j)) _ (ygg s)⟩
 · rw [ynt, slen, zo9]
   decide
 · rw [zcc, lenN, List.length_take, zo9]
   decide
end Sy
end Go.Proofs.YthppjaoicibeiaaGreatDoor
namespace Go.Proofs.YthppjaoicibeiaaGreatDoor
namespace Sy
open Go Go.RowKit
set_option maxRecDepth 100000
set_option linter.unusedSimpArgs false
set_option linter.unusedVariables false
abbrev B32 (a : Int) : BitVec IntKind.u32.bits := BitVec.ofInt IntKind.u32.bits a
def n32 (b : BitVec IntKind.u32.bits) : Int := b.toNat
theorem yw5 (b : BitVec IntKind.u32.bits) : IntKind.u32.wrap b.toNat = n32 b := by
 rw [yr9, n32]
 have : b.toNat < 2 ^ 32 := b.isLt
 omega
theorem ysb (a b : Int) : bor .u32 a b = n32 (B32 a ||| B32 b) := yw5 _
theorem or_comm (a b : Int) : bor .u32 a b = bor .u32 b a := by
 rw [ysb, ysb, BitVec.or_comm]
def hB (p : List UInt8) (a : Int) (n : Nat) : List Int := hS (yup p (a.toNat / 64)) (zps p (a.toNat / 64)) n
end Sy
end Go.Proofs.YthppjaoicibeiaaGreatDoor
namespace Go.Proofs.YthppjaoicibeiaaGreatDoor
namespace Sy
open Go Go.RowKit
set_option maxRecDepth 100000
set_option linter.unusedSimpArgs false
set_option linter.unusedVariables false
theorem yuz : (zhd [97, 98, 99]).take 4 = [186, 120, 22, 191] := by decide +kernel
theorem zyn : za9 Tryz.prog 107 [] (.bool true) := by
 refine za6 (T := tt) (S := fun L => zad [tru 134, zuc L, ygj L]) (lo := noA) (lb := noA) 5 (fn := Tryz.f107) rfl rfl (by kernel_rfl) (by kernel_rfl) rfl zab (za1 ⟨zbe zjb, zpy, zur, trivial⟩) (by kernel_rfl) ?_
 (intro L P1 Q1 hL hP hQ; cbv; subst hL; simp only [L2, L3, std, syT]; subst hQ)
 have e : zwg (.lst 1 2 fun i _ => .str (zdd [[97], [98, 99]] (Nat.add 0 i))) = zhd [97, 98, 99] := rfl
 have hb : zxg (zhd [97, 98, 99]) [186, 120, 22, 191] = true := by
   show (List.take 4 (zhd [97, 98, 99]) == [186, 120, 22, 191]) = true
   rw [yuz]; rfl
 rw [e, hb]
 refine ⟨trivial, fun _ => ⟨⟨?_, by decide, by decide⟩, ⟨?_, by decide⟩, fun _ => ⟨trivial, ?_⟩, fun h => by cases h⟩, fun h => by cases h⟩
 · intro i hi
   exact ⟨_, rfl⟩
 · rw [zo9]; decide
 · rw [zg6, slen, zuh]; rfl
end Sy
end Go.Proofs.YthppjaoicibeiaaGreatDoor
namespace Go.Proofs.YthppjaoicibeiaaGreatDoor
namespace Sy
open Go Go.RowKit
set_option maxRecDepth 100000
set_option linter.unusedSimpArgs false
set_option linter.unusedVariables false
def zz (a b : Int) : Prop := a = 0 /\ b = 0
def z1 (a : Int) : Prop := a = 0
def ylz (L : zaa) : zb4 := (157, fun xs => match xs with | [.nils, .int .i64 a, .int .i64 b, .fn f [] []] => some (L2 L zz a b, .tup []) | _ => none)
theorem yg1 : zao Tryz.prog (ylz std) := by
 intro xs p r h hp
 dsimp only [ylz] at h |-
 split at h <;> cases h
 try simp only [L2, L3, std] at hp |-
 rename_i a b f
 obtain ⟨rfl, rfl⟩ := hp
 refine za6 (T := tt) (S := noS) (lo := fun L => fun id st => match id with | 0 => some ⟨Nat, fun _ => [(8, .int .i64 1)], fun _ => [], [0, 1, 2, 3], [], fun _ => True, fun _ => 0⟩ | _ => none) (lb := noA) 5 (fn := Tryz.f157) rfl rfl (by kernel_rfl) (by kernel_rfl) rfl zab (zbh _) (by kernel_rfl) ?_
 intro L P' Q' hL hP hQ
 (cbv; try simp only [syT, true_and, and_true])
 refine ⟨⟨0, ?_⟩, fun i hi => ?_⟩
 · (cbv; try simp only [syT, true_and, and_true])
   subst hL
   rfl
 · (cbv; try simp only [syT, true_and, and_true])
   subst hL
   exact ⟨fun h => absurd h (by decide), fun _ => by subst hQ; exact trivial⟩
def ylx (L : zaa) : zb4 := (110, fun xs => match xs with | [.nils, .int .i64 a, .fn f [] []] => some (L z1 a, .tup []) | _ => none)
theorem yfz : zao Tryz.prog (ylx std) := by
 intro xs p r h hp
 dsimp only [ylx] at h |-
 split at h <;> cases h
 try simp only [L2, L3, std] at hp |-
 rename_i a f
 obtain rfl : a = 0 := hp
 refine za6 (T := tt) (S := fun L => zad [ylz L]) (lo := fun L => fun id st => match id with | 0 => some ⟨Nat, fun _ => [(7, .int .i64 0), (8, .int .i64 20)], fun _ => [], [0, 1, 2, 6], [], fun _ => True, fun _ => 0⟩ | 2 => some ⟨Nat, fun _ => [(6, .int .i64 20)], fun _ => [], [0, 1, 2], [], fun _ => True, fun _ => 0⟩ | _ => none) (lb := noA) 5 (fn := Tryz.f110) rfl rfl (by kernel_rfl) (by kernel_rfl) rfl zab (za1 ⟨yg1, trivial⟩) (by kernel_rfl) ?_
 intro L P' Q' hL hP hQ
 (cbv; try simp only [syT, true_and, and_true])
 refine ⟨⟨0, ?_⟩, fun i hi => ?_⟩
 · (cbv; try simp only [syT, true_and, and_true])
 · (cbv; try simp only [syT, true_and, and_true])
   refine ⟨fun h => by subst hL; exact absurd h (by decide), fun _ => ?_⟩
   refine ⟨by subst hL; exact ⟨rfl, rfl⟩, ⟨0, ?_⟩, fun j hj => ?_⟩
   · (cbv; try simp only [syT, true_and, and_true])
   · (cbv; try simp only [syT, true_and, and_true])
     subst hL
     exact ⟨fun h => absurd h (by decide), fun _ => by subst hQ; exact trivial⟩
def yly (L : zaa) : zb4 := (63, fun xs => match xs with | [.nils, .fn f [] []] => some (True, .tup []) | _ => none)
theorem yg0 : zao Tryz.prog (yly std) := by
 intro xs p r h hp
 dsimp only [yly] at h |-
 split at h <;> cases h
 try simp only [L2, L3, std] at hp |-
 refine za6 (T := tt) (S := fun L => zad [ylx L]) (lo := noA) (lb := noA) 5 (fn := Tryz.f63) rfl rfl (by kernel_rfl) (by kernel_rfl) rfl zab (za1 ⟨yfz, trivial⟩) (by kernel_rfl) ?_
 intro L P' Q' hL hP hQ
 (cbv; try simp only [syT, true_and, and_true])
 subst hL
 exact ⟨rfl, by subst hQ; exact trivial⟩
def ym0 (L : zaa) : zb4 := (39, fun xs => match xs with | [.nils] => some (True, .nils) | _ => none)
theorem yg2 : zao Tryz.prog (ym0 std) := by
 intro xs p r h hp
 dsimp only [ym0] at h |-
 split at h <;> cases h
 try simp only [L2, L3, std] at hp |-
 refine za6 (T := tt) (S := noS) (lo := noA) (lb := noA) 5 (fn := Tryz.f39) rfl rfl (by kernel_rfl) (by kernel_rfl) rfl zab (zbh _) (by kernel_rfl) ?_
 intro L P' Q' hL hP hQ
 (cbv; try simp only [syT, true_and, and_true])
 subst hQ
 exact ⟨fun _ => trivial, fun h => by cases h⟩
def ym3 (L : zaa) : zb4 := (159, fun xs => match xs with | [.nils, .int .i64 a, .int .i64 b, .fn f [] []] => some (L2 L zz a b, .tup []) | _ => none)
theorem yg5 : zao Tryz.prog (ym3 std) := by
 intro xs p r h hp
 dsimp only [ym3] at h |-
 split at h <;> cases h
 try simp only [L2, L3, std] at hp |-
 rename_i a b f
 obtain ⟨rfl, rfl⟩ := hp
 refine za6 (T := tt) (S := noS) (lo := fun L => fun id st => match id with | 0 => some ⟨Nat, fun _ => [(8, .int .i64 1)], fun _ => [], [0, 1, 2, 3], [], fun _ => True, fun _ => 0⟩ | _ => none) (lb := noA) 5 (fn := Tryz.f159) rfl rfl (by kernel_rfl) (by kernel_rfl) rfl zab (zbh _) (by kernel_rfl) ?_
 intro L P' Q' hL hP hQ
 (cbv; try simp only [syT, true_and, and_true])
 refine ⟨⟨0, ?_⟩, fun i hi => ?_⟩
 · (cbv; try simp only [syT, true_and, and_true])
   subst hL
   rfl
 · (cbv; try simp only [syT, true_and, and_true])
   subst hL
   exact ⟨fun h => absurd h (by decide), fun _ => by subst hQ; exact trivial⟩
def ym1 (L : zaa) : zb4 := (112, fun xs => match xs with | [.nils, .int .i64 a, .fn f [] []] => some (L z1 a, .tup []) | _ => none)
theorem yg3 : zao Tryz.prog (ym1 std) := by
 intro xs p r h hp
 dsimp only [ym1] at h |-
 split at h <;> cases h
 try simp only [L2, L3, std] at hp |-
 rename_i a f
 obtain rfl : a = 0 := hp
 refine za6 (T := tt) (S := fun L => zad [ym3 L]) (lo := fun L => fun id st => match id with | 0 => some ⟨Nat, fun _ => [(7, .int .i64 0), (8, .int .i64 20)], fun _ => [], [0, 1, 2, 6], [], fun _ => True, fun _ => 0⟩ | 2 => some ⟨Nat, fun _ => [(6, .int .i64 20)], fun _ => [], [0, 1, 2], [], fun _ => True, fun _ => 0⟩ | _ => none) (lb := noA) 5 (fn := Tryz.f112) rfl rfl (by kernel_rfl) (by kernel_rfl) rfl zab (za1 ⟨yg5, trivial⟩) (by kernel_rfl) ?_
 intro L P' Q' hL hP hQ
 (cbv; try simp only [syT, true_and, and_true])
 refine ⟨⟨0, ?_⟩, fun i hi => ?_⟩
 · (cbv; try simp only [syT, true_and, and_true])
 · (cbv; try simp only [syT, true_and, and_true])
   refine ⟨fun h => by subst hL; exact absurd h (by decide), fun _ => ?_⟩
   refine ⟨by subst hL; exact ⟨rfl, rfl⟩, ⟨0, ?_⟩, fun j hj => ?_⟩
   · (cbv; try simp only [syT, true_and, and_true])
   · (cbv; try simp only [syT, true_and, and_true])
     subst hL
     exact ⟨fun h => absurd h (by decide), fun _ => by subst hQ; exact trivial⟩
def ym2 (L : zaa) : zb4 := (66, fun xs => match xs with | [.nils, .fn f [] []] => some (True, .tup []) | _ => none)
theorem yg4 : zao Tryz.prog (ym2 std) := by
 intro xs p r h hp
 dsimp only [ym2] at h |-
 split at h <;> cases h
 try simp only [L2, L3, std] at hp |-
 refine za6 (T := tt) (S := fun L => zad [ym1 L]) (lo := noA) (lb := noA) 5 (fn := Tryz.f66) rfl rfl (by kernel_rfl) (by kernel_rfl) rfl zab (za1 ⟨yg3, trivial⟩) (by kernel_rfl) ?_
 intro L P' Q' hL hP hQ
 (cbv; try simp only [syT, true_and, and_true])
 subst hL
 exact ⟨rfl, by subst hQ; exact trivial⟩
def ym4 (L : zaa) : zb4 := (40, fun xs => match xs with | [.nils] => some (True, .nils) | _ => none)
theorem yg6 : zao Tryz.prog (ym4 std) := by
 intro xs p r h hp
 dsimp only [ym4] at h |-
 split at h <;> cases h
 try simp only [L2, L3, std] at hp |-
 refine za6 (T := tt) (S := noS) (lo := noA) (lb := noA) 5 (fn := Tryz.f40) rfl rfl (by kernel_rfl) (by kernel_rfl) rfl zab (zbh _) (by kernel_rfl) ?_
 intro L P' Q' hL hP hQ
 (cbv; try simp only [syT, true_and, and_true])
 subst hQ
 exact ⟨fun _ => trivial, fun h => by cases h⟩
def e11 (L : zaa) : AV := .agg [.int .u64 0, .nils, .nils]
def yph (L : zaa) : zb4 := (13, fun xs => match xs with | [.agg [.int .u64 n, .nils, .nils]] => some (L z1 n, e11 L) | _ => none)
theorem yit : zao Tryz.prog (yph std) := by
 intro xs p r h hp
 dsimp only [yph] at h |-
 split at h <;> cases h
 try simp only [L2, L3, std] at hp |-
 rename_i n
 obtain rfl : n = 0 := hp
 refine za6 (T := tt) (S := fun L => zad [ym0 L, ym4 L]) (lo := fun L => fun id st => match id with | 0 => some ⟨Nat, fun _ => [(16, .int .i64 0)], fun _ => [], [1, 2, 15], [1, 2], fun _ => True, fun _ => 0⟩ | 2 => some ⟨Nat, fun _ => [(35, .int .i64 0)], fun _ => [], [1, 2, 34], [1, 2], fun _ => True, fun _ => 0⟩ | _ => none) (lb := noA) 5 (fn := Tryz.f13) rfl rfl (by kernel_rfl) (by kernel_rfl) rfl zab (za1 ⟨yg2, yg6, trivial⟩) (by kernel_rfl) ?_
 intro L P' Q' hL hP hQ
 (cbv; try simp only [syT, true_and, and_true])
 refine ⟨⟨0, ?_⟩, fun i hi => ?_⟩
 · (cbv; try simp only [syT, true_and, and_true])
 · (cbv; try simp only [syT, true_and, and_true])
   refine ⟨fun h => by subst hL; exact absurd h (by decide), fun _ => ⟨⟨0, ?_⟩, fun j hj => ?_⟩⟩
   · (cbv; try simp only [syT, true_and, and_true])
   · (cbv; try simp only [syT, true_and, and_true])
     subst hL; subst hQ
     exact ⟨fun h => absurd h (by decide), fun _ => ⟨rfl, trivial⟩⟩
def ydt (L : zaa) : zb4 := (24, fun xs => match xs with | [.agg [.int .u64 n, .nils, .nils]] => some (L z1 n, e11 L) | _ => none)
theorem ydu : zao Tryz.prog (ydt std) := by
 intro xs p r h hp
 dsimp only [ydt] at h |-
 split at h <;> cases h
 try simp only [L2, L3, std] at hp |-
 rename_i n
 obtain rfl : n = 0 := hp
 refine za6 (T := tt) (S := fun L => zad [yph L, yly L, ym2 L]) (lo := fun L => fun id st => match id with | 0 => some ⟨Nat, fun _ => [(17, .int .i64 0)], fun _ => [], [1, 2, 16], [1, 2], fun _ => True, fun _ => 0⟩ | _ => none) (lb := noA) 5 (fn := Tryz.f24) rfl rfl (by kernel_rfl) (by kernel_rfl) rfl zab (za1 ⟨yit, yg0, yg4, trivial⟩) (by kernel_rfl) ?_
 intro L P' Q' hL hP hQ
 (cbv; try simp only [syT, true_and, and_true])
 refine ⟨by subst hL; exact rfl, ⟨0, ?_⟩, fun i hi => ?_⟩
 · (cbv; try simp only [syT, true_and, and_true])
 · (cbv; try simp only [syT, true_and, and_true])
   subst hL; subst hQ
   exact ⟨fun h => absurd h (by decide), fun _ => ⟨rfl, trivial⟩⟩
noncomputable def yn0 (L : zaa) : zb4 := (22, fun xs => match xs with | [.agg [.int .u64 n, .nils, .nils]] => some (L z1 n, .tup [p16 L (L zhd (L cfT c0)), .int .i64 0]) | _ => none)
theorem ygm : zao Tryz.prog (yn0 std) := by
 intro xs p r h hp
 dsimp only [yn0] at h |-
 split at h <;> cases h
 try simp only [L2, L3, std] at hp |-
 rename_i n
 obtain rfl : n = 0 := hp
 refine za6 (T := tt) (S := fun L => zad [ydt L, ye9 L, zsi L]) (lo := noA) (lb := noA) 5 (fn := Tryz.f22) rfl rfl (by kernel_rfl) (by kernel_rfl) rfl zab (za1 ⟨ydu, zpm, zxb, trivial⟩) (by kernel_rfl) ?_
 intro L P' Q' hL hP hQ
 (cbv; try simp only [syT, true_and, and_true])
 refine ⟨by subst hL; exact rfl, by subst hL; exact ⟨zv1 0, zoa ⟨by decide, by decide⟩⟩, fun h => ?_, fun _ => ⟨?_, ?_⟩⟩
 · subst hL
   refine absurd h ?_
   simp only [std, zq9]
   rw [(zrb zjc).1]; decide
 · subst hL
   simp only [std, zq9]
   rw [(zrb zjc).2]
   exact (by decide : (8 : Nat) <= 1000000)
 · (subst hL; subst hQ; simp only [L2, L3, std] at *; try simp only [syS, reduceCtorEq, Int.reduceToNat, Int.reduceAdd, Int.reduceSub] at *)
   rw [zq9]
   exact yd0 (fun j => za4 (zhd (cfT c0)) j) _ (fun _ _ => rfl)
theorem yjd : za9 Tryz.prog 59 [] (.bool true) := by
 refine za6 (T := tt) (S := fun L => zad [tru 107]) (lo := noA) (lb := noA) 5 (fn := Tryz.f59) rfl rfl (by kernel_rfl) (by kernel_rfl) rfl zab (za1 ⟨zbe zyn, trivial⟩) (by kernel_rfl) ?_
 (intro L P1 Q1 hL hP hQ; cbv; subst hL; simp only [L2, L3, std, syT]; subst hQ)
 (simp only [syS, reduceCtorEq, Int.reduceToNat, Int.reduceAdd, Int.reduceSub])
theorem hex0 : zjp [0, 0, 0, 0, 0, 0, 0, 0, 0, 0, 0, 0, 0, 0, 0, 0] = [48, 48, 48, 48, 48, 48, 48, 48, 48, 48, 48, 48, 48, 48, 48, 48, 48, 48, 48, 48, 48, 48, 48, 48, 48, 48, 48, 48, 48, 48, 48, 48] := by decide +kernel
theorem yq1 (q : List UInt8) (j : Nat) : 0 <= za4 q j /\ za4 q j < 256 := by
 unfold za4
 have := (q.getD j 0).toNat_lt
 omega
theorem ysa (q : List UInt8) : zm7 [za4 q 0, za4 q 1, za4 q 2, za4 q 3, za4 q 4, za4 q 5, za4 q 6, za4 q 7, za4 q 8, za4 q 9, za4 q 10, za4 q 11, za4 q 12, za4 q 13, za4 q 14, za4 q 15] := by
 refine ⟨rfl, fun x hx => ?_⟩
 simp only [List.mem_cons, List.not_mem_nil, or_false] at hx
 rcases hx with rfl | rfl | rfl | rfl | rfl | rfl | rfl | rfl | rfl | rfl | rfl | rfl | rfl | rfl | rfl | rfl <;> exact yq1 q _
theorem yq0 : ¬ za4 (zhd [3, 3, 1, 0, 3, 0, 3, 0]) 0 = 0 := by decide +kernel
theorem zyj : za9 Tryz.prog 21 [] (.bool true) := by
 refine za6 (T := tt) (S := fun L => zad [yn0 L, yi4 L, yf5 L, tru 59, tru 60]) (lo := noA) (lb := noA) 5 (fn := Tryz.f21) rfl rfl (by kernel_rfl) (by kernel_rfl) rfl zab (za1 ⟨ygm, zvu, zu5, zbe yjd, zbe yjb, trivial⟩) (by kernel_rfl) ?_
 intro L P' Q' hL hP hQ
 (cbv; try simp only [syT, true_and, and_true])
 (subst hL; subst hQ; simp only [L2, L3, std] at *; try simp only [syS, reduceCtorEq, Int.reduceToNat, Int.reduceAdd, Int.reduceSub] at *)
 rw [e16 (by rfl), hex0]
 have h2 : cfT c0 = [3, 3, 1, 0, 3, 0, 3, 0] := (zrb zjc).2
 have h3 : zpv [za4 (zhd (cfT c0)) 0, za4 (zhd (cfT c0)) 1, za4 (zhd (cfT c0)) 2, za4 (zhd (cfT c0)) 3, za4 (zhd (cfT c0)) 4, za4 (zhd (cfT c0)) 5, za4 (zhd (cfT c0)) 6, za4 (zhd (cfT c0)) 7, za4 (zhd (cfT c0)) 8, za4 (zhd (cfT c0)) 9, za4 (zhd (cfT c0)) 10, za4 (zhd (cfT c0)) 11, za4 (zhd (cfT c0)) 12, za4 (zhd (cfT c0)) 13, za4 (zhd (cfT c0)) 14, za4 (zhd (cfT c0)) 15] = false := by
   rw [h2, zpv, List.all_cons, decide_eq_false yq0, Bool.false_and]
 exact ⟨rfl, ⟨rfl, by decide⟩, fun _ => ⟨ysa _, h3⟩, rfl⟩
end Sy
end Go.Proofs.YthppjaoicibeiaaGreatDoor
namespace Go.Proofs.YthppjaoicibeiaaGreatDoor
namespace Sy
open Go Go.RowKit
set_option maxRecDepth 100000
set_option linter.unusedSimpArgs false
set_option linter.unusedVariables false
theorem ydf {n : Int} (h : 0 <= n /\ n < 16) : zw0 (zpu n) = n /\ 0 <= zpu n /\ zpu n < 256 := by
 obtain ⟨m, rfl⟩ := Int.eq_ofNat_of_zero_le h.1
 have hm : m < 16 := by omega
 have key : ∀ m : _root_.Fin 16, zw0 (zpu (m.val : Int)) = (m.val : Int) /\ 0 <= zpu (m.val : Int) /\ zpu (m.val : Int) < 256 := by decide +kernel
 exact key ⟨m, hm⟩
theorem ycp {c : Int} (h : 0 <= c /\ c < 256) (hd : zw0 c <= 15) : zpu (zw0 c) = c := by
 obtain ⟨m, rfl⟩ := Int.eq_ofNat_of_zero_le h.1
 have hm : m < 256 := by omega
 have key : ∀ m : _root_.Fin 256, zw0 (m.val : Int) <= 15 -> zpu (zw0 (m.val : Int)) = (m.val : Int) := by decide +kernel
 exact key ⟨m, hm⟩ hd
theorem ycq {l : List Int} (h : zm7 l) {i : Nat} (hi : i < 16) : zhf (zjp l) (2 * i) = za2 l i / 16 /\ zhf (zjp l) (2 * i + 1) = za2 l i % 16 := by
 have hl : (zmg l).length = 32 := by rw [zgk, h.1]
 have hn := n16 h hi
 obtain ⟨e0, e1⟩ := zp6 l i (by rw [h.1]; exact hi)
 have key : ∀ q, q < 32 -> 0 <= za2 (zmg l) q /\ za2 (zmg l) q < 256 -> ze2 (zjp l) q = za2 (zmg l) q := by
   intro q hq hb
   have hq2 : q < (zmg l).length := by omega
   unfold ze2 zjp
   rw [Int.toNat_natCast, List.getD_eq_getElem?_getD, List.getElem?_map]
   rw [za2, List.getD_eq_getElem?_getD] at hb |-
   rw [List.getElem?_eq_getElem hq2] at hb |-
   simp only [Option.map_some, Option.getD_some] at hb |-
   rw [UInt8.toNat_ofNat']
   omega
 have d0 := ydf (n := za2 l i / 16) (by omega)
 have d1 := ydf (n := za2 l i % 16) (by omega)
 refine ⟨?_, ?_⟩
 · unfold zhf
   rw [key _ (by omega) (by rw [e0]; exact d0.2), e0, d0.1]
 · unfold zhf
   rw [key _ (by omega) (by rw [e1]; exact d1.2), e1, d1.1]
theorem zp5 {l : List Int} (h : zm7 l) : (zjp l).length = 32 := by
 unfold zjp
 rw [List.length_map, zgk, h.1]
theorem znc {l : List Int} (h : zm7 l) : zcv (zjp l) = true := by
 refine zuo (zp5 h) fun q hq => ?_
 obtain ⟨i, hi⟩ : ∃ i, q = 2 * i \/ q = 2 * i + 1 := ⟨q / 2, by omega⟩
 have := ycq h (i := i) (by omega)
 have := n16 h (i := i) (by omega)
 rcases hi with rfl | rfl <;> omega
theorem yhv {l : List Int} (h : zm7 l) : zjf (zjp l) = l := by
 have hr := znc h
 apply List.ext_getElem
 · rw [zjf, if_pos hr, List.length_map, List.length_range, h.1]
 · intro i h1 h2
   have hi : i < 16 := by rw [h.1] at h2; exact h2
   have e : za2 (zjf (zjp l)) i = za2 l i := by
     have hh := ycq h hi
     have hn := n16 h hi
     rw [zod hr hi, ys7]
     omega
   rw [za2, za2, List.getD_eq_getElem?_getD, List.getD_eq_getElem?_getD, List.getElem?_eq_getElem h1, List.getElem?_eq_getElem h2] at e
   exact e
def yqt (c : Int) : Bool := (decide (48 <= c) && decide (c <= 57)) || (decide (97 <= c) && decide (c <= 102))
theorem yob (c : Int) : yqt c = decide (zw0 c <= 15) := by
 unfold yqt zw0
 rw [Bool.eq_iff_iff]
 simp only [Bool.or_eq_true, Bool.and_eq_true, decide_eq_true_eq]
 repeat' split
 all_goals omega
def riZ (s : List UInt8) (i : Nat) : Bool := decide (s.length = 32) && (s.take i).all fun b => yqt (b.toNat : Int)
theorem ri_0 (s : List UInt8) : riZ s 0 = decide (s.length = 32) := by simp [riZ]
theorem ri_s {s : List UInt8} {i : Nat} (h : i < s.length) : riZ s (i + 1) = (riZ s i && yqt (ze2 s i)) := by
 unfold riZ
 rw [List.take_succ_eq_append_getElem h, List.all_append, Bool.and_assoc]
 congr 2
 unfold ze2
 rw [Int.toNat_natCast, List.getD_eq_getElem?_getD, List.getElem?_eq_getElem h]
 simp
theorem ys0 (s : List UInt8) : riZ s s.length = zcv s := by
 unfold riZ zcv
 rw [List.take_length]
 by_cases hl : s.length = 32
 · rw [decide_eq_true hl, Bool.true_and, Bool.true_and, Bool.eq_iff_iff, List.all_eq_true, List.all_eq_true]
   have hc : ∀ q (hq : q < s.length), yqt ((s[q]'hq).toNat : Int) = decide (zhf s q <= 15) := by
     intro q hq
     rw [yob]
     unfold zhf ze2
     rw [Int.toNat_natCast, List.getD_eq_getElem?_getD, List.getElem?_eq_getElem hq]; rfl
   constructor
   · intro h q hq
     have hq2 : q < s.length := by rw [hl]; exact List.mem_range.1 hq
     rw [<- hc q hq2]
     exact h _ (List.getElem_mem _)
   · intro h x hx
     obtain ⟨q, hq, rfl⟩ := List.getElem_of_mem hx
     rw [hc q hq]
     exact h q (List.mem_range.2 (by omega))
 · rw [decide_eq_false hl, Bool.false_and, Bool.false_and]
theorem ymt {s : List UInt8} (h : zcv s = true) : zm7 (zjf s) /\ zjp (zjf s) = s := by
 have h2 := h
 unfold zcv at h2
 simp only [Bool.and_eq_true, decide_eq_true_eq, List.all_eq_true, List.mem_range] at h2
 obtain ⟨hl, hd⟩ := h2
 have hlen : (zjf s).length = 16 := by rw [zjf, if_pos h]; simp
 have hok : zm7 (zjf s) := by
   refine ⟨hlen, fun x hx => ?_⟩
   rw [zjf, if_pos h, List.mem_map] at hx
   obtain ⟨i, hi, rfl⟩ := hx
   have hi := List.mem_range.1 hi
   have a0 := zj6 s (2 * i)
   have a1 := zj6 s (2 * i + 1)
   have b0 := hd (2 * i) (by omega)
   have b1 := hd (2 * i + 1) (by omega)
   unfold ys7
   omega
 refine ⟨hok, ?_⟩
 apply List.ext_getElem
 · rw [zp5 hok, hl]
 · intro q h1 h2
   have hq : q < 32 := by rw [hl] at h2; exact h2
   obtain ⟨i, hi⟩ : ∃ i, q = 2 * i \/ q = 2 * i + 1 := ⟨q / 2, by omega⟩
   have hi16 : i < 16 := by omega
   obtain ⟨e0, e1⟩ := zp6 (zjf s) i (by rw [hlen]; exact hi16)
   have a0 := zj6 s (2 * i)
   have a1 := zj6 s (2 * i + 1)
   have b0 := hd (2 * i) (by omega)
   have b1 := hd (2 * i + 1) (by omega)
   have hv : za2 (zjf s) i = zhf s (2 * i) * 16 + zhf s (2 * i + 1) := zod h hi16
   have key : za2 (zmg (zjf s)) q = ze2 s q := by
     rcases hi with rfl | rfl
     · rw [e0, hv, show (zhf s (2 * i) * 16 + zhf s (2 * i + 1)) / 16 = zhf s (2 * i) by omega]
       exact ycp (zks _ _) b0
     · rw [e1, hv, show (zhf s (2 * i) * 16 + zhf s (2 * i + 1)) % 16 = zhf s (2 * i + 1) by omega]
       exact ycp (zks _ _) b1
   have hq3 : q < (zmg (zjf s)).length := by rw [zgk, hlen]; omega
   have e : (zjp (zjf s))[q] = UInt8.ofNat ((zmg (zjf s))[q]'hq3).toNat := List.getElem_map _
   rw [e]
   rw [za2, List.getD_eq_getElem?_getD, List.getElem?_eq_getElem hq3] at key
   simp only [Option.getD_some] at key
   rw [key]
   simp [ze2, h2]
end Sy
end Go.Proofs.YthppjaoicibeiaaGreatDoor
namespace Go.Proofs.YthppjaoicibeiaaGreatDoor
namespace Sy
open Go
theorem okWide_arr {P : Program} {w : World} {r : Reach} {base : Nat} {t e : TypeId} {n : Nat} {v : Value} (ht : P.underlying t = some (.array n e)) (h : Value.okWide P w r base t v) : ∃ cs, v = .agg cs /\ cs.size = P.cellsOf t := by
 simp only [Value.okWide, ht] at h
 obtain ⟨cs, h1, h2, _⟩ := h
 exact ⟨cs, h1, h2⟩
end Sy
end Go.Proofs.YthppjaoicibeiaaGreatDoor
